/-
  AH 12: append, copy, clear.
-/
import Derived.Test.YtognbiffhgpoaaaGreatAh11
set_option linter.unusedSimpArgs false
set_option linter.unusedVariables false
namespace AH
open Go
noncomputable section

theorem srcQ_sound (P : Program) {ρ : Nat → Loc} {σ : St} {w : World} (hR : Rel ρ σ w) {size : Nat} {x : Value} {n : Nat} {new : List Value} (h : srcQ σ size x = some (n, new)) :
    new.length = n * size ∧ Scs σ.next new ∧ (∀ w, (Builtin.lenOf (ren ρ x)).run P w = .ok n w) ∧
    ∀ m, m ≤ n → (Builtin.firstCells size m (ren ρ x)).run P w = .ok ((new.take (m * size)).map (ren ρ)).toArray w := by
  unfold srcQ at h
  split at h
  · split at h
    · rename_i h0
      simp only [Option.some.injEq, Prod.mk.injEq] at h
      obtain ⟨rfl, rfl⟩ := h
      exact ⟨by simp, fun v hv => by simp at hv, fun w => by simp [Builtin.lenOf, h0], fun m hm => by simp [Builtin.firstCells]⟩
    · cases h
  · rename_i b k c
    split at h
    · rename_i l hl
      simp only [Option.some.injEq, Prod.mk.injEq] at h
      obtain ⟨rfl, rfl⟩ := h
      obtain ⟨hs, hlen, _⟩ := ldCells_spec hl
      refine ⟨hlen, ldCells_sc hR hl, fun w => by simp [Builtin.lenOf], fun m hm => ?_⟩
      have hmn : m * size ≤ k * size := Nat.mul_le_mul_right _ hm
      have := run_ldCells (ρ := ρ) (w := w) P hs (l := l.take (m * size)) (fun j v hj => Hold.at_of_in hR (ldCells_get hl (by
        rw [List.getElem?_take] at hj
        split at hj
        · exact hj
        · cases hj)))
      simp only [List.length_take, hlen, Nat.min_eq_left hmn] at this
      simp only [ren_slice, Builtin.firstCells, this]
    · cases h
  · rename_i s
    split at h
    · rename_i h1
      simp only [Option.some.injEq, Prod.mk.injEq] at h
      obtain ⟨rfl, rfl⟩ := h
      subst h1
      refine ⟨by simp, fun v hv => by simp only [List.mem_map] at hv; obtain ⟨b, _, rfl⟩ := hv; simp, fun w => by simp [Builtin.lenOf], fun m hm => ?_⟩
      simp only [ren_string, Builtin.firstCells, Sem.run_pure, mkStr_extract, mkStr]
      congr 1
      apply Array.ext'
      simp [List.map_take, Function.comp_def]
    · cases h
  · cases h

theorem growBy_le (need : Nat) : ∀ (r c : Nat), c ≤ need + (need + 768) / 4 → Builtin.growBy need r c ≤ need + (need + 768) / 4
  | 0, c, h => by simpa [Builtin.growBy] using h
  | r + 1, c, h => by
    simp only [Builtin.growBy]
    split
    · exact h
    · exact growBy_le need r _ (by omega)

theorem nextslicecap_le {need cap : Nat} (h : cap < need) : Builtin.nextslicecap need cap ≤ 8 * need + 4096 := by
  unfold Builtin.nextslicecap
  split
  · omega
  · split
    · omega
    · have := growBy_le need 4 cap (by omega)
      omega

/-- What an append brings, in the model: so many elements and their cells. -/
def Brings (P : Program) (e : TypeId) (d : TypeDesc) (size : Nat) (x : Value) (n : Nat) (new : Array Value) (w : World) : Prop :=
  (((∃ e2, d = .slice e2) ∨ d = .string) ∧ (∀ w, (Builtin.lenOf x).run P w = .ok n w) ∧ (Builtin.firstCells size n x).run P w = .ok new w)
  ∨ (∃ k k' z zv info, d = .int k ∧ x = .int k' z ∧ IntKind.i64.wrap z = (n : Int) ∧ (∀ w, (zeroValue e).run P w = .ok zv w) ∧ (∀ w, (typeInfo e).run P w = .ok info w) ∧ (n : Int) * info.bytes ≤ 2 ^ 48 ∧ new = if n * size = 0 then #[] else Builtin.zeroCells zv.cells n)

theorem zeroCells_length (z : Array Value) (n : Nat) : (Builtin.zeroCells z n).toList.length = n * z.size := by
  simp [Builtin.zeroCells]

theorem zeroCells_repl (E : Env) {t : Nat} {i : TyI} (ht : E.ty t = some i) (n : Nat) : (Builtin.zeroCells i.zero.cells n).toList = repl n i.zero.cells.toList := by
  have hz := zero_size E ht
  by_cases h0 : i.size = 0
  · have e1 : (Builtin.zeroCells i.zero.cells n).toList = [] := List.eq_nil_of_length_eq_zero (by rw [zeroCells_length, hz, h0]; simp)
    have e2 : repl n i.zero.cells.toList = [] := List.eq_nil_of_length_eq_zero (by rw [repl_length]; simp [hz, h0])
    rw [e1, e2]
  · have := repl_spec i.zero.cells.toList n (by simp only [Array.length_toList, hz]; omega)
    rw [← this]
    simp only [Builtin.zeroCells, Array.length_toList, Array.toArray_toList]

theorem srcZ_sound (E : Env) {e : TypeId} {j : TyI} (he : E.ty e = some j) {ρ : Nat → Loc} {σ : St} {w : World} (hR : Rel ρ σ w) {d : TypeDesc} {x : Value} {n : Nat} {new : List Value} (hd : (match d with | .slice _ => true | .string => true | .int _ => true | _ => false) = true)
    (h : srcZ σ d j x = some (n, new)) :
    new.length = n * j.size ∧ Scs σ.next new ∧ ∀ w₂, Rel ρ σ w₂ → Brings E.P e d j.size (ren ρ x) n (new.map (ren ρ)).toArray w₂ := by
  have other : srcZ σ d j x = srcQ σ j.size x → ((∃ e2, d = .slice e2) ∨ d = .string) → new.length = n * j.size ∧ Scs σ.next new ∧ ∀ w₂, Rel ρ σ w₂ → Brings E.P e d j.size (ren ρ x) n (new.map (ren ρ)).toArray w₂ := by
    intro heq hor
    rw [heq] at h
    obtain ⟨h1, h2, h3, _⟩ := srcQ_sound E.P hR h
    refine ⟨h1, h2, fun w₂ h₂ => .inl ⟨hor, h3, ?_⟩⟩
    obtain ⟨_, _, _, h4⟩ := srcQ_sound E.P h₂ h
    have := h4 n (Nat.le_refl _)
    rwa [← h1, List.take_length] at this
  cases d with
  | slice e2 => exact other rfl (.inl ⟨_, rfl⟩)
  | string => exact other rfl (.inr rfl)
  | int k =>
    cases x with
    | int k' z =>
      simp only [srcZ] at h
      by_cases hz : 0 ≤ z ∧ z ≤ 1048576 ∧ j.bytes ≤ 1048576
      · rw [if_pos hz] at h
        obtain ⟨h0, h1, hb⟩ := hz
        simp only [Option.some.injEq, Prod.mk.injEq] at h
        obtain ⟨rfl, rfl⟩ := h
        refine ⟨by rw [repl_length, Array.length_toList, zero_size E he], repl_sc (zero_scs E he _) _, fun w₂ _ => .inr ?_⟩
        obtain ⟨_, _, _, info, hi, _⟩ := E.tyOk e j he
        obtain ⟨info', hi', _, hib, _⟩ := run_info E he w₂
        have heq : info' = info := by simp [typeInfo, hi] at hi'; exact hi'.symm
        subst heq
        refine ⟨k, k', z, j.zero, info', rfl, by simp, ?_, fun w => run_zero E he w, fun w => by simp [typeInfo, hi], ?_, ?_⟩
        · rw [IntWalk.i64_in _ (by omega)]; omega
        · rw [hib]
          have h2 : z.toNat * j.bytes ≤ 1048576 * 1048576 := Nat.mul_le_mul (by omega) hb
          have h3 : ((z.toNat * j.bytes : Nat) : Int) ≤ 1048576 * 1048576 := by omega
          rw [Int.natCast_mul] at h3
          omega
        · rw [repl_ren E he]
          split
          · rename_i hn0
            have : repl z.toNat j.zero.cells.toList = [] := List.eq_nil_of_length_eq_zero (by rw [repl_length, Array.length_toList, zero_size E he]; exact hn0)
            rw [this]
          · apply Array.ext'
            rw [zeroCells_repl E he]
      · rw [if_neg hz] at h; cases h
    | _ => simp only [srcZ] at h; cases h
  | _ => cases hd

section
variable {P : Program} {t tx e : Nat} {d : TypeDesc} {size : Nat} {s x : Value} {n : Nat} {new : Array Value} {w : World}

theorem run_append_room (ht : P.underlying t = some (.slice e)) (htx : P.underlying tx = some d) (hsz : ∀ w, (Go.sizeOf e).run P w = .ok size w)
    (hbr : Brings P e d size x n new w) (ty : Nat) {base : Option Addr} {len cap : Nat} (hroom : len + n ≤ cap) {w' : World}
    (hst : match base with | some a => (storeCells (a.add (len * size)) new.toList).run P w = .ok () w' | none => w' = w) :
    (Builtin.append_ #[t, tx] ty #[.slice base len cap, x]).run P w = .ok (.slice base (len + n) cap) w' := by
  have hu := run_underlying ht
  have hux := run_underlying htx
  unfold Builtin.append_
  rcases hbr with ⟨hd, hlen, hnew⟩ | ⟨k, k', z, zv, info, rfl, rfl, hw, hzv, hinfo, hbytes, rfl⟩
  · rcases hd with ⟨e2, rfl⟩ | rfl
    all_goals
      cases base with
      | none =>
        simp only at hst
        subst hst
        simp only [List.getElem?_toArray, List.getElem?_cons_zero, List.getElem?_cons_succ, Sem.run_bind, hu, Result.andThen_ok, hsz, hux, Sem.run_pure, Bool.false_eq_true, if_false, hlen, hroom, if_true, Bool.not_false, hnew]
      | some a =>
        simp only at hst
        simp only [List.getElem?_toArray, List.getElem?_cons_zero, List.getElem?_cons_succ, Sem.run_bind, hu, Result.andThen_ok, hsz, hux, Sem.run_pure, Bool.false_eq_true, if_false, hlen, hroom, if_true, Bool.not_false, hnew, hst]
  · have hneg : ¬ ((n : Int) < 0) := by omega
    have hby : ¬ ((n : Int) * info.bytes > 2 ^ 48) := by omega
    have hai : (asInt (.int k' z)).run P w = .ok z w := rfl
    cases base with
    | none =>
      simp only at hst
      subst hst
      by_cases h0 : n * size = 0 <;>
      simp only [List.getElem?_toArray, List.getElem?_cons_zero, List.getElem?_cons_succ, Sem.run_bind, hu, Result.andThen_ok, hsz, hux, Sem.run_pure, if_true, hai, hw, if_neg hneg, hinfo, if_neg hby, Int.toNat_natCast, hroom, Bool.not_true, Bool.false_eq_true, if_false, h0, hzv]
    | some a =>
      simp only at hst
      by_cases h0 : n * size = 0
      · simp only [if_pos h0] at hst
        simp only [List.getElem?_toArray, List.getElem?_cons_zero, List.getElem?_cons_succ, Sem.run_bind, hu, Result.andThen_ok, hsz, hux, Sem.run_pure, if_true, hai, hw, if_neg hneg, hinfo, if_neg hby, Int.toNat_natCast, hroom, Bool.not_true, Bool.false_eq_true, if_false, h0, hzv, hst]
      · simp only [if_neg h0] at hst
        simp only [List.getElem?_toArray, List.getElem?_cons_zero, List.getElem?_cons_succ, Sem.run_bind, hu, Result.andThen_ok, hsz, hux, Sem.run_pure, if_true, hai, hw, if_neg hneg, hinfo, if_neg hby, Int.toNat_natCast, hroom, Bool.not_true, Bool.false_eq_true, if_false, h0, hzv, hst]

theorem run_append_grow (ht : P.underlying t = some (.slice e)) (htx : P.underlying tx = some d) (hsz : ∀ w, (Go.sizeOf e).run P w = .ok size w)
    {info : TypeInfo} (hinfo : ∀ w, (typeInfo e).run P w = .ok info w) {z : Value} (hz : ∀ w, (zeroValue e).run P w = .ok z w) {base : Option Addr} {len cap : Nat} {old : Array Value}
    (hroom : cap < len + n) (hb : info.bytes ≠ 0) (hcap : Builtin.nextslicecap (len + n) cap * info.bytes ≤ 2 ^ 48) (hfit : len + n ≤ 4611686018427387904) {newCap : Nat} (hnc : newCap = (Question.appendCap (len + n) cap e).cut (w.tape w.drawn (.appendCap (len + n) cap e)))
    (hbr : Brings P e d size x n new w.drew) (hold : (Builtin.firstCells size len (.slice base len cap)).run P w.drew = .ok old w.drew) (ty : Nat) :
    (Builtin.append_ #[t, tx] ty #[.slice base len cap, x]).run P w = .ok (.slice (some ⟨w.heap.size, 0, none⟩) (len + n) newCap) (w.drew.alloc (.cells (old ++ new ++ Builtin.zeroCells z.cells (newCap - (len + n))) e)) := by
  have hu := run_underlying ht
  have hux := run_underlying htx
  have h1 : ¬ (len + n ≤ cap) := by omega
  have h2 : ¬ (Builtin.nextslicecap (len + n) cap * info.bytes > 2 ^ 48) := by omega
  have h3 : ¬ (((len + n : Nat) : Int) > IntKind.i64.max) := by
    have : IntKind.i64.max = 9223372036854775807 := rfl
    omega
  subst hnc
  have hch : ∀ w, (choose (.appendCap (len + n) cap e)).run P w = .ok ((Question.appendCap (len + n) cap e).cut (w.tape w.drawn (.appendCap (len + n) cap e))) w.drew := fun w => by
    rw [run_choose]; simp [Question.forced]
  unfold Builtin.append_
  rcases hbr with ⟨hd, hlen, hnew⟩ | ⟨k, k', zz, zv, info', rfl, rfl, hw, hzv, hinfo', hbytes, rfl⟩
  · rcases hd with ⟨e2, rfl⟩ | rfl
    all_goals
      simp only [List.getElem?_toArray, List.getElem?_cons_zero, List.getElem?_cons_succ, Sem.run_bind, hu, Result.andThen_ok, hsz, hux, Sem.run_pure, Bool.false_eq_true, if_false, hlen, h1, hinfo, hb, or_self, and_false, h2, hch, run_askRoom, hold, Bool.not_false, if_true, hnew, hz, newRow, run_newObj, World.size_drew]
      rfl
  · have hneg : ¬ ((n : Int) < 0) := by omega
    have hai : ∀ w, (asInt (.int k' zz)).run P w = .ok zz w := fun _ => rfl
    have hie : info' = info := by
      have a := hinfo w
      rw [hinfo' w] at a
      simpa using a
    subst hie
    have hby : ¬ ((n : Int) * info'.bytes > 2 ^ 48) := by omega
    by_cases h0 : n * size = 0
    · simp only [List.getElem?_toArray, List.getElem?_cons_zero, List.getElem?_cons_succ, Sem.run_bind, hu, Result.andThen_ok, hsz, hux, Sem.run_pure, if_true, hai, hw, if_neg hneg, hinfo, if_neg hby, Int.toNat_natCast, h1, Bool.not_true, Bool.false_eq_true, if_false, h3, false_and, h2, hch, run_askRoom, hold, h0, hz, newRow, run_newObj, World.size_drew]
      rfl
    · have hzz : zv = z := by
        have a := hz w
        rw [hzv w] at a
        simpa using a
      subst hzz
      simp only [List.getElem?_toArray, List.getElem?_cons_zero, List.getElem?_cons_succ, Sem.run_bind, hu, Result.andThen_ok, hsz, hux, Sem.run_pure, if_true, hai, hw, if_neg hneg, hinfo, if_neg hby, Int.toNat_natCast, h1, Bool.not_true, Bool.false_eq_true, if_false, h3, false_and, h2, hch, run_askRoom, hold, h0, hz, newRow, run_newObj, World.size_drew]
      rfl

end

end
end AH
