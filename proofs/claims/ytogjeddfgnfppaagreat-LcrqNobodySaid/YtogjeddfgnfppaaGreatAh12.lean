/-
  AH 12: append, copy, clear.
-/
import Derived.Test.YtogjeddfgnfppaaGreatAh11
set_option linter.unusedSimpArgs false
set_option linter.unusedVariables false
namespace AH
open Go
noncomputable section

theorem srcQ_sound (P : Program) {ρ : Nat → Loc} {σ : St} {w : World} (hR : Rel ρ σ w) {size : Nat} {x : Value} {n : Nat} {new : List Value} (h : srcQ σ size x = some (n, new)) :
    new.length = n * size ∧ Scs σ.next new ∧ (∀ w, (Builtin.lenOf (ren ρ x)).run P w = .ok n w) ∧
    ∀ m, m ≤ n → (Builtin.firstCells size m (ren ρ x)).run P w = .ok ((new.take (m * size)).map (ren ρ)).toArray w := by
  unfold srcQ at h
  split at h
  · split at h
    · rename_i h0
      simp only [Option.some.injEq, Prod.mk.injEq] at h
      obtain ⟨rfl, rfl⟩ := h
      exact ⟨by simp, fun v hv => by simp at hv, fun w => by simp [Builtin.lenOf, h0], fun m hm => by simp [Builtin.firstCells]⟩
    · cases h
  · rename_i b k c
    split at h
    · rename_i l hl
      simp only [Option.some.injEq, Prod.mk.injEq] at h
      obtain ⟨rfl, rfl⟩ := h
      obtain ⟨hs, hlen, _⟩ := ldCells_spec hl
      refine ⟨hlen, ldCells_sc hR hl, fun w => by simp [Builtin.lenOf], fun m hm => ?_⟩
      have hmn : m * size ≤ k * size := Nat.mul_le_mul_right _ hm
      have := run_ldCells (ρ := ρ) (w := w) P hs (l := l.take (m * size)) (fun j v hj => Hold.at_of_in hR (ldCells_get hl (by
        rw [List.getElem?_take] at hj
        split at hj
        · exact hj
        · cases hj)))
      simp only [List.length_take, hlen, Nat.min_eq_left hmn] at this
      simp only [ren_slice, Builtin.firstCells, this]
    · cases h
  · rename_i s
    split at h
    · rename_i h1
      simp only [Option.some.injEq, Prod.mk.injEq] at h
      obtain ⟨rfl, rfl⟩ := h
      subst h1
      refine ⟨by simp, fun v hv => by simp only [List.mem_map] at hv; obtain ⟨b, _, rfl⟩ := hv; simp, fun w => by simp [Builtin.lenOf], fun m hm => ?_⟩
      simp only [ren_string, Builtin.firstCells, Sem.run_pure, mkStr_extract, mkStr]
      congr 1
      apply Array.ext'
      simp [List.map_take, Function.comp_def]
    · cases h
  · cases h

theorem growBy_le (need : Nat) : ∀ (r c : Nat), c ≤ need + (need + 768) / 4 → Builtin.growBy need r c ≤ need + (need + 768) / 4
  | 0, c, h => by simpa [Builtin.growBy] using h
  | r + 1, c, h => by
    simp only [Builtin.growBy]
    split
    · exact h
    · exact growBy_le need r _ (by omega)

theorem nextslicecap_le {need cap : Nat} (h : cap < need) : Builtin.nextslicecap need cap ≤ 8 * need + 4096 := by
  unfold Builtin.nextslicecap
  split
  · omega
  · split
    · omega
    · have := growBy_le need 4 cap (by omega)
      omega

section
variable {P : Program} {t tx e : Nat} {d : TypeDesc} {size : Nat} {s x : Value} {n : Nat} {new : Array Value} {w : World}

theorem run_append_room (ht : P.underlying t = some (.slice e)) (htx : P.underlying tx = some d) (hd : (∃ e2, d = .slice e2) ∨ d = .string) (hsz : ∀ w, (Go.sizeOf e).run P w = .ok size w)
    (hlen : ∀ w, (Builtin.lenOf x).run P w = .ok n w) (hnew : (Builtin.firstCells size n x).run P w = .ok new w) (ty : Nat) {base : Option Addr} {len cap : Nat} (hroom : len + n ≤ cap) {w' : World}
    (hst : match base with | some a => (storeCells (a.add (len * size)) new.toList).run P w = .ok () w' | none => w' = w) :
    (Builtin.append_ #[t, tx] ty #[.slice base len cap, x]).run P w = .ok (.slice base (len + n) cap) w' := by
  have hu := run_underlying ht
  have hux := run_underlying htx
  unfold Builtin.append_
  rcases hd with ⟨e2, rfl⟩ | rfl
  all_goals
    cases base with
    | none =>
      simp only at hst
      subst hst
      simp only [List.getElem?_toArray, List.getElem?_cons_zero, List.getElem?_cons_succ, Sem.run_bind, hu, Result.andThen_ok, hsz, hux, Sem.run_pure, Bool.false_eq_true, if_false, hlen, hroom, if_true, Bool.not_false, hnew]
    | some a =>
      simp only at hst
      simp only [List.getElem?_toArray, List.getElem?_cons_zero, List.getElem?_cons_succ, Sem.run_bind, hu, Result.andThen_ok, hsz, hux, Sem.run_pure, Bool.false_eq_true, if_false, hlen, hroom, if_true, Bool.not_false, hnew, hst]

theorem run_append_grow (ht : P.underlying t = some (.slice e)) (htx : P.underlying tx = some d) (hd : (∃ e2, d = .slice e2) ∨ d = .string) (hsz : ∀ w, (Go.sizeOf e).run P w = .ok size w)
    (hlen : ∀ w, (Builtin.lenOf x).run P w = .ok n w) {info : TypeInfo} (hinfo : ∀ w, (typeInfo e).run P w = .ok info w) {z : Value} (hz : ∀ w, (zeroValue e).run P w = .ok z w) {base : Option Addr} {len cap : Nat} {old : Array Value}
    (hroom : cap < len + n) (hb : info.bytes ≠ 0) (hcap : Builtin.nextslicecap (len + n) cap * info.bytes ≤ 2 ^ 48) {newCap : Nat} (hnc : newCap = (Question.appendCap (len + n) cap e).cut (w.tape w.drawn (.appendCap (len + n) cap e)))
    (hnew : (Builtin.firstCells size n x).run P w.drew = .ok new w.drew) (hold : (Builtin.firstCells size len (.slice base len cap)).run P w.drew = .ok old w.drew) (ty : Nat) :
    (Builtin.append_ #[t, tx] ty #[.slice base len cap, x]).run P w = .ok (.slice (some ⟨w.heap.size, 0, none⟩) (len + n) newCap) (w.drew.alloc (.cells (old ++ new ++ Builtin.zeroCells z.cells (newCap - (len + n))) e)) := by
  have hu := run_underlying ht
  have hux := run_underlying htx
  have h1 : ¬ (len + n ≤ cap) := by omega
  have h2 : ¬ (Builtin.nextslicecap (len + n) cap * info.bytes > 2 ^ 48) := by omega
  subst hnc
  have hch : ∀ w, (choose (.appendCap (len + n) cap e)).run P w = .ok ((Question.appendCap (len + n) cap e).cut (w.tape w.drawn (.appendCap (len + n) cap e))) w.drew := fun w => by
    rw [run_choose]; simp [Question.forced]
  unfold Builtin.append_
  rcases hd with ⟨e2, rfl⟩ | rfl
  all_goals
    simp only [List.getElem?_toArray, List.getElem?_cons_zero, List.getElem?_cons_succ, Sem.run_bind, hu, Result.andThen_ok, hsz, hux, Sem.run_pure, Bool.false_eq_true, if_false, hlen, h1, hinfo, hb, or_self, and_false, h2, hch, run_askRoom, hold, Bool.not_false, if_true, hnew, hz, newRow, run_newObj, World.size_drew]
    rfl

end

end
end AH
