/-
  AH 11: operations that write, or make memory: stores and new blocks.
-/
import Derived.Test.YtognbiffhgpoaaaGreatAh10
set_option linter.unusedSimpArgs false
set_option linter.unusedVariables false
namespace AH
open Go
noncomputable section

theorem setCells_block (b : Nat) : ∀ (vs : List Value) (o : Nat) (w : World) (cur : Array Value) (e : TypeId) (fz : Nat × Nat), w.heap[b]? = some (.cells cur e fz) →
    (w.setCells b o vs).heap[b]? = some (.cells (putAt cur.toList o vs).toArray e fz) ∧ Only b w (w.setCells b o vs)
  | [], o, w, cur, e, fz, h => ⟨by simpa [World.setCells, putAt, fillQ.putAt] using h, ⟨rfl, rfl, rfl, rfl, fun _ _ => rfl⟩⟩
  | v :: vs, o, w, cur, e, fz, h => by
    have h1 : (w.setCell ⟨b, o, none⟩ v).heap[b]? = some (.cells (cur.setIfInBounds o v) e fz) := by
      simp [World.setCell, Array.getElem?_modify, h]
    obtain ⟨h2, h3⟩ := setCells_block b vs (o + 1) (w.setCell ⟨b, o, none⟩ v) _ e fz h1
    refine ⟨?_, ?_⟩
    · simp only [World.setCells, h2, putAt, fillQ.putAt, Array.toList_setIfInBounds]
    · have h4 : Only b w (w.setCell ⟨b, o, none⟩ v) := ⟨by simp [World.setCell], rfl, rfl, rfl, fun j hj => by simp only [World.setCell, Array.getElem?_modify]; rw [if_neg (Ne.symm hj)]⟩
      exact ⟨h3.size.trans h4.size, h3.os.trans h4.os, h3.tape.trans h4.tape, h3.output.trans h4.output, fun j hj => (h3.heap j hj).trans (h4.heap j hj)⟩

theorem oneCell_ren (ρ : Nat → Loc) {v : Value} (h : v.oneCell' = true) : (ren ρ v).oneCell' = true := by
  cases v with
  | pointer a => cases a <;> simp [Value.oneCell']
  | slice a n c => cases a <;> simp [Value.oneCell']
  | map a => cases a <;> simp [Value.oneCell']
  | agg cs => simp [Value.oneCell'] at h
  | tuple cs => simp [Value.oneCell'] at h
  | _ => simp [Value.oneCell']

theorem frozen_false {w : World} {b o : Nat} {cur : Array Value} {e : TypeId} {fz : Nat × Nat} {n : Nat} (h : w.heap[b]? = some (.cells cur e fz)) (hf : Unfz fz n) (ho : o < n) : w.frozen? ⟨b, o, none⟩ = false := by
  obtain ⟨x, y⟩ := fz
  simp only [World.frozen?, h]
  have := hf o ho
  simp only at this
  simp only [Bool.and_eq_false_iff, decide_eq_false_iff_not]
  by_cases hx : x ≤ o
  · exact .inr fun hy => this ⟨hx, hy⟩
  · exact .inl hx

theorem cell_some {w : World} {b o : Nat} {cur : Array Value} {e : TypeId} {fz : Nat × Nat} (h : w.heap[b]? = some (.cells cur e fz)) (ho : o < cur.size) : (w.cell? ⟨b, o, none⟩).isSome = true := by
  simp [World.cell?, h, ho]

theorem putAt_append : ∀ (vs cs ex : List Value) (o : Nat), o + vs.length ≤ cs.length → putAt (cs ++ ex) o vs = putAt cs o vs ++ ex
  | [], cs, ex, o, _ => rfl
  | v :: vs, cs, ex, o, h => by
    simp only [List.length_cons] at h
    simp only [putAt, fillQ.putAt]
    rw [List.set_append_left _ _ (by omega)]
    exact putAt_append vs (cs.set o v) ex (o + 1) (by simp; omega)

theorem stCells_sound (P : Program) {ρ : Nat → Loc} {σ σ' : St} {w : World} (hR : Rel ρ σ w) {a : Addr} {vs : List Value} (h : stCells σ a vs = some σ') (hs : Scs σ.next vs) :
    ∃ w', (storeCells (renA ρ a) (vs.map (ren ρ))).run P w = .ok () w' ∧ Evo ρ σ w ρ σ' w' := by
  unfold stCells at h
  have hb := hR.blk a.block
  have hsc := hR.sc a.block
  split at h
  · rename_i e cs hσ
    split at h
    · rename_i hc
      obtain ⟨h1, h2, h3⟩ := hc
      simp only [Option.some.injEq] at h; subst h
      rw [hσ] at hb hsc
      obtain ⟨h0, fz, hf, hh⟩ := hb
      simp only [Option.isNone_iff_eq_none] at h1
      have hren : renA ρ a = ⟨(ρ a.block).b, a.off, none⟩ := by simp [renA, h0, h1]
      have hst := run_storeCells_cells (P := P) (ρ a.block).b a.off (vs.map (ren ρ)) 0 w
        (fun j hj => cell_some hh (by simp at hj ⊢; omega))
        (fun j hj => frozen_false hh hf (by simp at hj; omega))
        (fun v hv => by
          simp only [List.mem_map] at hv
          obtain ⟨u, hu, rfl⟩ := hv
          exact oneCell_ren ρ (List.all_eq_true.1 h3 u hu))
      obtain ⟨hb1, hb2⟩ := setCells_block (ρ a.block).b (vs.map (ren ρ)) (a.off + 0) w _ e fz hh
      refine ⟨_, by rw [hren]; exact hst, Evo.write hR (by rw [hσ]; rfl) hb2 ⟨h0, fz, by rw [putAt_length]; exact hf, ?_⟩ (putAt_sc hsc hs)⟩
      rw [hb1, putAt_map]
      simp
    · cases h
  · rename_i e sz cs hσ
    split at h
    · rename_i hc
      obtain ⟨h1, h2, h3⟩ := hc
      simp only [Option.some.injEq] at h; subst h
      rw [hσ] at hb hsc
      obtain ⟨h0, fz, ex, hf, hl, hh⟩ := hb
      simp only [Option.isNone_iff_eq_none] at h1
      have hren : renA ρ a = ⟨(ρ a.block).b, a.off, none⟩ := by simp [renA, h0, h1]
      have hst := run_storeCells_cells (P := P) (ρ a.block).b a.off (vs.map (ren ρ)) 0 w
        (fun j hj => cell_some hh (by simp at hj ⊢; omega))
        (fun j hj => frozen_false hh hf (by simp at hj; omega))
        (fun v hv => by
          simp only [List.mem_map] at hv
          obtain ⟨u, hu, rfl⟩ := hv
          exact oneCell_ren ρ (List.all_eq_true.1 h3 u hu))
      obtain ⟨hb1, hb2⟩ := setCells_block (ρ a.block).b (vs.map (ren ρ)) (a.off + 0) w _ e fz hh
      refine ⟨_, by rw [hren]; exact hst, Evo.write hR (by rw [hσ]; rfl) hb2 ⟨h0, fz, ex, hf, by rw [putAt_length]; exact hl, ?_⟩ (putAt_sc hsc hs)⟩
      rw [hb1, putAt_map]
      simp only [List.toList_toArray, Nat.add_zero]
      rw [putAt_append _ _ _ _ (by simpa using h2)]
    · cases h
  · cases h

/-- A new block of cells. -/
theorem alloc_cells {ρ : Nat → Loc} {σ : St} {w w' : World} (hR : Rel ρ σ w) (e : TypeId) (cs : List Value) (hs : Scs σ.next cs) (hw : Like (w.alloc (.cells (cs.map (ren ρ)).toArray e)) w') :
    Evo ρ σ w (upd ρ σ.next ⟨w.heap.size, 0, 0⟩) (σ.push (.cells e cs)) w' := by
  refine Evo.alloc hR (.cells (cs.map (ren ρ)).toArray e) (.cells e cs) 0 hw ⟨rfl, (0, 0), Unfz_zero _, ?_⟩ (hs.mono (Nat.le_succ _))
  rw [← hs.map_eq (ρ := ρ) (ρ' := upd ρ σ.next ⟨w.heap.size, 0, 0⟩) (fun i hi => (upd_lt ρ _ hi).symm)]
  show (w.heap.push _)[w.heap.size]? = _
  simp

theorem ren_new (ρ : Nat → Loc) (n : Nat) (l : Loc) (ho : l.o = 0) : ren (upd ρ n l) (.pointer (some ⟨n, 0, none⟩)) = .pointer (some ⟨l.b, 0, none⟩) := by
  simp [renA, upd_same, ho]

theorem ren_new_slice (ρ : Nat → Loc) (n : Nat) (l : Loc) (ho : l.o = 0) (len cap : Nat) (hc : cap < half) : ren (upd ρ n l) (.slice (some ⟨n, 0, none⟩) len cap) = .slice (some ⟨l.b, 0, none⟩) len cap := by
  simp [renA, upd_same, ho, renC, hc]

theorem ren_new_row (ρ : Nat → Loc) (n : Nat) (l : Loc) (ho : l.o = 0) (len : Nat) : ren (upd ρ n l) (.slice (some ⟨n, 0, none⟩) len unk) = .slice (some ⟨l.b, 0, none⟩) len l.C := by
  have : ¬ unk < half := by unfold unk half; omega
  simp [renA, upd_same, ho, renC, this]

theorem repl_spec (z : List Value) : ∀ (n : Nat), 0 < z.length → ((Array.range (n * z.length)).map (fun i => z.toArray[i % z.length]!)).toList = repl n z := by
  intro n hz
  induction n with
  | zero => simp [repl]
  | succ n ih =>
    simp only [repl]
    rw [← ih]
    apply List.ext_getElem?
    intro i
    by_cases hi : i < z.length
    · rw [List.getElem?_append_left hi]
      have : i < (n + 1) * z.length := by rw [Nat.add_mul]; omega
      simp [this, Nat.mod_eq_of_lt hi, hi]
    · rw [List.getElem?_append_right (by omega)]
      simp only [Array.toList_map, Array.toList_range, List.getElem?_map]
      have hmod : i % z.length = (i - z.length) % z.length := by
        rw [Nat.mod_eq_sub_mod (by omega)]
      by_cases h2 : i < (n + 1) * z.length
      · have h3 : i - z.length < n * z.length := by rw [Nat.add_mul] at h2; omega
        simp [h2, h3, hmod]
      · have h3 : ¬ (i - z.length < n * z.length) := by rw [Nat.add_mul] at h2; omega
        simp [h2, h3]

theorem repl_length (z : List Value) : ∀ n, (repl n z).length = n * z.length
  | 0 => by simp [repl]
  | n + 1 => by simp only [repl, List.length_append, repl_length z n]; rw [Nat.add_mul]; omega

theorem repl_sc {n : Nat} {z : List Value} (h : Scs n z) : ∀ k, Scs n (repl k z)
  | 0 => fun v hv => by simp [repl] at hv
  | k + 1 => fun v hv => by simp only [repl, List.mem_append] at hv; rcases hv with hv | hv; exact h v hv; exact repl_sc h k v hv

theorem zero_ren (E : Env) {t : Nat} {i : TyI} (h : E.ty t = some i) (ρ : Nat → Loc) : i.zero.cells.toList.map (ren ρ) = i.zero.cells.toList := by
  have := ren_cells ρ i.zero
  rw [closedV_ren 4 i.zero (zero_closed E h) ρ] at this
  conv => rhs; rw [this]
  simp

theorem zero_scs (E : Env) {t : Nat} {i : TyI} (h : E.ty t = some i) (n : Nat) : Scs n i.zero.cells.toList := Sc_cells (closedV_Sc (zero_closed E h) n)

theorem repl_ren (E : Env) {t : Nat} {i : TyI} (h : E.ty t = some i) (ρ : Nat → Loc) : ∀ k, (repl k i.zero.cells.toList).map (ren ρ) = repl k i.zero.cells.toList
  | 0 => rfl
  | k + 1 => by simp only [repl, List.map_append, zero_ren E h, repl_ren E h ρ k]

/-- The cells of n zeros, as make and a slice's literal lay them. -/
theorem zeros_eq (E : Env) {t : Nat} {i : TyI} (h : E.ty t = some i) (n : Nat) (w : World) :
    ((do
      let zero ← if n * i.size = 0 then pure #[] else do pure (← zeroValue t).cells
      pure ((Array.range (n * i.size)).map (zero[· % zero.size]!)) : Sem (Array Value))).run E.P w = .ok (repl n i.zero.cells.toList).toArray w := by
  have hz := zero_size E h
  by_cases h0 : n * i.size = 0
  · simp only [h0, if_true, Sem.run_bind, Sem.run_pure, Result.andThen_ok]
    have : (repl n i.zero.cells.toList) = [] := by
      apply List.eq_nil_of_length_eq_zero
      rw [repl_length]; simpa [hz] using h0
    simp [this]
  · simp only [h0, if_false, Sem.run_bind, run_zero E h, Sem.run_pure, Result.andThen_ok]
    have hpos : 0 < i.zero.cells.toList.length := by
      simp only [Array.length_toList, hz]
      exact Nat.pos_of_ne_zero fun e => h0 (by simp [e])
    have := repl_spec i.zero.cells.toList n hpos
    simp only [Array.length_toList, hz, Array.toArray_toList] at this
    congr 1
    apply Array.ext'
    rw [← this, hz]

end
end AH
