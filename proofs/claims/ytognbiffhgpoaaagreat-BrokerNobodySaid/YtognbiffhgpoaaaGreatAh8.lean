/-
  AH 8: the quiet operations, the last ones; all of them together.
-/
import Derived.Test.YtognbiffhgpoaaaGreatAh7
set_option linter.unusedSimpArgs false
set_option linter.unusedVariables false
namespace AH
open Go
noncomputable section

theorem ren_cells (ρ : Nat → Loc) (v : Value) : (ren ρ v).cells = v.cells.map (ren ρ) := by
  cases v with
  | pointer a => cases a <;> simp [Value.cells]
  | slice a n c => cases a <;> simp [Value.cells]
  | map a => cases a <;> simp [Value.cells]
  | _ => simp [Value.cells]

theorem Sc_cells {n : Nat} {v : Value} (h : Sc n v) : Scs n v.cells.toList := by
  cases v with
  | agg cs => exact Sc_agg.1 h
  | _ => intro u hu; simp [Value.cells] at hu; subst hu; exact h

theorem fieldQ_sound (E : Env) (ρ : Nat → Loc) {n s : Nat} {x v : Value} {k : Nat} (h : fieldQ E s x k = some v) (hs : Sc n x) (w : World) : (Instr.fieldAt s (ren ρ x) k).run E.P w = .ok (ren ρ v) w ∧ Sc n v := by
  unfold fieldQ at h
  split at h
  · rename_i i a ht
    split at h
    · rename_i fs hd
      split at h
      · rename_i f hf
        split at h
        · rename_i j hj
          split at h
          · cases h
          · rename_i hz
            simp only [Option.some.injEq] at h; subst h
            refine ⟨?_, Sc_ptr (by rw [addA_block]; exact Sc_ptr_lt hs)⟩
            have hf' : fs[k]? = some f := by rw [← hf]; simp
            simp [Instr.fieldAt, run_und E ht, hd, hf', Instr.sureAddr, fieldPlace, run_sz E hj, hz, renA_addA]
        · cases h
      · cases h
    · cases h
  · cases h

theorem fieldV_sound (E : Env) (ρ : Nat → Loc) {n s : Nat} {x v : Value} {k : Nat} (h : fieldV E s x k = some v) (hs : Sc n x) (w : World) : (Instr.field s (ren ρ x) k).run E.P w = .ok (ren ρ v) w ∧ Sc n v := by
  unfold fieldV at h
  split at h
  · rename_i i cs ht
    split at h
    · rename_i fs hd
      split at h
      · rename_i f hf
        split at h
        · rename_i j hj
          have hf' : fs[k]? = some f := by rw [← hf]; simp
          refine ⟨?_, partQ_sc h (Sc_agg.1 hs)⟩
          have hp := run_part E hj (ρ := ρ) h w
          simp only [Array.toList_map, ← List.map_toArray, Array.toArray_toList] at hp
          simp [Instr.field, run_und E ht, hd, hf', asAgg, hp]
        · cases h
      · cases h
    · cases h
  · cases h

theorem indexAddrQ_sound (E : Env) (ρ : Nat → Loc) {n t : Nat} {x i v : Value} (h : indexAddrQ E t x i = some v) (hs : Sc n x) (w : World) : (Instr.indexAt t (ren ρ x) (ren ρ i)).run E.P w = .ok (ren ρ v) w ∧ Sc n v := by
  unfold indexAddrQ at h
  split at h
  · rename_i ti k m ht
    split at h
    · rename_i e a len cap hd
      split at h
      · rename_i j hj
        split at h
        · rename_i hm
          simp only [Option.some.injEq] at h; subst h
          refine ⟨?_, Sc_ptr (by rw [addA_block]; exact Sc_slice_lt hs)⟩
          simp [Instr.indexAt, asIntOf, run_und E ht, hd, hm.1, hm.2, run_sz E hj, renA_addA]
        · cases h
      · cases h
    · rename_i len e a hd
      split at h
      · rename_i j hj
        split at h
        · rename_i hm
          simp only [Option.some.injEq] at h; subst h
          refine ⟨?_, Sc_ptr (by rw [addA_block]; exact Sc_ptr_lt hs)⟩
          simp [Instr.indexAt, asIntOf, run_und E ht, hd, hm.1, hm.2, run_sz E hj, renA_addA, Instr.sureAddr]
        · cases h
      · cases h
    · cases h
  · cases h

theorem arrQ_sound (E : Env) (ρ : Nat → Loc) {n t : Nat} {x v : Value} (h : arrQ E t x = some v) (hs : Sc n x) (w : World) : (Instr.arrayAt t (ren ρ x)).run E.P w = .ok (ren ρ v) w ∧ Sc n v := by
  unfold arrQ at h
  split at h
  · rename_i ti a len c ht
    split at h
    · rename_i k e hd
      cases hb : Nat.ble k len with
      | false => rw [hb] at h; cases h
      | true =>
        rw [hb] at h
        simp only [cond_true, Option.some.injEq] at h
        subst h
        have hle : ¬ len < k := by have := Nat.le_of_ble_eq_true hb; omega
        refine ⟨?_, Sc_ptr (Sc_slice_lt hs)⟩
        simp [Instr.arrayAt, run_und E ht, hd, hle]
    · cases h
  · cases h

theorem indexQ_sound (E : Env) (ρ : Nat → Loc) {n t : Nat} {x i v : Value} (h : indexQ E t x i = some v) (hs : Sc n x) (w : World) : (Instr.index t (ren ρ x) (ren ρ i)).run E.P w = .ok (ren ρ v) w ∧ Sc n v := by
  unfold indexQ at h
  split at h
  · rename_i ti k m ht
    split at h
    · rename_i len e cs hd
      split at h
      · rename_i j hj
        split at h
        · rename_i hm
          have hp := run_part E hj (ρ := ρ) h w
          simp only [Array.toList_map, ← List.map_toArray, Array.toArray_toList] at hp
          refine ⟨?_, partQ_sc h (Sc_agg.1 hs)⟩
          simp [Instr.index, asIntOf, run_und E ht, hd, hm.1, hm.2, run_sz E hj, hp]
        · cases h
      · cases h
    · rename_i s hd
      split at h
      · rename_i hm
        split at h
        · rename_i b hb
          simp only [Option.some.injEq] at h; subst h
          refine ⟨?_, by simp⟩
          have hb' : s[m.toNat]? = some b := by
            rw [← hb, Array.getElem?_toList, getElem?_def, getElem?_def]
            rfl
          simp [Instr.index, asIntOf, run_und E ht, hd, hm, hb']
        · cases h
      · cases h
    · cases h
  · cases h

theorem run_checkKey (E : Env) {t : Nat} {k : Value} (h : keyOk E t k = true) (ρ : Nat → Loc) (e : Bool) (n : Nat) (w : World) : (Instr.checkKey e (n + 1) t (ren ρ k)).run E.P w = .ok () w := by
  unfold keyOk at h
  split at h
  · rename_i i k' z ht
    split at h
    · rename_i kk hd; simp [Instr.checkKey, run_und E ht, hd]
    · cases h
  · rename_i i s ht
    split at h
    · rename_i hd; simp [Instr.checkKey, run_und E ht, hd]
    · cases h
  · rename_i i b ht
    split at h
    · rename_i hd; simp [Instr.checkKey, run_und E ht, hd]
    · cases h
  · cases h

theorem sameNow_ren (ρ : Nat → Loc) {d : TypeDesc} {k k' : Value} {b : Bool} (h : Instr.sameNow d k k' = some b) : Instr.sameNow d (ren ρ k) (ren ρ k') = some b := by
  unfold Instr.sameNow at h
  split at h
  · rw [ren_int, ren_int]; exact h
  · rw [ren_string, ren_string]; exact h
  · rw [ren_bool, ren_bool]; exact h
  · cases h

theorem findNow_ren (ρ : Nat → Loc) {d : TypeDesc} {k : Value} : ∀ {es : List MapEntry} {i : Nat} {r : Option (Nat × Value)}, findQ d k es i = some r → Instr.findNow d (ren ρ k) (es.map (renE ρ)) i = some (r.map fun p => (p.1, ren ρ p.2))
  | [], i, r, h => by simp only [findQ, Option.some.injEq] at h; subst h; rfl
  | e :: es, i, r, h => by
    simp only [findQ] at h
    simp only [List.map_cons, Instr.findNow, renE]
    split at h
    · rename_i hs; rw [sameNow_ren ρ hs]; simp only [Option.some.injEq] at h; subst h; rfl
    · rename_i hs; rw [sameNow_ren ρ hs]; exact findNow_ren ρ h
    · cases h

theorem findQ_sc {n : Nat} {d : TypeDesc} {k : Value} : ∀ {es : List MapEntry} {i j : Nat} {v : Value}, findQ d k es i = some (some (j, v)) → (∀ e ∈ es, Sc n e.key ∧ Sc n e.val) → Sc n v
  | [], i, j, v, h, hs => by simp [findQ] at h
  | e :: es, i, j, v, h, hs => by
    simp only [findQ] at h
    split at h
    · simp only [Option.some.injEq, Prod.mk.injEq] at h
      rw [← h.2]; exact (hs e (by simp)).2
    · exact findQ_sc h fun e' he' => hs e' (by simp [he'])
    · cases h

theorem findQ_lt {d : TypeDesc} {k : Value} : ∀ {es : List MapEntry} {i j : Nat} {v : Value}, findQ d k es i = some (some (j, v)) → i ≤ j ∧ ∃ e, es[j - i]? = some e ∧ e.val = v ∧ Instr.sameNow d k e.key = some true
  | [], i, j, v, h => by simp [findQ] at h
  | e :: es, i, j, v, h => by
    simp only [findQ] at h
    split at h
    · rename_i hs
      simp only [Option.some.injEq, Prod.mk.injEq] at h
      obtain ⟨rfl, rfl⟩ := h
      exact ⟨Nat.le_refl _, e, by simp, rfl, hs⟩
    · obtain ⟨h1, e', h2, h3⟩ := findQ_lt h
      refine ⟨by omega, e', ?_, h3⟩
      rw [show j - i = (j - (i + 1)) + 1 by omega]
      simpa using h2
    · cases h

theorem run_findKey (E : Env) {t : Nat} {i : TyI} (ht : E.ty t = some i) (ρ : Nat → Loc) {k : Value} {es : List MapEntry} {r : Option (Nat × Value)} (h : findQ i.desc k es 0 = some r) (w : World) :
    (Instr.findKey t (ren ρ k) (es.map (renE ρ))).run E.P w = .ok (r.map fun p => (p.1, ren ρ p.2)) w := by
  simp [Instr.findKey, run_und E ht, findNow_ren ρ h]

theorem lookupQ_sound (E : Env) {ρ : Nat → Loc} {σ : St} {w₀ : World} (hR : Rel ρ σ w₀) {t : Nat} {x k v : Value} {ok : Bool} (h : lookupQ E σ t x k ok = some v) (hs : Sc σ.next x) (w : World)
    (hH : ∀ r es c, x = .map (some r) → σ.get r = .map es c → w.heap[(ρ r).b]? = some (.map (es.map (renE ρ)).toArray c)) :
    (Instr.lookup t (ren ρ x) (ren ρ k) ok).run E.P w = .ok (ren ρ v) w ∧ Sc σ.next v := by
  unfold lookupQ at h
  cases ht : E.ty t with
  | none => simp [ht] at h
  | some i =>
    simp only [ht] at h
    split at h
    · rename_i kt et hd
      split at h
      · rename_i ki ei hki hei hk
        have hz := closedV_ren 4 ei.zero (zero_closed E hei) ρ
        have hzs := closedV_Sc (zero_closed E hei) σ.next
        have hck := fun e w => run_checkKey E hk ρ e 9999 w
        split at h
        · simp only [Option.some.injEq] at h; subst h
          have hfk := run_findKey E hki ρ (k := k) (es := []) (r := none) (by simp [findQ]) w
          simp only [List.map_nil, Option.map_none] at hfk
          constructor
          · simp [Instr.lookup, run_und E ht, hd, hck, hfk, run_zero E hei]
            cases ok <;> simp [hz]
          · cases ok
            · exact hzs
            · exact Sc_tuple.2 (by intro u hu; simp at hu; rcases hu with rfl | rfl; exact hzs; simp)
        · rename_i r
          split at h
          · rename_i es c hσ
            have hheap := hH r es c rfl hσ
            have hgo : (getObj (ρ r).b).run E.P w = .ok (.map (es.map (renE ρ)).toArray c) w := by
              simp [getObj, Sem.run, hheap]
            have hsc : ∀ e ∈ es, Sc σ.next e.key ∧ Sc σ.next e.val := by have := hR.sc r; rw [hσ] at this; exact this
            split at h
            · rename_i j u hf
              simp only [Option.some.injEq] at h; subst h
              have hfk := run_findKey E hki ρ hf w
              simp only [Option.map_some] at hfk
              have hsu := findQ_sc hf hsc
              constructor
              · simp [Instr.lookup, run_und E ht, hd, hck, hgo, hfk]
                cases ok <;> simp
              · cases ok
                · exact hsu
                · exact Sc_tuple.2 (by intro u' hu; simp at hu; rcases hu with rfl | rfl; exact hsu; simp)
            · rename_i hf
              simp only [Option.some.injEq] at h; subst h
              have hfk := run_findKey E hki ρ hf w
              simp only [Option.map_none] at hfk
              constructor
              · simp [Instr.lookup, run_und E ht, hd, hck, hgo, hfk, run_zero E hei]
                cases ok <;> simp [hz]
              · cases ok
                · exact hzs
                · exact Sc_tuple.2 (by intro u hu; simp at hu; rcases hu with rfl | rfl; exact hzs; simp)
            · cases h
          · cases h
        · cases h
      · cases h
    · cases h

theorem lenQ_sound (E : Env) {ρ : Nat → Loc} {σ : St} {t : Nat} {x v : Value} (h : lenQ E σ t x = some v) (ty : Nat) (w : World)
    (hH : ∀ r es c, x = .map (some r) → σ.get r = .map es c → w.heap[(ρ r).b]? = some (.map (es.map (renE ρ)).toArray c)) :
    (Builtin.len_ #[t] ty #[ren ρ x]).run E.P w = .ok v w ∧ closedV 4 v = true := by
  unfold lenQ at h
  cases ht : E.ty t with
  | none => simp [ht] at h
  | some i =>
    simp only [ht] at h
    split at h
    · rename_i s hd; simp only [Option.some.injEq] at h; subst h; simp [Builtin.len_, run_und E ht, hd, goInt, closedV]
    · rename_i n e hd; simp only [Option.some.injEq] at h; subst h; simp [Builtin.len_, run_und E ht, hd, goInt, closedV]
    · rename_i e a n c hd; simp only [Option.some.injEq] at h; subst h; cases a <;> simp [Builtin.len_, run_und E ht, hd, goInt, closedV]
    · rename_i k e hd; simp only [Option.some.injEq] at h; subst h; simp [Builtin.len_, run_und E ht, hd, goInt, closedV]
    · rename_i k e r hd
      split at h
      · rename_i es c hσ
        simp only [Option.some.injEq] at h; subst h
        have hheap := hH r es c rfl hσ
        have hgo : (getObj (ρ r).b).run E.P w = .ok (.map (es.map (renE ρ)).toArray c) w := by simp [getObj, Sem.run, hheap]
        simp [Builtin.len_, run_und E ht, hd, goInt, closedV, hgo]
      · cases h
    · cases h

theorem foldMM_sound (P : Program) (w : World) (mx : Bool) : ∀ {l : List Value} {v u : Value}, foldMM mx v l = some u → (∀ ρ, ∀ (k : IntKind) (z : Int), v = .int k z → (l.map (ren ρ)).foldlM (if mx then Builtin.max2 else Builtin.min2) (ren ρ v) = (l.map (ren ρ)).foldlM (if mx then Builtin.max2 else Builtin.min2) v) ∧
    ((∃ k z, v = .int k z) → ((l.foldlM (if mx then Builtin.max2 else Builtin.min2) v : Sem Value).run P w = .ok u w ∧ (∃ k z, u = .int k z) ∧ ∀ x ∈ l, ∃ k z, x = .int k z))
  | [], v, u, h => by
    simp only [foldMM, Option.some.injEq] at h
    subst h
    exact ⟨fun ρ k z e => by subst e; simp, fun ⟨k, z, e⟩ => ⟨by simp, ⟨k, z, e⟩, by simp⟩⟩
  | x :: r, v, u, h => by
    refine ⟨fun ρ k z e => by subst e; simp, fun ⟨k, z, e⟩ => ?_⟩
    subst e
    unfold foldMM at h
    split at h
    · rename_i e1 e2; cases e2
    · rename_i k' x' k'' y r' e1 e2
      cases e1; cases e2
      obtain ⟨_, h2⟩ := foldMM_sound P w mx h
      obtain ⟨h3, h4, h5⟩ := h2 ⟨_, _, rfl⟩
      refine ⟨?_, h4, ?_⟩
      · rw [List.foldlM_cons]
        cases mx
        · simp only [Bool.false_eq_true, if_false, Builtin.min2, Sem.run_bind, Sem.run_pure, Result.andThen_ok] at h3 ⊢
          exact h3
        · simp only [if_true, Builtin.max2, Sem.run_bind, Sem.run_pure, Result.andThen_ok] at h3 ⊢
          exact h3
      · intro x hx
        rcases List.mem_cons.1 hx with rfl | hx
        · exact ⟨_, _, rfl⟩
        · exact h5 x hx
    · cases h

theorem zipIdx_put (off : Nat) : ∀ (l : List Value) (k : Nat) (A : Array Value), (l.zipIdx k).foldl (fun cs (p : Value × Nat) => cs.setIfInBounds (off + p.2) p.1) A = (putAt A.toList (off + k) l).toArray
  | [], k, A => by simp [putAt, fillQ.putAt]
  | v :: l, k, A => by
    simp only [List.zipIdx_cons, List.foldl_cons]
    rw [zipIdx_put off l (k + 1)]
    simp only [putAt, fillQ.putAt, Array.toList_setIfInBounds]
    rw [show off + (k + 1) = off + k + 1 by omega]

theorem putAt_map (ρ : Nat → Loc) : ∀ (vs cs : List Value) (o : Nat), (putAt cs o vs).map (ren ρ) = putAt (cs.map (ren ρ)) o (vs.map (ren ρ))
  | [], cs, o => by simp [putAt, fillQ.putAt]
  | v :: vs, cs, o => by simp only [putAt, fillQ.putAt, List.map_cons]; rw [show fillQ.putAt = putAt from rfl, putAt_map ρ vs]; simp

theorem putAt_length : ∀ (vs cs : List Value) (o : Nat), (putAt cs o vs).length = cs.length
  | [], cs, o => rfl
  | v :: vs, cs, o => by simp only [putAt, fillQ.putAt]; rw [show fillQ.putAt = putAt from rfl, putAt_length vs]; simp

theorem putAt_sc {n : Nat} : ∀ {vs cs : List Value} {o : Nat}, Scs n cs → Scs n vs → Scs n (putAt cs o vs)
  | [], cs, o, h, _ => h
  | v :: vs, cs, o, h, hv => by
    simp only [putAt, fillQ.putAt]
    refine putAt_sc (vs := vs) (fun x hx => ?_) fun x hx => hv x (by simp [hx])
    rcases List.mem_or_eq_of_mem_set hx with h' | h'
    · exact h x h'
    · rw [h']; exact hv v (by simp)

theorem fillQ_sound (ρ : Nat → Loc) {place : Nat → Option (Nat × Nat)} : ∀ {parts : List (Nat × Value)} {cs cs' : List Value}, fillQ place cs parts = some cs' →
    Instr.fill place (cs.map (ren ρ)).toArray (parts.map fun p => (p.1, ren ρ p.2)) = some (cs'.map (ren ρ)).toArray
  | [], cs, cs', h => by simp only [fillQ, Option.some.injEq] at h; subst h; rfl
  | (i, v) :: rest, cs, cs', h => by
    simp only [fillQ] at h
    simp only [List.map_cons, Instr.fill]
    cases hp : place i with
    | none => simp [hp] at h
    | some os =>
      obtain ⟨off, size⟩ := os
      simp only [hp] at h
      split at h
      · rename_i hc
        have h1 : (ren ρ v).cells.size = v.cells.toList.length := by rw [ren_cells]; simp
        have h2 : ¬ ((decide ((ren ρ v).cells.size ≠ size) || decide (off + (ren ρ v).cells.size > ((cs.map (ren ρ)).toArray).size)) = true) := by
          rw [h1]; simp; simp at hc; omega
        dsimp only
        rw [if_neg h2]
        have := fillQ_sound ρ h
        rw [← this]
        congr 1
        rw [← Array.foldl_toList, ren_cells]
        simp only [Array.toList_zipIdx, Array.toList_map]
        have hz := zipIdx_put off (v.cells.toList.map (ren ρ)) 0 (cs.map (ren ρ)).toArray
        simp only [Nat.add_zero] at hz
        rw [putAt_map]
        exact hz
      · cases h

theorem fillQ_sc {n : Nat} {place : Nat → Option (Nat × Nat)} : ∀ {parts : List (Nat × Value)} {cs cs' : List Value}, fillQ place cs parts = some cs' → Scs n cs → (∀ p ∈ parts, Sc n p.2) → Scs n cs'
  | [], cs, cs', h, hs, _ => by simp only [fillQ, Option.some.injEq] at h; subst h; exact hs
  | (i, v) :: rest, cs, cs', h, hs, hp => by
    simp only [fillQ] at h
    split at h
    · cases h
    · split at h
      · exact fillQ_sc h (putAt_sc hs (Sc_cells (hp (i, v) (by simp)))) fun p hp' => hp p (by simp [hp'])
      · cases h

theorem run_places (E : Env) (w : World) : ∀ {fs : List Field} {pl : List (Nat × Nat)}, places E.ty fs = some pl → (fs.mapM (fun f => do pure (f.offset, ← Go.sizeOf f.type)) : Sem (List (Nat × Nat))).run E.P w = .ok pl w
  | [], pl, h => by simp only [places, Option.some.injEq] at h; subst h; simp
  | f :: r, pl, h => by
    simp only [places] at h
    split at h
    · rename_i j hj
      split at h
      · rename_i l hl
        simp only [Option.some.injEq] at h; subst h
        have := run_places E w hl
        simp only [List.mapM_cons, Sem.run_bind, run_sz E hj, Result.andThen_ok, Sem.run_pure] at this ⊢
        rw [this]; rfl
      · cases h
    · cases h

theorem buildQ_sound (E : Env) (ρ : Nat → Loc) {n t : Nat} {parts : List (Nat × Value)} {v : Value} (h : buildQ E t parts = some v) (hs : ∀ p ∈ parts, Sc n p.2) (w : World) :
    (Instr.build t (parts.map fun p => (p.1, ren ρ p.2)).toArray).run E.P w = .ok (ren ρ v) w ∧ Sc n v := by
  unfold buildQ at h
  cases ht : E.ty t with
  | none => simp [ht] at h
  | some i =>
    simp only [ht] at h
    have hz : i.zero.cells.toList.map (ren ρ) = i.zero.cells.toList := by
      have := ren_cells ρ i.zero
      rw [closedV_ren 4 i.zero (zero_closed E ht) ρ] at this
      conv => rhs; rw [this]
      simp
    have hzs : Scs n i.zero.cells.toList := Sc_cells (closedV_Sc (zero_closed E ht) n)
    split at h
    · rename_i fs hd
      split at h
      · rename_i pl hpl
        split at h
        · rename_i cs hf
          simp only [Option.some.injEq] at h; subst h
          refine ⟨?_, Sc_agg.2 (by simpa using fillQ_sc hf hzs hs)⟩
          have h1 := fillQ_sound ρ hf
          rw [hz] at h1
          have h2 := run_places E w hpl
          have h3 : (fs.mapM (fun f => do pure (f.offset, ← Go.sizeOf f.type)) : Sem (Array (Nat × Nat))).run E.P w = .ok pl.toArray w := by
            rw [Array.mapM_eq_mapM_toList, Sem.run_map, h2]
            rfl
          simp only [Instr.build, Sem.run_bind, run_zero E ht, Result.andThen_ok, run_und E ht, hd, h3]
          simp only [List.getElem?_toArray, Array.toArray_toList] at h1 ⊢
          rw [h1]
          simp
        · cases h
      · cases h
    · rename_i len e hd
      split at h
      · rename_i j hj
        split at h
        · rename_i cs hf
          simp only [Option.some.injEq] at h; subst h
          refine ⟨?_, Sc_agg.2 (by simpa using fillQ_sc hf hzs hs)⟩
          have h1 := fillQ_sound ρ hf
          rw [hz] at h1
          simp only [Array.toArray_toList] at h1
          simp only [Instr.build, Sem.run_bind, run_zero E ht, Result.andThen_ok, run_und E ht, hd, run_sz E hj]
          rw [h1]
          simp
        · cases h
      · cases h
    · cases h

end
end AH
