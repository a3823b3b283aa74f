/-
  AH 14: copy, clear, maps, iterators, bytes.
-/
import Derived.Test.YtognbiffhgpoaaaGreatAh13
set_option linter.unusedSimpArgs false
set_option linter.unusedVariables false
namespace AH
open Go
noncomputable section

theorem copyQ_sound (E : Env) {ρ : Nat → Loc} {σ σ' : St} {w : World} (hR : Rel ρ σ w) {t tx : Nat} {d x v : Value} (h : copyQ E σ t d x = some (v, σ')) (ty : Nat) :
    ∃ w', (Builtin.copy_ #[t, tx] ty #[ren ρ d, ren ρ x]).run E.P w = .ok v w' ∧ Evo ρ σ w ρ σ' w' ∧ closedV 4 v = true := by
  unfold copyQ at h
  split at h
  · rename_i i ht
    split at h
    · rename_i e base dLen dc hd
      cases he : E.ty e with
      | none => simp [he] at h
      | some j =>
        simp only [he] at h
        cases hsrc : srcQ σ j.size x with
        | none => simp [hsrc] at h
        | some nn =>
          obtain ⟨n, new⟩ := nn
          simp only [hsrc] at h
          obtain ⟨hnl, hnsc, hlen, hfc⟩ := srcQ_sound E.P hR hsrc
          have hmin : Nat.min n dLen = min n dLen := rfl
          split at h
          · split at h
            · rename_i h0
              simp only [Option.some.injEq, Prod.mk.injEq] at h
              obtain ⟨rfl, rfl⟩ := h
              refine ⟨w, ?_, Evo.refl hR, rfl⟩
              have := hfc (min n dLen) (Nat.min_le_left _ _)
              simp [Builtin.copy_, run_und E ht, hd, hlen, run_sz E he, hmin, this, goInt, h0] at this ⊢
              simp [this]
            · cases h
          · rename_i a
            split at h
            · rename_i σ₂ hst
              simp only [Option.some.injEq, Prod.mk.injEq] at h
              obtain ⟨rfl, rfl⟩ := h
              obtain ⟨w', h1, h2⟩ := stCells_sound E.P hR hst (fun v hv => hnsc v (List.mem_of_mem_take hv))
              refine ⟨w', ?_, h2, rfl⟩
              have := hfc (min n dLen) (Nat.min_le_left _ _)
              simp only [Builtin.copy_, List.getElem?_toArray, List.getElem?_cons_zero, List.getElem?_cons_succ, Sem.run_bind, run_und E ht, hd, Result.andThen_ok, ren_slice, hlen, run_sz E he, hmin, this, h1, Sem.run_pure, goInt]
            · cases h
    · cases h
  · cases h

theorem clearQ_sound (E : Env) {ρ : Nat → Loc} {σ σ' : St} {w : World} (hR : Rel ρ σ w) {t : Nat} {x v : Value} (h : clearQ E σ t x = some (v, σ')) (ty : Nat) :
    ∃ w', (Builtin.clear_ #[t] ty #[ren ρ x]).run E.P w = .ok v w' ∧ Evo ρ σ w ρ σ' w' ∧ closedV 4 v = true := by
  unfold clearQ at h
  split at h
  · rename_i i ht
    split at h
    · rename_i e n c hd
      simp only [Option.some.injEq, Prod.mk.injEq] at h
      obtain ⟨rfl, rfl⟩ := h
      exact ⟨w, by simp [Builtin.clear_, run_und E ht, hd], Evo.refl hR, rfl⟩
    · rename_i e a n c hd
      cases he : E.ty e with
      | none => simp [he] at h
      | some j =>
        simp only [he] at h
        split at h
        · rename_i h0
          simp only [Option.some.injEq, Prod.mk.injEq] at h
          obtain ⟨rfl, rfl⟩ := h
          subst h0
          exact ⟨w, by simp [Builtin.clear_, run_und E ht, hd], Evo.refl hR, rfl⟩
        · rename_i h0
          split at h
          · rename_i σ₂ hst
            simp only [Option.some.injEq, Prod.mk.injEq] at h
            obtain ⟨rfl, rfl⟩ := h
            obtain ⟨w', h1, h2⟩ := stCells_sound E.P hR hst (repl_sc (zero_scs E he _) n)
            refine ⟨w', ?_, h2, rfl⟩
            rw [repl_ren E he] at h1
            obtain ⟨m, rfl⟩ : ∃ m, n = m + 1 := ⟨n - 1, by omega⟩
            simp [Builtin.clear_, run_und E ht, hd, run_zero E he, zeroCells_repl E he, h1]
          · cases h
    · cases h
  · cases h

theorem run_getMap {P : Program} {ρ : Nat → Loc} {σ : St} {w : World} (hR : Rel ρ σ w) {r : Nat} {es : List MapEntry} {c : Nat} (h : σ.get r = .map es c) : (getObj (ρ r).b).run P w = .ok (.map (es.map (renE ρ)).toArray c) w := by
  have := hR.blk r
  rw [h] at this
  simp [getObj, Sem.run, this.2]

theorem setObj_sound {P : Program} {ρ : Nat → Loc} {σ : St} {w : World} (hR : Rel ρ σ w) {r : Nat} {es : List MapEntry} {c : Nat} (h : σ.get r = .map es c) {es' : List MapEntry} {c' : Nat} (hs : ∀ e ∈ es', Sc σ.next e.key ∧ Sc σ.next e.val) :
    ∃ w', (setObj (ρ r).b (.map (es'.map (renE ρ)).toArray c')).run P w = .ok () w' ∧ Evo ρ σ w ρ (σ.set r (.map es' c')) w' := by
  have hb := hR.blk r
  rw [h] at hb
  have hlt := heap_lt hb.2
  refine ⟨{ w with heap := w.heap.setIfInBounds (ρ r).b (.map (es'.map (renE ρ)).toArray c') }, by simp [setObj, Sem.run, hb.2], Evo.write hR (by rw [h]; rfl) ⟨by simp, rfl, rfl, rfl, fun j hj => ?_⟩ ⟨hb.1, ?_⟩ hs⟩
  · simp only [Array.getElem?_setIfInBounds]; rw [if_neg (Ne.symm hj)]
  · simp [hlt]

theorem map_eraseIdx {α β : Type} (f : α → β) : ∀ (l : List α) (j : Nat), (l.map f).eraseIdx j = (l.eraseIdx j).map f
  | [], j => by simp
  | a :: l, 0 => by simp
  | a :: l, j + 1 => by simp [map_eraseIdx f l j]

theorem delQ_sound (E : Env) {ρ : Nat → Loc} {σ σ' : St} {w : World} (hR : Rel ρ σ w) {t tk : Nat} {m k v : Value} (h : delQ E σ t m k = some (v, σ')) (ty : Nat) :
    ∃ w', (Builtin.delete_ #[t, tk] ty #[ren ρ m, ren ρ k]).run E.P w = .ok v w' ∧ Evo ρ σ w ρ σ' w' ∧ closedV 4 v = true := by
  unfold delQ at h
  split at h
  · rename_i i ht
    split at h
    · rename_i kt et hd
      split at h
      · rename_i ki hki hk
        have hck := fun e w => run_checkKey E hk ρ e 9999 w
        split at h
        · simp only [Option.some.injEq, Prod.mk.injEq] at h
          obtain ⟨rfl, rfl⟩ := h
          exact ⟨w, by simp [Builtin.delete_, run_und E ht, hd, hck], Evo.refl hR, rfl⟩
        · rename_i r
          split at h
          · rename_i es c hσ
            have hgo := run_getMap (P := E.P) hR hσ
            have hsc : ∀ e ∈ es, Sc σ.next e.key ∧ Sc σ.next e.val := by have := hR.sc r; rw [hσ] at this; exact this
            split at h
            · rename_i j u hf
              simp only [Option.some.injEq, Prod.mk.injEq] at h
              obtain ⟨rfl, rfl⟩ := h
              have hfk := run_findKey E hki ρ hf w
              simp only [Option.map_some] at hfk
              obtain ⟨w', h1, h2⟩ := setObj_sound (P := E.P) hR hσ (es' := es.eraseIdx j) (c' := c) (fun e he => hsc e (List.mem_of_mem_eraseIdx he))
              refine ⟨w', ?_, h2, rfl⟩
              have e1 : ((es.map (renE ρ)).toArray).eraseIdxIfInBounds j = ((es.eraseIdx j).map (renE ρ)).toArray := by
                apply Array.ext'
                simp [map_eraseIdx]
              simp [Builtin.delete_, run_und E ht, hd, hck, hgo, hfk, map_eraseIdx, h1]
            · rename_i hf
              simp only [Option.some.injEq, Prod.mk.injEq] at h
              obtain ⟨rfl, rfl⟩ := h
              have hfk := run_findKey E hki ρ hf w
              simp only [Option.map_none] at hfk
              obtain ⟨w', h1, h2⟩ := setObj_sound (P := E.P) hR hσ (es' := es) (c' := c) hsc
              have hsame : w' = w := by
                have hb := hR.blk r
                rw [hσ] at hb
                simp only [setObj, Sem.run, hb.2, Result.ok.injEq, true_and] at h1
                rw [← h1]
                have : w.heap.setIfInBounds (ρ r).b (.map (es.map (renE ρ)).toArray c) = w.heap := by
                  apply Array.ext_getElem?
                  intro q
                  rw [Array.getElem?_setIfInBounds]
                  split
                  · rename_i e; subst e; rw [hb.2]; simp [heap_lt hb.2]
                  · rfl
                rw [this]
              refine ⟨w', ?_, by rw [hsame]; exact Evo.refl hR, rfl⟩
              simp [Builtin.delete_, run_und E ht, hd, hck, hgo, hfk, h1]
            · cases h
          · cases h
        · cases h
      · cases h
    · cases h
  · cases h

theorem sameBits_of_sameNow {ρ : Nat → Loc} {d : TypeDesc} {k k' : Value} (h : Instr.sameNow d k k' = some true) (n : Nat) : Instr.sameBits n (ren ρ k') (ren ρ k) = true := by
  unfold Instr.sameNow at h
  split at h
  · rename_i a b c d'
    split at h
    · rename_i hk
      simp only [Option.some.injEq, beq_iff_eq] at h
      subst hk; subst h
      simp [Instr.sameBits]
    · cases h
  · simp only [Option.some.injEq, beq_toListBytes] at h
    have := eq_of_beq h
    simp [Instr.sameBits, beq_toListBytes, this]
  · simp only [Option.some.injEq, beq_iff_eq] at h; subst h; simp [Instr.sameBits]
  · cases h

theorem mapUpdQ_sound (E : Env) {ρ : Nat → Loc} {σ σ' : St} {w : World} (hR : Rel ρ σ w) {t : Nat} {m k x : Value} (h : mapUpdQ E σ t m k x = some σ') (hk' : Sc σ.next k) (hx : Sc σ.next x) :
    ∃ w', (Instr.mapUpdate t (ren ρ m) (ren ρ k) (ren ρ x)).run E.P w = .ok () w' ∧ Evo ρ σ w ρ σ' w' := by
  unfold mapUpdQ at h
  split at h
  · rename_i i ht
    split at h
    · rename_i kt et hd
      split at h
      · rename_i ki hki hk
        have hck := fun e w => run_checkKey E hk ρ e 9999 w
        split at h
        · rename_i r
          split at h
          · rename_i es c hσ
            have hgo := run_getMap (P := E.P) hR hσ
            have hsc : ∀ e ∈ es, Sc σ.next e.key ∧ Sc σ.next e.val := by have := hR.sc r; rw [hσ] at this; exact this
            split at h
            · rename_i j u hf
              simp only [Option.some.injEq] at h
              subst h
              have hfk := run_findKey E hki ρ hf w
              simp only [Option.map_some] at hfk
              obtain ⟨_, e0, he0, _, hsn⟩ := findQ_lt hf
              simp only [Nat.sub_zero] at he0
              have hbits := sameBits_of_sameNow (ρ := ρ) hsn 10000
              obtain ⟨w', h1, h2⟩ := setObj_sound (P := E.P) hR hσ (es' := es.modify j fun e => { e with key := k, val := x }) (c' := c) (fun e he => by
                rw [List.mem_iff_getElem?] at he
                obtain ⟨q, hq⟩ := he
                rw [List.getElem?_modify] at hq
                simp only [Option.map_eq_map, Option.map_eq_some_iff] at hq
                obtain ⟨e1, he1, rfl⟩ := hq
                split
                · exact ⟨hk', hx⟩
                · exact hsc e1 (List.mem_of_getElem? he1))
              refine ⟨w', ?_, h2⟩
              have e1 : ((es.map (renE ρ)).toArray).modify j (fun e => { e with key := ren ρ k, val := ren ρ x }) = ((es.modify j fun e => { e with key := k, val := x }).map (renE ρ)).toArray := by
                apply Array.ext_getElem?
                intro q
                simp only [Array.getElem?_modify, List.getElem?_toArray, List.getElem?_map, List.getElem?_modify, Option.map_eq_map, Option.map_map]
                by_cases hq : j = q
                · simp only [hq, if_true]; rfl
                · simp only [hq, if_false]; rfl
              have e2 : (((es.map (renE ρ)).toArray)[j]?).map (·.key) = some (ren ρ e0.key) := by simp [he0, renE]
              simp only [Instr.mapUpdate, Sem.run_bind, run_und E ht, hd, Result.andThen_ok, ren_map, hgo, hck, hfk, e2, Option.getD_some, Instr.keyThatStays, hbits, if_true, Sem.run_pure, e1, h1]
            · rename_i hf
              simp only [Option.some.injEq] at h
              subst h
              have hfk := run_findKey E hki ρ hf w
              simp only [Option.map_none] at hfk
              obtain ⟨w', h1, h2⟩ := setObj_sound (P := E.P) hR hσ (es' := es ++ [({ key := k, val := x, born := c } : MapEntry)]) (c' := c + 1) (fun e he => by
                rcases List.mem_append.1 he with he | he
                · exact hsc e he
                · simp only [List.mem_singleton] at he; subst he; exact ⟨hk', hx⟩)
              refine ⟨w', ?_, h2⟩
              have e1 : ((es.map (renE ρ)).toArray).push ({ key := ren ρ k, val := ren ρ x, born := c } : MapEntry) = ((es ++ [({ key := k, val := x, born := c } : MapEntry)]).map (renE ρ)).toArray := by
                apply Array.ext'
                simp [renE]
              simp only [Instr.mapUpdate, Sem.run_bind, run_und E ht, hd, Result.andThen_ok, ren_map, hgo, hck, hfk, e1, h1]
            · cases h
          · cases h
        · cases h
      · cases h
    · cases h
  · cases h

/-- A new block that is no row of cells. -/
theorem alloc_obj {ρ : Nat → Loc} {σ : St} {w w' : World} (hR : Rel ρ σ w) (o : Obj) (b : Blk) (hw : Like (w.alloc o) w') (hb : BlkRel (upd ρ σ.next ⟨w.heap.size, 0, 0⟩) ⟨w.heap.size, 0, 0⟩ (w.alloc o) b) (hs : b.sc (σ.next + 1)) :
    Evo ρ σ w (upd ρ σ.next ⟨w.heap.size, 0, 0⟩) (σ.push b) w' := Evo.alloc hR o b 0 hw hb hs

theorem get_new (w : World) (o : Obj) : (w.alloc o).heap[w.heap.size]? = some o := by
  show (w.heap.push o)[w.heap.size]? = _
  simp

theorem rangeQ_sound (E : Env) {ρ : Nat → Loc} {σ σ' : St} {w : World} (hR : Rel ρ σ w) {t : Nat} {x v : Value} (h : rangeQ E σ t x = some (v, σ')) (hx : Sc σ.next x) :
    ∃ w' ρ', (Instr.range t (ren ρ x)).run E.P w = .ok (ren ρ' v) w' ∧ Evo ρ σ w ρ' σ' w' ∧ Sc σ'.next v := by
  unfold rangeQ at h
  split at h
  · rename_i i ht
    split at h
    · rename_i s hd
      simp only [Option.some.injEq, Prod.mk.injEq] at h
      obtain ⟨rfl, rfl⟩ := h
      refine ⟨_, _, ?_, alloc_obj hR (.stringIter s 0) (.siter s 0) (Like.refl _) ⟨rfl, get_new _ _⟩ trivial, Sc_ptr (by simp)⟩
      rw [ren_new _ _ _ rfl]
      simp [Instr.range, run_und E ht, hd]
    · rename_i k e hd
      simp only [Option.some.injEq, Prod.mk.injEq] at h
      obtain ⟨rfl, rfl⟩ := h
      refine ⟨_, _, ?_, alloc_obj hR (.mapIter none 0 #[] 0) (.miter none 0 [] 0) (Like.refl _) ⟨rfl, get_new _ _⟩ trivial, Sc_ptr (by simp)⟩
      rw [ren_new _ _ _ rfl]
      simp [Instr.range, run_und E ht, hd]
    · rename_i k e m hd
      split at h
      · rename_i es c hσ
        simp only [Option.some.injEq, Prod.mk.injEq] at h
        obtain ⟨rfl, rfl⟩ := h
        have hm := Sc_map_lt hx
        refine ⟨_, _, ?_, alloc_obj hR (.mapIter (some (ρ m).b) c #[] c) (.miter (some m) c [] c) (Like.refl _) ⟨rfl, ?_⟩ (Nat.lt_succ_of_lt hm), Sc_ptr (by simp)⟩
        · rw [ren_new _ _ _ rfl]
          simp [Instr.range, run_und E ht, hd, run_getMap hR hσ]
        · rw [get_new]
          simp [upd_lt ρ _ hm]
      · cases h
    · cases h
  · cases h

theorem getObj_iter {P : Program} {ρ : Nat → Loc} {σ : St} {w : World} (hR : Rel ρ σ w) {r : Nat} {m : Option Nat} {a c : Nat} {b : List Nat} (h : σ.get r = .miter m a b c) : (getObj (ρ r).b).run P w = .ok (.mapIter (m.map fun i => (ρ i).b) a b.toArray c) w ∧ (ρ r).o = 0 := by
  have := hR.blk r
  rw [h] at this
  exact ⟨by simp [getObj, Sem.run, this.2], this.1⟩

theorem setIter {P : Program} {ρ : Nat → Loc} {σ : St} {w : World} (hR : Rel ρ σ w) {r : Nat} (hr : (σ.get r).wr = true) {o : Obj} {b : Blk} (ho : ∃ o', w.heap[(ρ r).b]? = some o' ∧ ∀ c e f, o' ≠ .cells c e f)
    (hb : ∀ w', w'.heap[(ρ r).b]? = some o → BlkRel ρ (ρ r) w' b) (hs : b.sc σ.next) : ∃ w', (setObj (ρ r).b o).run P w = .ok () w' ∧ Evo ρ σ w ρ (σ.set r b) w' := by
  obtain ⟨o', h1, h2⟩ := ho
  have hlt := heap_lt h1
  refine ⟨{ w with heap := w.heap.setIfInBounds (ρ r).b o }, ?_, Evo.write hR hr ⟨by simp, rfl, rfl, rfl, fun j hj => ?_⟩ (hb _ (by simp [hlt])) hs⟩
  · simp only [setObj, Sem.run, h1]
  · simp only [Array.getElem?_setIfInBounds]; rw [if_neg (Ne.symm hj)]

theorem entryQ_sound (P : Program) {ρ : Nat → Loc} {σ : St} {w : World} (hR : Rel ρ σ w) {it v : Value} (h : entryQ σ it = some v) :
    (Instr.entry (ren ρ it)).run P w = .ok (ren ρ v) w ∧ Sc σ.next v := by
  unfold entryQ at h
  split at h
  · rename_i r
    split at h
    · rename_i m a seen stepped hσ
      obtain ⟨hg, h0⟩ := getObj_iter (P := P) hR hσ
      split at h
      · rename_i stamp es clock hst hm
        split at h
        · rename_i hcl
          split at h
          · rename_i e he
            simp only [Option.some.injEq] at h
            subst h
            have hsc : ∀ e ∈ es, Sc σ.next e.key ∧ Sc σ.next e.val := by have := hR.sc m; rw [hm] at this; exact this
            have hmem := List.mem_of_find?_eq_some he
            refine ⟨?_, Sc_tuple.2 (by intro u hu; simp at hu; rcases hu with rfl | rfl; exact (hsc e hmem).1; exact (hsc e hmem).2)⟩
            have hf : (es.map (renE ρ)).find? (fun e => e.born == stamp) = some (renE ρ e) := by
              rw [List.find?_map]
              have : ((fun e => e.born == stamp) ∘ renE ρ) = (fun (e : MapEntry) => e.born == stamp) := by funext e; rfl
              rw [this, he]; rfl
            have hback : seen.toArray.back? = some stamp := by simp [Array.back?, ← List.getLast?_eq_getElem?, hst]
            subst hcl
            simp [Instr.entry, renA, h0, hg, hback, run_getMap hR hm, hf, renE]
          · cases h
        · cases h
      · cases h
    · cases h
  · cases h


theorem filter_ren (ρ : Nat → Loc) (p q : MapEntry → Bool) (hpq : ∀ e, q (renE ρ e) = p e) (l : List MapEntry) : (l.map (renE ρ)).filter q = (l.filter p).map (renE ρ) := by
  rw [List.filter_map]
  congr 1
  congr 1
  funext e
  exact hpq e

/-- The candidates, in the world. -/
theorem cands_ren (ρ : Nat → Loc) (es : List MapEntry) (since : Nat) (seen : List Nat) (left old new : Array MapEntry)
    (hl : left = (es.map (renE ρ)).toArray.filter fun e => !seen.toArray.contains e.born) (ho : old = left.filter (·.born < since)) (hn : new = left.filter (·.born ≥ since)) :
    ((if old.isEmpty then #[none] else #[]) ++ (old ++ new).map some) = ((cands es since seen).map (Option.map (renE ρ))).toArray := by
  have e1 : left.toList = (es.filter fun e => !seen.contains e.born).map (renE ρ) := by
    rw [hl]
    simp only [Array.toList_filter, List.toList_toArray]
    exact filter_ren ρ _ _ (fun e => by simp [renE]) es
  have e2 : old.toList = ((es.filter fun e => !seen.contains e.born).filter fun e => decide (e.born < since)).map (renE ρ) := by
    rw [ho, Array.toList_filter, e1]
    exact filter_ren ρ _ _ (fun e => rfl) _
  have e3 : new.toList = ((es.filter fun e => !seen.contains e.born).filter fun e => decide (e.born ≥ since)).map (renE ρ) := by
    rw [hn, Array.toList_filter, e1]
    exact filter_ren ρ _ _ (fun e => rfl) _
  have e4 : old.isEmpty = ((es.filter fun e => !seen.contains e.born).filter fun e => decide (e.born < since)).isEmpty := by
    have := congrArg List.isEmpty e2
    simpa using this
  apply Array.ext'
  unfold cands
  simp only [Array.toList_append, Array.toList_map, e2, e3, e4]
  cases ((es.filter fun e => !seen.contains e.born).filter fun e => decide (e.born < since)).isEmpty <;> simp [Function.comp_def]

end
end AH
