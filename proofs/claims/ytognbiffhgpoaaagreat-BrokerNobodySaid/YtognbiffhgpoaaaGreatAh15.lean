/-
  AH 15: iterators' steps; all operations that write.
-/
import Derived.Test.YtognbiffhgpoaaaGreatAh14
set_option linter.unusedSimpArgs false
set_option linter.unusedVariables false
namespace AH
open Go
noncomputable section

theorem cands_ne (es : List MapEntry) (since : Nat) (seen : List Nat) : cands es since seen ≠ [] := by
  unfold cands
  simp only
  cases h : ((es.filter fun e => !seen.contains e.born).filter fun e => decide (e.born < since)) with
  | nil => simp
  | cons a l => simp

theorem cands_sc {n : Nat} {es : List MapEntry} {since : Nat} {seen : List Nat} (h : ∀ e ∈ es, Sc n e.key ∧ Sc n e.val) {e : MapEntry} (he : some e ∈ cands es since seen) : Sc n e.key ∧ Sc n e.val := by
  apply h
  unfold cands at he
  simp only [List.mem_append, List.mem_map, Option.some.injEq, exists_eq_right] at he
  rcases he with he | he | he
  · split at he <;> simp at he
  · exact (List.mem_filter.1 (List.mem_filter.1 he).1).1
  · exact (List.mem_filter.1 (List.mem_filter.1 he).1).1

/-- A step of a map's iterator: whichever candidate the tape picks. -/
theorem next_any (P : Program) {ρ : Nat → Loc} {σ : St} {w : World} (hR : Rel ρ σ w) {r m since : Nat} {seen : List Nat} {last : Nat} {es : List MapEntry} {clock : Nat}
    (hr : σ.get r = .miter (some m) since seen last) (hm : σ.get m = .map es clock) (hok : (!seen.isEmpty && !es.isEmpty && es.all (fun e => decide (e.born ≥ last))) = false) (ty : Nat) :
    ∃ c w', c ∈ cands es since seen ∧ (Instr.next (ren ρ (.pointer (some ⟨r, 0, none⟩))) false ty).run P w = .ok (ren ρ (nextDone r σ m since seen clock c).1) w' ∧
      Evo ρ σ w ρ (nextDone r σ m since seen clock c).2 w' ∧ Sc σ.next (nextDone r σ m since seen clock c).1 := by
  obtain ⟨hg, h0⟩ := getObj_iter (P := P) hR hr
  have hgm := fun w (h : Rel ρ σ w) => run_getMap (P := P) h hm
  have hsc : ∀ e ∈ es, Sc σ.next e.key ∧ Sc σ.next e.val := by have := hR.sc m; rw [hm] at this; exact this
  have hcond : (!seen.toArray.isEmpty && !((es.map (renE ρ)).toArray).isEmpty && ((es.map (renE ρ)).toArray).all (fun e => decide (e.born ≥ last))) = false := by
    rw [← hok]
    congr 1
    · congr 1
      · cases seen <;> simp
      · cases es <;> simp
    · simp [renE, Function.comp_def]; rfl
  have hcr := cands_ren ρ es since seen _ _ _ rfl rfl rfl
  generalize hcs : (cands es since seen) = cs at hcr
  have hne : cs ≠ [] := hcs ▸ cands_ne es since seen
  have hpos : 0 < cs.length := List.length_pos_iff.2 hne
  -- what the tape picks
  have hch : ∃ k w₁, k < cs.length ∧ Like w w₁ ∧ (choose (.mapNext cs.length)).run P w = .ok k w₁ := by
    rw [run_choose]
    by_cases hf : (Question.mapNext cs.length).forced = true
    · exact ⟨0, w, hpos, Like.refl w, by rw [if_pos hf]⟩
    · exact ⟨_, _, Nat.mod_lt _ hpos, Like.drew w, by rw [if_neg hf]; rfl⟩
  obtain ⟨k, w₁, hk, hlike, hch⟩ := hch
  have hR1 := hR.like hlike
  obtain ⟨c, hc⟩ : ∃ c, cs[k]? = some c := ⟨cs[k], List.getElem?_eq_getElem hk⟩
  have hmem : c ∈ cs := List.mem_of_getElem? hc
  have hrun : ∀ (x : Value) (w' : World), (match (c.map (renE ρ)) with
      | some e => (do setObj (ρ r).b (.mapIter (some (ρ m).b) since (seen.toArray.push e.born) clock); pure (.tuple #[.bool true, e.key, e.val]) : Sem Value)
      | none => pure (.tuple #[.bool false])).run P w₁ = .ok x w' → (Instr.next (ren ρ (.pointer (some ⟨r, 0, none⟩))) false ty).run P w = .ok x w' := by
    intro x w' hx
    simp only [ren_ptr, renA, h0, Nat.add_zero]
    unfold Instr.next
    simp only [Sem.run_bind, hg, Option.map_some, Result.andThen_ok, hgm w hR, hcond, Bool.false_eq_true, if_false, Sem.run_pure]
    rw [hcr]
    simp only [List.size_toArray, List.length_map, hch, Result.andThen_ok, List.getElem?_toArray, List.getElem?_map, hc, Option.map_some]
    cases c with
    | none => simpa using hx
    | some e => simpa using hx
  cases c with
  | none =>
    refine ⟨none, w₁, hmem, ?_, Evo.like hR hlike, ?_⟩
    · refine hrun _ _ ?_
      simp [nextDone]
    · exact Sc_tuple.2 (by intro u hu; simp at hu; subst hu; simp)
  | some e =>
    have hes := cands_sc hsc (hcs ▸ hmem)
    have hb := hR1.blk r
    rw [hr] at hb
    obtain ⟨w', h1, h2⟩ := setIter (P := P) hR1 (r := r) (by rw [hr]; rfl) (o := .mapIter (some (ρ m).b) since (seen ++ [e.born]).toArray clock) (b := .miter (some m) since (seen ++ [e.born]) clock)
      ⟨_, hb.2, by simp⟩ (fun w' hw' => ⟨h0, by rw [hw']; simp⟩) (by have := hR.sc r; rw [hr] at this; exact this)
    refine ⟨some e, w', hmem, ?_, (Evo.like hR hlike).trans h2, ?_⟩
    · refine hrun _ _ ?_
      simp [nextDone, renE, h1]
    · exact Sc_tuple.2 (by intro u hu; simp at hu; rcases hu with rfl | rfl | rfl; simp; exact hes.1; exact hes.2)


theorem nextQ_sound (P : Program) {ρ : Nat → Loc} {σ σ' : St} {w : World} (hR : Rel ρ σ w) {it v : Value} {isS : Bool} (h : nextQ σ it isS = some (v, σ')) (ty : Nat) :
    ∃ w', (Instr.next (ren ρ it) isS ty).run P w = .ok (ren ρ v) w' ∧ Evo ρ σ w ρ σ' w' ∧ Sc σ'.next v := by
  unfold nextQ at h
  split at h
  · rename_i r
    split at h
    · rename_i s pos hσ
      have hb := hR.blk r
      rw [hσ] at hb
      have hg : (getObj (ρ r).b).run P w = .ok (.stringIter s pos) w := by simp [getObj, Sem.run, hb.2]
      split at h
      · rename_i hp
        simp only [Option.some.injEq, Prod.mk.injEq] at h
        obtain ⟨rfl, rfl⟩ := h
        obtain ⟨w', h1, h2⟩ := setIter (P := P) hR (r := r) (by rw [hσ]; rfl) (o := .stringIter s (pos + (Utf8.decode s pos).2)) (b := .siter s (pos + (Utf8.decode s pos).2))
          ⟨_, hb.2, by simp⟩ (fun w' hw' => ⟨hb.1, hw'⟩) trivial
        refine ⟨w', ?_, h2, Sc_tuple.2 (by intro u hu; simp at hu; rcases hu with rfl | rfl | rfl <;> simp)⟩
        simp [Instr.next, renA, hb.1, hg, hp, h1, goInt]
      · rename_i hp
        simp only [Option.some.injEq, Prod.mk.injEq] at h
        obtain ⟨rfl, rfl⟩ := h
        refine ⟨w, ?_, Evo.refl hR, Sc_tuple.2 (by intro u hu; simp at hu; subst hu; simp)⟩
        simp [Instr.next, renA, hb.1, hg, hp]
    · rename_i a b c hσ
      simp only [Option.some.injEq, Prod.mk.injEq] at h
      obtain ⟨rfl, rfl⟩ := h
      obtain ⟨hg, h0⟩ := getObj_iter (P := P) hR hσ
      refine ⟨w, ?_, Evo.refl hR, Sc_tuple.2 (by intro u hu; simp at hu; subst hu; simp)⟩
      simp [Instr.next, renA, h0, hg]
    · rename_i m since seen last hσ
      split at h
      · rename_i es clock hm
        split at h
        · cases h
        · rename_i hok
          obtain ⟨c, w', h1, h2, h3, h4⟩ := next_any P hR hσ hm (by simpa using hok) ty
          split at h
          · rename_i c' hc
            simp only [Option.some.injEq] at h
            rw [hc] at h1
            simp only [List.mem_singleton] at h1
            subst h1
            rw [h] at h2 h3 h4
            exact ⟨w', h2, h3, h4.mono h3.next⟩
          · cases h
      · cases h
    · cases h
  · cases h

theorem bytesOf_sound (P : Program) (w : World) (ρ : Nat → Loc) (g : Value → ByteArray → Sem (ForInStep ByteArray)) (hg : ∀ n r, g (.int .u8 n) r = pure (ForInStep.yield (r.push (UInt8.ofNat n.toNat)))) :
    ∀ {l : List Value} {bs : List UInt8}, bytesOf l = some bs → ∀ acc : ByteArray, (forIn (l.map (ren ρ)) acc g).run P w = .ok ⟨acc.data ++ bs.toArray⟩ w
  | [], bs, h, acc => by simp only [bytesOf, Option.some.injEq] at h; subst h; simp
  | v :: r, bs, h, acc => by
    simp only [bytesOf] at h
    split at h
    · rename_i b hb
      split at h
      · rename_i l hl
        simp only [Option.some.injEq] at h
        subst h
        unfold byteOf at hb
        split at hb
        · rename_i n
          simp only [Option.some.injEq] at hb
          subst hb
          have := bytesOf_sound P w ρ g hg hl (acc.push (UInt8.ofNat n.toNat))
          simp only [List.map_cons, ren_int, List.forIn_cons, hg, Sem.run_bind, Sem.run_pure, Result.andThen_ok, this]
          congr 1
          apply ByteArray.ext
          simp [ByteArray.push]
        · cases hb
      · cases h
    · cases h

end
end AH
