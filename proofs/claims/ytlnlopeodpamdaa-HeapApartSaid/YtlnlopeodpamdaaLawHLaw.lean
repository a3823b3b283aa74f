/-
  A heap in which blocks were taken one behind the other: its state, in plain Lean.
-/
import Derived.Test.YtlnlopeodpamdaaLawHCopy
set_option maxRecDepth 100000
set_option linter.unusedVariables false
namespace Go.Proofs.Ytlnlopeodpamdaa.Hx
open Go AH Go.Proofs
noncomputable section

theorem putAt_get : ∀ (vs cs : List Value) (o i : Nat), o + vs.length ≤ cs.length → (putAt cs o vs)[i]? = if o ≤ i ∧ i < o + vs.length then vs[i - o]? else cs[i]?
  | [], cs, o, i, h => by
    show cs[i]? = _
    rw [if_neg (fun h' => by have h1 := h'.1; have h2 : i < o + 0 := h'.2; omega)]
  | v :: vs, cs, o, i, h => by
    show (putAt (cs.set o v) (o + 1) vs)[i]? = _
    have hl : (v :: vs).length = vs.length + 1 := rfl
    rw [hl] at h ⊢
    rw [putAt_get vs (cs.set o v) (o + 1) i (by rw [List.length_set]; omega), List.getElem?_set]
    by_cases h1 : o = i
    · subst h1
      rw [if_neg (by omega), if_pos rfl, if_pos (by omega), if_pos (by omega), Nat.sub_self]
      rfl
    · rw [if_neg h1]
      by_cases h2 : o + 1 ≤ i ∧ i < o + 1 + vs.length
      · rw [if_pos h2, if_pos (by omega), show i - o = (i - (o + 1)) + 1 by omega, List.getElem?_cons_succ]
      · rw [if_neg h2, if_neg (by omega)]
theorem setR_get (v : Value) (l : List Value) (p : Nat) : ∀ (k i : Nat), p + k ≤ l.length → (setR v l p k)[i]? = if p ≤ i ∧ i < p + k then some v else l[i]?
  | 0, i, h => by rw [if_neg (by omega)]; rfl
  | k + 1, i, h => by
    rw [setR, putAt_get _ _ _ _ (by rw [setR_len]; show p + k + 1 ≤ _; omega), setR_get v l p k i (by omega)]
    show (if p + k ≤ i ∧ i < p + k + 1 then [v][i - (p + k)]? else _) = _
    by_cases h1 : p + k ≤ i ∧ i < p + k + 1
    · rw [if_pos h1, if_pos (by omega), show i - (p + k) = 0 by omega]; rfl
    · rw [if_neg h1]
      by_cases h2 : p ≤ i ∧ i < p + k
      · rw [if_pos h2, if_pos (by omega)]
      · rw [if_neg h2, if_neg (by omega)]
theorem repl_get (v : Value) : ∀ k i, i < k → (repl k [v])[i]? = some v
  | 0, i, h => by omega
  | k + 1, 0, h => rfl
  | k + 1, i + 1, h => by
    show (v :: repl k [v])[i + 1]? = _
    rw [List.getElem?_cons_succ, repl_get v k i (by omega)]
theorem repl_len (v : Value) (k : Nat) : (repl k [v]).length = k := by rw [repl_length]; simp

/-- Blocks that were taken, the last one first: each one's words, and what is stored in all of them. -/
abbrev BL := List (Nat × Nat)
def offL : BL → Nat
  | [] => 0
  | b :: r => offL r + b.1
def entL (b : Nat × Nat) (r : BL) : MapEntry := { key := .int .i64 ((2 + offL r : Nat) : Int), val := blkV ((2 + offL r : Nat) : Int) (b.1 : Int) 0 true, born := r.length }
def esL : BL → List MapEntry
  | [] => []
  | b :: r => esL r ++ [entL b r]
def genL (r : BL) : MapEntry := { key := .int .i64 ((2 + offL r : Nat) : Int), val := .int .i64 1, born := r.length }
def gsL : BL → List MapEntry
  | [] => []
  | b :: r => gsL r ++ [genL r]
def wsL : BL → List Value
  | [] => repl 128 [.int .u64 0]
  | b :: r => setR (.int .u64 (b.2 : Int)) (putAt (wsL r) (2 + offL r) (repl b.1 [.int .u64 0])) (2 + offL r) b.1
def bsL : BL → List Value
  | [] => setR (.bool true) (repl 128 [.bool false]) 2 126
  | b :: r => setR (.bool false) (bsL r) (2 + offL r) b.1
def blL : BL → List BV
  | [] => []
  | b :: r => blL r ++ [(((2 + offL r : Nat) : Int), ((b.1 : Nat) : Int), (0 : Int), true)]
def apS (L : BL) (c1 : Int) : HS := { first := 2, words := 126, bad := 0, es := esL L, clock := L.length, gs := gsL L, gclock := L.length, wv := .slice none 0 0, wb := .dead, cs := csL c1, n := 127, ws := wsL L, bs := bsL L, row := false }

/-- All blocks fit, and are not empty. -/
def FitL : BL → Prop
  | [] => True
  | b :: r => 1 ≤ b.1 ∧ 2 + offL r + b.1 ≤ 128 ∧ 1 ≤ b.2 ∧ FitL r

theorem wsL_len : ∀ L, (wsL L).length = 128
  | [] => repl_len _ _
  | b :: r => by rw [wsL, setR_len, putAt_length, wsL_len r]
theorem bsL_len : ∀ L, (bsL L).length = 128
  | [] => by rw [bsL, setR_len, repl_len]
  | b :: r => by rw [bsL, setR_len, bsL_len r]
theorem esL_len : ∀ L, (esL L).length = L.length
  | [] => rfl
  | b :: r => by rw [esL, List.length_append, esL_len r]; rfl
theorem blL_len : ∀ L, (blL L).length = L.length
  | [] => rfl
  | b :: r => by rw [blL, List.length_append, blL_len r]; rfl
theorem bvOf_ent (b : Nat × Nat) (r : BL) : bvOf (entL b r) = (((2 + offL r : Nat) : Int), ((b.1 : Nat) : Int), (0 : Int), true) := rfl
theorem esL_bv : ∀ L, (esL L).map bvOf = blL L
  | [] => rfl
  | b :: r => by rw [esL, List.map_append, esL_bv r]; rfl
theorem offL_le {L : BL} (h : FitL L) : 2 + offL L ≤ 128 := by
  cases L with
  | nil => show 2 + 0 ≤ 128; omega
  | cons b r => have := h.2.1; show 2 + (offL r + b.1) ≤ 128; omega

/-- Each block lies in what was taken. -/
theorem blL_mem : ∀ {L : BL}, FitL L → ∀ x ∈ blL L, ∃ p k : Nat, x = ((p : Int), (k : Int), 0, true) ∧ 2 ≤ p ∧ 1 ≤ k ∧ p + k ≤ 2 + offL L
  | [], _, x, hx => by simp [blL] at hx
  | b :: r, h, x, hx => by
    rw [blL] at hx
    rcases List.mem_append.1 hx with hx | hx
    · obtain ⟨p, k, h1, h2, h3, h4⟩ := blL_mem h.2.2.2 x hx
      exact ⟨p, k, h1, h2, h3, by show p + k ≤ 2 + (offL r + b.1); omega⟩
    · simp only [List.mem_singleton] at hx
      exact ⟨2 + offL r, b.1, hx, by omega, h.1, by show 2 + offL r + b.1 ≤ 2 + (offL r + b.1); omega⟩
theorem blL_rise : ∀ {L : BL}, FitL L → (blL L).Pairwise (fun x y => x.1 + x.2.1 ≤ y.1 ∧ x.1 < y.1)
  | [], _ => List.Pairwise.nil
  | b :: r, h => by
    rw [blL, List.pairwise_append]
    refine ⟨blL_rise h.2.2.2, List.pairwise_singleton _ _, fun x hx y hy => ?_⟩
    obtain ⟨p, k, h1, h2, h3, h4⟩ := blL_mem h.2.2.2 x hx
    simp only [List.mem_singleton] at hy
    subst hy; subst h1
    exact ⟨by show (p : Int) + (k : Int) ≤ ((2 + offL r : Nat) : Int); omega, by show (p : Int) < ((2 + offL r : Nat) : Int); omega⟩
theorem blL_nodup {L : BL} (h : FitL L) : ((blL L).map (·.1)).Nodup := by
  rw [List.Nodup, List.pairwise_map]
  exact (blL_rise h).imp fun hxy e => by have := hxy.2; omega
theorem blL_sorted {L : BL} (h : FitL L) : sortB (blL L) = blL L := (sortB_unique (blL_nodup h) (List.Perm.refl _) ((blL_rise h).imp fun hxy => by have := hxy.2; omega)).symm

theorem esL_mem : ∀ {L : BL}, FitL L → ∀ e ∈ esL L, ∃ p k : Nat, e.key = .int .i64 (p : Int) ∧ e.val = blkV (p : Int) (k : Int) 0 true ∧ 2 ≤ p ∧ 1 ≤ k ∧ p + k ≤ 2 + offL L ∧ e.born < L.length
  | [], _, x, hx => by simp [esL] at hx
  | b :: r, h, x, hx => by
    rw [esL] at hx
    rcases List.mem_append.1 hx with hx | hx
    · obtain ⟨p, k, h1, h2, h3, h4, h5, h6⟩ := esL_mem h.2.2.2 x hx
      exact ⟨p, k, h1, h2, h3, h4, by show p + k ≤ 2 + (offL r + b.1); omega, by show x.born < r.length + 1; omega⟩
    · simp only [List.mem_singleton] at hx
      subst hx
      exact ⟨2 + offL r, b.1, rfl, rfl, by omega, h.1, by show 2 + offL r + b.1 ≤ 2 + (offL r + b.1); omega, by show r.length < r.length + 1; omega⟩
theorem gsL_mem : ∀ (L : BL), ∀ e ∈ gsL L, ∃ p : Nat, e.key = .int .i64 (p : Int) ∧ e.val = .int .i64 1
  | [], x, hx => by simp [gsL] at hx
  | b :: r, x, hx => by
    rw [gsL] at hx
    rcases List.mem_append.1 hx with hx | hx
    · exact gsL_mem r x hx
    · simp only [List.mem_singleton] at hx
      subst hx
      exact ⟨2 + offL r, rfl, rfl⟩
theorem esL_born : ∀ L : BL, (esL L).map (·.born) = List.range L.length
  | [] => rfl
  | b :: r => by
    rw [esL, List.map_append, esL_born r]
    show _ ++ [r.length] = List.range (r.length + 1)
    rw [List.range_succ]
theorem esL_stamped {L : BL} (h : FitL L) : Stamped (esL L) L.length := ⟨by rw [esL_born]; exact List.nodup_range, fun e he => by
  obtain ⟨_, _, _, _, _, _, _, h6⟩ := esL_mem h e he
  exact h6⟩
theorem findI_none {es : List MapEntry} {a : Int} (h : ∀ e ∈ es, ∃ z, e.key = .int .i64 z ∧ z ≠ a) : ∀ i, findI a es i = none := by
  induction es with
  | nil => intro i; rfl
  | cons e r ih =>
    intro i
    obtain ⟨z, hz, hne⟩ := h e (by simp)
    simp only [findI, hz]
    rw [if_neg (by omega)]
    exact ih (fun e he => h e (by simp [he])) _
theorem esL_fresh {L : BL} (h : FitL L) : findI ((2 + offL L : Nat) : Int) (esL L) 0 = none := findI_none (fun e he => by
  obtain ⟨p, k, h1, h2, h3, h4, h5, h6⟩ := esL_mem h e he
  exact ⟨_, h1, by omega⟩) 0
theorem gsL_fresh : ∀ {L : BL}, FitL L → ∀ {a : Nat}, 2 + offL L ≤ a → ∀ i, findI (a : Int) (gsL L) i = none
  | [], _, a, _ => fun i => rfl
  | b :: r, h, a, ha => findI_none (fun e he => by
    have : ∀ {L : BL}, FitL L → ∀ e ∈ gsL L, ∃ p : Nat, e.key = .int .i64 (p : Int) ∧ p < 2 + offL L := by
      intro L
      induction L with
      | nil => intro _ e he; simp [gsL] at he
      | cons b r ih =>
        intro h e he
        rw [gsL] at he
        rcases List.mem_append.1 he with he | he
        · obtain ⟨p, h1, h2⟩ := ih h.2.2.2 e he
          exact ⟨p, h1, by show p < 2 + (offL r + b.1); omega⟩
        · simp only [List.mem_singleton] at he
          subst he
          exact ⟨2 + offL r, rfl, by have := h.1; show 2 + offL r < 2 + (offL r + b.1); omega⟩
    obtain ⟨p, h1, h2⟩ := this h e he
    exact ⟨_, h1, by omega⟩)

theorem gap_end (w : Int) (hw : 1 ≤ w) : ∀ {L : BL}, FitL L → gap w (blL L) 2 = (((2 + offL L : Nat) : Int), false) := by
  have app : ∀ (l : List BV) (b : BV) (a : Int), (gap w l a).2 = false → gap w (l ++ [b]) a = if w ≤ b.1 - (gap w l a).1 then ((gap w l a).1, true) else (b.1 + b.2.1, false) := by
    intro l
    induction l with
    | nil => intro b a _; rfl
    | cons x r ih =>
      intro b a h
      show (if w ≤ x.1 - a then (a, true) else gap w (r ++ [b]) (x.1 + x.2.1)) = _
      by_cases hx : w ≤ x.1 - a
      · simp only [gap, if_pos hx] at h
        cases h
      · simp only [gap, if_neg hx] at h ⊢
        exact ih b _ h
  intro L
  induction L with
  | nil => intro _; rfl
  | cons b r ih =>
    intro h
    have h0 := ih h.2.2.2
    rw [blL, app _ _ _ (by rw [h0]), h0]
    show (if w ≤ ((2 + offL r : Nat) : Int) - ((2 + offL r : Nat) : Int) then _ else (((2 + offL r : Nat) : Int) + (b.1 : Int), false)) = _
    rw [if_neg (by omega)]
    have : ((2 + offL r : Nat) : Int) + (b.1 : Int) = ((2 + offL (b :: r) : Nat) : Int) := by
      show _ = ((2 + (offL r + b.1) : Nat) : Int); omega
    rw [this]

/-! ### The state's properties -/
theorem pure_mapE {es : List MapEntry} (h : ∀ e ∈ es, ∀ ρ : Nat → AH.Loc, AH.ren ρ e.key = e.key ∧ AH.ren ρ e.val = e.val) (ρ : Nat → AH.Loc) : es.map (renE ρ) = es :=
  (List.map_congr_left fun e he => by rw [renE, (h e he ρ).1, (h e he ρ).2]; rfl).trans (List.map_id _)
theorem repl_pure {v : Value} (hv : ∀ ρ : Nat → AH.Loc, AH.ren ρ v = v) (k : Nat) (ρ : Nat → AH.Loc) : (repl k [v]).map (AH.ren ρ) = repl k [v] := repl_map (hv ρ) k
theorem wsL_pure : ∀ (L : BL) (ρ : Nat → AH.Loc), (wsL L).map (AH.ren ρ) = wsL L
  | [], ρ => repl_pure (fun ρ => by simp) _ ρ
  | b :: r, ρ => by
    rw [wsL]
    refine setR_map ?_ (by simp) _ _
    rw [putAt_map, wsL_pure r ρ, repl_pure (fun ρ => by simp)]
theorem bsL_pure : ∀ (L : BL) (ρ : Nat → AH.Loc), (bsL L).map (AH.ren ρ) = bsL L
  | [], ρ => setR_map (repl_pure (fun ρ => by simp) _ ρ) (by simp) _ _
  | b :: r, ρ => by
    rw [bsL]
    exact setR_map (bsL_pure r ρ) (by simp) _ _
theorem csL_pure (c1 : Int) (ρ : Nat → AH.Loc) : (csL c1).map (AH.ren ρ) = csL c1 := by simp [csL]
theorem blkV_pure (a l g : Int) (v : Bool) (ρ : Nat → AH.Loc) : AH.ren ρ (blkV a l g v) = blkV a l g v := by simp [blkV]

theorem apS_nice {L : BL} (h : FitL L) (c1 : Int) : (apS L c1).Nice 0 [] :=
  ⟨pure_mapE fun e he ρ => by
      obtain ⟨p, k, h1, h2, _⟩ := esL_mem h e he
      rw [h1, h2, blkV_pure]
      exact ⟨by simp, rfl⟩,
    pure_mapE fun e he ρ => by
      obtain ⟨p, h1, h2⟩ := gsL_mem L e he
      rw [h1, h2]
      exact ⟨by simp, by simp⟩, csL_pure c1, wsL_pure L, bsL_pure L, fun ρ => rfl, rfl, wsL_len L, bsL_len L, by show 127 < 1000000; omega, .inl ⟨rfl, rfl, rfl⟩, fun _ => rfl⟩
theorem apS_good {L : BL} (h : FitL L) (c1 : Int) (hl : L.length ≤ 1000) : (apS L c1).Good :=
  ⟨(apS_nice h c1).ok, esL_stamped h, fun e he => by
      obtain ⟨p, k, h1, h2, h3, h4, h5, _⟩ := esL_mem h e he
      exact ⟨_, _, _, _, h2, h1, by omega⟩, by show (esL L).length ≤ _; rw [esL_len]; omega, by show (((esL L).map bvOf).map (·.1)).Nodup; rw [esL_bv]; exact blL_nodup h, .inl rfl⟩
theorem apS_blocks {L : BL} (h : FitL L) (c1 : Int) : (apS L c1).blocks = blL L := by
  show sortB ((esL L).map bvOf) = _
  rw [esL_bv, blL_sorted h]
theorem apS_fits {L : BL} (h : FitL L) (c1 : Int) (w : Int) (hw : 0 ≤ w ∧ w ≤ 1000000) : Fits (apS L c1) w :=
  ⟨⟨by show (0 : Int) ≤ 2; omega, by show (2 : Int) ≤ _; omega⟩, ⟨by show (0 : Int) ≤ 126; omega, by show (126 : Int) ≤ _; omega⟩, ⟨hw.1, by omega⟩, fun b hb => by
    rw [apS_blocks h] at hb
    obtain ⟨p, k, rfl, h2, h3, h4⟩ := blL_mem h b hb
    have := offL_le h
    exact ⟨by show (0 : Int) ≤ p; omega, by show (p : Int) ≤ _; omega, by show (0 : Int) ≤ k; omega, by show (k : Int) ≤ _; omega⟩⟩
theorem apS_gs {L : BL} (c1 : Int) : ShapedG (apS L c1).gs := fun e he => by
  obtain ⟨p, h1, h2⟩ := gsL_mem L e he
  exact ⟨_, _, h1, h2, by omega, by omega⟩
/-- The next block, all 0; so many of its words are stored. -/
def midS (L : BL) (k t j : Nat) (c1 : Int) : HS := { apS ((k, t) :: L) c1 with ws := setR (.int .u64 (t : Int)) (putAt (wsL L) (2 + offL L) (repl k [.int .u64 0])) (2 + offL L) j }
theorem midS_end (L : BL) (k t : Nat) (c1 : Int) : midS L k t k c1 = apS ((k, t) :: L) c1 := rfl
theorem apS_take {L : BL} (h : FitL L) (c1 : Int) (k t : Nat) : takeS (apS L c1) (2 + offL L) k = midS L k t 0 c1 := by
  have hf := gsL_fresh h (a := 2 + offL L) (Nat.le_refl _) 0
  have hg : genOf (gsL L) ((2 + offL L : Nat) : Int) = 0 := by simp only [genOf, hf]
  have hu : gensUp (gsL L) L.length ((2 + offL L : Nat) : Int) = (gsL L ++ [genL L], L.length + 1) := by simp only [gensUp, hf]; rfl
  show ({ apS L c1 with es := esL L ++ [{ key := .int .i64 ((2 + offL L : Nat) : Int), val := blkV ((2 + offL L : Nat) : Int) (k : Int) (genOf (gsL L) ((2 + offL L : Nat) : Int)) true, born := L.length }], clock := L.length + 1, gs := (gensUp (gsL L) L.length ((2 + offL L : Nat) : Int)).1, gclock := (gensUp (gsL L) L.length ((2 + offL L : Nat) : Int)).2, bs := setR (.bool false) (bsL L) (2 + offL L) k, ws := putAt (wsL L) (2 + offL L) (repl k [.int .u64 0]) } : HS) = _
  rw [hg, hu]
  rfl
end
end Go.Proofs.Ytlnlopeodpamdaa.Hx
