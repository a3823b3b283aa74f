/-
  HeapApart: the copy gives all its blocks back.
-/
import Derived.Test.YtlnlopeodpamdaaLawHApart8
set_option maxRecDepth 100000
set_option linter.unusedVariables false
namespace Go.Proofs.Ytlnlopeodpamdaa.Hx
open Go AH Go.Proofs
noncomputable section

/-- The copy's state; and what else there is: the blocks' list, and the heap itself. -/
def cpS (L : BL) (c : Int) : HS := { apS L c with wv := .slice (some ⟨4, 0, none⟩) 0 0, wb := .cells 74 [], row := true }
def X15 (L : BL) (c : Int) : St := (⟨15, .leaf⟩ : St) |>.set 7 (xb (blL L)) |>.set 8 (hst 10 9 11 (.slice none 0 0) 2 126 0) |>.set 9 (.map (esL L) L.length) |>.set 10 (hdr 13 14 127 128 c) |>.set 11 (.map (gsL L) L.length) |>.set 13 (.cells 89 (wsL L)) |>.set 14 (.cells 4 (bsL L))
theorem X15_get (L : BL) (c : Int) (i : Nat) : (X15 L c).get i = if 14 = i then .cells 4 (bsL L) else if 13 = i then .cells 89 (wsL L) else if 11 = i then .map (gsL L) L.length else if 10 = i then hdr 13 14 127 128 c else if 9 = i then .map (esL L) L.length else if 8 = i then hst 10 9 11 (.slice none 0 0) 2 126 0 else if 7 = i then xb (blL L) else .dead := by
  simp only [X15, St.get_set]
  rfl
def apJ (l : List BV) (i : Nat) : List (Nat × Value) := [(3, .pointer (some ⟨10, 0, none⟩)), (5, .pointer (some ⟨8, 0, none⟩)), (14, xv l), (19, .pointer (some ⟨0, 0, none⟩)), (20, .int .i64 ((i : Nat) : Int))]

theorem cpS_nice {L : BL} (h : FitL L) (c : Int) : (cpS L c).Nice 0 [] := by
  have h0 := apS_nice h c
  exact ⟨h0.es, h0.gs, h0.cs, h0.ws, h0.bs, fun ρ => rfl, h0.cl, h0.wl, h0.bl, h0.n, .inr (.inr ⟨rfl, rfl, rfl, rfl⟩), fun e => by cases e⟩
theorem X15_sc {L : BL} (h : FitL L) (c : Int) (i : Nat) (hi : 7 ≤ i) : ((X15 L c).get i).sc 15 := by
  have hn := apS_nice h c
  rw [X15_get]
  split
  · exact sc_of_pure (bsL_pure L) 15
  split
  · exact sc_of_pure (wsL_pure L) 15
  split
  · exact scE_of_pure hn.gs 15
  split
  · intro v hv
    rcases List.mem_cons.1 hv with rfl | hv
    · exact Sc_slice (by show 13 < 15; omega)
    rcases List.mem_cons.1 hv with rfl | hv
    · exact Sc_slice (by show 14 < 15; omega)
    · exact sc_of_pure (csL_pure c) 15 v hv
  split
  · exact scE_of_pure hn.es 15
  split
  · intro v hv
    simp only [List.mem_cons, List.not_mem_nil, or_false] at hv
    rcases hv with e | e | e | e | e | e | e
    · rw [e]; exact Sc_ptr (by show 10 < 15; omega)
    · rw [e]; exact Sc_int _ _ _
    · rw [e]; exact Sc_int _ _ _
    · rw [e]; exact Sc_map (by omega)
    · rw [e]; exact Sc_map (by omega)
    · rw [e]; exact Sc_nilslice _ _ _
    · rw [e]; exact Sc_int _ _ _
  split
  · exact xb_sc _ _
  · trivial
theorem X15_live (L : BL) (c : Int) (i : Nat) (hi : 7 ≤ i) (hl : ((X15 L c).get i).live = true) : i < 15 := by
  by_cases h15 : i < 15
  · exact h15
  · rw [X15_get, if_neg (by omega), if_neg (by omega), if_neg (by omega), if_neg (by omega), if_neg (by omega), if_neg (by omega), if_neg (by omega)] at hl
    cases hl
theorem apJ_sc (l : List BV) (i n : Nat) (hn : 15 ≤ n) : ∀ q ∈ apJ l i, Sc n q.2 := fun q hq => by
  simp only [apJ, List.mem_cons, List.not_mem_nil, or_false] at hq
  rcases hq with rfl | rfl | rfl | rfl | rfl
  · exact Sc_ptr (by show 10 < n; omega)
  · exact Sc_ptr (by show 8 < n; omega)
  · exact xv_sc l n (by omega)
  · exact Sc_ptr (by show 0 < n; omega)
  · exact Sc_int _ _ _

/-- A renumbering that leaves 7 and others where they are does nothing to what is beside the copy. -/
theorem X15_ren {L : BL} (h : FitL L) (c : Int) (π : Nat → Nat) (hπ : ∀ i, 7 ≤ i → i < 15 → π i = i) (i : Nat) (hi : 7 ≤ i) : renB (loc π) ((X15 L c).get i) = (X15 L c).get i := by
  have hn := apS_nice h c
  rw [X15_get]
  split
  · rw [renB, bsL_pure]
  split
  · rw [renB, wsL_pure]
  split
  · rw [renB, show gsL L = (apS L c).gs from rfl, hn.gs]
  split
  · simp only [hdr, renB, List.map_cons, ren_slice, renA, loc, hπ 13 (by omega) (by omega), hπ 14 (by omega) (by omega), csL_pure]
    rw [renC_le (by unfold unk; omega)]
  split
  · rw [renB, show esL L = (apS L c).es from rfl, hn.es]
  split
  · simp only [hst, renB, List.map_cons, List.map_nil, ren_ptr, ren_int, ren_map, ren_nilslice, renA, loc, hπ 10 (by omega) (by omega), hπ 9 (by omega) (by omega), hπ 11 (by omega) (by omega)]
  split
  · cases blL L with
    | nil => rfl
    | cons x r => rw [xb, renB, encs_closed]
  · rfl

def piC : Nat → Nat := fun i => match i with | 0 => 13 | 1 => 14 | 2 => 8 | 3 => 15 | 4 => 16 | 5 => 10 | 6 => 12 | 7 => 7 | 8 => 0 | 9 => 1 | 10 => 2 | 11 => 3 | 13 => 5 | 14 => 6 | _ => 20
theorem piC_inj : ∀ i, i < 15 → ∀ j, j < 15 → i ≠ 12 → j ≠ 12 → piC i = piC j → i = j := by decide

theorem s44_get (s : HS) (c1 : Int) (xb : Blk) (i : Nat) : (s44 s c1 xb).get i = if i < 7 then (hs (lawS s c1)).get i else if 12 = i then .row 4 1 s.bs else if 11 = i then .cells 4 [] else if 10 = i then .row 89 1 s.ws else if 9 = i then .cells 89 [] else if 8 = i then hdr 10 12 s.n unk c1 else (X8 xb).get i := by
  rw [s44, mix_get]
  split
  · rfl
  · rw [St.get_push, St.get_push, St.get_push, St.get_push, St.get_push]; rfl
theorem s41_get (s : HS) (c1 : Int) (xb : Blk) (i : Nat) : (s41 s c1 xb).get i = if 16 = i then .cells 74 [] else if 15 = i then .map s.gs s.gclock else if 14 = i then .map s.es s.clock else if 13 = i then hst 8 14 15 (.slice (some ⟨16, 0, none⟩) 0 0) s.first s.words s.bad else (s44 s c1 xb).get i := by
  rw [s41, St.get_push, St.get_push, St.get_push, St.get_push]; rfl

theorem ap_swap {L : BL} (h : FitL L) (c : Int) (R : Value → St → Prop) (hk : VB 0 M 7 Try.f7.ntmps ap6 (frL (apJ (blL L) 0)) (mix (cpS L c) (X15 L c)) R) : VB 0 M 7 Try.f7.ntmps ap6 (frL (apH0 (blL L))) (s41 (apS L c) c (xb (blL L))) R := by
  have hn := apS_nice h c
  have hwf : Wf (frL (apJ (blL L) 0)) (mix (cpS L c) (X15 L c)) := mix_wf (cpS_nice h c).ok (by show 7 ≤ 15; omega) (X15_sc h c) (X15_live L c) (apJ_sc _ 0 15 (Nat.le_refl _))
  have h12 : ((mix (cpS L c) (X15 L c)).get 12).live = false := by rw [mix_get, if_neg (by omega), X15_get]; rfl
  refine VB.renum piC (Nat.zero_le _) (fun i hi => absurd hi (Nat.not_lt_zero _)) (fun i j hi hj e => ?_) (fun i hi => ?_) hwf (fun t v ht => ?_) rfl (fun i hi => by rw [frL_df] at hi; simp at hi) hk
  · refine piC_inj i (hwf.lt i hi) j (hwf.lt j hj) (fun e4 => ?_) (fun e4 => ?_) e
    · rw [e4, h12] at hi; cases hi
    · rw [e4, h12] at hj; cases hj
  · have h15 : i < 15 := hwf.lt i hi
    have : i = 0 ∨ i = 1 ∨ i = 2 ∨ i = 3 ∨ i = 4 ∨ i = 5 ∨ i = 6 ∨ i = 7 ∨ i = 8 ∨ i = 9 ∨ i = 10 ∨ i = 11 ∨ i = 12 ∨ i = 13 ∨ i = 14 := by omega
    have hget : ∀ (n : Nat) (b : Blk), (if 16 = n then Blk.cells 74 [] else if 15 = n then Blk.map (gsL L) L.length else if 14 = n then .map (esL L) L.length else if 13 = n then hst 8 14 15 (.slice (some ⟨16, 0, none⟩) 0 0) 2 126 0 else if n < 7 then (hs (apS L c)).get n else if 12 = n then .row 4 1 (bsL L) else if 11 = n then .cells 4 [] else if 10 = n then .row 89 1 (wsL L) else if 9 = n then .cells 89 [] else if 8 = n then hdr 10 12 127 unk c else (X8 (xb (blL L))).get n) = b → (s41 (apS L c) c (xb (blL L))).get n = b := fun n b hb => by
      rw [s41_get, s44_get]
      exact hb
    have hm : ∀ (n : Nat) (b : Blk), (if n < 7 then (hs (cpS L c)).get n else if 14 = n then Blk.cells 4 (bsL L) else if 13 = n then .cells 89 (wsL L) else if 11 = n then .map (gsL L) L.length else if 10 = n then hdr 13 14 127 128 c else if 9 = n then .map (esL L) L.length else if 8 = n then hst 10 9 11 (.slice none 0 0) 2 126 0 else if 7 = n then xb (blL L) else .dead) = b → (mix (cpS L c) (X15 L c)).get n = b := fun n b hb => by
      rw [mix_get, X15_get]
      exact hb
    rcases this with rfl | rfl | rfl | rfl | rfl | rfl | rfl | rfl | rfl | rfl | rfl | rfl | rfl | rfl | rfl
    · rw [hget (piC 0) (hst 8 14 15 (.slice (some ⟨16, 0, none⟩) 0 0) 2 126 0) rfl, hm 0 (hst 2 1 3 (.slice (some ⟨4, 0, none⟩) 0 0) 2 126 0) (by rw [if_pos (by omega), hs_get]; rfl)]
      simp only [hst, renB, List.map_cons, List.map_nil, ren_ptr, ren_int, ren_map, ren_slice, renA, loc]
      rw [renC_le (Nat.zero_le _)]
      rfl
    · rw [hget (piC 1) (.map (apS L c).es L.length) rfl, hm 1 (.map (apS L c).es L.length) (by rw [if_pos (by omega), hs_get]; rfl), renB, hn.es]
    · rw [hget (piC 2) (hdr 10 12 127 unk c) rfl, hm 2 (hdr 5 6 127 unk c) (by rw [if_pos (by omega), hs_get]; rfl)]
      simp only [hdr, renB, List.map_cons, ren_slice, renA, loc, csL_pure]
      rw [renC_le (Nat.le_refl _)]
      rfl
    · rw [hget (piC 3) (.map (apS L c).gs L.length) rfl, hm 3 (.map (apS L c).gs L.length) (by rw [if_pos (by omega), hs_get]; rfl), renB, hn.gs]
    · rw [hget (piC 4) (.cells 74 []) rfl, hm 4 (.cells 74 []) (by rw [if_pos (by omega), hs_get]; rfl)]; rfl
    · rw [hget (piC 5) (.row 89 1 (wsL L)) rfl, hm 5 (.row 89 1 (wsL L)) (by rw [if_pos (by omega), hs_get]; rfl), renB, wsL_pure]
    · rw [hget (piC 6) (.row 4 1 (bsL L)) rfl, hm 6 (.row 4 1 (bsL L)) (by rw [if_pos (by omega), hs_get]; rfl), renB, bsL_pure]
    · rw [hget (piC 7) (xb (blL L)) rfl, hm 7 (xb (blL L)) rfl]
      cases blL L with
      | nil => rfl
      | cons x r => rw [xb, renB, encs_closed]
    · rw [hget (piC 8) (hst 2 1 3 (.slice none 0 0) 2 126 0) (by show (hs (apS L c)).get 0 = _; rw [hs_get]; rfl), hm 8 (hst 10 9 11 (.slice none 0 0) 2 126 0) rfl]
      simp only [hst, renB, List.map_cons, List.map_nil, ren_ptr, ren_int, ren_map, ren_nilslice, renA, loc]
      rfl
    · rw [hget (piC 9) (.map (apS L c).es L.length) (by show (hs (apS L c)).get 1 = _; rw [hs_get]; rfl), hm 9 (.map (apS L c).es L.length) rfl, renB, hn.es]
    · rw [hget (piC 10) (hdr 5 6 127 128 c) (by show (hs (apS L c)).get 2 = _; rw [hs_get]; rfl), hm 10 (hdr 13 14 127 128 c) rfl]
      simp only [hdr, renB, List.map_cons, ren_slice, renA, loc, csL_pure]
      rw [renC_le (by unfold unk; omega)]
      rfl
    · rw [hget (piC 11) (.map (apS L c).gs L.length) (by show (hs (apS L c)).get 3 = _; rw [hs_get]; rfl), hm 11 (.map (apS L c).gs L.length) rfl, renB, hn.gs]
    · rw [h12] at hi; cases hi
    · rw [hget (piC 13) (.cells 89 (wsL L)) (by show (hs (apS L c)).get 5 = _; rw [hs_get]; rfl), hm 13 (.cells 89 (wsL L)) rfl, renB, wsL_pure]
    · rw [hget (piC 14) (.cells 4 (bsL L)) (by show (hs (apS L c)).get 6 = _; rw [hs_get]; rfl), hm 14 (.cells 4 (bsL L)) rfl, renB, bsL_pure]
  · have := frL_mem ht
    simp only [apJ, List.mem_cons, Prod.mk.injEq, List.not_mem_nil, or_false] at this
    rcases this with ⟨rfl, rfl⟩ | ⟨rfl, rfl⟩ | ⟨rfl, rfl⟩ | ⟨rfl, rfl⟩ | ⟨rfl, rfl⟩
    · simp only [ren_ptr, renA, loc]; rfl
    · simp only [ren_ptr, renA, loc]; rfl
    · cases hx : blL L with
      | nil => simp only [xv, ren_nilslice]; rfl
      | cons x r =>
        rw [xv, ren_slice]
        simp only [renA, loc]
        rw [renC_le (Nat.le_refl _)]
        rfl
    · simp only [ren_ptr, renA, loc]; rfl
    · simp only [ren_int]; rfl
end
end Go.Proofs.Ytlnlopeodpamdaa.Hx
