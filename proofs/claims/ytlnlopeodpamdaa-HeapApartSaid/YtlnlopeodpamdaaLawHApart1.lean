/-
  HeapApart: the beginning, and the loop that takes blocks.
-/
import Derived.Test.YtlnlopeodpamdaaLawHLaw
set_option maxRecDepth 100000
set_option linter.unusedVariables false
namespace Go.Proofs.Ytlnlopeodpamdaa.Hx
open Go AH Go.Proofs
noncomputable section

theorem mix_wf {s : HS} {X : St} {l : List (Nat × Value)} (h : s.Ok) (hX : 7 ≤ X.next) (hXs : ∀ i, 7 ≤ i → (X.get i).sc X.next) (hXl : ∀ i, 7 ≤ i → (X.get i).live = true → i < X.next) (hls : ∀ p ∈ l, Sc X.next p.2) : Wf (frL l) (mix s X) := by
  refine ⟨fun i => ?_, fun i hi => ?_, fun t v ht => hls _ (frL_mem ht)⟩
  · rw [mix_get]
    split
    · exact hs_sc h i _ hX
    · exact hXs i (by omega)
  · show i < X.next
    by_cases h7 : i < 7
    · omega
    · rw [mix_get, if_neg h7] at hi
      exact hXl i (by omega) hi

theorem X8_get (xb : Blk) (i : Nat) (hi : 7 ≤ i) : (X8 xb).get i = if 7 = i then xb else .dead := by
  rw [X8, St.get_push]; rfl
theorem X8_sc {xb : Blk} (h : xb.sc 8) (i : Nat) (hi : 7 ≤ i) : ((X8 xb).get i).sc (X8 xb).next := by
  rw [X8_get _ _ hi]
  split
  · exact h
  · trivial
theorem X8_live {xb : Blk} (i : Nat) (hi : 7 ≤ i) (hl : ((X8 xb).get i).live = true) : i < (X8 xb).next := by
  rw [X8_get _ _ hi] at hl
  show i < 8
  split at hl
  · omega
  · cases hl

/-- The input: numbers that stay as they are. -/
def Ints (zs : List Value) : Prop := ∀ v ∈ zs, ∃ z, v = .int .i64 z
theorem Ints.pure {zs : List Value} (h : Ints zs) (ρ : Nat → AH.Loc) : zs.map (AH.ren ρ) = zs :=
  (List.map_congr_left fun v hv => by obtain ⟨z, rfl⟩ := h v hv; simp : zs.map (AH.ren ρ) = zs.map id).trans (List.map_id _)

def lS (len cap : Nat) : Value := .slice (some ⟨7, 0, none⟩) len cap
def apF (l : Value) (i : Nat) : List (Nat × Value) := [(0, l), (3, .pointer (some ⟨2, 0, none⟩)), (5, .pointer (some ⟨0, 0, none⟩)), (7, .int .i64 ((i : Nat) : Int))]
noncomputable def ap1 : List Item := pathI 200 [false] [.code (bodyC Try.f7)]
theorem ap1_eq : ap1 = .code (.loop (loopC ap1)) :: ap1.tail := by kernel_rfl
def s0L (zs : List Value) : St := (⟨7, .leaf⟩ : St) |>.set 0 (.ro zs) |>.set 1 (.cells 89 (wsL [])) |>.set 2 (.cells 4 (bsL [])) |>.set 3 (hdr 1 2 127 128 0) |>.set 4 (.map [] 0) |>.set 5 (.map [] 0) |>.set 6 (hst 3 4 5 (.slice none 0 0) 2 126 0)
def pi0 : Nat → Nat := fun i => match i with | 0 => 6 | 1 => 4 | 2 => 3 | 3 => 5 | 5 => 1 | 6 => 2 | 7 => 0 | _ => 8
theorem pi0_inj : ∀ i, i < 8 → ∀ j, j < 8 → i ≠ 4 → j ≠ 4 → pi0 i = pi0 j → i = j := by decide

theorem apF_sc (n len cap i : Nat) (hn : 8 ≤ n) : ∀ p ∈ apF (lS len cap) i, Sc n p.2 := fun p hp => by
  simp only [apF, List.mem_cons, List.not_mem_nil, or_false] at hp
  rcases hp with rfl | rfl | rfl | rfl
  · exact Sc_slice (by show 7 < n; omega)
  · exact Sc_ptr (by show 2 < n; omega)
  · exact Sc_ptr (by show 0 < n; omega)
  · exact Sc_int _ _ _

theorem ap_start (zs : List Value) (len cap : Nat) (hz : Ints zs) (hc : cap ≤ unk) (R : Value → St → Prop) (h : VB 0 M 7 Try.f7.ntmps ap1 (frL (apF (lS len cap) 0)) (mix (apS [] 0) (X8 (.ro zs))) R) :
    VB 0 M 7 Try.f7.ntmps [.code (bodyC Try.f7)] (initF 0 [.slice (some ⟨0, 0, none⟩) len cap] .nil) (St.empty.push (.ro zs)) R := by
  refine runS_stop ev0_ok (giv := fun _ => .no) (n := 200) Try.func7 ap1 [(0, .slice (some ⟨0, 0, none⟩) len cap), (3, .pointer (some ⟨3, 0, none⟩)), (5, .pointer (some ⟨6, 0, none⟩)), (7, .int .i64 0)] (σ' := s0L zs) (p' := True) (by kernel_rfl) trivial ?_
  have hwf : Wf (frL (apF (lS len cap) 0)) (mix (apS [] 0) (X8 (.ro zs))) := mix_wf (apS_nice (L := []) trivial 0).ok (by show 7 ≤ 8; omega) (X8_sc (sc_of_pure hz.pure 8)) X8_live (apF_sc 8 len cap 0 (Nat.le_refl _))
  have h4 : ((mix (apS [] 0) (X8 (.ro zs))).get 4).live = false := by rw [mix_get, if_pos (by omega), hs_get]; rfl
  refine VB.renum pi0 (Nat.zero_le _) (fun i hi => absurd hi (Nat.not_lt_zero _)) (fun i j hi hj e => ?_) (fun i hi => ?_) hwf (fun t v ht => ?_) rfl (fun i hi => by rw [frL_df] at hi; simp at hi) h
  · refine pi0_inj i (hwf.lt i hi) j (hwf.lt j hj) (fun e4 => ?_) (fun e4 => ?_) e
    · rw [e4, h4] at hi; cases hi
    · rw [e4, h4] at hj; cases hj
  · have h8 : i < 8 := hwf.lt i hi
    have : i = 0 ∨ i = 1 ∨ i = 2 ∨ i = 3 ∨ i = 4 ∨ i = 5 ∨ i = 6 ∨ i = 7 := by omega
    rcases this with rfl | rfl | rfl | rfl | rfl | rfl | rfl | rfl
    · rw [mix_get, if_pos (by omega), hs_get]
      show hst 3 4 5 (.slice none 0 0) 2 126 0 = renB _ (.cells 83 [.pointer (some ⟨2, 0, none⟩), .int .i64 2, .int .i64 126, .map (some 1), .map (some 3), .slice none 0 0, .int .i64 0])
      simp only [renB, List.map_cons, List.map_nil, ren_ptr, ren_int, ren_map, ren_nilslice, renA, loc]
      rfl
    · rw [mix_get, if_pos (by omega), hs_get]; rfl
    · rw [mix_get, if_pos (by omega), hs_get]
      show hdr 1 2 127 128 0 = renB _ (.cells 107 (.slice (some ⟨5, 0, none⟩) 128 128 :: .slice (some ⟨6, 0, none⟩) 128 128 :: csL 0))
      simp only [renB, List.map_cons, ren_slice, renA, loc, csL_pure]
      rfl
    · rw [mix_get, if_pos (by omega), hs_get]; rfl
    · rw [h4] at hi; cases hi
    · rw [mix_get, if_pos (by omega), hs_get]
      show Blk.cells 89 (wsL []) = renB _ (.cells 89 (wsL []))
      rw [renB, wsL_pure]
    · rw [mix_get, if_pos (by omega), hs_get]
      show Blk.cells 4 (bsL []) = renB _ (.cells 4 (bsL []))
      rw [renB, bsL_pure]
    · rw [mix_get, if_neg (by omega), X8_get _ _ (by omega), if_pos rfl, renB, hz.pure]
      rfl
  · have := frL_mem ht
    simp only [apF, List.mem_cons, Prod.mk.injEq, List.not_mem_nil, or_false] at this
    rcases this with ⟨rfl, rfl⟩ | ⟨rfl, rfl⟩ | ⟨rfl, rfl⟩ | ⟨rfl, rfl⟩
    · rw [lS, ren_slice]
      simp only [renA, loc]
      rw [renC_le hc]
      rfl
    · simp only [ren_ptr, renA, loc]; rfl
    · simp only [ren_ptr, renA, loc]; rfl
    · simp only [ren_int]; rfl
end
end Go.Proofs.Ytlnlopeodpamdaa.Hx
