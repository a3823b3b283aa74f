/-
  HeapApart of no numbers at all.
-/
import Derived.Test.YtlnlopeodpamdaaLawHApart11
set_option maxRecDepth 100000
set_option linter.unusedVariables false
namespace Go.Proofs.Ytlnlopeodpamdaa.Hx
open Go AH Go.Proofs
noncomputable section

theorem ap_vb0 (b0 b : Option Addr) (cap : Nat) (hb : AH.ren (loc pi0) (.slice b 0 cap) = .slice b0 0 cap) (hs : Sc 8 (.slice b 0 cap)) : VB 0 M 7 Try.f7.ntmps [.code (bodyC Try.f7)] (initF 0 [.slice b0 0 cap] .nil) (St.empty.push (.ro [])) (fun r _ => r = .bool true) := by
  have hz : Ints [] := fun v hv => by simp at hv
  have hn := apS_nice (L := []) trivial 0
  have hfin : VB 0 M 7 Try.f7.ntmps ap4 (frL (apG (xv []) 0)) (mix (apS [] 0) (X8 (xb []))) (fun r _ => r = .bool true) := ap_loop2 (L := []) trivial (by simp) 0 _ (ap_swap (L := []) trivial 0 _ (ap_loop3 (L := []) trivial (by simp) 0))
  have hsc : ∀ p ∈ apF (.slice b 0 cap) 0, Sc 8 p.2 := fun p hp => by
    simp only [apF, List.mem_cons, List.not_mem_nil, or_false] at hp
    rcases hp with rfl | rfl | rfl | rfl
    · exact hs
    · exact Sc_ptr (by show 2 < 8; omega)
    · exact Sc_ptr (by show 0 < 8; omega)
    · exact Sc_int _ _ _
  have hback : VB 0 M 7 Try.f7.ntmps ap4 (frL (apG (.slice none 0 0) 0)) (mix (apS [] 0) (X8 (.ro []))) (fun r _ => r = .bool true) := by
    refine VB.cut (apG (xv []) 0) (mix (apS [] 0) (X8 (xb []))) (fun q hq => ?_) rfl (apG_wf (L := []) trivial 0 0) (Nat.zero_le _) (fun n => ?_) hfin
    · simp only [apG, List.mem_cons, List.not_mem_nil, or_false] at hq
      rcases hq with rfl | rfl | rfl | rfl <;> (show _ = _; kernel_rfl)
    · rw [mix_get, mix_get]
      by_cases h7 : n < 7
      · rw [if_pos h7, if_pos h7]; exact .inl rfl
      · rw [if_neg h7, X8_get _ _ (by omega)]
        right
        split <;> rfl
  have hbl := blocksG (seen_mix (apS_good (L := []) trivial 0 (by simp)) (X8 (.ro [])))
  have hloop : VB 0 M 7 Try.f7.ntmps ap1 (frL (apF (.slice b 0 cap) 0)) (mix (apS [] 0) (X8 (.ro []))) (fun r _ => r = .bool true) := by
    rw [ap1_eq]
    refine VB.loop1 ?_
    exact runS_stop ev0_ok (giv := givL [(120, .c (.slice none 0 0) (mix (apS [] 0) (X8 (.ro []))))]) (n := 200) Try.func7
      ap4 (apG (.slice none 0 0) 0) (σ' := mix (apS [] 0) (X8 (.ro [])))
      (p' := True ∧ WF M.toEnv 35 [.pointer (some ⟨0, 0, none⟩)] (mix (apS [] 0) (X8 (.ro []))) (fun r σ' => r = .slice none 0 0 ∧ σ' = mix (apS [] 0) (X8 (.ro []))))
      (by kernel_rfl) ⟨trivial, hbl⟩ hback
  refine runS_stop ev0_ok (giv := fun _ => .no) (n := 200) Try.func7 ap1 [(0, .slice b0 0 cap), (3, .pointer (some ⟨3, 0, none⟩)), (5, .pointer (some ⟨6, 0, none⟩)), (7, .int .i64 0)] (σ' := s0L []) (p' := True) (by kernel_rfl) trivial ?_
  have hwf : Wf (frL (apF (.slice b 0 cap) 0)) (mix (apS [] 0) (X8 (.ro []))) := mix_wf hn.ok (by show 7 ≤ 8; omega) (X8_sc (sc_of_pure hz.pure 8)) X8_live hsc
  have h4 : ((mix (apS [] 0) (X8 (.ro []))).get 4).live = false := by rw [mix_get, if_pos (by omega), hs_get]; rfl
  refine VB.renum pi0 (Nat.zero_le _) (fun i hi => absurd hi (Nat.not_lt_zero _)) (fun i j hi hj e => ?_) (fun i hi => ?_) hwf (fun t v ht => ?_) rfl (fun i hi => by rw [frL_df] at hi; simp at hi) hloop
  · refine pi0_inj i (hwf.lt i hi) j (hwf.lt j hj) (fun e4 => ?_) (fun e4 => ?_) e
    · rw [e4, h4] at hi; cases hi
    · rw [e4, h4] at hj; cases hj
  · have h8 : i < 8 := hwf.lt i hi
    have : i = 0 ∨ i = 1 ∨ i = 2 ∨ i = 3 ∨ i = 4 ∨ i = 5 ∨ i = 6 ∨ i = 7 := by omega
    rcases this with rfl | rfl | rfl | rfl | rfl | rfl | rfl | rfl
    · rw [mix_get, if_pos (by omega), hs_get]
      show hst 3 4 5 (.slice none 0 0) 2 126 0 = renB _ (.cells 83 [.pointer (some ⟨2, 0, none⟩), .int .i64 2, .int .i64 126, .map (some 1), .map (some 3), .slice none 0 0, .int .i64 0])
      simp only [renB, List.map_cons, List.map_nil, ren_ptr, ren_int, ren_map, ren_nilslice, renA, loc]
      rfl
    · rw [mix_get, if_pos (by omega), hs_get]; rfl
    · rw [mix_get, if_pos (by omega), hs_get]
      show hdr 1 2 127 128 0 = renB _ (.cells 107 (.slice (some ⟨5, 0, none⟩) 128 128 :: .slice (some ⟨6, 0, none⟩) 128 128 :: csL 0))
      simp only [renB, List.map_cons, ren_slice, renA, loc, csL_pure]
      rfl
    · rw [mix_get, if_pos (by omega), hs_get]; rfl
    · rw [h4] at hi; cases hi
    · rw [mix_get, if_pos (by omega), hs_get]
      show Blk.cells 89 (wsL []) = renB _ (.cells 89 (wsL []))
      rw [renB, wsL_pure]
    · rw [mix_get, if_pos (by omega), hs_get]
      show Blk.cells 4 (bsL []) = renB _ (.cells 4 (bsL []))
      rw [renB, bsL_pure]
    · rw [mix_get, if_neg (by omega), X8_get _ _ (by omega), if_pos rfl, renB, hz.pure]
      rfl
  · have := frL_mem ht
    simp only [apF, List.mem_cons, Prod.mk.injEq, List.not_mem_nil, or_false] at this
    rcases this with ⟨rfl, rfl⟩ | ⟨rfl, rfl⟩ | ⟨rfl, rfl⟩ | ⟨rfl, rfl⟩
    · rw [hb]; rfl
    · simp only [ren_ptr, renA, loc]; rfl
    · simp only [ren_ptr, renA, loc]; rfl
    · simp only [ren_int]; rfl
end
end Go.Proofs.Ytlnlopeodpamdaa.Hx
