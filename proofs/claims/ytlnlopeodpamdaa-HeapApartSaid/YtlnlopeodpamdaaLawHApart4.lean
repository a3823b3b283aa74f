/-
  HeapApart: a turn of the loop that takes blocks, where there is room; the loop.
-/
import Derived.Test.YtlnlopeodpamdaaLawHApart3
set_option maxRecDepth 100000
set_option linter.unusedVariables false
namespace Go.Proofs.Ytlnlopeodpamdaa.Hx
open Go AH Go.Proofs
noncomputable section

def sB (L : BL) (k t : Nat) (c : Int) (ro : Blk) : St := mix (midS L k t 0 c) (X8 ro |>.push (.cells 74 (blkL ((2 + offL L : Nat) : Int) (k : Int) 0 true)))
theorem sB_get (L : BL) (k t : Nat) (c : Int) (ro : Blk) (i : Nat) : (sB L k t c ro).get i = if i < 7 then (hs (midS L k t 0 c)).get i else if 8 = i then .cells 74 (blkL ((2 + offL L : Nat) : Int) (k : Int) 0 true) else (X8 ro).get i := by
  rw [sB, mix_get]
  split
  · rfl
  · rw [St.get_push]; rfl

theorem cB_get (L : BL) (k t : Nat) (c : Int) (ro : Blk) (l : List Value) (i : Nat) : (cloned (sB L k t c ro) 89 l).get i = if 10 = i then .row 89 1 l else if 9 = i then .cells 89 [] else (sB L k t c ro).get i := by
  rw [cloned_get]; rfl

theorem ap_turn1 {L : BL} (h : FitL L) (hl : L.length < 1000) (c : Int) {zs : List Value} (hz : Ints zs) (len cap i m k t : Nat) (z : Int) (hi : i < 20) (hil : i < len) (hzi : zs[i]? = some (.int .i64 z)) (hm : m < 16) (hmz : AH.intOp .and .i64 z 15 = some (.int .i64 (m : Nat))) (hk : 1 + m + (1 + m) % 2 = k) (hroom : 2 + offL L + k ≤ 128) (hev : offL L % 2 = 0) (ht : t = i + 1) (R : Value → St → Prop)
    (hkn : VB 0 M 7 Try.f7.ntmps ap3 (frL (apI (lS len cap) i (2 + offL L) k 0)) (mix (midS L k t 0 c) (sC (.ro zs) k)) R) : VB 0 M 7 Try.f7.ntmps k1 (frL (apF (lS len cap) i)) (mix (apS L c) (X8 (.ro zs))) R := by
  have hfit : FitL ((k, t) :: L) := ⟨by show 1 ≤ k; omega, hroom, by show 1 ≤ t; omega, h⟩
  have hn := midS_nice hfit 0 c
  have hcut : VB 0 M 7 Try.f7.ntmps ap3 (frL (apI (lS len cap) i (2 + offL L) k 0)) (cloned (sB L k t c (.ro zs)) 89 (repl k [.int .u64 0])) R := by
    refine VB.cut (apI (lS len cap) i (2 + offL L) k 0) (mix (midS L k t 0 c) (sC (.ro zs) k)) (fun q hq => ?_) rfl (mix_wf hn.ok (by show 7 ≤ 11; omega) (sC_sc hz k) (fun n hn hln => ?_) (apI_sc 11 len cap i _ k 0 (Nat.le_refl _))) (Nat.zero_le _) (fun n => ?_) hkn
    · simp only [apI, List.mem_cons, List.not_mem_nil, or_false] at hq
      rcases hq with rfl | rfl | rfl | rfl | rfl | rfl | rfl <;> (show _ = _; kernel_rfl)
    · rw [sC_get] at hln
      show n < 11
      by_cases h11 : n < 11
      · exact h11
      · rw [if_neg (by omega), if_neg (by omega), if_neg (by omega), if_neg (by omega)] at hln
        cases hln
    · rw [cB_get, sB_get, mix_get]
      by_cases h7 : n < 7
      · rw [if_pos h7, if_neg (by omega), if_neg (by omega), if_pos h7]; exact .inl rfl
      · rw [if_neg h7, if_neg h7, sC_get]
        by_cases h10 : 10 = n
        · rw [if_pos h10, if_pos h10]; exact .inl rfl
        · rw [if_neg h10, if_neg h10]
          by_cases h9 : 9 = n
          · rw [if_pos h9]; exact .inr rfl
          · rw [if_neg h9, if_neg h9]
            by_cases h8 : 8 = n
            · rw [if_pos h8]; exact .inr rfl
            · rw [if_neg h8, if_neg h8, X8_get _ _ (by omega)]
              exact .inl rfl
  refine runS_stop ev0_ok (giv := givL [(40, .q (.bool true)), (43, .q (.bool true)), (51, .q (.pointer (some ⟨7, i, none⟩))), (52, .q (.int .i64 z)), (53, .q (.int .i64 (m : Nat))), (54, .q (.int .i64 ((1 + m : Nat) : Int))), (55, .c (.tuple #[.int .i64 ((2 + offL L : Nat) : Int), .int .i64 0]) (mix (midS L k t 0 c) (X8 (.ro zs)))),
      (63, .c (.tuple #[blkV ((2 + offL L : Nat) : Int) (k : Int) 0 true, .bool true]) (mix (midS L k t 0 c) (X8 (.ro zs)))), (70, .c (.slice (some ⟨10, 0, none⟩) k unk) (cloned (sB L k t c (.ro zs)) 89 (repl k [.int .u64 0]))),
      (82, .q (.bool false)), (87, .q (.bool false)), (94, .q (.pointer (some ⟨7, i, none⟩))), (95, .q (.int .i64 z)), (96, .q (.int .i64 (m : Nat))), (97, .q (.int .i64 ((1 + m : Nat) : Int))), (98, .q (.bool false))]) (n := 200) Try.func7
    ap3 (apI (lS len cap) i (2 + offL L) k 0) (σ' := cloned (sB L k t c (.ro zs)) 89 (repl k [.int .u64 0]))
    (p' := (((((((((((((((True ∧ some (Value.bool (ltI (i : Int) (len : Int))) = some (.bool true)) ∧ some (Value.bool (ltI (i : Int) 20)) = some (.bool true))
      ∧ (if 0 ≤ ((i : Nat) : Int) ∧ ((i : Nat) : Int) < ((len : Nat) : Int) then some (Value.pointer (some (addA ⟨7, 0, none⟩ (((i : Nat) : Int).toNat * 1)))) else none) = some (Value.pointer (some ⟨7, i, none⟩)))
      ∧ ldVar T3 (mix (apS L c) (X8 (.ro zs))) ⟨7, i, none⟩ = some (.int .i64 z))
      ∧ AH.intOp .and .i64 z 15 = some (.int .i64 (m : Nat)))
      ∧ some (Value.int .i64 (IntKind.i64.wrap (1 + (m : Int)))) = some (.int .i64 ((1 + m : Nat) : Int)))
      ∧ WF M.toEnv 27 [.pointer (some ⟨0, 0, none⟩), .int .i64 ((1 + m : Nat) : Int)] (mix (apS L c) (X8 (.ro zs))) (fun r σ' => r = .tuple #[.int .i64 ((2 + offL L : Nat) : Int), .int .i64 0] ∧ σ' = mix (midS L k t 0 c) (X8 (.ro zs))))
      ∧ WF M.toEnv 38 [.pointer (some ⟨0, 0, none⟩), .int .i64 ((2 + offL L : Nat) : Int)] (mix (midS L k t 0 c) (X8 (.ro zs))) (fun r σ' => r = .tuple #[blkV ((2 + offL L : Nat) : Int) (k : Int) 0 true, .bool true] ∧ σ' = mix (midS L k t 0 c) (X8 (.ro zs))))
      ∧ WF M.toEnv 42 [.pointer (some ⟨2, 0, none⟩), .int .i64 ((2 + offL L : Nat) : Int), .int .i64 (k : Nat)] (sB L k t c (.ro zs)) (fun r σ' => r = .slice (some ⟨10, 0, none⟩) k unk ∧ σ' = cloned (sB L k t c (.ro zs)) 89 (repl k [.int .u64 0])))
      ∧ some (Value.bool (!(((2 + offL L : Nat) : Int) == ((2 + offL L : Nat) : Int)))) = some (.bool false))
      ∧ some (Value.bool (!((((2 + offL L : Nat) : Int)).tmod 2 == 0))) = some (.bool false))
      ∧ (if 0 ≤ ((i : Nat) : Int) ∧ ((i : Nat) : Int) < ((len : Nat) : Int) then some (Value.pointer (some (addA ⟨7, 0, none⟩ (((i : Nat) : Int).toNat * 1)))) else none) = some (Value.pointer (some ⟨7, i, none⟩)))
      ∧ ldVar T3 (cloned (sB L k t c (.ro zs)) 89 (repl k [.int .u64 0])) ⟨7, i, none⟩ = some (.int .i64 z))
      ∧ AH.intOp .and .i64 z 15 = some (.int .i64 (m : Nat)))
      ∧ some (Value.int .i64 (IntKind.i64.wrap (1 + (m : Int)))) = some (.int .i64 ((1 + m : Nat) : Int)))
      ∧ some (Value.bool (ltI (k : Int) ((1 + m : Nat) : Int))) = some (.bool false))
    (by kernel_rfl) ⟨⟨⟨⟨⟨⟨⟨⟨⟨⟨⟨⟨⟨⟨⟨⟨trivial, ?_⟩, ?_⟩, idx_ptr hil⟩, ?_⟩, hmz⟩, ?_⟩, ?_⟩, ?_⟩, ?_⟩, ?_⟩, ?_⟩, idx_ptr hil⟩, ?_⟩, hmz⟩, ?_⟩, ?_⟩ hcut
  · rw [ltI_eq, decide_eq_true (by omega)]
  · rw [ltI_eq, decide_eq_true (by omega)]
  · exact ld_cell (cs := zs) rfl (by rw [mix_get, if_neg (by omega), X8_get _ _ (by omega), if_pos rfl]; rfl) hzi
  · rw [IntWalk.i64_in _ (by omega)]; rfl
  · exact ap_take h c m k t hm hk hl hroom (X8 (.ro zs)) (by show 7 ≤ 8; omega)
  · exact ap_at hfit c hl (X8 (.ro zs)) (by show 7 ≤ 8; omega)
  · have hp := peek_any (s := midS L k t 0 c) (σ := sB L k t c (.ro zs)) (2 + offL L) k (by omega) (by show 2 + offL L + k ≤ 128; exact hroom) (by show 127 ≤ 100000; omega) hn.ok.m hn.mflat (by show 7 ≤ 9; omega) (by rw [sB_get, if_pos (by omega), hs_get, ms_get]; rfl) (by rw [sB_get, if_pos (by omega), hs_get, ms_get]; rfl) (by rw [sB_get, if_pos (by omega), hs_get, ms_get]; rfl)
    have e : ((midS L k t 0 c).ws.drop (2 + offL L)).take k = repl k [.int .u64 0] := drop_take_repl fun j hj => by
      show (putAt (wsL L) (2 + offL L) (repl k [.int .u64 0]))[2 + offL L + j]? = _
      rw [putAt_get _ _ _ _ (by rw [repl_len, wsL_len]; exact hroom), if_pos (by rw [repl_len]; omega), show 2 + offL L + j - (2 + offL L) = j by omega, repl_get _ k j hj]
    rw [e] at hp
    exact hp
  · rw [beq_self_eq_true]; rfl
  · have : (((2 + offL L : Nat) : Int)).tmod 2 = 0 := by rw [Int.tmod_eq_emod_of_nonneg (by omega)]; omega
    rw [this]; rfl
  · exact ld_cell (cs := zs) rfl (by rw [cB_get, if_neg (by omega), if_neg (by omega), sB_get, if_neg (by omega), if_neg (by omega), X8_get _ _ (by omega), if_pos rfl]; rfl) hzi
  · rw [IntWalk.i64_in _ (by omega)]; rfl
  · rw [ltI_eq, decide_eq_false (by omega)]
end
end Go.Proofs.Ytlnlopeodpamdaa.Hx
