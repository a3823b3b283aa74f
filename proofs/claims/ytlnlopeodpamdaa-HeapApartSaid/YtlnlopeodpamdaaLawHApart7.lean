/-
  HeapApart: the words of a block are looked at one by one; the loop over the blocks.
-/
import Derived.Test.YtlnlopeodpamdaaLawHApart6
set_option maxRecDepth 100000
set_option linter.unusedVariables false
namespace Go.Proofs.Ytlnlopeodpamdaa.Hx
open Go AH Go.Proofs
noncomputable section

theorem ww_ld {L : BL} {c : Int} {l : List BV} {ww : List Value} {j : Nat} {v : Value} (h : ww[j]? = some v) : ldVar T89 (sY L c l ww) ⟨9, j, none⟩ = some v :=
  ld_cell (cs := ww) rfl (by rw [sY_get, if_neg (by omega), if_pos rfl]; rfl) h
theorem sY_7 (L : BL) (c : Int) (l : List BV) (ww : List Value) : (sY L c l ww).get 7 = xb l := by
  rw [sY_get, if_neg (by omega), if_neg (by omega), if_neg (by omega), X8_get _ _ (by omega), if_pos rfl]

theorem ap_chk1 {L : BL} (c : Int) {l : List BV} (hnl : l.length < 1000) (i p k j t : Nat) (ww : List Value) (hi : i < l.length) (hx : l[i] = ((p : Int), (k : Int), 0, true)) (hj : j < k) (ht : 1 ≤ t) (hww : ∀ j, j < k → ww[j]? = some (.int .u64 (t : Int))) (hpk : p + k ≤ 128)
    (hprev : ∀ h0 : 0 < i, ∃ p' k' : Nat, l[i - 1] = ((p' : Int), (k' : Int), 0, true) ∧ p' + k' ≤ p) (R : Value → St → Prop)
    (hk : VB 0 M 7 Try.f7.ntmps (.inLoop (loopC ap5) :: ap5.tail) (frL (frY l i k (j + 1))) (sY L c l ww) R) : VB 0 M 7 Try.f7.ntmps k5 (frL (frY l i k j)) (sY L c l ww) R := by
  have ht0 : some (Value.bool (decide ((t : Int) = 0))) = some (.bool false) := by rw [decide_eq_false (by omega)]
  have htt : some (Value.bool (!((t : Int) == (t : Int)))) = some (.bool false) := by rw [beq_self_eq_true]; rfl
  by_cases h0 : 0 < i
  · obtain ⟨p', k', hp, hle⟩ := hprev h0
    refine runS_stop ev0_ok (giv := givL [(142, .q (.bool true)), (147, .q (.pointer (some ⟨9, j, none⟩))), (148, .q (.int .u64 (t : Nat))), (149, .q (.bool false)), (153, .q (.pointer (some ⟨9, j, none⟩))), (154, .q (.int .u64 (t : Nat))), (156, .q (.pointer (some ⟨9, 0, none⟩))), (157, .q (.int .u64 (t : Nat))), (158, .q (.bool false)), (162, .q (.bool true)),
        (166, .q (.pointer (some ⟨7, i * 4, none⟩))), (168, .q (.int .i64 (p : Nat))), (171, .q (.int .i64 ((i - 1 : Nat) : Int))), (172, .q (.pointer (some ⟨7, (i - 1) * 4, none⟩))), (174, .q (.int .i64 (p' : Nat))), (177, .q (.int .i64 ((i - 1 : Nat) : Int))), (178, .q (.pointer (some ⟨7, (i - 1) * 4, none⟩))), (180, .q (.int .i64 (k' : Nat))), (181, .q (.int .i64 ((p' + k' : Nat) : Int))), (182, .q (.bool false)), (144, .q (.int .i64 ((j + 1 : Nat) : Int)))]) (n := 200) Try.func7
      (.inLoop (loopC ap5) :: ap5.tail) (frY l i k (j + 1)) (σ' := sY L c l ww)
      (p' := ((((((((((((((((((((True ∧ some (Value.bool (ltI (j : Int) (k : Int))) = some (.bool true))
        ∧ (if 0 ≤ ((j : Nat) : Int) ∧ ((j : Nat) : Int) < ((k : Nat) : Int) then some (Value.pointer (some (addA ⟨9, 0, none⟩ (((j : Nat) : Int).toNat * 1)))) else none) = some (Value.pointer (some ⟨9, j, none⟩)))
        ∧ ldVar T89 (sY L c l ww) ⟨9, j, none⟩ = some (.int .u64 (t : Nat)))
        ∧ some (Value.bool (decide ((t : Int) = 0))) = some (.bool false))
        ∧ (if 0 ≤ ((j : Nat) : Int) ∧ ((j : Nat) : Int) < ((k : Nat) : Int) then some (Value.pointer (some (addA ⟨9, 0, none⟩ (((j : Nat) : Int).toNat * 1)))) else none) = some (Value.pointer (some ⟨9, j, none⟩)))
        ∧ (if 0 ≤ ((0 : Nat) : Int) ∧ ((0 : Nat) : Int) < ((k : Nat) : Int) then some (Value.pointer (some (addA ⟨9, 0, none⟩ (((0 : Nat) : Int).toNat * 1)))) else none) = some (Value.pointer (some ⟨9, 0, none⟩)))
        ∧ ldVar T89 (sY L c l ww) ⟨9, j, none⟩ = some (.int .u64 (t : Nat)))
        ∧ ldVar T89 (sY L c l ww) ⟨9, 0, none⟩ = some (.int .u64 (t : Nat)))
        ∧ some (Value.bool (!((t : Int) == (t : Int)))) = some (.bool false))
        ∧ some (Value.bool (ltI 0 (i : Int))) = some (.bool true))
        ∧ opQ M.toEnv (frL [(164, xv l), (165, .int .i64 (i : Nat))]) (sY L c l ww) (.indexAddr 68 (.tmp 164) (.tmp 165)) = some (.pointer (some ⟨7, i * 4, none⟩)))
        ∧ some (Value.int .i64 (IntKind.i64.wrap ((i : Int) - 1))) = some (.int .i64 ((i - 1 : Nat) : Int)))
        ∧ opQ M.toEnv (frL [(169, xv l), (171, .int .i64 ((i - 1 : Nat) : Int))]) (sY L c l ww) (.indexAddr 68 (.tmp 169) (.tmp 171)) = some (.pointer (some ⟨7, (i - 1) * 4, none⟩)))
        ∧ some (Value.int .i64 (IntKind.i64.wrap ((i : Int) - 1))) = some (.int .i64 ((i - 1 : Nat) : Int)))
        ∧ opQ M.toEnv (frL [(175, xv l), (177, .int .i64 ((i - 1 : Nat) : Int))]) (sY L c l ww) (.indexAddr 68 (.tmp 175) (.tmp 177)) = some (.pointer (some ⟨7, (i - 1) * 4, none⟩)))
        ∧ ldVar T3 (sY L c l ww) ⟨7, i * 4 + 0, none⟩ = some (.int .i64 (p : Nat)))
        ∧ ldVar T3 (sY L c l ww) ⟨7, (i - 1) * 4 + 0, none⟩ = some (.int .i64 (p' : Nat)))
        ∧ ldVar T3 (sY L c l ww) ⟨7, (i - 1) * 4 + 1, none⟩ = some (.int .i64 (k' : Nat)))
        ∧ some (Value.int .i64 (IntKind.i64.wrap ((p' : Int) + (k' : Int)))) = some (.int .i64 ((p' + k' : Nat) : Int)))
        ∧ some (Value.bool (ltI (p : Int) ((p' + k' : Nat) : Int))) = some (.bool false))
        ∧ some (Value.int .i64 (IntKind.i64.wrap ((j : Int) + 1))) = some (.int .i64 ((j + 1 : Nat) : Int)))
      (by kernel_rfl) ⟨⟨⟨⟨⟨⟨⟨⟨⟨⟨⟨⟨⟨⟨⟨⟨⟨⟨⟨⟨⟨trivial, ?_⟩, idx_ptr hj⟩, ww_ld (hww j hj)⟩, ht0⟩, idx_ptr hj⟩, idx_ptr (by omega)⟩, ww_ld (hww j hj)⟩, ww_ld (hww 0 (by omega))⟩, htt⟩, ?_⟩, xv_idx (by rfl) (by rfl) hi⟩, ?_⟩, xv_idx (by rfl) (by rfl) (by omega)⟩, ?_⟩, xv_idx (by rfl) (by rfl) (by omega)⟩, xb_ld rfl (sY_7 _ _ _ _) hi (by omega) (by rw [hx]; rfl)⟩, xb_ld rfl (sY_7 _ _ _ _) (i := i - 1) (by omega) (by omega) (by rw [hp]; rfl)⟩, xb_ld rfl (sY_7 _ _ _ _) (i := i - 1) (by omega) (by omega) (by rw [hp]; rfl)⟩, ?_⟩, ?_⟩, ?_⟩ hk
    · rw [ltI_eq, decide_eq_true (by omega)]
    · rw [ltI_eq, decide_eq_true (by omega)]
    · rw [IntWalk.i64_in _ (by omega)]; congr 2; omega
    · rw [IntWalk.i64_in _ (by omega)]; congr 2; omega
    · rw [IntWalk.i64_in _ (by omega)]; congr 2
    · rw [ltI_eq, decide_eq_false (by omega)]
    · rw [IntWalk.i64_in _ (by omega)]; congr 2
  · refine runS_stop ev0_ok (giv := givL [(142, .q (.bool true)), (147, .q (.pointer (some ⟨9, j, none⟩))), (148, .q (.int .u64 (t : Nat))), (149, .q (.bool false)), (153, .q (.pointer (some ⟨9, j, none⟩))), (154, .q (.int .u64 (t : Nat))), (156, .q (.pointer (some ⟨9, 0, none⟩))), (157, .q (.int .u64 (t : Nat))), (158, .q (.bool false)), (162, .q (.bool false)), (144, .q (.int .i64 ((j + 1 : Nat) : Int)))]) (n := 200) Try.func7
      (.inLoop (loopC ap5) :: ap5.tail) (frY l i k (j + 1)) (σ' := sY L c l ww)
      (p' := ((((((((((True ∧ some (Value.bool (ltI (j : Int) (k : Int))) = some (.bool true))
        ∧ (if 0 ≤ ((j : Nat) : Int) ∧ ((j : Nat) : Int) < ((k : Nat) : Int) then some (Value.pointer (some (addA ⟨9, 0, none⟩ (((j : Nat) : Int).toNat * 1)))) else none) = some (Value.pointer (some ⟨9, j, none⟩)))
        ∧ ldVar T89 (sY L c l ww) ⟨9, j, none⟩ = some (.int .u64 (t : Nat)))
        ∧ some (Value.bool (decide ((t : Int) = 0))) = some (.bool false))
        ∧ (if 0 ≤ ((j : Nat) : Int) ∧ ((j : Nat) : Int) < ((k : Nat) : Int) then some (Value.pointer (some (addA ⟨9, 0, none⟩ (((j : Nat) : Int).toNat * 1)))) else none) = some (Value.pointer (some ⟨9, j, none⟩)))
        ∧ (if 0 ≤ ((0 : Nat) : Int) ∧ ((0 : Nat) : Int) < ((k : Nat) : Int) then some (Value.pointer (some (addA ⟨9, 0, none⟩ (((0 : Nat) : Int).toNat * 1)))) else none) = some (Value.pointer (some ⟨9, 0, none⟩)))
        ∧ ldVar T89 (sY L c l ww) ⟨9, j, none⟩ = some (.int .u64 (t : Nat)))
        ∧ ldVar T89 (sY L c l ww) ⟨9, 0, none⟩ = some (.int .u64 (t : Nat)))
        ∧ some (Value.bool (!((t : Int) == (t : Int)))) = some (.bool false))
        ∧ some (Value.bool (ltI 0 (i : Int))) = some (.bool false))
        ∧ some (Value.int .i64 (IntKind.i64.wrap ((j : Int) + 1))) = some (.int .i64 ((j + 1 : Nat) : Int)))
      (by kernel_rfl) ⟨⟨⟨⟨⟨⟨⟨⟨⟨⟨⟨trivial, ?_⟩, idx_ptr hj⟩, ww_ld (hww j hj)⟩, ht0⟩, idx_ptr hj⟩, idx_ptr (by omega)⟩, ww_ld (hww j hj)⟩, ww_ld (hww 0 (by omega))⟩, htt⟩, ?_⟩, ?_⟩ hk
    · rw [ltI_eq, decide_eq_true (by omega)]
    · rw [ltI_eq, decide_eq_false (by omega)]
    · rw [IntWalk.i64_in _ (by omega)]; congr 2
end
end Go.Proofs.Ytlnlopeodpamdaa.Hx
