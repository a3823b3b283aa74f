/-
  BrokerRefuses: Poll of thread 2.
-/
import Derived.Test.YtognbiffhgpoaaaGreatLawXPay
set_option maxRecDepth 100000
set_option linter.unusedVariables false
namespace Go.Proofs.YtognbiffhgpoaaaGreat.Hx
open Go AH Go.Proofs
theorem po_2_0_n (j : Nat) (g e p : Int) (s : ByteArray) : tailR noOver ov0 (.ofNat 2) (.ofNat 3) (.ofNat 0) (.negSucc j) g e p s = some (True) := by kernel_rfl
theorem po_2_0_0 (j : Nat) (g e p : Int) (s : ByteArray) : tailR noOver ov0 (.ofNat 2) (.ofNat 3) (.ofNat 0) (.ofNat 0) g e p s = some (True) := by kernel_rfl
theorem po_2_0_1 (j : Nat) (g e p : Int) (s : ByteArray) : tailR noOver ov0 (.ofNat 2) (.ofNat 3) (.ofNat 0) (.ofNat 1) g e p s = some (True) := by kernel_rfl
theorem po_2_0_2 (j : Nat) (g e p : Int) (s : ByteArray) : tailR noOver ov0 (.ofNat 2) (.ofNat 3) (.ofNat 0) (.ofNat 2) g e p s = some (True) := by kernel_rfl
theorem po_2_0_3 (j : Nat) (g e p : Int) (s : ByteArray) : tailR noOver ov0 (.ofNat 2) (.ofNat 3) (.ofNat 0) (.ofNat 3) g e p s = some (True) := by kernel_rfl
theorem po_2_0_4 (j : Nat) (g e p : Int) (s : ByteArray) : tailR noOver ov0 (.ofNat 2) (.ofNat 3) (.ofNat 0) (.ofNat 4) g e p s = some (True) := by kernel_rfl
theorem po_2_0_5 (j : Nat) (g e p : Int) (s : ByteArray) : tailR noOver ov0 (.ofNat 2) (.ofNat 3) (.ofNat 0) (.ofNat 5) g e p s = some (True) := by kernel_rfl
theorem po_2_0_6 (j : Nat) (g e p : Int) (s : ByteArray) : tailR noOver ov0 (.ofNat 2) (.ofNat 3) (.ofNat 0) (.ofNat 6) g e p s = some (True) := by kernel_rfl
theorem po_2_0_7 (j : Nat) (g e p : Int) (s : ByteArray) : tailR noOver ov0 (.ofNat 2) (.ofNat 3) (.ofNat 0) (.ofNat 7) g e p s = some (True) := by kernel_rfl
theorem po_2_0_g (j : Nat) (g e p : Int) (s : ByteArray) : tailR noOver ov0 (.ofNat 2) (.ofNat 3) (.ofNat 0) (.ofNat (j + 8)) g e p s = some (True) := by kernel_rfl
theorem poll_2_0 (c g e p : Int) (s : ByteArray) (hlen : (s.data.toList.length : Int) ≤ 200) : Ref (.ofNat 2) (.ofNat 3) (.ofNat 0) c g e p s :=
  match c with
  | .negSucc j => ref_tail noOver_ok hlen (po_2_0_n j g e p s) trivial
  | .ofNat 0 => ref_tail noOver_ok hlen (po_2_0_0 0 g e p s) trivial
  | .ofNat 1 => ref_tail noOver_ok hlen (po_2_0_1 0 g e p s) trivial
  | .ofNat 2 => ref_tail noOver_ok hlen (po_2_0_2 0 g e p s) trivial
  | .ofNat 3 => ref_tail noOver_ok hlen (po_2_0_3 0 g e p s) trivial
  | .ofNat 4 => ref_tail noOver_ok hlen (po_2_0_4 0 g e p s) trivial
  | .ofNat 5 => ref_tail noOver_ok hlen (po_2_0_5 0 g e p s) trivial
  | .ofNat 6 => ref_tail noOver_ok hlen (po_2_0_6 0 g e p s) trivial
  | .ofNat 7 => ref_tail noOver_ok hlen (po_2_0_7 0 g e p s) trivial
  | .ofNat (j + 8) => ref_tail noOver_ok hlen (po_2_0_g j g e p s) trivial
theorem po_2_1_n (j : Nat) (g e p : Int) (s : ByteArray) : tailR noOver ov0 (.ofNat 2) (.ofNat 3) (.ofNat 1) (.negSucc j) g e p s = some (True) := by kernel_rfl
theorem po_2_1_0 (j : Nat) (g e p : Int) (s : ByteArray) : tailR noOver ov0 (.ofNat 2) (.ofNat 3) (.ofNat 1) (.ofNat 0) g e p s = some (True) := by kernel_rfl
theorem po_2_1_1 (j : Nat) (g e p : Int) (s : ByteArray) : tailR noOver ov0 (.ofNat 2) (.ofNat 3) (.ofNat 1) (.ofNat 1) g e p s = some (True) := by kernel_rfl
theorem po_2_1_2 (j : Nat) (g e p : Int) (s : ByteArray) : tailR noOver ov0 (.ofNat 2) (.ofNat 3) (.ofNat 1) (.ofNat 2) g e p s = some (True) := by kernel_rfl
theorem po_2_1_3 (j : Nat) (g e p : Int) (s : ByteArray) : tailR noOver ov0 (.ofNat 2) (.ofNat 3) (.ofNat 1) (.ofNat 3) g e p s = some (True) := by kernel_rfl
theorem po_2_1_4 (j : Nat) (g e p : Int) (s : ByteArray) : tailR noOver ov0 (.ofNat 2) (.ofNat 3) (.ofNat 1) (.ofNat 4) g e p s = some (True) := by kernel_rfl
theorem po_2_1_5 (j : Nat) (g e p : Int) (s : ByteArray) : tailR noOver ov0 (.ofNat 2) (.ofNat 3) (.ofNat 1) (.ofNat 5) g e p s = some (True) := by kernel_rfl
theorem po_2_1_6 (j : Nat) (g e p : Int) (s : ByteArray) : tailR noOver ov0 (.ofNat 2) (.ofNat 3) (.ofNat 1) (.ofNat 6) g e p s = some (True) := by kernel_rfl
theorem po_2_1_7 (j : Nat) (g e p : Int) (s : ByteArray) : tailR noOver ov0 (.ofNat 2) (.ofNat 3) (.ofNat 1) (.ofNat 7) g e p s = some (True) := by kernel_rfl
theorem po_2_1_g (j : Nat) (g e p : Int) (s : ByteArray) : tailR noOver ov0 (.ofNat 2) (.ofNat 3) (.ofNat 1) (.ofNat (j + 8)) g e p s = some (True) := by kernel_rfl
theorem poll_2_1 (c g e p : Int) (s : ByteArray) (hlen : (s.data.toList.length : Int) ≤ 200) : Ref (.ofNat 2) (.ofNat 3) (.ofNat 1) c g e p s :=
  match c with
  | .negSucc j => ref_tail noOver_ok hlen (po_2_1_n j g e p s) trivial
  | .ofNat 0 => ref_tail noOver_ok hlen (po_2_1_0 0 g e p s) trivial
  | .ofNat 1 => ref_tail noOver_ok hlen (po_2_1_1 0 g e p s) trivial
  | .ofNat 2 => ref_tail noOver_ok hlen (po_2_1_2 0 g e p s) trivial
  | .ofNat 3 => ref_tail noOver_ok hlen (po_2_1_3 0 g e p s) trivial
  | .ofNat 4 => ref_tail noOver_ok hlen (po_2_1_4 0 g e p s) trivial
  | .ofNat 5 => ref_tail noOver_ok hlen (po_2_1_5 0 g e p s) trivial
  | .ofNat 6 => ref_tail noOver_ok hlen (po_2_1_6 0 g e p s) trivial
  | .ofNat 7 => ref_tail noOver_ok hlen (po_2_1_7 0 g e p s) trivial
  | .ofNat (j + 8) => ref_tail noOver_ok hlen (po_2_1_g j g e p s) trivial
end Go.Proofs.YtognbiffhgpoaaaGreat.Hx
