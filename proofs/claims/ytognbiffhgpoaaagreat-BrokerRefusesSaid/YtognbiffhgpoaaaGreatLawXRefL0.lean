/-
  BrokerRefuses: Leave of topic 0.
-/
import Derived.Test.YtognbiffhgpoaaaGreatLawXPay
set_option maxRecDepth 100000
set_option linter.unusedVariables false
namespace Go.Proofs.YtognbiffhgpoaaaGreat.Hx
open Go AH Go.Proofs
theorem gr_2_0_n (j : Nat) (t g e p : Int) (s : ByteArray) : tailR noOver ovT t (.ofNat 2) (.ofNat 0) (.negSucc j) g e p s = some (pT t) := by kernel_rfl
theorem gr_2_0_0 (j : Nat) (t g e p : Int) (s : ByteArray) : tailR noOver ovT t (.ofNat 2) (.ofNat 0) (.ofNat 0) g e p s = some (pT t) := by kernel_rfl
theorem gr_2_0_1 (j : Nat) (t g e p : Int) (s : ByteArray) : tailR noOver ovT t (.ofNat 2) (.ofNat 0) (.ofNat 1) g e p s = some (pT t) := by kernel_rfl
theorem gr_2_0_2 (j : Nat) (t g e p : Int) (s : ByteArray) : tailR noOver ovT t (.ofNat 2) (.ofNat 0) (.ofNat 2) g e p s = some (pT t) := by kernel_rfl
theorem gr_2_0_3 (j : Nat) (t g e p : Int) (s : ByteArray) : tailR noOver ovT t (.ofNat 2) (.ofNat 0) (.ofNat 3) g e p s = some (pT t) := by kernel_rfl
theorem gr_2_0_4 (j : Nat) (t g e p : Int) (s : ByteArray) : tailR noOver ovT t (.ofNat 2) (.ofNat 0) (.ofNat 4) g e p s = some (pT t) := by kernel_rfl
theorem gr_2_0_5 (j : Nat) (t g e p : Int) (s : ByteArray) : tailR noOver ovT t (.ofNat 2) (.ofNat 0) (.ofNat 5) g e p s = some (pT t) := by kernel_rfl
theorem gr_2_0_6 (j : Nat) (t g e p : Int) (s : ByteArray) : tailR noOver ovT t (.ofNat 2) (.ofNat 0) (.ofNat 6) g e p s = some (pT t) := by kernel_rfl
theorem gr_2_0_7 (j : Nat) (t g e p : Int) (s : ByteArray) : tailR noOver ovT t (.ofNat 2) (.ofNat 0) (.ofNat 7) g e p s = some (pT t) := by kernel_rfl
theorem gr_2_0_g (j : Nat) (t g e p : Int) (s : ByteArray) : tailR noOver ovT t (.ofNat 2) (.ofNat 0) (.ofNat (j + 8)) g e p s = some (pT t) := by kernel_rfl
theorem grp_2_0 (t c g e p : Int) (s : ByteArray) (ht : 0 ≤ t ∧ t ≤ 2) (hlen : (s.data.toList.length : Int) ≤ 200) : Ref t (.ofNat 2) (.ofNat 0) c g e p s :=
  match c with
  | .negSucc j => ref_tail noOver_ok hlen (gr_2_0_n j t g e p s) (pT_ok ht)
  | .ofNat 0 => ref_tail noOver_ok hlen (gr_2_0_0 0 t g e p s) (pT_ok ht)
  | .ofNat 1 => ref_tail noOver_ok hlen (gr_2_0_1 0 t g e p s) (pT_ok ht)
  | .ofNat 2 => ref_tail noOver_ok hlen (gr_2_0_2 0 t g e p s) (pT_ok ht)
  | .ofNat 3 => ref_tail noOver_ok hlen (gr_2_0_3 0 t g e p s) (pT_ok ht)
  | .ofNat 4 => ref_tail noOver_ok hlen (gr_2_0_4 0 t g e p s) (pT_ok ht)
  | .ofNat 5 => ref_tail noOver_ok hlen (gr_2_0_5 0 t g e p s) (pT_ok ht)
  | .ofNat 6 => ref_tail noOver_ok hlen (gr_2_0_6 0 t g e p s) (pT_ok ht)
  | .ofNat 7 => ref_tail noOver_ok hlen (gr_2_0_7 0 t g e p s) (pT_ok ht)
  | .ofNat (j + 8) => ref_tail noOver_ok hlen (gr_2_0_g j t g e p s) (pT_ok ht)
end Go.Proofs.YtognbiffhgpoaaaGreat.Hx
