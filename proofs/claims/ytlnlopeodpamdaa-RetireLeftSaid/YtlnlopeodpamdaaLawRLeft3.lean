/-
  RetireLeft with 3 blocks in the first list.
-/
import Derived.Test.YtlnlopeodpamdaaLawRLeft
namespace Go.Proofs.Ytlnlopeodpamdaa.Hx
open Go AH Go.Proofs
theorem rl_3_0 (a b : Int) : runL 3 0 a b = some (owL a b 3 0) := by kernel_rfl
theorem rl_3_1 (a b : Int) : runL 3 1 a b = some (owL a b 3 1) := by kernel_rfl
theorem rl_3_2 (a b : Int) : runL 3 2 a b = some (owL a b 3 2) := by kernel_rfl
theorem rl_3_3 (a b : Int) : runL 3 3 a b = some (owL a b 3 3) := by kernel_rfl
theorem rl_3_4 (a b : Int) : runL 3 4 a b = some (owL a b 3 4) := by kernel_rfl
theorem rl_3_5 (a b : Int) : runL 3 5 a b = some (owL a b 3 5) := by kernel_rfl
theorem rl_3_6 (a b : Int) : runL 3 6 a b = some (owL a b 3 6) := by kernel_rfl
theorem rl_3_7 (a b : Int) : runL 3 7 a b = some (owL a b 3 7) := by kernel_rfl
theorem rl_3 (a b : Int) (k : Nat) (h : k < 8) : runL 3 k a b = some (owL a b 3 k) :=
  match k, h with
  | 0, _ => rl_3_0 a b
  | 1, _ => rl_3_1 a b
  | 2, _ => rl_3_2 a b
  | 3, _ => rl_3_3 a b
  | 4, _ => rl_3_4 a b
  | 5, _ => rl_3_5 a b
  | 6, _ => rl_3_6 a b
  | 7, _ => rl_3_7 a b
  | k + 8, h => by omega
end Go.Proofs.Ytlnlopeodpamdaa.Hx
