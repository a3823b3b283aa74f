/-
  RetireLeft with 1 blocks in the first list.
-/
import Derived.Test.YtlnlopeodpamdaaLawRLeft
namespace Go.Proofs.Ytlnlopeodpamdaa.Hx
open Go AH Go.Proofs
theorem rl_1_0 (a b : Int) : runL 1 0 a b = some (owL a b 1 0) := by kernel_rfl
theorem rl_1_1 (a b : Int) : runL 1 1 a b = some (owL a b 1 1) := by kernel_rfl
theorem rl_1_2 (a b : Int) : runL 1 2 a b = some (owL a b 1 2) := by kernel_rfl
theorem rl_1_3 (a b : Int) : runL 1 3 a b = some (owL a b 1 3) := by kernel_rfl
theorem rl_1_4 (a b : Int) : runL 1 4 a b = some (owL a b 1 4) := by kernel_rfl
theorem rl_1_5 (a b : Int) : runL 1 5 a b = some (owL a b 1 5) := by kernel_rfl
theorem rl_1_6 (a b : Int) : runL 1 6 a b = some (owL a b 1 6) := by kernel_rfl
theorem rl_1_7 (a b : Int) : runL 1 7 a b = some (owL a b 1 7) := by kernel_rfl
theorem rl_1 (a b : Int) (k : Nat) (h : k < 8) : runL 1 k a b = some (owL a b 1 k) :=
  match k, h with
  | 0, _ => rl_1_0 a b
  | 1, _ => rl_1_1 a b
  | 2, _ => rl_1_2 a b
  | 3, _ => rl_1_3 a b
  | 4, _ => rl_1_4 a b
  | 5, _ => rl_1_5 a b
  | 6, _ => rl_1_6 a b
  | 7, _ => rl_1_7 a b
  | k + 8, h => by omega
end Go.Proofs.Ytlnlopeodpamdaa.Hx
