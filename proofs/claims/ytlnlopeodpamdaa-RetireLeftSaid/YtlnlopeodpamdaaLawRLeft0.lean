/-
  RetireLeft with 0 blocks in the first list.
-/
import Derived.Test.YtlnlopeodpamdaaLawRLeft
namespace Go.Proofs.Ytlnlopeodpamdaa.Hx
open Go AH Go.Proofs
theorem rl_0_0 (a b : Int) : runL 0 0 a b = some (owL a b 0 0) := by kernel_rfl
theorem rl_0_1 (a b : Int) : runL 0 1 a b = some (owL a b 0 1) := by kernel_rfl
theorem rl_0_2 (a b : Int) : runL 0 2 a b = some (owL a b 0 2) := by kernel_rfl
theorem rl_0_3 (a b : Int) : runL 0 3 a b = some (owL a b 0 3) := by kernel_rfl
theorem rl_0_4 (a b : Int) : runL 0 4 a b = some (owL a b 0 4) := by kernel_rfl
theorem rl_0_5 (a b : Int) : runL 0 5 a b = some (owL a b 0 5) := by kernel_rfl
theorem rl_0_6 (a b : Int) : runL 0 6 a b = some (owL a b 0 6) := by kernel_rfl
theorem rl_0_7 (a b : Int) : runL 0 7 a b = some (owL a b 0 7) := by kernel_rfl
theorem rl_0 (a b : Int) (k : Nat) (h : k < 8) : runL 0 k a b = some (owL a b 0 k) :=
  match k, h with
  | 0, _ => rl_0_0 a b
  | 1, _ => rl_0_1 a b
  | 2, _ => rl_0_2 a b
  | 3, _ => rl_0_3 a b
  | 4, _ => rl_0_4 a b
  | 5, _ => rl_0_5 a b
  | 6, _ => rl_0_6 a b
  | 7, _ => rl_0_7 a b
  | k + 8, h => by omega
end Go.Proofs.Ytlnlopeodpamdaa.Hx
