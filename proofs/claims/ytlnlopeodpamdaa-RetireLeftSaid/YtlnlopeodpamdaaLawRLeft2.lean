/-
  RetireLeft with 2 blocks in the first list.
-/
import Derived.Test.YtlnlopeodpamdaaLawRLeft
namespace Go.Proofs.Ytlnlopeodpamdaa.Hx
open Go AH Go.Proofs
theorem rl_2_0 (a b : Int) : runL 2 0 a b = some (owL a b 2 0) := by kernel_rfl
theorem rl_2_1 (a b : Int) : runL 2 1 a b = some (owL a b 2 1) := by kernel_rfl
theorem rl_2_2 (a b : Int) : runL 2 2 a b = some (owL a b 2 2) := by kernel_rfl
theorem rl_2_3 (a b : Int) : runL 2 3 a b = some (owL a b 2 3) := by kernel_rfl
theorem rl_2_4 (a b : Int) : runL 2 4 a b = some (owL a b 2 4) := by kernel_rfl
theorem rl_2_5 (a b : Int) : runL 2 5 a b = some (owL a b 2 5) := by kernel_rfl
theorem rl_2_6 (a b : Int) : runL 2 6 a b = some (owL a b 2 6) := by kernel_rfl
theorem rl_2_7 (a b : Int) : runL 2 7 a b = some (owL a b 2 7) := by kernel_rfl
theorem rl_2 (a b : Int) (k : Nat) (h : k < 8) : runL 2 k a b = some (owL a b 2 k) :=
  match k, h with
  | 0, _ => rl_2_0 a b
  | 1, _ => rl_2_1 a b
  | 2, _ => rl_2_2 a b
  | 3, _ => rl_2_3 a b
  | 4, _ => rl_2_4 a b
  | 5, _ => rl_2_5 a b
  | 6, _ => rl_2_6 a b
  | 7, _ => rl_2_7 a b
  | k + 8, h => by omega
end Go.Proofs.Ytlnlopeodpamdaa.Hx
