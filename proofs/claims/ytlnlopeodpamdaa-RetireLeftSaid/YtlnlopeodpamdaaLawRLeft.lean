/-
  What RetireLeft's runs share.
-/
import Derived.Test.YtlnlopeodpamdaaAh35
import Derived.Test.YtlnlopeodpamdaaLawHOrc
namespace Go.Proofs.Ytlnlopeodpamdaa.Hx
open Go AH Go.Proofs
noncomputable section
theorem one58 : isT (ev2 M noOrc 100000 50 58 [] St.empty) = true := by kernel_rfl
noncomputable def orc11 : CallF := orcT 58 orc
theorem orc11_ok : CallOk M orc11 := orcT_ok orc_ok (ev2_sound (noOrc_ok M) 100000 50) one58
noncomputable def ev11 : CallF := ev2 M orc11 100000 50
theorem ev11_ok : CallOk M ev11 := ev2_sound orc11_ok 100000 50
def ovL (n k : Int) : Tmp → Option Value := fun t => bif Nat.beq t 34 then some (.int .i64 n) else bif Nat.beq t 36 then some (.int .i64 k) else none
def owL (a b n k : Int) : Prop := (True ∧ intOp .and .i64 a 3 = some (.int .i64 n)) ∧ intOp .and .i64 b 7 = some (.int .i64 k)
noncomputable def runL (n k a b : Int) : Option Prop := okO (bodyO M ev11 (ovL n k) 100000 9 [.int .i64 a, .int .i64 b] St.empty)
theorem and_mask (x m : Int) (j : Nat) (hj : j < 63) (hm : (BitVec.ofInt 64 m).toNat = 2 ^ j - 1) : ∃ n : Nat, n < 2 ^ j ∧ intOp .and .i64 x m = some (.int .i64 n) := by
  refine ⟨(BitVec.ofInt 64 x).toNat % 2 ^ j, Nat.mod_lt _ (Nat.two_pow_pos j), ?_⟩
  show some (Value.int .i64 (IntKind.i64.wrap (((BitVec.ofInt 64 x) &&& (BitVec.ofInt 64 m)).toNat : Nat))) = _
  rw [BitVec.toNat_and, hm, Nat.and_two_pow_sub_one_eq_mod]
  have h1 : (BitVec.ofInt 64 x).toNat % 2 ^ j < 2 ^ j := Nat.mod_lt _ (Nat.two_pow_pos j)
  have h2 : 2 ^ j ≤ 2 ^ 62 := Nat.pow_le_pow_right (by omega) (by omega)
  have h3 : (2 : Nat) ^ 62 = 4611686018427387904 := rfl
  rw [IntWalk.i64_in _ (by omega)]
end
end Go.Proofs.Ytlnlopeodpamdaa.Hx
