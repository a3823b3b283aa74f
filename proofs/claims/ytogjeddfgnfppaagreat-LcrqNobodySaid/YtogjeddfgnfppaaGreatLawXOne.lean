/-
  The play that the statements of layer 15 ask first, reckoned once; what the runs of LcrqNobody share.
-/
import Derived.Test.YtogjeddfgnfppaaGreatAh37
import Derived.Test.YtogjeddfgnfppaaGreatLawHOrc
namespace Go.Proofs.YtogjeddfgnfppaaGreat.Hx
open Go AH Go.Proofs
theorem one16 : isT (ev3 M orc 100000 50 16 [] St.empty) = true := by kernel_rfl
noncomputable def orc15 : CallF := orcT 16 orc
theorem orc15_ok : CallOk M orc15 := orcT_ok orc_ok (ev3_sound orc_ok 100000 50) one16
noncomputable def ev15 : CallF := ev3 M orc15 100000 50
theorem ev15_ok : CallOk M ev15 := ev3_sound orc15_ok 100000 50
def ovN (b : Bool) : FuncId → Tmp → Option Value := fun g t => bif Nat.beq g 4 then (bif Nat.beq t 154 || Nat.beq t 170 then some (.bool b) else none) else bif Nat.beq g 34 && Nat.beq t 36 then some (.bool b) else none
noncomputable def runN (b : Bool) (t v : Int) : Option Prop := okO (evP M orc15 ev15 (ovN b) 100000 50 4 [.int .i64 t, .int .u64 v] St.empty True)
end Go.Proofs.YtogjeddfgnfppaaGreat.Hx
