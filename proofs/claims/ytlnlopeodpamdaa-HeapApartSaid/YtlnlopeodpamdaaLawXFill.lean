/-
  What HeapFills' runs share.
-/
import Derived.Test.YtlnlopeodpamdaaAh37
import Derived.Test.YtlnlopeodpamdaaLawHOrc
namespace Go.Proofs.Ytlnlopeodpamdaa.Hx
open Go AH Go.Proofs
theorem one32 : isT (ev2 M orc 100000 50 32 [] St.empty) = true := by kernel_rfl
noncomputable def orc03 : CallF := orcT 32 orc
theorem orc03_ok : CallOk M orc03 := orcT_ok orc_ok (ev2_sound orc_ok 100000 50) one32
noncomputable def ev03 : CallF := ev2 M orc03 100000 50
theorem ev03_ok : CallOk M ev03 := ev2_sound orc03_ok 100000 50
def ovF (w n : Int) : Tmp → Option Value := fun t => bif Nat.beq t 17 then some (.int .i64 w) else bif Nat.beq t 20 then some (.int .i64 n) else none
def owF (a b w n : Int) : Prop := (True ∧ intOp .and .i64 a 62 = some (.int .i64 w)) ∧ intOp .and .i64 b 7 = some (.int .i64 n)
noncomputable def runF (w n a b : Int) : Option Prop := okO (bodyO M ev03 (ovF w n) 100000 4 [.int .i64 a, .int .i64 b] St.empty)
theorem hd8 {α : Type} {x y : α} {l m : List α} (h : x :: l = y :: m) : x = y ∧ l = m := by cases h; exact ⟨rfl, rfl⟩
end Go.Proofs.Ytlnlopeodpamdaa.Hx
