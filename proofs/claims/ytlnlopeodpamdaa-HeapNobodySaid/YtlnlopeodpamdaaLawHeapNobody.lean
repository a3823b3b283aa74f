/-
  A heap that nobody made has no words, whatever the step is; true, and it reads as it did. Conditions: none.
-/
import Derived.Test.YtlnlopeodpamdaaAh35
import Derived.Test.YtlnlopeodpamdaaLawHOrc
import Derived.Lib.SmallJoins
namespace Go.Proofs.Ytlnlopeodpamdaa
open Go.ChangeShapes Go.WideShapes Go.ChangeAt Go.RowKit

theorem Hn.own : ownKnob Try.prog.godebug = none := by kernel_rfl
theorem Hn.laidOut : laidOutB Try.prog = true := by kernel_rfl

theorem Hn.runs (a b : Int) : AH.isT (AH.ev2 Hx.M Hx.orc 100000 50 6 [.agg #[.int .i64 a, .int .i64 b]] AH.St.empty) = true := by kernel_rfl

theorem Hn.calls (a b : Int) (W : World) : Calls Try.prog 6 #[.agg #[.int .i64 a, .int .i64 b]] W (fun e w' => e = .returned (.bool true) ∧ Below W.heap.size W w') :=
  AH.CallOk.true_of (AH.ev2_sound Hx.orc_ok 100000 50) (Hn.runs a b) (by simp) W

set_option maxRecDepth 100000 in
theorem Hn.lifted (os : Os) (started : os.Started) (H : Type) (enc : TypeId × Value → H) :
    ReturnsInHanded {} Try.checked os 6 .any (Rows.heapNobodySpec.pre6 enc Try.prog Try.f6 Rows.heapNobodyRow.domain false) (Rows.heapNobodySpec.post enc Try.prog Try.f6 false true false false) := by
  refine returnsInHanded_of_change (C := Try.checked) Hn.own started (by kernel_rfl) Try.func6
    (ChangeSpec.witness6 (enc := enc) (C := Try.checked) false ⟨#[], #[.agg #[.int .i64 0, .int .i64 0]], []⟩ 8 (by kernel_rfl) (by kernel_rfl) (by kernel_rfl) (by kernel_rfl)) ?_
  intro W base args ds gs before hval0 hW _ _
  have hval : ∀ (j : Nat) t v, Try.f6.params[j]? = some t → args[j]? = some v → Value.okWide Try.prog W .any base t v := hval0
  have hW' := hW
  obtain ⟨p, q, hA0, hV, rfl, hfz, hnd⟩ := hW
  have hA : DataW.TrodAll enc Try.prog W 0 (fun _ => true) true Try.f6.params.toList args.toList ds p := hA0
  rw [Try.params6] at hA hval
  obtain ⟨v0, d0, rfl, rfl, h0⟩ := trodAll_one hA
  obtain ⟨c0, c1, y0, y1, n, rfl, rfl, rfl, t0, t1⟩ := Go.Joins.open_agg2 Try.underlying63 (by kernel_rfl) (by kernel_rfl) (hval 0 63 v0 rfl rfl) h0
  obtain ⟨a, e0, _, _⟩ := DataW.trod_int Try.underlying3 t0
  obtain ⟨b, e1, _, _⟩ := DataW.trod_int Try.underlying3 t1
  obtain rfl : c0 = .int .i64 a := by simpa using e0
  obtain rfl : c1 = .int .i64 b := by simpa using e1
  refine (Hn.calls a b W).mono fun e W' ⟨he, hb⟩ => ⟨_, he, ?_⟩
  exact AH.post_true Hn.laidOut hW' rfl rfl (by kernel_rfl) (by
    intro t ht
    have : t = 4 := by simpa [Try.f6] using ht
    subst this; exact Try.underlying4) (by kernel_rfl) hb

theorem heapNobody_holds : Rows.HeapNobodySaid :=
  OpenClaim.holds_of_wide 6 Try.f6 rfl rfl rfl rfl rfl rfl rfl ⟨rfl, rfl, rfl, rfl, rfl⟩ rfl rfl rfl rfl rfl (by kernel_rfl) Try.func6 (by kernel_rfl)
    (of_decide_eq_true (by kernel_rfl)) (by unfold Func.isWrapper; first | (rw [if_pos (by decide +kernel)]; kernel_rfl) | (rw [if_neg (by decide +kernel)]; exact ⟨rfl, rfl⟩))
    (fun os started H enc _ => Hn.lifted os started H enc)

#print axioms heapNobody_holds
end Go.Proofs.Ytlnlopeodpamdaa
