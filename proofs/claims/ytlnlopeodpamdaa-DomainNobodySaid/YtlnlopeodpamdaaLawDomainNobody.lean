/-
  A domain that nobody made has no threads, whatever the two numbers are; true, and both read as they did. Conditions: none.
-/
import Derived.Test.YtlnlopeodpamdaaAh23
import Derived.Test.YtlnlopeodpamdaaRows
namespace Go.Proofs.Ytlnlopeodpamdaa
open Go.ChangeShapes Go.WideShapes Go.ChangeAt Go.RowKit

theorem Dn.own : ownKnob Try.prog.godebug = none := by kernel_rfl
theorem Dn.laidOut : laidOutB Try.prog = true := by kernel_rfl
theorem Dn.mixed : Try.prog.follows .mixedOrders = true := Try.checked.mixed

noncomputable def Dn.M : AH.EnvM := AH.envOf Try.prog Dn.mixed

theorem Dn.runs (a b : Int) : AH.isT (AH.evF Dn.M AH.noOrc 100000 50 3 [.int .i64 a, .int .i64 b] AH.St.empty) = true := by kernel_rfl

theorem Dn.calls (a b : Int) (W : World) : Calls Try.prog 3 #[.int .i64 a, .int .i64 b] W (fun e w' => e = .returned (.bool true) ∧ Below W.heap.size W w') :=
  AH.CallOk.true_of (AH.evF_sound (AH.noOrc_ok Dn.M) 100000 50) (Dn.runs a b) (by simp) W

set_option maxRecDepth 100000 in
theorem Dn.lifted (os : Os) (started : os.Started) (H : Type) (enc : TypeId × Value → H) :
    ReturnsInHanded {} Try.checked os 3 .any (Rows.domainNobodySpec.pre6 enc Try.prog Try.f3 Rows.domainNobodyRow.domain false) (Rows.domainNobodySpec.post enc Try.prog Try.f3 false true false false) := by
  refine returnsInHanded_of_change (C := Try.checked) Dn.own started (by kernel_rfl) Try.func3
    (ChangeSpec.witness6 (enc := enc) (C := Try.checked) false ⟨#[], #[.int .i64 0, .int .i64 0], []⟩ 8 (by kernel_rfl) (by kernel_rfl) (by kernel_rfl) (by kernel_rfl)) ?_
  intro W base args ds gs before hval0 hW _ _
  have hval : ∀ (j : Nat) t v, Try.f3.params[j]? = some t → args[j]? = some v → Value.okWide Try.prog W .any base t v := hval0
  have hW' := hW
  obtain ⟨p, q, hA0, hV, rfl, hfz, hnd⟩ := hW
  have hA : DataW.TrodAll enc Try.prog W 0 (fun _ => true) true Try.f3.params.toList args.toList ds p := hA0
  rw [Try.params3] at hA hval
  obtain ⟨v0, v1, d0, d1, p0, p1, rfl, rfl, rfl, h0, h1⟩ := trodAll_two hA
  obtain ⟨a, rfl, rfl, rfl, wa⟩ := open_int Try.underlying3 (hval 0 3 v0 rfl rfl) h0
  obtain ⟨b, rfl, rfl, rfl, wb⟩ := open_int Try.underlying3 (hval 1 3 v1 rfl rfl) h1
  refine (Dn.calls a b W).mono fun e W' ⟨he, hb⟩ => ⟨_, he, ?_⟩
  exact AH.post_true Dn.laidOut hW' rfl rfl (by kernel_rfl) (by
    intro t ht
    have : t = 4 := by simpa [Try.f3] using ht
    subst this; exact Try.underlying4) (by kernel_rfl) hb

theorem domainNobody_holds : Rows.DomainNobodySaid :=
  OpenClaim.holds_of_wide 3 Try.f3 rfl rfl rfl rfl rfl rfl rfl ⟨rfl, rfl, rfl, rfl, rfl⟩ rfl rfl rfl rfl rfl (by kernel_rfl) Try.func3 (by kernel_rfl)
    (of_decide_eq_true (by kernel_rfl)) (by unfold Func.isWrapper; first | (rw [if_pos (by decide +kernel)]; kernel_rfl) | (rw [if_neg (by decide +kernel)]; exact ⟨rfl, rfl⟩))
    (fun os started H enc _ => Dn.lifted os started H enc)

#print axioms domainNobody_holds
end Go.Proofs.Ytlnlopeodpamdaa
