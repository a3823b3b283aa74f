/-
  Lists that nobody made, and a list that there is not, have no blocks, whatever the two numbers are; true, and both read as they did. Conditions: none.
-/
import Derived.Test.YtlnlopeodpamdaaAh35
import Derived.Test.YtlnlopeodpamdaaRows
namespace Go.Proofs.Ytlnlopeodpamdaa
open Go.ChangeShapes Go.WideShapes Go.ChangeAt Go.RowKit

theorem Rn.own : ownKnob Try.prog.godebug = none := by kernel_rfl
theorem Rn.laidOut : laidOutB Try.prog = true := by kernel_rfl
theorem Rn.mixed : Try.prog.follows .mixedOrders = true := Try.checked.mixed

noncomputable def Rn.M : AH.EnvM := AH.envOf Try.prog Rn.mixed
noncomputable def Rn.run (a b : Int) : Bool := AH.isT (AH.ev2 Rn.M AH.noOrc 100000 50 8 [.int .i64 a, .int .i64 b] AH.St.empty)

theorem Rn.r00 (k j : Nat) : Rn.run (.negSucc k) (.negSucc j) = true := by kernel_rfl
theorem Rn.r01 (k : Nat) : Rn.run (.negSucc k) 0 = true := by kernel_rfl
theorem Rn.r02 (k j : Nat) : Rn.run (.negSucc k) (.ofNat (j + 1)) = true := by kernel_rfl
theorem Rn.r10 (j : Nat) : Rn.run 0 (.negSucc j) = true := by kernel_rfl
theorem Rn.r11 : Rn.run 0 0 = true := by kernel_rfl
theorem Rn.r12 (j : Nat) : Rn.run 0 (.ofNat (j + 1)) = true := by kernel_rfl
theorem Rn.r20 (j : Nat) : Rn.run 1 (.negSucc j) = true := by kernel_rfl
theorem Rn.r21 : Rn.run 1 0 = true := by kernel_rfl
theorem Rn.r22 (j : Nat) : Rn.run 1 (.ofNat (j + 1)) = true := by kernel_rfl
theorem Rn.r30 (k j : Nat) : Rn.run (.ofNat (k + 2)) (.negSucc j) = true := by kernel_rfl
theorem Rn.r31 (k : Nat) : Rn.run (.ofNat (k + 2)) 0 = true := by kernel_rfl
theorem Rn.r32 (k j : Nat) : Rn.run (.ofNat (k + 2)) (.ofNat (j + 1)) = true := by kernel_rfl

theorem Rn.runs : ∀ a b : Int, Rn.run a b = true
  | .negSucc k, .negSucc j => Rn.r00 k j
  | .negSucc k, .ofNat 0 => Rn.r01 k
  | .negSucc k, .ofNat (j + 1) => Rn.r02 k j
  | .ofNat 0, .negSucc j => Rn.r10 j
  | .ofNat 0, .ofNat 0 => Rn.r11
  | .ofNat 0, .ofNat (j + 1) => Rn.r12 j
  | .ofNat 1, .negSucc j => Rn.r20 j
  | .ofNat 1, .ofNat 0 => Rn.r21
  | .ofNat 1, .ofNat (j + 1) => Rn.r22 j
  | .ofNat (k + 2), .negSucc j => Rn.r30 k j
  | .ofNat (k + 2), .ofNat 0 => Rn.r31 k
  | .ofNat (k + 2), .ofNat (j + 1) => Rn.r32 k j

theorem Rn.calls (a b : Int) (W : World) : Calls Try.prog 8 #[.int .i64 a, .int .i64 b] W (fun e w' => e = .returned (.bool true) ∧ Below W.heap.size W w') :=
  AH.CallOk.true_of (AH.ev2_sound (AH.noOrc_ok Rn.M) 100000 50) (Rn.runs a b) (by simp) W

set_option maxRecDepth 100000 in
theorem Rn.lifted (os : Os) (started : os.Started) (H : Type) (enc : TypeId × Value → H) :
    ReturnsInHanded {} Try.checked os 8 .any (Rows.retireNobodySpec.pre6 enc Try.prog Try.f8 Rows.retireNobodyRow.domain false) (Rows.retireNobodySpec.post enc Try.prog Try.f8 false true false false) := by
  refine returnsInHanded_of_change (C := Try.checked) Rn.own started (by kernel_rfl) Try.func8
    (ChangeSpec.witness6 (enc := enc) (C := Try.checked) false ⟨#[], #[.int .i64 0, .int .i64 0], []⟩ 8 (by kernel_rfl) (by kernel_rfl) (by kernel_rfl) (by kernel_rfl)) ?_
  intro W base args ds gs before hval0 hW _ _
  have hval : ∀ (j : Nat) t v, Try.f8.params[j]? = some t → args[j]? = some v → Value.okWide Try.prog W .any base t v := hval0
  have hW' := hW
  obtain ⟨p, q, hA0, hV, rfl, hfz, hnd⟩ := hW
  have hA : DataW.TrodAll enc Try.prog W 0 (fun _ => true) true Try.f8.params.toList args.toList ds p := hA0
  rw [Try.params8] at hA hval
  obtain ⟨v0, v1, d0, d1, p0, p1, rfl, rfl, rfl, h0, h1⟩ := trodAll_two hA
  obtain ⟨a, rfl, rfl, rfl, wa⟩ := open_int Try.underlying3 (hval 0 3 v0 rfl rfl) h0
  obtain ⟨b, rfl, rfl, rfl, wb⟩ := open_int Try.underlying3 (hval 1 3 v1 rfl rfl) h1
  refine (Rn.calls a b W).mono fun e W' ⟨he, hb⟩ => ⟨_, he, ?_⟩
  exact AH.post_true Rn.laidOut hW' rfl rfl (by kernel_rfl) (by
    intro t ht
    have : t = 4 := by simpa [Try.f8] using ht
    subst this; exact Try.underlying4) (by kernel_rfl) hb

theorem retireNobody_holds : Rows.RetireNobodySaid :=
  OpenClaim.holds_of_wide 8 Try.f8 rfl rfl rfl rfl rfl rfl rfl ⟨rfl, rfl, rfl, rfl, rfl⟩ rfl rfl rfl rfl rfl (by kernel_rfl) Try.func8 (by kernel_rfl)
    (of_decide_eq_true (by kernel_rfl)) (by unfold Func.isWrapper; first | (rw [if_pos (by decide +kernel)]; kernel_rfl) | (rw [if_neg (by decide +kernel)]; exact ⟨rfl, rfl⟩))
    (fun os started H enc _ => Rn.lifted os started H enc)

#print axioms retireNobody_holds
end Go.Proofs.Ytlnlopeodpamdaa
