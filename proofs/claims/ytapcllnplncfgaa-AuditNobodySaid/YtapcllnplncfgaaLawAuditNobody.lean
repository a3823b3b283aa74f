/-
  A broker that nobody made has an empty view, without faults, whatever the number is; true, and it reads as it did. Conditions: none.
-/
import Derived.Test.YtapcllnplncfgaaAh23
import Derived.Test.YtapcllnplncfgaaRows
namespace Go.Proofs.Ytapcllnplncfgaa
open Go.ChangeShapes Go.WideShapes Go.ChangeAt Go.RowKit

namespace Ao
theorem own : ownKnob Try.prog.godebug = none := by kernel_rfl
theorem laidOut : laidOutB Try.prog = true := by kernel_rfl
theorem mixed : Try.prog.follows .mixedOrders = true := Try.checked.mixed

noncomputable def M : AH.EnvM := AH.envOf Try.prog mixed

/-- A number below 0, one of 0 to 9, or one above. -/
def vals (k : Nat) : List Int := [.negSucc k, 0, 1, 2, 3, 4, 5, 6, 7, 8, 9, .ofNat (k + 10)]

theorem vals_all (a : Int) : ∃ k, a ∈ vals k := by
  cases a with
  | negSucc k => exact ⟨k, by simp [vals]⟩
  | ofNat n =>
    rcases Nat.lt_or_ge n 10 with h | h
    · refine ⟨0, ?_⟩
      match n, h with
      | 0, _ => simp [vals]
      | 1, _ => simp [vals]
      | 2, _ => simp [vals]
      | 3, _ => simp [vals]
      | 4, _ => simp [vals]
      | 5, _ => simp [vals]
      | 6, _ => simp [vals]
      | 7, _ => simp [vals]
      | 8, _ => simp [vals]
      | 9, _ => simp [vals]
    · refine ⟨n - 10, ?_⟩
      have : n - 10 + 10 = n := by omega
      simp [vals, this]

theorem runs (k : Nat) : ((vals k).all fun a => AH.isT (AH.evF M AH.noOrc 100000 50 4 [.int .i64 a] AH.St.empty)) = true := by kernel_rfl

theorem calls (a : Int) (W : World) : Calls Try.prog 4 #[.int .i64 a] W (fun e w' => e = .returned (.bool true) ∧ Below W.heap.size W w') := by
  obtain ⟨k, hk⟩ := vals_all a
  exact AH.CallOk.true_of (AH.evF_sound (AH.noOrc_ok M) 100000 50) (List.all_eq_true.1 (runs k) a hk) (by simp) W

set_option maxRecDepth 100000 in
theorem lifted (os : Os) (started : os.Started) (H : Type) (enc : TypeId × Value → H) :
    ReturnsInHanded {} Try.checked os 4 .any (Rows.auditNobodySpec.pre6 enc Try.prog Try.f4 Rows.auditNobodyRow.domain false) (Rows.auditNobodySpec.post enc Try.prog Try.f4 false true false false) := by
  refine returnsInHanded_of_change (C := Try.checked) own started (by kernel_rfl) Try.func4
    (ChangeSpec.witness6 (enc := enc) (C := Try.checked) false ⟨#[], #[.int .i64 0], []⟩ 8 (by kernel_rfl) (by kernel_rfl) (by kernel_rfl) (by kernel_rfl)) ?_
  intro W base args ds gs before hval0 hW _ _
  have hval : ∀ (j : Nat) t v, Try.f4.params[j]? = some t → args[j]? = some v → Value.okWide Try.prog W .any base t v := hval0
  have hW' := hW
  obtain ⟨p, q, hA0, hV, rfl, hfz, hnd⟩ := hW
  have hA : DataW.TrodAll enc Try.prog W 0 (fun _ => true) true Try.f4.params.toList args.toList ds p := hA0
  rw [Try.params4] at hA hval
  obtain ⟨v0, d0, rfl, rfl, h0⟩ := trodAll_one hA
  obtain ⟨a, rfl, rfl, rfl, wa⟩ := open_int Try.underlying3 (hval 0 3 v0 rfl rfl) h0
  refine (calls a W).mono fun e W' ⟨he, hb⟩ => ⟨_, he, ?_⟩
  exact AH.post_true laidOut hW' rfl rfl (by kernel_rfl) (by
    intro t ht
    have : t = 4 := by simpa [Try.f4] using ht
    subst this; exact Try.underlying4) (by kernel_rfl) hb

theorem holds : Rows.AuditNobodySaid :=
  OpenClaim.holds_of_wide 4 Try.f4 rfl rfl rfl rfl rfl rfl rfl ⟨rfl, rfl, rfl, rfl, rfl⟩ rfl rfl rfl rfl rfl (by kernel_rfl) Try.func4 (by kernel_rfl)
    (of_decide_eq_true (by kernel_rfl)) (by unfold Func.isWrapper; first | (rw [if_pos (by decide +kernel)]; kernel_rfl) | (rw [if_neg (by decide +kernel)]; exact ⟨rfl, rfl⟩))
    (fun os started H enc _ => lifted os started H enc)
end Ao

theorem auditNobody_holds : Rows.AuditNobodySaid := Ao.holds

#print axioms auditNobody_holds
end Go.Proofs.Ytapcllnplncfgaa
