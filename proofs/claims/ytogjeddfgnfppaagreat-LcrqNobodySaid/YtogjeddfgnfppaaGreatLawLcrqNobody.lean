/-
  An operation that nobody made, of a thread that is not registered, or of a number that is too great, does no step; true, whatever the thread and the number are, and both read as they did. Conditions: none.
-/
import Derived.Test.YtogjeddfgnfppaaGreatLawXOne
namespace Go.Proofs.YtogjeddfgnfppaaGreat
open Go.ChangeShapes Go.WideShapes Go.ChangeAt Go.RowKit

theorem Ln.own : ownKnob Tryz.prog.godebug = none := by kernel_rfl
theorem Ln.laidOut : laidOutB Tryz.prog = true := by kernel_rfl

def Ln.ow (b : Bool) (v : Int) : Prop := ((True ∧ AH.intOp .neq .u64 (v.fdiv (2 ^ 62)) 0 = some (.bool b)) ∧ AH.intOp .geq .u64 v 4611686018427387904 = some (.bool b)) ∧ AH.intOp .geq .u64 v 4611686018427387904 = some (.bool b)
theorem Ln.r0 (k : Nat) (v : Int) : Hx.runN true (.negSucc k) v = some True := by kernel_rfl
theorem Ln.r1t (v : Int) : Hx.runN true 0 v = some (Ln.ow true v) := by kernel_rfl
theorem Ln.r1f (v : Int) : Hx.runN false 0 v = some (Ln.ow false v) := by kernel_rfl
theorem Ln.r2t (v : Int) : Hx.runN true 1 v = some (Ln.ow true v) := by kernel_rfl
theorem Ln.r2f (v : Int) : Hx.runN false 1 v = some (Ln.ow false v) := by kernel_rfl
theorem Ln.r3t (v : Int) : Hx.runN true 2 v = some (Ln.ow true v) := by kernel_rfl
theorem Ln.r3f (v : Int) : Hx.runN false 2 v = some (Ln.ow false v) := by kernel_rfl
theorem Ln.r4 (k : Nat) (v : Int) : Hx.runN true (.ofNat (k + 3)) v = some True := by kernel_rfl

theorem Ln.owed (v : Int) (h0 : 0 ≤ v) : Ln.ow (decide (4611686018427387904 ≤ v)) v := by
  have h1 : AH.intOp .geq .u64 v 4611686018427387904 = some (.bool (decide (4611686018427387904 ≤ v))) := by
    show some (Value.bool (AH.leI 4611686018427387904 v)) = _
    rw [AH.leI_eq]
  have h2 : AH.intOp .neq .u64 (v.fdiv (2 ^ 62)) 0 = some (.bool (decide (4611686018427387904 ≤ v))) := by
    show some (Value.bool (v.fdiv (2 ^ 62) != 0)) = _
    congr 2
    have e : (2 : Int) ^ 62 = 4611686018427387904 := by decide
    rw [e, Int.fdiv_eq_ediv_of_nonneg _ (by decide)]
    by_cases h : 4611686018427387904 ≤ v
    · have : v / 4611686018427387904 ≠ 0 := by omega
      simp [h, this]
    · have : v / 4611686018427387904 = 0 := by omega
      simp [h, this]
  exact ⟨⟨⟨trivial, h2⟩, h1⟩, h1⟩

theorem Ln.runs (t v : Int) (h0 : 0 ≤ v) : ∃ b p, Hx.runN b t v = some p ∧ p := by
  have hb := Ln.owed v h0
  match t with
  | .negSucc k => exact ⟨true, True, Ln.r0 k v, trivial⟩
  | .ofNat 0 =>
    cases h : decide (4611686018427387904 ≤ v) <;> rw [h] at hb
    · exact ⟨false, _, Ln.r1f v, hb⟩
    · exact ⟨true, _, Ln.r1t v, hb⟩
  | .ofNat 1 =>
    cases h : decide (4611686018427387904 ≤ v) <;> rw [h] at hb
    · exact ⟨false, _, Ln.r2f v, hb⟩
    · exact ⟨true, _, Ln.r2t v, hb⟩
  | .ofNat 2 =>
    cases h : decide (4611686018427387904 ≤ v) <;> rw [h] at hb
    · exact ⟨false, _, Ln.r3f v, hb⟩
    · exact ⟨true, _, Ln.r3t v, hb⟩
  | .ofNat (k + 3) => exact ⟨true, True, Ln.r4 k v, trivial⟩

theorem Ln.calls (t v : Int) (h0 : 0 ≤ v) (W : World) : Calls Tryz.prog 4 #[.int .i64 t, .int .u64 v] W (fun e w' => e = .returned (.bool true) ∧ Below W.heap.size W w') := by
  obtain ⟨b, p, h, hp⟩ := Ln.runs t v h0
  exact AH.okP_true (AH.evP_sound Hx.orc15_ok Hx.ev15_ok 100000 50) h hp (by simp) W

set_option maxRecDepth 100000 in
theorem Ln.lifted (os : Os) (started : os.Started) (H : Type) (enc : TypeId × Value → H) :
    ReturnsInHanded {} Tryz.checked os 4 .any (Rows.lcrqNobodySpec.pre6 enc Tryz.prog Tryz.f4 Rows.lcrqNobodyRow.domain false) (Rows.lcrqNobodySpec.post enc Tryz.prog Tryz.f4 false true false false) := by
  refine returnsInHanded_of_change (C := Tryz.checked) Ln.own started (by kernel_rfl) Tryz.func4
    (ChangeSpec.witness6 (enc := enc) (C := Tryz.checked) false ⟨#[], #[.int .i64 0, .int .u64 0], []⟩ 8 (by kernel_rfl) (by kernel_rfl) (by kernel_rfl) (by kernel_rfl)) ?_
  intro W base args ds gs before hval0 hW _ _
  have hval : ∀ (j : Nat) t v, Tryz.f4.params[j]? = some t → args[j]? = some v → Value.okWide Tryz.prog W .any base t v := hval0
  have hW' := hW
  obtain ⟨p, q, hA0, hV, rfl, hfz, hnd⟩ := hW
  have hA : DataW.TrodAll enc Tryz.prog W 0 (fun _ => true) true Tryz.f4.params.toList args.toList ds p := hA0
  rw [Tryz.params4] at hA hval
  obtain ⟨v0, v1, d0, d1, p0, p1, rfl, rfl, rfl, h0, h1⟩ := trodAll_two hA
  obtain ⟨a, rfl, rfl, rfl, wa⟩ := open_int Tryz.underlying3 (hval 0 3 v0 rfl rfl) h0
  obtain ⟨b, rfl, rfl, rfl, wb⟩ := open_int Tryz.underlying22 (hval 1 22 v1 rfl rfl) h1
  have hb0 : 0 ≤ b := by
    simp [Lit.wf, IntKind.min, IntKind.signed] at wb
    omega
  refine (Ln.calls a b hb0 W).mono fun e W' ⟨he, hb⟩ => ⟨_, he, ?_⟩
  exact AH.post_true Ln.laidOut hW' rfl rfl (by kernel_rfl) (by
    intro t ht
    have : t = 4 := by simpa [Tryz.f4] using ht
    subst this; exact Tryz.underlying4) (by kernel_rfl) hb

theorem lcrqNobody_holds : Rows.LcrqNobodySaid :=
  OpenClaim.holds_of_wide 4 Tryz.f4 rfl rfl rfl rfl rfl rfl rfl ⟨rfl, rfl, rfl, rfl, rfl⟩ rfl rfl rfl rfl rfl (by kernel_rfl) Tryz.func4 (by kernel_rfl)
    (of_decide_eq_true (by kernel_rfl)) (by unfold Func.isWrapper; first | (rw [if_pos (by decide +kernel)]; kernel_rfl) | (rw [if_neg (by decide +kernel)]; exact ⟨rfl, rfl⟩))
    (fun os started H enc _ => Ln.lifted os started H enc)

#print axioms lcrqNobody_holds
end Go.Proofs.YtogjeddfgnfppaaGreat
