/-
  Each fault has a name, and no two the same one, whatever the two numbers are; true, and both read as they did. Conditions: none.
-/
import Derived.Test.YtapcllnplncfgaaAh24
import Derived.Test.YtapcllnplncfgaaRows
namespace Go.Proofs.Ytapcllnplncfgaa
open Go.ChangeShapes Go.WideShapes Go.ChangeAt Go.RowKit

namespace An
theorem own : ownKnob Try.prog.godebug = none := by kernel_rfl
theorem laidOut : laidOutB Try.prog = true := by kernel_rfl
theorem mixed : Try.prog.follows .mixedOrders = true := Try.checked.mixed

noncomputable def M : AH.EnvM := AH.envOf Try.prog mixed

/-- A number below 0, one of 0 to 9, or one above. -/
def vals (k : Nat) : List Int := [.negSucc k, 0, 1, 2, 3, 4, 5, 6, 7, 8, 9, .ofNat (k + 10)]

theorem vals_all (a : Int) : ∃ k, a ∈ vals k := by
  cases a with
  | negSucc k => exact ⟨k, by simp [vals]⟩
  | ofNat n =>
    rcases Nat.lt_or_ge n 10 with h | h
    · refine ⟨0, ?_⟩
      match n, h with
      | 0, _ => simp [vals]
      | 1, _ => simp [vals]
      | 2, _ => simp [vals]
      | 3, _ => simp [vals]
      | 4, _ => simp [vals]
      | 5, _ => simp [vals]
      | 6, _ => simp [vals]
      | 7, _ => simp [vals]
      | 8, _ => simp [vals]
      | 9, _ => simp [vals]
    · refine ⟨n - 10, ?_⟩
      have : n - 10 + 10 = n := by omega
      simp [vals, this]

/-- The numbers that have a name, or are next to one. -/
def mid : List Int := [0, 1, 2, 3, 4, 5, 6, 7, 8, 9]
def out (k : Nat) : List Int := [.negSucc k, .ofNat (k + 10)]

theorem vals_or (k : Nat) (a : Int) (h : a ∈ vals k) : a ∈ mid ∨ a ∈ out k := by
  simp only [vals, mid, out, List.mem_cons, List.not_mem_nil, or_false] at h ⊢
  rcases h with h | h | h | h | h | h | h | h | h | h | h | h <;> simp [h]

noncomputable def ev : AH.CallF := AH.evF M AH.noOrc 100000 50
theorem ev_ok : AH.CallOk M ev := AH.evF_sound (AH.noOrc_ok M) 100000 50

theorem runs1 (j : Nat) : (mid.all fun a => (vals j).all fun b => AH.isT (ev 3 [.int .i64 a, .int .i64 b] AH.St.empty)) = true := by kernel_rfl
theorem runs2 (k : Nat) : ((out k).all fun a => mid.all fun b => AH.isT (ev 3 [.int .i64 a, .int .i64 b] AH.St.empty)) = true := by kernel_rfl

/-- Whether the two numbers are the same is asked once. -/
def ov (β : Bool) (t : Tmp) : Option Value := bif Nat.beq t 27 then some (.bool β) else none

theorem runs3 (k j : Nat) : ([true, false].all fun β => (out k).all fun a => (out j).all fun b => AH.isTO (AH.bodyO M ev (ov β) 50 3 [.int .i64 a, .int .i64 b] AH.St.empty)) = true := by kernel_rfl
theorem owed1 (k j : Nat) (β : Bool) : AH.owed (AH.bodyO M ev (ov β) 50 3 [.int .i64 (.negSucc k), .int .i64 (.negSucc j)] AH.St.empty) = (True ∧ some (Value.bool (Int.negSucc k == Int.negSucc j)) = some (Value.bool β)) := by cases β <;> kernel_rfl
theorem owed2 (k j : Nat) (β : Bool) : AH.owed (AH.bodyO M ev (ov β) 50 3 [.int .i64 (.negSucc k), .int .i64 (.ofNat (j + 10))] AH.St.empty) = (True ∧ some (Value.bool (Int.negSucc k == Int.ofNat (j + 10))) = some (Value.bool β)) := by cases β <;> kernel_rfl
theorem owed3 (k j : Nat) (β : Bool) : AH.owed (AH.bodyO M ev (ov β) 50 3 [.int .i64 (.ofNat (k + 10)), .int .i64 (.negSucc j)] AH.St.empty) = (True ∧ some (Value.bool (Int.ofNat (k + 10) == Int.negSucc j)) = some (Value.bool β)) := by cases β <;> kernel_rfl
theorem owed4 (k j : Nat) (β : Bool) : AH.owed (AH.bodyO M ev (ov β) 50 3 [.int .i64 (.ofNat (k + 10)), .int .i64 (.ofNat (j + 10))] AH.St.empty) = (True ∧ some (Value.bool (Int.ofNat (k + 10) == Int.ofNat (j + 10))) = some (Value.bool β)) := by cases β <;> kernel_rfl

set_option maxRecDepth 100000 in
theorem calls (a b : Int) (W : World) : Calls Try.prog 3 #[.int .i64 a, .int .i64 b] W (fun e w' => e = .returned (.bool true) ∧ Below W.heap.size W w') := by
  obtain ⟨k, hk⟩ := vals_all a
  obtain ⟨j, hj⟩ := vals_all b
  rcases vals_or k a hk with hk | hk
  · exact AH.CallOk.true_of ev_ok (List.all_eq_true.1 (List.all_eq_true.1 (runs1 j) a hk) b hj) (by simp) W
  rcases vals_or j b hj with hj | hj
  · exact AH.CallOk.true_of ev_ok (List.all_eq_true.1 (List.all_eq_true.1 (runs2 k) a hk) b hj) (by simp) W
  · refine AH.bodyO_true ev_ok (ov := ov (a == b)) (steps := 50) (List.all_eq_true.1 (List.all_eq_true.1 (List.all_eq_true.1 (runs3 k j) (a == b) (by cases (a == b) <;> simp)) a hk) b hj) ?_ (by simp) W
    simp only [out, List.mem_cons, List.not_mem_nil, or_false] at hk hj
    rcases hk with rfl | rfl <;> rcases hj with rfl | rfl
    · rw [owed1]; exact ⟨trivial, rfl⟩
    · rw [owed2]; exact ⟨trivial, rfl⟩
    · rw [owed3]; exact ⟨trivial, rfl⟩
    · rw [owed4]; exact ⟨trivial, rfl⟩

set_option maxRecDepth 100000 in
theorem lifted (os : Os) (started : os.Started) (H : Type) (enc : TypeId × Value → H) :
    ReturnsInHanded {} Try.checked os 3 .any (Rows.auditNamesSpec.pre6 enc Try.prog Try.f3 Rows.auditNamesRow.domain false) (Rows.auditNamesSpec.post enc Try.prog Try.f3 false true false false) := by
  refine returnsInHanded_of_change (C := Try.checked) own started (by kernel_rfl) Try.func3
    (ChangeSpec.witness6 (enc := enc) (C := Try.checked) false ⟨#[], #[.int .i64 0, .int .i64 0], []⟩ 8 (by kernel_rfl) (by kernel_rfl) (by kernel_rfl) (by kernel_rfl)) ?_
  intro W base args ds gs before hval0 hW _ _
  have hval : ∀ (j : Nat) t v, Try.f3.params[j]? = some t → args[j]? = some v → Value.okWide Try.prog W .any base t v := hval0
  have hW' := hW
  obtain ⟨p, q, hA0, hV, rfl, hfz, hnd⟩ := hW
  have hA : DataW.TrodAll enc Try.prog W 0 (fun _ => true) true Try.f3.params.toList args.toList ds p := hA0
  rw [Try.params3] at hA hval
  obtain ⟨v0, v1, d0, d1, p0, p1, rfl, rfl, rfl, h0, h1⟩ := trodAll_two hA
  obtain ⟨a, rfl, rfl, rfl, wa⟩ := open_int Try.underlying3 (hval 0 3 v0 rfl rfl) h0
  obtain ⟨b, rfl, rfl, rfl, wb⟩ := open_int Try.underlying3 (hval 1 3 v1 rfl rfl) h1
  refine (calls a b W).mono fun e W' ⟨he, hb⟩ => ⟨_, he, ?_⟩
  exact AH.post_true laidOut hW' rfl rfl (by kernel_rfl) (by
    intro t ht
    have : t = 4 := by simpa [Try.f3] using ht
    subst this; exact Try.underlying4) (by kernel_rfl) hb

theorem holds : Rows.AuditNamesSaid :=
  OpenClaim.holds_of_wide 3 Try.f3 rfl rfl rfl rfl rfl rfl rfl ⟨rfl, rfl, rfl, rfl, rfl⟩ rfl rfl rfl rfl rfl (by kernel_rfl) Try.func3 (by kernel_rfl)
    (of_decide_eq_true (by kernel_rfl)) (by unfold Func.isWrapper; first | (rw [if_pos (by decide +kernel)]; kernel_rfl) | (rw [if_neg (by decide +kernel)]; exact ⟨rfl, rfl⟩))
    (fun os started H enc _ => lifted os started H enc)
end An

theorem auditNames_holds : Rows.AuditNamesSaid := An.holds

#print axioms auditNames_holds
end Go.Proofs.Ytapcllnplncfgaa
