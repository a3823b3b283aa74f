/-
  The play that the statements of layer 25 ask first.
-/
import Derived.Test.YtognbiffhgpoaaaGreatLawXNew
set_option maxRecDepth 100000
set_option linter.unusedVariables false
namespace Go.Proofs.YtognbiffhgpoaaaGreat.Hx
open Go AH Go.Proofs
noncomputable section

theorem runKO_true {K : FuncId} {fn : Func} {call : CallF} (hc : CallOk M call) {ov : Tmp → Option Value} (hf : M.P.funcs[K]? = some fn) {n : Nat} {k : List Item} {f : Fr} {σ : St} {p : Prop} {p' : Prop} (h : okO (runKO M call ov fn n k f σ p) = some p') (hp : p') : VM M K fn.ntmps k f σ (fun r _ => r = .bool true) := by
  unfold okO at h
  split at h
  · rename_i σ' q heq
    simp only [Option.some.injEq] at h
    subst h
    exact ((runKO_sound hc hf heq).2 hp).mono fun r σ'' _ e => e.1
  · cases h

theorem one_wf : WF M.toEnv 14 [] St.empty (fun r _ => r = .bool true) := by
  refine WF.of_VB (fn := Tryz.f14) Tryz.func14 rfl rfl (by show 0 ≤ 79; omega) ?_
  refine VB.seq ?_
  apply VB.region
  case hd => rfl
  apply WL.quiet
  case hw => rfl
  case hq => exact rfl
  apply WL.nil
  refine VB.seq ?_
  apply VB.region
  case hd => rfl
  apply WL.call
  case ho => rfl
  case hw => rfl
  case hc => exact rfl
  refine (ev1_ok _ _ _ _ _ plain7).mono fun r σ' _ ⟨e1, e2⟩ => ?_
  subst e1; subst e2
  apply WL.call
  case ho => rfl
  case hw => rfl
  case hc => exact rfl
  refine (ev1_ok _ _ _ _ _ new6).mono fun r σ' _ ⟨e1, e2⟩ => ?_
  subst e1; subst e2
  iterate 5
    apply WL.quiet
    case hw => rfl
    case hq => exact rfl
  apply WL.nil
  exact VB.of_VM (runKO_true ev1_ok (ov := fun _ => none) (n := 2000) (p := True) (p' := True) Tryz.func14 (by kernel_rfl) trivial)

/-- Function K, called without arguments, answers true. -/
theorem orcT_okW {orc : CallF} {K : Nat} (ho : CallOk M orc) (h : WF M.toEnv K [] St.empty (fun r _ => r = .bool true)) : CallOk M (orcT K orc) := by
  intro g args σ r σ' hq
  unfold orcT at hq
  cases hb : Nat.beq g K with
  | false => rw [hb] at hq; exact ho g args σ r σ' hq
  | true =>
    have hg : g = K := Nat.eq_of_beq_eq_true hb
    subst hg
    rw [hb] at hq
    simp only [cond_true] at hq
    split at hq
    · simp only [Option.some.injEq, Prod.mk.injEq] at hq
      obtain ⟨rfl, rfl⟩ := hq
      exact WF.anywhere (by simp) h σ
    · exact ho _ args σ r σ' hq
def orc25 : CallF := orcT 14 orc
theorem orc25_ok : CallOk M orc25 := orcT_okW orc_ok one_wf
def ev25 : CallF := ev3 M orc25 100000 50
theorem ev25_ok : CallOk M ev25 := ev3_sound orc25_ok 100000 50
end
end Go.Proofs.YtognbiffhgpoaaaGreat.Hx
