/-
  AH 35: functions without arguments that come to true, as answers of an evaluator; runs with values given, once reckoned.
-/
import Derived.Test.YtognbiffhgpoaaaGreatAh34
set_option linter.unusedSimpArgs false
set_option linter.unusedVariables false
set_option linter.unusedSectionVars false
namespace AH
open Go
noncomputable section

theorem WF.forget_all {E : Env} {K : FuncId} {args : List Value} {v : Value} (hv : Sc 0 v) (hren : ∀ ρ, ren ρ v = v) (h : WF E K args St.empty (fun r _ => r = v)) : WF E K args St.empty (fun r σ' => r = v ∧ σ' = St.empty) :=
  h.renum fun r σ' _ hr => ⟨v, St.empty, id, ⟨fun _ _ => rfl, fun _ _ _ _ h => h, fun i hi => (by rw [St.get_empty] at hi; cases hi), fun i => (by rw [St.get_empty]; trivial), fun i hi => (by rw [St.get_empty] at hi; cases hi), Nat.zero_le _⟩, by rw [hr, hren], hv, rfl, rfl⟩

theorem WF.anywhere {E : Env} {K : FuncId} {v : Value} (hren : ∀ ρ, ren ρ v = v) (h : WF E K [] St.empty (fun r _ => r = v)) (σ : St) : WF E K [] σ (fun r σ' => r = v ∧ σ' = σ) := by
  have h0 := WF.forget_all (fun ρ ρ' _ => by rw [hren, hren]) hren h
  refine WF.know h0.1 fun hout _ => ?_
  have hs : Small id St.empty σ := ⟨fun i hi => absurd hi (Nat.not_lt_zero _), fun _ _ _ _ h => h, fun i hi => (by rw [St.get_empty] at hi; cases hi), fun i => (by rw [St.get_empty]; trivial), fun i hi => (by rw [St.get_empty] at hi; cases hi)⟩
  refine WF.frame (args₀ := []) hs (fun v hv => by simp at hv) h0 fun r σ₀' _ ⟨e1, e2⟩ => ?_
  subst e1; subst e2
  exact ⟨σ, Big.same hs hout, hren _, rfl⟩

/-- Function K, called without arguments, answers true. -/
def orcT (K : Nat) (orc : CallF) : CallF := fun g args σ => bif Nat.beq g K then (match args with | [] => some (.bool true, σ) | _ => orc g args σ) else orc g args σ

theorem orcT_ok {M : EnvM} {orc call : CallF} {K : Nat} (ho : CallOk M orc) (hc : CallOk M call) (h : isT (call K [] St.empty) = true) : CallOk M (orcT K orc) := by
  intro g args σ r σ' hq
  unfold orcT at hq
  cases hb : Nat.beq g K with
  | false => rw [hb] at hq; exact ho g args σ r σ' hq
  | true =>
    have hg : g = K := Nat.eq_of_beq_eq_true hb
    subst hg
    rw [hb] at hq
    simp only [cond_true] at hq
    split at hq
    · simp only [Option.some.injEq, Prod.mk.injEq] at hq
      obtain ⟨rfl, rfl⟩ := hq
      unfold isT at h
      split at h
      · rename_i b σ₁ hcall
        subst h
        exact WF.anywhere (by simp) ((hc _ _ _ _ _ hcall).mono fun r σ' _ e => e.1) σ
      · cases h
    · exact ho _ args σ r σ' hq

/-- What is owed, where a run with values given comes to true. -/
def okO : Option (Value × St × Prop) → Option Prop
  | some (.bool true, _, p) => some p
  | _ => none

theorem okO_true {M : EnvM} {call : CallF} (hc : CallOk M call) {ov : Tmp → Option Value} {steps : Nat} {K : FuncId} {args : List Value} {p : Prop} (h : okO (bodyO M call ov steps K args St.empty) = some p) (hp : p) (hs : ∀ v ∈ args, ∀ ρ : Nat → Loc, ren ρ v = v) (w : World) :
    Calls M.P K args.toArray w (fun e w' => e = .returned (.bool true) ∧ Go.RowKit.Below w.heap.size w w') := by
  refine bodyO_true hc (ov := ov) (steps := steps) ?_ ?_ hs w
  · unfold okO at h
    split at h
    · rename_i σ' q heq
      rw [heq]
      rfl
    · cases h
  · unfold okO at h
    split at h
    · rename_i σ' q heq
      rw [heq]
      simp only [Option.some.injEq] at h
      subst h
      exact hp
    · cases h
end
end AH
