/-
  AH 34: contracts of small states in greater ones: the usual ends.
-/
import Derived.Test.YtognbiffhgpoaaaGreatAh33
set_option linter.unusedSimpArgs false
set_option linter.unusedVariables false
set_option linter.unusedSectionVars false
namespace AH
open Go
noncomputable section

theorem WF.know {E : Env} {K : FuncId} {args : List Value} {σ : St} {R : Value → St → Prop} (he : Enter E.P K) (h : (∀ i, (σ.get i).live = true → i < σ.next) → (∀ i, (σ.get i).sc σ.next) → WF E K args σ R) : WF E K args σ R :=
  ⟨he, fun ρ w hR hs => (h hR.lt hR.sc).2 ρ w hR hs⟩

section
variable {π : Nat → Nat} {σ₀ σ : St}

theorem exN_lt {n₀ n i : Nat} (h : i < n₀) : exN π n₀ n i = π i := by simp [exN, h]
theorem exN_new {n₀ n : Nat} : exN π n₀ n n₀ = n := by simp [exN]

theorem renB_exN {b : Blk} {n₀ n : Nat} (h : b.sc n₀) : renB (loc (exN π n₀ n)) b = renB (loc π) b := by
  have hv : ∀ v, Sc n₀ v → ren (loc (exN π n₀ n)) v = ren (loc π) v := fun v hv => hv _ _ fun i hi => by simp [loc, exN_lt hi]
  cases b with
  | cells e cs => simp only [renB]; rw [List.map_congr_left fun v hm => hv v (h v hm)]
  | row e sz cs => simp only [renB]; rw [List.map_congr_left fun v hm => hv v (h v hm)]
  | ro cs => simp only [renB]; rw [List.map_congr_left fun v hm => hv v (h v hm)]
  | map es c =>
    simp only [renB]
    rw [List.map_congr_left (g := renE (loc π)) fun e hm => by simp only [renE]; rw [hv _ (h e hm).1, hv _ (h e hm).2]]
  | miter m a b c => cases m with
    | none => rfl
    | some m => simp only [renB, Option.map_some, loc]; rw [exN_lt h]
  | siter s p => rfl
  | loop st p fn nt f ps x y =>
    simp only [renB]
    have : f.map (ren (loc (exN π n₀ n))) = f.map (ren (loc π)) := by
      have h' : ∀ t v, f.get t = some v → Sc n₀ v := h
      clear h
      induction f with
      | leaf => rfl
      | node l v r ihl ihr =>
        simp only [Tr.map]
        rw [ihl fun t v ht => h' (2 * t + 1) v (by
          have : (2 * t + 1) % 2 = 1 := by omega
          have h2 : (2 * t + 1) / 2 = t := by omega
          simp [Tr.get_node, this, h2, ht]), ihr fun t v ht => h' (2 * t + 2) v (by
          have : (2 * t + 2) % 2 = 0 := by omega
          have h2 : (2 * t + 2) / 2 = t + 1 := by omega
          simp [Tr.get_node, this, h2, ht])]
        cases v with
        | none => rfl
        | some u => rw [Option.map_some, Option.map_some, hv u (h' 0 u rfl)]
    rw [this]
  | dfr => rfl
  | dead => rfl

theorem Big.same (hs : Small π σ₀ σ) (hout : ∀ i, (σ.get i).live = true → i < σ.next) : Big π σ₀ σ σ₀ σ := by
  refine ⟨by omega, fun i hi h => ?_, fun j _ _ => rfl, fun j hj => ?_⟩
  · rcases h with h | h
    · omega
    · rw [exN_lt hi, renB_exN (hs.sc i), hs.get i h]
  · cases hl : (σ.get j).live with
    | false => rfl
    | true => have := hout j hl; omega

theorem Big.push (hs : Small π σ₀ σ) (hout : ∀ i, (σ.get i).live = true → i < σ.next) (b : Blk) : Big π σ₀ σ (σ₀.push b) (σ.push (renB (loc (exN π σ₀.next σ.next)) b)) := by
  refine ⟨by simp, fun i hi h => ?_, fun j hj _ => ?_, fun j hj => ?_⟩
  · rw [St.get_push, St.get_push]
    by_cases he : i = σ₀.next
    · subst he
      simp [exN]
    · have hi' : i < σ₀.next := by simp at hi; omega
      have hlt := hs.lt i hi'
      rw [if_neg (Ne.symm he), exN_lt hi', if_neg (by omega)]
      rcases h with h | h
      · omega
      · rw [renB_exN (hs.sc i), hs.get i h]
  · rw [St.get_push, if_neg (by omega)]
  · rw [St.get_push, if_neg (by simp at hj; omega)]
    cases hl : (σ.get j).live with
    | false => rfl
    | true => have := hout j hl; simp at hj; omega

theorem Big.set (hs : Small π σ₀ σ) (hout : ∀ i, (σ.get i).live = true → i < σ.next) (i : Nat) (hi : (σ₀.get i).live = true) (b : Blk) (hb : b.sc σ₀.next) : Big π σ₀ σ (σ₀.set i b) (σ.set (π i) (renB (loc π) b)) := by
  have hil := hs.out i hi
  refine ⟨by simp, fun j hj h => ?_, fun j hj hno => ?_, fun j hj => ?_⟩
  · have hj' : j < σ₀.next := by simpa using hj
    have hlj : (σ₀.get j).live = true := by
      rcases h with h | h
      · omega
      · exact h
    rw [exN_lt hj', St.get_set, St.get_set]
    by_cases he : i = j
    · subst he; rw [if_pos rfl, if_pos rfl, renB_exN hb]
    · rw [if_neg he, if_neg (fun h => he (hs.inj i j hi hlj h)), renB_exN (hs.sc j), hs.get j hlj]
  · rw [St.get_set, if_neg (hno i hi)]
  · have := hs.lt i hil
    rw [St.get_set, if_neg (by simp at hj; omega)]
    cases hl : (σ.get j).live with
    | false => rfl
    | true => have := hout j hl; simp at hj; omega
end
end
end AH
