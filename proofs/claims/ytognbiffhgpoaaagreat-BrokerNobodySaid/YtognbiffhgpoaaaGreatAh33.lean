/-
  AH 33: what a call leaves, under other numbers, and without what is not needed.
-/
import Derived.Test.YtognbiffhgpoaaaGreatAh32
set_option linter.unusedSimpArgs false
set_option linter.unusedVariables false
set_option linter.unusedSectionVars false
namespace AH
open Go
noncomputable section

/-- σ' with blocks under other numbers, some left out: block i of it is block π i of σ. -/
structure Fold (n : Nat) (π : Nat → Nat) (σ' : St) (σ : St) : Prop where
  fix : ∀ i, i < n → π i = i
  inj : ∀ i j, (σ'.get i).live = true → (σ'.get j).live = true → π i = π j → i = j
  get : ∀ i, (σ'.get i).live = true → σ.get (π i) = renB (loc π) (σ'.get i)
  sc : ∀ i, (σ'.get i).sc σ'.next
  lt : ∀ i, (σ'.get i).live = true → i < σ'.next
  next : n ≤ σ'.next

theorem WF.renum {E : Env} {K : FuncId} {args : List Value} {σ : St} {R R' : Value → St → Prop} (h : WF E K args σ R)
    (hr : ∀ r σ', σ.next ≤ σ'.next → R r σ' → ∃ r' σ'' π, Fold σ.next π σ'' σ' ∧ r = ren (loc π) r' ∧ Sc σ''.next r' ∧ R' r' σ'') : WF E K args σ R' := by
  refine ⟨h.1, fun ρ w hR hs => (h.2 ρ w hR hs).mono fun e w' ⟨v, he, r, σ', ρ', h1, h2, h3, h4⟩ => ?_⟩
  obtain ⟨r', σ'', π, hf, hrr, hsc, hR'⟩ := hr r σ' h2.next h4
  have hwr : ∀ i, (σ''.get i).wr = true → (σ'.get (π i)).wr = true := fun i hi => by rw [hf.get i (Blk.live_of_wr hi), renB_wr]; exact hi
  have hli : ∀ i, (σ''.get i).live = true → (σ'.get (π i)).live = true := fun i hi => by rw [hf.get i hi, renB_live]; exact hi
  refine ⟨v, he, r', σ'', fun i => ρ' (π i), by rw [h1, hrr, ren_comp], ⟨⟨fun i => ?_, hf.sc, hf.lt, fun i j hij hi hj => h2.rel.inj (π i) (π j) (fun e => hij (hf.inj i j (Blk.live_of_wr hi) hj e)) (hwr i hi) (hli j hj)⟩,
    fun i hi => by rw [hf.fix i hi]; exact h2.ext i hi, hf.next, h2.size, h2.os, h2.tape, h2.output, fun i hi => ?_, h2.fra, fun i hi => ?_⟩, hsc, hR'⟩
  · cases hl : (σ''.get i).live with
    | true =>
      have := h2.rel.blk (π i)
      rw [hf.get i hl] at this
      exact BlkRel.comp.1 this
    | false =>
      cases hb : σ''.get i <;> rw [hb] at hl <;> simp only [Blk.live, reduceCtorEq] at hl
      · rename_i cs
        cases cs with
        | nil => exact ⟨fun h => absurd rfl h, fun k v hk => by simp at hk⟩
        | cons c cs => simp [Blk.live] at hl
      · trivial
  · exact h2.own (π i) (hwr i hi)
  · exact h2.liv (π i) (hli i hi)

end
end AH
