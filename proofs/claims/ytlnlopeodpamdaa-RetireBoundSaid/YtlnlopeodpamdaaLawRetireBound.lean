import Derived.Test.YtlnlopeodpamdaaLawHBnd9
import Derived.Test.YtlnlopeodpamdaaLawHIn3
/-
  Whatever blocks are retired, in whatever order, and whatever numbers are in the slots meanwhile, no more wait than the bound; a sweep leaves no more than there are slots; the bound is the one that is counted; true, whatever the numbers are, and they read as they did. Conditions: none.
-/
namespace Go.Proofs.Ytlnlopeodpamdaa
open Go.ChangeShapes Go.WideShapes Go.ChangeAt Go.RowKit

theorem Rb.own : ownKnob Try.prog.godebug = none := by kernel_rfl
theorem Rb.laidOut : laidOutB Try.prog = true := by kernel_rfl
theorem Rb.body : Try.f10.body = some (AH.bodyC Try.f10) := by kernel_rfl

theorem Rb.calls (W : World) (v : Value) (y : Int) (hv : v = .slice none 0 0 ∨ ∃ (a : Addr) (len cap : Nat), v = .slice (some a) len cap ∧ len ≤ cap ∧ cap ≤ maxLen ∧ ∀ j, j < len * 3 → ∃ z : Int, W.cell? (a.add j) = some (.int .i64 z)) :
    Calls Try.prog 10 #[v, .int .i64 y] W (fun e w' => e = .returned (.bool true) ∧ Below W.heap.size W w') :=
  calls3 Try.func10 rfl Rb.body (by show 2 ≤ 143; omega) Hx.piS 11 13 (by omega) rfl (fun zs hz len cap hl hc y => Hx.bd_vb hz hl hc y) (fun b0 b cap hb hs y => Hx.bd_vb0 b0 b cap hb hs y) W v y hv

set_option maxRecDepth 100000 in
theorem Rb.lifted (os : Os) (started : os.Started) (H : Type) (enc : TypeId × Value → H) :
    ReturnsInHanded {} Try.checked os 10 .any (Rows.retireBoundSpec.pre6 enc Try.prog Try.f10 Rows.retireBoundRow.domain false) (Rows.retireBoundSpec.post enc Try.prog Try.f10 false true false false) := by
  refine returnsInHanded_of_change (C := Try.checked) Rb.own started (by kernel_rfl) Try.func10
    (ChangeSpec.witness6 (enc := enc) (C := Try.checked) false ⟨#[], #[.slice none 0 0, .int .i64 0], []⟩ 8 (by kernel_rfl) (by kernel_rfl) (by kernel_rfl) (by kernel_rfl)) ?_
  intro W base args ds gs before hval0 hW _ _
  have hval : ∀ (j : Nat) t v, Try.f10.params[j]? = some t → args[j]? = some v → Value.okWide Try.prog W .any base t v := hval0
  have hW' := hW
  obtain ⟨p, q, hA0, hV, rfl, hfz, hnd⟩ := hW
  have hA : DataW.TrodAll enc Try.prog W 0 (fun _ => true) true Try.f10.params.toList args.toList ds p := hA0
  rw [Try.params10] at hA hval
  obtain ⟨v0, v1, d0, d1, p0, p1, rfl, rfl, rfl, h0, h1⟩ := trodAll_two hA
  obtain ⟨b, len, cap, rfl⟩ := okWide_slice Try.underlying111 (hval 0 111 v0 rfl rfl)
  obtain ⟨y, rfl, rfl, rfl, wy⟩ := open_int Try.underlying3 (hval 1 3 v1 rfl rfl) h1
  obtain ⟨fuel, hf⟩ := h0
  have hcells : (Value.slice b len cap).cells.toList = [.slice b len cap] := rfl
  rw [hcells] at hf
  have hv : Value.slice b len cap = .slice none 0 0 ∨ ∃ (a : Addr) (len' cap' : Nat), Value.slice b len cap = .slice (some a) len' cap' ∧ len' ≤ cap' ∧ cap' ≤ maxLen ∧ ∀ j, j < len' * 3 → ∃ z : Int, W.cell? (a.add j) = some (.int .i64 z) := by
    rcases open_rows3 Try.underlying111 Try.underlying113 Try.underlying3 (by kernel_rfl) (by kernel_rfl) ⟨rfl, rfl⟩ ⟨rfl, rfl⟩ ⟨rfl, rfl⟩ hf with h1 | ⟨a, len', cap', h1, h2, h3, h4⟩
    · exact .inl (by simpa using h1)
    · exact .inr ⟨a, len', cap', by simpa using h1, h2, h3, h4⟩
  refine (Rb.calls W _ y hv).mono fun e W' ⟨he, hb⟩ => ⟨_, he, ?_⟩
  exact AH.post_true Rb.laidOut hW' rfl rfl (by kernel_rfl) (by
    intro t ht
    have : t = 4 := by simpa [Try.f10] using ht
    subst this; exact Try.underlying4) (by kernel_rfl) hb

theorem retireBound_holds : Rows.RetireBoundSaid :=
  OpenClaim.holds_of_wide 10 Try.f10 rfl rfl rfl rfl rfl rfl rfl ⟨rfl, rfl, rfl, rfl, rfl⟩ rfl rfl rfl rfl rfl (by kernel_rfl) Try.func10 (by kernel_rfl)
    (of_decide_eq_true (by kernel_rfl)) (by unfold Func.isWrapper; first | (rw [if_pos (by decide +kernel)]; kernel_rfl) | (rw [if_neg (by decide +kernel)]; exact ⟨rfl, rfl⟩))
    (fun os started H enc _ => Rb.lifted os started H enc)

#print axioms retireBound_holds
end Go.Proofs.Ytlnlopeodpamdaa
