import Derived.Test.YtlnlopeodpamdaaLawHRsw21
import Derived.Test.YtlnlopeodpamdaaLawHIn3
/-
  Whatever blocks are added to two lists, whatever is stored in the slots meanwhile, and whenever a list is swept, just the blocks that the document says are given back, and just the others stay, in order; the lists, and the heap, tell so; true, whatever the acts and the number are, and the arguments read as they did. Conditions: none.
-/
namespace Go.Proofs.Ytlnlopeodpamdaa
open Go.ChangeShapes Go.WideShapes Go.ChangeAt Go.RowKit

theorem Rs.own : ownKnob Try.prog.godebug = none := by kernel_rfl
theorem Rs.laidOut : laidOutB Try.prog = true := by kernel_rfl
theorem Rs.body : Try.f11.body = some (AH.bodyC Try.f11) := by kernel_rfl

theorem Rs.calls (W : World) (v : Value) (y : Int) (hv : v = .slice none 0 0 ∨ ∃ (a : Addr) (len cap : Nat), v = .slice (some a) len cap ∧ len ≤ cap ∧ cap ≤ maxLen ∧ ∀ j, j < len * 3 → ∃ z : Int, W.cell? (a.add j) = some (.int .i64 z)) :
    Calls Try.prog 11 #[v, .int .i64 y] W (fun e w' => e = .returned (.bool true) ∧ Below W.heap.size W w') :=
  calls3 Try.func11 rfl Rs.body (by show 2 ≤ 256; omega) (Hx.PI Hx.piS Hx.kaT 4) 11 17 (by omega) rfl (fun zs hz len cap hl hc y => Hx.rs_vb hz hl hc y) (fun b0 b cap hb hs y => Hx.rs_vb0 b0 b cap hb hs y) W v y hv

set_option maxRecDepth 100000 in
theorem Rs.lifted (os : Os) (started : os.Started) (H : Type) (enc : TypeId × Value → H) :
    ReturnsInHanded {} Try.checked os 11 .any (Rows.retireSweepsSpec.pre6 enc Try.prog Try.f11 Rows.retireSweepsRow.domain false) (Rows.retireSweepsSpec.post enc Try.prog Try.f11 false true false false) := by
  refine returnsInHanded_of_change (C := Try.checked) Rs.own started (by kernel_rfl) Try.func11
    (ChangeSpec.witness6 (enc := enc) (C := Try.checked) false ⟨#[], #[.slice none 0 0, .int .i64 0], []⟩ 8 (by kernel_rfl) (by kernel_rfl) (by kernel_rfl) (by kernel_rfl)) ?_
  intro W base args ds gs before hval0 hW _ _
  have hval : ∀ (j : Nat) t v, Try.f11.params[j]? = some t → args[j]? = some v → Value.okWide Try.prog W .any base t v := hval0
  have hW' := hW
  obtain ⟨p, q, hA0, hV, rfl, hfz, hnd⟩ := hW
  have hA : DataW.TrodAll enc Try.prog W 0 (fun _ => true) true Try.f11.params.toList args.toList ds p := hA0
  rw [Try.params11] at hA hval
  obtain ⟨v0, v1, d0, d1, p0, p1, rfl, rfl, rfl, h0, h1⟩ := trodAll_two hA
  obtain ⟨b, len, cap, rfl⟩ := okWide_slice Try.underlying111 (hval 0 111 v0 rfl rfl)
  obtain ⟨y, rfl, rfl, rfl, wy⟩ := open_int Try.underlying3 (hval 1 3 v1 rfl rfl) h1
  obtain ⟨fuel, hf⟩ := h0
  have hcells : (Value.slice b len cap).cells.toList = [.slice b len cap] := rfl
  rw [hcells] at hf
  have hv : Value.slice b len cap = .slice none 0 0 ∨ ∃ (a : Addr) (len' cap' : Nat), Value.slice b len cap = .slice (some a) len' cap' ∧ len' ≤ cap' ∧ cap' ≤ maxLen ∧ ∀ j, j < len' * 3 → ∃ z : Int, W.cell? (a.add j) = some (.int .i64 z) := by
    rcases open_rows3 Try.underlying111 Try.underlying113 Try.underlying3 (by kernel_rfl) (by kernel_rfl) ⟨rfl, rfl⟩ ⟨rfl, rfl⟩ ⟨rfl, rfl⟩ hf with h1 | ⟨a, len', cap', h1, h2, h3, h4⟩
    · exact .inl (by simpa using h1)
    · exact .inr ⟨a, len', cap', by simpa using h1, h2, h3, h4⟩
  refine (Rs.calls W _ y hv).mono fun e W' ⟨he, hb⟩ => ⟨_, he, ?_⟩
  exact AH.post_true Rs.laidOut hW' rfl rfl (by kernel_rfl) (by
    intro t ht
    have : t = 4 := by simpa [Try.f11] using ht
    subst this; exact Try.underlying4) (by kernel_rfl) hb

theorem retireSweeps_holds : Rows.RetireSweepsSaid :=
  OpenClaim.holds_of_wide 11 Try.f11 rfl rfl rfl rfl rfl rfl rfl ⟨rfl, rfl, rfl, rfl, rfl⟩ rfl rfl rfl rfl rfl (by kernel_rfl) Try.func11 (by kernel_rfl)
    (of_decide_eq_true (by kernel_rfl)) (by unfold Func.isWrapper; first | (rw [if_pos (by decide +kernel)]; kernel_rfl) | (rw [if_neg (by decide +kernel)]; exact ⟨rfl, rfl⟩))
    (fun os started H enc _ => Rs.lifted os started H enc)

#print axioms retireSweeps_holds
end Go.Proofs.Ytlnlopeodpamdaa
