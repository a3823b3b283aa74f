/-
  Blocks of one length are taken until there is no room for one more; each has its own words; and all come back; true, whatever the two numbers are, and both read as they did. Conditions: none.
-/
import Derived.Test.YtlnlopeodpamdaaLawXFill0
import Derived.Test.YtlnlopeodpamdaaLawXFill1
import Derived.Test.YtlnlopeodpamdaaLawXFill2
import Derived.Test.YtlnlopeodpamdaaLawXFill3
import Derived.Test.YtlnlopeodpamdaaLawXFill4
import Derived.Test.YtlnlopeodpamdaaLawXFill5
import Derived.Test.YtlnlopeodpamdaaLawXFill6
import Derived.Test.YtlnlopeodpamdaaLawXFill7
namespace Go.Proofs.Ytlnlopeodpamdaa
open Go.ChangeShapes Go.WideShapes Go.ChangeAt Go.RowKit

theorem Hf.own : ownKnob Try.prog.godebug = none := by kernel_rfl
theorem Hf.laidOut : laidOutB Try.prog = true := by kernel_rfl

theorem Hf.runs (a b : Int) (w n : Nat) (hw : w < 32) (hn : n < 8) : Hx.runF (2 * w : Nat) n a b = some (Hx.owF a b (2 * w : Nat) n) :=
  match n, hn with
  | 0, _ => Hx.xf_0 a b w hw
  | 1, _ => Hx.xf_1 a b w hw
  | 2, _ => Hx.xf_2 a b w hw
  | 3, _ => Hx.xf_3 a b w hw
  | 4, _ => Hx.xf_4 a b w hw
  | 5, _ => Hx.xf_5 a b w hw
  | 6, _ => Hx.xf_6 a b w hw
  | 7, _ => Hx.xf_7 a b w hw
  | n + 8, h => by omega

theorem Hf.and_mask (x m : Int) (j : Nat) (hj : j < 63) (hm : (BitVec.ofInt 64 m).toNat = 2 ^ j - 1) : ∃ n : Nat, n < 2 ^ j ∧ AH.intOp .and .i64 x m = some (.int .i64 n) := by
  refine ⟨(BitVec.ofInt 64 x).toNat % 2 ^ j, Nat.mod_lt _ (Nat.two_pow_pos j), ?_⟩
  show some (Value.int .i64 (IntKind.i64.wrap (((BitVec.ofInt 64 x) &&& (BitVec.ofInt 64 m)).toNat : Nat))) = _
  rw [BitVec.toNat_and, hm, Nat.and_two_pow_sub_one_eq_mod]
  have h1 : (BitVec.ofInt 64 x).toNat % 2 ^ j < 2 ^ j := Nat.mod_lt _ (Nat.two_pow_pos j)
  have h2 : 2 ^ j ≤ 2 ^ 62 := Nat.pow_le_pow_right (by omega) (by omega)
  have h3 : (2 : Nat) ^ 62 = 4611686018427387904 := rfl
  rw [IntWalk.i64_in _ (by omega)]

theorem Hf.land62 : ∀ y : Fin 64, y.val &&& 62 = 2 * (y.val / 2) := by decide
theorem Hf.and62 (x : Int) : ∃ w : Nat, w < 32 ∧ AH.intOp .and .i64 x 62 = some (.int .i64 (2 * w : Nat)) := by
  generalize hX : (BitVec.ofInt 64 x).toNat = X
  have h1 : X &&& 62 = 2 * (X % 64 / 2) := by
    have e : (62 : Nat) = (2 ^ 6 - 1) &&& 62 := by decide
    rw [e, ← Nat.and_assoc, Nat.and_two_pow_sub_one_eq_mod]
    exact Hf.land62 ⟨X % 64, Nat.mod_lt _ (by decide)⟩
  refine ⟨X % 64 / 2, by omega, ?_⟩
  show some (Value.int .i64 (IntKind.i64.wrap (((BitVec.ofInt 64 x) &&& (BitVec.ofInt 64 62)).toNat : Nat))) = _
  have e2 : (BitVec.ofInt 64 62).toNat = 62 := by decide
  rw [BitVec.toNat_and, e2, hX, h1, IntWalk.i64_in _ (by omega)]

theorem Hf.calls (a b : Int) (W : World) : Calls Try.prog 4 #[.int .i64 a, .int .i64 b] W (fun e w' => e = .returned (.bool true) ∧ Below W.heap.size W w') := by
  obtain ⟨w, hw, e1⟩ := Hf.and62 a
  obtain ⟨n, hn, e2⟩ := Hf.and_mask b 7 3 (by omega) (by decide)
  exact AH.okO_true Hx.ev03_ok (Hf.runs a b w n hw hn) ⟨⟨trivial, e1⟩, e2⟩ (by simp) W

set_option maxRecDepth 100000 in
theorem Hf.lifted (os : Os) (started : os.Started) (H : Type) (enc : TypeId × Value → H) :
    ReturnsInHanded {} Try.checked os 4 .any (Rows.heapFillsSpec.pre6 enc Try.prog Try.f4 Rows.heapFillsRow.domain false) (Rows.heapFillsSpec.post enc Try.prog Try.f4 false true false false) := by
  refine returnsInHanded_of_change (C := Try.checked) Hf.own started (by kernel_rfl) Try.func4
    (ChangeSpec.witness6 (enc := enc) (C := Try.checked) false ⟨#[], #[.int .i64 0, .int .i64 0], []⟩ 8 (by kernel_rfl) (by kernel_rfl) (by kernel_rfl) (by kernel_rfl)) ?_
  intro W base args ds gs before hval0 hW _ _
  have hval : ∀ (j : Nat) t v, Try.f4.params[j]? = some t → args[j]? = some v → Value.okWide Try.prog W .any base t v := hval0
  have hW' := hW
  obtain ⟨p, q, hA0, hV, rfl, hfz, hnd⟩ := hW
  have hA : DataW.TrodAll enc Try.prog W 0 (fun _ => true) true Try.f4.params.toList args.toList ds p := hA0
  rw [Try.params4] at hA hval
  obtain ⟨v0, v1, d0, d1, p0, p1, rfl, rfl, rfl, h0, h1⟩ := trodAll_two hA
  obtain ⟨a, rfl, rfl, rfl, wa⟩ := open_int Try.underlying3 (hval 0 3 v0 rfl rfl) h0
  obtain ⟨b, rfl, rfl, rfl, wb⟩ := open_int Try.underlying3 (hval 1 3 v1 rfl rfl) h1
  refine (Hf.calls a b W).mono fun e W' ⟨he, hb⟩ => ⟨_, he, ?_⟩
  exact AH.post_true Hf.laidOut hW' rfl rfl (by kernel_rfl) (by
    intro t ht
    have : t = 4 := by simpa [Try.f4] using ht
    subst this; exact Try.underlying4) (by kernel_rfl) hb

theorem heapFills_holds : Rows.HeapFillsSaid :=
  OpenClaim.holds_of_wide 4 Try.f4 rfl rfl rfl rfl rfl rfl rfl ⟨rfl, rfl, rfl, rfl, rfl⟩ rfl rfl rfl rfl rfl (by kernel_rfl) Try.func4 (by kernel_rfl)
    (of_decide_eq_true (by kernel_rfl)) (by unfold Func.isWrapper; first | (rw [if_pos (by decide +kernel)]; kernel_rfl) | (rw [if_neg (by decide +kernel)]; exact ⟨rfl, rfl⟩))
    (fun os started H enc _ => Hf.lifted os started H enc)

#print axioms heapFills_holds
end Go.Proofs.Ytlnlopeodpamdaa
