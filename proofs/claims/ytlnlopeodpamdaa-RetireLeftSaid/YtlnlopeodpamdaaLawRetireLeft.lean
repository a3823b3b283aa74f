/-
  A sweep while no slot is stored gives back all blocks of its list, and none of another one's; one while all blocks are in slots gives back none; true, whatever the two numbers are, and both read as they did. Conditions: none.
-/
import Derived.Test.YtlnlopeodpamdaaLawRLeft0
import Derived.Test.YtlnlopeodpamdaaLawRLeft1
import Derived.Test.YtlnlopeodpamdaaLawRLeft2
import Derived.Test.YtlnlopeodpamdaaLawRLeft3
namespace Go.Proofs.Ytlnlopeodpamdaa
open Go.ChangeShapes Go.WideShapes Go.ChangeAt Go.RowKit

theorem Rl.own : ownKnob Try.prog.godebug = none := by kernel_rfl
theorem Rl.laidOut : laidOutB Try.prog = true := by kernel_rfl

theorem Rl.runs (a b : Int) (n k : Nat) (hn : n < 4) (hk : k < 8) : Hx.runL n k a b = some (Hx.owL a b n k) :=
  match n, hn with
  | 0, _ => Hx.rl_0 a b k hk
  | 1, _ => Hx.rl_1 a b k hk
  | 2, _ => Hx.rl_2 a b k hk
  | 3, _ => Hx.rl_3 a b k hk
  | n + 4, h => by omega

theorem Rl.calls (a b : Int) (W : World) : Calls Try.prog 9 #[.int .i64 a, .int .i64 b] W (fun e w' => e = .returned (.bool true) ∧ Below W.heap.size W w') := by
  obtain ⟨n, hn, e1⟩ := Hx.and_mask a 3 2 (by omega) (by decide)
  obtain ⟨k, hk, e2⟩ := Hx.and_mask b 7 3 (by omega) (by decide)
  exact AH.okO_true Hx.ev11_ok (Rl.runs a b n k hn hk) ⟨⟨trivial, e1⟩, e2⟩ (by simp) W

set_option maxRecDepth 100000 in
theorem Rl.lifted (os : Os) (started : os.Started) (H : Type) (enc : TypeId × Value → H) :
    ReturnsInHanded {} Try.checked os 9 .any (Rows.retireLeftSpec.pre6 enc Try.prog Try.f9 Rows.retireLeftRow.domain false) (Rows.retireLeftSpec.post enc Try.prog Try.f9 false true false false) := by
  refine returnsInHanded_of_change (C := Try.checked) Rl.own started (by kernel_rfl) Try.func9
    (ChangeSpec.witness6 (enc := enc) (C := Try.checked) false ⟨#[], #[.int .i64 0, .int .i64 0], []⟩ 8 (by kernel_rfl) (by kernel_rfl) (by kernel_rfl) (by kernel_rfl)) ?_
  intro W base args ds gs before hval0 hW _ _
  have hval : ∀ (j : Nat) t v, Try.f9.params[j]? = some t → args[j]? = some v → Value.okWide Try.prog W .any base t v := hval0
  have hW' := hW
  obtain ⟨p, q, hA0, hV, rfl, hfz, hnd⟩ := hW
  have hA : DataW.TrodAll enc Try.prog W 0 (fun _ => true) true Try.f9.params.toList args.toList ds p := hA0
  rw [Try.params9] at hA hval
  obtain ⟨v0, v1, d0, d1, p0, p1, rfl, rfl, rfl, h0, h1⟩ := trodAll_two hA
  obtain ⟨a, rfl, rfl, rfl, wa⟩ := open_int Try.underlying3 (hval 0 3 v0 rfl rfl) h0
  obtain ⟨b, rfl, rfl, rfl, wb⟩ := open_int Try.underlying3 (hval 1 3 v1 rfl rfl) h1
  refine (Rl.calls a b W).mono fun e W' ⟨he, hb⟩ => ⟨_, he, ?_⟩
  exact AH.post_true Rl.laidOut hW' rfl rfl (by kernel_rfl) (by
    intro t ht
    have : t = 4 := by simpa [Try.f9] using ht
    subst this; exact Try.underlying4) (by kernel_rfl) hb

theorem retireLeft_holds : Rows.RetireLeftSaid :=
  OpenClaim.holds_of_wide 9 Try.f9 rfl rfl rfl rfl rfl rfl rfl ⟨rfl, rfl, rfl, rfl, rfl⟩ rfl rfl rfl rfl rfl (by kernel_rfl) Try.func9 (by kernel_rfl)
    (of_decide_eq_true (by kernel_rfl)) (by unfold Func.isWrapper; first | (rw [if_pos (by decide +kernel)]; kernel_rfl) | (rw [if_neg (by decide +kernel)]; exact ⟨rfl, rfl⟩))
    (fun os started H enc _ => Rl.lifted os started H enc)

#print axioms retireLeft_holds
end Go.Proofs.Ytlnlopeodpamdaa
