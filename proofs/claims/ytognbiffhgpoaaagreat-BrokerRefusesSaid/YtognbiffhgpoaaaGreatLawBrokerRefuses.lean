/-
  A call of a thread, a topic, a kind, a mode or a text that may not be is refused, with the document's error, without a step; any other one is not; whatever the thread and the call are; true, and they read as they did. Conditions: none.
-/
import Derived.Test.YtognbiffhgpoaaaGreatLawXRefs
import Derived.Lib.SmallJoins
set_option maxRecDepth 100000
namespace Go.Proofs.YtognbiffhgpoaaaGreat
open Go.ChangeShapes Go.WideShapes Go.ChangeAt Go.RowKit

theorem Br.own : ownKnob Tryz.prog.godebug = none := by kernel_rfl
theorem Br.laidOut : laidOutB Tryz.prog = true := by kernel_rfl

theorem Br.true_of {K : FuncId} {args : List Value} (h : AH.WF Hx.M.toEnv K args AH.St.empty (fun r _ => r = .bool true)) (hs : ∀ v ∈ args, ∀ ρ : Nat → AH.Loc, AH.ren ρ v = v) (w : World) :
    Calls Tryz.prog K args.toArray w (fun e w' => e = .returned (.bool true) ∧ Below w.heap.size w w') := by
  have hsc : AH.Scs AH.St.empty.next args := fun v hv ρ ρ' _ => by rw [hs v hv, hs v hv]
  have := AH.WF.calls h (AH.Rel.empty (fun _ => ⟨0, 0, 0⟩) w) hsc (fun i => rfl)
  have e0 : args.map (AH.ren fun _ => ⟨0, 0, 0⟩) = args := by
    have := List.map_congr_left (f := AH.ren fun _ => ⟨0, 0, 0⟩) (g := id) fun v hv => hs v hv _
    rw [this, List.map_id]
  rw [e0] at this
  refine this.mono fun e w' ⟨r, σ'', ρ', he, hr, hb⟩ => ⟨?_, hb⟩
  subst hr
  rw [he, AH.ren_bool]

theorem Br.calls (t a b c d e p : Int) (s : ByteArray) (W : World) : Calls Tryz.prog 3 #[.int .i64 t, .agg #[.int .i64 a, .int .i64 b, .int .i64 c, .int .u64 d, .int .i64 e, .string s, .int .u64 p]] W (fun e w' => e = .returned (.bool true) ∧ Below W.heap.size W w') :=
  Br.true_of (Hx.ref_all t a b c d e p s) (by simp) W

/-- A call's cells: whole numbers and a text. -/
theorem Br.openCall {H : Type} {enc : TypeId × Value → H} {w : World} {base : Nat} {spare : Nat → Bool} {held : Bool} {r : Reach} {b0 : Nat} {v : Value} {d : DataW H} {p : List MemPlace} (hv : Value.okWide Tryz.prog w r b0 26 v) (h : DataW.Trod enc Tryz.prog w base spare held 26 v d p) :
    ∃ (a b c g e q : Int) (s : ByteArray), v = .agg #[.int .i64 a, .int .i64 b, .int .i64 c, .int .u64 g, .int .i64 e, .string s, .int .u64 q] := by
  obtain ⟨cs, rfl, hsz⟩ := okWide_struct Tryz.underlying26 hv
  have h7 : cs.size = 7 := hsz.trans (by kernel_rfl)
  obtain ⟨fuel, hf⟩ := h
  obtain ⟨xs, n, _, _, _, hlen, hall⟩ := DataW.trod_struct Tryz.underlying26 hf
  obtain ⟨l⟩ := cs
  match l, h7 with
  | [c0, c1, c2, c3, c4, c5, c6], _ =>
    match xs, hlen with
    | [y0, y1, y2, y3, y4, y5], _ =>
      have t0 : DataW.trod enc Tryz.prog w base spare held n 3 [c0] = some y0 := hall 0 _ rfl
      have t1 : DataW.trod enc Tryz.prog w base spare held n 3 [c1] = some y1 := hall 1 _ rfl
      have t2 : DataW.trod enc Tryz.prog w base spare held n 24 [c2, c3] = some y2 := hall 2 _ rfl
      have t3 : DataW.trod enc Tryz.prog w base spare held n 3 [c4] = some y3 := hall 3 _ rfl
      have t4 : DataW.trod enc Tryz.prog w base spare held n 9 [c5] = some y4 := hall 4 _ rfl
      have t5 : DataW.trod enc Tryz.prog w base spare held n 22 [c6] = some y5 := hall 5 _ rfl
      obtain ⟨zs, m, _, _, _, hlen2, hall2⟩ := DataW.trod_struct Tryz.underlying24 t2
      match zs, hlen2 with
      | [z0, z1], _ =>
        have u0 : DataW.trod enc Tryz.prog w base spare held m 3 [c2] = some z0 := hall2 0 _ rfl
        have u1 : DataW.trod enc Tryz.prog w base spare held m 22 [c3] = some z1 := hall2 1 _ rfl
        obtain ⟨a, e0, _, _⟩ := DataW.trod_int Tryz.underlying3 t0
        obtain ⟨b, e1, _, _⟩ := DataW.trod_int Tryz.underlying3 t1
        obtain ⟨c, e2, _, _⟩ := DataW.trod_int Tryz.underlying3 u0
        obtain ⟨g, e3, _, _⟩ := DataW.trod_int Tryz.underlying22 u1
        obtain ⟨e, e4, _, _⟩ := DataW.trod_int Tryz.underlying3 t3
        obtain ⟨s, e5, _, _⟩ := DataW.trod_string Tryz.underlying9 t4
        obtain ⟨q, e6, _, _⟩ := DataW.trod_int Tryz.underlying22 t5
        simp only [List.cons.injEq, and_true] at e0 e1 e2 e3 e4 e5 e6
        exact ⟨a, b, c, g, e, q, s, by rw [e0, e1, e2, e3, e4, e5, e6]⟩

set_option maxRecDepth 100000 in
theorem Br.lifted (os : Os) (started : os.Started) (H : Type) (enc : TypeId × Value → H) :
    ReturnsInHanded {} Tryz.checked os 3 .any (Rows.brokerRefusesSpec.pre6 enc Tryz.prog Tryz.f3 Rows.brokerRefusesRow.domain false) (Rows.brokerRefusesSpec.post enc Tryz.prog Tryz.f3 false true false false) := by
  refine returnsInHanded_of_change (C := Tryz.checked) Br.own started (by kernel_rfl) Tryz.func3
    (ChangeSpec.witness6 (enc := enc) (C := Tryz.checked) false ⟨#[], #[.int .i64 0, .agg #[.int .i64 0, .int .i64 0, .int .i64 0, .int .u64 0, .int .i64 0, .string ⟨#[]⟩, .int .u64 0]], []⟩ 8 (by kernel_rfl) (by kernel_rfl) (by kernel_rfl) (by kernel_rfl)) ?_
  intro W base args ds gs before hval0 hW _ _
  have hval : ∀ (j : Nat) t v, Tryz.f3.params[j]? = some t → args[j]? = some v → Value.okWide Tryz.prog W .any base t v := hval0
  have hW' := hW
  obtain ⟨p, q, hA0, hV, rfl, hfz, hnd⟩ := hW
  have hA : DataW.TrodAll enc Tryz.prog W 0 (fun _ => true) true Tryz.f3.params.toList args.toList ds p := hA0
  rw [Tryz.params3] at hA hval
  obtain ⟨v0, v1, d0, d1, p0, p1, rfl, rfl, rfl, h0, h1⟩ := trodAll_two hA
  obtain ⟨t, rfl, rfl, rfl, wa⟩ := open_int Tryz.underlying3 (hval 0 3 v0 rfl rfl) h0
  obtain ⟨a, b, c, g, e, q, s, rfl⟩ := Br.openCall (hval 1 26 v1 rfl rfl) h1
  refine (Br.calls t a b c g e q s W).mono fun e W' ⟨he, hb⟩ => ⟨_, he, ?_⟩
  exact AH.post_true Br.laidOut hW' rfl rfl (by kernel_rfl) (by
    intro t ht
    have : t = 4 := by simpa [Tryz.f3] using ht
    subst this; exact Tryz.underlying4) (by kernel_rfl) hb

theorem brokerRefuses_holds : Rows.BrokerRefusesSaid :=
  OpenClaim.holds_of_wide 3 Tryz.f3 rfl rfl rfl rfl rfl rfl rfl ⟨rfl, rfl, rfl, rfl, rfl⟩ rfl rfl rfl rfl rfl (by kernel_rfl) Tryz.func3 (by kernel_rfl)
    (of_decide_eq_true (by kernel_rfl)) (by unfold Func.isWrapper; first | (rw [if_pos (by decide +kernel)]; kernel_rfl) | (rw [if_neg (by decide +kernel)]; exact ⟨rfl, rfl⟩))
    (fun os started H enc _ => Br.lifted os started H enc)

#print axioms brokerRefuses_holds
end Go.Proofs.YtognbiffhgpoaaaGreat
