/-
  Blocks that are taken have no word in common, are all 0 at first, keep what is stored, and come again once they are given back; another heap that is the same goes on by itself; true, whatever the numbers are, and they read as they did. Conditions: none.
-/
import Derived.Test.YtlnlopeodpamdaaLawHApart12
import Derived.ChangeSlices
namespace Go.Proofs.Ytlnlopeodpamdaa
open Go.ChangeShapes Go.WideShapes Go.ChangeAt Go.RowKit

theorem Ha.own : ownKnob Try.prog.godebug = none := by kernel_rfl
theorem Ha.laidOut : laidOutB Try.prog = true := by kernel_rfl
theorem Ha.body : Try.f7.body = some (AH.bodyC Try.f7) := by kernel_rfl

set_option maxRecDepth 100000 in
theorem Ha.ends {W : World} {zs : List Value} {v : Value} {args : List Value} {ρ : Nat → AH.Loc} (hv : AH.VB 0 Hx.M 7 Try.f7.ntmps [.code (AH.bodyC Try.f7)] (AH.initF 0 args .nil) (AH.St.empty.push (.ro zs)) (fun r _ => r = .bool true)) (hl : args.length = 1)
    (hR : AH.BlkRel ρ (ρ 0) W (.ro zs)) (hz : AH.Scs 1 zs) (hs : AH.Scs 1 args) (he : args.map (AH.ren ρ) = [v]) : Calls Try.prog 7 #[v] W (fun e w' => e = .returned (.bool true) ∧ Below W.heap.size W w') := by
  have hget : ∀ i, (AH.St.empty.push (.ro zs)).get i = if 0 = i then .ro zs else .dead := fun i => by
    rw [AH.St.get_push, AH.St.get_empty]; rfl
  have hrel : AH.Rel ρ (AH.St.empty.push (.ro zs)) W := by
    refine ⟨fun i => ?_, fun i => ?_, fun i hi => ?_, fun i j _ hi _ => ?_⟩
    · rw [hget]
      split
      · rename_i e; subst e; exact hR
      · trivial
    · rw [hget]
      split
      · exact hz
      · trivial
    · rw [hget] at hi
      show i < 1
      split at hi
      · omega
      · cases hi
    · rw [hget] at hi
      split at hi <;> cases hi
  have hc := AH.calls_of_VB Try.func7 rfl Ha.body (by rw [hl]; show 1 ≤ 252; omega) hv hrel hs (fun i => by rw [hget]; split <;> rfl)
  rw [he] at hc
  refine hc.mono fun e w' ⟨r, ρ', h1, h2, h3⟩ => ⟨?_, h3⟩
  rw [h1, h2, AH.ren_bool]

theorem Ha.calls (W : World) (v : Value) (hv : v = .slice none 0 0 ∨ ∃ (a : Addr) (len cap : Nat) (zs : List Int), v = .slice (some a) len cap ∧ len ≤ cap ∧ cap ≤ maxLen ∧ zs.length = cap ∧ ∀ i, i < zs.length → W.cell? (a.add i) = some (.int .i64 (zs.getD i 0))) :
    Calls Try.prog 7 #[v] W (fun e w' => e = .returned (.bool true) ∧ Below W.heap.size W w') := by
  rcases hv with rfl | ⟨a, len, cap, zs, rfl, hlc, hcm, hzl, hcell⟩
  · refine Ha.ends (zs := []) (args := [.slice none 0 0]) (ρ := fun _ => ⟨0, 0, 0⟩) (Hx.ap_vb0 none none 0 (by rw [AH.ren_nilslice]) (AH.Sc_nilslice _ _ _)) rfl ⟨fun h => absurd rfl h, fun k v hk => by simp at hk⟩ (fun v hv => by simp at hv) (fun v hv => ?_) (by simp)
    simp only [List.mem_singleton] at hv
    rw [hv]
    exact AH.Sc_nilslice _ _ _
  · have hmax : maxLen = 9223372036854775807 := by decide
    by_cases h0 : cap = 0
    · have hl0 : len = 0 := by omega
      subst h0; subst hl0
      refine Ha.ends (zs := []) (args := [.slice (some ⟨0, 0, a.spot⟩) 0 0]) (ρ := fun _ => ⟨a.block, a.off, 0⟩) (Hx.ap_vb0 (some ⟨0, 0, a.spot⟩) (some ⟨7, 0, a.spot⟩) 0 ?_ (AH.Sc_slice (by show 7 < 8; omega))) rfl ⟨fun h => absurd rfl h, fun k v hk => by simp at hk⟩ (fun v hv => by simp at hv) (fun v hv => ?_) ?_
      · rw [AH.ren_slice]
        simp only [AH.renA, AH.loc]
        rw [Hx.renC_le (Nat.zero_le _)]
        rfl
      · simp only [List.mem_singleton] at hv
        rw [hv]
        exact AH.Sc_slice (by show 0 < 1; omega)
      · simp only [List.map_cons, List.map_nil, AH.ren_slice, AH.renA]
        rfl
    · have hspot : a.spot = none := by
        have := hcell 0 (by omega)
        have ea : a.add 0 = a := rfl
        rw [ea] at this
        unfold World.cell? at this
        split at this
        · cases hsp : a.spot with
          | none => rfl
          | some n => rw [hsp] at this; simp at this
        · cases this
      have hadd : ∀ i, a.add i = ⟨a.block, a.off + i, none⟩ := fun i => by
        unfold Addr.add
        split
        · rename_i e; subst e
          obtain ⟨b, o, s⟩ := a
          simp only at hspot
          subst hspot
          rfl
        · rfl
      have hlen : (zs.map (Value.int .i64)).length = zs.length := by simp
      have hints : Hx.Ints (zs.map (Value.int .i64)) := fun v hv => by
        obtain ⟨z, _, rfl⟩ := List.mem_map.1 hv
        exact ⟨z, rfl⟩
      refine Ha.ends (zs := zs.map (Value.int .i64)) (args := [.slice (some ⟨0, 0, none⟩) len cap]) (ρ := fun _ => ⟨a.block, a.off, AH.unk⟩) (Hx.ap_vb (zs.map (Value.int .i64)) len cap hints (by rw [hlen]; omega) (by unfold AH.unk; omega)) rfl ⟨fun _ => ?_, fun k v hk => ?_⟩ (Hx.sc_of_pure hints.pure 1) (fun v hv => ?_) ?_
      · have := hcell 0 (by omega)
        rw [hadd] at this
        unfold World.cell? at this
        split at this
        · rename_i c _ _ hb
          exact AH.heap_lt hb
        · cases this
      · rw [List.getElem?_map, Option.map_eq_some_iff] at hk
        obtain ⟨z, hz, rfl⟩ := hk
        have hkl : k < zs.length := by
          rcases Nat.lt_or_ge k zs.length with h' | h'
          · exact h'
          · rw [List.getElem?_eq_none h'] at hz; cases hz
        have := hcell k hkl
        rw [hadd] at this
        rw [AH.ren_int]
        show W.cell? ⟨a.block, a.off + k, none⟩ = _
        rw [this, List.getD_eq_getElem?_getD, hz]
        rfl
      · simp only [List.mem_singleton] at hv
        rw [hv]
        exact AH.Sc_slice (by show 0 < 1; omega)
      · simp only [List.map_cons, List.map_nil, AH.ren_slice, AH.renA]
        rw [Hx.renC_le (by unfold AH.unk; omega)]
        obtain ⟨b, o, s⟩ := a
        simp only at hspot
        subst hspot
        rfl

set_option maxRecDepth 100000 in
theorem Ha.lifted (os : Os) (started : os.Started) (H : Type) (enc : TypeId × Value → H) :
    ReturnsInHanded {} Try.checked os 7 .any (Rows.heapApartSpec.pre6 enc Try.prog Try.f7 Rows.heapApartRow.domain false) (Rows.heapApartSpec.post enc Try.prog Try.f7 false true false false) := by
  refine returnsInHanded_of_change (C := Try.checked) Ha.own started (by kernel_rfl) Try.func7
    (ChangeSpec.witness6 (enc := enc) (C := Try.checked) false ⟨#[], #[.slice none 0 0], []⟩ 8 (by kernel_rfl) (by kernel_rfl) (by kernel_rfl) (by kernel_rfl)) ?_
  intro W base args ds gs before hval0 hW _ _
  have hval : ∀ (j : Nat) t v, Try.f7.params[j]? = some t → args[j]? = some v → Value.okWide Try.prog W .any base t v := hval0
  have hW' := hW
  obtain ⟨p, q, hA0, hV, rfl, hfz, hnd⟩ := hW
  have hA : DataW.TrodAll enc Try.prog W 0 (fun _ => true) true Try.f7.params.toList args.toList ds p := hA0
  rw [Try.params7] at hA hval
  obtain ⟨v0, d0, rfl, rfl, h0⟩ := trodAll_one hA
  obtain ⟨b, len, cap, rfl⟩ := okWide_slice Try.underlying86 (hval 0 86 v0 rfl rfl)
  obtain ⟨fuel, hf⟩ := h0
  have hcells : (Value.slice b len cap).cells.toList = [.slice b len cap] := rfl
  rw [hcells] at hf
  have hv : Value.slice b len cap = .slice none 0 0 ∨ ∃ (a : Addr) (len' cap' : Nat) (zs : List Int), Value.slice b len cap = .slice (some a) len' cap' ∧ len' ≤ cap' ∧ cap' ≤ maxLen ∧ zs.length = cap' ∧ ∀ i, i < zs.length → W.cell? (a.add i) = some (.int .i64 (zs.getD i 0)) := by
    rcases open_ints Try.underlying86 Try.underlying3 (by kernel_rfl) hf with ⟨h1, _⟩ | ⟨a, len', cap', zs, h1, _, h3, h4, h5, _, h7, _⟩
    · exact .inl (by simpa using h1)
    · exact .inr ⟨a, len', cap', zs, by simpa using h1, h3, h4, by simpa using h5, h7⟩
  refine (Ha.calls W _ hv).mono fun e W' ⟨he, hb⟩ => ⟨_, he, ?_⟩
  exact AH.post_true Ha.laidOut hW' rfl rfl (by kernel_rfl) (by
    intro t ht
    have : t = 4 := by simpa [Try.f7] using ht
    subst this; exact Try.underlying4) (by kernel_rfl) hb

theorem heapApart_holds : Rows.HeapApartSaid :=
  OpenClaim.holds_of_wide 7 Try.f7 rfl rfl rfl rfl rfl rfl rfl ⟨rfl, rfl, rfl, rfl, rfl⟩ rfl rfl rfl rfl rfl (by kernel_rfl) Try.func7 (by kernel_rfl)
    (of_decide_eq_true (by kernel_rfl)) (by unfold Func.isWrapper; first | (rw [if_pos (by decide +kernel)]; kernel_rfl) | (rw [if_neg (by decide +kernel)]; exact ⟨rfl, rfl⟩))
    (fun os started H enc _ => Ha.lifted os started H enc)

#print axioms heapApart_holds
end Go.Proofs.Ytlnlopeodpamdaa
