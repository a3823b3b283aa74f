/-
  AH 23: from a call's abstract outcome to a row that says 'true, and the input reads as it did'.
-/
import Derived.Test.YtognbiffhgpoaaaGreatAh22
import Derived.ProofKit
set_option linter.unusedSimpArgs false
set_option linter.unusedVariables false
set_option linter.unusedSectionVars false
namespace AH
open Go Go.ChangeShapes Go.WideShapes Go.ChangeAt Go.RowKit
noncomputable section

theorem below_of_evo {ρ ρ' : Nat → Loc} {σ σ' : St} {w w' : World} (h : Evo ρ σ w ρ' σ' w') (hro : ∀ i, (σ.get i).wr = false) : Below w.heap.size w w' :=
  ⟨h.os, h.tape, h.output, h.size, fun k hk => h.fra k hk fun i hi => by rw [hro i] at hi; cases hi⟩

theorem Rel.empty (ρ : Nat → Loc) (w : World) : Rel ρ St.empty w :=
  ⟨fun i => trivial, fun i => trivial, fun i hi => by simp [St.get_empty, Blk.live] at hi, fun i j _ hi _ => by simp [St.get_empty, Blk.wr] at hi⟩

/-- A call that begins with nothing known. -/
theorem WF.calls {E : Env} {K : FuncId} {args : List Value} {σ : St} {R : Value → St → Prop} (h : WF E K args σ R) {ρ : Nat → Loc} {w : World} (hR : Rel ρ σ w) (hs : Scs σ.next args) (hro : ∀ i, (σ.get i).wr = false) :
    Calls E.P K (args.map (ren ρ)).toArray w (fun e w' => ∃ r σ' ρ', e = .returned (ren ρ' r) ∧ R r σ' ∧ Below w.heap.size w w') :=
  (h.2 ρ w hR hs).mono fun e w' ⟨v, he, r, σ', ρ', h1, h2, h3, h4⟩ => ⟨r, σ', ρ', by rw [he, h1], h4, below_of_evo h2 hro⟩

def isT : Option (Value × St) → Bool
  | some (.bool b, _) => b
  | _ => false

/-- A call of closed values that comes to true. -/
theorem CallOk.true_of {M : EnvM} {call : CallF} (hc : CallOk M call) {K : FuncId} {args : List Value} (h : isT (call K args St.empty) = true) (hs : ∀ v ∈ args, ∀ ρ : Nat → Loc, ren ρ v = v) (w : World) :
    Calls M.P K args.toArray w (fun e w' => e = .returned (.bool true) ∧ Below w.heap.size w w') := by
  unfold isT at h
  split at h
  · rename_i b' σ' hcall
    subst h
    have hsc : Scs St.empty.next args := fun v hv ρ ρ' _ => by rw [hs v hv, hs v hv]
    have := WF.calls (hc _ _ _ _ _ hcall) (Rel.empty (fun _ => ⟨0, 0, 0⟩) w) hsc (fun i => rfl)
    have e0 : args.map (ren fun _ => ⟨0, 0, 0⟩) = args := by
      have := List.map_congr_left (f := ren fun _ => ⟨0, 0, 0⟩) (g := id) fun v hv => hs v hv _
      rw [this, List.map_id]
    rw [e0] at this
    refine this.mono fun e w' ⟨r, σ'', ρ', he, ⟨hr, _⟩, hb⟩ => ⟨?_, hb⟩
    subst hr
    rw [he, ren_bool]
  · exact absurd h (by simp)

section
variable {H : Type} {enc : TypeId × Value → H} {P : Program}

theorem trodAll_below (hl : laidOutB P = true) {W W' : World} (hb : Below W.heap.size W W') : ∀ {ts : List TypeId} {vs : List Value} {ds : List (DataW H)} {ps : List MemPlace}, (∀ t ∈ ts, P.readableRec t = true ∧ t < P.types.size) → (∀ p ∈ ps, p.block < W.heap.size) →
    DataW.TrodAll enc P W 0 (fun _ => true) true ts vs ds ps → DataW.TrodAll enc P W' 0 (fun b => decide (b < W.heap.size)) true ts vs ds ps
  | [], vs, ds, ps, _, _, h => by
    obtain ⟨rfl, rfl, rfl⟩ := trodAll_nil h
    exact trodAll_mk0
  | t :: ts, vs, ds, ps, hr, hlt, h => by
    obtain ⟨v, vs', d, ds', p, q, rfl, rfl, rfl, h1, h2⟩ := trodAll_cons h
    obtain ⟨r1, r2⟩ := hr t (by simp)
    exact ⟨p, q, Below.trod hl r1 r2 h1 hb (fun x hx => hlt x (by simp [hx])), trodAll_below hl hb (fun t ht => hr t (by simp [ht])) (fun x hx => hlt x (by simp [hx])) h2, rfl⟩

/-- The row's end: true, and the arguments read as they did. -/
theorem post_true {f : Func} {s : ChangeSpec} {fresh handsOn : Bool} {W W' : World} {args : Array Value} {ds gs : List (DataW H)} {before : List MemPlace} (hl : laidOutB P = true)
    (hW : DataW.Whole enc P f.params.toList s.vars false W args.toList ds gs before) (hv : s.vars = []) (hfn : s.fn H ds = { results := [.lit (.bool true)], args := ds })
    (hres : f.resultTypes.size = 1) (hbool : ∀ t ∈ f.resultTypes.toList, P.underlying t = some .bool)
    (hread : (f.params.toList.all fun t => P.readableRec t && decide (t < P.types.size)) = true) (hb : Below W.heap.size W W') : s.post enc P f false fresh handsOn false W args (.bool true) W' := by
  have hlt := hW.lt
  have hW' := hW
  obtain ⟨p, q, hA, hV, rfl, hfz, hnd⟩ := hW
  rw [hv] at hV
  obtain ⟨rfl, rfl⟩ := trodVars_none hV
  have hread' : ∀ t ∈ f.params.toList, P.readableRec t = true ∧ t < P.types.size := fun t ht => by
    have := List.all_eq_true.1 hread t ht
    simpa using this
  refine ⟨ds, [], p ++ [], [], p, [], hW', ?_, ?_, ?_, hb.frame _, fun h => by cases h⟩
  · rw [List.append_nil, hfn]
    obtain ⟨t, ht⟩ : ∃ t, f.resultTypes.toList = [t] := by
      have : f.resultTypes.toList.length = 1 := by simpa using hres
      match f.resultTypes.toList, this with
      | [t], _ => exact ⟨t, rfl⟩
    have hb1 : (Value.bool true).resultList f.resultTypes.size = [.bool true] := by rw [hres]; rfl
    rw [ht, hb1]
    refine trodAll_mk1 ?_
    exact shut_bool (hbool t (by rw [ht]; simp)) true
  · rw [List.append_nil, hfn]
    exact trodAll_below hl hb hread' (fun x hx => hlt x (by simp [hx])) hA
  · rw [List.append_nil, hfn, hv]
    rfl
end
end
end AH
