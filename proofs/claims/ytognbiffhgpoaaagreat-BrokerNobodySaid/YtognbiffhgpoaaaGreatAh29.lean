/-
  AH 29: a contract over a small state holds in a greater one.
-/
import Derived.Test.YtognbiffhgpoaaaGreatAh28
set_option linter.unusedSimpArgs false
set_option linter.unusedVariables false
set_option linter.unusedSectionVars false
namespace AH
open Go
noncomputable section

/-- Blocks under other numbers. -/
def loc (π : Nat → Nat) : Nat → Loc := fun i => ⟨π i, 0, unk⟩

theorem renC_unk (C c : Nat) : renC C (renC unk c) = renC C c := by
  unfold renC
  by_cases h : c < half
  · rw [if_pos h, if_pos h]
  · simp only [if_neg h]
    by_cases h2 : unk - (unk - c) < half
    · exfalso; unfold unk half at *; omega
    · simp only [if_neg h2]
      have : unk - (unk - (unk - c)) = unk - c := by unfold unk; omega
      rw [this]

theorem ren_comp (ρ : Nat → Loc) (π : Nat → Nat) : ∀ v : Value, ren ρ (ren (loc π) v) = ren (fun i => ρ (π i)) v
  | .pointer none => by simp
  | .pointer (some a) => by simp [renA, loc]
  | .slice none n c => by simp
  | .slice (some a) n c => by simp [renA, loc, renC_unk]
  | .map none => by simp
  | .map (some r) => by simp [loc]
  | .func fn x y => by
    simp only [ren_func, Value.func.injEq]
    refine ⟨by cases fn <;> simp [renFn, loc], ?_, ?_⟩
    · rw [Array.map_map]
      apply Array.map_congr_left
      intro v hv
      exact ren_comp ρ π v
    · rw [Array.map_map]
      apply Array.map_congr_left
      intro v hv
      exact ren_comp ρ π v
  | .iface t v => by simp only [ren_iface]; rw [ren_comp ρ π v]
  | .agg cs => by
    simp only [ren_agg, Value.agg.injEq]
    rw [Array.map_map]
    apply Array.map_congr_left
    intro v hv
    exact ren_comp ρ π v
  | .tuple cs => by
    simp only [ren_tuple, Value.tuple.injEq]
    rw [Array.map_map]
    apply Array.map_congr_left
    intro v hv
    exact ren_comp ρ π v
  | .bool b => by simp
  | .int k n => by simp
  | .string s => by simp
  | .nilFunc => by simp
  | .nilIface => by simp
  | .float k b => by simp
  | .complex k b c => by simp
  | .chan r => by simp

def Tr.map {α : Type} (g : α → α) : Tr α → Tr α
  | .leaf => .leaf
  | .node l v r => .node (l.map g) (v.map g) (r.map g)

theorem Tr.get_map {α : Type} (g : α → α) : ∀ (t : Tr α) (k : Nat), (t.map g).get k = (t.get k).map g
  | .leaf, k => rfl
  | .node l v r, k => by
    simp only [Tr.map, Tr.get_node]
    by_cases h0 : k = 0
    · rw [if_pos h0, if_pos h0]
    · rw [if_neg h0, if_neg h0]
      by_cases h1 : k % 2 = 1
      · rw [if_pos h1, if_pos h1]; exact Tr.get_map g l _
      · rw [if_neg h1, if_neg h1]; exact Tr.get_map g r _

def renB (ρ : Nat → Loc) : Blk → Blk
  | .cells e cs => .cells e (cs.map (ren ρ))
  | .row e sz cs => .row e sz (cs.map (ren ρ))
  | .ro cs => .ro (cs.map (ren ρ))
  | .map es c => .map (es.map (renE ρ)) c
  | .miter m since seen st => .miter (m.map fun i => (ρ i).b) since seen st
  | .siter s p => .siter s p
  | .loop st p fn nt f ps x y => .loop st p fn nt (f.map (ren ρ)) ps x y
  | .dfr => .dfr
  | .dead => .dead

theorem renE_comp (ρ : Nat → Loc) (π : Nat → Nat) (e : MapEntry) : renE ρ (renE (loc π) e) = renE (fun i => ρ (π i)) e := by
  simp [renE, ren_comp]

/-- What holds of a block under new numbers holds of it under the old ones; and the other way round. -/
theorem BlkRel.comp {ρ : Nat → Loc} {π : Nat → Nat} {l : Loc} {w : World} {b : Blk} : BlkRel ρ l w (renB (loc π) b) ↔ BlkRel (fun i => ρ (π i)) l w b := by
  cases b with
  | cells e cs => simp only [renB, BlkRel, List.map_map, List.length_map, Function.comp_def, ren_comp]
  | row e sz cs => simp only [renB, BlkRel, List.map_map, List.length_map, Function.comp_def, ren_comp]
  | ro cs =>
    simp only [renB, BlkRel]
    constructor
    · rintro ⟨h1, h2⟩
      refine ⟨fun h => h1 (by simpa using h), fun k v hk => ?_⟩
      rw [h2 k (ren (loc π) v) (by simp [hk]), ren_comp]
    · rintro ⟨h1, h2⟩
      refine ⟨fun h => h1 (by simpa using h), fun k v hk => ?_⟩
      simp only [List.getElem?_map, Option.map_eq_some_iff] at hk
      obtain ⟨u, hu, rfl⟩ := hk
      rw [h2 k u hu, ren_comp]
  | map es c => simp only [renB, BlkRel, List.map_map, Function.comp_def, renE_comp]
  | miter m a b c => simp only [renB, BlkRel, Option.map_map, Function.comp_def, loc]
  | siter s p => exact Iff.rfl
  | loop st p fn nt f ps x y =>
    simp only [renB, BlkRel]
    constructor
    · rintro ⟨h0, tmps, d, h1, h2, h3⟩
      refine ⟨h0, tmps, d, h1, fun t v hv => ?_, h3⟩
      rw [h2 t (ren (loc π) v) (by rw [Tr.get_map, hv]; rfl), ren_comp]
    · rintro ⟨h0, tmps, d, h1, h2, h3⟩
      refine ⟨h0, tmps, d, h1, fun t v hv => ?_, h3⟩
      rw [Tr.get_map, Option.map_eq_some_iff] at hv
      obtain ⟨u, hu, rfl⟩ := hv
      rw [h2 t u hu, ren_comp]
  | dfr => exact Iff.rfl
  | dead => exact Iff.rfl

theorem renB_wr {ρ : Nat → Loc} {b : Blk} : (renB ρ b).wr = b.wr := by cases b <;> rfl
theorem renB_live {ρ : Nat → Loc} {b : Blk} : (renB ρ b).live = b.live := by
  cases b with
  | ro cs => cases cs <;> simp [renB, Blk.live]
  | _ => rfl

theorem BlkRel.of_idle {ρ : Nat → Loc} {l : Loc} {w : World} {b : Blk} (h : b.live = false) : BlkRel ρ l w b := by
  cases b <;> simp only [Blk.live, reduceCtorEq] at h
  · rename_i cs
    cases cs with
    | nil => exact ⟨fun h => absurd rfl h, fun k v hk => by simp at hk⟩
    | cons c cs => simp at h
  · trivial
theorem Blk.sc_of_idle {n : Nat} {b : Blk} (h : b.live = false) : b.sc n := by
  cases b <;> simp only [Blk.live, reduceCtorEq] at h
  · rename_i cs
    cases cs with
    | nil => intro v hv; simp at hv
    | cons c cs => simp at h
  · trivial

/-- A small state in a greater one: block i of the small one is block π i of the greater one. -/
structure Small (π : Nat → Nat) (σ₀ σ : St) : Prop where
  lt : ∀ i, i < σ₀.next → π i < σ.next
  inj : ∀ i j, (σ₀.get i).live = true → (σ₀.get j).live = true → π i = π j → i = j
  get : ∀ i, (σ₀.get i).live = true → σ.get (π i) = renB (loc π) (σ₀.get i)
  sc : ∀ i, (σ₀.get i).sc σ₀.next
  out : ∀ i, (σ₀.get i).live = true → i < σ₀.next

theorem Small.rel {π : Nat → Nat} {σ₀ σ : St} (h : Small π σ₀ σ) {ρ : Nat → Loc} {w : World} (hR : Rel ρ σ w) : Rel (fun i => ρ (π i)) σ₀ w := by
  refine ⟨fun i => ?_, h.sc, h.out, fun i j hij hi hj => ?_⟩
  · cases hl : (σ₀.get i).live with
    | true =>
      have := hR.blk (π i)
      rw [h.get i hl] at this
      exact BlkRel.comp.1 this
    | false =>
      cases hb : σ₀.get i <;> rw [hb] at hl <;> simp only [Blk.live, reduceCtorEq] at hl
      · rename_i cs
        cases cs with
        | nil => exact ⟨fun h => absurd rfl h, fun k v hk => by simp at hk⟩
        | cons c cs => simp [Blk.live] at hl
      · trivial
  · have h1 := h.out i (Blk.live_of_wr hi)
    have h2 := h.out j hj
    exact hR.inj (π i) (π j) (fun e => hij (h.inj i j (Blk.live_of_wr hi) hj e)) (by rw [h.get i (Blk.live_of_wr hi), renB_wr]; exact hi) (by rw [h.get j hj, renB_live]; exact hj)

def exN (π : Nat → Nat) (n₀ n : Nat) : Nat → Nat := fun i => if i < n₀ then π i else n + (i - n₀)

theorem Sc_loc {π : Nat → Nat} {n n' : Nat} {v : Value} (h : Sc n v) (hp : ∀ i, i < n → π i < n') : Sc n' (ren (loc π) v) := fun ρ ρ' he => by
  rw [ren_comp, ren_comp]
  exact h _ _ fun i hi => he _ (hp i hi)

theorem renB_sc {π : Nat → Nat} {n n' : Nat} {b : Blk} (h : b.sc n) (hp : ∀ i, i < n → π i < n') : (renB (loc π) b).sc n' := by
  cases b with
  | cells e cs => intro v hv; obtain ⟨u, hu, rfl⟩ := List.mem_map.1 hv; exact Sc_loc (h u hu) hp
  | row e sz cs => intro v hv; obtain ⟨u, hu, rfl⟩ := List.mem_map.1 hv; exact Sc_loc (h u hu) hp
  | ro cs => intro v hv; obtain ⟨u, hu, rfl⟩ := List.mem_map.1 hv; exact Sc_loc (h u hu) hp
  | map es c => intro e he; obtain ⟨u, hu, rfl⟩ := List.mem_map.1 he; exact ⟨Sc_loc (h u hu).1 hp, Sc_loc (h u hu).2 hp⟩
  | miter m a b c => cases m with
    | none => trivial
    | some m => exact hp m h
  | siter s p => trivial
  | loop st p fn nt f ps x y =>
    intro t v hv
    rw [Tr.get_map, Option.map_eq_some_iff] at hv
    obtain ⟨u, hu, rfl⟩ := hv
    exact Sc_loc (h t u hu) hp
  | dfr => trivial
  | dead => trivial

/-- What the greater state is behind the call. -/
structure Big (π : Nat → Nat) (σ₀ σ σ₀' σ' : St) : Prop where
  next : σ'.next = σ.next + (σ₀'.next - σ₀.next)
  get : ∀ i, i < σ₀'.next → (σ₀.next ≤ i ∨ (σ₀.get i).live = true) → σ'.get (exN π σ₀.next σ.next i) = renB (loc (exN π σ₀.next σ.next)) (σ₀'.get i)
  old : ∀ j, j < σ.next → (∀ i, (σ₀.get i).live = true → π i ≠ j) → σ'.get j = σ.get j
  rest : ∀ j, σ'.next ≤ j → (σ'.get j).live = false

theorem WF.frame {E : Env} {K : FuncId} {args₀ : List Value} {σ₀ σ : St} {π : Nat → Nat} {R₀ R : Value → St → Prop} (hs : Small π σ₀ σ) (ha : Scs σ₀.next args₀) (h : WF E K args₀ σ₀ R₀)
    (hR : ∀ r σ₀', σ₀.next ≤ σ₀'.next → R₀ r σ₀' → ∃ σ', Big π σ₀ σ σ₀' σ' ∧ R (ren (loc (exN π σ₀.next σ.next)) r) σ') :
    WF E K (args₀.map (ren (loc π))) σ R := by
  refine ⟨h.1, fun ρ w hRel _ => ?_⟩
  have hargs : (args₀.map (ren (loc π))).map (ren ρ) = args₀.map (ren fun i => ρ (π i)) := by
    rw [List.map_map]
    exact List.map_congr_left fun v _ => ren_comp ρ π v
  rw [hargs]
  refine (h.2 _ w (hs.rel hRel) ha).mono fun e w' ⟨v, he, r₀, σ₀', ρ₀, h1, hev, h3, h4⟩ => ?_
  obtain ⟨σ', hB, hR'⟩ := hR r₀ σ₀' hev.next h4
  have hle := hev.next
  generalize hπ' : exN π σ₀.next σ.next = π' at *
  have hp1 : ∀ i, i < σ₀.next → π' i = π i := fun i hi => by rw [← hπ']; simp [exN, hi]
  have hp2 : ∀ i, ¬ i < σ₀.next → π' i = σ.next + (i - σ₀.next) := fun i hi => by rw [← hπ']; simp [exN, hi]
  have hplt : ∀ i, i < σ₀'.next → π' i < σ'.next := fun i hi => by
    rw [hB.next]
    by_cases h0 : i < σ₀.next
    · rw [hp1 i h0]; have := hs.lt i h0; omega
    · rw [hp2 i h0]; omega
  let ρ' : Nat → Loc := fun j => if j < σ.next then ρ j else ρ₀ (σ₀.next + (j - σ.next))
  have hρo : ∀ j, j < σ.next → ρ' j = ρ j := fun j hj => by simp [ρ', hj]
  have hρ : ∀ i, i < σ₀'.next → ρ' (π' i) = ρ₀ i := fun i hi => by
    by_cases h0 : i < σ₀.next
    · rw [hp1 i h0, hρo _ (hs.lt i h0), hev.ext i h0]
    · rw [hp2 i h0]
      simp only [ρ']
      rw [if_neg (by omega)]
      congr 1
      omega
  have hcase : ∀ j, (∃ i, (i < σ₀'.next ∧ (σ₀.next ≤ i ∨ (σ₀.get i).live = true)) ∧ π' i = j) ∨ (j < σ.next ∧ (∀ i, (σ₀.get i).live = true → π i ≠ j)) ∨ (σ'.get j).live = false := fun j => by
    by_cases hj : j < σ.next
    · by_cases hx : ∃ i, (σ₀.get i).live = true ∧ π i = j
      · obtain ⟨i, hi, e⟩ := hx
        have hin := hs.out i hi
        exact .inl ⟨i, ⟨by omega, .inr hi⟩, by rw [hp1 i hin]; exact e⟩
      · exact .inr (.inl ⟨hj, fun i hi e => hx ⟨i, hi, e⟩⟩)
    · by_cases hj' : j < σ'.next
      · refine .inl ⟨σ₀.next + (j - σ.next), ⟨by rw [hB.next] at hj'; omega, .inl (by omega)⟩, ?_⟩
        rw [hp2 _ (by omega)]; omega
      · exact .inr (.inr (hB.rest j (by omega)))
  have hwr0 : ∀ i, (σ₀.get i).wr = true → (σ.get (π i)).wr = true := fun i hi => by
    rw [hs.get i (Blk.live_of_wr hi), renB_wr]; exact hi
  have hli0 : ∀ i, (σ₀.get i).live = true → (σ.get (π i)).live = true := fun i hi => by
    rw [hs.get i hi, renB_live]; exact hi
  -- an old block that the small state does not know
  have hkeep : ∀ j, j < σ.next → (∀ i, (σ₀.get i).live = true → π i ≠ j) → (σ.get j).live = true → w'.heap[(ρ j).b]? = w.heap[(ρ j).b]? := fun j hj hno hl =>
    hev.fra _ (hRel.size hl) fun i hi => hRel.inj (π i) j (hno i (Blk.live_of_wr hi)) (hwr0 i hi) hl
  have hfar : ∀ j i, j < σ.next → (∀ i, (σ₀.get i).live = true → π i ≠ j) → (σ.get j).live = true → (σ₀'.get i).live = true → ((σ.get j).wr = true ∨ (σ₀'.get i).wr = true) → (ρ j).b ≠ (ρ₀ i).b := fun j i hj hno hl hl' hw => by
    have hsz := hRel.size hl
    rcases hw with hw | hw
    · rcases hev.liv i hl' with ⟨k, hk, e⟩ | hge
      · rw [← e]; exact hRel.inj j (π k) (fun e => hno k hk e.symm) hw (hli0 k hk)
      · omega
    · rcases hev.own i hw with ⟨k, hk, e⟩ | hge
      · rw [← e]; exact (hRel.inj (π k) j (hno k (Blk.live_of_wr hk)) (hwr0 k hk) hl).symm
      · omega
  have hgetI : ∀ i, (i < σ₀'.next ∧ (σ₀.next ≤ i ∨ (σ₀.get i).live = true)) → (σ'.get (π' i)) = renB (loc π') (σ₀'.get i) := fun i hi => by rw [← hπ']; exact hB.get i hi.1 hi.2
  have hrel' : Rel ρ' σ' w' := by
    refine ⟨fun j => ?_, fun j => ?_, fun j hj => ?_, fun j k hjk hj hk => ?_⟩
    · rcases hcase j with ⟨i, hi, rfl⟩ | ⟨hj, hno⟩ | hd
      · rw [hgetI i hi, hρ i hi.1, BlkRel.comp]
        exact (hev.rel.blk i).reno (hev.rel.sc i) fun k hk => (hρ k hk).symm
      · rw [hB.old j hj hno, hρo j hj]
        exact ((hRel.blk j).same (hkeep j hj hno) hev.size).reno (hRel.sc j) fun k hk => (hρo k hk).symm
      · exact BlkRel.of_idle hd
    · rcases hcase j with ⟨i, hi, rfl⟩ | ⟨hj, hno⟩ | hd
      · rw [hgetI i hi]; exact renB_sc (hev.rel.sc i) hplt
      · rw [hB.old j hj hno]; exact Blk.sc_mono (hRel.sc j) (by rw [hB.next]; omega)
      · exact Blk.sc_of_idle hd
    · rcases hcase j with ⟨i, hi, rfl⟩ | ⟨hj', hno⟩ | hd
      · exact hplt i hi.1
      · rw [hB.next]; omega
      · rw [hd] at hj; cases hj
    · rcases hcase j with ⟨i, hi, rfl⟩ | ⟨hj', hno⟩ | hd
      · rw [hgetI i hi, renB_wr] at hj
        rcases hcase k with ⟨m, hm, rfl⟩ | ⟨hk', hno'⟩ | hd'
        · rw [hgetI m hm, renB_live] at hk
          rw [hρ i hi.1, hρ m hm.1]
          exact hev.rel.inj i m (fun e => hjk (by rw [e])) hj hk
        · rw [hB.old k hk' hno'] at hk
          rw [hρ i hi.1, hρo k hk']
          exact (hfar k i hk' hno' hk (Blk.live_of_wr hj) (.inr hj)).symm
        · rw [hd'] at hk; cases hk
      · rw [hB.old j hj' hno] at hj
        rcases hcase k with ⟨m, hm, rfl⟩ | ⟨hk', hno'⟩ | hd'
        · rw [hgetI m hm, renB_live] at hk
          rw [hρ m hm.1, hρo j hj']
          exact hfar j m hj' hno (Blk.live_of_wr hj) hk (.inl hj)
        · rw [hB.old k hk' hno'] at hk
          rw [hρo j hj', hρo k hk']
          exact hRel.inj j k hjk hj hk
        · rw [hd'] at hk; cases hk
      · rw [Blk.live_of_wr hj] at hd; cases hd
  refine ⟨v, he, ren (loc π') r₀, σ', ρ', ?_, ⟨hrel', hρo, by rw [hB.next]; omega, hev.size, hev.os, hev.tape, hev.output, fun j hj => ?_, fun b hb hno => ?_, fun j hj => ?_⟩, Sc_loc h3 hplt, hR'⟩
  · rw [h1, ren_comp]
    exact h3 _ _ fun i hi => (hρ i hi).symm
  · rcases hcase j with ⟨i, hi, rfl⟩ | ⟨hj', hno⟩ | hd
    · rw [hgetI i hi, renB_wr] at hj
      rw [hρ i hi.1]
      rcases hev.own i hj with ⟨k, hk, e⟩ | hge
      · exact .inl ⟨π k, hwr0 k hk, e⟩
      · exact .inr hge
    · rw [hB.old j hj' hno] at hj
      exact .inl ⟨j, hj, by rw [hρo j hj']⟩
    · rw [Blk.live_of_wr hj] at hd; cases hd
  · exact hev.fra b hb fun i hi => hno (π i) (hwr0 i hi)
  · rcases hcase j with ⟨i, hi, rfl⟩ | ⟨hj', hno⟩ | hd
    · rw [hgetI i hi, renB_live] at hj
      rw [hρ i hi.1]
      rcases hev.liv i hj with ⟨k, hk, e⟩ | hge
      · exact .inl ⟨π k, hli0 k hk, e⟩
      · exact .inr hge
    · rw [hB.old j hj' hno] at hj
      exact .inl ⟨j, hj, by rw [hρo j hj']⟩
    · rw [hd] at hj; cases hj

end
end AH
