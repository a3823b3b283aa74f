/-
  AH 28: helps for symbolic runs: loads and stores of known blocks; what is forgotten at a return; iterators.
-/
import Derived.Test.YtognbiffhgpoaaaGreatAh27
set_option linter.unusedSimpArgs false
set_option linter.unusedVariables false
set_option linter.unusedSectionVars false
namespace AH
open Go
noncomputable section

/-- A call that leaves what was known as it was may forget what it has made. -/
theorem WF.gc {E : Env} {K : FuncId} {args : List Value} {σ : St} {R : Value → Prop} (h : WF E K args σ (fun r σ' => (R r ∧ Sc σ.next r) ∧ ∀ i, i < σ.next → σ'.get i = σ.get i)) : WF E K args σ (fun r σ' => R r ∧ σ' = σ) := by
  refine ⟨h.1, fun ρ w hR hs => (h.2 ρ w hR hs).mono fun e w' ⟨v, he, r, σ', ρ', h1, h2, h3, ⟨h4, h5⟩, h6⟩ => ?_⟩
  have hdead : ∀ i, ¬ i < σ.next → (σ.get i).live = false := fun i hi => by
    cases hl : (σ.get i).live with
    | false => rfl
    | true => exact absurd (hR.lt i hl) hi
  have hwr : ∀ i, (σ.get i).wr = true → i < σ.next := fun i hi => hR.lt i (Blk.live_of_wr hi)
  refine ⟨v, he, r, σ, ρ', h1, ⟨⟨fun i => ?_, hR.sc, hR.lt, fun i j hij hi hj => ?_⟩, h2.ext, Nat.le_refl _, h2.size, h2.os, h2.tape, h2.output, fun i hi => .inl ⟨i, hi, by rw [h2.ext i (hwr i hi)]⟩, h2.fra, fun i hi => .inl ⟨i, hi, by rw [h2.ext i (hR.lt i hi)]⟩⟩, h5, h4, rfl⟩
  · by_cases hi : i < σ.next
    · have := h2.rel.blk i
      rw [h6 i hi] at this
      exact this
    · have := hdead i hi
      cases hb : σ.get i <;> rw [hb] at this <;> simp only [Blk.live, reduceCtorEq] at this
      · rename_i cs
        cases cs with
        | nil => exact ⟨fun h => absurd rfl h, fun k v hk => by simp at hk⟩
        | cons c cs => simp [Blk.live] at this
      · trivial
  · have h7 := hwr i hi
    have h8 := hR.lt j hj
    exact h2.rel.inj i j hij (by rw [h6 i h7]; exact hi) (by rw [h6 j h8]; exact hj)

section
variable {E : Env} {f : Fr} {σ : St}

theorem opQ_load {t : Nat} {x : Operand} {ad : Addr} {i : TyI} {v : Value} (hx : opd f x = some (.pointer (some ad))) (ht : E.ty t = some i) (hl : ldVar i σ ad = some v) : opQ E f σ (.load t x) = some v := by
  simp only [opQ, hx, ht, hl]

theorem opW_store {t : Nat} {a x : Operand} {ad : Addr} {v : Value} {i : TyI} {σ' : St} (ha : opd f a = some (.pointer (some ad))) (hx : opd f x = some v) (ht : E.ty t = some i) (hn : v.cells.toList.length = i.size) (hs : stCells σ ad v.cells.toList = some σ') : opW E f σ (.store t a x) = some (none, σ') := by
  simp only [opW, ha, hx, ht, hn, hs, if_true]
end

/-! ### A map's iterator -/

/-- The stamps of a map's entries: each once, all below n. -/
def Stamped (es : List MapEntry) (n : Nat) : Prop := (es.map (·.born)).Nodup ∧ ∀ e ∈ es, e.born < n

theorem cands_old {es : List MapEntry} {since : Nat} (h : Stamped es since) {vis : List MapEntry} (hv : ∀ e ∈ vis, e ∈ es) {c : Option MapEntry} (hc : c ∈ cands es since (vis.map (·.born))) :
    (c = none ∧ ∀ e ∈ es, e ∈ vis) ∨ ∃ e, c = some e ∧ e ∈ es ∧ e ∉ vis := by
  have hinj : ∀ a ∈ es, ∀ b ∈ es, a.born = b.born → a = b := fun a ha b hb hab => by
    have h1 := h.1
    clear hc hv h
    induction es with
    | nil => simp at ha
    | cons x r ih =>
      simp only [List.map_cons, List.nodup_cons, List.mem_map, not_exists, not_and] at h1
      rcases List.mem_cons.1 ha with ea | ha'
      · rcases List.mem_cons.1 hb with eb | hb'
        · rw [ea, eb]
        · exact absurd (ea ▸ hab.symm) (h1.1 b hb')
      · rcases List.mem_cons.1 hb with eb | hb'
        · exact absurd (eb ▸ hab) (h1.1 a ha')
        · exact ih ha' hb' h1.2
  have hmem : ∀ e ∈ es, (vis.map (·.born)).contains e.born = true ↔ e ∈ vis := fun e he => by
    rw [List.contains_iff_mem, List.mem_map]
    exact ⟨fun ⟨u, hu, hb⟩ => hinj u (hv u hu) e he hb ▸ hu, fun hv => ⟨e, hv, rfl⟩⟩
  unfold cands at hc
  simp only [List.mem_append, List.mem_map] at hc
  rcases hc with hc | ⟨e, hc, rfl⟩
  · split at hc
    · rename_i hemp
      simp only [List.mem_singleton] at hc
      refine .inl ⟨hc, fun e he => ?_⟩
      by_cases hin : e ∈ vis
      · exact hin
      · exfalso
        have : e ∈ (es.filter fun e => !(vis.map (·.born)).contains e.born).filter fun e => decide (e.born < since) := by
          rw [List.mem_filter, List.mem_filter]
          refine ⟨⟨he, ?_⟩, by simpa using h.2 e he⟩
          cases hq : (vis.map (·.born)).contains e.born with
          | false => rfl
          | true => exact absurd ((hmem e he).1 hq) hin
        rw [List.isEmpty_iff.1 hemp] at this
        simp at this
    · simp at hc
  · refine .inr ⟨e, rfl, ?_⟩
    have : e ∈ es.filter fun e => !(vis.map (·.born)).contains e.born := by
      rcases hc with hc | hc <;> exact (List.mem_filter.1 hc).1
    obtain ⟨h1, h2⟩ := List.mem_filter.1 this
    refine ⟨h1, fun hin => ?_⟩
    rw [(hmem e h1).2 hin] at h2
    simp at h2

/-- The iterator's word on a map that does not turn. -/
theorem not_cleared {es : List MapEntry} {n : Nat} (h : Stamped es n) {seen : List Nat} : (!seen.isEmpty && !es.isEmpty && es.all (fun e => decide (e.born ≥ n))) = false := by
  cases es with
  | nil => simp
  | cons e r =>
    have := h.2 e (by simp)
    have h2 : decide (e.born ≥ n) = false := by simp; omega
    simp [h2]

theorem entry_last {es : List MapEntry} {n : Nat} (h : Stamped es n) {e : MapEntry} (he : e ∈ es) : es.find? (fun x => x.born == e.born) = some e := by
  have h1 := h.1
  clear h
  induction es with
  | nil => simp at he
  | cons x r ih =>
    simp only [List.map_cons, List.nodup_cons, List.mem_map, not_exists, not_and] at h1
    rcases List.mem_cons.1 he with rfl | he
    · simp
    · have : (x.born == e.born) = false := by simpa using fun hh => h1.1 e he hh.symm
      rw [List.find?_cons, this]
      exact ih he h1.2

theorem perm_of_all {vis es : List MapEntry} (h1 : vis.Nodup) (h2 : es.Nodup) (h3 : ∀ e ∈ vis, e ∈ es) (h4 : ∀ e ∈ es, e ∈ vis) : vis.Perm es :=
  (List.perm_ext_iff_of_nodup h1 h2).2 fun e => ⟨h3 e, h4 e⟩

theorem nodup_of_map {α β : Type} (f : α → β) : ∀ {l : List α}, (l.map f).Nodup → l.Nodup
  | [], _ => List.nodup_nil
  | x :: r, h => by
    simp only [List.map_cons, List.nodup_cons, List.mem_map, not_exists, not_and] at h
    exact List.nodup_cons.2 ⟨fun hx => h.1 x hx rfl, nodup_of_map f h.2⟩

theorem Stamped.nodup {es : List MapEntry} {n : Nat} (h : Stamped es n) : es.Nodup := nodup_of_map _ h.1

end
end AH
