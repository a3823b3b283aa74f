/-
  AH 2: the abstract state, its relation to a world, and how both evolve together.
-/
import Derived.Test.YtognbiffhgpoaaaGreatAh1
set_option linter.unusedSimpArgs false
set_option linter.unusedVariables false
namespace AH
open Go
noncomputable section

/-- An abstract block: cells that are all there is; a row that may have spare cells behind; cells that are only read; a map; iterators; nothing that is known of. -/
inductive Blk where
  | cells (e : TypeId) (cs : List Value)
  | row (e : TypeId) (sz : Nat) (cs : List Value)
  | ro (cs : List Value)
  | map (es : List MapEntry) (clock : Nat)
  | miter (m : Option Nat) (since : Nat) (seen : List Nat) (stepped : Nat)
  | siter (s : ByteArray) (pos : Nat)
  | loop (st : LoopState) (pending : Option Code) (fn : FuncId) (nt : Nat) (f : Tr Value) (ps : Array Tmp) (assign body : Code)
  | dfr
  | dead

structure St where
  next : Nat
  mem : Tr Blk

namespace St
def get (σ : St) (i : Nat) : Blk := match σ.mem.get i with | some b => b | none => .dead
def set (σ : St) (i : Nat) (b : Blk) : St := ⟨σ.next, σ.mem.set i b⟩
def push (σ : St) (b : Blk) : St := ⟨σ.next + 1, σ.mem.set σ.next b⟩
def empty : St := ⟨0, .leaf⟩
theorem get_set (σ : St) (i j : Nat) (b : Blk) : (σ.set i b).get j = if i = j then b else σ.get j := by
  simp only [get, set, Tr.get_set]; by_cases h : i = j <;> simp [h]
theorem get_set_same (σ : St) (i : Nat) (b : Blk) : (σ.set i b).get i = b := by rw [get_set, if_pos rfl]
theorem get_set_ne (σ : St) {i j : Nat} (b : Blk) (h : i ≠ j) : (σ.set i b).get j = σ.get j := by rw [get_set, if_neg h]
theorem get_push (σ : St) (j : Nat) (b : Blk) : (σ.push b).get j = if σ.next = j then b else σ.get j := by
  simp only [get, push, Tr.get_set]; by_cases h : σ.next = j <;> simp [h]
@[simp] theorem next_set (σ : St) (i : Nat) (b : Blk) : (σ.set i b).next = σ.next := rfl
@[simp] theorem next_push (σ : St) (b : Blk) : (σ.push b).next = σ.next + 1 := rfl
theorem get_empty (j : Nat) : empty.get j = .dead := rfl
end St

def Blk.wr : Blk → Bool
  | .ro _ | .dead => false
  | _ => true
def Blk.live : Blk → Bool
  | .ro [] | .dead => false
  | _ => true

theorem Blk.live_of_wr {b : Blk} (h : b.wr = true) : b.live = true := by cases b <;> simp_all [wr, live]

def Blk.sc (n : Nat) : Blk → Prop
  | .cells _ cs | .row _ _ cs | .ro cs => Scs n cs
  | .map es _ => ∀ e ∈ es, Sc n e.key ∧ Sc n e.val
  | .miter (some m) _ _ _ => m < n
  | .loop _ _ _ _ f _ _ _ => ∀ t v, f.get t = some v → Sc n v
  | _ => True

theorem Blk.sc_mono {n m : Nat} {b : Blk} (h : b.sc n) (hm : n ≤ m) : b.sc m := by
  cases b with
  | cells e cs => exact Scs.mono h hm
  | row e sz cs => exact Scs.mono h hm
  | ro cs => exact Scs.mono h hm
  | map es c => exact fun e he => ⟨(h e he).1.mono hm, (h e he).2.mono hm⟩
  | miter m a b c => cases m with
    | none => trivial
    | some m => exact Nat.lt_of_lt_of_le h hm
  | siter s p => trivial
  | loop st p fn nt f ps x y => exact fun t v hv => (h t v hv).mono hm
  | dfr => trivial
  | dead => trivial

def renE (ρ : Nat → Loc) (e : MapEntry) : MapEntry := { e with key := ren ρ e.key, val := ren ρ e.val }

/-- No cell below n is frozen. -/
def Unfz (fz : Nat × Nat) (n : Nat) : Prop := ∀ k, k < n → ¬ (fz.1 ≤ k ∧ k < fz.2)
theorem Unfz_zero (n : Nat) : Unfz (0, 0) n := fun k _ h => by omega
theorem Unfz.mono {fz : Nat × Nat} {n m : Nat} (h : Unfz fz n) (hm : m ≤ n) : Unfz fz m := fun k hk => h k (Nat.lt_of_lt_of_le hk hm)

/-- What the world's block holds where the abstract block is b. -/
def BlkRel (ρ : Nat → Loc) (l : Loc) (w : World) : Blk → Prop
  | .cells e cs => l.o = 0 ∧ ∃ fz, Unfz fz cs.length ∧ w.heap[l.b]? = some (.cells (cs.map (ren ρ)).toArray e fz)
  | .row e sz cs => l.o = 0 ∧ ∃ fz ex, Unfz fz (l.C * sz) ∧ cs.length + ex.length = l.C * sz ∧ w.heap[l.b]? = some (.cells (cs.map (ren ρ) ++ ex).toArray e fz)
  | .ro cs => (cs ≠ [] → l.b < w.heap.size) ∧ ∀ k v, cs[k]? = some v → w.cell? ⟨l.b, l.o + k, none⟩ = some (ren ρ v)
  | .map es clock => l.o = 0 ∧ w.heap[l.b]? = some (.map (es.map (renE ρ)).toArray clock)
  | .miter m since seen stepped => l.o = 0 ∧ w.heap[l.b]? = some (.mapIter (m.map fun i => (ρ i).b) since seen.toArray stepped)
  | .siter s pos => l.o = 0 ∧ w.heap[l.b]? = some (.stringIter s pos)
  | .loop st p fn nt f ps x y => l.o = 0 ∧ ∃ tmps d, tmps.size = nt ∧ (∀ t v, f.get t = some v → tmps[t]? = some (ren ρ v)) ∧ w.heap[l.b]? = some (.loop { state := st, pending := p, fn := fn, tmps := tmps, params := ps, assign := x, body := y, defers := d })
  | .dfr => l.o = 0 ∧ w.heap[l.b]? = some (.deferred (some []))
  | .dead => True

theorem heap_lt {w : World} {k : Nat} {o : Obj} (h : w.heap[k]? = some o) : k < w.heap.size := by
  rcases Nat.lt_or_ge k w.heap.size with h' | h'
  · exact h'
  · rw [Array.getElem?_eq_none h'] at h; cases h

theorem BlkRel.lt {ρ : Nat → Loc} {l : Loc} {w : World} {b : Blk} (h : BlkRel ρ l w b) (hl : b.live = true) : l.b < w.heap.size := by
  cases b with
  | cells e cs => obtain ⟨_, fz, _, h⟩ := h; exact heap_lt h
  | row e sz cs => obtain ⟨_, fz, ex, _, _, h⟩ := h; exact heap_lt h
  | ro cs => cases cs with
    | nil => simp [Blk.live] at hl
    | cons c cs => exact h.1 (by simp)
  | map es c => exact heap_lt h.2
  | miter m a b c => exact heap_lt h.2
  | siter s p => exact heap_lt h.2
  | loop st p fn nt f ps x y => obtain ⟨_, tmps, d, _, _, h⟩ := h; exact heap_lt h
  | dfr => exact heap_lt h.2
  | dead => simp [Blk.live] at hl

theorem cell?_congr {w w' : World} {a : Addr} (h : w'.heap[a.block]? = w.heap[a.block]?) : w'.cell? a = w.cell? a := by
  unfold World.cell?; rw [h]
theorem frozen?_congr {w w' : World} {a : Addr} (h : w'.heap[a.block]? = w.heap[a.block]?) : w'.frozen? a = w.frozen? a := by
  unfold World.frozen?; rw [h]

/-- The block's place reads as it did. -/
theorem BlkRel.same {ρ : Nat → Loc} {l : Loc} {w w' : World} {b : Blk} (h : BlkRel ρ l w b) (hb : b.live = true → w'.heap[l.b]? = w.heap[l.b]?) (hs : w.heap.size ≤ w'.heap.size) : BlkRel ρ l w' b := by
  cases b with
  | cells e cs => obtain ⟨h0, fz, h1, h2⟩ := h; exact ⟨h0, fz, h1, (hb rfl).trans h2⟩
  | row e sz cs => obtain ⟨h0, fz, ex, h1, h2, h3⟩ := h; exact ⟨h0, fz, ex, h1, h2, (hb rfl).trans h3⟩
  | ro cs => cases cs with
    | nil => exact ⟨fun h => absurd rfl h, fun k v hk => by simp at hk⟩
    | cons c cs => exact ⟨fun hc => Nat.lt_of_lt_of_le (h.1 hc) hs, fun k v hk => (cell?_congr (a := ⟨l.b, l.o + k, none⟩) (hb rfl)).trans (h.2 k v hk)⟩
  | map es c => exact ⟨h.1, (hb rfl).trans h.2⟩
  | miter m a b c => exact ⟨h.1, (hb rfl).trans h.2⟩
  | siter s p => exact ⟨h.1, (hb rfl).trans h.2⟩
  | loop st p fn nt f ps x y => obtain ⟨h0, tmps, d, h1, h2, h3⟩ := h; exact ⟨h0, tmps, d, h1, h2, (hb rfl).trans h3⟩
  | dfr => exact ⟨h.1, (hb rfl).trans h.2⟩
  | dead => trivial

theorem renE_congr {n : Nat} {ρ ρ' : Nat → Loc} {e : MapEntry} (h : Sc n e.key ∧ Sc n e.val) (he : ∀ i, i < n → ρ i = ρ' i) : renE ρ e = renE ρ' e := by
  unfold renE; rw [h.1 ρ ρ' he, h.2 ρ ρ' he]

theorem BlkRel.reno {ρ ρ' : Nat → Loc} {l : Loc} {w : World} {b : Blk} {n : Nat} (h : BlkRel ρ l w b) (hs : b.sc n) (he : ∀ i, i < n → ρ i = ρ' i) : BlkRel ρ' l w b := by
  cases b with
  | cells e cs => obtain ⟨h0, fz, h1, h2⟩ := h; exact ⟨h0, fz, h1, by rw [← Scs.map_eq hs he]; exact h2⟩
  | row e sz cs => obtain ⟨h0, fz, ex, h1, h2, h3⟩ := h; exact ⟨h0, fz, ex, h1, h2, by rw [← Scs.map_eq hs he]; exact h3⟩
  | ro cs => exact ⟨h.1, fun k v hk => by rw [← hs v (List.mem_of_getElem? hk) ρ ρ' he]; exact h.2 k v hk⟩
  | map es c => exact ⟨h.1, by rw [h.2, List.map_congr_left fun e he' => renE_congr (hs e he') he]⟩
  | miter m a b c => cases m with
    | none => exact h
    | some m => exact ⟨h.1, by rw [h.2]; simp [he m hs]⟩
  | siter s p => exact h
  | loop st p fn nt f ps x y => obtain ⟨h0, tmps, d, h1, h2, h3⟩ := h; exact ⟨h0, tmps, d, h1, fun t v hv => by rw [← hs t v hv ρ ρ' he]; exact h2 t v hv, h3⟩
  | dfr => exact h
  | dead => trivial

/-- The abstract state σ is what is known of the world w, block i lying at ρ i. -/
structure Rel (ρ : Nat → Loc) (σ : St) (w : World) : Prop where
  blk : ∀ i, BlkRel ρ (ρ i) w (σ.get i)
  sc : ∀ i, (σ.get i).sc σ.next
  lt : ∀ i, (σ.get i).live = true → i < σ.next
  inj : ∀ i j, i ≠ j → (σ.get i).wr = true → (σ.get j).live = true → (ρ i).b ≠ (ρ j).b

/-- A step of both: what was known goes on being so, and of the world's old blocks only those that σ may write have turned. -/
structure Evo (ρ : Nat → Loc) (σ : St) (w : World) (ρ' : Nat → Loc) (σ' : St) (w' : World) : Prop where
  rel : Rel ρ' σ' w'
  ext : ∀ i, i < σ.next → ρ' i = ρ i
  next : σ.next ≤ σ'.next
  size : w.heap.size ≤ w'.heap.size
  os : w'.os = w.os
  tape : w'.tape = w.tape
  output : w'.output = w.output
  own : ∀ i, (σ'.get i).wr = true → (∃ j, (σ.get j).wr = true ∧ (ρ j).b = (ρ' i).b) ∨ w.heap.size ≤ (ρ' i).b
  fra : ∀ b, b < w.heap.size → (∀ i, (σ.get i).wr = true → (ρ i).b ≠ b) → w'.heap[b]? = w.heap[b]?
  liv : ∀ i, (σ'.get i).live = true → (∃ j, (σ.get j).live = true ∧ (ρ j).b = (ρ' i).b) ∨ w.heap.size ≤ (ρ' i).b

theorem Evo.refl {ρ : Nat → Loc} {σ : St} {w : World} (h : Rel ρ σ w) : Evo ρ σ w ρ σ w :=
  ⟨h, fun _ _ => rfl, Nat.le_refl _, Nat.le_refl _, rfl, rfl, rfl, fun i hi => .inl ⟨i, hi, rfl⟩, fun _ _ _ => rfl, fun i hi => .inl ⟨i, hi, rfl⟩⟩

theorem Evo.trans {ρ ρ' ρ'' : Nat → Loc} {σ σ' σ'' : St} {w w' w'' : World} (h : Evo ρ σ w ρ' σ' w') (k : Evo ρ' σ' w' ρ'' σ'' w'') : Evo ρ σ w ρ'' σ'' w'' := by
  refine ⟨k.rel, fun i hi => (k.ext i (Nat.lt_of_lt_of_le hi h.next)).trans (h.ext i hi), Nat.le_trans h.next k.next, Nat.le_trans h.size k.size, k.os.trans h.os, k.tape.trans h.tape, k.output.trans h.output, fun i hi => ?_, fun b hb hi => ?_, fun i hi => ?_⟩
  · rcases k.own i hi with ⟨j, hj, e⟩ | hge
    · rcases h.own j hj with ⟨j', hj', e'⟩ | hge'
      · exact .inl ⟨j', hj', e'.trans e⟩
      · exact .inr (e ▸ hge')
    · exact .inr (Nat.le_trans h.size hge)
  · refine (k.fra b (Nat.lt_of_lt_of_le hb h.size) fun i hi' e => ?_).trans (h.fra b hb hi)
    rcases h.own i hi' with ⟨j, hj, e'⟩ | hge
    · exact hi j hj (e'.trans e)
    · omega
  · rcases k.liv i hi with ⟨j, hj, e⟩ | hge
    · rcases h.liv j hj with ⟨j', hj', e'⟩ | hge'
      · exact .inl ⟨j', hj', e'.trans e⟩
      · exact .inr (e ▸ hge')
    · exact .inr (Nat.le_trans h.size hge)

/-- The same world but for draws. -/
structure Like (w w' : World) : Prop where
  heap : w'.heap = w.heap
  os : w'.os = w.os
  tape : w'.tape = w.tape
  output : w'.output = w.output

theorem Like.refl (w : World) : Like w w := ⟨rfl, rfl, rfl, rfl⟩
theorem Like.drew (w : World) : Like w { w with drawn := w.drawn + 1 } := ⟨rfl, rfl, rfl, rfl⟩

theorem Rel.like {ρ : Nat → Loc} {σ : St} {w w' : World} (h : Rel ρ σ w) (k : Like w w') : Rel ρ σ w' :=
  ⟨fun i => (h.blk i).same (fun _ => by rw [k.heap]) (by rw [k.heap]; exact Nat.le_refl _), h.sc, h.lt, h.inj⟩

theorem Evo.like {ρ : Nat → Loc} {σ : St} {w w' : World} (h : Rel ρ σ w) (k : Like w w') : Evo ρ σ w ρ σ w' :=
  ⟨h.like k, fun _ _ => rfl, Nat.le_refl _, by rw [k.heap]; exact Nat.le_refl _, k.os, k.tape, k.output, fun i hi => .inl ⟨i, hi, rfl⟩, fun b _ _ => by rw [k.heap], fun i hi => .inl ⟨i, hi, rfl⟩⟩

theorem Rel.size {ρ : Nat → Loc} {σ : St} {w : World} (h : Rel ρ σ w) {i : Nat} (hl : (σ.get i).live = true) : (ρ i).b < w.heap.size := (h.blk i).lt hl

def upd (ρ : Nat → Loc) (n : Nat) (l : Loc) : Nat → Loc := fun i => if i = n then l else ρ i
theorem upd_same (ρ : Nat → Loc) (n : Nat) (l : Loc) : upd ρ n l n = l := by simp [upd]
theorem upd_ne (ρ : Nat → Loc) {n i : Nat} (l : Loc) (h : i ≠ n) : upd ρ n l i = ρ i := by simp [upd, h]
theorem upd_lt (ρ : Nat → Loc) {n i : Nat} (l : Loc) (h : i < n) : upd ρ n l i = ρ i := upd_ne ρ l (Nat.ne_of_lt h)

/-- A world that differs from another one in one block at most. -/
structure Only (k : Nat) (w w' : World) : Prop where
  size : w'.heap.size = w.heap.size
  os : w'.os = w.os
  tape : w'.tape = w.tape
  output : w'.output = w.output
  heap : ∀ j, j ≠ k → w'.heap[j]? = w.heap[j]?

/-- A new block. -/
theorem Evo.alloc {ρ : Nat → Loc} {σ : St} {w w' : World} (h : Rel ρ σ w) (o : Obj) (b : Blk) (C : Nat) (hw : Like (w.alloc o) w') (hb : BlkRel (upd ρ σ.next ⟨w.heap.size, 0, C⟩) ⟨w.heap.size, 0, C⟩ (w.alloc o) b) (hs : b.sc (σ.next + 1)) :
    Evo ρ σ w (upd ρ σ.next ⟨w.heap.size, 0, C⟩) (σ.push b) w' := by
  have hheap : ∀ j, j < w.heap.size → w'.heap[j]? = w.heap[j]? := fun j hj => by rw [hw.heap]; exact Go.RowKit.Below.heap_alloc w o j hj
  have hsize : w'.heap.size = w.heap.size + 1 := by rw [hw.heap]; simp
  have hold : ∀ i, i ≠ σ.next → BlkRel (upd ρ σ.next ⟨w.heap.size, 0, C⟩) (upd ρ σ.next ⟨w.heap.size, 0, C⟩ i) w' (σ.get i) := fun i hi => by
    rw [upd_ne _ _ hi]
    exact ((h.blk i).same (w' := w') (fun hl => hheap _ (h.size hl)) (by omega)).reno (h.sc i) (fun j hj => (upd_lt ρ _ hj).symm)
  refine ⟨⟨fun i => ?_, fun i => ?_, fun i hi => ?_, fun i j hij hi hj => ?_⟩, fun i hi => upd_lt ρ _ hi, by simp, by omega, hw.os, hw.tape, hw.output, fun i hi => ?_, fun k hk _ => hheap k hk, fun i hi => ?_⟩
  · rw [St.get_push]
    split
    · rename_i e; subst e
      rw [upd_same]
      exact hb.same (fun _ => by rw [hw.heap]) (by rw [hw.heap]; exact Nat.le_refl _)
    · rename_i e; exact hold i (Ne.symm e)
  · rw [St.get_push]
    split
    · exact hs
    · exact Blk.sc_mono (h.sc i) (by simp)
  · rw [St.get_push] at hi
    split at hi
    · rename_i e; rw [St.next_push]; omega
    · have := h.lt i hi; rw [St.next_push]; omega
  · rw [St.get_push] at hi hj
    split at hi
    · rename_i e; subst e
      rw [if_neg hij] at hj
      rw [upd_same, upd_ne _ _ (Ne.symm hij)]
      have := h.size hj
      simp only; omega
    · rename_i e
      split at hj
      · rename_i e'; subst e'
        rw [upd_same, upd_ne _ _ hij]
        have := h.size (Blk.live_of_wr hi)
        simp only; omega
      · rename_i e'
        rw [upd_ne _ _ (Ne.symm e), upd_ne _ _ (Ne.symm e')]
        exact h.inj i j hij hi hj
  · rw [St.get_push] at hi
    split at hi
    · rename_i e; subst e; rw [upd_same]; exact .inr (Nat.le_refl _)
    · rename_i e; exact .inl ⟨i, hi, by rw [upd_ne _ _ (Ne.symm e)]⟩
  · rw [St.get_push] at hi
    split at hi
    · rename_i e; subst e; rw [upd_same]; exact .inr (Nat.le_refl _)
    · rename_i e; exact .inl ⟨i, hi, by rw [upd_ne _ _ (Ne.symm e)]⟩

/-- One block that may be written is written. -/
theorem Evo.write {ρ : Nat → Loc} {σ : St} {w w' : World} (h : Rel ρ σ w) {i : Nat} {b : Blk} (hi : (σ.get i).wr = true) (hw : Only (ρ i).b w w') (hb : BlkRel ρ (ρ i) w' b) (hs : b.sc σ.next) :
    Evo ρ σ w ρ (σ.set i b) w' := by
  have hin := h.lt i (Blk.live_of_wr hi)
  refine ⟨⟨fun j => ?_, fun j => ?_, fun j hj => ?_, fun j k hjk hj hk => ?_⟩, fun _ _ => rfl, by simp, by rw [hw.size]; exact Nat.le_refl _, hw.os, hw.tape, hw.output, fun j hj => ?_, fun k hk hno => hw.heap k (Ne.symm (hno i hi)), fun j hj => ?_⟩
  · rw [St.get_set]
    split
    · rename_i e; subst e; exact hb
    · rename_i e
      exact (h.blk j).same (fun hl => hw.heap _ (Ne.symm (h.inj i j e hi hl))) (by rw [hw.size]; exact Nat.le_refl _)
  · rw [St.get_set]; split
    · exact hs
    · exact h.sc j
  · rw [St.get_set] at hj; split at hj
    · rename_i e; subst e; exact hin
    · exact h.lt j hj
  · rw [St.get_set] at hj hk
    split at hj
    · rename_i e; subst e; rw [if_neg hjk] at hk; exact h.inj _ _ hjk hi hk
    · rename_i e
      split at hk
      · rename_i e'; subst e'; exact h.inj _ _ hjk hj (Blk.live_of_wr hi)
      · exact h.inj _ _ hjk hj hk
  · rw [St.get_set] at hj
    split at hj
    · rename_i e; subst e; exact .inl ⟨_, hi, rfl⟩
    · exact .inl ⟨j, hj, rfl⟩
  · rw [St.get_set] at hj
    split at hj
    · rename_i e; subst e; exact .inl ⟨_, Blk.live_of_wr hi, rfl⟩
    · exact .inl ⟨j, hj, rfl⟩

/-- A block is not looked at any more. -/
theorem Evo.kill {ρ : Nat → Loc} {σ : St} {w : World} (h : Rel ρ σ w) (i : Nat) : Evo ρ σ w ρ (σ.set i .dead) w := by
  refine ⟨⟨fun j => ?_, fun j => ?_, fun j hj => ?_, fun j k hjk hj hk => ?_⟩, fun _ _ => rfl, by simp, Nat.le_refl _, rfl, rfl, rfl, fun j hj => ?_, fun _ _ _ => rfl, fun j hj => ?_⟩
  · rw [St.get_set]; split
    · trivial
    · exact h.blk j
  · rw [St.get_set]; split
    · trivial
    · exact h.sc j
  · rw [St.get_set] at hj; split at hj
    · simp [Blk.live] at hj
    · exact h.lt j hj
  · rw [St.get_set] at hj hk
    split at hj
    · simp [Blk.wr] at hj
    · split at hk
      · simp [Blk.live] at hk
      · exact h.inj _ _ hjk hj hk
  · rw [St.get_set] at hj
    split at hj
    · simp [Blk.wr] at hj
    · exact .inl ⟨j, hj, rfl⟩
  · rw [St.get_set] at hj
    split at hj
    · simp [Blk.live] at hj
    · exact .inl ⟨j, hj, rfl⟩

/-- A row that is written, and goes by a new number. -/
theorem Evo.move {ρ : Nat → Loc} {σ : St} {w w' : World} (h : Rel ρ σ w) {i : Nat} {b : Blk} (hi : (σ.get i).wr = true) (hw : Only (ρ i).b w w') (hb : BlkRel (upd ρ σ.next (ρ i)) (ρ i) w' b) (hs : b.sc (σ.next + 1)) :
    Evo ρ σ w (upd ρ σ.next (ρ i)) ((σ.set i .dead).push b) w' := by
  have hin := h.lt i (Blk.live_of_wr hi)
  have get' : ∀ j, ((σ.set i .dead).push b).get j = if σ.next = j then b else if i = j then .dead else σ.get j := fun j => by
    rw [St.get_push, St.get_set, St.next_set]
  refine ⟨⟨fun j => ?_, fun j => ?_, fun j hj => ?_, fun j k hjk hj hk => ?_⟩, fun j hj => upd_lt ρ _ hj, by simp, by rw [hw.size]; exact Nat.le_refl _, hw.os, hw.tape, hw.output, fun j hj => ?_, fun k hk hno => hw.heap k (Ne.symm (hno i hi)), fun j hj => ?_⟩
  · rw [get']
    split
    · rename_i e; subst e; rw [upd_same]; exact hb
    · rename_i e
      split
      · trivial
      · rename_i e'
        rw [upd_ne _ _ (Ne.symm e)]
        exact ((h.blk j).same (w' := w') (fun hl => hw.heap _ (Ne.symm (h.inj i j e' hi hl))) (by rw [hw.size]; exact Nat.le_refl _)).reno (h.sc j) (fun k hk => (upd_lt ρ _ hk).symm)
  · rw [get']
    split
    · exact hs
    · split
      · trivial
      · exact Blk.sc_mono (h.sc j) (by simp)
  · rw [get'] at hj
    rw [St.next_push, St.next_set]
    split at hj
    · omega
    · split at hj
      · simp [Blk.live] at hj
      · have := h.lt j hj; omega
  · rw [get'] at hj hk
    split at hj
    · rename_i e; subst e
      rw [if_neg hjk] at hk
      split at hk
      · simp [Blk.live] at hk
      · rename_i e'
        rw [upd_same, upd_ne _ _ (Ne.symm hjk)]
        exact h.inj i k e' hi hk
    · rename_i e
      split at hj
      · simp [Blk.wr] at hj
      · rename_i e'
        split at hk
        · rename_i e2; subst e2
          rw [upd_same, upd_ne _ _ (Ne.symm e)]
          exact h.inj j i (Ne.symm e') hj (Blk.live_of_wr hi)
        · rename_i e2
          split at hk
          · simp [Blk.live] at hk
          · rw [upd_ne _ _ (Ne.symm e), upd_ne _ _ (Ne.symm e2)]
            exact h.inj j k hjk hj hk
  · rw [get'] at hj
    split at hj
    · rename_i e; subst e; rw [upd_same]; exact .inl ⟨i, hi, rfl⟩
    · rename_i e
      split at hj
      · simp [Blk.wr] at hj
      · exact .inl ⟨j, hj, by rw [upd_ne _ _ (Ne.symm e)]⟩
  · rw [get'] at hj
    split at hj
    · rename_i e; subst e; rw [upd_same]; exact .inl ⟨i, Blk.live_of_wr hi, rfl⟩
    · rename_i e
      split at hj
      · simp [Blk.live] at hj
      · exact .inl ⟨j, hj, by rw [upd_ne _ _ (Ne.symm e)]⟩

/-! ### Cells of a block, in the world -/

theorem BlkRel.cells_cell {ρ : Nat → Loc} {l : Loc} {w : World} {e : TypeId} {cs : List Value} (h : BlkRel ρ l w (.cells e cs)) (k : Nat) : w.cell? ⟨l.b, l.o + k, none⟩ = (cs[k]?).map (ren ρ) := by
  obtain ⟨h0, fz, _, h1⟩ := h
  simp [World.cell?, h1, h0]

theorem BlkRel.row_cell {ρ : Nat → Loc} {l : Loc} {w : World} {e : TypeId} {sz : Nat} {cs : List Value} (h : BlkRel ρ l w (.row e sz cs)) {k : Nat} {v : Value} (hk : cs[k]? = some v) : w.cell? ⟨l.b, l.o + k, none⟩ = some (ren ρ v) := by
  obtain ⟨h0, fz, ex, _, _, h1⟩ := h
  simp only [World.cell?, h1, h0, Nat.zero_add]
  have : k < cs.length := by
    rcases Nat.lt_or_ge k cs.length with h' | h'
    · exact h'
    · rw [List.getElem?_eq_none h'] at hk; cases hk
  simp [List.getElem?_append_left (l₁ := cs.map (ren ρ)) (by simpa using this), hk]

/-- The cells that are known of a block. -/
def Blk.known : Blk → Option (List Value)
  | .cells _ cs | .row _ _ cs | .ro cs => some cs
  | _ => none

theorem BlkRel.cell {ρ : Nat → Loc} {l : Loc} {w : World} {b : Blk} {cs : List Value} (h : BlkRel ρ l w b) (hb : b.known = some cs) {k : Nat} {v : Value} (hk : cs[k]? = some v) : w.cell? ⟨l.b, l.o + k, none⟩ = some (ren ρ v) := by
  cases b <;> simp only [Blk.known, Option.some.injEq, reduceCtorEq] at hb
  · subst hb; rw [h.cells_cell, hk]; rfl
  · subst hb; exact h.row_cell hk
  · subst hb; exact h.2 k v hk

end
end AH
