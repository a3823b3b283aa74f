/-
  The AH texts Ah1 to Ah9, joined.
-/
import Derived.WalkKit
import Derived.OrdersHeld
import Derived.Laws.StructEq
section
/-
  AH 1: an abstract heap whose blocks are numbered afresh, and its relation to the model's world.
  Nothing here names a program.
-/
set_option linter.unusedSimpArgs false
set_option linter.unusedVariables false
namespace AH
open Go
noncomputable section

/-! ### A trie with natural numbers as keys -/

inductive Tr (α : Type) where
  | leaf
  | node (l : Tr α) (v : Option α) (r : Tr α)

namespace Tr
variable {α : Type}

/-- By the recursor itself: the kernel reckons it quickly. -/
noncomputable def get (t : Tr α) : Nat → Option α :=
  Tr.rec (motive := fun _ => Nat → Option α) (fun _ => none) (fun _ v _ gl gr k => Bool.rec (Bool.rec (gr (k / 2 - 1)) (gl (k / 2)) (Nat.beq (k % 2) 1)) v (Nat.beq k 0)) t

noncomputable def setLeaf (v : α) (n : Nat) : Nat → Tr α :=
  Nat.rec (motive := fun _ => Nat → Tr α) (fun _ => .leaf) (fun _ ih k => Bool.rec (Bool.rec (.node .leaf none (ih (k / 2 - 1))) (.node (ih (k / 2)) none .leaf) (Nat.beq (k % 2) 1)) (.node .leaf (some v) .leaf) (Nat.beq k 0)) n

noncomputable def setGo (v : α) (t : Tr α) : Nat → Tr α :=
  Tr.rec (motive := fun _ => Nat → Tr α) (fun k => setLeaf v (k + 1) k) (fun l o r sl sr k => Bool.rec (Bool.rec (.node l o (sr (k / 2 - 1))) (.node (sl (k / 2)) o r) (Nat.beq (k % 2) 1)) (.node l (some v) r) (Nat.beq k 0)) t

noncomputable def set (t : Tr α) (k : Nat) (v : α) : Tr α := setGo v t k

theorem beq0 (m : Nat) : Nat.beq m 0 = decide (m = 0) := by cases m <;> rfl
theorem beq1 (m : Nat) : Nat.beq (m % 2) 1 = decide (m % 2 = 1) := by rcases Nat.mod_two_eq_zero_or_one m with h | h <;> rw [h] <;> rfl
theorem recB {β : Type} (b : Bool) (x y : β) : (Bool.rec (motive := fun _ => β) y x b) = if b = true then x else y := by cases b <;> rfl

theorem get_leaf (j : Nat) : (Tr.leaf : Tr α).get j = none := rfl
theorem get_node (l r : Tr α) (v : Option α) (k : Nat) : (Tr.node l v r).get k = if k = 0 then v else if k % 2 = 1 then l.get (k / 2) else r.get (k / 2 - 1) := by
  show Bool.rec (motive := fun _ => Option α) (Bool.rec (motive := fun _ => Option α) (r.get (k / 2 - 1)) (l.get (k / 2)) (Nat.beq (k % 2) 1)) v (Nat.beq k 0) = _
  rw [beq0, beq1, recB, recB]
  simp only [decide_eq_true_eq]
theorem setLeaf_succ (v : α) (n k : Nat) : setLeaf v (n + 1) k = if k = 0 then .node .leaf (some v) .leaf else if k % 2 = 1 then .node (setLeaf v n (k / 2)) none .leaf else .node .leaf none (setLeaf v n (k / 2 - 1)) := by
  show Bool.rec (motive := fun _ => Tr α) (Bool.rec (motive := fun _ => Tr α) (.node .leaf none (setLeaf v n (k / 2 - 1))) (.node (setLeaf v n (k / 2)) none .leaf) (Nat.beq (k % 2) 1)) (.node .leaf (some v) .leaf) (Nat.beq k 0) = _
  rw [beq0, beq1, recB, recB]
  simp only [decide_eq_true_eq]
theorem set_leaf (v : α) (k : Nat) : (Tr.leaf : Tr α).set k v = setLeaf v (k + 1) k := rfl
theorem set_node (l r : Tr α) (o : Option α) (v : α) (k : Nat) : (Tr.node l o r).set k v = if k = 0 then .node l (some v) r else if k % 2 = 1 then .node (l.set (k / 2) v) o r else .node l o (r.set (k / 2 - 1) v) := by
  show Bool.rec (motive := fun _ => Tr α) (Bool.rec (motive := fun _ => Tr α) (.node l o (r.set (k / 2 - 1) v)) (.node (l.set (k / 2) v) o r) (Nat.beq (k % 2) 1)) (.node l (some v) r) (Nat.beq k 0) = _
  rw [beq0, beq1, recB, recB]
  simp only [decide_eq_true_eq]

theorem get_setLeaf (v : α) : ∀ (n k j : Nat), k < n → (setLeaf v n k).get j = if k = j then some v else none
  | 0, k, j, h => by omega
  | n + 1, k, j, h => by
    rw [setLeaf_succ]
    by_cases hk : k = 0
    · subst hk
      rw [if_pos rfl, get_node]
      by_cases hj : j = 0
      · subst hj; simp
      · rw [if_neg hj, get_leaf, get_leaf, if_neg (fun e : 0 = j => hj e.symm)]; simp
    · rw [if_neg hk]
      by_cases h1 : k % 2 = 1
      · rw [if_pos h1, get_node]
        by_cases hj : j = 0
        · rw [if_pos hj, if_neg (by omega)]
        · rw [if_neg hj]
          by_cases hj1 : j % 2 = 1
          · rw [if_pos hj1, get_setLeaf v n _ _ (by omega)]
            by_cases e : k = j
            · subst e; simp
            · rw [if_neg e, if_neg (by omega)]
          · rw [if_neg hj1, if_neg (by omega)]; rfl
      · rw [if_neg h1, get_node]
        by_cases hj : j = 0
        · rw [if_pos hj, if_neg (by omega)]
        · rw [if_neg hj]
          by_cases hj1 : j % 2 = 1
          · rw [if_pos hj1, if_neg (by omega)]; rfl
          · rw [if_neg hj1, get_setLeaf v n _ _ (by omega)]
            by_cases e : k = j
            · subst e; simp
            · rw [if_neg e, if_neg (by omega)]

theorem get_set (t : Tr α) (k j : Nat) (v : α) : (t.set k v).get j = if k = j then some v else t.get j := by
  induction t generalizing k j with
  | leaf => rw [set_leaf, get_setLeaf v _ _ _ (Nat.lt_succ_self k)]; rfl
  | node l o r ihl ihr =>
    rw [set_node]
    by_cases hk : k = 0
    · subst hk
      rw [if_pos rfl, get_node, get_node]
      by_cases hj : j = 0
      · subst hj; simp
      · rw [if_neg hj, if_neg hj, if_neg (fun e : 0 = j => hj e.symm)]
    · rw [if_neg hk]
      by_cases h1 : k % 2 = 1
      · rw [if_pos h1, get_node, get_node]
        by_cases hj : j = 0
        · rw [if_pos hj, if_neg (by omega), if_pos hj]
        · rw [if_neg hj, if_neg hj]
          by_cases hj1 : j % 2 = 1
          · rw [if_pos hj1, if_pos hj1, ihl]
            by_cases e : k = j
            · subst e; simp
            · rw [if_neg e, if_neg (by omega)]
          · rw [if_neg hj1, if_neg hj1, if_neg (by omega)]
      · rw [if_neg h1, get_node, get_node]
        by_cases hj : j = 0
        · rw [if_pos hj, if_neg (by omega), if_pos hj]
        · rw [if_neg hj, if_neg hj]
          by_cases hj1 : j % 2 = 1
          · rw [if_pos hj1, if_pos hj1, if_neg (by omega)]
          · rw [if_neg hj1, if_neg hj1, ihr]
            by_cases e : k = j
            · subst e; simp
            · rw [if_neg e, if_neg (by omega)]

theorem get_set_same (t : Tr α) (k : Nat) (v : α) : (t.set k v).get k = some v := by rw [get_set, if_pos rfl]
theorem get_set_ne (t : Tr α) {k j : Nat} (v : α) (h : k ≠ j) : (t.set k v).get j = t.get j := by rw [get_set, if_neg h]
end Tr

/-! ### Values, renumbered -/

/-- Where an abstract block lies: the world's block, from which cell on, and (of a row that grows) how many elements it bears. -/
structure Loc where
  b : Nat
  o : Nat
  C : Nat

/-- From here on a capacity is unknown: 'unk - lo' stands for the row's capacity less lo. -/
def unk : Nat := 9223372036854775808
def half : Nat := 4611686018427387904

def renC (C c : Nat) : Nat := if c < half then c else C - (unk - c)

def renA (ρ : Nat → Loc) (a : Addr) : Addr := { block := (ρ a.block).b, off := (ρ a.block).o + a.off, spot := a.spot }

/-- The yield of a loop names the loop's block. -/
def renFn (ρ : Nat → Loc) : Fn → Fn
  | .yield i => .yield (ρ i).b
  | f => f
def scFn (n : Nat) : Fn → Prop
  | .yield i => i < n
  | _ => True

def ren (ρ : Nat → Loc) : Value → Value
  | .pointer (some a) => .pointer (some (renA ρ a))
  | .slice (some a) n c => .slice (some (renA ρ a)) n (renC (ρ a.block).C c)
  | .map (some r) => .map (some (ρ r).b)
  | .func fn first captured => .func (renFn ρ fn) (first.map (ren ρ)) (captured.map (ren ρ))
  | .iface t v => .iface t (ren ρ v)
  | .agg cs => .agg (cs.map (ren ρ))
  | .tuple vs => .tuple (vs.map (ren ρ))
  | v => v

section
variable (ρ : Nat → Loc)
@[simp] theorem ren_bool (b : Bool) : ren ρ (.bool b) = .bool b := by simp [ren]
@[simp] theorem ren_int (k : IntKind) (n : Int) : ren ρ (.int k n) = .int k n := by simp [ren]
@[simp] theorem ren_string (s : ByteArray) : ren ρ (.string s) = .string s := by simp [ren]
@[simp] theorem ren_nilptr : ren ρ (.pointer none) = .pointer none := by simp [ren]
@[simp] theorem ren_ptr (a : Addr) : ren ρ (.pointer (some a)) = .pointer (some (renA ρ a)) := by simp [ren]
@[simp] theorem ren_nilslice (n c : Nat) : ren ρ (.slice none n c) = .slice none n c := by simp [ren]
@[simp] theorem ren_slice (a : Addr) (n c : Nat) : ren ρ (.slice (some a) n c) = .slice (some (renA ρ a)) n (renC (ρ a.block).C c) := by simp [ren]
@[simp] theorem ren_nilmap : ren ρ (.map none) = .map none := by simp [ren]
@[simp] theorem ren_map (r : Nat) : ren ρ (.map (some r)) = .map (some (ρ r).b) := by simp [ren]
@[simp] theorem ren_func (fn : Fn) (x y : Array Value) : ren ρ (.func fn x y) = .func (renFn ρ fn) (x.map (ren ρ)) (y.map (ren ρ)) := by simp [ren]
@[simp] theorem renFn_func (g : FuncId) : renFn ρ (.func g) = .func g := rfl
@[simp] theorem renFn_yield (i : Nat) : renFn ρ (.yield i) = .yield (ρ i).b := rfl
@[simp] theorem ren_nilFunc : ren ρ .nilFunc = .nilFunc := by simp [ren]
@[simp] theorem ren_iface (t : TypeId) (v : Value) : ren ρ (.iface t v) = .iface t (ren ρ v) := by simp [ren]
@[simp] theorem ren_nilIface : ren ρ .nilIface = .nilIface := by simp [ren]
@[simp] theorem ren_agg (cs : Array Value) : ren ρ (.agg cs) = .agg (cs.map (ren ρ)) := by simp [ren]
@[simp] theorem ren_tuple (cs : Array Value) : ren ρ (.tuple cs) = .tuple (cs.map (ren ρ)) := by simp [ren]
@[simp] theorem ren_float (k : FloatKind) (b : Nat) : ren ρ (.float k b) = .float k b := by simp [ren]
@[simp] theorem ren_complex (k : FloatKind) (b c : Nat) : ren ρ (.complex k b c) = .complex k b c := by simp [ren]
@[simp] theorem ren_chan (r : Option Nat) : ren ρ (.chan r) = .chan r := by simp [ren]
@[simp] theorem ren_undef : ren ρ undef = undef := by simp [undef]
end

/-- A value that names blocks below n alone. -/
def Sc (n : Nat) (v : Value) : Prop := ∀ ρ ρ' : Nat → Loc, (∀ i, i < n → ρ i = ρ' i) → ren ρ v = ren ρ' v

def Scs (n : Nat) (l : List Value) : Prop := ∀ v ∈ l, Sc n v

theorem Sc.mono {n m : Nat} {v : Value} (h : Sc n v) (hm : n ≤ m) : Sc m v := fun ρ ρ' he => h ρ ρ' fun i hi => he i (Nat.lt_of_lt_of_le hi hm)
theorem Scs.mono {n m : Nat} {l : List Value} (h : Scs n l) (hm : n ≤ m) : Scs m l := fun v hv => (h v hv).mono hm
theorem Scs.map_eq {n : Nat} {l : List Value} (h : Scs n l) {ρ ρ' : Nat → Loc} (he : ∀ i, i < n → ρ i = ρ' i) : l.map (ren ρ) = l.map (ren ρ') :=
  List.map_congr_left fun v hv => h v hv ρ ρ' he

@[simp] theorem Sc_bool (n : Nat) (b : Bool) : Sc n (.bool b) := fun _ _ _ => by simp
@[simp] theorem Sc_int (n : Nat) (k : IntKind) (z : Int) : Sc n (.int k z) := fun _ _ _ => by simp
@[simp] theorem Sc_string (n : Nat) (s : ByteArray) : Sc n (.string s) := fun _ _ _ => by simp
@[simp] theorem Sc_nilptr (n : Nat) : Sc n (.pointer none) := fun _ _ _ => by simp
@[simp] theorem Sc_nilslice (n a b : Nat) : Sc n (.slice none a b) := fun _ _ _ => by simp
@[simp] theorem Sc_nilmap (n : Nat) : Sc n (.map none) := fun _ _ _ => by simp
@[simp] theorem Sc_nilFunc (n : Nat) : Sc n .nilFunc := fun _ _ _ => by simp
@[simp] theorem Sc_nilIface (n : Nat) : Sc n .nilIface := fun _ _ _ => by simp
@[simp] theorem Sc_undef (n : Nat) : Sc n undef := fun _ _ _ => by simp
theorem Sc_ptr {n : Nat} {a : Addr} (h : a.block < n) : Sc n (.pointer (some a)) := fun ρ ρ' he => by simp [renA, he _ h]
theorem Sc_slice {n : Nat} {a : Addr} {l c : Nat} (h : a.block < n) : Sc n (.slice (some a) l c) := fun ρ ρ' he => by simp [renA, he _ h]
theorem Sc_map {n r : Nat} (h : r < n) : Sc n (.map (some r)) := fun ρ ρ' he => by simp [he _ h]
theorem Sc_ptr_lt {n : Nat} {a : Addr} (h : Sc n (.pointer (some a))) : a.block < n := by
  rcases Nat.lt_or_ge a.block n with h' | h'
  · exact h'
  · have := h (fun i => ⟨0, 0, 0⟩) (fun i => if i < n then ⟨0, 0, 0⟩ else ⟨1, 0, 0⟩) (fun i hi => by simp [hi])
    simp [renA, Nat.not_lt.2 h'] at this
theorem Sc_slice_lt {n : Nat} {a : Addr} {l c : Nat} (h : Sc n (.slice (some a) l c)) : a.block < n := by
  rcases Nat.lt_or_ge a.block n with h' | h'
  · exact h'
  · have := h (fun i => ⟨0, 0, 0⟩) (fun i => if i < n then ⟨0, 0, 0⟩ else ⟨1, 0, 0⟩) (fun i hi => by simp [hi])
    simp [renA, Nat.not_lt.2 h'] at this
theorem Sc_map_lt {n r : Nat} (h : Sc n (.map (some r))) : r < n := by
  rcases Nat.lt_or_ge r n with h' | h'
  · exact h'
  · have := h (fun i => ⟨0, 0, 0⟩) (fun i => if i < n then ⟨0, 0, 0⟩ else ⟨1, 0, 0⟩) (fun i hi => by simp [hi])
    simp [Nat.not_lt.2 h'] at this
theorem Scs_arr {n : Nat} {cs : Array Value} {f : Array Value → Value} (hf : ∀ ρ, ren ρ (f cs) = f (cs.map (ren ρ))) (hi : ∀ x y, f x = f y → x = y) : Sc n (f cs) ↔ Scs n cs.toList := by
  constructor
  · intro h v hv ρ ρ' he
    have h1 := h ρ ρ' he
    rw [hf, hf] at h1
    have h2 := congrArg Array.toList (hi _ _ h1)
    simp only [Array.toList_map] at h2
    exact List.map_inj_left.1 h2 v hv
  · intro h ρ ρ' he
    rw [hf, hf]
    congr 1
    apply Array.ext'
    simp only [Array.toList_map]
    exact h.map_eq he
theorem Sc_agg {n : Nat} {cs : Array Value} : Sc n (.agg cs) ↔ Scs n cs.toList := Scs_arr (f := .agg) (fun ρ => by simp) (fun _ _ h => by cases h; rfl)
theorem Sc_tuple {n : Nat} {cs : Array Value} : Sc n (.tuple cs) ↔ Scs n cs.toList := Scs_arr (f := .tuple) (fun ρ => by simp) (fun _ _ h => by cases h; rfl)
theorem Sc_iface {n : Nat} {t : TypeId} {v : Value} : Sc n (.iface t v) ↔ Sc n v :=
  ⟨fun h ρ ρ' he => by have := h ρ ρ' he; simpa using this, fun h ρ ρ' he => by simp [h ρ ρ' he]⟩
theorem scFn_iff {n : Nat} {fn : Fn} : scFn n fn ↔ ∀ ρ ρ' : Nat → Loc, (∀ i, i < n → ρ i = ρ' i) → renFn ρ fn = renFn ρ' fn := by
  cases fn with
  | yield i =>
    refine ⟨fun h ρ ρ' he => by simp [he i h], fun h => ?_⟩
    rcases Nat.lt_or_ge i n with h' | h'
    · exact h'
    · have := h (fun i => ⟨0, 0, 0⟩) (fun i => if i < n then ⟨0, 0, 0⟩ else ⟨1, 0, 0⟩) (fun i hi => by simp [hi])
      simp [Nat.not_lt.2 h'] at this
  | _ => exact ⟨fun _ _ _ _ => rfl, fun _ => trivial⟩
theorem Sc_func {n : Nat} {fn : Fn} {x y : Array Value} : Sc n (.func fn x y) ↔ scFn n fn ∧ Scs n x.toList ∧ Scs n y.toList := by
  constructor
  · intro h
    refine ⟨scFn_iff.2 fun ρ ρ' he => ?_, fun v hv ρ ρ' he => ?_, fun v hv ρ ρ' he => ?_⟩
    · have h1 := h ρ ρ' he
      simp only [ren_func, Value.func.injEq] at h1
      exact h1.1
    · have h1 := h ρ ρ' he
      simp only [ren_func, Value.func.injEq] at h1
      have h2 := congrArg Array.toList h1.2.1
      simp only [Array.toList_map] at h2
      exact List.map_inj_left.1 h2 v hv
    · have h1 := h ρ ρ' he
      simp only [ren_func, Value.func.injEq] at h1
      have h2 := congrArg Array.toList h1.2.2
      simp only [Array.toList_map] at h2
      exact List.map_inj_left.1 h2 v hv
  · rintro ⟨h0, h1, h2⟩ ρ ρ' he
    simp only [ren_func, Value.func.injEq]
    exact ⟨scFn_iff.1 h0 ρ ρ' he, Array.ext' (by simpa using h1.map_eq he), Array.ext' (by simpa using h2.map_eq he)⟩

end
end AH
end

section
/-
  AH 2: the abstract state, its relation to a world, and how both evolve together.
-/
set_option linter.unusedSimpArgs false
set_option linter.unusedVariables false
namespace AH
open Go
noncomputable section

/-- An abstract block: cells that are all there is; a row that may have spare cells behind; cells that are only read; a map; iterators; nothing that is known of. -/
inductive Blk where
  | cells (e : TypeId) (cs : List Value)
  | row (e : TypeId) (sz : Nat) (cs : List Value)
  | ro (cs : List Value)
  | map (es : List MapEntry) (clock : Nat)
  | miter (m : Option Nat) (since : Nat) (seen : List Nat) (stepped : Nat)
  | siter (s : ByteArray) (pos : Nat)
  | loop (st : LoopState) (pending : Option Code) (fn : FuncId) (nt : Nat) (f : Tr Value) (ps : Array Tmp) (assign body : Code)
  | dfr
  | dead

structure St where
  next : Nat
  mem : Tr Blk

namespace St
def get (σ : St) (i : Nat) : Blk := match σ.mem.get i with | some b => b | none => .dead
def set (σ : St) (i : Nat) (b : Blk) : St := ⟨σ.next, σ.mem.set i b⟩
def push (σ : St) (b : Blk) : St := ⟨σ.next + 1, σ.mem.set σ.next b⟩
def empty : St := ⟨0, .leaf⟩
theorem get_set (σ : St) (i j : Nat) (b : Blk) : (σ.set i b).get j = if i = j then b else σ.get j := by
  simp only [get, set, Tr.get_set]; by_cases h : i = j <;> simp [h]
theorem get_set_same (σ : St) (i : Nat) (b : Blk) : (σ.set i b).get i = b := by rw [get_set, if_pos rfl]
theorem get_set_ne (σ : St) {i j : Nat} (b : Blk) (h : i ≠ j) : (σ.set i b).get j = σ.get j := by rw [get_set, if_neg h]
theorem get_push (σ : St) (j : Nat) (b : Blk) : (σ.push b).get j = if σ.next = j then b else σ.get j := by
  simp only [get, push, Tr.get_set]; by_cases h : σ.next = j <;> simp [h]
@[simp] theorem next_set (σ : St) (i : Nat) (b : Blk) : (σ.set i b).next = σ.next := rfl
@[simp] theorem next_push (σ : St) (b : Blk) : (σ.push b).next = σ.next + 1 := rfl
theorem get_empty (j : Nat) : empty.get j = .dead := rfl
end St

def Blk.wr : Blk → Bool
  | .ro _ | .dead => false
  | _ => true
def Blk.live : Blk → Bool
  | .ro [] | .dead => false
  | _ => true

theorem Blk.live_of_wr {b : Blk} (h : b.wr = true) : b.live = true := by cases b <;> simp_all [wr, live]

def Blk.sc (n : Nat) : Blk → Prop
  | .cells _ cs | .row _ _ cs | .ro cs => Scs n cs
  | .map es _ => ∀ e ∈ es, Sc n e.key ∧ Sc n e.val
  | .miter (some m) _ _ _ => m < n
  | .loop _ _ _ _ f _ _ _ => ∀ t v, f.get t = some v → Sc n v
  | _ => True

theorem Blk.sc_mono {n m : Nat} {b : Blk} (h : b.sc n) (hm : n ≤ m) : b.sc m := by
  cases b with
  | cells e cs => exact Scs.mono h hm
  | row e sz cs => exact Scs.mono h hm
  | ro cs => exact Scs.mono h hm
  | map es c => exact fun e he => ⟨(h e he).1.mono hm, (h e he).2.mono hm⟩
  | miter m a b c => cases m with
    | none => trivial
    | some m => exact Nat.lt_of_lt_of_le h hm
  | siter s p => trivial
  | loop st p fn nt f ps x y => exact fun t v hv => (h t v hv).mono hm
  | dfr => trivial
  | dead => trivial

def renE (ρ : Nat → Loc) (e : MapEntry) : MapEntry := { e with key := ren ρ e.key, val := ren ρ e.val }

/-- No cell below n is frozen. -/
def Unfz (fz : Nat × Nat) (n : Nat) : Prop := ∀ k, k < n → ¬ (fz.1 ≤ k ∧ k < fz.2)
theorem Unfz_zero (n : Nat) : Unfz (0, 0) n := fun k _ h => by omega
theorem Unfz.mono {fz : Nat × Nat} {n m : Nat} (h : Unfz fz n) (hm : m ≤ n) : Unfz fz m := fun k hk => h k (Nat.lt_of_lt_of_le hk hm)

/-- What the world's block holds where the abstract block is b. -/
def BlkRel (ρ : Nat → Loc) (l : Loc) (w : World) : Blk → Prop
  | .cells e cs => l.o = 0 ∧ ∃ fz, Unfz fz cs.length ∧ w.heap[l.b]? = some (.cells (cs.map (ren ρ)).toArray e fz)
  | .row e sz cs => l.o = 0 ∧ ∃ fz ex, Unfz fz (l.C * sz) ∧ cs.length + ex.length = l.C * sz ∧ w.heap[l.b]? = some (.cells (cs.map (ren ρ) ++ ex).toArray e fz)
  | .ro cs => (cs ≠ [] → l.b < w.heap.size) ∧ ∀ k v, cs[k]? = some v → w.cell? ⟨l.b, l.o + k, none⟩ = some (ren ρ v)
  | .map es clock => l.o = 0 ∧ w.heap[l.b]? = some (.map (es.map (renE ρ)).toArray clock)
  | .miter m since seen stepped => l.o = 0 ∧ w.heap[l.b]? = some (.mapIter (m.map fun i => (ρ i).b) since seen.toArray stepped)
  | .siter s pos => l.o = 0 ∧ w.heap[l.b]? = some (.stringIter s pos)
  | .loop st p fn nt f ps x y => l.o = 0 ∧ ∃ tmps d, tmps.size = nt ∧ (∀ t v, f.get t = some v → tmps[t]? = some (ren ρ v)) ∧ w.heap[l.b]? = some (.loop { state := st, pending := p, fn := fn, tmps := tmps, params := ps, assign := x, body := y, defers := d })
  | .dfr => l.o = 0 ∧ w.heap[l.b]? = some (.deferred (some []))
  | .dead => True

theorem heap_lt {w : World} {k : Nat} {o : Obj} (h : w.heap[k]? = some o) : k < w.heap.size := by
  rcases Nat.lt_or_ge k w.heap.size with h' | h'
  · exact h'
  · rw [Array.getElem?_eq_none h'] at h; cases h

theorem BlkRel.lt {ρ : Nat → Loc} {l : Loc} {w : World} {b : Blk} (h : BlkRel ρ l w b) (hl : b.live = true) : l.b < w.heap.size := by
  cases b with
  | cells e cs => obtain ⟨_, fz, _, h⟩ := h; exact heap_lt h
  | row e sz cs => obtain ⟨_, fz, ex, _, _, h⟩ := h; exact heap_lt h
  | ro cs => cases cs with
    | nil => simp [Blk.live] at hl
    | cons c cs => exact h.1 (by simp)
  | map es c => exact heap_lt h.2
  | miter m a b c => exact heap_lt h.2
  | siter s p => exact heap_lt h.2
  | loop st p fn nt f ps x y => obtain ⟨_, tmps, d, _, _, h⟩ := h; exact heap_lt h
  | dfr => exact heap_lt h.2
  | dead => simp [Blk.live] at hl

theorem cell?_congr {w w' : World} {a : Addr} (h : w'.heap[a.block]? = w.heap[a.block]?) : w'.cell? a = w.cell? a := by
  unfold World.cell?; rw [h]
theorem frozen?_congr {w w' : World} {a : Addr} (h : w'.heap[a.block]? = w.heap[a.block]?) : w'.frozen? a = w.frozen? a := by
  unfold World.frozen?; rw [h]

/-- The block's place reads as it did. -/
theorem BlkRel.same {ρ : Nat → Loc} {l : Loc} {w w' : World} {b : Blk} (h : BlkRel ρ l w b) (hb : b.live = true → w'.heap[l.b]? = w.heap[l.b]?) (hs : w.heap.size ≤ w'.heap.size) : BlkRel ρ l w' b := by
  cases b with
  | cells e cs => obtain ⟨h0, fz, h1, h2⟩ := h; exact ⟨h0, fz, h1, (hb rfl).trans h2⟩
  | row e sz cs => obtain ⟨h0, fz, ex, h1, h2, h3⟩ := h; exact ⟨h0, fz, ex, h1, h2, (hb rfl).trans h3⟩
  | ro cs => cases cs with
    | nil => exact ⟨fun h => absurd rfl h, fun k v hk => by simp at hk⟩
    | cons c cs => exact ⟨fun hc => Nat.lt_of_lt_of_le (h.1 hc) hs, fun k v hk => (cell?_congr (a := ⟨l.b, l.o + k, none⟩) (hb rfl)).trans (h.2 k v hk)⟩
  | map es c => exact ⟨h.1, (hb rfl).trans h.2⟩
  | miter m a b c => exact ⟨h.1, (hb rfl).trans h.2⟩
  | siter s p => exact ⟨h.1, (hb rfl).trans h.2⟩
  | loop st p fn nt f ps x y => obtain ⟨h0, tmps, d, h1, h2, h3⟩ := h; exact ⟨h0, tmps, d, h1, h2, (hb rfl).trans h3⟩
  | dfr => exact ⟨h.1, (hb rfl).trans h.2⟩
  | dead => trivial

theorem renE_congr {n : Nat} {ρ ρ' : Nat → Loc} {e : MapEntry} (h : Sc n e.key ∧ Sc n e.val) (he : ∀ i, i < n → ρ i = ρ' i) : renE ρ e = renE ρ' e := by
  unfold renE; rw [h.1 ρ ρ' he, h.2 ρ ρ' he]

theorem BlkRel.reno {ρ ρ' : Nat → Loc} {l : Loc} {w : World} {b : Blk} {n : Nat} (h : BlkRel ρ l w b) (hs : b.sc n) (he : ∀ i, i < n → ρ i = ρ' i) : BlkRel ρ' l w b := by
  cases b with
  | cells e cs => obtain ⟨h0, fz, h1, h2⟩ := h; exact ⟨h0, fz, h1, by rw [← Scs.map_eq hs he]; exact h2⟩
  | row e sz cs => obtain ⟨h0, fz, ex, h1, h2, h3⟩ := h; exact ⟨h0, fz, ex, h1, h2, by rw [← Scs.map_eq hs he]; exact h3⟩
  | ro cs => exact ⟨h.1, fun k v hk => by rw [← hs v (List.mem_of_getElem? hk) ρ ρ' he]; exact h.2 k v hk⟩
  | map es c => exact ⟨h.1, by rw [h.2, List.map_congr_left fun e he' => renE_congr (hs e he') he]⟩
  | miter m a b c => cases m with
    | none => exact h
    | some m => exact ⟨h.1, by rw [h.2]; simp [he m hs]⟩
  | siter s p => exact h
  | loop st p fn nt f ps x y => obtain ⟨h0, tmps, d, h1, h2, h3⟩ := h; exact ⟨h0, tmps, d, h1, fun t v hv => by rw [← hs t v hv ρ ρ' he]; exact h2 t v hv, h3⟩
  | dfr => exact h
  | dead => trivial

/-- The abstract state σ is what is known of the world w, block i lying at ρ i. -/
structure Rel (ρ : Nat → Loc) (σ : St) (w : World) : Prop where
  blk : ∀ i, BlkRel ρ (ρ i) w (σ.get i)
  sc : ∀ i, (σ.get i).sc σ.next
  lt : ∀ i, (σ.get i).live = true → i < σ.next
  inj : ∀ i j, i ≠ j → (σ.get i).wr = true → (σ.get j).live = true → (ρ i).b ≠ (ρ j).b

/-- A step of both: what was known goes on being so, and of the world's old blocks only those that σ may write have turned. -/
structure Evo (ρ : Nat → Loc) (σ : St) (w : World) (ρ' : Nat → Loc) (σ' : St) (w' : World) : Prop where
  rel : Rel ρ' σ' w'
  ext : ∀ i, i < σ.next → ρ' i = ρ i
  next : σ.next ≤ σ'.next
  size : w.heap.size ≤ w'.heap.size
  os : w'.os = w.os
  tape : w'.tape = w.tape
  output : w'.output = w.output
  own : ∀ i, (σ'.get i).wr = true → (∃ j, (σ.get j).wr = true ∧ (ρ j).b = (ρ' i).b) ∨ w.heap.size ≤ (ρ' i).b
  fra : ∀ b, b < w.heap.size → (∀ i, (σ.get i).wr = true → (ρ i).b ≠ b) → w'.heap[b]? = w.heap[b]?
  liv : ∀ i, (σ'.get i).live = true → (∃ j, (σ.get j).live = true ∧ (ρ j).b = (ρ' i).b) ∨ w.heap.size ≤ (ρ' i).b

theorem Evo.refl {ρ : Nat → Loc} {σ : St} {w : World} (h : Rel ρ σ w) : Evo ρ σ w ρ σ w :=
  ⟨h, fun _ _ => rfl, Nat.le_refl _, Nat.le_refl _, rfl, rfl, rfl, fun i hi => .inl ⟨i, hi, rfl⟩, fun _ _ _ => rfl, fun i hi => .inl ⟨i, hi, rfl⟩⟩

theorem Evo.trans {ρ ρ' ρ'' : Nat → Loc} {σ σ' σ'' : St} {w w' w'' : World} (h : Evo ρ σ w ρ' σ' w') (k : Evo ρ' σ' w' ρ'' σ'' w'') : Evo ρ σ w ρ'' σ'' w'' := by
  refine ⟨k.rel, fun i hi => (k.ext i (Nat.lt_of_lt_of_le hi h.next)).trans (h.ext i hi), Nat.le_trans h.next k.next, Nat.le_trans h.size k.size, k.os.trans h.os, k.tape.trans h.tape, k.output.trans h.output, fun i hi => ?_, fun b hb hi => ?_, fun i hi => ?_⟩
  · rcases k.own i hi with ⟨j, hj, e⟩ | hge
    · rcases h.own j hj with ⟨j', hj', e'⟩ | hge'
      · exact .inl ⟨j', hj', e'.trans e⟩
      · exact .inr (e ▸ hge')
    · exact .inr (Nat.le_trans h.size hge)
  · refine (k.fra b (Nat.lt_of_lt_of_le hb h.size) fun i hi' e => ?_).trans (h.fra b hb hi)
    rcases h.own i hi' with ⟨j, hj, e'⟩ | hge
    · exact hi j hj (e'.trans e)
    · omega
  · rcases k.liv i hi with ⟨j, hj, e⟩ | hge
    · rcases h.liv j hj with ⟨j', hj', e'⟩ | hge'
      · exact .inl ⟨j', hj', e'.trans e⟩
      · exact .inr (e ▸ hge')
    · exact .inr (Nat.le_trans h.size hge)

/-- The same world but for draws. -/
structure Like (w w' : World) : Prop where
  heap : w'.heap = w.heap
  os : w'.os = w.os
  tape : w'.tape = w.tape
  output : w'.output = w.output

theorem Like.refl (w : World) : Like w w := ⟨rfl, rfl, rfl, rfl⟩
theorem Like.drew (w : World) : Like w { w with drawn := w.drawn + 1 } := ⟨rfl, rfl, rfl, rfl⟩

theorem Rel.like {ρ : Nat → Loc} {σ : St} {w w' : World} (h : Rel ρ σ w) (k : Like w w') : Rel ρ σ w' :=
  ⟨fun i => (h.blk i).same (fun _ => by rw [k.heap]) (by rw [k.heap]; exact Nat.le_refl _), h.sc, h.lt, h.inj⟩

theorem Evo.like {ρ : Nat → Loc} {σ : St} {w w' : World} (h : Rel ρ σ w) (k : Like w w') : Evo ρ σ w ρ σ w' :=
  ⟨h.like k, fun _ _ => rfl, Nat.le_refl _, by rw [k.heap]; exact Nat.le_refl _, k.os, k.tape, k.output, fun i hi => .inl ⟨i, hi, rfl⟩, fun b _ _ => by rw [k.heap], fun i hi => .inl ⟨i, hi, rfl⟩⟩

theorem Rel.size {ρ : Nat → Loc} {σ : St} {w : World} (h : Rel ρ σ w) {i : Nat} (hl : (σ.get i).live = true) : (ρ i).b < w.heap.size := (h.blk i).lt hl

def upd (ρ : Nat → Loc) (n : Nat) (l : Loc) : Nat → Loc := fun i => if i = n then l else ρ i
theorem upd_same (ρ : Nat → Loc) (n : Nat) (l : Loc) : upd ρ n l n = l := by simp [upd]
theorem upd_ne (ρ : Nat → Loc) {n i : Nat} (l : Loc) (h : i ≠ n) : upd ρ n l i = ρ i := by simp [upd, h]
theorem upd_lt (ρ : Nat → Loc) {n i : Nat} (l : Loc) (h : i < n) : upd ρ n l i = ρ i := upd_ne ρ l (Nat.ne_of_lt h)

/-- A world that differs from another one in one block at most. -/
structure Only (k : Nat) (w w' : World) : Prop where
  size : w'.heap.size = w.heap.size
  os : w'.os = w.os
  tape : w'.tape = w.tape
  output : w'.output = w.output
  heap : ∀ j, j ≠ k → w'.heap[j]? = w.heap[j]?

/-- A new block. -/
theorem Evo.alloc {ρ : Nat → Loc} {σ : St} {w w' : World} (h : Rel ρ σ w) (o : Obj) (b : Blk) (C : Nat) (hw : Like (w.alloc o) w') (hb : BlkRel (upd ρ σ.next ⟨w.heap.size, 0, C⟩) ⟨w.heap.size, 0, C⟩ (w.alloc o) b) (hs : b.sc (σ.next + 1)) :
    Evo ρ σ w (upd ρ σ.next ⟨w.heap.size, 0, C⟩) (σ.push b) w' := by
  have hheap : ∀ j, j < w.heap.size → w'.heap[j]? = w.heap[j]? := fun j hj => by rw [hw.heap]; exact Go.RowKit.Below.heap_alloc w o j hj
  have hsize : w'.heap.size = w.heap.size + 1 := by rw [hw.heap]; simp
  have hold : ∀ i, i ≠ σ.next → BlkRel (upd ρ σ.next ⟨w.heap.size, 0, C⟩) (upd ρ σ.next ⟨w.heap.size, 0, C⟩ i) w' (σ.get i) := fun i hi => by
    rw [upd_ne _ _ hi]
    exact ((h.blk i).same (w' := w') (fun hl => hheap _ (h.size hl)) (by omega)).reno (h.sc i) (fun j hj => (upd_lt ρ _ hj).symm)
  refine ⟨⟨fun i => ?_, fun i => ?_, fun i hi => ?_, fun i j hij hi hj => ?_⟩, fun i hi => upd_lt ρ _ hi, by simp, by omega, hw.os, hw.tape, hw.output, fun i hi => ?_, fun k hk _ => hheap k hk, fun i hi => ?_⟩
  · rw [St.get_push]
    split
    · rename_i e; subst e
      rw [upd_same]
      exact hb.same (fun _ => by rw [hw.heap]) (by rw [hw.heap]; exact Nat.le_refl _)
    · rename_i e; exact hold i (Ne.symm e)
  · rw [St.get_push]
    split
    · exact hs
    · exact Blk.sc_mono (h.sc i) (by simp)
  · rw [St.get_push] at hi
    split at hi
    · rename_i e; rw [St.next_push]; omega
    · have := h.lt i hi; rw [St.next_push]; omega
  · rw [St.get_push] at hi hj
    split at hi
    · rename_i e; subst e
      rw [if_neg hij] at hj
      rw [upd_same, upd_ne _ _ (Ne.symm hij)]
      have := h.size hj
      simp only; omega
    · rename_i e
      split at hj
      · rename_i e'; subst e'
        rw [upd_same, upd_ne _ _ hij]
        have := h.size (Blk.live_of_wr hi)
        simp only; omega
      · rename_i e'
        rw [upd_ne _ _ (Ne.symm e), upd_ne _ _ (Ne.symm e')]
        exact h.inj i j hij hi hj
  · rw [St.get_push] at hi
    split at hi
    · rename_i e; subst e; rw [upd_same]; exact .inr (Nat.le_refl _)
    · rename_i e; exact .inl ⟨i, hi, by rw [upd_ne _ _ (Ne.symm e)]⟩
  · rw [St.get_push] at hi
    split at hi
    · rename_i e; subst e; rw [upd_same]; exact .inr (Nat.le_refl _)
    · rename_i e; exact .inl ⟨i, hi, by rw [upd_ne _ _ (Ne.symm e)]⟩

/-- One block that may be written is written. -/
theorem Evo.write {ρ : Nat → Loc} {σ : St} {w w' : World} (h : Rel ρ σ w) {i : Nat} {b : Blk} (hi : (σ.get i).wr = true) (hw : Only (ρ i).b w w') (hb : BlkRel ρ (ρ i) w' b) (hs : b.sc σ.next) :
    Evo ρ σ w ρ (σ.set i b) w' := by
  have hin := h.lt i (Blk.live_of_wr hi)
  refine ⟨⟨fun j => ?_, fun j => ?_, fun j hj => ?_, fun j k hjk hj hk => ?_⟩, fun _ _ => rfl, by simp, by rw [hw.size]; exact Nat.le_refl _, hw.os, hw.tape, hw.output, fun j hj => ?_, fun k hk hno => hw.heap k (Ne.symm (hno i hi)), fun j hj => ?_⟩
  · rw [St.get_set]
    split
    · rename_i e; subst e; exact hb
    · rename_i e
      exact (h.blk j).same (fun hl => hw.heap _ (Ne.symm (h.inj i j e hi hl))) (by rw [hw.size]; exact Nat.le_refl _)
  · rw [St.get_set]; split
    · exact hs
    · exact h.sc j
  · rw [St.get_set] at hj; split at hj
    · rename_i e; subst e; exact hin
    · exact h.lt j hj
  · rw [St.get_set] at hj hk
    split at hj
    · rename_i e; subst e; rw [if_neg hjk] at hk; exact h.inj _ _ hjk hi hk
    · rename_i e
      split at hk
      · rename_i e'; subst e'; exact h.inj _ _ hjk hj (Blk.live_of_wr hi)
      · exact h.inj _ _ hjk hj hk
  · rw [St.get_set] at hj
    split at hj
    · rename_i e; subst e; exact .inl ⟨_, hi, rfl⟩
    · exact .inl ⟨j, hj, rfl⟩
  · rw [St.get_set] at hj
    split at hj
    · rename_i e; subst e; exact .inl ⟨_, Blk.live_of_wr hi, rfl⟩
    · exact .inl ⟨j, hj, rfl⟩

/-- A block is not looked at any more. -/
theorem Evo.kill {ρ : Nat → Loc} {σ : St} {w : World} (h : Rel ρ σ w) (i : Nat) : Evo ρ σ w ρ (σ.set i .dead) w := by
  refine ⟨⟨fun j => ?_, fun j => ?_, fun j hj => ?_, fun j k hjk hj hk => ?_⟩, fun _ _ => rfl, by simp, Nat.le_refl _, rfl, rfl, rfl, fun j hj => ?_, fun _ _ _ => rfl, fun j hj => ?_⟩
  · rw [St.get_set]; split
    · trivial
    · exact h.blk j
  · rw [St.get_set]; split
    · trivial
    · exact h.sc j
  · rw [St.get_set] at hj; split at hj
    · simp [Blk.live] at hj
    · exact h.lt j hj
  · rw [St.get_set] at hj hk
    split at hj
    · simp [Blk.wr] at hj
    · split at hk
      · simp [Blk.live] at hk
      · exact h.inj _ _ hjk hj hk
  · rw [St.get_set] at hj
    split at hj
    · simp [Blk.wr] at hj
    · exact .inl ⟨j, hj, rfl⟩
  · rw [St.get_set] at hj
    split at hj
    · simp [Blk.live] at hj
    · exact .inl ⟨j, hj, rfl⟩

/-- A row that is written, and goes by a new number. -/
theorem Evo.move {ρ : Nat → Loc} {σ : St} {w w' : World} (h : Rel ρ σ w) {i : Nat} {b : Blk} (hi : (σ.get i).wr = true) (hw : Only (ρ i).b w w') (hb : BlkRel (upd ρ σ.next (ρ i)) (ρ i) w' b) (hs : b.sc (σ.next + 1)) :
    Evo ρ σ w (upd ρ σ.next (ρ i)) ((σ.set i .dead).push b) w' := by
  have hin := h.lt i (Blk.live_of_wr hi)
  have get' : ∀ j, ((σ.set i .dead).push b).get j = if σ.next = j then b else if i = j then .dead else σ.get j := fun j => by
    rw [St.get_push, St.get_set, St.next_set]
  refine ⟨⟨fun j => ?_, fun j => ?_, fun j hj => ?_, fun j k hjk hj hk => ?_⟩, fun j hj => upd_lt ρ _ hj, by simp, by rw [hw.size]; exact Nat.le_refl _, hw.os, hw.tape, hw.output, fun j hj => ?_, fun k hk hno => hw.heap k (Ne.symm (hno i hi)), fun j hj => ?_⟩
  · rw [get']
    split
    · rename_i e; subst e; rw [upd_same]; exact hb
    · rename_i e
      split
      · trivial
      · rename_i e'
        rw [upd_ne _ _ (Ne.symm e)]
        exact ((h.blk j).same (w' := w') (fun hl => hw.heap _ (Ne.symm (h.inj i j e' hi hl))) (by rw [hw.size]; exact Nat.le_refl _)).reno (h.sc j) (fun k hk => (upd_lt ρ _ hk).symm)
  · rw [get']
    split
    · exact hs
    · split
      · trivial
      · exact Blk.sc_mono (h.sc j) (by simp)
  · rw [get'] at hj
    rw [St.next_push, St.next_set]
    split at hj
    · omega
    · split at hj
      · simp [Blk.live] at hj
      · have := h.lt j hj; omega
  · rw [get'] at hj hk
    split at hj
    · rename_i e; subst e
      rw [if_neg hjk] at hk
      split at hk
      · simp [Blk.live] at hk
      · rename_i e'
        rw [upd_same, upd_ne _ _ (Ne.symm hjk)]
        exact h.inj i k e' hi hk
    · rename_i e
      split at hj
      · simp [Blk.wr] at hj
      · rename_i e'
        split at hk
        · rename_i e2; subst e2
          rw [upd_same, upd_ne _ _ (Ne.symm e)]
          exact h.inj j i (Ne.symm e') hj (Blk.live_of_wr hi)
        · rename_i e2
          split at hk
          · simp [Blk.live] at hk
          · rw [upd_ne _ _ (Ne.symm e), upd_ne _ _ (Ne.symm e2)]
            exact h.inj j k hjk hj hk
  · rw [get'] at hj
    split at hj
    · rename_i e; subst e; rw [upd_same]; exact .inl ⟨i, hi, rfl⟩
    · rename_i e
      split at hj
      · simp [Blk.wr] at hj
      · exact .inl ⟨j, hj, by rw [upd_ne _ _ (Ne.symm e)]⟩
  · rw [get'] at hj
    split at hj
    · rename_i e; subst e; rw [upd_same]; exact .inl ⟨i, Blk.live_of_wr hi, rfl⟩
    · rename_i e
      split at hj
      · simp [Blk.live] at hj
      · exact .inl ⟨j, hj, by rw [upd_ne _ _ (Ne.symm e)]⟩

/-! ### Cells of a block, in the world -/

theorem BlkRel.cells_cell {ρ : Nat → Loc} {l : Loc} {w : World} {e : TypeId} {cs : List Value} (h : BlkRel ρ l w (.cells e cs)) (k : Nat) : w.cell? ⟨l.b, l.o + k, none⟩ = (cs[k]?).map (ren ρ) := by
  obtain ⟨h0, fz, _, h1⟩ := h
  simp [World.cell?, h1, h0]

theorem BlkRel.row_cell {ρ : Nat → Loc} {l : Loc} {w : World} {e : TypeId} {sz : Nat} {cs : List Value} (h : BlkRel ρ l w (.row e sz cs)) {k : Nat} {v : Value} (hk : cs[k]? = some v) : w.cell? ⟨l.b, l.o + k, none⟩ = some (ren ρ v) := by
  obtain ⟨h0, fz, ex, _, _, h1⟩ := h
  simp only [World.cell?, h1, h0, Nat.zero_add]
  have : k < cs.length := by
    rcases Nat.lt_or_ge k cs.length with h' | h'
    · exact h'
    · rw [List.getElem?_eq_none h'] at hk; cases hk
  simp [List.getElem?_append_left (l₁ := cs.map (ren ρ)) (by simpa using this), hk]

/-- The cells that are known of a block. -/
def Blk.known : Blk → Option (List Value)
  | .cells _ cs | .row _ _ cs | .ro cs => some cs
  | _ => none

theorem BlkRel.cell {ρ : Nat → Loc} {l : Loc} {w : World} {b : Blk} {cs : List Value} (h : BlkRel ρ l w b) (hb : b.known = some cs) {k : Nat} {v : Value} (hk : cs[k]? = some v) : w.cell? ⟨l.b, l.o + k, none⟩ = some (ren ρ v) := by
  cases b <;> simp only [Blk.known, Option.some.injEq, reduceCtorEq] at hb
  · subst hb; rw [h.cells_cell, hk]; rfl
  · subst hb; exact h.row_cell hk
  · subst hb; exact h.2 k v hk

end
end AH
end

section
/-
  AH 3: what one operation does, said of the abstract state: the definitions.
-/
set_option linter.unusedSimpArgs false
set_option linter.unusedVariables false
namespace AH
open Go
noncomputable section

/-- What is known of a type: its shape, how many cells, how many bytes, its zero; whether values of it may be compared field by field. -/
structure TyI where
  desc : TypeDesc
  size : Nat
  bytes : Nat
  zero : Value
  eqok : Bool

def TyI.agg (i : TyI) : Bool := match i.desc with | .struct _ | .array _ _ => true | _ => false
def TyI.iface (i : TyI) : Bool := match i.desc with | .interface _ => true | _ => false

/-- A value without addresses, of small depth. -/
def closedV : Nat → Value → Bool
  | 0, _ => false
  | n + 1, v => match v with
    | .bool _ | .int _ _ | .string _ | .pointer none | .slice none _ _ | .map none | .nilFunc | .nilIface | .float _ _ | .complex _ _ _ => true
    | .agg cs => cs.toList.all (closedV n)
    | .tuple cs => cs.toList.all (closedV n)
    | .iface _ v => closedV n v
    | _ => false

theorem closedV_ren : ∀ (n : Nat) (v : Value), closedV n v = true → ∀ ρ, ren ρ v = v := by
  intro n
  induction n with
  | zero => intro v h; simp [closedV] at h
  | succ n ih =>
    intro v h ρ
    cases v with
    | agg cs =>
      simp only [closedV, List.all_eq_true] at h
      simp only [ren_agg, Value.agg.injEq]
      exact Array.ext' (by simp only [Array.toList_map]; exact (List.map_congr_left fun v hv => ih v (h v hv) ρ).trans (List.map_id' _))
    | tuple cs =>
      simp only [closedV, List.all_eq_true] at h
      simp only [ren_tuple, Value.tuple.injEq]
      exact Array.ext' (by simp only [Array.toList_map]; exact (List.map_congr_left fun v hv => ih v (h v hv) ρ).trans (List.map_id' _))
    | iface t v => simp only [closedV] at h; simp [ih v h ρ]
    | pointer a => cases a <;> simp_all [closedV]
    | slice a n c => cases a <;> simp_all [closedV]
    | map a => cases a <;> simp_all [closedV]
    | _ => simp_all [closedV]

theorem closedV_Sc {n : Nat} {v : Value} (h : closedV n v = true) (m : Nat) : Sc m v := fun ρ ρ' _ => by rw [closedV_ren n v h ρ, closedV_ren n v h ρ']

structure Env where
  P : Program
  ty : Nat → Option TyI
  tyOk : ∀ t i, ty t = some i → P.underlying t = some i.desc ∧ closedV 4 i.zero = true ∧ i.zero.cells.size = i.size ∧
    ∃ info, P.info? t = some info ∧ info.size = i.size ∧ info.bytes = i.bytes ∧ info.zero = some i.zero
  eqOk : ∀ t i, ty t = some i → i.eqok = true → P.stoodInHeld t = false ∧ P.eqGuardType P.depth t = false
  mixed : P.follows .mixedOrders = true

structure Fr where
  tr : Tr Value
  df : List Nat

namespace Fr
def get (f : Fr) (t : Nat) : Option Value := f.tr.get t
def set (f : Fr) (t : Nat) (v : Value) : Fr := ⟨f.tr.set t v, f.df⟩
def nil : Fr := ⟨.leaf, []⟩
/-- With a block of deferred calls more. -/
def mark (f : Fr) (d : Nat) : Fr := ⟨f.tr, d :: f.df⟩
theorem get_set (f : Fr) (k j : Nat) (v : Value) : (f.set k v).get j = if k = j then some v else f.get j := Tr.get_set f.tr k j v
@[simp] theorem df_set (f : Fr) (k : Nat) (v : Value) : (f.set k v).df = f.df := rfl
@[simp] theorem get_nil (t : Nat) : nil.get t = none := rfl
@[simp] theorem df_nil : nil.df = [] := rfl
@[simp] theorem get_mark (f : Fr) (d t : Nat) : (f.mark d).get t = f.get t := rfl
@[simp] theorem df_mark (f : Fr) (d : Nat) : (f.mark d).df = d :: f.df := rfl
end Fr

def opd (f : Fr) : Operand → Option Value
  | .tmp t => f.get t
  | .const v => bif closedV 4 v then some v else none
  | .func g => some (.func (.func g) #[] #[])
  | .global _ => none

def opds (f : Fr) : List Operand → Option (List Value)
  | [] => some []
  | x :: r => match opd f x with
    | some v => (match opds f r with | some l => some (v :: l) | none => none)
    | none => none

/-- So many known cells from an address on. -/
def ldCells (σ : St) (a : Addr) (n : Nat) : Option (List Value) :=
  match (σ.get a.block).known with
  | some cs => bif a.spot.isNone && Nat.ble (a.off + n) cs.length then some ((cs.drop a.off).take n) else none
  | none => none

def ldVar (i : TyI) (σ : St) (a : Addr) : Option Value :=
  bif i.agg then (match ldCells σ a i.size with | some l => some (.agg l.toArray) | none => none)
  else match ldCells σ a 1 with | some [v] => some v | _ => none

/-- Comparisons that reckon with a number of which only the beginning is known. -/
def leI : Int → Int → Bool
  | .ofNat m, .ofNat n => Nat.ble m n
  | .ofNat _, .negSucc _ => false
  | .negSucc _, .ofNat _ => true
  | .negSucc m, .negSucc n => Nat.ble n m
def ltI : Int → Int → Bool
  | .ofNat m, .ofNat n => Nat.ble (m + 1) n
  | .ofNat _, .negSucc _ => false
  | .negSucc _, .ofNat _ => true
  | .negSucc m, .negSucc n => Nat.ble (n + 1) m

theorem ble_dec (m n : Nat) : Nat.ble m n = decide (m ≤ n) := by
  cases h : Nat.ble m n with
  | true => exact (decide_eq_true (Nat.le_of_ble_eq_true h)).symm
  | false => exact (decide_eq_false fun hle => by rw [Nat.ble_eq_true_of_le hle] at h; cases h).symm

theorem leI_eq (x y : Int) : leI x y = decide (x ≤ y) := by
  cases x <;> cases y <;> simp only [leI, ble_dec] <;> first | (apply decide_eq_decide.2; simp only [Int.ofNat_eq_natCast, Int.negSucc_eq]; omega) | (symm; first | (apply decide_eq_true; simp only [Int.ofNat_eq_natCast, Int.negSucc_eq]; omega) | (apply decide_eq_false; simp only [Int.ofNat_eq_natCast, Int.negSucc_eq]; omega))

theorem ltI_eq (x y : Int) : ltI x y = decide (x < y) := by
  cases x <;> cases y <;> simp only [ltI, ble_dec] <;> first | (apply decide_eq_decide.2; simp only [Int.ofNat_eq_natCast, Int.negSucc_eq]; omega) | (symm; first | (apply decide_eq_true; simp only [Int.ofNat_eq_natCast, Int.negSucc_eq]; omega) | (apply decide_eq_false; simp only [Int.ofNat_eq_natCast, Int.negSucc_eq]; omega))

def intOp (op : BinOp) (k : IntKind) (x y : Int) : Option Value :=
  match op with
  | .add => some (.int k (k.wrap (x + y)))
  | .sub => some (.int k (k.wrap (x - y)))
  | .mul => some (.int k (k.wrap (x * y)))
  | .quo => if y = 0 then none else some (.int k (k.wrap (x.tdiv y)))
  | .rem => if y = 0 then none else some (.int k (x.tmod y))
  | .and => some (.int k (k.wrap ((BitVec.ofInt k.bits x &&& BitVec.ofInt k.bits y).toNat : Nat)))
  | .or => some (.int k (k.wrap ((BitVec.ofInt k.bits x ||| BitVec.ofInt k.bits y).toNat : Nat)))
  | .xor => some (.int k (k.wrap ((BitVec.ofInt k.bits x ^^^ BitVec.ofInt k.bits y).toNat : Nat)))
  | .andNot => some (.int k (k.wrap ((BitVec.ofInt k.bits x &&& ~~~ BitVec.ofInt k.bits y).toNat : Nat)))
  | .eql => some (.bool (x == y))
  | .neq => some (.bool (x != y))
  | .lss => some (.bool (ltI x y))
  | .leq => some (.bool (leI x y))
  | .gtr => some (.bool (ltI y x))
  | .geq => some (.bool (leI y x))
  | _ => none

def shOp (op : BinOp) (k : IntKind) (x y : Int) : Option Value :=
  if y < 0 then none else
  match op with
  | .shl => some (.int k (k.wrap (x * 2 ^ (min y.toNat k.bits))))
  | .shr => some (.int k (x.fdiv (2 ^ (min y.toNat k.bits))))
  | _ => none

def mkStr (l : List UInt8) : ByteArray := ⟨l.toArray⟩

def strOp (op : BinOp) (x y : ByteArray) : Option Value :=
  match op with
  | .add => if ((x.data.toList.length + y.data.toList.length : Nat) : Int) > 9223372036854775807 then none else some (.string (mkStr (x.data.toList ++ y.data.toList)))
  | .eql => some (.bool (x.data.toList == y.data.toList))
  | .neq => some (.bool !(x.data.toList == y.data.toList))
  | .lss => some (.bool (Op.bytesLess x.data.toList y.data.toList))
  | .leq => some (.bool (Op.bytesLess x.data.toList y.data.toList || x.data.toList == y.data.toList))
  | .gtr => some (.bool !(Op.bytesLess x.data.toList y.data.toList || x.data.toList == y.data.toList))
  | .geq => some (.bool !(Op.bytesLess x.data.toList y.data.toList))
  | _ => none

def partQ (i : TyI) (cs : List Value) (off : Nat) : Option Value :=
  bif i.agg then (bif Nat.ble (off + i.size) cs.length then some (.agg ((cs.drop off).take i.size).toArray) else none) else cs[off]?

/-- Are two values of a type equal, as far as it can be told without looking into memory? -/
def eqQ (ty : Nat → Option TyI) : Nat → Nat → Value → Value → Option Bool
  | 0, _, _, _ => none
  | n + 1, t, x, y =>
    match ty t with
    | none => none
    | some i =>
      match i.desc, x, y with
      | .bool, .bool a, .bool b => some (a == b)
      | .int _, .int k a, .int k' b => if k = k' then some (a == b) else none
      | .string, .string a, .string b => some (a.data.toList == b.data.toList)
      | .pointer _, .pointer none, .pointer b => some b.isNone
      | .pointer _, .pointer (some _), .pointer none => some false
      | .pointer e, .pointer (some a), .pointer (some b) =>
        (match ty e with
         | some j => if j.size ≠ 0 ∧ a.block = b.block then some (a == b) else none
         | none => none)
      | .interface _, .nilIface, .iface _ _ => some false
      | .interface _, .iface _ _, .nilIface => some false
      | .slice _, .slice none _ _, .slice b _ _ => some b.isNone
      | .slice _, .slice (some _) _ _, .slice none _ _ => some false
      | .map _ _, .map none, .map b => some b.isNone
      | .map _ _, .map (some _), .map none => some false
      | .func _ _ _, .nilFunc, .nilFunc => some true
      | .func _ _ _, .nilFunc, .func _ _ _ => some false
      | .func _ _ _, .func _ _ _, .nilFunc => some false
      | .struct fields, .agg xs, .agg ys => bif i.eqok then fieldsQ (eqQ ty n) ty fields.toList xs.toList ys.toList else none
      | .array len e, .agg xs, .agg ys => bif i.eqok then
        (match ty e with
         | some j => elemsQ (eqQ ty n e) j xs.toList ys.toList 0 len
         | none => none) else none
      | _, _, _ => none
where
  fieldsQ (eq : Nat → Value → Value → Option Bool) (ty : Nat → Option TyI) : List Field → List Value → List Value → Option Bool
    | [], _, _ => some true
    | f :: r, xs, ys =>
      if f.name = "_" then fieldsQ eq ty r xs ys else
      match ty f.type with
      | none => none
      | some i =>
        match partQ i xs f.offset, partQ i ys f.offset with
        | some a, some b =>
          (match eq f.type a b with
           | some true => fieldsQ eq ty r xs ys
           | some false => some false
           | none => none)
        | _, _ => none
  elemsQ (eq : Value → Value → Option Bool) (j : TyI) (xs ys : List Value) (k : Nat) : Nat → Option Bool
    | 0 => some true
    | m + 1 =>
      match partQ j xs (k * j.size), partQ j ys (k * j.size) with
      | some a, some b =>
        (match eq a b with
         | some true => elemsQ eq j xs ys (k + 1) m
         | some false => some false
         | none => none)
      | _, _ => none

def binQ (E : Env) (op : BinOp) (t : Nat) (x y : Value) : Option Value :=
  match x, y with
  | .int k a, .int k' b =>
    (match op with
     | .shl | .shr => shOp op k a b
     | _ => if k = k' then intOp op k a b else none)
  | .string a, .string b => strOp op a b
  | x, y =>
    (match op with
     | .eql => (match eqQ E.ty 5 t x y with | some b => some (.bool b) | none => none)
     | .neq => (match eqQ E.ty 5 t x y with | some b => some (.bool !b) | none => none)
     | _ => none)

def unQ (op : UnOp) (x : Value) : Option Value :=
  match op, x with
  | .neg, .int k n => some (.int k (k.wrap (0 - n)))
  | .xor, .int k n => intOp .xor k (if k.signed then -1 else k.max) n
  | .not, .bool b => some (.bool !b)
  | _, _ => none

def convQ (E : Env) (src dst : Nat) (x : Value) : Option Value :=
  match E.ty src, E.ty dst with
  | some i, some j =>
    (match i.desc, j.desc, x with
     | _, .int k, .int _ n => some (.int k (k.wrap n))
     | _, .string, .string s => some (.string s)
     | _, _, _ => none)
  | _, _ => none

def idx : Option Value → Nat → Nat → Option Nat
  | none, d, _ => some d
  | some (.int _ i), _, y => if 0 ≤ i ∧ i ≤ (y : Int) then some i.toNat else none
  | some _, _, _ => none

def addA (a : Addr) (n : Nat) : Addr := if n = 0 then a else { a with off := a.off + n, spot := none }

def opdO (f : Fr) : Option Operand → Option (Option Value)
  | none => some none
  | some x => match opd f x with | some v => some (some v) | none => none

/-- x[lo:hi:mx] -/
def sliceQ (E : Env) (σ : St) (t : Nat) (x : Value) (lo hi mx : Option Value) : Option Value :=
  match E.ty t with
  | none => none
  | some i =>
    match i.desc, x with
    | .string, .string s =>
      (match mx, idx hi s.data.toList.length s.data.toList.length with
       | none, some h => (match idx lo 0 h with
         | some l => some (.string (mkStr ((s.data.toList.drop l).take (h - l))))
         | none => none)
       | _, _ => none)
    | .slice e, .slice a len cap =>
      (match E.ty e with
       | none => none
       | some j =>
         if cap < half then
           match idx mx cap cap with
           | none => none
           | some m =>
             if mx.isSome ∧ hi.isNone then none else
             match idx hi len m with
             | none => none
             | some h => (match idx lo 0 h with
               | none => none
               | some l => some (.slice (if m = l then a else a.map fun a => addA a (l * j.size)) (h - l) (m - l)))
         else match mx, a with
           | none, some a =>
             (match σ.get a.block with
              | .row _ sz cs =>
                if unk - cap < half ∧ cap ≤ unk ∧ sz = j.size ∧ 0 < sz ∧ a.off = (unk - cap) * sz ∧ len * sz + a.off ≤ cs.length then
                  match idx hi len ((cs.length - a.off) / sz) with
                  | none => none
                  | some h => (match idx lo 0 h with
                    | none => none
                    | some l => if l = 0 ∨ l < h then (if l < half ∧ unk - cap + l < half then some (.slice (some (addA a (l * j.size))) (h - l) (cap - l)) else none) else none)
                else none
              | _ => none)
           | some mv, some a =>
            (match σ.get a.block with
              | .row _ sz cs =>
                if unk - cap < half ∧ cap ≤ unk ∧ sz = j.size ∧ 0 < sz ∧ a.off = (unk - cap) * sz ∧ len * sz + a.off ≤ cs.length ∧ hi.isSome = true then
                  match idx (some mv) 0 ((cs.length - a.off) / sz) with
                  | none => none
                  | some m => match idx hi len m with
                    | none => none
                    | some h => (match idx lo 0 h with
                      | none => none
                      | some l => if m < half then some (.slice (some (if m = l then a else addA a (l * j.size))) (h - l) (m - l)) else none)
                else none
              | _ => none)
           | _, _ => none)
    | .array n e, .pointer (some a) =>
      (match E.ty e, idx mx n n with
       | some j, some m =>
         if mx.isSome ∧ hi.isNone then none else
         (match idx hi n m with
          | none => none
          | some h => (match idx lo 0 h with
            | none => none
            | some l => if n < half then some (.slice (some (if m = l then a else addA a (l * j.size))) (h - l) (m - l)) else none))
       | _, _ => none)
    | _, _ => none

def fieldQ (E : Env) (s : Nat) (x : Value) (k : Nat) : Option Value :=
  match E.ty s, x with
  | some i, .pointer (some a) =>
    (match i.desc with
     | .struct fs => (match fs.toList[k]? with
       | some f => (match E.ty f.type with
         | some j => if j.size = 0 then none else some (.pointer (some (addA a f.offset)))
         | none => none)
       | none => none)
     | _ => none)
  | _, _ => none

def fieldV (E : Env) (s : Nat) (x : Value) (k : Nat) : Option Value :=
  match E.ty s, x with
  | some i, .agg cs =>
    (match i.desc with
     | .struct fs => (match fs.toList[k]? with
       | some f => (match E.ty f.type with
         | some j => partQ j cs.toList f.offset
         | none => none)
       | none => none)
     | _ => none)
  | _, _ => none

def indexAddrQ (E : Env) (t : Nat) (x i : Value) : Option Value :=
  match E.ty t, i with
  | some ti, .int _ n =>
    (match ti.desc, x with
     | .slice e, .slice (some a) len _ => (match E.ty e with
       | some j => if 0 ≤ n ∧ n < (len : Int) then some (.pointer (some (addA a (n.toNat * j.size)))) else none
       | none => none)
     | .array len e, .pointer (some a) => (match E.ty e with
       | some j => if 0 ≤ n ∧ n < (len : Int) then some (.pointer (some (addA a (n.toNat * j.size)))) else none
       | none => none)
     | _, _ => none)
  | _, _ => none

/-- A slice's array. -/
def arrQ (E : Env) (t : Nat) (x : Value) : Option Value :=
  match E.ty t, x with
  | some ti, .slice (some a) len _ => (match ti.desc with
    | .array n _ => bif Nat.ble n len then some (.pointer (some a)) else none
    | _ => none)
  | _, _ => none

def indexQ (E : Env) (t : Nat) (x i : Value) : Option Value :=
  match E.ty t, i with
  | some ti, .int _ n =>
    (match ti.desc, x with
     | .array len e, .agg cs => (match E.ty e with
       | some j => if 0 ≤ n ∧ n < (len : Int) then partQ j cs.toList (n.toNat * j.size) else none
       | none => none)
     | .string, .string s => if 0 ≤ n then (match s.data.toList[n.toNat]? with | some b => some (.int .u8 b.toNat) | none => none) else none
     | _, _ => none)
  | _, _ => none

/-- Key types by which a map is asked: whole numbers, texts, bools; arrays of whole numbers. -/
def keyOk (E : Env) (t : Nat) (k : Value) : Bool :=
  match E.ty t, k with
  | some i, .int k' _ => (match i.desc with | .int _ => true | _ => false)
  | some i, .string _ => (match i.desc with | .string => true | _ => false)
  | some i, .bool _ => (match i.desc with | .bool => true | _ => false)
  | _, _ => false

def findQ (d : TypeDesc) (k : Value) : List MapEntry → Nat → Option (Option (Nat × Value))
  | [], _ => some none
  | e :: es, i =>
    match Instr.sameNow d k e.key with
    | some true => some (some (i, e.val))
    | some false => findQ d k es (i + 1)
    | none => none

def lookupQ (E : Env) (σ : St) (t : Nat) (x k : Value) (ok : Bool) : Option Value :=
  match E.ty t with
  | none => none
  | some i =>
    match i.desc with
    | .map kt et =>
      (match E.ty kt, E.ty et, keyOk E kt k with
       | some ki, some ei, true =>
         (match x with
          | .map none => some (if ok then .tuple #[ei.zero, .bool false] else ei.zero)
          | .map (some r) => (match σ.get r with
            | .map es _ => (match findQ ki.desc k es 0 with
              | some (some (_, v)) => some (if ok then .tuple #[v, .bool true] else v)
              | some none => some (if ok then .tuple #[ei.zero, .bool false] else ei.zero)
              | none => none)
            | _ => none)
          | _ => none)
       | _, _, _ => none)
    | _ => none

def lenQ (E : Env) (σ : St) (t : Nat) (x : Value) : Option Value :=
  match E.ty t with
  | none => none
  | some i =>
    match i.desc, x with
    | .string, .string s => some (.int .i64 s.data.toList.length)
    | .array n _, _ => some (.int .i64 n)
    | .slice _, .slice _ n _ => some (.int .i64 n)
    | .map _ _, .map none => some (.int .i64 0)
    | .map _ _, .map (some r) => (match σ.get r with | .map es _ => some (.int .i64 es.length) | _ => none)
    | _, _ => none

def foldMM (mx : Bool) : Value → List Value → Option Value
  | v, [] => some v
  | .int k x, .int _ y :: r => foldMM mx (.int k (if mx then (if y > x then y else x) else (if y < x then y else x))) r
  | _, _ => none

def fillQ (place : Nat → Option (Nat × Nat)) (cells : List Value) : List (Nat × Value) → Option (List Value)
  | [] => some cells
  | (i, v) :: rest =>
    match place i with
    | none => none
    | some (off, size) =>
      if v.cells.toList.length = size ∧ off + v.cells.toList.length ≤ cells.length then fillQ place (putAt cells off v.cells.toList) rest else none
where
  putAt : List Value → Nat → List Value → List Value
    | cs, _, [] => cs
    | cs, o, v :: vs => putAt (cs.set o v) (o + 1) vs

abbrev putAt := fillQ.putAt

def partsQ (f : Fr) : List (Nat × Operand) → Option (List (Nat × Value))
  | [] => some []
  | (i, x) :: r => match opd f x with
    | some v => (match partsQ f r with | some l => some ((i, v) :: l) | none => none)
    | none => none

def places (ty : Nat → Option TyI) : List Field → Option (List (Nat × Nat))
  | [] => some []
  | f :: r => match ty f.type with
    | some j => (match places ty r with | some l => some ((f.offset, j.size) :: l) | none => none)
    | none => none

def buildQ (E : Env) (t : Nat) (parts : List (Nat × Value)) : Option Value :=
  match E.ty t with
  | none => none
  | some i =>
    match i.desc with
    | .struct fs =>
      (match places E.ty fs.toList with
       | some pl => (match fillQ (fun k => pl[k]?) i.zero.cells.toList parts with
         | some cs => some (.agg cs.toArray)
         | none => none)
       | none => none)
    | .array _ e =>
      (match E.ty e with
       | some j => (match fillQ (fun k => some (k * j.size, j.size)) i.zero.cells.toList parts with
         | some cs => some (.agg cs.toArray)
         | none => none)
       | none => none)
    | _ => none

/-- A method of a type's own, with a pointer for its receiver? -/
def mthB (P : Program) (t : Nat) (name : String) : Bool :=
  match P.info? t with
  | some info => (match info.methods.find? (fun m => m.name == name) with
    | some m => (match m.path.toList, m.func with
      | [], some (_, true) => true
      | _, _ => false)
    | none => false)
  | none => false

/-- Operations that leave the world as it is. -/
def opQ (E : Env) (f : Fr) (σ : St) : Op → Option Value
  | .move x | .assign x => opd f x
  | .pick c a b => match opd f c with
    | some (.bool t) => opd f (bif t then a else b)
    | _ => none
  | .load t a => match opd f a, E.ty t with
    | some (.pointer (some ad)), some i => ldVar i σ ad
    | _, _ => none
  | .nilCheck x => match opd f x with
    | some (.pointer (some a)) => some (.pointer (some a))
    | some (.iface t v) => some (.iface t v)
    | some (.func (.func g) x y) => some (.func (.func g) x y)
    | some (.func (.method name) x y) => (match x.toList with
      | [.iface t _] => bif mthB E.P t name then some (.func (.method name) x y) else none
      | _ => none)
    | _ => none
  | .binOp op t x y _ => match opd f x, opd f y with
    | some a, some b => binQ E op t a b
    | _, _ => none
  | .unOp op _ x => match opd f x with
    | some a => unQ op a
    | none => none
  | .convert s d x => match opd f x with
    | some a => convQ E s d a
    | none => none
  | .sliceToArrayPointer t x => match opd f x with
    | some v => arrQ E t v
    | none => none
  | .makeInterface t x => match opd f x, E.ty t with
    | some v, some i => bif i.iface then none else some (.iface t v)
    | _, _ => none
  | .makeFunc fn first cap => match opds f first.toList, opds f cap.toList with
    | some a, some b => (match fn with
      | .func g => some (.func (.func g) a.toArray b.toArray)
      | .method name => some (.func (.method name) a.toArray b.toArray)
      | _ => none)
    | _, _ => none
  | .slice t x lo hi mx => match opd f x, opdO f lo, opdO f hi, opdO f mx with
    | some v, some l, some h, some m => sliceQ E σ t v l h m
    | _, _, _, _ => none
  | .fieldAddr s x k => match opd f x with
    | some v => fieldQ E s v k
    | none => none
  | .field s x k => match opd f x with
    | some v => fieldV E s v k
    | none => none
  | .indexAddr t x i => match opd f x, opd f i with
    | some v, some k => indexAddrQ E t v k
    | _, _ => none
  | .index t x i => match opd f x, opd f i with
    | some v, some k => indexQ E t v k
    | _, _ => none
  | .lookup t x k ok => match opd f x, opd f k with
    | some m, some v => lookupQ E σ t m v ok
    | _, _ => none
  | .typeAssert x _ at_ ok => match opd f x, E.ty at_ with
    | some (.iface t v), some i => if i.iface = false ∧ t = at_ then some (bif ok then .tuple #[v, .bool true] else v) else none
    | _, _ => none
  | .extract x i => match opd f x with
    | some (.tuple vs) => vs.toList[i]?
    | _ => none
  | .build t parts => match partsQ f parts.toList with
    | some ps => buildQ E t ps
    | none => none
  | .call { callee := .builtin .len, args, argTypes } => match args.toList, argTypes.toList with
    | [x], [t] => (match opd f x with | some v => lenQ E σ t v | none => none)
    | _, _ => none
  | .call { callee := .builtin .min, args, argTypes := _ } => match opds f args.toList with
    | some (v :: r) => foldMM false v r
    | _ => none
  | .call { callee := .builtin .max, args, argTypes := _ } => match opds f args.toList with
    | some (v :: r) => foldMM true v r
    | _ => none
  | _ => none

end
end AH
end

section
/-
  AH 4: the operations that leave the world as it is do in the world what they do in the abstract state.
-/
set_option linter.unusedSimpArgs false
set_option linter.unusedVariables false
namespace AH
open Go
noncomputable section

/-- The frame's slots, as far as they are known. -/
structure FrRel (ρ : Nat → Loc) (f : Fr) (n : Nat) (a : Act) : Prop where
  slot : ∀ t v, f.get t = some v → a.tmps[t]? = some (ren ρ v)
  sc : ∀ t v, f.get t = some v → Sc n v
  defers : a.defers = f.df.map fun i => { target := .collected (ρ i).b, args := #[] }
  dsc : ∀ i ∈ f.df, i < n

section
variable {ρ : Nat → Loc} {f : Fr} {n : Nat} {a : Act}

theorem opd_sound (hF : FrRel ρ f n a) {x : Operand} {v : Value} (h : opd f x = some v) : a.eval x = ren ρ v ∧ Sc n v := by
  cases x with
  | tmp t =>
    simp only [opd] at h
    have h1 := hF.slot t v h
    refine ⟨?_, hF.sc t v h⟩
    simp [Act.eval, Array.getD_eq_getD_getElem?, h1]
  | const u =>
    simp only [opd] at h
    cases hc : closedV 4 u with
    | false => simp [hc] at h
    | true =>
      simp only [hc, cond_true, Option.some.injEq] at h
      subst h
      exact ⟨by simp [Act.eval, closedV_ren 4 u hc], closedV_Sc hc n⟩
  | global g => simp [opd] at h
  | func g =>
    simp only [opd, Option.some.injEq] at h
    subst h
    exact ⟨by simp [Act.eval], Sc_func.2 ⟨trivial, fun v hv => by simp at hv, fun v hv => by simp at hv⟩⟩

theorem opds_sound (hF : FrRel ρ f n a) : ∀ {xs : List Operand} {vs : List Value}, opds f xs = some vs → xs.map a.eval = vs.map (ren ρ) ∧ Scs n vs
  | [], vs, h => by simp only [opds, Option.some.injEq] at h; subst h; exact ⟨rfl, fun v hv => by simp at hv⟩
  | x :: r, vs, h => by
    simp only [opds] at h
    split at h
    · rename_i v hv
      split at h
      · rename_i l hl
        simp only [Option.some.injEq] at h
        subst h
        obtain ⟨h1, h2⟩ := opd_sound hF hv
        obtain ⟨h3, h4⟩ := opds_sound hF hl
        exact ⟨by simp [h1, h3], fun v hv => by rcases List.mem_cons.1 hv with rfl | hv; exact h2; exact h4 v hv⟩
      · cases h
    · cases h

theorem opdO_sound (hF : FrRel ρ f n a) {x : Option Operand} {v : Option Value} (h : opdO f x = some v) : x.map a.eval = v.map (ren ρ) ∧ ∀ u, v = some u → Sc n u := by
  cases x with
  | none => simp only [opdO, Option.some.injEq] at h; subst h; exact ⟨rfl, fun u hu => by cases hu⟩
  | some x =>
    simp only [opdO] at h
    split at h
    · rename_i u hu
      simp only [Option.some.injEq] at h
      subst h
      obtain ⟨h1, h2⟩ := opd_sound hF hu
      exact ⟨by simp [h1], fun u hu => by cases hu; exact h2⟩
    · cases h

theorem partsQ_sound (hF : FrRel ρ f n a) : ∀ {xs : List (Nat × Operand)} {vs : List (Nat × Value)}, partsQ f xs = some vs → xs.map (fun p => (p.1, a.eval p.2)) = vs.map (fun p => (p.1, ren ρ p.2)) ∧ ∀ p ∈ vs, Sc n p.2
  | [], vs, h => by simp only [partsQ, Option.some.injEq] at h; subst h; exact ⟨rfl, fun v hv => by simp at hv⟩
  | (i, x) :: r, vs, h => by
    simp only [partsQ] at h
    split at h
    · rename_i v hv
      split at h
      · rename_i l hl
        simp only [Option.some.injEq] at h
        subst h
        obtain ⟨h1, h2⟩ := opd_sound hF hv
        obtain ⟨h3, h4⟩ := partsQ_sound hF hl
        exact ⟨by simp [h1, h3], fun v hv => by rcases List.mem_cons.1 hv with rfl | hv; exact h2; exact h4 v hv⟩
      · cases h
    · cases h
end

/-! ### Types -/
section
variable (E : Env) {t : Nat} {i : TyI} (h : E.ty t = some i) (w : World)
include h

theorem run_und : (underlying t).run E.P w = .ok i.desc w := run_underlying (E.tyOk t i h).1 w
theorem und_eq : E.P.underlying t = some i.desc := (E.tyOk t i h).1
theorem run_sz : (Go.sizeOf t).run E.P w = .ok i.size w := by
  obtain ⟨_, _, _, info, h1, h2, _⟩ := E.tyOk t i h
  simp [Go.sizeOf, typeInfo, h1, h2]
theorem run_info : ∃ info, (typeInfo t).run E.P w = .ok info w ∧ info.size = i.size ∧ info.bytes = i.bytes ∧ info.zero = some i.zero := by
  obtain ⟨_, _, _, info, h1, h2⟩ := E.tyOk t i h
  exact ⟨info, by simp [typeInfo, h1], h2⟩
theorem run_zero : (zeroValue t).run E.P w = .ok i.zero w := by
  obtain ⟨_, _, _, info, h1, _, _, h3⟩ := E.tyOk t i h
  simp [zeroValue, typeInfo, h1, h3]
theorem run_agg : (isAgg t).run E.P w = .ok i.agg w := by
  simp only [isAgg, Sem.run_bind, run_und E h w, Result.andThen_ok, TyI.agg]
  cases i.desc <;> rfl
theorem zero_closed : closedV 4 i.zero = true := (E.tyOk t i h).2.1
theorem zero_size : i.zero.cells.size = i.size := (E.tyOk t i h).2.2.1
end

/-! ### What is held -/
inductive Hold where
  | cell (b off : Nat) (v : Value)
  | map (b : Nat) (es : List MapEntry) (clock : Nat)

def Hold.at (ρ : Nat → Loc) (w : World) : Hold → Prop
  | .cell b off v => w.cell? ⟨(ρ b).b, (ρ b).o + off, none⟩ = some (ren ρ v)
  | .map b es clock => w.heap[(ρ b).b]? = some (.map (es.map (renE ρ)).toArray clock)

def Hold.in (σ : St) : Hold → Prop
  | .cell b off v => ∃ cs, (σ.get b).known = some cs ∧ cs[off]? = some v
  | .map b es clock => σ.get b = .map es clock

theorem Hold.at_of_in {ρ : Nat → Loc} {σ : St} {w : World} (hR : Rel ρ σ w) {h : Hold} (hi : h.in σ) : h.at ρ w := by
  cases h with
  | cell b off v => obtain ⟨cs, h1, h2⟩ := hi; exact (hR.blk b).cell h1 h2
  | map b es clock =>
    have := hR.blk b
    simp only [Hold.in] at hi
    rw [hi] at this
    exact this.2

def cellHolds (b : Nat) : Nat → List Value → List Hold
  | _, [] => []
  | off, v :: r => .cell b off v :: cellHolds b (off + 1) r

theorem mem_cellHolds {b : Nat} : ∀ {off : Nat} {l : List Value} {h : Hold}, h ∈ cellHolds b off l → ∃ k v, l[k]? = some v ∧ h = .cell b (off + k) v
  | off, [], h, hm => by simp [cellHolds] at hm
  | off, v :: r, h, hm => by
    simp only [cellHolds, List.mem_cons] at hm
    rcases hm with rfl | hm
    · exact ⟨0, v, rfl, rfl⟩
    · obtain ⟨k, u, h1, h2⟩ := mem_cellHolds hm
      exact ⟨k + 1, u, h1, by rw [h2]; congr 1; omega⟩

theorem cellHolds_mem {b : Nat} : ∀ {off : Nat} {l : List Value} {k : Nat} {v : Value}, l[k]? = some v → Hold.cell b (off + k) v ∈ cellHolds b off l
  | off, [], k, v, h => by simp at h
  | off, u :: r, 0, v, h => by simp at h; subst h; simp [cellHolds]
  | off, u :: r, k + 1, v, h => by
    simp only [cellHolds, List.mem_cons]
    refine .inr ?_
    have := cellHolds_mem (b := b) (off := off + 1) (l := r) (k := k) (v := v) (by simpa using h)
    rwa [show off + 1 + k = off + (k + 1) by omega] at this

def opHolds (E : Env) (f : Fr) (σ : St) : Op → List Hold
  | .load t a => match opd f a, E.ty t with
    | some (.pointer (some ad)), some i => (match ldCells σ ad (bif i.agg then i.size else 1) with | some l => cellHolds ad.block ad.off l | none => [])
    | _, _ => []
  | .lookup t x k ok => match opd f x with
    | some (.map (some r)) => (match σ.get r with | .map es c => [.map r es c] | _ => [])
    | _ => []
  | .call { callee := .builtin .len, args, argTypes := _ } => match args.toList with
    | [x] => (match opd f x with
      | some (.map (some r)) => (match σ.get r with | .map es c => [.map r es c] | _ => [])
      | _ => [])
    | _ => []
  | _ => []

theorem ldCells_spec {σ : St} {ad : Addr} {n : Nat} {l : List Value} (h : ldCells σ ad n = some l) : ad.spot = none ∧ l.length = n ∧ ∃ cs, (σ.get ad.block).known = some cs ∧ ad.off + n ≤ cs.length ∧ l = (cs.drop ad.off).take n := by
  simp only [ldCells] at h
  split at h
  · rename_i cs hk
    cases hb : (ad.spot.isNone && Nat.ble (ad.off + n) cs.length) with
    | false => simp [hb] at h
    | true =>
      simp only [hb, cond_true, Option.some.injEq] at h
      simp only [Bool.and_eq_true, Option.isNone_iff_eq_none, Nat.ble_eq] at hb
      subst h
      exact ⟨hb.1, by simp; omega, cs, hk, hb.2, rfl⟩
  · cases h

theorem ldCells_get {σ : St} {ad : Addr} {n : Nat} {l : List Value} (h : ldCells σ ad n = some l) {k : Nat} {v : Value} (hk : l[k]? = some v) : Hold.in σ (.cell ad.block (ad.off + k) v) := by
  obtain ⟨_, h1, cs, h2, h3, h4⟩ := ldCells_spec h
  refine ⟨cs, h2, ?_⟩
  have hkn : k < n := by
    rcases Nat.lt_or_ge k l.length with h' | h'
    · omega
    · rw [List.getElem?_eq_none h'] at hk; cases hk
  rw [h4, List.getElem?_take, if_pos hkn, List.getElem?_drop] at hk
  exact hk

theorem known_sc {σ : St} {ρ : Nat → Loc} {w : World} (hR : Rel ρ σ w) {b : Nat} {cs : List Value} (h : (σ.get b).known = some cs) : Scs σ.next cs := by
  have := hR.sc b
  cases hb : σ.get b <;> rw [hb] at h this <;> simp only [Blk.known, Option.some.injEq, reduceCtorEq] at h <;> subst h <;> exact this

theorem ldCells_sc {σ : St} {ρ : Nat → Loc} {w : World} (hR : Rel ρ σ w) {ad : Addr} {n : Nat} {l : List Value} (h : ldCells σ ad n = some l) : Scs σ.next l := by
  obtain ⟨_, _, cs, h2, _, h4⟩ := ldCells_spec h
  subst h4
  exact fun v hv => known_sc hR h2 v (List.mem_of_mem_drop (List.mem_of_mem_take hv))

theorem add_renA (ρ : Nat → Loc) (ad : Addr) (h : ad.spot = none) (k : Nat) : (renA ρ ad).add k = ⟨(ρ ad.block).b, (ρ ad.block).o + (ad.off + k), none⟩ := by
  unfold Addr.add renA
  split
  · rename_i e; subst e; simp [h]
  · simp [Nat.add_assoc]

theorem renA_addA (ρ : Nat → Loc) (ad : Addr) (k : Nat) : renA ρ (addA ad k) = (renA ρ ad).add k := by
  unfold Addr.add addA renA
  split
  · simp_all
  · simp [Nat.add_assoc]

theorem addA_block (ad : Addr) (k : Nat) : (addA ad k).block = ad.block := by unfold addA; split <;> rfl

/-- Cells that are held are loaded. -/
theorem run_ldCells {ρ : Nat → Loc} {w : World} (P : Program) {ad : Addr} (hs : ad.spot = none) {l : List Value} (h : ∀ k v, l[k]? = some v → Hold.at ρ w (.cell ad.block (ad.off + k) v)) :
    (loadCells (renA ρ ad) l.length).run P w = .ok (l.map (ren ρ)).toArray w := by
  have := run_loadCells_list (P := P) w (renA ρ ad) (l.map (ren ρ)) (fun j v hj => by
    rw [add_renA ρ ad hs]
    simp only [List.getElem?_map, Option.map_eq_some_iff] at hj
    obtain ⟨u, hu, rfl⟩ := hj
    exact h j u hu)
  simpa using this

theorem run_ldVar (E : Env) {ρ : Nat → Loc} {σ : St} {w : World} {t : Nat} {i : TyI} (ht : E.ty t = some i) {ad : Addr} {v : Value} (h : ldVar i σ ad = some v)
    {l : List Value} (hl : ldCells σ ad (bif i.agg then i.size else 1) = some l) {w₂ : World} (hH : ∀ x ∈ cellHolds ad.block ad.off l, x.at ρ w₂) :
    (loadVar t (renA ρ ad)).run E.P w₂ = .ok (ren ρ v) w₂ := by
  obtain ⟨hs, hlen, _⟩ := ldCells_spec hl
  have hc := run_ldCells (ρ := ρ) (w := w₂) E.P hs (l := l) (fun k v hk => hH _ (cellHolds_mem hk))
  simp only [loadVar, Sem.run_bind, run_agg E ht, Result.andThen_ok]
  unfold ldVar at h
  cases hA : i.agg with
  | true =>
    simp only [hA, cond_true] at h hl hlen
    rw [hl] at h
    simp only [Option.some.injEq] at h
    subst h
    simp only [if_true, Sem.run_bind, run_sz E ht, Result.andThen_ok]
    rw [hlen] at hc
    simp [hc]
  | false =>
    simp only [hA, cond_false] at h hl hlen
    rw [hl] at h
    match l, hlen, h with
    | [u], _, h =>
      simp only [Option.some.injEq] at h
      subst h
      have := hH (.cell ad.block ad.off u) (by simp [cellHolds])
      have hre : renA ρ ad = ⟨(ρ ad.block).b, (ρ ad.block).o + ad.off, none⟩ := by simp [renA, hs]
      simp only [Bool.false_eq_true, if_false, run_load, hre]
      simp only [Hold.at] at this
      rw [this]

end
end AH
end

section
/-
  AH 5: the quiet operations, one by one.
-/
set_option linter.unusedSimpArgs false
set_option linter.unusedVariables false
namespace AH
open Go
noncomputable section

theorem run_part (E : Env) {t : Nat} {i : TyI} (ht : E.ty t = some i) {ρ : Nat → Loc} {cs : List Value} {off : Nat} {v : Value} (h : partQ i cs off = some v) (w : World) :
    (part t (cs.map (ren ρ)).toArray off).run E.P w = .ok (ren ρ v) w := by
  simp only [part, Sem.run_bind, run_agg E ht, Result.andThen_ok]
  unfold partQ at h
  cases hA : i.agg with
  | true =>
    simp only [hA, cond_true] at h
    cases hb : Nat.ble (off + i.size) cs.length with
    | false => simp [hb] at h
    | true =>
      simp only [hb, cond_true, Option.some.injEq] at h
      subst h
      simp only [if_true, Sem.run_bind, run_sz E ht, Result.andThen_ok, Sem.run_pure, ren_agg, List.map_toArray, List.extract_toArray]
      congr 3
      simp [List.extract, List.map_take, List.map_drop]
  | false =>
    simp only [hA, cond_false] at h
    simp [h]

theorem partQ_sc {n : Nat} {i : TyI} {cs : List Value} {off : Nat} {v : Value} (h : partQ i cs off = some v) (hs : Scs n cs) : Sc n v := by
  unfold partQ at h
  cases hA : i.agg with
  | true =>
    simp only [hA, cond_true] at h
    cases hb : Nat.ble (off + i.size) cs.length with
    | false => simp [hb] at h
    | true =>
      simp only [hb, cond_true, Option.some.injEq] at h
      subst h
      exact Sc_agg.2 fun v hv => hs v (List.mem_of_mem_drop (List.mem_of_mem_take (by simpa using hv)))
  | false =>
    simp only [hA, cond_false] at h
    exact hs v (List.mem_of_getElem? h)

theorem toList_eq (s : ByteArray) : s.toList = s.data.toList := by rw [ByteArray.toList_eq]

/-- The loop over an array's places, written out. -/
def eqElems (d : Nat) (e : TypeId) (sz : Nat) (xs ys : Array Value) : Nat → Nat → Sem Bool
  | _, 0 => pure true
  | k, m + 1 => do
    let a ← part e xs (k * sz)
    let b ← part e ys (k * sz)
    let r ← Op.equalIn d e a b
    if (!r) = true then pure false else eqElems d e sz xs ys (k + 1) m

theorem run_equalIn_array {P : Program} (w : World) (d : Nat) (t e len : Nat) (xs ys : Array Value) (sz : Nat) (ht : P.underlying t = some (.array len e)) (hs : ∀ w, (Go.sizeOf e).run P w = .ok sz w) :
    (Op.equalIn (d + 1) t (.agg xs) (.agg ys)).run P w = (eqElems d e sz xs ys 0 len).run P w := by
  simp only [Op.equalIn, Sem.run_bind, run_underlying ht, Result.andThen_ok, hs]
  rw [Std.Legacy.Range.forIn_eq_forIn_range']
  simp only [Std.Legacy.Range.size, Nat.sub_zero, Nat.add_sub_cancel, Nat.div_one]
  have key : ∀ (m k : Nat) (w : World), ((forIn (List.range' k m) ((none, ()) : Option Bool × Unit) (fun i r => do
        let a ← part e xs (i * sz)
        let b ← part e ys (i * sz)
        let q ← Op.equalIn d e a b
        if (!q) = true then pure (ForInStep.done (some false, ())) else pure (ForInStep.yield (none, ()))) : Sem _).run P w).andThen (fun r w' => (match r.1 with
          | some a => pure a
          | none => pure true : Sem Bool).run P w') = (eqElems d e sz xs ys k m).run P w := by
    intro m
    induction m with
    | zero => intro k w; simp [eqElems]
    | succ m ih =>
      intro k w
      simp only [List.range'_succ, List.forIn_cons, eqElems, Sem.run_bind]
      generalize (part e xs (k * sz)).run P w = r1
      cases r1 with
      | halt x w1 => simp [Result.andThen]
      | ok a w1 =>
        simp only [Result.andThen_ok]
        generalize (part e ys (k * sz)).run P w1 = r2
        cases r2 with
        | halt x w2 => simp [Result.andThen]
        | ok b w2 =>
          simp only [Result.andThen_ok]
          generalize (Op.equalIn d e a b).run P w2 = r3
          cases r3 with
          | halt x w3 => simp [Result.andThen]
          | ok q w3 =>
            cases q
            · simp
            · simp only [Result.andThen_ok, Bool.not_true, Bool.false_eq_true, if_false, Sem.run_pure]
              exact ih (k + 1) w3
  refine Eq.trans ?_ (key len 0 w)
  congr 1
  funext r w'
  obtain ⟨r1, r2⟩ := r
  cases r1 <;> rfl


theorem eqOk_of {E : Env} {t : Nat} {i : TyI} (ht : E.ty t = some i) {b : Bool} (h : (bif i.eqok then some b else none : Option Bool).isSome = true) : i.eqok = true := by
  cases hq : i.eqok <;> simp_all

theorem equalIn_sound (E : Env) (ρ : Nat → Loc) : ∀ (n : Nat) (t : Nat) (x y : Value) (b : Bool), eqQ E.ty n t x y = some b → ∀ (d : Nat) (w : World), (Op.equalIn (n + d) t (ren ρ x) (ren ρ y)).run E.P w = .ok b w := by
  intro n
  induction n with
  | zero => intro t x y b h; simp [eqQ] at h
  | succ n ih =>
    intro t x y b h d w
    rw [show n + 1 + d = (n + d) + 1 by omega]
    unfold eqQ at h
    cases ht : E.ty t with
    | none => simp [ht] at h
    | some i =>
      simp only [ht] at h
      have hu := run_und E ht
      have hd := und_eq E ht
      split at h
      case h_1 a c hdesc => simp only [Option.some.injEq] at h; subst h; simp [Op.equalIn, hu, hdesc]
      case h_2 k0 k a k' c hdesc =>
        split at h
        · simp only [Option.some.injEq] at h; subst h; simp_all [Op.equalIn]
        · cases h
      case h_3 a c hdesc => simp only [Option.some.injEq] at h; subst h; simp [Op.equalIn, hu, hdesc, beq_toListBytes, toList_eq]
      case h_4 e bb hdesc => simp only [Option.some.injEq] at h; subst h; cases bb <;> simp [Op.equalIn, hu, hdesc]
      case h_5 e a hdesc => simp only [Option.some.injEq] at h; subst h; simp [Op.equalIn, hu, hdesc]
      case h_6 e a c hdesc =>
        split at h
        · rename_i j hj
          split at h
          · rename_i hc
            simp only [Option.some.injEq] at h; subst h
            have hblk : (renA ρ a).block = (renA ρ c).block := by simp [renA, hc.2]
            have hdec : (renA ρ a == renA ρ c) = (a == c) := by
              rw [Bool.eq_iff_iff]
              simp only [beq_iff_eq]
              constructor
              · intro e'
                cases a; cases c
                simp only [renA, Addr.mk.injEq] at e' hc ⊢
                refine ⟨hc.2, ?_, e'.2.2⟩
                have := e'.2.1
                rw [hc.2] at this
                omega
              · intro e'; rw [e']
            simp [Op.equalIn, hu, hdesc, run_sz E hj, hc.1, sameAddr, hblk, hdec]
          · cases h
        · cases h
      case h_7 m t' v hdesc => simp only [Option.some.injEq] at h; subst h; simp [Op.equalIn, hu, hdesc]
      case h_8 m t' v hdesc => simp only [Option.some.injEq] at h; subst h; simp [Op.equalIn, hu, hdesc]
      case h_9 e l c bb l' c' hdesc => simp only [Option.some.injEq] at h; subst h; cases bb <;> simp [Op.equalIn, hu, hdesc]
      case h_10 e a l c l' c' hdesc => simp only [Option.some.injEq] at h; subst h; simp [Op.equalIn, hu, hdesc]
      case h_11 k e bb hdesc => simp only [Option.some.injEq] at h; subst h; cases bb <;> simp [Op.equalIn, hu, hdesc]
      case h_12 k e a hdesc => simp only [Option.some.injEq] at h; subst h; simp [Op.equalIn, hu, hdesc]
      case h_13 hdesc => simp only [Option.some.injEq] at h; subst h; simp [Op.equalIn, hu, hdesc]
      case h_14 hdesc => simp only [Option.some.injEq] at h; subst h; simp [Op.equalIn, hu, hdesc]
      case h_15 hdesc => simp only [Option.some.injEq] at h; subst h; simp [Op.equalIn, hu, hdesc]
      case h_16 fs xs ys hdesc =>
        cases hq : i.eqok with
        | false => simp [hq] at h
        | true =>
          simp only [hq, cond_true] at h
          have hst := (E.eqOk t i ht hq).1
          simp only [ren_agg]
          have hf : E.P.fieldsOf t = fs := by simp [Program.fieldsOf, hd, hdesc]
          rw [run_equalIn_struct w (n + d) t _ _ (by rw [hd, hdesc, hf]) hst, hf]
          clear hf hdesc
          revert h
          generalize fs.toList = l
          induction l with
          | nil => intro h; simp only [eqQ.fieldsQ, Option.some.injEq] at h; subst h; simp [Op.eqFields]
          | cons f r ihr =>
            intro h
            simp only [eqQ.fieldsQ] at h
            split at h
            · rename_i hn
              simp only [Op.eqFields, hn, ne_eq, not_true_eq_false, if_false]
              exact ihr h
            · rename_i hn
              cases hft : E.ty f.type with
              | none => simp [hft] at h
              | some j =>
                simp only [hft] at h
                split at h
                · rename_i va vb hva hvb
                  have h1 := run_part E hft (ρ := ρ) hva
                  have h2 := run_part E hft (ρ := ρ) hvb
                  simp only [Array.toList_map, ← List.map_toArray, Array.toArray_toList] at h1 h2
                  cases hab : eqQ E.ty n f.type va vb with
                  | none => simp [hab] at h
                  | some r' =>
                    simp only [hab] at h
                    have h3 := ih f.type va vb r' hab d w
                    cases r' with
                    | true =>
                      simp only [Op.eqFields, ne_eq, hn, not_false_eq_true, if_true, Sem.run_bind, h1, h2, h3, Result.andThen_ok, Bool.not_true, Bool.false_eq_true, if_false]
                      exact ihr h
                    | false =>
                      simp only [Option.some.injEq] at h
                      subst h
                      simp only [Op.eqFields, ne_eq, hn, not_false_eq_true, if_true, Sem.run_bind, h1, h2, h3, Result.andThen_ok, Bool.not_false, Sem.run_pure]
                · cases h
      case h_17 len e xs ys hdesc =>
        cases hq : i.eqok with
        | false => simp [hq] at h
        | true =>
          simp only [hq, cond_true] at h
          cases hj : E.ty e with
          | none => simp [hj] at h
          | some j =>
            simp only [hj] at h
            simp only [ren_agg]
            rw [run_equalIn_array w (n + d) t e len _ _ j.size (by rw [hd, hdesc]) (run_sz E hj)]
            have key : ∀ (m k : Nat) (b : Bool), eqQ.elemsQ (eqQ E.ty n e) j xs.toList ys.toList k m = some b → (eqElems (n + d) e j.size (xs.map (ren ρ)) (ys.map (ren ρ)) k m).run E.P w = .ok b w := by
              intro m
              induction m with
              | zero => intro k b h; simp only [eqQ.elemsQ, Option.some.injEq] at h; subst h; simp [eqElems]
              | succ m ihm =>
                intro k b h
                simp only [eqQ.elemsQ] at h
                split at h
                · rename_i va vb hva hvb
                  have h1 := run_part E hj (ρ := ρ) hva
                  have h2 := run_part E hj (ρ := ρ) hvb
                  simp only [Array.toList_map, ← List.map_toArray, Array.toArray_toList] at h1 h2
                  cases hab : eqQ E.ty n e va vb with
                  | none => simp [hab] at h
                  | some r' =>
                    simp only [hab] at h
                    have h3 := ih e va vb r' hab d w
                    cases r' with
                    | true =>
                      simp only [eqElems, Sem.run_bind, h1, h2, h3, Result.andThen_ok, Bool.not_true, Bool.false_eq_true, if_false]
                      exact ihm (k + 1) b h
                    | false =>
                      simp only [Option.some.injEq] at h
                      subst h
                      simp only [eqElems, Sem.run_bind, h1, h2, h3, Result.andThen_ok, Bool.not_false, if_true, Sem.run_pure]
                · cases h
            exact key len 0 b h
      case h_18 => cases h

end
end AH
end

section
/-
  AH 6: the quiet operations, one by one, continued.
-/
set_option linter.unusedSimpArgs false
set_option linter.unusedVariables false
namespace AH
open Go
noncomputable section

theorem intOp_sound (P : Program) {op : BinOp} {k : IntKind} {x y : Int} {v : Value} (h : intOp op k x y = some v) (hs : op ≠ .shl) (hs' : op ≠ .shr) (t : Nat) (w : World) :
    (Go.binOp op t (.int k x) (.int k y)).run P w = .ok v w ∧ closedV 4 v = true := by
  cases op <;> simp only [intOp, leI_eq, ltI_eq, reduceCtorEq, Option.some.injEq, ne_eq, not_true_eq_false] at h hs hs'
  case quo =>
    split at h
    · cases h
    · rename_i hy; simp only [Option.some.injEq] at h; subst h; simp [Go.binOp, Op.intDiv, hy, closedV]
  case rem =>
    split at h
    · cases h
    · rename_i hy; simp only [Option.some.injEq] at h; subst h; simp [Go.binOp, Op.intDiv, hy, closedV]
  all_goals (subst h; simp [Go.binOp, Op.intArith, Op.intBits, Op.intCmp, closedV])

theorem shOp_sound (P : Program) {op : BinOp} {k k' : IntKind} {x y : Int} {v : Value} (h : shOp op k x y = some v) (t : Nat) (w : World) :
    (Go.binOp op t (.int k x) (.int k' y)).run P w = .ok v w ∧ closedV 4 v = true := by
  unfold shOp at h
  split at h
  · cases h
  · rename_i hy
    cases op <;> simp only [reduceCtorEq, Option.some.injEq] at h
    all_goals (subst h; simp [Go.binOp, Op.shift, hy, closedV])

theorem mkStr_append (x y : ByteArray) : x ++ y = mkStr (x.data.toList ++ y.data.toList) := by
  apply ByteArray.ext
  simp [mkStr]

theorem strOp_sound (P : Program) {op : BinOp} {x y : ByteArray} {v : Value} (h : strOp op x y = some v) (t : Nat) (w : World) :
    (Go.binOp op t (.string x) (.string y)).run P w = .ok v w ∧ closedV 4 v = true := by
  cases op <;> simp only [strOp, reduceCtorEq, Option.some.injEq] at h
  case add =>
    split at h
    · cases h
    · rename_i hl
      simp only [Option.some.injEq] at h
      subst h
      have hl' : ¬ (((x.size + y.size : Nat) : Int) > IntKind.i64.max) := by
        have e1 : IntKind.i64.max = 9223372036854775807 := rfl
        have e2 : x.size = x.data.toList.length := by simp
        have e3 : y.size = y.data.toList.length := by simp
        rw [e1, e2, e3]; exact hl
      simp only [Go.binOp, Op.stringOp]
      rw [if_neg hl', mkStr_append]
      exact ⟨rfl, rfl⟩
  all_goals (subst h; simp [Go.binOp, Op.stringOp, toList_eq, closedV])

theorem ren_eq_nilIface {ρ : Nat → Loc} {x : Value} (h : ren ρ x = .nilIface) : x = .nilIface := by
  cases x with
  | pointer a => cases a <;> simp at h
  | slice a n c => cases a <;> simp at h
  | map a => cases a <;> simp at h
  | _ => simp_all

theorem ren_eq_agg {ρ : Nat → Loc} {x : Value} {cs : Array Value} (h : ren ρ x = .agg cs) : ∃ xs, x = .agg xs := by
  cases x with
  | pointer a => cases a <;> simp at h
  | slice a n c => cases a <;> simp at h
  | map a => cases a <;> simp at h
  | agg xs => exact ⟨xs, rfl⟩
  | _ => simp_all

theorem run_eqGuard_other (P : Program) (w : World) (op : BinOp) (t : Nat) (xo yo : Operand) (x y : Value) (h1 : ¬ (x = .nilIface ∧ y = .nilIface)) (h2 : ∀ xs ys, x = .agg xs → y = .agg ys → P.eqGuardType P.depth t = false) :
    (eqGuard op t xo yo x y).run P w = .ok () w := by
  have key : ∀ op', op' = .eql ∨ op' = .neq → (eqGuard op' t xo yo x y).run P w = .ok () w := by
    intro op' ho
    by_cases hag : ∃ xs ys, x = .agg xs ∧ y = .agg ys
    · obtain ⟨xs, ys, rfl, rfl⟩ := hag
      exact run_eqGuard_agg w op' t xo yo xs ys (h2 xs ys rfl rfl)
    · rcases ho with rfl | rfl
      all_goals
        simp only [eqGuard, Bool.not_true, Bool.false_eq_true, if_false]
        cases x <;> cases y <;> simp_all
  cases op <;> first | exact key _ (.inl rfl) | exact key _ (.inr rfl) | (simp [eqGuard]; done)

theorem binOp_other (ty : Nat → Option TyI) (ρ : Nat → Loc) {n t : Nat} {x y : Value} {b : Bool} (h : eqQ ty (n + 1) t x y = some b) :
    (∃ k a k' c, x = .int k a ∧ y = .int k' c) ∨ (∃ s s', x = .string s ∧ y = .string s') ∨
    ((Go.binOp .eql t (ren ρ x) (ren ρ y)) = (do pure (.bool (← Op.equal t (ren ρ x) (ren ρ y)))) ∧
     (Go.binOp .neq t (ren ρ x) (ren ρ y)) = (do pure (.bool (!(← Op.equal t (ren ρ x) (ren ρ y)))))) := by
  unfold eqQ at h
  cases ht : ty t with
  | none => simp [ht] at h
  | some i =>
    simp only [ht] at h
    split at h
    case h_2 => exact .inl ⟨_, _, _, _, rfl, rfl⟩
    case h_3 => exact .inr (.inl ⟨_, _, rfl, rfl⟩)
    case h_4 e bb _ => refine .inr (.inr ?_); cases bb <;> simp only [ren_nilptr, ren_ptr] <;> exact ⟨rfl, rfl⟩
    case h_9 e l c bb l' c' _ => refine .inr (.inr ?_); cases bb <;> simp only [ren_nilslice, ren_slice] <;> exact ⟨rfl, rfl⟩
    case h_11 k e bb _ => refine .inr (.inr ?_); cases bb <;> simp only [ren_nilmap, ren_map] <;> exact ⟨rfl, rfl⟩
    case h_18 => cases h
    all_goals (refine .inr (.inr ?_); simp only [ren_bool, ren_nilptr, ren_ptr, ren_nilIface, ren_iface, ren_nilslice, ren_slice, ren_nilmap, ren_map, ren_nilFunc, ren_func, ren_agg]; exact ⟨rfl, rfl⟩)

def otherQ (E : Env) (op : BinOp) (t : Nat) (x y : Value) : Option Value :=
  match op with
  | .eql => (match eqQ E.ty 5 t x y with | some b => some (.bool b) | none => none)
  | .neq => (match eqQ E.ty 5 t x y with | some b => some (.bool !b) | none => none)
  | _ => none

theorem binQ_sound (E : Env) (ρ : Nat → Loc) {op : BinOp} {t : Nat} {x y : Value} {v : Value} (h : binQ E op t x y = some v) (xo yo : Operand) (w : World) :
    (do eqGuard op t xo yo (ren ρ x) (ren ρ y); Go.binOp op t (ren ρ x) (ren ρ y)).run E.P w = .ok v w ∧ closedV 4 v = true := by
  have other : ∀ b, eqQ E.ty 5 t x y = some b → (eqGuard op t xo yo (ren ρ x) (ren ρ y)).run E.P w = .ok () w ∧
      (Op.equal t (ren ρ x) (ren ρ y)).run E.P w = .ok b w := by
    intro b hb
    refine ⟨run_eqGuard_other E.P w op t xo yo _ _ (fun ⟨e1, e2⟩ => ?_) (fun xs ys e1 e2 => ?_), equalIn_sound E ρ 5 t x y b hb 9995 w⟩
    · have e1 := ren_eq_nilIface e1
      have e2 := ren_eq_nilIface e2
      subst e1; subst e2
      unfold eqQ at hb
      cases ht : E.ty t with
      | none => simp [ht] at hb
      | some i => simp only [ht] at hb; split at hb <;> simp_all
    · obtain ⟨xs', rfl⟩ := ren_eq_agg e1
      obtain ⟨ys', rfl⟩ := ren_eq_agg e2
      unfold eqQ at hb
      cases ht : E.ty t with
      | none => simp [ht] at hb
      | some i =>
        simp only [ht] at hb
        refine (E.eqOk t i ht ?_).2
        cases hq : i.eqok with
        | true => rfl
        | false => split at hb <;> simp_all
  by_cases hint : ∃ k a k' b, x = .int k a ∧ y = .int k' b
  · obtain ⟨k, a, k', b, rfl, rfl⟩ := hint
    rw [ren_int, ren_int]
    simp only [Sem.run_bind, run_eqGuard_other E.P w op t xo yo (.int k a) (.int k' b) (by simp) (by simp), Result.andThen_ok]
    unfold binQ at h
    simp only at h
    split at h
    · exact shOp_sound E.P h t w
    · exact shOp_sound E.P h t w
    · rename_i h1 h2
      split at h
      · rename_i hk; subst hk; exact intOp_sound E.P h (fun e => h1 e) (fun e => h2 e) t w
      · cases h
  · by_cases hstr : ∃ a b, x = .string a ∧ y = .string b
    · obtain ⟨a, b, rfl, rfl⟩ := hstr
      rw [ren_string, ren_string]
      simp only [Sem.run_bind, run_eqGuard_other E.P w op t xo yo (.string a) (.string b) (by simp) (by simp), Result.andThen_ok]
      exact strOp_sound E.P h t w
    · have h' : otherQ E op t x y = some v := by
        rw [← h]
        unfold binQ
        split
        · exact absurd ⟨_, _, _, _, rfl, rfl⟩ hint
        · exact absurd ⟨_, _, rfl, rfl⟩ hstr
        · rfl
      clear h
      unfold otherQ at h'
      split at h'
      · split at h'
        · rename_i b hb
          simp only [Option.some.injEq] at h'
          subst h'
          obtain ⟨m1, m2⟩ := other b hb
          rcases binOp_other E.ty ρ hb with ⟨k, a, k', c, e⟩ | ⟨a, c, e⟩ | ⟨e, _⟩
          · exact absurd ⟨k, a, k', c, e⟩ hint
          · exact absurd ⟨a, c, e⟩ hstr
          · simp [m1, e, m2, closedV]
        · cases h'
      · split at h'
        · rename_i b hb
          simp only [Option.some.injEq] at h'
          subst h'
          obtain ⟨m1, m2⟩ := other b hb
          rcases binOp_other E.ty ρ hb with ⟨k, a, k', c, e⟩ | ⟨a, c, e⟩ | ⟨_, e⟩
          · exact absurd ⟨k, a, k', c, e⟩ hint
          · exact absurd ⟨a, c, e⟩ hstr
          · simp [m1, e, m2, closedV]
        · cases h'
      · cases h'

end
end AH
end

section
/-
  AH 7: the quiet operations, the rest.
-/
set_option linter.unusedSimpArgs false
set_option linter.unusedVariables false
namespace AH
open Go
noncomputable section

theorem unQ_sound (P : Program) (ρ : Nat → Loc) {op : UnOp} {x v : Value} (h : unQ op x = some v) (w : World) : (Op.unary op (ren ρ x)).run P w = .ok v w ∧ closedV 4 v = true := by
  unfold unQ at h
  split at h
  · simp only [Option.some.injEq] at h; subst h; simp [Op.unary, Op.intArith, closedV]
  · rename_i k n
    simp only [intOp, Option.some.injEq] at h; subst h; simp [Op.unary, Op.intBits, closedV]
  · simp only [Option.some.injEq] at h; subst h; simp [Op.unary, closedV]
  · cases h

theorem convQ_sound (E : Env) (ρ : Nat → Loc) {s d : Nat} {x v : Value} (h : convQ E s d x = some v) (w : World) : (convert s d (ren ρ x)).run E.P w = .ok v w ∧ closedV 4 v = true := by
  unfold convQ at h
  cases hs : E.ty s with
  | none => simp [hs] at h
  | some i =>
    cases hd : E.ty d with
    | none => simp [hs, hd] at h
    | some j =>
      simp only [hs, hd] at h
      split at h
      · rename_i k k' n hk
        simp only [Option.some.injEq] at h; subst h
        simp [convert, run_und E hs, run_und E hd, hk, Conv.intToInt, closedV]
      · rename_i s' hk
        simp only [Option.some.injEq] at h; subst h
        simp [convert, run_und E hs, run_und E hd, hk, closedV]
      · cases h

theorem idx_sound (P : Program) (ρ : Nat → Loc) {b : Value} {d y m : Nat} (h : idx (some b) d y = some m) (c : BoundsCode) (w : World) : (Instr.sliceBound (ren ρ b) y c).run P w = .ok m w ∧ m ≤ y := by
  unfold idx at h
  split at h
  · rename_i e; cases e
  · rename_i k i e
    cases e
    split at h
    · rename_i hi
      simp only [Option.some.injEq] at h; subst h
      refine ⟨?_, by omega⟩
      simp [Instr.sliceBound, asIntOf, hi]
    · cases h
  · cases h

theorem run_bounds (P : Program) (ρ : Nat → Loc) (isSlice : Bool) (len cap : Nat) {lo hi mx : Option Value} {l h m : Nat} (hm : idx mx cap cap = some m) (hh : idx hi len m = some h) (hl : idx lo 0 h = some l) (hx : ¬ (mx.isSome = true ∧ hi.isNone = true)) (w : World) :
    (Instr.sliceBounds isSlice len cap (lo.map (ren ρ)) (hi.map (ren ρ)) (mx.map (ren ρ))).run P w = .ok (l, h, m) w := by
  cases mx with
  | none =>
    simp only [idx, Option.some.injEq] at hm
    subst hm
    cases hi with
    | none =>
      simp only [idx, Option.some.injEq] at hh
      subst hh
      cases lo with
      | none => simp only [idx, Option.some.injEq] at hl; subst hl; simp [Instr.sliceBounds]
      | some lo => simp [Instr.sliceBounds, (idx_sound P ρ hl _ w).1]
    | some hi =>
      have h2 := fun c => (idx_sound P ρ hh c w).1
      cases lo with
      | none => simp only [idx, Option.some.injEq] at hl; subst hl; simp [Instr.sliceBounds, h2]
      | some lo => simp [Instr.sliceBounds, h2, (idx_sound P ρ hl _ w).1]
  | some mx =>
    have h1 := fun c => (idx_sound P ρ hm c w).1
    cases hi with
    | none => simp at hx
    | some hi =>
      have h2 := fun c => (idx_sound P ρ hh c w).1
      cases lo with
      | none => simp only [idx, Option.some.injEq] at hl; subst hl; simp [Instr.sliceBounds, h1, h2]
      | some lo => simp [Instr.sliceBounds, h1, h2, (idx_sound P ρ hl _ w).1]

theorem idx_le {b : Option Value} {d y m : Nat} (h : idx b d y = some m) (hd : d ≤ y) : m ≤ y := by
  unfold idx at h
  split at h
  · simp only [Option.some.injEq] at h; omega
  · split at h
    · simp only [Option.some.injEq] at h; omega
    · cases h
  · cases h

theorem sliceAt_eq (E : Env) {t : Nat} {i : TyI} (ht : E.ty t = some i) (x : Value) (lo hi mx : Option Value) (w : World) :
    (Instr.sliceAt t x lo hi mx).run E.P w = (match i.desc with
      | .array n elem => (do
        let a ← Instr.sureAddr x
        let (l, h, m) ← Instr.sliceBounds false n n lo hi mx
        let size ← Go.sizeOf elem
        pure (.slice (some (if m = l then a else a.add (l * size))) (h - l) (m - l)) : Sem Value)
      | _ => Instr.slice t x lo hi mx).run E.P w := by
  simp only [Instr.sliceAt, Sem.run_bind, run_und E ht, Result.andThen_ok]
  cases i.desc <;> rfl

theorem map_toList_take {α : Type} (l : List α) (a b : Nat) : (l.drop a).take (b - a) = (l.drop a).take (b - a) := rfl

theorem mkStr_extract (s : ByteArray) (l h : Nat) : s.extract l h = mkStr ((s.data.toList.drop l).take (h - l)) := by
  apply ByteArray.ext
  simp [mkStr, ByteArray.data_extract]
  apply Array.ext'
  simp [List.extract]

theorem row_cap {ρ : Nat → Loc} {σ : St} {w : World} (hR : Rel ρ σ w) {b : Nat} {e sz : Nat} {cs : List Value} (h : σ.get b = .row e sz cs) : cs.length ≤ (ρ b).C * sz := by
  have := hR.blk b
  rw [h] at this
  obtain ⟨_, fz, ex, _, h2, _⟩ := this
  omega

theorem sliceQ_sound (E : Env) {ρ : Nat → Loc} {σ : St} {w₀ : World} (hR : Rel ρ σ w₀) {t : Nat} {x v : Value} {lo hi mx : Option Value} (h : sliceQ E σ t x lo hi mx = some v) (hsx : Sc σ.next x) (w : World) :
    (Instr.sliceAt t (ren ρ x) (lo.map (ren ρ)) (hi.map (ren ρ)) (mx.map (ren ρ))).run E.P w = .ok (ren ρ v) w ∧ Sc σ.next v := by
  unfold sliceQ at h
  cases ht : E.ty t with
  | none => simp [ht] at h
  | some i =>
    simp only [ht] at h
    rw [sliceAt_eq E ht]
    split at h
    · rename_i s hdesc
      split at h
      · rename_i hh hidx
        split at h
        · rename_i l hl
          simp only [Option.some.injEq] at h
          subst h
          refine ⟨?_, by simp⟩
          have hsz : s.size = s.data.toList.length := by simp
          have hb := run_bounds E.P ρ false s.size s.size (lo := lo) (hi := hi) (mx := none) (l := l) (h := hh) (m := s.size) (by simp [idx]) (by rw [hsz]; exact hidx) hl (by simp) w
          simp only [Option.map_none] at hb
          simp only [hdesc, ren_string, Instr.slice, Sem.run_bind, run_und E ht, Result.andThen_ok, Option.map_none, Option.isSome_none, Bool.false_eq_true, if_false, Sem.run_pure, hb, mkStr_extract]
        · cases h
      · cases h
    · rename_i e a len cap hdesc
      cases he : E.ty e with
      | none => simp [he] at h
      | some j =>
        simp only [he] at h
        split at h
        · rename_i hcap
          cases hm : idx mx cap cap with
          | none => simp [hm] at h
          | some m =>
            simp only [hm] at h
            split at h
            · cases h
            · rename_i hx
              cases hh : idx hi len m with
              | none => simp [hh] at h
              | some hv =>
                simp only [hh] at h
                cases hl : idx lo 0 hv with
                | none => simp [hl] at h
                | some l =>
                  simp only [hl, Option.some.injEq] at h
                  subst h
                  have hb := run_bounds E.P ρ true len cap hm hh hl hx w
                  have hmc : m ≤ cap := idx_le hm (Nat.le_refl _)
                  cases a with
                  | none =>
                    simp only [hdesc, ren_nilslice, Instr.slice, Sem.run_bind, run_und E ht, Result.andThen_ok, hb, run_sz E he, Sem.run_pure, Option.map_none, ite_self]
                    exact ⟨trivial, by simp⟩
                  | some a =>
                    have hren : renC (ρ a.block).C cap = cap := by simp [renC, hcap]
                    simp only [hdesc, ren_slice, hren, Instr.slice, Sem.run_bind, run_und E ht, Result.andThen_ok, hb, run_sz E he, Sem.run_pure, Option.map_some]
                    by_cases hml : m = l
                    · subst hml
                      simp only [if_true]
                      refine ⟨?_, Sc_slice (Sc_slice_lt hsx)⟩
                      have : renC (ρ a.block).C (m - m) = m - m := by unfold renC; rw [if_pos (by omega)]
                      simp only [ren_slice, this]
                    · simp only [if_neg hml]
                      refine ⟨?_, Sc_slice (by rw [addA_block]; exact Sc_slice_lt hsx)⟩
                      have : renC (ρ (addA a (l * j.size)).block).C (m - l) = m - l := by unfold renC; rw [if_pos (by omega)]
                      simp only [ren_slice, this, renA_addA]
        · rename_i hcap
          split at h
          · rename_i a
            split at h
            · rename_i e' sz cs hrow
              split at h
              · rename_i hc
                obtain ⟨hc1, hc2, hc3, hc4, hc5, hc6⟩ := hc
                cases hh : idx hi len ((cs.length - a.off) / sz) with
                | none => simp [hh] at h
                | some hv =>
                  simp only [hh] at h
                  cases hl : idx lo 0 hv with
                  | none => simp [hl] at h
                  | some l =>
                    simp only [hl] at h
                    split at h
                    · rename_i hor
                      split at h
                      · rename_i hlh
                        simp only [Option.some.injEq] at h
                        subst h
                        have hC := row_cap hR hrow
                        have hren : renC (ρ a.block).C cap = (ρ a.block).C - (unk - cap) := by simp [renC, hcap]
                        have hlenh : len ≤ (cs.length - a.off) / sz := by
                          rw [Nat.le_div_iff_mul_le hc4]; omega
                        have hhv : hv ≤ (cs.length - a.off) / sz := idx_le hh hlenh
                        have hCge : (cs.length - a.off) / sz ≤ (ρ a.block).C - (unk - cap) := by
                          rw [Nat.div_le_iff_le_mul_add_pred hc4]
                          have : sz * ((ρ a.block).C - (unk - cap)) = (ρ a.block).C * sz - (unk - cap) * sz := by
                            rw [Nat.mul_comm, Nat.sub_mul]
                          omega
                        have hh' : idx hi len ((ρ a.block).C - (unk - cap)) = some hv := by
                          unfold idx at hh ⊢
                          split at hh
                          · exact hh
                          · split at hh
                            · rename_i hrng
                              rw [if_pos ⟨hrng.1, by omega⟩]; exact hh
                            · cases hh
                          · cases hh
                        have hb := run_bounds E.P ρ true len ((ρ a.block).C - (unk - cap)) (lo := lo) (hi := hi) (mx := none) (by simp [idx]) hh' hl (by simp) w
                        simp only [Option.map_none] at hb
                        simp only [hdesc, ren_slice, hren, Instr.slice, Sem.run_bind, run_und E ht, Result.andThen_ok, hb, run_sz E he, Sem.run_pure, Option.map_some, Option.map_none]
                        have hcapl : ¬ (cap - l < half) := by unfold half unk at *; omega
                        have hren2 : renC (ρ (addA a (l * j.size)).block).C (cap - l) = (ρ a.block).C - (unk - cap) - l := by
                          rw [addA_block]
                          unfold renC
                          rw [if_neg hcapl]
                          unfold half unk at *
                          omega
                        refine ⟨?_, Sc_slice (by rw [addA_block]; exact Sc_slice_lt hsx)⟩
                        rw [hren2, renA_addA]
                        congr 3
                        split
                        · rename_i hml
                          have hl0 : l = 0 := by
                            rcases hor with h0 | hlt
                            · exact h0
                            · omega
                          subst hl0
                          simp [Addr.add]
                        · rfl
                      · cases h
                    · cases h
              · cases h
            · cases h
          · rename_i mv a
            split at h
            · rename_i e' sz cs hrow
              split at h
              · rename_i hc
                obtain ⟨hc1, hc2, hc3, hc4, hc5, hc6, hc7⟩ := hc
                cases hm : idx (some mv) 0 ((cs.length - a.off) / sz) with
                | none => simp [hm] at h
                | some m =>
                  simp only [hm] at h
                  cases hh : idx hi len m with
                  | none => simp [hh] at h
                  | some hv =>
                    simp only [hh] at h
                    cases hl : idx lo 0 hv with
                    | none => simp [hl] at h
                    | some l =>
                      simp only [hl] at h
                      split at h
                      · rename_i hmh
                        simp only [Option.some.injEq] at h
                        subst h
                        have hC := row_cap hR hrow
                        have hren : renC (ρ a.block).C cap = (ρ a.block).C - (unk - cap) := by simp [renC, hcap]
                        have hmle : m ≤ (cs.length - a.off) / sz := idx_le hm (Nat.zero_le _)
                        have hCge : (cs.length - a.off) / sz ≤ (ρ a.block).C - (unk - cap) := by
                          rw [Nat.div_le_iff_le_mul_add_pred hc4]
                          have : sz * ((ρ a.block).C - (unk - cap)) = (ρ a.block).C * sz - (unk - cap) * sz := by
                            rw [Nat.mul_comm, Nat.sub_mul]
                          omega
                        have hm' : idx (some mv) ((ρ a.block).C - (unk - cap)) ((ρ a.block).C - (unk - cap)) = some m := by
                          cases mv with
                          | int k z =>
                            simp only [idx] at hm ⊢
                            split at hm
                            · rename_i hrng
                              rw [if_pos ⟨hrng.1, by omega⟩]; exact hm
                            · cases hm
                          | _ => simp [idx] at hm
                        have hx : ¬ ((some mv).isSome = true ∧ hi.isNone = true) := by
                          intro ⟨_, h2⟩
                          rw [Option.isNone_iff_eq_none] at h2
                          rw [h2] at hc7
                          cases hc7
                        have hb := run_bounds E.P ρ true len ((ρ a.block).C - (unk - cap)) hm' hh hl hx w
                        simp only [Option.map_some] at hb
                        simp only [hdesc, ren_slice, hren, Instr.slice, Sem.run_bind, run_und E ht, Result.andThen_ok, hb, run_sz E he, Sem.run_pure, Option.map_some]
                        by_cases hml : m = l
                        · subst hml
                          simp only [if_true]
                          refine ⟨?_, Sc_slice (Sc_slice_lt hsx)⟩
                          have : renC (ρ a.block).C (m - m) = m - m := by unfold renC; rw [if_pos (by omega)]
                          simp only [ren_slice, this]
                        · simp only [if_neg hml]
                          refine ⟨?_, Sc_slice (by rw [addA_block]; exact Sc_slice_lt hsx)⟩
                          have : renC (ρ (addA a (l * j.size)).block).C (m - l) = m - l := by unfold renC; rw [if_pos (by omega)]
                          simp only [ren_slice, this, renA_addA]
                      · cases h
              · cases h
            · cases h
          · cases h
    · rename_i n e a hdesc
      cases he : E.ty e with
      | none => simp [he] at h
      | some j =>
        cases hm : idx mx n n with
        | none => simp [he, hm] at h
        | some m =>
          simp only [he, hm] at h
          split at h
          · cases h
          · rename_i hx
            cases hh : idx hi n m with
            | none => simp [hh] at h
            | some hv =>
              simp only [hh] at h
              cases hl : idx lo 0 hv with
              | none => simp [hl] at h
              | some l =>
                simp only [hl] at h
                split at h
                · rename_i hn
                  simp only [Option.some.injEq] at h
                  subst h
                  have hb := run_bounds E.P ρ false n n hm hh hl hx w
                  have hmc : m ≤ n := idx_le hm (Nat.le_refl _)
                  have hlt := Sc_ptr_lt hsx
                  simp only [hdesc, ren_ptr, Instr.sureAddr, Sem.run_bind, Sem.run_pure, Result.andThen_ok, hb, run_sz E he]
                  by_cases hml : m = l
                  · subst hml
                    simp only [if_true]
                    refine ⟨?_, Sc_slice hlt⟩
                    have : renC (ρ a.block).C (m - m) = m - m := by unfold renC; rw [if_pos (by omega)]
                    simp only [ren_slice, this]
                  · simp only [if_neg hml]
                    refine ⟨?_, Sc_slice (by rw [addA_block]; exact hlt)⟩
                    have : renC (ρ (addA a (l * j.size)).block).C (m - l) = m - l := by unfold renC; rw [if_pos (by omega)]
                    simp only [ren_slice, this, renA_addA]
                · cases h
    · cases h

end
end AH
end

section
/-
  AH 8: the quiet operations, the last ones; all of them together.
-/
set_option linter.unusedSimpArgs false
set_option linter.unusedVariables false
namespace AH
open Go
noncomputable section

theorem ren_cells (ρ : Nat → Loc) (v : Value) : (ren ρ v).cells = v.cells.map (ren ρ) := by
  cases v with
  | pointer a => cases a <;> simp [Value.cells]
  | slice a n c => cases a <;> simp [Value.cells]
  | map a => cases a <;> simp [Value.cells]
  | _ => simp [Value.cells]

theorem Sc_cells {n : Nat} {v : Value} (h : Sc n v) : Scs n v.cells.toList := by
  cases v with
  | agg cs => exact Sc_agg.1 h
  | _ => intro u hu; simp [Value.cells] at hu; subst hu; exact h

theorem fieldQ_sound (E : Env) (ρ : Nat → Loc) {n s : Nat} {x v : Value} {k : Nat} (h : fieldQ E s x k = some v) (hs : Sc n x) (w : World) : (Instr.fieldAt s (ren ρ x) k).run E.P w = .ok (ren ρ v) w ∧ Sc n v := by
  unfold fieldQ at h
  split at h
  · rename_i i a ht
    split at h
    · rename_i fs hd
      split at h
      · rename_i f hf
        split at h
        · rename_i j hj
          split at h
          · cases h
          · rename_i hz
            simp only [Option.some.injEq] at h; subst h
            refine ⟨?_, Sc_ptr (by rw [addA_block]; exact Sc_ptr_lt hs)⟩
            have hf' : fs[k]? = some f := by rw [← hf]; simp
            simp [Instr.fieldAt, run_und E ht, hd, hf', Instr.sureAddr, fieldPlace, run_sz E hj, hz, renA_addA]
        · cases h
      · cases h
    · cases h
  · cases h

theorem fieldV_sound (E : Env) (ρ : Nat → Loc) {n s : Nat} {x v : Value} {k : Nat} (h : fieldV E s x k = some v) (hs : Sc n x) (w : World) : (Instr.field s (ren ρ x) k).run E.P w = .ok (ren ρ v) w ∧ Sc n v := by
  unfold fieldV at h
  split at h
  · rename_i i cs ht
    split at h
    · rename_i fs hd
      split at h
      · rename_i f hf
        split at h
        · rename_i j hj
          have hf' : fs[k]? = some f := by rw [← hf]; simp
          refine ⟨?_, partQ_sc h (Sc_agg.1 hs)⟩
          have hp := run_part E hj (ρ := ρ) h w
          simp only [Array.toList_map, ← List.map_toArray, Array.toArray_toList] at hp
          simp [Instr.field, run_und E ht, hd, hf', asAgg, hp]
        · cases h
      · cases h
    · cases h
  · cases h

theorem indexAddrQ_sound (E : Env) (ρ : Nat → Loc) {n t : Nat} {x i v : Value} (h : indexAddrQ E t x i = some v) (hs : Sc n x) (w : World) : (Instr.indexAt t (ren ρ x) (ren ρ i)).run E.P w = .ok (ren ρ v) w ∧ Sc n v := by
  unfold indexAddrQ at h
  split at h
  · rename_i ti k m ht
    split at h
    · rename_i e a len cap hd
      split at h
      · rename_i j hj
        split at h
        · rename_i hm
          simp only [Option.some.injEq] at h; subst h
          refine ⟨?_, Sc_ptr (by rw [addA_block]; exact Sc_slice_lt hs)⟩
          simp [Instr.indexAt, asIntOf, run_und E ht, hd, hm.1, hm.2, run_sz E hj, renA_addA]
        · cases h
      · cases h
    · rename_i len e a hd
      split at h
      · rename_i j hj
        split at h
        · rename_i hm
          simp only [Option.some.injEq] at h; subst h
          refine ⟨?_, Sc_ptr (by rw [addA_block]; exact Sc_ptr_lt hs)⟩
          simp [Instr.indexAt, asIntOf, run_und E ht, hd, hm.1, hm.2, run_sz E hj, renA_addA, Instr.sureAddr]
        · cases h
      · cases h
    · cases h
  · cases h

theorem arrQ_sound (E : Env) (ρ : Nat → Loc) {n t : Nat} {x v : Value} (h : arrQ E t x = some v) (hs : Sc n x) (w : World) : (Instr.arrayAt t (ren ρ x)).run E.P w = .ok (ren ρ v) w ∧ Sc n v := by
  unfold arrQ at h
  split at h
  · rename_i ti a len c ht
    split at h
    · rename_i k e hd
      cases hb : Nat.ble k len with
      | false => rw [hb] at h; cases h
      | true =>
        rw [hb] at h
        simp only [cond_true, Option.some.injEq] at h
        subst h
        have hle : ¬ len < k := by have := Nat.le_of_ble_eq_true hb; omega
        refine ⟨?_, Sc_ptr (Sc_slice_lt hs)⟩
        simp [Instr.arrayAt, run_und E ht, hd, hle]
    · cases h
  · cases h

theorem indexQ_sound (E : Env) (ρ : Nat → Loc) {n t : Nat} {x i v : Value} (h : indexQ E t x i = some v) (hs : Sc n x) (w : World) : (Instr.index t (ren ρ x) (ren ρ i)).run E.P w = .ok (ren ρ v) w ∧ Sc n v := by
  unfold indexQ at h
  split at h
  · rename_i ti k m ht
    split at h
    · rename_i len e cs hd
      split at h
      · rename_i j hj
        split at h
        · rename_i hm
          have hp := run_part E hj (ρ := ρ) h w
          simp only [Array.toList_map, ← List.map_toArray, Array.toArray_toList] at hp
          refine ⟨?_, partQ_sc h (Sc_agg.1 hs)⟩
          simp [Instr.index, asIntOf, run_und E ht, hd, hm.1, hm.2, run_sz E hj, hp]
        · cases h
      · cases h
    · rename_i s hd
      split at h
      · rename_i hm
        split at h
        · rename_i b hb
          simp only [Option.some.injEq] at h; subst h
          refine ⟨?_, by simp⟩
          have hb' : s[m.toNat]? = some b := by
            rw [← hb, Array.getElem?_toList, getElem?_def, getElem?_def]
            rfl
          simp [Instr.index, asIntOf, run_und E ht, hd, hm, hb']
        · cases h
      · cases h
    · cases h
  · cases h

theorem run_checkKey (E : Env) {t : Nat} {k : Value} (h : keyOk E t k = true) (ρ : Nat → Loc) (e : Bool) (n : Nat) (w : World) : (Instr.checkKey e (n + 1) t (ren ρ k)).run E.P w = .ok () w := by
  unfold keyOk at h
  split at h
  · rename_i i k' z ht
    split at h
    · rename_i kk hd; simp [Instr.checkKey, run_und E ht, hd]
    · cases h
  · rename_i i s ht
    split at h
    · rename_i hd; simp [Instr.checkKey, run_und E ht, hd]
    · cases h
  · rename_i i b ht
    split at h
    · rename_i hd; simp [Instr.checkKey, run_und E ht, hd]
    · cases h
  · cases h

theorem sameNow_ren (ρ : Nat → Loc) {d : TypeDesc} {k k' : Value} {b : Bool} (h : Instr.sameNow d k k' = some b) : Instr.sameNow d (ren ρ k) (ren ρ k') = some b := by
  unfold Instr.sameNow at h
  split at h
  · rw [ren_int, ren_int]; exact h
  · rw [ren_string, ren_string]; exact h
  · rw [ren_bool, ren_bool]; exact h
  · cases h

theorem findNow_ren (ρ : Nat → Loc) {d : TypeDesc} {k : Value} : ∀ {es : List MapEntry} {i : Nat} {r : Option (Nat × Value)}, findQ d k es i = some r → Instr.findNow d (ren ρ k) (es.map (renE ρ)) i = some (r.map fun p => (p.1, ren ρ p.2))
  | [], i, r, h => by simp only [findQ, Option.some.injEq] at h; subst h; rfl
  | e :: es, i, r, h => by
    simp only [findQ] at h
    simp only [List.map_cons, Instr.findNow, renE]
    split at h
    · rename_i hs; rw [sameNow_ren ρ hs]; simp only [Option.some.injEq] at h; subst h; rfl
    · rename_i hs; rw [sameNow_ren ρ hs]; exact findNow_ren ρ h
    · cases h

theorem findQ_sc {n : Nat} {d : TypeDesc} {k : Value} : ∀ {es : List MapEntry} {i j : Nat} {v : Value}, findQ d k es i = some (some (j, v)) → (∀ e ∈ es, Sc n e.key ∧ Sc n e.val) → Sc n v
  | [], i, j, v, h, hs => by simp [findQ] at h
  | e :: es, i, j, v, h, hs => by
    simp only [findQ] at h
    split at h
    · simp only [Option.some.injEq, Prod.mk.injEq] at h
      rw [← h.2]; exact (hs e (by simp)).2
    · exact findQ_sc h fun e' he' => hs e' (by simp [he'])
    · cases h

theorem findQ_lt {d : TypeDesc} {k : Value} : ∀ {es : List MapEntry} {i j : Nat} {v : Value}, findQ d k es i = some (some (j, v)) → i ≤ j ∧ ∃ e, es[j - i]? = some e ∧ e.val = v ∧ Instr.sameNow d k e.key = some true
  | [], i, j, v, h => by simp [findQ] at h
  | e :: es, i, j, v, h => by
    simp only [findQ] at h
    split at h
    · rename_i hs
      simp only [Option.some.injEq, Prod.mk.injEq] at h
      obtain ⟨rfl, rfl⟩ := h
      exact ⟨Nat.le_refl _, e, by simp, rfl, hs⟩
    · obtain ⟨h1, e', h2, h3⟩ := findQ_lt h
      refine ⟨by omega, e', ?_, h3⟩
      rw [show j - i = (j - (i + 1)) + 1 by omega]
      simpa using h2
    · cases h

theorem run_findKey (E : Env) {t : Nat} {i : TyI} (ht : E.ty t = some i) (ρ : Nat → Loc) {k : Value} {es : List MapEntry} {r : Option (Nat × Value)} (h : findQ i.desc k es 0 = some r) (w : World) :
    (Instr.findKey t (ren ρ k) (es.map (renE ρ))).run E.P w = .ok (r.map fun p => (p.1, ren ρ p.2)) w := by
  simp [Instr.findKey, run_und E ht, findNow_ren ρ h]

theorem lookupQ_sound (E : Env) {ρ : Nat → Loc} {σ : St} {w₀ : World} (hR : Rel ρ σ w₀) {t : Nat} {x k v : Value} {ok : Bool} (h : lookupQ E σ t x k ok = some v) (hs : Sc σ.next x) (w : World)
    (hH : ∀ r es c, x = .map (some r) → σ.get r = .map es c → w.heap[(ρ r).b]? = some (.map (es.map (renE ρ)).toArray c)) :
    (Instr.lookup t (ren ρ x) (ren ρ k) ok).run E.P w = .ok (ren ρ v) w ∧ Sc σ.next v := by
  unfold lookupQ at h
  cases ht : E.ty t with
  | none => simp [ht] at h
  | some i =>
    simp only [ht] at h
    split at h
    · rename_i kt et hd
      split at h
      · rename_i ki ei hki hei hk
        have hz := closedV_ren 4 ei.zero (zero_closed E hei) ρ
        have hzs := closedV_Sc (zero_closed E hei) σ.next
        have hck := fun e w => run_checkKey E hk ρ e 9999 w
        split at h
        · simp only [Option.some.injEq] at h; subst h
          have hfk := run_findKey E hki ρ (k := k) (es := []) (r := none) (by simp [findQ]) w
          simp only [List.map_nil, Option.map_none] at hfk
          constructor
          · simp [Instr.lookup, run_und E ht, hd, hck, hfk, run_zero E hei]
            cases ok <;> simp [hz]
          · cases ok
            · exact hzs
            · exact Sc_tuple.2 (by intro u hu; simp at hu; rcases hu with rfl | rfl; exact hzs; simp)
        · rename_i r
          split at h
          · rename_i es c hσ
            have hheap := hH r es c rfl hσ
            have hgo : (getObj (ρ r).b).run E.P w = .ok (.map (es.map (renE ρ)).toArray c) w := by
              simp [getObj, Sem.run, hheap]
            have hsc : ∀ e ∈ es, Sc σ.next e.key ∧ Sc σ.next e.val := by have := hR.sc r; rw [hσ] at this; exact this
            split at h
            · rename_i j u hf
              simp only [Option.some.injEq] at h; subst h
              have hfk := run_findKey E hki ρ hf w
              simp only [Option.map_some] at hfk
              have hsu := findQ_sc hf hsc
              constructor
              · simp [Instr.lookup, run_und E ht, hd, hck, hgo, hfk]
                cases ok <;> simp
              · cases ok
                · exact hsu
                · exact Sc_tuple.2 (by intro u' hu; simp at hu; rcases hu with rfl | rfl; exact hsu; simp)
            · rename_i hf
              simp only [Option.some.injEq] at h; subst h
              have hfk := run_findKey E hki ρ hf w
              simp only [Option.map_none] at hfk
              constructor
              · simp [Instr.lookup, run_und E ht, hd, hck, hgo, hfk, run_zero E hei]
                cases ok <;> simp [hz]
              · cases ok
                · exact hzs
                · exact Sc_tuple.2 (by intro u hu; simp at hu; rcases hu with rfl | rfl; exact hzs; simp)
            · cases h
          · cases h
        · cases h
      · cases h
    · cases h

theorem lenQ_sound (E : Env) {ρ : Nat → Loc} {σ : St} {t : Nat} {x v : Value} (h : lenQ E σ t x = some v) (ty : Nat) (w : World)
    (hH : ∀ r es c, x = .map (some r) → σ.get r = .map es c → w.heap[(ρ r).b]? = some (.map (es.map (renE ρ)).toArray c)) :
    (Builtin.len_ #[t] ty #[ren ρ x]).run E.P w = .ok v w ∧ closedV 4 v = true := by
  unfold lenQ at h
  cases ht : E.ty t with
  | none => simp [ht] at h
  | some i =>
    simp only [ht] at h
    split at h
    · rename_i s hd; simp only [Option.some.injEq] at h; subst h; simp [Builtin.len_, run_und E ht, hd, goInt, closedV]
    · rename_i n e hd; simp only [Option.some.injEq] at h; subst h; simp [Builtin.len_, run_und E ht, hd, goInt, closedV]
    · rename_i e a n c hd; simp only [Option.some.injEq] at h; subst h; cases a <;> simp [Builtin.len_, run_und E ht, hd, goInt, closedV]
    · rename_i k e hd; simp only [Option.some.injEq] at h; subst h; simp [Builtin.len_, run_und E ht, hd, goInt, closedV]
    · rename_i k e r hd
      split at h
      · rename_i es c hσ
        simp only [Option.some.injEq] at h; subst h
        have hheap := hH r es c rfl hσ
        have hgo : (getObj (ρ r).b).run E.P w = .ok (.map (es.map (renE ρ)).toArray c) w := by simp [getObj, Sem.run, hheap]
        simp [Builtin.len_, run_und E ht, hd, goInt, closedV, hgo]
      · cases h
    · cases h

theorem foldMM_sound (P : Program) (w : World) (mx : Bool) : ∀ {l : List Value} {v u : Value}, foldMM mx v l = some u → (∀ ρ, ∀ (k : IntKind) (z : Int), v = .int k z → (l.map (ren ρ)).foldlM (if mx then Builtin.max2 else Builtin.min2) (ren ρ v) = (l.map (ren ρ)).foldlM (if mx then Builtin.max2 else Builtin.min2) v) ∧
    ((∃ k z, v = .int k z) → ((l.foldlM (if mx then Builtin.max2 else Builtin.min2) v : Sem Value).run P w = .ok u w ∧ (∃ k z, u = .int k z) ∧ ∀ x ∈ l, ∃ k z, x = .int k z))
  | [], v, u, h => by
    simp only [foldMM, Option.some.injEq] at h
    subst h
    exact ⟨fun ρ k z e => by subst e; simp, fun ⟨k, z, e⟩ => ⟨by simp, ⟨k, z, e⟩, by simp⟩⟩
  | x :: r, v, u, h => by
    refine ⟨fun ρ k z e => by subst e; simp, fun ⟨k, z, e⟩ => ?_⟩
    subst e
    unfold foldMM at h
    split at h
    · rename_i e1 e2; cases e2
    · rename_i k' x' k'' y r' e1 e2
      cases e1; cases e2
      obtain ⟨_, h2⟩ := foldMM_sound P w mx h
      obtain ⟨h3, h4, h5⟩ := h2 ⟨_, _, rfl⟩
      refine ⟨?_, h4, ?_⟩
      · rw [List.foldlM_cons]
        cases mx
        · simp only [Bool.false_eq_true, if_false, Builtin.min2, Sem.run_bind, Sem.run_pure, Result.andThen_ok] at h3 ⊢
          exact h3
        · simp only [if_true, Builtin.max2, Sem.run_bind, Sem.run_pure, Result.andThen_ok] at h3 ⊢
          exact h3
      · intro x hx
        rcases List.mem_cons.1 hx with rfl | hx
        · exact ⟨_, _, rfl⟩
        · exact h5 x hx
    · cases h

theorem zipIdx_put (off : Nat) : ∀ (l : List Value) (k : Nat) (A : Array Value), (l.zipIdx k).foldl (fun cs (p : Value × Nat) => cs.setIfInBounds (off + p.2) p.1) A = (putAt A.toList (off + k) l).toArray
  | [], k, A => by simp [putAt, fillQ.putAt]
  | v :: l, k, A => by
    simp only [List.zipIdx_cons, List.foldl_cons]
    rw [zipIdx_put off l (k + 1)]
    simp only [putAt, fillQ.putAt, Array.toList_setIfInBounds]
    rw [show off + (k + 1) = off + k + 1 by omega]

theorem putAt_map (ρ : Nat → Loc) : ∀ (vs cs : List Value) (o : Nat), (putAt cs o vs).map (ren ρ) = putAt (cs.map (ren ρ)) o (vs.map (ren ρ))
  | [], cs, o => by simp [putAt, fillQ.putAt]
  | v :: vs, cs, o => by simp only [putAt, fillQ.putAt, List.map_cons]; rw [show fillQ.putAt = putAt from rfl, putAt_map ρ vs]; simp

theorem putAt_length : ∀ (vs cs : List Value) (o : Nat), (putAt cs o vs).length = cs.length
  | [], cs, o => rfl
  | v :: vs, cs, o => by simp only [putAt, fillQ.putAt]; rw [show fillQ.putAt = putAt from rfl, putAt_length vs]; simp

theorem putAt_sc {n : Nat} : ∀ {vs cs : List Value} {o : Nat}, Scs n cs → Scs n vs → Scs n (putAt cs o vs)
  | [], cs, o, h, _ => h
  | v :: vs, cs, o, h, hv => by
    simp only [putAt, fillQ.putAt]
    refine putAt_sc (vs := vs) (fun x hx => ?_) fun x hx => hv x (by simp [hx])
    rcases List.mem_or_eq_of_mem_set hx with h' | h'
    · exact h x h'
    · rw [h']; exact hv v (by simp)

theorem fillQ_sound (ρ : Nat → Loc) {place : Nat → Option (Nat × Nat)} : ∀ {parts : List (Nat × Value)} {cs cs' : List Value}, fillQ place cs parts = some cs' →
    Instr.fill place (cs.map (ren ρ)).toArray (parts.map fun p => (p.1, ren ρ p.2)) = some (cs'.map (ren ρ)).toArray
  | [], cs, cs', h => by simp only [fillQ, Option.some.injEq] at h; subst h; rfl
  | (i, v) :: rest, cs, cs', h => by
    simp only [fillQ] at h
    simp only [List.map_cons, Instr.fill]
    cases hp : place i with
    | none => simp [hp] at h
    | some os =>
      obtain ⟨off, size⟩ := os
      simp only [hp] at h
      split at h
      · rename_i hc
        have h1 : (ren ρ v).cells.size = v.cells.toList.length := by rw [ren_cells]; simp
        have h2 : ¬ ((decide ((ren ρ v).cells.size ≠ size) || decide (off + (ren ρ v).cells.size > ((cs.map (ren ρ)).toArray).size)) = true) := by
          rw [h1]; simp; simp at hc; omega
        dsimp only
        rw [if_neg h2]
        have := fillQ_sound ρ h
        rw [← this]
        congr 1
        rw [← Array.foldl_toList, ren_cells]
        simp only [Array.toList_zipIdx, Array.toList_map]
        have hz := zipIdx_put off (v.cells.toList.map (ren ρ)) 0 (cs.map (ren ρ)).toArray
        simp only [Nat.add_zero] at hz
        rw [putAt_map]
        exact hz
      · cases h

theorem fillQ_sc {n : Nat} {place : Nat → Option (Nat × Nat)} : ∀ {parts : List (Nat × Value)} {cs cs' : List Value}, fillQ place cs parts = some cs' → Scs n cs → (∀ p ∈ parts, Sc n p.2) → Scs n cs'
  | [], cs, cs', h, hs, _ => by simp only [fillQ, Option.some.injEq] at h; subst h; exact hs
  | (i, v) :: rest, cs, cs', h, hs, hp => by
    simp only [fillQ] at h
    split at h
    · cases h
    · split at h
      · exact fillQ_sc h (putAt_sc hs (Sc_cells (hp (i, v) (by simp)))) fun p hp' => hp p (by simp [hp'])
      · cases h

theorem run_places (E : Env) (w : World) : ∀ {fs : List Field} {pl : List (Nat × Nat)}, places E.ty fs = some pl → (fs.mapM (fun f => do pure (f.offset, ← Go.sizeOf f.type)) : Sem (List (Nat × Nat))).run E.P w = .ok pl w
  | [], pl, h => by simp only [places, Option.some.injEq] at h; subst h; simp
  | f :: r, pl, h => by
    simp only [places] at h
    split at h
    · rename_i j hj
      split at h
      · rename_i l hl
        simp only [Option.some.injEq] at h; subst h
        have := run_places E w hl
        simp only [List.mapM_cons, Sem.run_bind, run_sz E hj, Result.andThen_ok, Sem.run_pure] at this ⊢
        rw [this]; rfl
      · cases h
    · cases h

theorem buildQ_sound (E : Env) (ρ : Nat → Loc) {n t : Nat} {parts : List (Nat × Value)} {v : Value} (h : buildQ E t parts = some v) (hs : ∀ p ∈ parts, Sc n p.2) (w : World) :
    (Instr.build t (parts.map fun p => (p.1, ren ρ p.2)).toArray).run E.P w = .ok (ren ρ v) w ∧ Sc n v := by
  unfold buildQ at h
  cases ht : E.ty t with
  | none => simp [ht] at h
  | some i =>
    simp only [ht] at h
    have hz : i.zero.cells.toList.map (ren ρ) = i.zero.cells.toList := by
      have := ren_cells ρ i.zero
      rw [closedV_ren 4 i.zero (zero_closed E ht) ρ] at this
      conv => rhs; rw [this]
      simp
    have hzs : Scs n i.zero.cells.toList := Sc_cells (closedV_Sc (zero_closed E ht) n)
    split at h
    · rename_i fs hd
      split at h
      · rename_i pl hpl
        split at h
        · rename_i cs hf
          simp only [Option.some.injEq] at h; subst h
          refine ⟨?_, Sc_agg.2 (by simpa using fillQ_sc hf hzs hs)⟩
          have h1 := fillQ_sound ρ hf
          rw [hz] at h1
          have h2 := run_places E w hpl
          have h3 : (fs.mapM (fun f => do pure (f.offset, ← Go.sizeOf f.type)) : Sem (Array (Nat × Nat))).run E.P w = .ok pl.toArray w := by
            rw [Array.mapM_eq_mapM_toList, Sem.run_map, h2]
            rfl
          simp only [Instr.build, Sem.run_bind, run_zero E ht, Result.andThen_ok, run_und E ht, hd, h3]
          simp only [List.getElem?_toArray, Array.toArray_toList] at h1 ⊢
          rw [h1]
          simp
        · cases h
      · cases h
    · rename_i len e hd
      split at h
      · rename_i j hj
        split at h
        · rename_i cs hf
          simp only [Option.some.injEq] at h; subst h
          refine ⟨?_, Sc_agg.2 (by simpa using fillQ_sc hf hzs hs)⟩
          have h1 := fillQ_sound ρ hf
          rw [hz] at h1
          simp only [Array.toArray_toList] at h1
          simp only [Instr.build, Sem.run_bind, run_zero E ht, Result.andThen_ok, run_und E ht, hd, run_sz E hj]
          rw [h1]
          simp
        · cases h
      · cases h
    · cases h

end
end AH
end

section
/-
  AH 9: the quiet operations: all of them.
-/
set_option linter.unusedSimpArgs false
set_option linter.unusedVariables false
namespace AH
open Go
noncomputable section

theorem opHolds_in (E : Env) {f : Fr} {σ : St} {op : Op} : ∀ x ∈ opHolds E f σ op, x.in σ := by
  intro x hx
  unfold opHolds at hx
  split at hx
  · split at hx
    · split at hx
      · rename_i l hl
        obtain ⟨k, v, h1, rfl⟩ := mem_cellHolds hx
        exact ldCells_get hl h1
      · simp at hx
    · simp at hx
  · split at hx
    · split at hx
      · rename_i hσ; simp only [List.mem_singleton] at hx; subst hx; exact hσ
      · simp at hx
    · simp at hx
  · split at hx
    · split at hx
      · split at hx
        · rename_i hσ; simp only [List.mem_singleton] at hx; subst hx; exact hσ
        · simp at hx
      · simp at hx
    · simp at hx
  · simp at hx

theorem arr_of_toList {α : Type} {a : Array α} {l : List α} (h : a.toList = l) : a = l.toArray := Array.ext' (by simp [h])

theorem mm_sound (P : Program) (ρ : Nat → Loc) (w : World) (mx : Bool) {u v : Value} {r : List Value} (h : foldMM mx u r = some v) {n : Nat} (hs : Sc n u) :
    (((r.map (ren ρ)).foldlM (if mx then Builtin.max2 else Builtin.min2) (ren ρ u) : Sem Value).run P w = .ok (ren ρ v) w) ∧ (∀ m, m = n → Sc m v) := by
  cases r with
  | nil =>
    simp only [foldMM, Option.some.injEq] at h
    subst h
    exact ⟨by simp, fun m e => e ▸ hs⟩
  | cons y r =>
    have hu : ∃ k z, u = .int k z := by
      unfold foldMM at h
      split at h
      · rename_i e; cases e
      · exact ⟨_, _, rfl⟩
      · cases h
    obtain ⟨_, h2⟩ := foldMM_sound P w mx h
    obtain ⟨h3, ⟨k, z, rfl⟩, h5⟩ := h2 hu
    obtain ⟨k', z', rfl⟩ := hu
    have e : (y :: r).map (ren ρ) = y :: r := by
      refine (List.map_congr_left fun x hx => ?_).trans (List.map_id' _)
      obtain ⟨k, z, rfl⟩ := h5 x hx
      simp
    rw [e, ren_int, ren_int]
    exact ⟨h3, fun m _ => by simp⟩

theorem run_v {P : Program} {s : Sem Value} {v : Value} {w : World} (h : s.run P w = .ok v w) : ((do pure (.value (← s)) : Sem Next)).run P w = .ok (.value v) w := by
  simp [h]

set_option maxHeartbeats 800000 in
theorem nilAhead_of {P : Program} {t : Nat} {name : String} (h : mthB P t name = true) (v : Value) (w : World) : (nilAhead (P.types.size + Made.depth) t v name).run P w = .ok (some false) w := by
  unfold mthB at h
  split at h
  · rename_i info hi
    split at h
    · rename_i m hm
      split at h
      · rename_i f hp hf
        have hti : (typeInfo t).run P w = .ok info w := by simp [typeInfo, hi]
        show (nilAhead (P.types.size + 99 + 1) t v name).run P w = _
        generalize P.types.size + 99 = N
        simp only [nilAhead, Sem.run_bind, hti, Result.andThen_ok, hm, hp, followBlind, Sem.run_pure, hf]
      · cases h
    · cases h
  · cases h

theorem opQ_sound (E : Env) {ρ : Nat → Loc} {σ : St} {w₀ : World} (hR : Rel ρ σ w₀) {f : Fr} {a : Act} (hF : FrRel ρ f σ.next a) (o : Oper) {v : Value} (h : opQ E f σ o.op = some v) (w : World) (hH : ∀ x ∈ opHolds E f σ o.op, x.at ρ w) :
    (execOp a.eval o).run E.P w = .ok (.value (ren ρ v)) w ∧ Sc σ.next v := by
  obtain ⟨dst, op, type, pos, after, guard⟩ := o
  dsimp only at h hH
  cases op with
  | move x => obtain ⟨h1, h2⟩ := opd_sound hF h; exact ⟨by simp [execOp, h1], h2⟩
  | assign x => obtain ⟨h1, h2⟩ := opd_sound hF h; exact ⟨by simp [execOp, h1], h2⟩
  | pick c x y =>
    simp only [opQ] at h
    split at h
    · rename_i t hc
      obtain ⟨h1, _⟩ := opd_sound hF hc
      cases t with
      | true => simp only [cond_true] at h; obtain ⟨h3, h4⟩ := opd_sound hF h; exact ⟨by simp [execOp, h1, h3, asBool], h4⟩
      | false => simp only [cond_false] at h; obtain ⟨h3, h4⟩ := opd_sound hF h; exact ⟨by simp [execOp, h1, h3, asBool], h4⟩
    · cases h
  | load t x =>
    simp only [opQ] at h
    split at h
    · rename_i ad i hx ht
      obtain ⟨h1, h2⟩ := opd_sound hF hx
      have hl : ∃ l, ldCells σ ad (bif i.agg then i.size else 1) = some l := by
        unfold ldVar at h
        cases hA : i.agg with
        | true => simp only [hA, cond_true] at h ⊢; split at h; exact ⟨_, ‹_›⟩; cases h
        | false => simp only [hA, cond_false] at h ⊢; split at h; exact ⟨_, ‹_›⟩; cases h
      obtain ⟨l, hl⟩ := hl
      have hsc := ldCells_sc hR hl
      have hrun := run_ldVar E (ρ := ρ) (w := w₀) ht h hl (w₂ := w) (by simpa only [opHolds, hx, ht, hl] using hH)
      refine ⟨?_, ?_⟩
      · simp only [execOp, h1, ren_ptr]
        exact run_v (by simp [Instr.loadAt, Instr.sureAddr, hrun])
      · unfold ldVar at h
        cases hA : i.agg with
        | true =>
          simp only [hA, cond_true] at h hl
          rw [hl] at h
          simp only [Option.some.injEq] at h; subst h
          exact Sc_agg.2 (by simpa using hsc)
        | false =>
          simp only [hA, cond_false] at h hl
          rw [hl] at h
          split at h
          · rename_i u e
            simp only [Option.some.injEq] at h e; subst h; subst e
            exact hsc _ (by simp)
          · cases h
    · cases h
  | nilCheck x =>
    simp only [opQ] at h
    split at h
    · rename_i ad hx
      simp only [Option.some.injEq] at h; subst h
      obtain ⟨h1, h2⟩ := opd_sound hF hx
      exact ⟨by simp [execOp, h1], h2⟩
    · rename_i t u hx
      simp only [Option.some.injEq] at h; subst h
      obtain ⟨h1, h2⟩ := opd_sound hF hx
      exact ⟨by simp [execOp, h1], h2⟩
    · rename_i g x1 x2 hx
      simp only [Option.some.injEq] at h; subst h
      obtain ⟨h1, h2⟩ := opd_sound hF hx
      exact ⟨by simp [execOp, h1], h2⟩
    · rename_i name x1 x2 hx
      split at h
      · rename_i t u hl
        cases hb : mthB E.P t name with
        | false => rw [hb] at h; cases h
        | true =>
          rw [hb] at h
          simp only [cond_true, Option.some.injEq] at h; subst h
          obtain ⟨h1, h2⟩ := opd_sound hF hx
          refine ⟨?_, h2⟩
          have hfirst : (x1.map (ren ρ))[0]? = some (.iface t (ren ρ u)) := by
            have : x1[0]? = some (.iface t u) := by
              rw [← Array.getElem?_toList, hl]; rfl
            simp [Array.getElem?_map, this]
          have hna := nilAhead_of hb (ren ρ u) w
          simp only [execOp, h1, ren_func, renFn, hfirst]
          simp [Sem.run_bind, hna]
      · cases h
    · cases h
  | binOp op t x y yt =>
    simp only [opQ] at h
    split at h
    · rename_i u1 u2 hx hy
      obtain ⟨h1, _⟩ := opd_sound hF hx
      obtain ⟨h2, _⟩ := opd_sound hF hy
      obtain ⟨h3, h4⟩ := binQ_sound E ρ h x y w
      refine ⟨?_, closedV_Sc h4 _⟩
      simp only [execOp, h1, h2, closedV_ren 4 v h4 ρ]
      exact run_v h3
    · cases h
  | unOp op t x =>
    simp only [opQ] at h
    split at h
    · rename_i u1 hx
      obtain ⟨h1, _⟩ := opd_sound hF hx
      obtain ⟨h3, h4⟩ := unQ_sound E.P ρ h w
      refine ⟨?_, closedV_Sc h4 _⟩
      simp only [execOp, h1, closedV_ren 4 v h4 ρ]
      exact run_v h3
    · cases h
  | convert s d x =>
    simp only [opQ] at h
    split at h
    · rename_i u1 hx
      obtain ⟨h1, _⟩ := opd_sound hF hx
      obtain ⟨h3, h4⟩ := convQ_sound E ρ h w
      refine ⟨?_, closedV_Sc h4 _⟩
      simp only [execOp, h1, closedV_ren 4 v h4 ρ]
      exact run_v h3
    · cases h
  | makeInterface t x =>
    simp only [opQ] at h
    split at h
    · rename_i u i hx ht
      obtain ⟨h1, h2⟩ := opd_sound hF hx
      cases hi : i.iface with
      | true => simp [hi] at h
      | false =>
        simp only [hi, cond_false, Option.some.injEq] at h; subst h
        refine ⟨?_, Sc_iface.2 h2⟩
        simp only [execOp, h1, ren_iface]
        refine run_v ?_
        simp only [Instr.makeInterface, Sem.run_bind, run_und E ht, Result.andThen_ok]
        unfold TyI.iface at hi
        split
        · rename_i hd; simp [hd] at hi
        · simp
    · cases h
  | makeFunc fn first cap =>
    simp only [opQ] at h
    split at h
    · rename_i l1 l2 hx hy
      split at h
      · rename_i g
        simp only [Option.some.injEq] at h; subst h
        obtain ⟨h1, h2⟩ := opds_sound hF hx
        obtain ⟨h3, h4⟩ := opds_sound hF hy
        refine ⟨?_, Sc_func.2 ⟨trivial, by simpa using h2, by simpa using h4⟩⟩
        have e1 : first.map a.eval = (l1.map (ren ρ)).toArray := Array.ext' (by simpa using h1)
        have e2 : cap.map a.eval = (l2.map (ren ρ)).toArray := Array.ext' (by simpa using h3)
        simp [execOp, Instr.makeFunc, e1, e2]
      · rename_i name
        simp only [Option.some.injEq] at h; subst h
        obtain ⟨h1, h2⟩ := opds_sound hF hx
        obtain ⟨h3, h4⟩ := opds_sound hF hy
        refine ⟨?_, Sc_func.2 ⟨trivial, by simpa using h2, by simpa using h4⟩⟩
        have e1 : first.map a.eval = (l1.map (ren ρ)).toArray := Array.ext' (by simpa using h1)
        have e2 : cap.map a.eval = (l2.map (ren ρ)).toArray := Array.ext' (by simpa using h3)
        simp [execOp, Instr.makeFunc, e1, e2, renFn]
      · cases h
    · cases h
  | slice t x lo hi mx =>
    simp only [opQ] at h
    split at h
    · rename_i u l hh m hx hlo hhi hmx
      obtain ⟨h1, h2⟩ := opd_sound hF hx
      obtain ⟨h3, _⟩ := opdO_sound hF hlo
      obtain ⟨h4, _⟩ := opdO_sound hF hhi
      obtain ⟨h5, _⟩ := opdO_sound hF hmx
      obtain ⟨h6, h7⟩ := sliceQ_sound E hR h h2 w
      refine ⟨?_, h7⟩
      simp only [execOp, h1, h3, h4, h5]
      exact run_v h6
    · cases h
  | fieldAddr s x k =>
    simp only [opQ] at h
    split at h
    · rename_i u hx
      obtain ⟨h1, h2⟩ := opd_sound hF hx
      obtain ⟨h3, h4⟩ := fieldQ_sound E ρ h h2 w
      refine ⟨?_, h4⟩
      simp only [execOp, h1]
      exact run_v h3
    · cases h
  | field s x k =>
    simp only [opQ] at h
    split at h
    · rename_i u hx
      obtain ⟨h1, h2⟩ := opd_sound hF hx
      obtain ⟨h3, h4⟩ := fieldV_sound E ρ h h2 w
      refine ⟨?_, h4⟩
      simp only [execOp, h1]
      exact run_v h3
    · cases h
  | indexAddr t x i =>
    simp only [opQ] at h
    split at h
    · rename_i u k hx hi
      obtain ⟨h1, h2⟩ := opd_sound hF hx
      obtain ⟨h5, _⟩ := opd_sound hF hi
      obtain ⟨h3, h4⟩ := indexAddrQ_sound E ρ h h2 w
      refine ⟨?_, h4⟩
      simp only [execOp, h1, h5]
      exact run_v h3
    · cases h
  | sliceToArrayPointer t x =>
    simp only [opQ] at h
    split at h
    · rename_i u hx
      obtain ⟨h1, h2⟩ := opd_sound hF hx
      obtain ⟨h3, h4⟩ := arrQ_sound E ρ h h2 w
      refine ⟨?_, h4⟩
      simp only [execOp, h1]
      exact run_v h3
    · cases h
  | index t x i =>
    simp only [opQ] at h
    split at h
    · rename_i u k hx hi
      obtain ⟨h1, h2⟩ := opd_sound hF hx
      obtain ⟨h5, _⟩ := opd_sound hF hi
      obtain ⟨h3, h4⟩ := indexQ_sound E ρ h h2 w
      refine ⟨?_, h4⟩
      simp only [execOp, h1, h5]
      exact run_v h3
    · cases h
  | lookup t x k ok =>
    simp only [opQ] at h
    split at h
    · rename_i u kv hx hk
      obtain ⟨h1, h2⟩ := opd_sound hF hx
      obtain ⟨h5, _⟩ := opd_sound hF hk
      obtain ⟨h3, h4⟩ := lookupQ_sound E hR h h2 w (fun r es c e hσ => by
        subst e
        exact hH (.map r es c) (by simp [opHolds, hx, hσ]))
      refine ⟨?_, h4⟩
      simp only [execOp, h1, h5]
      exact run_v h3
    · cases h
  | typeAssert x xt at_ ok =>
    simp only [opQ] at h
    split at h
    · rename_i t u i hx ht
      split at h
      · rename_i hc
        obtain ⟨hc1, hc2⟩ := hc
        simp only [Option.some.injEq] at h; subst h
        obtain ⟨h1, h2⟩ := opd_sound hF hx
        have hu := Sc_iface.1 h2
        refine ⟨?_, ?_⟩
        · simp only [execOp, h1, ren_iface]
          refine run_v ?_
          simp only [Instr.typeAssert, Sem.run_bind, run_und E ht, Result.andThen_ok]
          cases hd : i.desc <;> first | (simp [TyI.iface, hd] at hc1; done) | (cases ok <;> simp [hc2])
        · cases ok
          · exact hu
          · exact Sc_tuple.2 (by intro u' hu'; simp at hu'; rcases hu' with rfl | rfl; exact hu; simp)
      · cases h
    · cases h
  | extract x i =>
    simp only [opQ] at h
    split at h
    · rename_i vs hx
      obtain ⟨h1, h2⟩ := opd_sound hF hx
      refine ⟨?_, Sc_tuple.1 h2 v (List.mem_of_getElem? h)⟩
      simp only [execOp, h1, ren_tuple]
      refine run_v ?_
      have h3 : vs[i]? = some v := by rw [← h]; simp
      simp [Instr.extract, h3]
    · cases h
  | build t parts =>
    simp only [opQ] at h
    split at h
    · rename_i ps hps
      obtain ⟨h1, h2⟩ := partsQ_sound hF hps
      obtain ⟨h3, h4⟩ := buildQ_sound E ρ h h2 w
      refine ⟨?_, h4⟩
      have e1 : (parts.map fun (p : Nat × Operand) => (p.1, a.eval p.2)) = (ps.map fun p => (p.1, ren ρ p.2)).toArray := Array.ext' (by simpa using h1)
      simp only [execOp]
      refine run_v ?_
      rw [← h3, ← e1]
    · cases h
  | call c =>
    obtain ⟨callee, args, argTypes⟩ := c
    cases callee with
    | value g => simp [opQ] at h
    | invoke r m => simp [opQ] at h
    | builtin b =>
      cases b <;> simp only [opQ, reduceCtorEq] at h
      case len =>
        split at h
        · rename_i x t hx ht
          split at h
          · rename_i u hu
            have ea := arr_of_toList hx
            have et := arr_of_toList ht
            subst ea; subst et
            obtain ⟨h1, _⟩ := opd_sound hF hu
            obtain ⟨h3, h4⟩ := lenQ_sound E (ρ := ρ) h type w (fun r es c e hσ => by
              subst e
              exact hH (.map r es c) (by simp [opHolds, hu, hσ]))
            refine ⟨?_, closedV_Sc h4 _⟩
            have h1' : a.eval x = ren ρ u := h1
            simp [execOp, resolve, invoke, builtin, h1', h3, closedV_ren 4 v h4 ρ]
          · cases h
        · cases h
      case min =>
        split at h
        · rename_i u r hx
          obtain ⟨h1, h2⟩ := opds_sound hF hx
          obtain ⟨h3, h4⟩ := mm_sound E.P ρ w false h (h2 u (by simp))
          refine ⟨?_, h4 _ rfl⟩
          have e1 : args.map a.eval = ((u :: r).map (ren ρ)).toArray := Array.ext' (by simpa using h1)
          simp only [execOp, resolve, invoke, builtin, e1]
          simp only [Sem.run_bind, Sem.run_pure, Result.andThen_ok, Builtin.min_, List.map_cons]
          simp only [Bool.false_eq_true, if_false] at h3
          simp only [h3, Result.andThen_ok]
        · cases h
      case max =>
        split at h
        · rename_i u r hx
          obtain ⟨h1, h2⟩ := opds_sound hF hx
          obtain ⟨h3, h4⟩ := mm_sound E.P ρ w true h (h2 u (by simp))
          refine ⟨?_, h4 _ rfl⟩
          have e1 : args.map a.eval = ((u :: r).map (ren ρ)).toArray := Array.ext' (by simpa using h1)
          simp only [execOp, resolve, invoke, builtin, e1]
          simp only [Sem.run_bind, Sem.run_pure, Result.andThen_ok, Builtin.max_, List.map_cons]
          simp only [if_true] at h3
          simp only [h3, Result.andThen_ok]
        · cases h
  | _ => simp [opQ] at h

end
end AH
end
