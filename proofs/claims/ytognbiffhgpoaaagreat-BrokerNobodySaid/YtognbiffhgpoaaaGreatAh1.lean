/-
  AH 1: an abstract heap whose blocks are numbered afresh, and its relation to the model's world.
  Nothing here names a program.
-/
import Derived.WalkKit
import Derived.OrdersHeld
set_option linter.unusedSimpArgs false
set_option linter.unusedVariables false
namespace AH
open Go
noncomputable section

/-! ### A trie with natural numbers as keys -/

inductive Tr (α : Type) where
  | leaf
  | node (l : Tr α) (v : Option α) (r : Tr α)

namespace Tr
variable {α : Type}

/-- By the recursor itself: the kernel reckons it quickly. -/
noncomputable def get (t : Tr α) : Nat → Option α :=
  Tr.rec (motive := fun _ => Nat → Option α) (fun _ => none) (fun _ v _ gl gr k => Bool.rec (Bool.rec (gr (k / 2 - 1)) (gl (k / 2)) (Nat.beq (k % 2) 1)) v (Nat.beq k 0)) t

noncomputable def setLeaf (v : α) (n : Nat) : Nat → Tr α :=
  Nat.rec (motive := fun _ => Nat → Tr α) (fun _ => .leaf) (fun _ ih k => Bool.rec (Bool.rec (.node .leaf none (ih (k / 2 - 1))) (.node (ih (k / 2)) none .leaf) (Nat.beq (k % 2) 1)) (.node .leaf (some v) .leaf) (Nat.beq k 0)) n

noncomputable def setGo (v : α) (t : Tr α) : Nat → Tr α :=
  Tr.rec (motive := fun _ => Nat → Tr α) (fun k => setLeaf v (k + 1) k) (fun l o r sl sr k => Bool.rec (Bool.rec (.node l o (sr (k / 2 - 1))) (.node (sl (k / 2)) o r) (Nat.beq (k % 2) 1)) (.node l (some v) r) (Nat.beq k 0)) t

noncomputable def set (t : Tr α) (k : Nat) (v : α) : Tr α := setGo v t k

theorem beq0 (m : Nat) : Nat.beq m 0 = decide (m = 0) := by cases m <;> rfl
theorem beq1 (m : Nat) : Nat.beq (m % 2) 1 = decide (m % 2 = 1) := by rcases Nat.mod_two_eq_zero_or_one m with h | h <;> rw [h] <;> rfl
theorem recB {β : Type} (b : Bool) (x y : β) : (Bool.rec (motive := fun _ => β) y x b) = if b = true then x else y := by cases b <;> rfl

theorem get_leaf (j : Nat) : (Tr.leaf : Tr α).get j = none := rfl
theorem get_node (l r : Tr α) (v : Option α) (k : Nat) : (Tr.node l v r).get k = if k = 0 then v else if k % 2 = 1 then l.get (k / 2) else r.get (k / 2 - 1) := by
  show Bool.rec (motive := fun _ => Option α) (Bool.rec (motive := fun _ => Option α) (r.get (k / 2 - 1)) (l.get (k / 2)) (Nat.beq (k % 2) 1)) v (Nat.beq k 0) = _
  rw [beq0, beq1, recB, recB]
  simp only [decide_eq_true_eq]
theorem setLeaf_succ (v : α) (n k : Nat) : setLeaf v (n + 1) k = if k = 0 then .node .leaf (some v) .leaf else if k % 2 = 1 then .node (setLeaf v n (k / 2)) none .leaf else .node .leaf none (setLeaf v n (k / 2 - 1)) := by
  show Bool.rec (motive := fun _ => Tr α) (Bool.rec (motive := fun _ => Tr α) (.node .leaf none (setLeaf v n (k / 2 - 1))) (.node (setLeaf v n (k / 2)) none .leaf) (Nat.beq (k % 2) 1)) (.node .leaf (some v) .leaf) (Nat.beq k 0) = _
  rw [beq0, beq1, recB, recB]
  simp only [decide_eq_true_eq]
theorem set_leaf (v : α) (k : Nat) : (Tr.leaf : Tr α).set k v = setLeaf v (k + 1) k := rfl
theorem set_node (l r : Tr α) (o : Option α) (v : α) (k : Nat) : (Tr.node l o r).set k v = if k = 0 then .node l (some v) r else if k % 2 = 1 then .node (l.set (k / 2) v) o r else .node l o (r.set (k / 2 - 1) v) := by
  show Bool.rec (motive := fun _ => Tr α) (Bool.rec (motive := fun _ => Tr α) (.node l o (r.set (k / 2 - 1) v)) (.node (l.set (k / 2) v) o r) (Nat.beq (k % 2) 1)) (.node l (some v) r) (Nat.beq k 0) = _
  rw [beq0, beq1, recB, recB]
  simp only [decide_eq_true_eq]

theorem get_setLeaf (v : α) : ∀ (n k j : Nat), k < n → (setLeaf v n k).get j = if k = j then some v else none
  | 0, k, j, h => by omega
  | n + 1, k, j, h => by
    rw [setLeaf_succ]
    by_cases hk : k = 0
    · subst hk
      rw [if_pos rfl, get_node]
      by_cases hj : j = 0
      · subst hj; simp
      · rw [if_neg hj, get_leaf, get_leaf, if_neg (fun e : 0 = j => hj e.symm)]; simp
    · rw [if_neg hk]
      by_cases h1 : k % 2 = 1
      · rw [if_pos h1, get_node]
        by_cases hj : j = 0
        · rw [if_pos hj, if_neg (by omega)]
        · rw [if_neg hj]
          by_cases hj1 : j % 2 = 1
          · rw [if_pos hj1, get_setLeaf v n _ _ (by omega)]
            by_cases e : k = j
            · subst e; simp
            · rw [if_neg e, if_neg (by omega)]
          · rw [if_neg hj1, if_neg (by omega)]; rfl
      · rw [if_neg h1, get_node]
        by_cases hj : j = 0
        · rw [if_pos hj, if_neg (by omega)]
        · rw [if_neg hj]
          by_cases hj1 : j % 2 = 1
          · rw [if_pos hj1, if_neg (by omega)]; rfl
          · rw [if_neg hj1, get_setLeaf v n _ _ (by omega)]
            by_cases e : k = j
            · subst e; simp
            · rw [if_neg e, if_neg (by omega)]

theorem get_set (t : Tr α) (k j : Nat) (v : α) : (t.set k v).get j = if k = j then some v else t.get j := by
  induction t generalizing k j with
  | leaf => rw [set_leaf, get_setLeaf v _ _ _ (Nat.lt_succ_self k)]; rfl
  | node l o r ihl ihr =>
    rw [set_node]
    by_cases hk : k = 0
    · subst hk
      rw [if_pos rfl, get_node, get_node]
      by_cases hj : j = 0
      · subst hj; simp
      · rw [if_neg hj, if_neg hj, if_neg (fun e : 0 = j => hj e.symm)]
    · rw [if_neg hk]
      by_cases h1 : k % 2 = 1
      · rw [if_pos h1, get_node, get_node]
        by_cases hj : j = 0
        · rw [if_pos hj, if_neg (by omega), if_pos hj]
        · rw [if_neg hj, if_neg hj]
          by_cases hj1 : j % 2 = 1
          · rw [if_pos hj1, if_pos hj1, ihl]
            by_cases e : k = j
            · subst e; simp
            · rw [if_neg e, if_neg (by omega)]
          · rw [if_neg hj1, if_neg hj1, if_neg (by omega)]
      · rw [if_neg h1, get_node, get_node]
        by_cases hj : j = 0
        · rw [if_pos hj, if_neg (by omega), if_pos hj]
        · rw [if_neg hj, if_neg hj]
          by_cases hj1 : j % 2 = 1
          · rw [if_pos hj1, if_pos hj1, if_neg (by omega)]
          · rw [if_neg hj1, if_neg hj1, ihr]
            by_cases e : k = j
            · subst e; simp
            · rw [if_neg e, if_neg (by omega)]

theorem get_set_same (t : Tr α) (k : Nat) (v : α) : (t.set k v).get k = some v := by rw [get_set, if_pos rfl]
theorem get_set_ne (t : Tr α) {k j : Nat} (v : α) (h : k ≠ j) : (t.set k v).get j = t.get j := by rw [get_set, if_neg h]
end Tr

/-! ### Values, renumbered -/

/-- Where an abstract block lies: the world's block, from which cell on, and (of a row that grows) how many elements it bears. -/
structure Loc where
  b : Nat
  o : Nat
  C : Nat

/-- From here on a capacity is unknown: 'unk - lo' stands for the row's capacity less lo. -/
def unk : Nat := 9223372036854775808
def half : Nat := 4611686018427387904

def renC (C c : Nat) : Nat := if c < half then c else C - (unk - c)

def renA (ρ : Nat → Loc) (a : Addr) : Addr := { block := (ρ a.block).b, off := (ρ a.block).o + a.off, spot := a.spot }

/-- The yield of a loop names the loop's block. -/
def renFn (ρ : Nat → Loc) : Fn → Fn
  | .yield i => .yield (ρ i).b
  | f => f
def scFn (n : Nat) : Fn → Prop
  | .yield i => i < n
  | _ => True

def ren (ρ : Nat → Loc) : Value → Value
  | .pointer (some a) => .pointer (some (renA ρ a))
  | .slice (some a) n c => .slice (some (renA ρ a)) n (renC (ρ a.block).C c)
  | .map (some r) => .map (some (ρ r).b)
  | .func fn first captured => .func (renFn ρ fn) (first.map (ren ρ)) (captured.map (ren ρ))
  | .iface t v => .iface t (ren ρ v)
  | .agg cs => .agg (cs.map (ren ρ))
  | .tuple vs => .tuple (vs.map (ren ρ))
  | v => v

section
variable (ρ : Nat → Loc)
@[simp] theorem ren_bool (b : Bool) : ren ρ (.bool b) = .bool b := by simp [ren]
@[simp] theorem ren_int (k : IntKind) (n : Int) : ren ρ (.int k n) = .int k n := by simp [ren]
@[simp] theorem ren_string (s : ByteArray) : ren ρ (.string s) = .string s := by simp [ren]
@[simp] theorem ren_nilptr : ren ρ (.pointer none) = .pointer none := by simp [ren]
@[simp] theorem ren_ptr (a : Addr) : ren ρ (.pointer (some a)) = .pointer (some (renA ρ a)) := by simp [ren]
@[simp] theorem ren_nilslice (n c : Nat) : ren ρ (.slice none n c) = .slice none n c := by simp [ren]
@[simp] theorem ren_slice (a : Addr) (n c : Nat) : ren ρ (.slice (some a) n c) = .slice (some (renA ρ a)) n (renC (ρ a.block).C c) := by simp [ren]
@[simp] theorem ren_nilmap : ren ρ (.map none) = .map none := by simp [ren]
@[simp] theorem ren_map (r : Nat) : ren ρ (.map (some r)) = .map (some (ρ r).b) := by simp [ren]
@[simp] theorem ren_func (fn : Fn) (x y : Array Value) : ren ρ (.func fn x y) = .func (renFn ρ fn) (x.map (ren ρ)) (y.map (ren ρ)) := by simp [ren]
@[simp] theorem renFn_func (g : FuncId) : renFn ρ (.func g) = .func g := rfl
@[simp] theorem renFn_yield (i : Nat) : renFn ρ (.yield i) = .yield (ρ i).b := rfl
@[simp] theorem ren_nilFunc : ren ρ .nilFunc = .nilFunc := by simp [ren]
@[simp] theorem ren_iface (t : TypeId) (v : Value) : ren ρ (.iface t v) = .iface t (ren ρ v) := by simp [ren]
@[simp] theorem ren_nilIface : ren ρ .nilIface = .nilIface := by simp [ren]
@[simp] theorem ren_agg (cs : Array Value) : ren ρ (.agg cs) = .agg (cs.map (ren ρ)) := by simp [ren]
@[simp] theorem ren_tuple (cs : Array Value) : ren ρ (.tuple cs) = .tuple (cs.map (ren ρ)) := by simp [ren]
@[simp] theorem ren_float (k : FloatKind) (b : Nat) : ren ρ (.float k b) = .float k b := by simp [ren]
@[simp] theorem ren_complex (k : FloatKind) (b c : Nat) : ren ρ (.complex k b c) = .complex k b c := by simp [ren]
@[simp] theorem ren_chan (r : Option Nat) : ren ρ (.chan r) = .chan r := by simp [ren]
@[simp] theorem ren_undef : ren ρ undef = undef := by simp [undef]
end

/-- A value that names blocks below n alone. -/
def Sc (n : Nat) (v : Value) : Prop := ∀ ρ ρ' : Nat → Loc, (∀ i, i < n → ρ i = ρ' i) → ren ρ v = ren ρ' v

def Scs (n : Nat) (l : List Value) : Prop := ∀ v ∈ l, Sc n v

theorem Sc.mono {n m : Nat} {v : Value} (h : Sc n v) (hm : n ≤ m) : Sc m v := fun ρ ρ' he => h ρ ρ' fun i hi => he i (Nat.lt_of_lt_of_le hi hm)
theorem Scs.mono {n m : Nat} {l : List Value} (h : Scs n l) (hm : n ≤ m) : Scs m l := fun v hv => (h v hv).mono hm
theorem Scs.map_eq {n : Nat} {l : List Value} (h : Scs n l) {ρ ρ' : Nat → Loc} (he : ∀ i, i < n → ρ i = ρ' i) : l.map (ren ρ) = l.map (ren ρ') :=
  List.map_congr_left fun v hv => h v hv ρ ρ' he

@[simp] theorem Sc_bool (n : Nat) (b : Bool) : Sc n (.bool b) := fun _ _ _ => by simp
@[simp] theorem Sc_int (n : Nat) (k : IntKind) (z : Int) : Sc n (.int k z) := fun _ _ _ => by simp
@[simp] theorem Sc_string (n : Nat) (s : ByteArray) : Sc n (.string s) := fun _ _ _ => by simp
@[simp] theorem Sc_nilptr (n : Nat) : Sc n (.pointer none) := fun _ _ _ => by simp
@[simp] theorem Sc_nilslice (n a b : Nat) : Sc n (.slice none a b) := fun _ _ _ => by simp
@[simp] theorem Sc_nilmap (n : Nat) : Sc n (.map none) := fun _ _ _ => by simp
@[simp] theorem Sc_nilFunc (n : Nat) : Sc n .nilFunc := fun _ _ _ => by simp
@[simp] theorem Sc_nilIface (n : Nat) : Sc n .nilIface := fun _ _ _ => by simp
@[simp] theorem Sc_undef (n : Nat) : Sc n undef := fun _ _ _ => by simp
theorem Sc_ptr {n : Nat} {a : Addr} (h : a.block < n) : Sc n (.pointer (some a)) := fun ρ ρ' he => by simp [renA, he _ h]
theorem Sc_slice {n : Nat} {a : Addr} {l c : Nat} (h : a.block < n) : Sc n (.slice (some a) l c) := fun ρ ρ' he => by simp [renA, he _ h]
theorem Sc_map {n r : Nat} (h : r < n) : Sc n (.map (some r)) := fun ρ ρ' he => by simp [he _ h]
theorem Sc_ptr_lt {n : Nat} {a : Addr} (h : Sc n (.pointer (some a))) : a.block < n := by
  rcases Nat.lt_or_ge a.block n with h' | h'
  · exact h'
  · have := h (fun i => ⟨0, 0, 0⟩) (fun i => if i < n then ⟨0, 0, 0⟩ else ⟨1, 0, 0⟩) (fun i hi => by simp [hi])
    simp [renA, Nat.not_lt.2 h'] at this
theorem Sc_slice_lt {n : Nat} {a : Addr} {l c : Nat} (h : Sc n (.slice (some a) l c)) : a.block < n := by
  rcases Nat.lt_or_ge a.block n with h' | h'
  · exact h'
  · have := h (fun i => ⟨0, 0, 0⟩) (fun i => if i < n then ⟨0, 0, 0⟩ else ⟨1, 0, 0⟩) (fun i hi => by simp [hi])
    simp [renA, Nat.not_lt.2 h'] at this
theorem Sc_map_lt {n r : Nat} (h : Sc n (.map (some r))) : r < n := by
  rcases Nat.lt_or_ge r n with h' | h'
  · exact h'
  · have := h (fun i => ⟨0, 0, 0⟩) (fun i => if i < n then ⟨0, 0, 0⟩ else ⟨1, 0, 0⟩) (fun i hi => by simp [hi])
    simp [Nat.not_lt.2 h'] at this
theorem Scs_arr {n : Nat} {cs : Array Value} {f : Array Value → Value} (hf : ∀ ρ, ren ρ (f cs) = f (cs.map (ren ρ))) (hi : ∀ x y, f x = f y → x = y) : Sc n (f cs) ↔ Scs n cs.toList := by
  constructor
  · intro h v hv ρ ρ' he
    have h1 := h ρ ρ' he
    rw [hf, hf] at h1
    have h2 := congrArg Array.toList (hi _ _ h1)
    simp only [Array.toList_map] at h2
    exact List.map_inj_left.1 h2 v hv
  · intro h ρ ρ' he
    rw [hf, hf]
    congr 1
    apply Array.ext'
    simp only [Array.toList_map]
    exact h.map_eq he
theorem Sc_agg {n : Nat} {cs : Array Value} : Sc n (.agg cs) ↔ Scs n cs.toList := Scs_arr (f := .agg) (fun ρ => by simp) (fun _ _ h => by cases h; rfl)
theorem Sc_tuple {n : Nat} {cs : Array Value} : Sc n (.tuple cs) ↔ Scs n cs.toList := Scs_arr (f := .tuple) (fun ρ => by simp) (fun _ _ h => by cases h; rfl)
theorem Sc_iface {n : Nat} {t : TypeId} {v : Value} : Sc n (.iface t v) ↔ Sc n v :=
  ⟨fun h ρ ρ' he => by have := h ρ ρ' he; simpa using this, fun h ρ ρ' he => by simp [h ρ ρ' he]⟩
theorem scFn_iff {n : Nat} {fn : Fn} : scFn n fn ↔ ∀ ρ ρ' : Nat → Loc, (∀ i, i < n → ρ i = ρ' i) → renFn ρ fn = renFn ρ' fn := by
  cases fn with
  | yield i =>
    refine ⟨fun h ρ ρ' he => by simp [he i h], fun h => ?_⟩
    rcases Nat.lt_or_ge i n with h' | h'
    · exact h'
    · have := h (fun i => ⟨0, 0, 0⟩) (fun i => if i < n then ⟨0, 0, 0⟩ else ⟨1, 0, 0⟩) (fun i hi => by simp [hi])
      simp [Nat.not_lt.2 h'] at this
  | _ => exact ⟨fun _ _ _ _ => rfl, fun _ => trivial⟩
theorem Sc_func {n : Nat} {fn : Fn} {x y : Array Value} : Sc n (.func fn x y) ↔ scFn n fn ∧ Scs n x.toList ∧ Scs n y.toList := by
  constructor
  · intro h
    refine ⟨scFn_iff.2 fun ρ ρ' he => ?_, fun v hv ρ ρ' he => ?_, fun v hv ρ ρ' he => ?_⟩
    · have h1 := h ρ ρ' he
      simp only [ren_func, Value.func.injEq] at h1
      exact h1.1
    · have h1 := h ρ ρ' he
      simp only [ren_func, Value.func.injEq] at h1
      have h2 := congrArg Array.toList h1.2.1
      simp only [Array.toList_map] at h2
      exact List.map_inj_left.1 h2 v hv
    · have h1 := h ρ ρ' he
      simp only [ren_func, Value.func.injEq] at h1
      have h2 := congrArg Array.toList h1.2.2
      simp only [Array.toList_map] at h2
      exact List.map_inj_left.1 h2 v hv
  · rintro ⟨h0, h1, h2⟩ ρ ρ' he
    simp only [ren_func, Value.func.injEq]
    exact ⟨scFn_iff.1 h0 ρ ρ' he, Array.ext' (by simpa using h1.map_eq he), Array.ext' (by simpa using h2.map_eq he)⟩

end
end AH
