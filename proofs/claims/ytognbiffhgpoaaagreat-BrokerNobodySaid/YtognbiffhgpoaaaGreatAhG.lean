/-
  AH G: operations that make memory, and read none: what they make, whatever the world is.
-/
import Derived.Test.YtognbiffhgpoaaaGreatAh19
set_option linter.unusedSimpArgs false
set_option linter.unusedVariables false
set_option linter.unusedSectionVars false
namespace AH
open Go
noncomputable section

namespace Tr
variable {α : Type}
def del (t : Tr α) : Nat → Tr α :=
  Tr.rec (motive := fun _ => Nat → Tr α) (fun _ => .leaf) (fun l v r dl dr k => Bool.rec (Bool.rec (.node l v (dr (k / 2 - 1))) (.node (dl (k / 2)) v r) (Nat.beq (k % 2) 1)) (.node l none r) (Nat.beq k 0)) t

theorem del_node (l r : Tr α) (v : Option α) (k : Nat) : (Tr.node l v r).del k = if k = 0 then .node l none r else if k % 2 = 1 then .node (l.del (k / 2)) v r else .node l v (r.del (k / 2 - 1)) := by
  show Bool.rec (motive := fun _ => Tr α) (Bool.rec (motive := fun _ => Tr α) (.node l v (r.del (k / 2 - 1))) (.node (l.del (k / 2)) v r) (Nat.beq (k % 2) 1)) (.node l none r) (Nat.beq k 0) = _
  rw [beq0, beq1, recB, recB]
  simp only [decide_eq_true_eq]

theorem get_del (t : Tr α) (k j : Nat) : (t.del k).get j = if k = j then none else t.get j := by
  induction t generalizing k j with
  | leaf => show (Tr.leaf : Tr α).get j = _; rw [get_leaf]; split <;> rfl
  | node l o r ihl ihr =>
    rw [del_node]
    by_cases hk : k = 0
    · subst hk
      rw [if_pos rfl, get_node, get_node]
      by_cases hj : j = 0
      · subst hj; simp
      · rw [if_neg hj, if_neg hj, if_neg (fun e : 0 = j => hj e.symm)]
    · rw [if_neg hk]
      by_cases h1 : k % 2 = 1
      · rw [if_pos h1, get_node, get_node]
        by_cases hj : j = 0
        · rw [if_pos hj, if_neg (by omega), if_pos hj]
        · rw [if_neg hj, if_neg hj]
          by_cases hj1 : j % 2 = 1
          · rw [if_pos hj1, if_pos hj1, ihl]
            by_cases e : k = j
            · subst e; simp
            · rw [if_neg e, if_neg (by omega)]
          · rw [if_neg hj1, if_neg hj1, if_neg (by omega)]
      · rw [if_neg h1, get_node, get_node]
        by_cases hj : j = 0
        · rw [if_pos hj, if_neg (by omega), if_pos hj]
        · rw [if_neg hj, if_neg hj]
          by_cases hj1 : j % 2 = 1
          · rw [if_pos hj1, if_pos hj1, if_neg (by omega)]
          · rw [if_neg hj1, if_neg hj1, ihr]
            by_cases e : k = j
            · subst e; simp
            · rw [if_neg e, if_neg (by omega)]
end Tr

def Fr.del (f : Fr) (k : Nat) : Fr := ⟨f.tr.del k, f.df⟩
theorem Fr.get_del (f : Fr) (k j : Nat) : (f.del k).get j = if k = j then none else f.get j := Tr.get_del f.tr k j

/-- What is made. -/
inductive New where
  | ptr (e : TypeId) (cs : List Value)
  | sl (e : TypeId) (cs : List Value) (len cap : Nat)
  | map

namespace New
def val : New → Nat → Value
  | .ptr _ _, n => .pointer (some ⟨n, 0, none⟩)
  | .sl _ _ l c, n => .slice (some ⟨n, 0, none⟩) l c
  | .map, n => .map (some n)
def blk : New → Blk
  | .ptr e cs | .sl e cs _ _ => .cells e cs
  | .map => .map [] 0
def obj (ρ : Nat → Loc) : New → Obj
  | .ptr e cs | .sl e cs _ _ => .cells (cs.map (ren ρ)).toArray e
  | .map => .map #[] 0
def sc (n : Nat) : New → Prop
  | .ptr _ cs => Scs n cs
  | .sl _ cs _ c => Scs n cs ∧ c < half
  | .map => True

theorem sc_mono {n m : Nat} {N : New} (h : N.sc n) (hm : n ≤ m) : N.sc m := by
  cases N with
  | ptr e cs => exact Scs.mono h hm
  | sl e cs l c => exact ⟨Scs.mono h.1 hm, h.2⟩
  | map => trivial

theorem blk_sc {n : Nat} {N : New} (h : N.sc n) : N.blk.sc n := by
  cases N with
  | ptr e cs => exact h
  | sl e cs l c => exact h.1
  | map => exact fun e he => by simp at he

theorem blk_live (N : New) : N.blk.live = true := by cases N <;> rfl

theorem val_sc {n m : Nat} (N : New) (h : n < m) : Sc m (N.val n) := by
  cases N with
  | ptr e cs => exact Sc_ptr h
  | sl e cs l c => exact Sc_slice h
  | map => exact Sc_map h

theorem val_ren {n m b C : Nat} {N : New} (h : N.sc n) (ρ : Nat → Loc) : ren (upd ρ m ⟨b, 0, C⟩) (N.val m) = N.val b := by
  cases N with
  | ptr e cs => simp only [val]; rw [ren_new _ _ _ rfl]
  | sl e cs l c => simp only [val]; rw [ren_new_slice _ _ _ rfl _ _ h.2]
  | map => simp [val, upd_same]

theorem obj_congr {n : Nat} {N : New} (h : N.sc n) {ρ ρ' : Nat → Loc} (he : ∀ i, i < n → ρ i = ρ' i) : N.obj ρ = N.obj ρ' := by
  cases N with
  | ptr e cs => simp only [obj]; rw [Scs.map_eq h he]
  | sl e cs l c => simp only [obj]; rw [Scs.map_eq h.1 he]
  | map => rfl

theorem blkRel (N : New) {ρ : Nat → Loc} {b : Nat} {w : World} (h : w.heap[b]? = some (N.obj ρ)) : BlkRel ρ ⟨b, 0, 0⟩ w N.blk := by
  cases N with
  | ptr e cs => exact ⟨rfl, (0, 0), Unfz_zero _, h⟩
  | sl e cs l c => exact ⟨rfl, (0, 0), Unfz_zero _, h⟩
  | map => exact ⟨rfl, h⟩
end New

/-- Operations that make memory, and read none. -/
def allocQ (E : Env) (f : Fr) : Op → Option New
  | .alloc e => match E.ty e with
    | some i => some (.ptr e i.zero.cells.toList)
    | none => none
  | .box e x => match opd f x with
    | some v => some (.ptr e v.cells.toList)
    | none => none
  | .buildSlice t len parts => match E.ty t, partsQ f parts.toList with
    | some i, some ps => (match i.desc with
      | .slice e => (match E.ty e with
        | some j => if len * j.size ≤ 16777216 ∧ len < half then
            (match fillQ (fun k => some (k * j.size, j.size)) (repl len j.zero.cells.toList) ps with
             | some cs => some (.sl e cs len len)
             | none => none)
          else none
        | none => none)
      | _ => none)
    | _, _ => none
  | .makeMap t none => some .map
  | .makeMap t (some x) => match E.ty t, opd f x with
    | some i, some (.int _ _) => (match i.desc with
      | .map _ _ => some .map
      | _ => none)
    | _, _ => none
  | .makeSlice t l c => match E.ty t, opd f l, opd f c with
    | some i, some (.int _ x), some (.int _ y) => (match i.desc with
      | .slice e => (match E.ty e with
        | some j => if 0 ≤ x ∧ x ≤ y ∧ y < 4611686018427387904 ∧ (j.bytes : Int) * y ≤ 281474976710656 then some (.sl e (repl y.toNat j.zero.cells.toList) x.toNat y.toNat) else none
        | none => none)
      | _ => none)
    | _, _, _ => none
  | _ => none

section
variable (E : Env) {ρ : Nat → Loc} {n : Nat} {f : Fr} {a : Act} (hF : FrRel ρ f n a)
include hF

theorem allocQ_sound (o : Oper) {N : New} (h : allocQ E f o.op = some N) : N.sc n ∧ ∀ w, (execOp a.eval o).run E.P w = .ok (.value (N.val w.heap.size)) (w.alloc (N.obj ρ)) := by
  obtain ⟨dst, op, type, pos, after, guard⟩ := o
  dsimp only at h
  cases op with
  | alloc e =>
    simp only [allocQ] at h
    split at h
    · rename_i i he
      simp only [Option.some.injEq] at h
      subst h
      refine ⟨zero_scs E he _, fun w => ?_⟩
      simp only [execOp]
      refine run_v' ?_
      simp [Instr.alloc, run_zero E he, newVar, newRow, zero_ren E he, New.val, New.obj]
    · cases h
  | box e x =>
    simp only [allocQ] at h
    split at h
    · rename_i v hx
      simp only [Option.some.injEq] at h
      subst h
      obtain ⟨h1, h2⟩ := opd_sound hF hx
      refine ⟨Sc_cells h2, fun w => ?_⟩
      simp only [execOp]
      refine run_v' ?_
      have : (ren ρ v).cells = (v.cells.toList.map (ren ρ)).toArray := by rw [ren_cells]; apply Array.ext'; simp
      simp [Instr.box, newVar, newRow, h1, this, New.val, New.obj]
    · cases h
  | buildSlice t len parts =>
    simp only [allocQ] at h
    split at h
    · rename_i i ps ht hps
      split at h
      · rename_i e hd
        split at h
        · rename_i j he
          split at h
          · rename_i hc
            split at h
            · rename_i cs hf
              simp only [Option.some.injEq] at h
              subst h
              obtain ⟨h1, h2⟩ := partsQ_sound hF hps
              have hfs := fillQ_sound ρ hf
              rw [repl_ren E he] at hfs
              refine ⟨⟨fillQ_sc hf (repl_sc (zero_scs E he _) _) h2, hc.2⟩, fun w => ?_⟩
              simp only [execOp]
              refine run_v' ?_
              rw [parts_arr h1]
              have hle : ¬ (len * j.size > 2 ^ 24) := by omega
              unfold Instr.buildSlice
              by_cases h0 : len * j.size = 0
              · simp only [Sem.run_bind, run_und E ht, hd, Result.andThen_ok, run_sz E he, if_neg hle, if_pos h0, Sem.run_pure, zeros_nil E he len h0, hfs, newRow, run_newObj]
                rfl
              · simp only [Sem.run_bind, run_und E ht, hd, Result.andThen_ok, run_sz E he, if_neg hle, if_neg h0, run_zero E he, Sem.run_pure, zeros_arr E he len h0, hfs, newRow, run_newObj]
                rfl
            · cases h
          · cases h
        · cases h
      · cases h
    · cases h
  | makeMap t r' =>
    cases r' with
    | none =>
      simp only [allocQ, Option.some.injEq] at h
      subst h
      refine ⟨trivial, fun w => ?_⟩
      simp only [execOp]
      refine run_v' ?_
      simp [Instr.makeMap, New.val, New.obj]
    | some x =>
      simp only [allocQ] at h
      split at h
      · rename_i i k z ht hx
        split at h
        · rename_i kt et hd
          simp only [Option.some.injEq] at h
          subst h
          obtain ⟨h1, _⟩ := opd_sound hF hx
          refine ⟨trivial, fun w => ?_⟩
          simp only [execOp]
          refine run_v' ?_
          simp [Instr.makeMap, h1, run_und E ht, hd, asInt, asIntOf, New.val, New.obj]
        · cases h
      · cases h
  | makeSlice t l c =>
    simp only [allocQ] at h
    split at h
    · rename_i i k1 x k2 y ht hl hc
      split at h
      · rename_i e hd
        split at h
        · rename_i j he
          split at h
          · rename_i hxy
            obtain ⟨q1, q2, q3, q4⟩ := hxy
            simp only [Option.some.injEq] at h
            subst h
            obtain ⟨h1, _⟩ := opd_sound hF hl
            obtain ⟨h2, _⟩ := opd_sound hF hc
            have hyc : y.toNat < half := by unfold half; omega
            refine ⟨⟨repl_sc (zero_scs E he _) _, hyc⟩, fun w => ?_⟩
            simp only [execOp]
            refine run_v' ?_
            have wx : IntKind.i64.wrap x = x := IntWalk.i64_in _ (by omega)
            have wy : IntKind.i64.wrap y = y := IntWalk.i64_in _ (by omega)
            obtain ⟨info, hi1, _, hi3, _⟩ := run_info E he w
            have hcond : ((decide (y < 0) || decide ((info.bytes : Int) * y > 2 ^ 48) || decide (x < 0) || decide (x > y)) = true) = False := by
              rw [hi3]; simp; omega
            rw [h1, h2, ren_int, ren_int]
            simp only [New.obj, New.val, repl_ren E he]
            unfold Instr.makeSlice
            simp only [Sem.run_bind, run_und E ht, hd, Result.andThen_ok, asInt, asIntOf, Sem.run_pure, hi1, wx, wy, hcond, if_false, run_askRoom, run_sz E he]
            by_cases h0 : y.toNat * j.size = 0
            · simp only [if_pos h0, Sem.run_bind, Sem.run_pure, Result.andThen_ok, zeros_nil E he _ h0, newRow, run_newObj]
              rfl
            · simp only [if_neg h0, Sem.run_bind, run_zero E he, Sem.run_pure, Result.andThen_ok, zeros_arr E he _ h0, newRow, run_newObj]
              rfl
          · cases h
        · cases h
      · cases h
    · cases h
  | _ => simp [allocQ] at h
end

/-! ### Blocks of the world that nothing knows of yet -/

theorem Evo.more {ρ : Nat → Loc} {σ : St} {w : World} (h : Rel ρ σ w) (o : Obj) : Evo ρ σ w ρ σ (w.alloc o) := by
  have hs : (w.alloc o).heap.size = w.heap.size + 1 := by simp
  have hh : ∀ j, j < w.heap.size → (w.alloc o).heap[j]? = w.heap[j]? := fun j hj => Go.RowKit.Below.heap_alloc w o j hj
  exact ⟨⟨fun i => (h.blk i).same (fun hl => hh _ (h.size hl)) (by omega), h.sc, h.lt, h.inj⟩, fun _ _ => rfl, Nat.le_refl _, by omega, rfl, rfl, rfl, fun i hi => .inl ⟨i, hi, rfl⟩, fun b hb _ => hh b hb, fun i hi => .inl ⟨i, hi, rfl⟩⟩

/-- A block of the world that nothing knew of is known from here on. -/
theorem Evo.adopt {ρ₀ ρ : Nat → Loc} {σ₀ σ : St} {w₀ w : World} (h : Evo ρ₀ σ₀ w₀ ρ σ w) {N : New} {b : Nat} (hN : N.sc σ₀.next) (hb : w.heap[b]? = some (N.obj ρ₀)) (hlo : w₀.heap.size ≤ b) (hno : ∀ j, (σ.get j).live = true → (ρ j).b ≠ b) :
    Evo ρ₀ σ₀ w₀ (upd ρ σ.next ⟨b, 0, 0⟩) (σ.push N.blk) w := by
  have hR := h.rel
  have hN' : N.sc σ.next := New.sc_mono hN h.next
  have hobj : w.heap[b]? = some (N.obj (upd ρ σ.next ⟨b, 0, 0⟩)) := by
    rw [hb]; congr 1
    exact New.obj_congr hN fun i hi => by rw [upd_lt _ _ (Nat.lt_of_lt_of_le hi h.next), h.ext i hi]
  have hold : ∀ i, i ≠ σ.next → BlkRel (upd ρ σ.next ⟨b, 0, 0⟩) (upd ρ σ.next ⟨b, 0, 0⟩ i) w (σ.get i) := fun i hi => by
    rw [upd_ne _ _ hi]
    exact (hR.blk i).reno (hR.sc i) (fun j hj => (upd_lt ρ _ hj).symm)
  refine ⟨⟨fun i => ?_, fun i => ?_, fun i hi => ?_, fun i j hij hi hj => ?_⟩, fun i hi => ?_, by simp; exact Nat.le_succ_of_le h.next, h.size, h.os, h.tape, h.output, fun i hi => ?_, h.fra, fun i hi => ?_⟩
  · rw [St.get_push]
    split
    · rename_i e; subst e
      rw [upd_same]
      exact New.blkRel N hobj
    · rename_i e; exact hold i (Ne.symm e)
  · rw [St.get_push]
    split
    · exact Blk.sc_mono (New.blk_sc hN') (by simp)
    · exact Blk.sc_mono (hR.sc i) (by simp)
  · rw [St.get_push] at hi
    split at hi
    · rename_i e; rw [St.next_push]; omega
    · have := hR.lt i hi; rw [St.next_push]; omega
  · rw [St.get_push] at hi hj
    split at hi
    · rename_i e; subst e
      rw [if_neg hij] at hj
      rw [upd_same, upd_ne _ _ (Ne.symm hij)]
      exact (hno j hj).symm
    · rename_i e
      split at hj
      · rename_i e'; subst e'
        rw [upd_same, upd_ne _ _ hij]
        exact hno i (Blk.live_of_wr hi)
      · rename_i e'
        rw [upd_ne _ _ (Ne.symm e), upd_ne _ _ (Ne.symm e')]
        exact hR.inj i j hij hi hj
  · rw [upd_lt _ _ (Nat.lt_of_lt_of_le hi h.next)]; exact h.ext i hi
  · rw [St.get_push] at hi
    split at hi
    · rename_i e; subst e; rw [upd_same]; exact .inr hlo
    · rename_i e; rw [upd_ne _ _ (Ne.symm e)]; exact h.own i hi
  · rw [St.get_push] at hi
    split at hi
    · rename_i e; subst e; rw [upd_same]; exact .inr hlo
    · rename_i e; rw [upd_ne _ _ (Ne.symm e)]; exact h.liv i hi

end
end AH
