/-
  AH 16: all operations that write, or make memory.
-/
import Derived.Test.YtognbiffhgpoaaaGreatAh15
set_option linter.unusedSimpArgs false
set_option linter.unusedVariables false
set_option linter.unusedSectionVars false
namespace AH
open Go
noncomputable section

def nxt (ρ : Nat → Loc) : Option Value → Next
  | some v => .value (ren ρ v)
  | none => .skip

theorem run_u {P : Program} {s : Sem Unit} {w w' : World} (h : s.run P w = .ok () w') : ((do s; pure .skip : Sem Next)).run P w = .ok .skip w' := by
  simp [h]

theorem run_v' {P : Program} {s : Sem Value} {v : Value} {w w' : World} (h : s.run P w = .ok v w') : ((do pure (.value (← s)) : Sem Next)).run P w = .ok (.value v) w' := by
  simp [h]

/-- What every arm shows. -/
def Out (E : Env) (ρ : Nat → Loc) (σ : St) (w : World) (s : Sem Next) (r : Option Value) (σ' : St) : Prop :=
  ∃ w' ρ', s.run E.P w = .ok (nxt ρ' r) w' ∧ Evo ρ σ w ρ' σ' w' ∧ ∀ v, r = some v → Sc σ'.next v

theorem parts_arr {ρ : Nat → Loc} {a : Act} {parts : Array (Nat × Operand)} {ps : List (Nat × Value)} (h1 : parts.toList.map (fun p => (p.1, a.eval p.2)) = ps.map (fun p => (p.1, ren ρ p.2))) :
    (parts.map fun (p : Nat × Operand) => (p.1, a.eval p.2)) = (ps.map fun p => (p.1, ren ρ p.2)).toArray := Array.ext' (by simpa using h1)

theorem Out_alloc (E : Env) {ρ : Nat → Loc} {σ : St} {w : World} (hR : Rel ρ σ w) (e : TypeId) (cs : List Value) (hs : Scs σ.next cs) {s : Sem Next} (hrun : s.run E.P w = .ok (.value (.pointer (some ⟨w.heap.size, 0, none⟩))) (w.alloc (.cells (cs.map (ren ρ)).toArray e))) :
    Out E ρ σ w s (some (.pointer (some ⟨σ.next, 0, none⟩))) (σ.push (.cells e cs)) := by
  refine ⟨_, _, ?_, alloc_cells hR e cs hs (Like.refl _), fun v hv => by cases hv; exact Sc_ptr (by simp)⟩
  rw [hrun]
  simp only [nxt]
  rw [ren_new _ _ _ rfl]

theorem Out_slice (E : Env) {ρ : Nat → Loc} {σ : St} {w : World} (hR : Rel ρ σ w) (e : TypeId) (cs : List Value) (hs : Scs σ.next cs) (l c : Nat) (hc : c < half) {s : Sem Next} (hrun : s.run E.P w = .ok (.value (.slice (some ⟨w.heap.size, 0, none⟩) l c)) (w.alloc (.cells (cs.map (ren ρ)).toArray e))) :
    Out E ρ σ w s (some (.slice (some ⟨σ.next, 0, none⟩) l c)) (σ.push (.cells e cs)) := by
  refine ⟨_, _, ?_, alloc_cells hR e cs hs (Like.refl _), fun v hv => by cases hv; exact Sc_slice (by simp)⟩
  rw [hrun]
  simp only [nxt]
  rw [ren_new_slice _ _ _ rfl _ _ hc]

theorem push_modify (w : World) (o o' : Obj) (g : Obj → Obj) (h : g o = o') : (w.heap.push o).modify w.heap.size g = w.heap.push o' := by
  apply Array.ext_getElem?
  intro q
  rw [Array.getElem?_modify]
  by_cases hq : w.heap.size = q
  · subst hq
    simp [h]
  · rw [if_neg hq, Array.getElem?_push, Array.getElem?_push, if_neg (by omega), if_neg (by omega)]

theorem stringToBytes_sound (E : Env) {ρ : Nat → Loc} {σ : St} {w : World} (hR : Rel ρ σ w) (e : Nat) (str : ByteArray) :
    ∃ w' ρ', (Conv.stringToBytes e str).run E.P w = .ok (ren ρ' (.slice (some ⟨σ.next, 0, none⟩) str.data.toList.length unk)) w' ∧ Evo ρ σ w ρ' (σ.push (.row e 1 (str.data.toList.map fun b => .int .u8 b.toNat))) w' := by
  have hsz : str.size = str.data.toList.length := by simp
  have hch : (choose (.appendCap str.size 0 e)).run E.P w = .ok ((Question.appendCap str.size 0 e).cut (w.tape w.drawn (.appendCap str.size 0 e))) w.drew := by
    rw [run_choose]; simp [Question.forced]
  have hcl := cut_le str.size 0 e (w.tape w.drawn (.appendCap str.size 0 e))
  generalize (Question.appendCap str.size 0 e).cut (w.tape w.drawn (.appendCap str.size 0 e)) = C at hch hcl
  have hcs : (str.data.toList.map fun (b : UInt8) => Value.int .u8 b.toNat).map (ren ρ) = str.data.toList.map fun (b : UInt8) => Value.int .u8 b.toNat := by simp [Function.comp_def]
  have hcl2 : (str.data.toList.map fun (b : UInt8) => Value.int .u8 b.toNat).length + (List.replicate (C - str.size) (Value.int .u8 0)).length = C * 1 := by
    simp only [List.length_map, List.length_replicate, ← hsz]; omega
  have hRd : Rel ρ σ w.drew := hR.like (Like.drew w)
  refine ⟨w.drew.alloc (.cells ((str.data.toList.map fun (b : UInt8) => Value.int .u8 b.toNat) ++ List.replicate (C - str.size) (Value.int .u8 0)).toArray e (C, C + 1)), upd ρ σ.next ⟨w.heap.size, 0, C⟩, ?_,
    (Evo.like hR (Like.drew w)).trans (Evo.alloc hRd _ (.row e 1 _) C (Like.refl _) ⟨rfl, (C, C + 1), List.replicate (C - str.size) (.int .u8 0), fun k hk h => ?_, hcl2, ?_⟩ (fun v hv => by simp only [List.mem_map] at hv; obtain ⟨b, _, rfl⟩ := hv; simp))⟩
  · rw [ren_new_row _ _ _ rfl]
    unfold Conv.stringToBytes
    have harr : (str.data.map fun (b : UInt8) => Value.int .u8 b.toNat) ++ Array.replicate (C - str.size) (Value.int .u8 0) = ((str.data.toList.map fun (b : UInt8) => Value.int .u8 b.toNat) ++ List.replicate (C - str.size) (Value.int .u8 0)).toArray := by
      apply Array.ext'; simp
    simp only [Sem.run_bind, hch, Result.andThen_ok, newRow, run_newObj, harr, Sem.run_pure, markStringish, run_shape]
    have hshape : ({ w.drew with heap := w.drew.heap.push (Obj.cells ((str.data.toList.map fun (b : UInt8) => Value.int .u8 b.toNat) ++ List.replicate (C - str.size) (Value.int .u8 0)).toArray e) } : World).shape? w.drew.heap.size = some (e, C) := by
      simp only [World.shape?, Array.getElem?_push_size]
      simp only [List.size_toArray, List.length_append, hcl2, Nat.mul_one]
    rw [hshape]
    simp only [run_freeze, Result.andThen_ok, World.freeze, Nat.one_ne_zero, if_false]
    rw [push_modify w.drew _ (.cells ((str.data.toList.map fun (b : UInt8) => Value.int .u8 b.toNat) ++ List.replicate (C - str.size) (Value.int .u8 0)).toArray e (C, C + 1)) _ (by simp)]
    rw [← hsz]
    rfl
  · simp only at hk h; omega
  · have e2 : (str.data.toList.map fun (b : UInt8) => Value.int .u8 b.toNat).map (ren (upd ρ σ.next ⟨w.drew.heap.size, 0, C⟩)) = str.data.toList.map fun (b : UInt8) => Value.int .u8 b.toNat := by simp [Function.comp_def]
    rw [e2]
    exact get_new _ _

theorem zeros_arr (E : Env) {t : Nat} {i : TyI} (h : E.ty t = some i) (n : Nat) (h0 : n * i.size ≠ 0) : (Array.range (n * i.size)).map (fun x => i.zero.cells[x % i.zero.cells.size]!) = (repl n i.zero.cells.toList).toArray := by
  have hz := zero_size E h
  have hpos : 0 < i.zero.cells.toList.length := by
    simp only [Array.length_toList, hz]
    exact Nat.pos_of_ne_zero fun e => h0 (by simp [e])
  have := repl_spec i.zero.cells.toList n hpos
  simp only [Array.length_toList, hz, Array.toArray_toList] at this
  apply Array.ext'
  rw [← this, hz]

theorem zeros_nil (E : Env) {t : Nat} {i : TyI} (h : E.ty t = some i) (n : Nat) (h0 : n * i.size = 0) (A : Array Value) : (Array.range (n * i.size)).map (fun x => A[x % A.size]!) = (repl n i.zero.cells.toList).toArray := by
  have hz := zero_size E h
  have : repl n i.zero.cells.toList = [] := by
    apply List.eq_nil_of_length_eq_zero
    rw [repl_length]; simpa [hz] using h0
  rw [this, h0]; simp

section
variable (E : Env) {ρ : Nat → Loc} {σ σ' : St} {w : World} (hR : Rel ρ σ w) {f : Fr} {a : Act} (hF : FrRel ρ f σ.next a) {dst : Option Tmp} {type : TypeId} {pos : String} {after : Array Edge} {guard : Option (Nat × Bool)} {r : Option Value}
include hR hF

theorem W_alloc {e : Nat} (h : opW E f σ (.alloc e) = some (r, σ')) : Out E ρ σ w (execOp a.eval ⟨dst, .alloc e, type, pos, after, guard⟩) r σ' := by
  simp only [opW] at h
  split at h
  · rename_i i he
    simp only [Option.some.injEq, Prod.mk.injEq] at h
    obtain ⟨rfl, rfl⟩ := h
    refine Out_alloc E hR e _ (zero_scs E he _) ?_
    simp only [execOp]
    refine run_v' ?_
    simp [Instr.alloc, run_zero E he, newVar, newRow, zero_ren E he]
  · cases h

theorem W_box {e : Nat} {x : Operand} (h : opW E f σ (.box e x) = some (r, σ')) : Out E ρ σ w (execOp a.eval ⟨dst, .box e x, type, pos, after, guard⟩) r σ' := by
  simp only [opW] at h
  split at h
  · rename_i v hx
    simp only [Option.some.injEq, Prod.mk.injEq] at h
    obtain ⟨rfl, rfl⟩ := h
    obtain ⟨h1, h2⟩ := opd_sound hF hx
    refine Out_alloc E hR e _ (Sc_cells h2) ?_
    simp only [execOp]
    refine run_v' ?_
    have : (ren ρ v).cells = (v.cells.toList.map (ren ρ)).toArray := by rw [ren_cells]; apply Array.ext'; simp
    simp [Instr.box, newVar, newRow, h1, this]
  · cases h

theorem W_buildSlice {t len : Nat} {parts : Array (Nat × Operand)} (h : opW E f σ (.buildSlice t len parts) = some (r, σ')) : Out E ρ σ w (execOp a.eval ⟨dst, .buildSlice t len parts, type, pos, after, guard⟩) r σ' := by
  simp only [opW] at h
  split at h
  · rename_i i ps ht hps
    split at h
    · rename_i e hd
      split at h
      · rename_i j he
        split at h
        · rename_i hc
          split at h
          · rename_i cs hf
            simp only [Option.some.injEq, Prod.mk.injEq] at h
            obtain ⟨rfl, rfl⟩ := h
            obtain ⟨h1, h2⟩ := partsQ_sound hF hps
            have hfs := fillQ_sound ρ hf
            rw [repl_ren E he] at hfs
            refine Out_slice E hR e cs (fillQ_sc hf (repl_sc (zero_scs E he _) _) h2) len len hc.2 ?_
            simp only [execOp]
            refine run_v' ?_
            rw [parts_arr h1]
            have hle : ¬ (len * j.size > 2 ^ 24) := by omega
            unfold Instr.buildSlice
            by_cases h0 : len * j.size = 0
            · simp only [Sem.run_bind, run_und E ht, hd, Result.andThen_ok, run_sz E he, if_neg hle, if_pos h0, Sem.run_pure, zeros_nil E he len h0, hfs, newRow, run_newObj]
              rfl
            · simp only [Sem.run_bind, run_und E ht, hd, Result.andThen_ok, run_sz E he, if_neg hle, if_neg h0, run_zero E he, Sem.run_pure, zeros_arr E he len h0, hfs, newRow, run_newObj]
              rfl
          · cases h
        · cases h
      · cases h
    · cases h
  · cases h

theorem W_store {t : Nat} {x y : Operand} (h : opW E f σ (.store t x y) = some (r, σ')) : Out E ρ σ w (execOp a.eval ⟨dst, .store t x y, type, pos, after, guard⟩) r σ' := by
  simp only [opW] at h
  split at h
  · rename_i ad v i hx hy ht
    split at h
    · rename_i hlen
      split at h
      · rename_i σ₂ hst
        simp only [Option.some.injEq, Prod.mk.injEq] at h
        obtain ⟨rfl, rfl⟩ := h
        obtain ⟨h1, _⟩ := opd_sound hF hx
        obtain ⟨h2, h3⟩ := opd_sound hF hy
        obtain ⟨w', h4, h5⟩ := stCells_sound E.P hR hst (Sc_cells h3)
        refine ⟨w', ρ, ?_, h5, fun v hv => by cases hv⟩
        simp only [execOp, h1, h2, nxt]
        refine run_u ?_
        have e1 : (ren ρ v).cells.toList = v.cells.toList.map (ren ρ) := by rw [ren_cells]; simp
        have e2 : (ren ρ v).cells.size = i.size := by rw [ren_cells]; simpa using hlen
        simp [Instr.storeAt, Instr.sureAddr, storeVar, run_sz E ht, e1, e2, h4]
      · cases h
    · cases h
  · cases h

theorem W_makeMap {t : Nat} {r' : Option Operand} (h : opW E f σ (.makeMap t r') = some (r, σ')) : Out E ρ σ w (execOp a.eval ⟨dst, .makeMap t r', type, pos, after, guard⟩) r σ' := by
  cases r' with
  | none =>
    simp only [opW, Option.some.injEq, Prod.mk.injEq] at h
    obtain ⟨rfl, rfl⟩ := h
    refine ⟨_, _, ?_, alloc_obj hR (.map #[] 0) (.map [] 0) (Like.refl _) ⟨rfl, by rw [get_new]; rfl⟩ (fun e he => by simp at he), fun v hv => by cases hv; exact Sc_map (by simp)⟩
    simp only [execOp, nxt, ren_map, upd_same]
    refine run_v' ?_
    simp [Instr.makeMap]
  | some x =>
    simp only [opW] at h
    split at h
    · rename_i i k z ht hx
      split at h
      · rename_i kt et hd
        simp only [Option.some.injEq, Prod.mk.injEq] at h
        obtain ⟨rfl, rfl⟩ := h
        obtain ⟨h1, _⟩ := opd_sound hF hx
        refine ⟨_, _, ?_, alloc_obj hR (.map #[] 0) (.map [] 0) (Like.refl _) ⟨rfl, by rw [get_new]; rfl⟩ (fun e he => by simp at he), fun v hv => by cases hv; exact Sc_map (by simp)⟩
        simp only [execOp, nxt, ren_map, upd_same]
        refine run_v' ?_
        simp [Instr.makeMap, h1, run_und E ht, hd, asInt, asIntOf]
      · cases h
    · cases h

theorem W_makeSlice {t : Nat} {l c : Operand} (h : opW E f σ (.makeSlice t l c) = some (r, σ')) : Out E ρ σ w (execOp a.eval ⟨dst, .makeSlice t l c, type, pos, after, guard⟩) r σ' := by
  simp only [opW] at h
  split at h
  · rename_i i k1 x k2 y ht hl hc
    split at h
    · rename_i e hd
      split at h
      · rename_i j he
        split at h
        · rename_i hxy
          obtain ⟨q1, q2, q3, q4⟩ := hxy
          simp only [Option.some.injEq, Prod.mk.injEq] at h
          obtain ⟨rfl, rfl⟩ := h
          obtain ⟨h1, _⟩ := opd_sound hF hl
          obtain ⟨h2, _⟩ := opd_sound hF hc
          have hyc : y.toNat < half := by unfold half; omega
          refine Out_slice E hR e _ (repl_sc (zero_scs E he _) _) x.toNat y.toNat hyc ?_
          simp only [execOp]
          refine run_v' ?_
          have wx : IntKind.i64.wrap x = x := IntWalk.i64_in _ (by omega)
          have wy : IntKind.i64.wrap y = y := IntWalk.i64_in _ (by omega)
          obtain ⟨info, hi1, _, hi3, _⟩ := run_info E he w
          have hcond : ((decide (y < 0) || decide ((info.bytes : Int) * y > 2 ^ 48) || decide (x < 0) || decide (x > y)) = true) = False := by
            rw [hi3]; simp; omega
          rw [h1, h2, ren_int, ren_int, repl_ren E he]
          unfold Instr.makeSlice
          simp only [Sem.run_bind, run_und E ht, hd, Result.andThen_ok, asInt, asIntOf, Sem.run_pure, hi1, wx, wy, hcond, if_false, run_askRoom, run_sz E he]
          by_cases h0 : y.toNat * j.size = 0
          · simp only [if_pos h0, Sem.run_bind, Sem.run_pure, Result.andThen_ok, zeros_nil E he _ h0, newRow, run_newObj]
            rfl
          · simp only [if_neg h0, Sem.run_bind, run_zero E he, Sem.run_pure, Result.andThen_ok, zeros_arr E he _ h0, newRow, run_newObj]
            rfl
        · cases h
      · cases h
    · cases h
  · cases h

end
end
end AH
