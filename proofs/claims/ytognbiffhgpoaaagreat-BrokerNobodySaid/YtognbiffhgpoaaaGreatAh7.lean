/-
  AH 7: the quiet operations, the rest.
-/
import Derived.Test.YtognbiffhgpoaaaGreatAh6
set_option linter.unusedSimpArgs false
set_option linter.unusedVariables false
namespace AH
open Go
noncomputable section

theorem unQ_sound (P : Program) (ρ : Nat → Loc) {op : UnOp} {x v : Value} (h : unQ op x = some v) (w : World) : (Op.unary op (ren ρ x)).run P w = .ok v w ∧ closedV 4 v = true := by
  unfold unQ at h
  split at h
  · simp only [Option.some.injEq] at h; subst h; simp [Op.unary, Op.intArith, closedV]
  · rename_i k n
    simp only [intOp, Option.some.injEq] at h; subst h; simp [Op.unary, Op.intBits, closedV]
  · simp only [Option.some.injEq] at h; subst h; simp [Op.unary, closedV]
  · cases h

theorem convQ_sound (E : Env) (ρ : Nat → Loc) {s d : Nat} {x v : Value} (h : convQ E s d x = some v) (w : World) : (convert s d (ren ρ x)).run E.P w = .ok v w ∧ closedV 4 v = true := by
  unfold convQ at h
  cases hs : E.ty s with
  | none => simp [hs] at h
  | some i =>
    cases hd : E.ty d with
    | none => simp [hs, hd] at h
    | some j =>
      simp only [hs, hd] at h
      split at h
      · rename_i k k' n hk
        simp only [Option.some.injEq] at h; subst h
        simp [convert, run_und E hs, run_und E hd, hk, Conv.intToInt, closedV]
      · rename_i s' hk
        simp only [Option.some.injEq] at h; subst h
        simp [convert, run_und E hs, run_und E hd, hk, closedV]
      · cases h

theorem idx_sound (P : Program) (ρ : Nat → Loc) {b : Value} {d y m : Nat} (h : idx (some b) d y = some m) (c : BoundsCode) (w : World) : (Instr.sliceBound (ren ρ b) y c).run P w = .ok m w ∧ m ≤ y := by
  unfold idx at h
  split at h
  · rename_i e; cases e
  · rename_i k i e
    cases e
    split at h
    · rename_i hi
      simp only [Option.some.injEq] at h; subst h
      refine ⟨?_, by omega⟩
      simp [Instr.sliceBound, asIntOf, hi]
    · cases h
  · cases h

theorem run_bounds (P : Program) (ρ : Nat → Loc) (isSlice : Bool) (len cap : Nat) {lo hi mx : Option Value} {l h m : Nat} (hm : idx mx cap cap = some m) (hh : idx hi len m = some h) (hl : idx lo 0 h = some l) (hx : ¬ (mx.isSome = true ∧ hi.isNone = true)) (w : World) :
    (Instr.sliceBounds isSlice len cap (lo.map (ren ρ)) (hi.map (ren ρ)) (mx.map (ren ρ))).run P w = .ok (l, h, m) w := by
  cases mx with
  | none =>
    simp only [idx, Option.some.injEq] at hm
    subst hm
    cases hi with
    | none =>
      simp only [idx, Option.some.injEq] at hh
      subst hh
      cases lo with
      | none => simp only [idx, Option.some.injEq] at hl; subst hl; simp [Instr.sliceBounds]
      | some lo => simp [Instr.sliceBounds, (idx_sound P ρ hl _ w).1]
    | some hi =>
      have h2 := fun c => (idx_sound P ρ hh c w).1
      cases lo with
      | none => simp only [idx, Option.some.injEq] at hl; subst hl; simp [Instr.sliceBounds, h2]
      | some lo => simp [Instr.sliceBounds, h2, (idx_sound P ρ hl _ w).1]
  | some mx =>
    have h1 := fun c => (idx_sound P ρ hm c w).1
    cases hi with
    | none => simp at hx
    | some hi =>
      have h2 := fun c => (idx_sound P ρ hh c w).1
      cases lo with
      | none => simp only [idx, Option.some.injEq] at hl; subst hl; simp [Instr.sliceBounds, h1, h2]
      | some lo => simp [Instr.sliceBounds, h1, h2, (idx_sound P ρ hl _ w).1]

theorem idx_le {b : Option Value} {d y m : Nat} (h : idx b d y = some m) (hd : d ≤ y) : m ≤ y := by
  unfold idx at h
  split at h
  · simp only [Option.some.injEq] at h; omega
  · split at h
    · simp only [Option.some.injEq] at h; omega
    · cases h
  · cases h

theorem sliceAt_eq (E : Env) {t : Nat} {i : TyI} (ht : E.ty t = some i) (x : Value) (lo hi mx : Option Value) (w : World) :
    (Instr.sliceAt t x lo hi mx).run E.P w = (match i.desc with
      | .array n elem => (do
        let a ← Instr.sureAddr x
        let (l, h, m) ← Instr.sliceBounds false n n lo hi mx
        let size ← Go.sizeOf elem
        pure (.slice (some (if m = l then a else a.add (l * size))) (h - l) (m - l)) : Sem Value)
      | _ => Instr.slice t x lo hi mx).run E.P w := by
  simp only [Instr.sliceAt, Sem.run_bind, run_und E ht, Result.andThen_ok]
  cases i.desc <;> rfl

theorem map_toList_take {α : Type} (l : List α) (a b : Nat) : (l.drop a).take (b - a) = (l.drop a).take (b - a) := rfl

theorem mkStr_extract (s : ByteArray) (l h : Nat) : s.extract l h = mkStr ((s.data.toList.drop l).take (h - l)) := by
  apply ByteArray.ext
  simp [mkStr, ByteArray.data_extract]
  apply Array.ext'
  simp [List.extract]

theorem row_cap {ρ : Nat → Loc} {σ : St} {w : World} (hR : Rel ρ σ w) {b : Nat} {e sz : Nat} {cs : List Value} (h : σ.get b = .row e sz cs) : cs.length ≤ (ρ b).C * sz := by
  have := hR.blk b
  rw [h] at this
  obtain ⟨_, fz, ex, _, h2, _⟩ := this
  omega

theorem sliceQ_sound (E : Env) {ρ : Nat → Loc} {σ : St} {w₀ : World} (hR : Rel ρ σ w₀) {t : Nat} {x v : Value} {lo hi mx : Option Value} (h : sliceQ E σ t x lo hi mx = some v) (hsx : Sc σ.next x) (w : World) :
    (Instr.sliceAt t (ren ρ x) (lo.map (ren ρ)) (hi.map (ren ρ)) (mx.map (ren ρ))).run E.P w = .ok (ren ρ v) w ∧ Sc σ.next v := by
  unfold sliceQ at h
  cases ht : E.ty t with
  | none => simp [ht] at h
  | some i =>
    simp only [ht] at h
    rw [sliceAt_eq E ht]
    split at h
    · rename_i s hdesc
      split at h
      · rename_i hh hidx
        split at h
        · rename_i l hl
          simp only [Option.some.injEq] at h
          subst h
          refine ⟨?_, by simp⟩
          have hsz : s.size = s.data.toList.length := by simp
          have hb := run_bounds E.P ρ false s.size s.size (lo := lo) (hi := hi) (mx := none) (l := l) (h := hh) (m := s.size) (by simp [idx]) (by rw [hsz]; exact hidx) hl (by simp) w
          simp only [Option.map_none] at hb
          simp only [hdesc, ren_string, Instr.slice, Sem.run_bind, run_und E ht, Result.andThen_ok, Option.map_none, Option.isSome_none, Bool.false_eq_true, if_false, Sem.run_pure, hb, mkStr_extract]
        · cases h
      · cases h
    · rename_i e a len cap hdesc
      cases he : E.ty e with
      | none => simp [he] at h
      | some j =>
        simp only [he] at h
        split at h
        · rename_i hcap
          cases hm : idx mx cap cap with
          | none => simp [hm] at h
          | some m =>
            simp only [hm] at h
            split at h
            · cases h
            · rename_i hx
              cases hh : idx hi len m with
              | none => simp [hh] at h
              | some hv =>
                simp only [hh] at h
                cases hl : idx lo 0 hv with
                | none => simp [hl] at h
                | some l =>
                  simp only [hl, Option.some.injEq] at h
                  subst h
                  have hb := run_bounds E.P ρ true len cap hm hh hl hx w
                  have hmc : m ≤ cap := idx_le hm (Nat.le_refl _)
                  cases a with
                  | none =>
                    simp only [hdesc, ren_nilslice, Instr.slice, Sem.run_bind, run_und E ht, Result.andThen_ok, hb, run_sz E he, Sem.run_pure, Option.map_none, ite_self]
                    exact ⟨trivial, by simp⟩
                  | some a =>
                    have hren : renC (ρ a.block).C cap = cap := by simp [renC, hcap]
                    simp only [hdesc, ren_slice, hren, Instr.slice, Sem.run_bind, run_und E ht, Result.andThen_ok, hb, run_sz E he, Sem.run_pure, Option.map_some]
                    by_cases hml : m = l
                    · subst hml
                      simp only [if_true]
                      refine ⟨?_, Sc_slice (Sc_slice_lt hsx)⟩
                      have : renC (ρ a.block).C (m - m) = m - m := by unfold renC; rw [if_pos (by omega)]
                      simp only [ren_slice, this]
                    · simp only [if_neg hml]
                      refine ⟨?_, Sc_slice (by rw [addA_block]; exact Sc_slice_lt hsx)⟩
                      have : renC (ρ (addA a (l * j.size)).block).C (m - l) = m - l := by unfold renC; rw [if_pos (by omega)]
                      simp only [ren_slice, this, renA_addA]
        · rename_i hcap
          split at h
          · rename_i a
            split at h
            · rename_i e' sz cs hrow
              split at h
              · rename_i hc
                obtain ⟨hc1, hc2, hc3, hc4, hc5, hc6⟩ := hc
                cases hh : idx hi len ((cs.length - a.off) / sz) with
                | none => simp [hh] at h
                | some hv =>
                  simp only [hh] at h
                  cases hl : idx lo 0 hv with
                  | none => simp [hl] at h
                  | some l =>
                    simp only [hl] at h
                    split at h
                    · rename_i hor
                      split at h
                      · rename_i hlh
                        simp only [Option.some.injEq] at h
                        subst h
                        have hC := row_cap hR hrow
                        have hren : renC (ρ a.block).C cap = (ρ a.block).C - (unk - cap) := by simp [renC, hcap]
                        have hlenh : len ≤ (cs.length - a.off) / sz := by
                          rw [Nat.le_div_iff_mul_le hc4]; omega
                        have hhv : hv ≤ (cs.length - a.off) / sz := idx_le hh hlenh
                        have hCge : (cs.length - a.off) / sz ≤ (ρ a.block).C - (unk - cap) := by
                          rw [Nat.div_le_iff_le_mul_add_pred hc4]
                          have : sz * ((ρ a.block).C - (unk - cap)) = (ρ a.block).C * sz - (unk - cap) * sz := by
                            rw [Nat.mul_comm, Nat.sub_mul]
                          omega
                        have hh' : idx hi len ((ρ a.block).C - (unk - cap)) = some hv := by
                          unfold idx at hh ⊢
                          split at hh
                          · exact hh
                          · split at hh
                            · rename_i hrng
                              rw [if_pos ⟨hrng.1, by omega⟩]; exact hh
                            · cases hh
                          · cases hh
                        have hb := run_bounds E.P ρ true len ((ρ a.block).C - (unk - cap)) (lo := lo) (hi := hi) (mx := none) (by simp [idx]) hh' hl (by simp) w
                        simp only [Option.map_none] at hb
                        simp only [hdesc, ren_slice, hren, Instr.slice, Sem.run_bind, run_und E ht, Result.andThen_ok, hb, run_sz E he, Sem.run_pure, Option.map_some, Option.map_none]
                        have hcapl : ¬ (cap - l < half) := by unfold half unk at *; omega
                        have hren2 : renC (ρ (addA a (l * j.size)).block).C (cap - l) = (ρ a.block).C - (unk - cap) - l := by
                          rw [addA_block]
                          unfold renC
                          rw [if_neg hcapl]
                          unfold half unk at *
                          omega
                        refine ⟨?_, Sc_slice (by rw [addA_block]; exact Sc_slice_lt hsx)⟩
                        rw [hren2, renA_addA]
                        congr 3
                        split
                        · rename_i hml
                          have hl0 : l = 0 := by
                            rcases hor with h0 | hlt
                            · exact h0
                            · omega
                          subst hl0
                          simp [Addr.add]
                        · rfl
                      · cases h
                    · cases h
              · cases h
            · cases h
          · rename_i mv a
            split at h
            · rename_i e' sz cs hrow
              split at h
              · rename_i hc
                obtain ⟨hc1, hc2, hc3, hc4, hc5, hc6, hc7⟩ := hc
                cases hm : idx (some mv) 0 ((cs.length - a.off) / sz) with
                | none => simp [hm] at h
                | some m =>
                  simp only [hm] at h
                  cases hh : idx hi len m with
                  | none => simp [hh] at h
                  | some hv =>
                    simp only [hh] at h
                    cases hl : idx lo 0 hv with
                    | none => simp [hl] at h
                    | some l =>
                      simp only [hl] at h
                      split at h
                      · rename_i hmh
                        simp only [Option.some.injEq] at h
                        subst h
                        have hC := row_cap hR hrow
                        have hren : renC (ρ a.block).C cap = (ρ a.block).C - (unk - cap) := by simp [renC, hcap]
                        have hmle : m ≤ (cs.length - a.off) / sz := idx_le hm (Nat.zero_le _)
                        have hCge : (cs.length - a.off) / sz ≤ (ρ a.block).C - (unk - cap) := by
                          rw [Nat.div_le_iff_le_mul_add_pred hc4]
                          have : sz * ((ρ a.block).C - (unk - cap)) = (ρ a.block).C * sz - (unk - cap) * sz := by
                            rw [Nat.mul_comm, Nat.sub_mul]
                          omega
                        have hm' : idx (some mv) ((ρ a.block).C - (unk - cap)) ((ρ a.block).C - (unk - cap)) = some m := by
                          cases mv with
                          | int k z =>
                            simp only [idx] at hm ⊢
                            split at hm
                            · rename_i hrng
                              rw [if_pos ⟨hrng.1, by omega⟩]; exact hm
                            · cases hm
                          | _ => simp [idx] at hm
                        have hx : ¬ ((some mv).isSome = true ∧ hi.isNone = true) := by
                          intro ⟨_, h2⟩
                          rw [Option.isNone_iff_eq_none] at h2
                          rw [h2] at hc7
                          cases hc7
                        have hb := run_bounds E.P ρ true len ((ρ a.block).C - (unk - cap)) hm' hh hl hx w
                        simp only [Option.map_some] at hb
                        simp only [hdesc, ren_slice, hren, Instr.slice, Sem.run_bind, run_und E ht, Result.andThen_ok, hb, run_sz E he, Sem.run_pure, Option.map_some]
                        by_cases hml : m = l
                        · subst hml
                          simp only [if_true]
                          refine ⟨?_, Sc_slice (Sc_slice_lt hsx)⟩
                          have : renC (ρ a.block).C (m - m) = m - m := by unfold renC; rw [if_pos (by omega)]
                          simp only [ren_slice, this]
                        · simp only [if_neg hml]
                          refine ⟨?_, Sc_slice (by rw [addA_block]; exact Sc_slice_lt hsx)⟩
                          have : renC (ρ (addA a (l * j.size)).block).C (m - l) = m - l := by unfold renC; rw [if_pos (by omega)]
                          simp only [ren_slice, this, renA_addA]
                      · cases h
              · cases h
            · cases h
          · cases h
    · rename_i n e a hdesc
      cases he : E.ty e with
      | none => simp [he] at h
      | some j =>
        cases hm : idx mx n n with
        | none => simp [he, hm] at h
        | some m =>
          simp only [he, hm] at h
          split at h
          · cases h
          · rename_i hx
            cases hh : idx hi n m with
            | none => simp [hh] at h
            | some hv =>
              simp only [hh] at h
              cases hl : idx lo 0 hv with
              | none => simp [hl] at h
              | some l =>
                simp only [hl] at h
                split at h
                · rename_i hn
                  simp only [Option.some.injEq] at h
                  subst h
                  have hb := run_bounds E.P ρ false n n hm hh hl hx w
                  have hmc : m ≤ n := idx_le hm (Nat.le_refl _)
                  have hlt := Sc_ptr_lt hsx
                  simp only [hdesc, ren_ptr, Instr.sureAddr, Sem.run_bind, Sem.run_pure, Result.andThen_ok, hb, run_sz E he]
                  by_cases hml : m = l
                  · subst hml
                    simp only [if_true]
                    refine ⟨?_, Sc_slice hlt⟩
                    have : renC (ρ a.block).C (m - m) = m - m := by unfold renC; rw [if_pos (by omega)]
                    simp only [ren_slice, this]
                  · simp only [if_neg hml]
                    refine ⟨?_, Sc_slice (by rw [addA_block]; exact hlt)⟩
                    have : renC (ρ (addA a (l * j.size)).block).C (m - l) = m - l := by unfold renC; rw [if_pos (by omega)]
                    simp only [ren_slice, this, renA_addA]
                · cases h
    · cases h

end
end AH
