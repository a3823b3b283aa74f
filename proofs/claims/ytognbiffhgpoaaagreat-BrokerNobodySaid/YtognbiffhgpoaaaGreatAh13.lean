/-
  AH 13: append, copy, clear: in the abstract state.
-/
import Derived.Test.YtognbiffhgpoaaaGreatAh12
set_option linter.unusedSimpArgs false
set_option linter.unusedVariables false
namespace AH
open Go
noncomputable section

theorem putAt_end (vs : List Value) : ∀ (cs ex : List Value), vs.length ≤ ex.length → putAt (cs ++ ex) cs.length vs = cs ++ vs ++ ex.drop vs.length := by
  induction vs with
  | nil => intro cs ex _; simp [putAt, fillQ.putAt]
  | cons v vs ih =>
    intro cs ex h
    cases ex with
    | nil => simp at h
    | cons x ex =>
      simp only [putAt, fillQ.putAt]
      rw [List.set_append_right _ _ (Nat.le_refl _), Nat.sub_self, List.set_cons_zero]
      have := ih (cs ++ [v]) ex (by simpa using h)
      simp only [List.append_assoc, List.length_append, List.length_cons, List.length_nil, Nat.zero_add, List.cons_append, List.nil_append] at this
      simpa [putAt] using this

/-- A new row, with room for more. -/
theorem alloc_row {ρ : Nat → Loc} {σ : St} {w w' : World} (hR : Rel ρ σ w) (e sz : Nat) (cs ex : List Value) (C : Nat) (hs : Scs σ.next cs) (hC : cs.length + ex.length = C * sz) (hw : Like (w.alloc (.cells (cs.map (ren ρ) ++ ex).toArray e)) w') :
    Evo ρ σ w (upd ρ σ.next ⟨w.heap.size, 0, C⟩) (σ.push (.row e sz cs)) w' := by
  refine Evo.alloc hR (.cells (cs.map (ren ρ) ++ ex).toArray e) (.row e sz cs) C hw ⟨rfl, (0, 0), ex, Unfz_zero _, hC, ?_⟩ (hs.mono (Nat.le_succ _))
  rw [← hs.map_eq (ρ := ρ) (ρ' := upd ρ σ.next ⟨w.heap.size, 0, C⟩) (fun i hi => (upd_lt ρ _ hi).symm)]
  show (w.heap.push _)[w.heap.size]? = _
  simp

theorem cut_le (need old e t : Nat) : need ≤ (Question.appendCap need old e).cut t := by
  simp only [Question.cut]; omega

set_option maxHeartbeats 1000000 in
theorem appQ_sound (E : Env) {ρ : Nat → Loc} {σ σ' : St} {w : World} (hR : Rel ρ σ w) {t tx : Nat} {s x v : Value} (h : appQ E σ t tx s x = some (v, σ')) (hs : Sc σ.next s) (ty : Nat) :
    ∃ w' ρ', (Builtin.append_ #[t, tx] ty #[ren ρ s, ren ρ x]).run E.P w = .ok (ren ρ' v) w' ∧ Evo ρ σ w ρ' σ' w' ∧ Sc σ'.next v := by
  unfold appQ at h
  cases ht : E.ty t with
  | none => simp [ht] at h
  | some i =>
    cases htx : E.ty tx with
    | none => simp [ht, htx] at h
    | some ix =>
      simp only [ht, htx] at h
      split at h
      · rename_i e base len cap hd hdx
        cases he : E.ty e with
        | none => simp [he] at h
        | some j =>
          simp only [he] at h
          cases hsrc : srcZ σ ix.desc j x with
          | none => simp [hsrc] at h
          | some nn =>
            obtain ⟨n, new⟩ := nn
            simp only [hsrc] at h
            split at h
            · cases h
            · rename_i hnz
              have hjs : j.size ≠ 0 := fun e => hnz (.inl e)
              have hjb : j.bytes ≠ 0 := fun e => hnz (.inr e)
              have hut : E.P.underlying t = some (.slice e) := by rw [und_eq E ht, hd]
              have hutx : E.P.underlying tx = some ix.desc := und_eq E htx
              obtain ⟨hnl, hnsc, hbr⟩ := srcZ_sound E he hR hdx hsrc
              have hRd : Rel ρ σ w.drew := hR.like (Like.drew w)
              have hinfo : ∃ info, (∀ w, (typeInfo e).run E.P w = .ok info w) ∧ info.bytes = j.bytes := by
                obtain ⟨info, h1, _, h3, _⟩ := run_info E he w
                obtain ⟨_, _, _, info', h1', _⟩ := E.tyOk e j he
                have : info = info' := by simp [typeInfo, h1'] at h1; exact h1.symm
                subst this
                exact ⟨info, fun w => by simp [typeInfo, h1'], h3⟩
              obtain ⟨info, hinfo, hib⟩ := hinfo
              -- growing, out of the old cells
              have grow : ∀ (b' : Option Addr) (cap' : Nat) (old : List Value) (σ₁ : St), cap' < len + n → (8 * (len + n) + 4096) * j.bytes ≤ 281474976710656 → Evo ρ σ w ρ σ₁ w → σ₁.next = σ.next → Scs σ.next old → old.length = len * j.size →
                  (∀ w₂, Rel ρ σ w₂ → (Builtin.firstCells j.size len (.slice b' len cap')).run E.P w₂ = .ok (old.map (ren ρ)).toArray w₂) →
                  ∃ w' ρ', (Builtin.append_ #[t, tx] ty #[.slice b' len cap', ren ρ x]).run E.P w = .ok (ren ρ' (.slice (some ⟨σ.next, 0, none⟩) (len + n) unk)) w' ∧ Evo ρ σ w ρ' (σ₁.push (.row e j.size (old ++ new))) w' ∧ Sc (σ₁.push (.row e j.size (old ++ new))).next (.slice (some ⟨σ.next, 0, none⟩) (len + n) unk) := by
                intro b' cap' old σ₁ hlt hfit hev hnx hosc hol hold
                have hn := nextslicecap_le hlt
                have hcap : Builtin.nextslicecap (len + n) cap' * info.bytes ≤ 2 ^ 48 := by
                  rw [hib]
                  have : Builtin.nextslicecap (len + n) cap' * j.bytes ≤ (8 * (len + n) + 4096) * j.bytes := Nat.mul_le_mul_right _ hn
                  omega
                have hz := fun w => run_zero E he w
                have hnfit : len + n ≤ 4611686018427387904 := by
                  have : (8 * (len + n) + 4096) * 1 ≤ (8 * (len + n) + 4096) * j.bytes := Nat.mul_le_mul_left _ (by omega)
                  omega
                have hrun := run_append_grow (P := E.P) hut hutx (run_sz E he) hinfo hz (base := b') (len := len) (cap := cap') hlt (by rw [hib]; exact hjb) hcap hnfit rfl (hbr w.drew hRd) (hold w.drew hRd) ty
                have hcl := cut_le (len + n) cap' e (w.tape w.drawn (.appendCap (len + n) cap' e))
                generalize (Question.appendCap (len + n) cap' e).cut (w.tape w.drawn (.appendCap (len + n) cap' e)) = newCap at hrun hcl
                have hzl : (Builtin.zeroCells j.zero.cells (newCap - (len + n))).toList.length = (newCap - (len + n)) * j.size := by rw [zeroCells_length, zero_size E he]
                have hC : (old ++ new).length + (Builtin.zeroCells j.zero.cells (newCap - (len + n))).toList.length = newCap * j.size := by
                  rw [List.length_append, hol, hnl, hzl, ← Nat.add_mul, ← Nat.add_mul]
                  congr 1; omega
                have hR1 : Rel ρ σ₁ w.drew := hev.rel.like (Like.drew w)
                have hal := alloc_row (w := w.drew) hR1 e j.size (old ++ new) (Builtin.zeroCells j.zero.cells (newCap - (len + n))).toList newCap
                  (by rw [hnx]; intro v hv; rcases List.mem_append.1 hv with hv | hv; exact hosc v hv; exact hnsc v hv) hC (Like.refl _)
                refine ⟨_, _, ?_, (hev.trans (Evo.like hev.rel (Like.drew w))).trans hal, Sc_slice (by rw [St.next_push, hnx]; exact Nat.lt_succ_self _)⟩
                rw [hrun, hnx, ren_new_row _ _ _ rfl]
                congr 1
                congr 1
                congr 1
                apply Array.ext'
                simp
              split at h
              · rename_i hcap
                split at h
                · rename_i hroom
                  split at h
                  · split at h
                    · simp only [Option.some.injEq, Prod.mk.injEq] at h
                      obtain ⟨rfl, rfl⟩ := h
                      refine ⟨w, ρ, ?_, Evo.refl hR, by simp⟩
                      rw [ren_nilslice, ren_nilslice]
                      exact run_append_room hut hutx (run_sz E he) (hbr w hR) ty hroom rfl
                    · cases h
                  · rename_i a
                    split at h
                    · rename_i σ₂ hst
                      simp only [Option.some.injEq, Prod.mk.injEq] at h
                      obtain ⟨rfl, rfl⟩ := h
                      obtain ⟨w', h1, h2⟩ := stCells_sound E.P hR hst hnsc
                      have hC : renC (ρ a.block).C cap = cap := by simp [renC, hcap]
                      refine ⟨w', ρ, ?_, h2, Sc_slice (Nat.lt_of_lt_of_le (Sc_slice_lt hs) h2.next)⟩
                      simp only [ren_slice, hC]
                      rw [renA_addA] at h1
                      exact run_append_room hut hutx (run_sz E he) (hbr w hR) ty hroom (by simpa using h1)
                    · cases h
                · rename_i hroom
                  split at h
                  · rename_i hfit
                    split at h
                    · split at h
                      · rename_i hl0
                        simp only [Option.some.injEq, Prod.mk.injEq] at h
                        obtain ⟨rfl, rfl⟩ := h
                        have := grow none cap [] σ (by omega) hfit (Evo.refl hR) rfl (fun v hv => by simp at hv) (by simp [hl0]) (fun w₂ _ => by simp [Builtin.firstCells])
                        simpa using this
                      · cases h
                    · rename_i a
                      split at h
                      · rename_i old hold
                        simp only [Option.some.injEq, Prod.mk.injEq] at h
                        obtain ⟨rfl, rfl⟩ := h
                        have hC : renC (ρ a.block).C cap = cap := by simp [renC, hcap]
                        obtain ⟨hsp, hol, _⟩ := ldCells_spec hold
                        have := grow (some (renA ρ a)) cap old σ (by omega) hfit (Evo.refl hR) rfl (ldCells_sc hR hold) hol (fun w₂ h₂ => by
                          simp only [Builtin.firstCells]
                          rw [← hol]
                          exact run_ldCells E.P hsp (fun k v hk => Hold.at_of_in h₂ (ldCells_get hold hk)))
                        simpa [hC] using this
                      · cases h
                  · cases h
              · rename_i hcap
                split at h
                · cases h
                · rename_i a
                  split at h
                  · rename_i e' sz cs hrow
                    split at h
                    · rename_i hc
                      obtain ⟨hc1, hc2, hc3, hc4, hc5⟩ := hc
                      subst hc1
                      have hC := row_cap hR hrow
                      have hren : renC (ρ a.block).C cap = (ρ a.block).C - (unk - cap) := by simp [renC, hcap]
                      have hpos : 0 < j.size := Nat.pos_of_ne_zero hjs
                      split at h
                      · rename_i hroom
                        split at h
                        · rename_i σ₂ hst
                          simp only [Option.some.injEq, Prod.mk.injEq] at h
                          obtain ⟨rfl, rfl⟩ := h
                          obtain ⟨w', h1, h2⟩ := stCells_sound E.P hR hst hnsc
                          have hr : len + n ≤ (ρ a.block).C - (unk - cap) := by
                            have h3 : (unk - cap + (len + n)) * j.size ≤ (ρ a.block).C * j.size := by rw [Nat.add_mul]; omega
                            have := Nat.le_of_mul_le_mul_right h3 hpos
                            omega
                          refine ⟨w', ρ, ?_, h2, Sc_slice (Nat.lt_of_lt_of_le (Sc_slice_lt hs) h2.next)⟩
                          simp only [ren_slice, hren]
                          rw [renA_addA] at h1
                          exact run_append_room hut hutx (run_sz E he) (hbr w hR) ty hr (by simpa using h1)
                        · cases h
                      · split at h
                        · rename_i hfr
                          obtain ⟨hf1, hf2, hf3, hf4, hf5⟩ := hfr
                          subst hf3
                          simp only [Option.some.injEq, Prod.mk.injEq] at h
                          obtain ⟨rfl, rfl⟩ := h
                          simp only [Option.isNone_iff_eq_none] at hc5
                          have hlo : unk - cap = 0 := by
                            rw [hf1] at hc4
                            rcases Nat.mul_eq_zero.1 hc4.symm with h0 | h0
                            · exact h0
                            · omega
                          have hC' : renC (ρ a.block).C cap = (ρ a.block).C := by rw [hren, hlo]; omega
                          have hb := hR.blk a.block
                          have hsc := hR.sc a.block
                          rw [hrow] at hb hsc
                          have hcsl : len * j.size = cs.length := hf2
                          by_cases hroom : len + n ≤ (ρ a.block).C
                          · obtain ⟨h0, fz, ex, hfz, hl, hh⟩ := hb
                            have hnex : (new.map (ren ρ)).length ≤ ex.length := by
                              have : (len + n) * j.size ≤ (ρ a.block).C * j.size := Nat.mul_le_mul_right _ hroom
                              rw [Nat.add_mul] at this
                              simp; omega
                            have hst := run_storeCells_cells (P := E.P) (ρ a.block).b (len * j.size) (new.map (ren ρ)) 0 w
                              (fun k hk => cell_some hh (by simp at hk hnex ⊢; omega))
                              (fun k hk => frozen_false hh hfz (by simp at hk hnex; omega))
                              (fun v hv => by
                                simp only [List.mem_map] at hv
                                obtain ⟨u, hu, rfl⟩ := hv
                                exact oneCell_ren ρ (List.all_eq_true.1 hf4 u hu))
                            obtain ⟨hb1, hb2⟩ := setCells_block (ρ a.block).b (new.map (ren ρ)) (len * j.size + 0) w _ e' fz hh
                            have hlt : a.block < σ.next := Sc_slice_lt hs
                            refine ⟨_, upd ρ σ.next (ρ a.block), ?_, Evo.move hR (i := a.block) (by rw [hrow]; rfl) hb2 ⟨h0, fz, ex.drop new.length, hfz, ?_, ?_⟩ (fun v hv => ?_), Sc_slice (by simp)⟩
                            · have hrA : renA ρ a = ⟨(ρ a.block).b, 0, none⟩ := by simp [renA, h0, hf1, hc5]
                              rw [ren_new_row _ _ _ h0]
                              simp only [ren_slice, hC', hrA]
                              refine run_append_room hut hutx (run_sz E he) (hbr w hR) ty hroom ?_
                              have hadd : (⟨(ρ a.block).b, 0, none⟩ : Addr).add (len * j.size) = ⟨(ρ a.block).b, len * j.size, none⟩ := by
                                unfold Addr.add; split
                                · rename_i h9; simp [h9]
                                · simp
                              dsimp only
                              rw [hadd]
                              simpa using hst
                            · simp at hnex ⊢; omega
                            · rw [hb1]
                              simp only [List.toList_toArray, Nat.add_zero, hcsl]
                              have := putAt_end (new.map (ren ρ)) (cs.map (ren ρ)) ex hnex
                              simp only [List.length_map] at this
                              rw [this, ← Scs.map_eq (l := cs ++ new) (n := σ.next) (ρ := ρ) (ρ' := upd ρ σ.next (ρ a.block)) (fun v hv => by rcases List.mem_append.1 hv with hv | hv; exact hsc v hv; exact hnsc v hv) (fun i hi => (upd_lt ρ _ hi).symm)]
                              simp
                            · have : Sc σ.next v := by rcases List.mem_append.1 hv with hv | hv; exact hsc v hv; exact hnsc v hv
                              exact this.mono (Nat.le_succ _)
                          · have := grow (some (renA ρ a)) (ρ a.block).C cs (σ.set a.block .dead) (by omega) hf5 (Evo.kill hR a.block) (by simp) hsc hcsl.symm (fun w₂ h₂ => by
                              simp only [Builtin.firstCells]
                              rw [hcsl]
                              refine run_ldCells E.P hc5 (fun k v hk => Hold.at_of_in h₂ ⟨cs, by rw [hrow]; rfl, ?_⟩)
                              rw [hf1, Nat.zero_add]; exact hk)
                            simpa [hC'] using this
                        · cases h
                    · cases h
                  · cases h
      · cases h

end
end AH
