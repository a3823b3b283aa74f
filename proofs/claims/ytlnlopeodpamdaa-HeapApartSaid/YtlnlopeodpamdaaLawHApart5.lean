/-
  HeapApart: the loop that takes blocks; and behind it.
-/
import Derived.Test.YtlnlopeodpamdaaLawHApart4
set_option maxRecDepth 100000
set_option linter.unusedVariables false
namespace Go.Proofs.Ytlnlopeodpamdaa.Hx
open Go AH Go.Proofs
noncomputable section

noncomputable def ap4 : List Item := pathI 200 [false] k1
theorem ap4_eq : ap4 = .code (.loop (loopC ap4)) :: ap4.tail := by kernel_rfl
def xb : List BV → Blk
  | [] => .dead
  | x :: r => .row 74 4 (encs (x :: r))
def xv : List BV → Value
  | [] => .slice none 0 0
  | x :: r => .slice (some ⟨7, 0, none⟩) (x :: r).length unk
def apG (v : Value) (i : Nat) : List (Nat × Value) := [(3, .pointer (some ⟨2, 0, none⟩)), (5, .pointer (some ⟨0, 0, none⟩)), (14, v), (15, .int .i64 ((i : Nat) : Int))]

theorem seen_mix {s : HS} (h : s.Good) (X : St) : Seen (mix s X) 0 s.hv := by
  have h0 := h.seen
  exact ⟨by rw [mix_get, if_pos (by omega)]; exact h0.cell, by rw [mix_get, if_pos (by show 1 < 7; omega)]; exact h0.map, h0.st, h0.sh, h0.len, h0.dist, h0.rn, h0.fix, h0.lt⟩

theorem xb_sc (l : List BV) (n : Nat) : (xb l).sc n := by
  cases l with
  | nil => trivial
  | cons x r => exact encs_sc _ n
theorem xv_sc (l : List BV) (n : Nat) (hn : 8 ≤ n) : Sc n (xv l) := by
  cases l with
  | nil => exact Sc_nilslice _ _ _
  | cons x r => exact Sc_slice (by show 7 < n; omega)
theorem apG_sc (l : List BV) (i n : Nat) (hn : 8 ≤ n) : ∀ q ∈ apG (xv l) i, Sc n q.2 := fun q hq => by
  simp only [apG, List.mem_cons, List.not_mem_nil, or_false] at hq
  rcases hq with rfl | rfl | rfl | rfl
  · exact Sc_ptr (by show 2 < n; omega)
  · exact Sc_ptr (by show 0 < n; omega)
  · exact xv_sc l n hn
  · exact Sc_int _ _ _
theorem apG_wf {L : BL} (h : FitL L) (c : Int) (i : Nat) : Wf (frL (apG (xv (blL L)) i)) (mix (apS L c) (X8 (xb (blL L)))) :=
  mix_wf (apS_nice h c).ok (by show 7 ≤ 8; omega) (X8_sc (xb_sc _ 8)) X8_live (apG_sc _ i 8 (Nat.le_refl _))

def pi7 : Nat → Nat := fun i => if i = 7 then 8 else i

theorem ap_exit {L : BL} (h : FitL L) (hl : L.length < 1000) (c : Int) {zs : List Value} (hz : Ints zs) (len cap i : Nat) (hi : (¬ i < len) ∨ (i < len ∧ i = 20)) (R : Value → St → Prop)
    (hk : VB 0 M 7 Try.f7.ntmps ap4 (frL (apG (xv (blL L)) 0)) (mix (apS L c) (X8 (xb (blL L)))) R) : VB 0 M 7 Try.f7.ntmps k1 (frL (apF (lS len cap) i)) (mix (apS L c) (X8 (.ro zs))) R := by
  have hb := blocksG (seen_mix (apS_good h c (by omega)) (X8 (.ro zs)))
  have hbl : sortB ((apS L c).hv.es.map bvOf) = blL L := apS_blocks h c
  rw [hbl] at hb
  have hback : VB 0 M 7 Try.f7.ntmps ap4 (frL (apG (blocksV (mix (apS L c) (X8 (.ro zs))) (blL L)).1 0)) (blocksV (mix (apS L c) (X8 (.ro zs))) (blL L)).2 R := by
    have hwf := apG_wf h c 0
    cases hx : blL L with
    | nil =>
      rw [hx] at hk hwf
      refine VB.cut (apG (xv []) 0) (mix (apS L c) (X8 (xb []))) (fun q hq => ?_) rfl hwf (Nat.zero_le _) (fun n => ?_) hk
      · simp only [apG, List.mem_cons, List.not_mem_nil, or_false] at hq
        rcases hq with rfl | rfl | rfl | rfl <;> (show _ = _; kernel_rfl)
      · show (mix _ (X8 (xb []))).get n = (mix _ (X8 (.ro zs))).get n ∨ _
        rw [mix_get, mix_get]
        by_cases h7 : n < 7
        · rw [if_pos h7, if_pos h7]; exact .inl rfl
        · rw [if_neg h7, X8_get _ _ (by omega)]
          right
          split <;> rfl
    | cons x r =>
      rw [hx] at hk hwf
      show VB 0 M 7 Try.f7.ntmps ap4 (frL (apG (.slice (some ⟨8, 0, none⟩) (x :: r).length unk) 0)) ((mix (apS L c) (X8 (.ro zs))).push (.row 74 4 (encs (x :: r)))) R
      have hn := apS_nice h c
      refine VB.renum pi7 (Nat.zero_le _) (fun i hi => absurd hi (Nat.not_lt_zero _)) (fun i j hi hj e => ?_) (fun i hi => ?_) hwf (fun t v ht => ?_) rfl (fun i hi => by rw [frL_df] at hi; simp at hi) hk
      · have h1 : i < 8 := hwf.lt i hi
        have h2 : j < 8 := hwf.lt j hj
        unfold pi7 at e
        split at e <;> split at e <;> omega
      · have h1 : i < 8 := hwf.lt i hi
        rw [mix_get]
        by_cases h7 : i < 7
        · rw [if_pos h7, show pi7 i = i by unfold pi7; rw [if_neg (by omega)], St.get_push, if_neg (by show ¬ 8 = i; omega), mix_get, if_pos h7]
          by_cases h0 : i = 0
          · subst h0
            rw [hs_get]
            show hst 2 1 3 (.slice none 0 0) 2 126 0 = renB _ (hst 2 1 3 (.slice none 0 0) 2 126 0)
            simp only [hst, renB, List.map_cons, List.map_nil, ren_ptr, ren_int, ren_map, ren_nilslice, renA, loc]
            rfl
          · by_cases h4 : i = 4
            · subst h4; rw [hs_get]; rfl
            · rw [hs_ren hn pi7 (fun i hi _ => by unfold pi7; rw [if_neg (by omega)]) i h0 h4]
        · have h8 : i = 7 := by omega
          subst h8
          rw [if_neg h7, X8_get _ _ (by omega), if_pos rfl, show pi7 7 = 8 from rfl, St.get_push, if_pos (by rfl)]
          show Blk.row 74 4 _ = renB _ (Blk.row 74 4 _)
          rw [renB, encs_closed]
      · have := frL_mem ht
        simp only [apG, List.mem_cons, Prod.mk.injEq, List.not_mem_nil, or_false] at this
        rcases this with ⟨rfl, rfl⟩ | ⟨rfl, rfl⟩ | ⟨rfl, rfl⟩ | ⟨rfl, rfl⟩
        · simp only [ren_ptr, renA, loc]; rfl
        · simp only [ren_ptr, renA, loc]; rfl
        · rw [xv, ren_slice]
          simp only [renA, loc]
          rw [renC_le (Nat.le_refl _)]
          rfl
        · simp only [ren_int]; rfl
  rcases hi with hi | ⟨hi, rfl⟩
  · refine runS_stop ev0_ok (giv := givL [(40, .q (.bool false)), (120, .c (blocksV (mix (apS L c) (X8 (.ro zs))) (blL L)).1 (blocksV (mix (apS L c) (X8 (.ro zs))) (blL L)).2)]) (n := 200) Try.func7
      ap4 (apG (blocksV (mix (apS L c) (X8 (.ro zs))) (blL L)).1 0) (σ' := (blocksV (mix (apS L c) (X8 (.ro zs))) (blL L)).2)
      (p' := (True ∧ some (Value.bool (ltI (i : Int) (len : Int))) = some (.bool false)) ∧ WF M.toEnv 35 [.pointer (some ⟨0, 0, none⟩)] (mix (apS L c) (X8 (.ro zs))) (fun r σ' => r = (blocksV (mix (apS L c) (X8 (.ro zs))) (blL L)).1 ∧ σ' = (blocksV (mix (apS L c) (X8 (.ro zs))) (blL L)).2))
      (by kernel_rfl) ⟨⟨trivial, ?_⟩, hb⟩ hback
    rw [ltI_eq, decide_eq_false (by omega)]
  · refine runS_stop ev0_ok (giv := givL [(40, .q (.bool true)), (43, .q (.bool false)), (120, .c (blocksV (mix (apS L c) (X8 (.ro zs))) (blL L)).1 (blocksV (mix (apS L c) (X8 (.ro zs))) (blL L)).2)]) (n := 200) Try.func7
      ap4 (apG (blocksV (mix (apS L c) (X8 (.ro zs))) (blL L)).1 0) (σ' := (blocksV (mix (apS L c) (X8 (.ro zs))) (blL L)).2)
      (p' := ((True ∧ some (Value.bool (ltI ((20 : Nat) : Int) (len : Int))) = some (.bool true)) ∧ some (Value.bool (ltI ((20 : Nat) : Int) 20)) = some (.bool false)) ∧ WF M.toEnv 35 [.pointer (some ⟨0, 0, none⟩)] (mix (apS L c) (X8 (.ro zs))) (fun r σ' => r = (blocksV (mix (apS L c) (X8 (.ro zs))) (blL L)).1 ∧ σ' = (blocksV (mix (apS L c) (X8 (.ro zs))) (blL L)).2))
      (by kernel_rfl) ⟨⟨⟨trivial, ?_⟩, ?_⟩, hb⟩ hback
    · rw [ltI_eq, decide_eq_true (by omega)]
    · rw [ltI_eq, decide_eq_false (by omega)]

/-- The loop that takes blocks. -/
theorem ap_loop {zs : List Value} (hz : Ints zs) (len cap : Nat) (hlen : len ≤ zs.length) (R : Value → St → Prop)
    (hk : ∀ L c, FitL L → L.length ≤ 20 → VB 0 M 7 Try.f7.ntmps ap4 (frL (apG (xv (blL L)) 0)) (mix (apS L c) (X8 (xb (blL L)))) R) : VB 0 M 7 Try.f7.ntmps ap1 (frL (apF (lS len cap) 0)) (mix (apS [] 0) (X8 (.ro zs))) R := by
  rw [ap1_eq]
  refine VB.loop (fun f σ => ∃ (L : BL) (c : Int) (i : Nat), FitL L ∧ offL L % 2 = 0 ∧ L.length ≤ i ∧ i ≤ 20 ∧ f = frL (apF (lS len cap) i) ∧ σ = mix (apS L c) (X8 (.ro zs)))
    (fun f σ => 20 - (match f.get 7 with | some (.int _ j) => j.toNat | _ => 0)) ⟨[], 0, 0, trivial, rfl, by simp, by omega, rfl, rfl⟩ ?_
  intro f σ ⟨L, c, i, h, hev, hl, hi, hf, hσ⟩ ih
  subst hf; subst hσ
  have hdec : 20 - (((i + 1 : Nat) : Int)).toNat < 20 - ((i : Nat) : Int).toNat ∨ ¬ i < 20 := by omega
  by_cases hil : i < len
  · by_cases h20 : i < 20
    · have hdec' : 20 - (((i + 1 : Nat) : Int)).toNat < 20 - ((i : Nat) : Int).toNat := by omega
      have hzl : i < zs.length := by omega
      obtain ⟨z, hzv⟩ := hz zs[i] (List.getElem_mem hzl)
      have hzi : zs[i]? = some (.int .i64 z) := by rw [List.getElem?_eq_getElem hzl, hzv]
      obtain ⟨m, hm, hmz⟩ := and_mask z 15 4 (by omega) (by decide)
      by_cases hroom : 2 + offL L + (1 + m + (1 + m) % 2) ≤ 128
      · refine ap_turn1 h (by omega) c hz len cap i m (1 + m + (1 + m) % 2) (i + 1) z h20 hil hzi hm hmz rfl hroom hev rfl R (ap_inner ⟨by show 1 ≤ 1 + m + (1 + m) % 2; omega, hroom, by show 1 ≤ i + 1; omega, h⟩ rfl h20 c hz len cap R fun c' => ?_)
        exact ih _ _ ⟨(1 + m + (1 + m) % 2, i + 1) :: L, c', i + 1, ⟨by show 1 ≤ 1 + m + (1 + m) % 2; omega, hroom, by show 1 ≤ i + 1; omega, h⟩, by show (offL L + (1 + m + (1 + m) % 2)) % 2 = 0; omega, by show L.length + 1 ≤ i + 1; omega, by omega, rfl, rfl⟩ hdec'
      · exact ap_turn0 h (by omega) c hz len cap i m (1 + m + (1 + m) % 2) z h20 hil hzi hm hmz rfl hroom R (ih _ _ ⟨L, c, i + 1, h, hev, by omega, by omega, rfl, rfl⟩ hdec')
    · exact ap_exit h (by omega) c hz len cap i (.inr ⟨hil, by omega⟩) R (hk L c h (by omega))
  · exact ap_exit h (by omega) c hz len cap i (.inl hil) R (hk L c h (by omega))
end
end Go.Proofs.Ytlnlopeodpamdaa.Hx
