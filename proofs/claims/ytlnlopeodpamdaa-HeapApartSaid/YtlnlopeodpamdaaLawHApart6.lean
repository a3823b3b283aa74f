/-
  HeapApart: what is in the blocks is looked at.
-/
import Derived.Test.YtlnlopeodpamdaaLawHApart5
set_option maxRecDepth 100000
set_option linter.unusedVariables false
namespace Go.Proofs.Ytlnlopeodpamdaa.Hx
open Go AH Go.Proofs
noncomputable section

noncomputable def k4 : List Item := .code (loopC ap4) :: .inLoop (loopC ap4) :: ap4.tail
noncomputable def ap5 : List Item := pathI 200 [true] k4
theorem ap5_eq : ap5 = .code (.loop (loopC ap5)) :: ap5.tail := by kernel_rfl
noncomputable def k5 : List Item := .code (loopC ap5) :: .inLoop (loopC ap5) :: ap5.tail
theorem ty68 : M.toEnv.ty 68 = some T68 := by kernel_rfl

/-- All words of a block are one number. -/
theorem wsL_blk : ∀ {L : BL}, FitL L → ∀ x ∈ blL L, ∃ p k t : Nat, x = ((p : Int), (k : Int), 0, true) ∧ 2 ≤ p ∧ 1 ≤ k ∧ p + k ≤ 2 + offL L ∧ 1 ≤ t ∧ ∀ j, j < k → (wsL L)[p + j]? = some (.int .u64 (t : Int))
  | [], _, x, hx => by simp [blL] at hx
  | b :: r, h, x, hx => by
    have hl : 2 + offL r + b.1 ≤ (putAt (wsL r) (2 + offL r) (repl b.1 [.int .u64 0])).length := by rw [putAt_length, wsL_len]; exact h.2.1
    have hl2 : 2 + offL r + (repl b.1 [Value.int .u64 0]).length ≤ (wsL r).length := by rw [repl_len, wsL_len]; exact h.2.1
    rw [blL] at hx
    rcases List.mem_append.1 hx with hx | hx
    · obtain ⟨p, k, t, h1, h2, h3, h4, h5, h6⟩ := wsL_blk h.2.2.2 x hx
      refine ⟨p, k, t, h1, h2, h3, by show p + k ≤ 2 + (offL r + b.1); omega, h5, fun j hj => ?_⟩
      rw [wsL, setR_get _ _ _ _ _ hl, if_neg (by omega), putAt_get _ _ _ _ hl2, if_neg (by omega)]
      exact h6 j hj
    · simp only [List.mem_singleton] at hx
      refine ⟨2 + offL r, b.1, b.2, hx, by omega, h.1, by show 2 + offL r + b.1 ≤ 2 + (offL r + b.1); omega, h.2.2.1, fun j hj => ?_⟩
      rw [wsL, setR_get _ _ _ _ _ hl, if_pos (by omega)]

theorem encs_at {l : List BV} {i : Nat} (hi : i < l.length) (j : Nat) (hj : j < 4) : (encs l)[i * 4 + j]? = (encB l[i])[j]? := by
  have h : (((encs l).drop (i * 4)).take 4)[j]? = (encB l[i])[j]? := by rw [encs_drop l i hi]
  rw [List.getElem?_take, if_pos hj, List.getElem?_drop] at h
  exact h
theorem xv_eq {l : List BV} (h : 0 < l.length) : xv l = .slice (some ⟨7, 0, none⟩) l.length unk := by
  cases l with
  | nil => simp at h
  | cons x r => rfl
theorem xb_eq {l : List BV} (h : 0 < l.length) : xb l = .row 74 4 (encs l) := by
  cases l with
  | nil => simp at h
  | cons x r => rfl
theorem xv_len (l : List BV) (σ : St) (t : Tmp) (ht : t = 122 ∨ t = 191 ∨ t = 228 ∨ t = 235) : opQ M.toEnv (frL [(t, xv l)]) σ (.call ⟨.builtin .len, #[.tmp t], #[68]⟩) = some (.int .i64 (l.length : Nat)) := by
  rcases ht with rfl | rfl | rfl | rfl <;> cases l <;> (show _ = _; kernel_rfl)
theorem xv_idx {l : List BV} {f : Fr} {σ : St} {t u : Tmp} {i : Nat} (h : f.get t = some (xv l)) (hu : f.get u = some (.int .i64 (i : Nat))) (hi : i < l.length) : opQ M.toEnv f σ (.indexAddr 68 (.tmp t) (.tmp u)) = some (.pointer (some ⟨7, i * 4, none⟩)) := by
  rw [xv_eq (by omega)] at h
  exact indexA_ok (i := T68) (j := T74) (e := 74) (k := i) h hu ty68 rfl ty74 hi
theorem xb_ld {l : List BV} {i j : Nat} {σ : St} {ty : TyI} {v : Value} (hty : ty.agg = false) (hx : (σ.get 7) = xb l) (hi : i < l.length) (hj : j < 4) (hv : (encB l[i])[j]? = some v) : ldVar ty σ ⟨7, i * 4 + j, none⟩ = some v :=
  ld_cell (cs := encs l) hty (by rw [hx, xb_eq (by omega)]; rfl) (by rw [encs_at hi j hj]; exact hv)

def frY (l : List BV) (i k j : Nat) : List (Nat × Value) := [(3, .pointer (some ⟨2, 0, none⟩)), (5, .pointer (some ⟨0, 0, none⟩)), (14, xv l), (15, .int .i64 ((i : Nat) : Int)), (16, .slice (some ⟨9, 0, none⟩) k unk), (17, .int .i64 ((j : Nat) : Int))]
def sY (L : BL) (c : Int) (l : List BV) (ww : List Value) : St := mix (apS L c) (X8 (xb l) |>.push .dead |>.push (.row 89 1 ww))
theorem sY_get (L : BL) (c : Int) (l : List BV) (ww : List Value) (i : Nat) : (sY L c l ww).get i = if i < 7 then (hs (apS L c)).get i else if 9 = i then .row 89 1 ww else if 8 = i then .dead else (X8 (xb l)).get i := by
  rw [sY, mix_get]
  split
  · rfl
  · rw [St.get_push, St.get_push]; rfl

/-- A block's words are fetched. -/
theorem ap_look {L : BL} (h : FitL L) (hl : L.length < 1000) (c : Int) (i p k : Nat) (hi : i < (blL L).length) (hx : (blL L)[i] = ((p : Int), (k : Int), 0, true)) (hk1 : 1 ≤ k) (hpk : p + k ≤ 128) (R : Value → St → Prop)
    (hk : VB 0 M 7 Try.f7.ntmps ap5 (frL (frY (blL L) i k 0)) (sY L c (blL L) (((wsL L).drop p).take k)) R) : VB 0 M 7 Try.f7.ntmps k4 (frL (apG (xv (blL L)) i)) (mix (apS L c) (X8 (xb (blL L)))) R := by
  have hn := apS_nice h c
  generalize hll : blL L = l at *
  have hnl : l.length < 1000 := by rw [← hll, blL_len]; exact hl
  generalize hww : ((wsL L).drop p).take k = ww at *
  have hcut : VB 0 M 7 Try.f7.ntmps ap5 (frL (frY l i k 0)) (cloned (mix (apS L c) (X8 (xb l))) 89 ww) R := by
    have hwws : Scs 10 ww := fun v hv => by
      rw [← hww] at hv
      exact sc_of_pure (wsL_pure L) 10 v (List.mem_of_mem_drop (List.mem_of_mem_take hv))
    refine VB.cut (frY l i k 0) (sY L c l ww) (fun q hq => ?_) rfl ⟨fun n => ?_, fun n hn => ?_, fun t v ht => ?_⟩ (Nat.zero_le _) (fun n => ?_) hk
    · simp only [frY, List.mem_cons, List.not_mem_nil, or_false] at hq
      rcases hq with rfl | rfl | rfl | rfl | rfl | rfl <;> (show _ = _; kernel_rfl)
    · rw [sY_get]
      split
      · exact hs_sc hn.ok n _ (by show 7 ≤ 10; omega)
      split
      · exact hwws
      split
      · trivial
      · rw [X8_get _ _ (by omega)]
        split
        · exact xb_sc _ _
        · trivial
    · rw [sY_get] at hn
      show n < 10
      by_cases h10 : n < 10
      · exact h10
      · rw [if_neg (by omega), if_neg (by omega), if_neg (by omega), X8_get _ _ (by omega), if_neg (by omega)] at hn
        cases hn
    · have := frL_mem ht
      simp only [frY, List.mem_cons, Prod.mk.injEq, List.not_mem_nil, or_false] at this
      rcases this with ⟨_, rfl⟩ | ⟨_, rfl⟩ | ⟨_, rfl⟩ | ⟨_, rfl⟩ | ⟨_, rfl⟩ | ⟨_, rfl⟩
      · exact Sc_ptr (by show 2 < 10; omega)
      · exact Sc_ptr (by show 0 < 10; omega)
      · exact xv_sc l _ (by show 8 ≤ 10; omega)
      · exact Sc_int _ _ _
      · exact Sc_slice (by show 9 < 10; omega)
      · exact Sc_int _ _ _
    · rw [sY_get, cloned_get, mix_get]
      show _ = (if 8 + 1 = n then _ else if 8 = n then _ else _) ∨ _
      by_cases h7 : n < 7
      · rw [if_pos h7, if_neg (by omega), if_neg (by omega), if_pos h7]; exact .inl rfl
      · rw [if_neg h7]
        by_cases h9 : 9 = n
        · subst h9; exact .inl rfl
        · rw [if_neg h9]
          by_cases h8 : 8 = n
          · rw [if_pos h8]; exact .inr rfl
          · rw [if_neg h8, if_neg (by omega), if_neg h8, if_neg h7]; exact .inl rfl
  refine runS_stop ev0_ok (giv := givL [(123, .q (.int .i64 (l.length : Nat))), (124, .q (.bool true)), (130, .q (.pointer (some ⟨7, i * 4, none⟩))), (132, .q (.int .i64 (p : Nat))), (135, .q (.pointer (some ⟨7, i * 4, none⟩))), (137, .q (.int .i64 (k : Nat))), (138, .c (.slice (some ⟨9, 0, none⟩) k unk) (cloned (mix (apS L c) (X8 (xb l))) 89 ww))]) (n := 200) Try.func7
    ap5 (frY l i k 0) (σ' := cloned (mix (apS L c) (X8 (xb l))) 89 ww)
    (p' := ((((((True ∧ opQ M.toEnv (frL [(122, xv l)]) (mix (apS L c) (X8 (xb l))) (.call ⟨.builtin .len, #[.tmp 122], #[68]⟩) = some (.int .i64 (l.length : Nat)))
      ∧ some (Value.bool (ltI (i : Int) ((l.length : Nat) : Int))) = some (.bool true))
      ∧ opQ M.toEnv (frL [(128, xv l), (129, .int .i64 (i : Nat))]) (mix (apS L c) (X8 (xb l))) (.indexAddr 68 (.tmp 128) (.tmp 129)) = some (.pointer (some ⟨7, i * 4, none⟩)))
      ∧ opQ M.toEnv (frL [(133, xv l), (134, .int .i64 (i : Nat))]) (mix (apS L c) (X8 (xb l))) (.indexAddr 68 (.tmp 133) (.tmp 134)) = some (.pointer (some ⟨7, i * 4, none⟩)))
      ∧ ldVar T3 (mix (apS L c) (X8 (xb l))) ⟨7, i * 4 + 0, none⟩ = some (.int .i64 (p : Nat)))
      ∧ ldVar T3 (mix (apS L c) (X8 (xb l))) ⟨7, i * 4 + 1, none⟩ = some (.int .i64 (k : Nat)))
      ∧ WF M.toEnv 42 [.pointer (some ⟨2, 0, none⟩), .int .i64 (p : Nat), .int .i64 (k : Nat)] (mix (apS L c) (X8 (xb l))) (fun r σ' => r = .slice (some ⟨9, 0, none⟩) k unk ∧ σ' = cloned (mix (apS L c) (X8 (xb l))) 89 ww))
    (by kernel_rfl) ⟨⟨⟨⟨⟨⟨⟨trivial, xv_len l _ 122 (.inl rfl)⟩, ?_⟩, xv_idx (by rfl) (by rfl) hi⟩, xv_idx (by rfl) (by rfl) hi⟩, ?_⟩, ?_⟩, ?_⟩ hcut
  · rw [ltI_eq, decide_eq_true (by omega)]
  · exact xb_ld rfl (by rw [mix_get, if_neg (by omega), X8_get _ _ (by omega), if_pos rfl]) hi (by omega) (by rw [hx]; rfl)
  · exact xb_ld rfl (by rw [mix_get, if_neg (by omega), X8_get _ _ (by omega), if_pos rfl]) hi (by omega) (by rw [hx]; rfl)
  · have hp := peek_any (s := apS L c) (σ := mix (apS L c) (X8 (xb l))) p k hk1 (by show p + k ≤ 128; exact hpk) (by show 127 ≤ 100000; omega) hn.ok.m hn.mflat (by show 7 ≤ 8; omega) (by rw [mix_get, if_pos (by omega), hs_get, ms_get]; rfl) (by rw [mix_get, if_pos (by omega), hs_get, ms_get]; rfl) (by rw [mix_get, if_pos (by omega), hs_get, ms_get]; rfl)
    rw [← hww]
    exact hp
end
end Go.Proofs.Ytlnlopeodpamdaa.Hx
