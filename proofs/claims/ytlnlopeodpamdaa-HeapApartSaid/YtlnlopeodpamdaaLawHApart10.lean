/-
  HeapApart: all blocks are given back; the end.
-/
import Derived.Test.YtlnlopeodpamdaaLawHApart9
import Derived.Test.YtlnlopeodpamdaaLawXFill
set_option maxRecDepth 100000
set_option linter.unusedVariables false
namespace Go.Proofs.Ytlnlopeodpamdaa.Hx
open Go AH Go.Proofs
noncomputable section

noncomputable def k6 : List Item := .code (loopC ap6) :: .inLoop (loopC ap6) :: ap6.tail

/-- The copy, behind so many Gives. -/
structure Gv (L : BL) (i : Nat) (s : HS) (old : List Value) : Prop where
  nice : s.Nice i old
  first : s.first = 2
  words : s.words = 126
  bad : s.bad = (i : Int)
  es : s.es = (esL L).drop i
  clock : s.clock = L.length
  gs : s.gs = gsL L
  n : s.n = 127

theorem esL_at {L : BL} (h : FitL L) {i p k : Nat} (hi : i < (blL L).length) (hx : (blL L)[i] = ((p : Int), (k : Int), 0, true)) : ∃ e, (esL L)[i]? = some e ∧ e.key = .int .i64 (p : Int) ∧ e.val = blkV (p : Int) (k : Int) 0 true := by
  have hl : i < (esL L).length := by rw [esL_len, ← blL_len]; exact hi
  obtain ⟨p', k', h1, h2, h3, h4, h5, h6⟩ := esL_mem h _ (List.getElem_mem hl)
  have hb : bvOf (esL L)[i] = ((p : Int), (k : Int), 0, true) := by
    have : ((esL L).map bvOf)[i]'(by rw [List.length_map]; exact hl) = (blL L)[i] := by simp only [esL_bv]
    rw [List.getElem_map] at this
    rw [this, hx]
  have hb2 : bvOf (esL L)[i] = ((p' : Int), (k' : Int), 0, true) := by unfold bvOf; rw [h2]; rfl
  rw [hb2] at hb
  simp only [Prod.mk.injEq] at hb
  refine ⟨_, List.getElem?_eq_getElem hl, by rw [h1]; congr 1; omega, by rw [h2, hb.1, hb.2.1]⟩

theorem esL_find {L : BL} (h : FitL L) {i p k : Nat} (hi : i < (blL L).length) (hx : (blL L)[i] = ((p : Int), (k : Int), 0, true)) : findI (p : Int) ((esL L).drop i) 0 = some (0, blkV (p : Int) (k : Int) 0 true) := by
  obtain ⟨e, h1, h2, h3⟩ := esL_at h hi hx
  have hl : i < (esL L).length := by rw [esL_len, ← blL_len]; exact hi
  rw [List.drop_eq_getElem_cons hl]
  rw [List.getElem?_eq_getElem hl, Option.some.injEq] at h1
  rw [h1]
  simp only [findI, h2, if_true, h3]
theorem esL_gone {L : BL} (h : FitL L) {i p k : Nat} (hi : i < (blL L).length) (hx : (blL L)[i] = ((p : Int), (k : Int), 0, true)) : findI (p : Int) ((esL L).drop (i + 1)) 0 = none := by
  refine findI_none (fun e he => ?_) 0
  obtain ⟨j, hj, rfl⟩ := List.getElem_of_mem he
  rw [List.length_drop, esL_len] at hj
  rw [List.getElem_drop]
  have hjl : i + 1 + j < (blL L).length := by rw [blL_len]; omega
  obtain ⟨p', k', g1, g2, g3, g4⟩ := blL_mem h _ (List.getElem_mem hjl)
  obtain ⟨e, h1, h2, h3⟩ := esL_at h hjl g1
  rw [List.getElem?_eq_getElem (by rw [esL_len, ← blL_len]; exact hjl), Option.some.injEq] at h1
  rw [h1]
  refine ⟨_, h2, ?_⟩
  have := (List.pairwise_iff_getElem.1 (blL_rise h) i (i + 1 + j) hi hjl (by omega)).2
  rw [g1, hx] at this
  have h9 : (p : Int) < (p' : Int) := this
  omega

def oldL (old : List Value) (p k : Nat) : List Value := old ++ blkL (p : Int) (k : Int) 0 false
def nextS (s : HS) (p k i : Nat) (old : List Value) : HS := homeS (badS (tookS s p k 0)) (i + 1) (oldL old p k)

theorem took_nice {s : HS} {i p k : Nat} {old : List Value} (h : s.Nice i old) (hlen : i * 4 = old.length) : (homeS (tookS s p k 0) (i + 1) (oldL old p k)).Nice (i + 1) (oldL old p k) := by
  refine ⟨fun ρ => ?_, h.gs, h.cs, h.ws, fun ρ => setR_map (h.bs ρ) (by simp) p k, fun ρ => ?_, h.cl, h.wl, (setR_len _ _ _ _).trans h.bl, h.n, .inr (.inl ⟨rfl, rfl, ?_⟩), fun e => by cases e⟩
  · have : ∀ e ∈ s.es, renE ρ e = e := fun e he => (List.map_inj_left.1 ((h.es ρ).trans (List.map_id _).symm)) e he
    exact (List.map_congr_left fun e he => this e (List.mem_of_mem_eraseIdx he)).trans (List.map_id _)
  · rw [oldL, List.map_append, h.pold]; simp [blkL]
  · rw [oldL, List.length_append]; show (i + 1) * 4 = old.length + 4; omega
theorem was_len {s : HS} {i : Nat} {old : List Value} (h : s.Nice i old) : i * 4 = old.length := by
  rcases h.was with ⟨_, h1, h2⟩ | ⟨_, _, h3⟩ | ⟨_, _, h1, h2⟩
  · rw [h1, h2]; rfl
  · exact h3
  · rw [h1, h2]; rfl

theorem gv_next {L : BL} (h : FitL L) {i p k : Nat} {s : HS} {old : List Value} (g : Gv L i s old) (hi : i < 1000) : Gv L (i + 1) (nextS s p k i old) (oldL old p k) := by
  have hn := took_nice (p := p) (k := k) g.nice (was_len g.nice)
  refine ⟨⟨hn.es, hn.gs, hn.cs, hn.ws, hn.bs, hn.pold, hn.cl, hn.wl, hn.bl, hn.n, .inr (.inl ⟨rfl, rfl, by have := was_len g.nice; rw [oldL, List.length_append]; show (i + 1) * 4 = old.length + 4; omega⟩), fun e => by cases e⟩, g.first, g.words, ?_, ?_, g.clock, g.gs, g.n⟩
  · show IntKind.i64.wrap (s.bad + 1) = _
    rw [g.bad, IntWalk.i64_in _ (by omega)]; omega
  · show s.es.eraseIdx 0 = _
    rw [g.es, List.eraseIdx_zero, List.tail_drop]

theorem apJ_get (l : List BV) (i : Nat) : ∀ q ∈ apJ l i, (frL (apJ l i)).get q.1 = some q.2 := fun q hq => by
  simp only [apJ, List.mem_cons, List.not_mem_nil, or_false] at hq
  rcases hq with rfl | rfl | rfl | rfl | rfl <;> (show _ = _; kernel_rfl)
theorem apJ_ren (l : List BV) (i : Nat) : ∀ q ∈ apJ l i, AH.ren (loc (pi4 15)) q.2 = q.2 := fun q hq => by
  simp only [apJ, List.mem_cons, List.not_mem_nil, or_false] at hq
  rcases hq with rfl | rfl | rfl | rfl | rfl
  · simp only [ren_ptr, renA, loc]; rfl
  · simp only [ren_ptr, renA, loc]; rfl
  · cases l with
    | nil => simp only [xv, ren_nilslice]
    | cons x r =>
      rw [xv, ren_slice]
      simp only [renA, loc]
      rw [renC_le (Nat.le_refl _)]
      rfl
  · simp only [ren_ptr, renA, loc]; rfl
  · simp only [ren_int]

theorem X15_7 (s : HS) (L : BL) (c : Int) : (mix s (X15 L c)).get 7 = xb (blL L) := by rw [mix_get, if_neg (by omega), X15_get]; rfl
theorem away_7 (s : HS) (m : Nat) (old : List Value) (L : BL) (c : Int) : (away s m old (X15 L c)).get 7 = xb (blL L) := by
  rw [away_get, if_neg (by show ¬ 15 = 7; omega), if_neg (by omega), X15_get]; rfl

/-- One block is given back, and again. -/
theorem ap_give {L : BL} (h : FitL L) (hl : L.length < 1000) (c : Int) {i p k : Nat} (s : HS) (old : List Value) (g : Gv L i s old) (hi : i < (blL L).length) (hx : (blL L)[i] = ((p : Int), (k : Int), 0, true)) (hk1 : 1 ≤ k) (hpk : p + k ≤ 128) (R : Value → St → Prop)
    (hk : VB 0 M 7 Try.f7.ntmps (.inLoop (loopC ap6) :: ap6.tail) (frL (apJ (blL L) (i + 1))) (mix (nextS s p k i old) (X15 L c)) R) : VB 0 M 7 Try.f7.ntmps k6 (frL (apJ (blL L) i)) (mix s (X15 L c)) R := by
  have hnl : (blL L).length < 1000 := by rw [blL_len]; exact hl
  have hsh : Shaped1 s.es := fun e he => by
    rw [g.es] at he
    obtain ⟨p, k, h1, h2, h3, h4, _⟩ := esL_mem h e (List.mem_of_mem_drop he)
    exact ⟨_, _, _, _, h2, h1, by omega⟩
  have hg1 := give_away (X := X15 L c) g.nice (by show 7 ≤ 15; omega) hsh (by rw [g.es]; exact esL_find h hi hx) hk1 (by rw [g.n]; exact hpk) (by omega)
  have htk := took_nice (p := p) (k := k) g.nice (was_len g.nice)
  have hnx := (gv_next h (p := p) (k := k) g (by omega)).nice
  have hes : (tookS s p k 0).es = (esL L).drop (i + 1) := by
    show s.es.eraseIdx 0 = _
    rw [g.es, List.eraseIdx_zero, List.tail_drop]
  have hg2 := lift_away (X := X15 L c) htk hnx (by show 7 ≤ 15; omega) (args2 (p : Int)) (by simp [renA, loc, pi4]) (fun ρ => by simp) (give_none (homeS (tookS s p k 0) (i + 1) (oldL old p k)) (p : Int) htk.ok (fun e he => by
    have he' : e ∈ (esL L).drop (i + 1) := hes ▸ he
    obtain ⟨p, k, h1, h2, h3, h4, _⟩ := esL_mem h e (List.mem_of_mem_drop he')
    exact ⟨_, _, _, _, h2, h1, by omega⟩) (by show findI _ (tookS s p k 0).es 0 = none; rw [hes]; exact esL_gone h hi hx))
  have hhome : VB 0 M 7 Try.f7.ntmps (.inLoop (loopC ap6) :: ap6.tail) (frL (apJ (blL L) (i + 1))) (away (badS (tookS s p k 0)) (i + 1) (oldL old p k) (X15 L c)) R :=
    VB.home (apJ (blL L) (i + 1)) hnx (by show 7 ≤ 15; omega) (X15_sc h c) (X15_live L c) (fun n hn => X15_ren h c _ (fun i h7 _ => pi4_ne (by omega)) n hn) (apJ_get _ _) (apJ_ren _ _) (apJ_sc _ _ 15 (Nat.le_refl _)) rfl hk
  refine runS_stop ev0_ok (giv := givL [(192, .q (.int .i64 ((blL L).length : Nat))), (193, .q (.bool true)), (199, .q (.pointer (some ⟨7, i * 4, none⟩))), (201, .q (.int .i64 (p : Nat))), (202, .c (.int .i64 0) (away (tookS s p k 0) (i + 1) (oldL old p k) (X15 L c))), (208, .q (.pointer (some ⟨7, i * 4, none⟩))), (210, .q (.int .i64 (p : Nat))), (211, .c (.int .i64 16) (away (badS (tookS s p k 0)) (i + 1) (oldL old p k) (X15 L c))), (195, .q (.int .i64 ((i + 1 : Nat) : Int)))]) (n := 200) Try.func7
    (.inLoop (loopC ap6) :: ap6.tail) (apJ (blL L) (i + 1)) (σ' := away (badS (tookS s p k 0)) (i + 1) (oldL old p k) (X15 L c))
    (p' := ((((((((True ∧ opQ M.toEnv (frL [(191, xv (blL L))]) (mix s (X15 L c)) (.call ⟨.builtin .len, #[.tmp 191], #[68]⟩) = some (.int .i64 ((blL L).length : Nat)))
      ∧ some (Value.bool (ltI (i : Int) (((blL L).length : Nat) : Int))) = some (.bool true))
      ∧ opQ M.toEnv (frL [(197, xv (blL L)), (198, .int .i64 (i : Nat))]) (mix s (X15 L c)) (.indexAddr 68 (.tmp 197) (.tmp 198)) = some (.pointer (some ⟨7, i * 4, none⟩)))
      ∧ ldVar T3 (mix s (X15 L c)) ⟨7, i * 4 + 0, none⟩ = some (.int .i64 (p : Nat)))
      ∧ WF M.toEnv 30 [.pointer (some ⟨0, 0, none⟩), .int .i64 (p : Nat)] (mix s (X15 L c)) (fun r σ' => r = .int .i64 0 ∧ σ' = away (tookS s p k 0) (i + 1) (oldL old p k) (X15 L c)))
      ∧ opQ M.toEnv (frL [(206, xv (blL L)), (207, .int .i64 (i : Nat))]) (away (tookS s p k 0) (i + 1) (oldL old p k) (X15 L c)) (.indexAddr 68 (.tmp 206) (.tmp 207)) = some (.pointer (some ⟨7, i * 4, none⟩)))
      ∧ ldVar T3 (away (tookS s p k 0) (i + 1) (oldL old p k) (X15 L c)) ⟨7, i * 4 + 0, none⟩ = some (.int .i64 (p : Nat)))
      ∧ WF M.toEnv 30 [.pointer (some ⟨0, 0, none⟩), .int .i64 (p : Nat)] (away (tookS s p k 0) (i + 1) (oldL old p k) (X15 L c)) (fun r σ' => r = .int .i64 16 ∧ σ' = away (badS (tookS s p k 0)) (i + 1) (oldL old p k) (X15 L c)))
      ∧ some (Value.int .i64 (IntKind.i64.wrap ((i : Int) + 1))) = some (.int .i64 ((i + 1 : Nat) : Int)))
    (by kernel_rfl) ⟨⟨⟨⟨⟨⟨⟨⟨⟨trivial, xv_len _ _ 191 (.inr (.inl rfl))⟩, ?_⟩, xv_idx (by rfl) (by rfl) hi⟩, xb_ld rfl (X15_7 _ _ _) hi (by omega) (by rw [hx]; rfl)⟩, hg1⟩, xv_idx (by rfl) (by rfl) hi⟩, xb_ld rfl (away_7 _ _ _ _ _) hi (by omega) (by rw [hx]; rfl)⟩, hg2⟩, ?_⟩ hhome
  · rw [ltI_eq, decide_eq_true (by omega)]
  · rw [IntWalk.i64_in _ (by omega)]; rfl
end
end Go.Proofs.Ytlnlopeodpamdaa.Hx
