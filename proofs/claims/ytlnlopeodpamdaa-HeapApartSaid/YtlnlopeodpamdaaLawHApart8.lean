/-
  HeapApart: the loop over the blocks.
-/
import Derived.Test.YtlnlopeodpamdaaLawHApart7
set_option maxRecDepth 100000
set_option linter.unusedVariables false
namespace Go.Proofs.Ytlnlopeodpamdaa.Hx
open Go AH Go.Proofs
noncomputable section

theorem apG_get (l : List BV) (i : Nat) : ∀ q ∈ apG (xv l) i, (frL (apG (xv l) i)).get q.1 = some q.2 := fun q hq => by
  simp only [apG, List.mem_cons, List.not_mem_nil, or_false] at hq
  rcases hq with rfl | rfl | rfl | rfl <;> (show _ = _; kernel_rfl)

theorem ap_chk {L : BL} (h : FitL L) (c : Int) {l : List BV} (hlL : blL L = l) (hnl : l.length < 1000) (i p k t : Nat) (ww : List Value) (hi : i < l.length) (hx : l[i] = ((p : Int), (k : Int), 0, true)) (ht : 1 ≤ t) (hww : ∀ j, j < k → ww[j]? = some (.int .u64 (t : Int))) (hpk : p + k ≤ 128)
    (hprev : ∀ h0 : 0 < i, ∃ p' k' : Nat, l[i - 1] = ((p' : Int), (k' : Int), 0, true) ∧ p' + k' ≤ p) (R : Value → St → Prop)
    (hk : VB 0 M 7 Try.f7.ntmps (.inLoop (loopC ap4) :: ap4.tail) (frL (apG (xv l) (i + 1))) (mix (apS L c) (X8 (xb l))) R) : VB 0 M 7 Try.f7.ntmps ap5 (frL (frY l i k 0)) (sY L c l ww) R := by
  rw [ap5_eq]
  refine VB.loop (fun f σ => ∃ j : Nat, j ≤ k ∧ f = frL (frY l i k j) ∧ σ = sY L c l ww) (fun f σ => k - (match f.get 17 with | some (.int _ j) => j.toNat | _ => 0)) ⟨0, by omega, rfl, rfl⟩ ?_
  intro f σ ⟨j, hj, hf, hσ⟩ ih
  subst hf; subst hσ
  by_cases hjk : j < k
  · refine ap_chk1 c hnl i p k j t ww hi hx hjk ht hww hpk hprev R (ih _ _ ⟨j + 1, by omega, rfl, rfl⟩ ?_)
    show k - (((j + 1 : Nat) : Int)).toNat < k - ((j : Nat) : Int).toNat
    omega
  · have e : j = k := by omega
    subst e
    refine runS_stop ev0_ok (giv := givL [(142, .q (.bool false)), (126, .q (.int .i64 ((i + 1 : Nat) : Int)))]) (n := 100) Try.func7
      (.inLoop (loopC ap4) :: ap4.tail) (apG (xv l) (i + 1)) (σ' := sY L c l ww)
      (p' := (True ∧ some (Value.bool (ltI (j : Int) (j : Int))) = some (.bool false)) ∧ some (Value.int .i64 (IntKind.i64.wrap ((i : Int) + 1))) = some (.int .i64 ((i + 1 : Nat) : Int)))
      (by kernel_rfl) ⟨⟨trivial, ?_⟩, ?_⟩ ?_
    · rw [ltI_eq, decide_eq_false (by omega)]
    · rw [IntWalk.i64_in _ (by omega)]; rfl
    · have hwf := apG_wf h c (i + 1)
      rw [hlL] at hwf
      refine VB.cut (apG (xv l) (i + 1)) (mix (apS L c) (X8 (xb l))) (apG_get _ _) rfl hwf (Nat.zero_le _) (fun n => ?_) hk
      rw [sY_get, mix_get]
      by_cases h7 : n < 7
      · rw [if_pos h7, if_pos h7]; exact .inl rfl
      · rw [if_neg h7, if_neg h7]
        by_cases h9 : 9 = n
        · subst h9; right; rw [X8_get _ _ (by omega)]; rfl
        · rw [if_neg h9]
          by_cases h8 : 8 = n
          · subst h8; right; rw [X8_get _ _ (by omega)]; rfl
          · rw [if_neg h8]; exact .inl rfl

noncomputable def ap6 : List Item := pathI 200 [false] k4
theorem ap6_eq : ap6 = .code (.loop (loopC ap6)) :: ap6.tail := by kernel_rfl
def apH0 (l : List BV) : List (Nat × Value) := [(3, .pointer (some ⟨2, 0, none⟩)), (5, .pointer (some ⟨0, 0, none⟩)), (14, xv l), (19, .pointer (some ⟨13, 0, none⟩)), (20, .int .i64 0)]

/-- The loop over the blocks; and the copies. -/
theorem ap_loop2 {L : BL} (h : FitL L) (hl : L.length < 1000) (c : Int) (R : Value → St → Prop)
    (hk : VB 0 M 7 Try.f7.ntmps ap6 (frL (apH0 (blL L))) (s41 (apS L c) c (xb (blL L))) R) : VB 0 M 7 Try.f7.ntmps ap4 (frL (apG (xv (blL L)) 0)) (mix (apS L c) (X8 (xb (blL L)))) R := by
  rw [ap4_eq]
  refine VB.loop (fun f σ => ∃ i : Nat, i ≤ (blL L).length ∧ f = frL (apG (xv (blL L)) i) ∧ σ = mix (apS L c) (X8 (xb (blL L)))) (fun f σ => (blL L).length - (match f.get 15 with | some (.int _ j) => j.toNat | _ => 0)) ⟨0, by omega, rfl, rfl⟩ ?_
  intro f σ ⟨i, hi, hf, hσ⟩ ih
  subst hf; subst hσ
  have hnl : (blL L).length < 1000 := by rw [blL_len]; exact hl
  by_cases hil : i < (blL L).length
  · have hle := offL_le h
    obtain ⟨p, k, t, h1, h2, h3, h4, h5, h6⟩ := wsL_blk h _ (List.getElem_mem hil)
    refine ap_look h hl c i p k hil h1 h3 (by omega) R (ap_chk h c rfl hnl i p k t _ hil h1 h5 (fun j hj => ?_) (by omega) (fun h0 => ?_) R (ih _ _ ⟨i + 1, by omega, rfl, rfl⟩ ?_))
    · rw [List.getElem?_take, if_pos hj, List.getElem?_drop]
      exact h6 j hj
    · obtain ⟨p', k', g1, g2, g3, g4⟩ := blL_mem h _ (List.getElem_mem (show i - 1 < (blL L).length by omega))
      refine ⟨p', k', g1, ?_⟩
      have := (List.pairwise_iff_getElem.1 (blL_rise h) (i - 1) i (by omega) hil (by omega)).1
      rw [g1, h1] at this
      have h9 : (p' : Int) + (k' : Int) ≤ (p : Int) := this
      omega
    · show (blL L).length - (((i + 1 : Nat) : Int)).toNat < (blL L).length - ((i : Nat) : Int).toNat
      omega
  · have hn := apS_nice h c
    refine runS_stop ev0_ok (giv := givL [(123, .q (.int .i64 ((blL L).length : Nat))), (124, .q (.bool false)), (186, .c (.pointer (some ⟨8, 0, none⟩)) (s44 (apS L c) c (xb (blL L)))), (189, .c (.pointer (some ⟨13, 0, none⟩)) (s41 (apS L c) c (xb (blL L))))]) (n := 200) Try.func7
      ap6 (apH0 (blL L)) (σ' := s41 (apS L c) c (xb (blL L)))
      (p' := (((True ∧ opQ M.toEnv (frL [(122, xv (blL L))]) (mix (apS L c) (X8 (xb (blL L)))) (.call ⟨.builtin .len, #[.tmp 122], #[68]⟩) = some (.int .i64 ((blL L).length : Nat)))
        ∧ some (Value.bool (ltI (i : Int) (((blL L).length : Nat) : Int))) = some (.bool false))
        ∧ WF M.toEnv 44 [.pointer (some ⟨2, 0, none⟩)] (mix (lawS (apS L c) c) (X8 (xb (blL L)))) (fun r σ' => r = .pointer (some ⟨8, 0, none⟩) ∧ σ' = s44 (apS L c) c (xb (blL L))))
        ∧ WF M.toEnv 41 [.pointer (some ⟨0, 0, none⟩), .pointer (some ⟨8, 0, none⟩)] (s44 (apS L c) c (xb (blL L))) (fun r σ' => r = .pointer (some ⟨13, 0, none⟩) ∧ σ' = s41 (apS L c) c (xb (blL L))))
      (by kernel_rfl) ⟨⟨⟨⟨trivial, xv_len _ _ 122 (.inl rfl)⟩, ?_⟩, clone44 _ c _ hn.wl hn.bl hn.n⟩, clone41 _ c _⟩ hk
    rw [ltI_eq, decide_eq_false (by omega)]
end
end Go.Proofs.Ytlnlopeodpamdaa.Hx
