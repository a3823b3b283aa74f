/-
  HeapApart: the loop that takes blocks.
-/
import Derived.Test.YtlnlopeodpamdaaLawHApart1
set_option maxRecDepth 100000
set_option linter.unusedVariables false
namespace Go.Proofs.Ytlnlopeodpamdaa.Hx
open Go AH Go.Proofs
noncomputable section

theorem and_mask (x m : Int) (j : Nat) (hj : j < 63) (hm : (BitVec.ofInt 64 m).toNat = 2 ^ j - 1) : ∃ n : Nat, n < 2 ^ j ∧ AH.intOp .and .i64 x m = some (.int .i64 n) := by
  refine ⟨(BitVec.ofInt 64 x).toNat % 2 ^ j, Nat.mod_lt _ (Nat.two_pow_pos j), ?_⟩
  show some (Value.int .i64 (IntKind.i64.wrap (((BitVec.ofInt 64 x) &&& (BitVec.ofInt 64 m)).toNat : Nat))) = _
  rw [BitVec.toNat_and, hm, Nat.and_two_pow_sub_one_eq_mod]
  have h1 : (BitVec.ofInt 64 x).toNat % 2 ^ j < 2 ^ j := Nat.mod_lt _ (Nat.two_pow_pos j)
  have h2 : 2 ^ j ≤ 2 ^ 62 := Nat.pow_le_pow_right (by omega) (by omega)
  have h3 : (2 : Nat) ^ 62 = 4611686018427387904 := rfl
  rw [IntWalk.i64_in _ (by omega)]

theorem midS_nice {L : BL} {k t : Nat} (h : FitL ((k, t) :: L)) (j : Nat) (c : Int) : (midS L k t j c).Nice 0 [] := by
  have h0 := apS_nice h c
  refine ⟨h0.es, h0.gs, h0.cs, fun ρ => ?_, h0.bs, h0.pold, rfl, ?_, h0.bl, h0.n, .inl ⟨rfl, rfl, rfl⟩, fun _ => rfl⟩
  · show (setR _ (putAt (wsL L) _ _) _ j).map _ = setR _ (putAt (wsL L) _ _) _ j
    refine setR_map ?_ (by simp) _ _
    rw [putAt_map, wsL_pure, repl_pure (fun ρ => by simp)]
  · show (setR _ (putAt (wsL L) _ _) _ j).length = 128
    rw [setR_len, putAt_length, wsL_len]
theorem midS_good {L : BL} {k t : Nat} (h : FitL ((k, t) :: L)) (j : Nat) (c : Int) (hl : L.length < 1000) : (midS L k t j c).Good := by
  have h0 := apS_good h c (by show L.length + 1 ≤ 1000; omega)
  exact ⟨(midS_nice h j c).ok, h0.st, h0.sh, h0.len, h0.dist, .inl rfl⟩

theorem bsL_free {L : BL} {k t : Nat} (h : FitL ((k, t) :: L)) (a : Nat) (h1 : 2 + offL L ≤ a) (h2 : a < 2 + offL L + k) : (bsL ((k, t) :: L))[a]? = some (.bool false) := by
  rw [bsL, setR_get _ _ _ _ _ (by rw [bsL_len]; exact h.2.1), if_pos ⟨h1, h2⟩]
theorem drop_take_repl {l : List Value} {v : Value} {p k : Nat} (h : ∀ j, j < k → l[p + j]? = some v) : (l.drop p).take k = repl k [v] := by
  apply List.ext_getElem?
  intro i
  rw [List.getElem?_take]
  by_cases hi : i < k
  · rw [if_pos hi, List.getElem?_drop, h i hi, repl_get v k i hi]
  · rw [if_neg hi, List.getElem?_eq_none (by rw [repl_len]; omega)]

theorem args2 (a : Int) : Scs 7 [.pointer (some ⟨0, 0, none⟩), .int .i64 a] := fun u hu => by
  simp only [List.mem_cons, List.not_mem_nil, or_false] at hu
  rcases hu with rfl | rfl
  · exact Sc_ptr (by show 0 < 7; omega)
  · exact Sc_int _ _ _
theorem ren2 (a : Int) : ([.pointer (some ⟨0, 0, none⟩), .int .i64 a] : List Value).map (AH.ren (loc id)) = [.pointer (some ⟨0, 0, none⟩), .int .i64 a] := by simp [renA, loc]

theorem ap_take {L : BL} (h : FitL L) (c : Int) (m k t : Nat) (hm : m < 16) (hk : 1 + m + (1 + m) % 2 = k) (hl : L.length < 1000) (hroom : 2 + offL L + k ≤ 128) (X : St) (hX : 7 ≤ X.next) :
    WF M.toEnv 27 [.pointer (some ⟨0, 0, none⟩), .int .i64 ((1 + m : Nat) : Int)] (mix (apS L c) X) (fun r σ' => r = .tuple #[.int .i64 ((2 + offL L : Nat) : Int), .int .i64 0] ∧ σ' = mix (midS L k t 0 c) X) := by
  by_cases ht : 1 ≤ t
  · have hfit : FitL ((k, t) :: L) := ⟨by omega, hroom, ht, h⟩
    have hg := gap_end (k : Int) (by omega) h
    have hn := apS_nice h c
    have hkt : ((1 + m : Nat) : Int) + ((1 + m : Nat) : Int).tmod 2 = (k : Int) := by
      rw [Int.tmod_eq_emod_of_nonneg (by omega)]; omega
    have := take_ok (apS L c) ((1 + m : Nat) : Int) (2 + offL L) k (by omega) (by omega) hkt (apS_good h c (by omega)) (apS_gs c) (apS_fits h c _ (by omega)) (by rw [apS_blocks h]; show (gap _ _ 2).1 = _; rw [hg]) (by
      rw [apS_blocks h]
      show ((gap _ _ 2).2 || decide ((k : Int) ≤ 2 + 126 - _)) = true
      rw [hg, Bool.false_or, decide_eq_true_eq]; omega) (by show 2 + offL L + k ≤ 128; exact hroom) (by show (esL L).length < 1024; rw [esL_len]; omega) hn.mflat (esL_fresh h)
    rw [apS_take h c k t] at this
    exact lift hn.ok hn.flat (midS_nice hfit 0 c).ok (midS_nice hfit 0 c).flat hX (args2 _) (ren2 _) (fun ρ => by simp) (.inl rfl) this
  · have e : t = 0 := by omega
    subst e
    have hfit : FitL ((k, 1) :: L) := ⟨by omega, hroom, Nat.le_refl _, h⟩
    have hg := gap_end (k : Int) (by omega) h
    have hn := apS_nice h c
    have hkt : ((1 + m : Nat) : Int) + ((1 + m : Nat) : Int).tmod 2 = (k : Int) := by
      rw [Int.tmod_eq_emod_of_nonneg (by omega)]; omega
    have := take_ok (apS L c) ((1 + m : Nat) : Int) (2 + offL L) k (by omega) (by omega) hkt (apS_good h c (by omega)) (apS_gs c) (apS_fits h c _ (by omega)) (by rw [apS_blocks h]; show (gap _ _ 2).1 = _; rw [hg]) (by
      rw [apS_blocks h]
      show ((gap _ _ 2).2 || decide ((k : Int) ≤ 2 + 126 - _)) = true
      rw [hg, Bool.false_or, decide_eq_true_eq]; omega) (by show 2 + offL L + k ≤ 128; exact hroom) (by show (esL L).length < 1024; rw [esL_len]; omega) hn.mflat (esL_fresh h)
    rw [apS_take h c k 1] at this
    exact lift hn.ok hn.flat (midS_nice hfit 0 c).ok (midS_nice hfit 0 c).flat hX (args2 _) (ren2 _) (fun ρ => by simp) (.inl rfl) this

theorem ap_full {L : BL} (h : FitL L) (c : Int) (m k : Nat) (hm : m < 16) (hk : 1 + m + (1 + m) % 2 = k) (hl : L.length < 1000) (hroom : ¬ 2 + offL L + k ≤ 128) (X : St) (hX : 7 ≤ X.next) :
    WF M.toEnv 27 [.pointer (some ⟨0, 0, none⟩), .int .i64 ((1 + m : Nat) : Int)] (mix (apS L c) X) (fun r σ' => r = .tuple #[.int .i64 0, .int .i64 15] ∧ σ' = mix (apS L c) X) := by
  have hg := gap_end (k : Int) (by omega) h
  have hn := apS_nice h c
  have hkt : ((1 + m : Nat) : Int) + ((1 + m : Nat) : Int).tmod 2 = (k : Int) := by
    rw [Int.tmod_eq_emod_of_nonneg (by omega)]; omega
  refine lift hn.ok hn.flat hn.ok hn.flat hX (args2 _) (ren2 _) (fun ρ => by simp) (.inl rfl) (take_full (apS L c) ((1 + m : Nat) : Int) k (by omega) (by omega) hkt (apS_good h c (by omega)) (apS_fits h c _ (by omega)) ?_)
  rw [apS_blocks h]
  show ((gap _ _ 2).2 || decide ((k : Int) ≤ 2 + 126 - (gap _ _ 2).1)) = false
  rw [hg, Bool.false_or, decide_eq_false_iff_not]
  show ¬ (k : Int) ≤ 2 + 126 - ((2 + offL L : Nat) : Int)
  omega

theorem ap_at {L : BL} {k t : Nat} (h : FitL ((k, t) :: L)) (c : Int) (hl : L.length < 1000) (X : St) (hX : 7 ≤ X.next) :
    WF M.toEnv 38 [.pointer (some ⟨0, 0, none⟩), .int .i64 ((2 + offL L : Nat) : Int)] (mix (midS L k t 0 c) X) (fun r σ' => r = .tuple #[blkV ((2 + offL L : Nat) : Int) (k : Int) 0 true, .bool true] ∧ σ' = mix (midS L k t 0 c) X) := by
  have hn := midS_nice h 0 c
  have hk := h.1
  have hle := h.2.1
  refine lift hn.ok hn.flat hn.ok hn.flat hX (args2 _) (ren2 _) (fun ρ => by simp [blkV]) (.inl rfl) (at_taken _ _ (midS_good h 0 c hl) (fun e he p' k' g' v' hv => ?_) (by omega) (entL (k, t) L) ?_ ?_ fun e' he' hh => ?_)
  · obtain ⟨p, q, h1, h2, h3, h4, h5, h6⟩ := esL_mem h e he
    rw [h2] at hv
    simp only [blkV, Value.agg.injEq, Array.mk.injEq, List.cons.injEq, Value.int.injEq, true_and, Value.bool.injEq] at hv
    have : p + q ≤ 2 + (offL L + k) := h5
    omega
  · show entL (k, t) L ∈ esL L ++ [entL (k, t) L]
    simp
  · rw [hasE_blk (p := ((2 + offL L : Nat) : Int)) (k := (k : Int)) (g := 0) (v := true) rfl, decide_eq_true (by omega), decide_eq_true (by have : 1 ≤ k := hk; omega)]
    rfl
  · have he'' : e' ∈ esL L ++ [entL (k, t) L] := he'
    rcases List.mem_append.1 he'' with he'' | he''
    · obtain ⟨p, q, h1, h2, h3, h4, h5, h6⟩ := esL_mem h.2.2.2 e' he''
      rw [hasE_blk h2, Bool.and_eq_true, decide_eq_true_eq, decide_eq_true_eq] at hh
      omega
    · simp only [List.mem_singleton] at he''
      rw [he'']
end
end Go.Proofs.Ytlnlopeodpamdaa.Hx
