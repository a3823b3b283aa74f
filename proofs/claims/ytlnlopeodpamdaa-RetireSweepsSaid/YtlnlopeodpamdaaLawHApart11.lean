/-
  The texts HApart1, HApart2, HApart3, HApart4, HApart5, HApart6, HApart7, HApart8, HApart9, HApart10, HApart11, joined.
-/
import Derived.Test.YtlnlopeodpamdaaLawXFill
section
/-
  HeapApart: the beginning, and the loop that takes blocks.
-/
set_option maxRecDepth 100000
set_option linter.unusedVariables false
namespace Go.Proofs.Ytlnlopeodpamdaa.Hx
open Go AH Go.Proofs
noncomputable section

theorem mix_wf {s : HS} {X : St} {l : List (Nat × Value)} (h : s.Ok) (hX : 7 ≤ X.next) (hXs : ∀ i, 7 ≤ i → (X.get i).sc X.next) (hXl : ∀ i, 7 ≤ i → (X.get i).live = true → i < X.next) (hls : ∀ p ∈ l, Sc X.next p.2) : Wf (frL l) (mix s X) := by
  refine ⟨fun i => ?_, fun i hi => ?_, fun t v ht => hls _ (frL_mem ht)⟩
  · rw [mix_get]
    split
    · exact hs_sc h i _ hX
    · exact hXs i (by omega)
  · show i < X.next
    by_cases h7 : i < 7
    · omega
    · rw [mix_get, if_neg h7] at hi
      exact hXl i (by omega) hi

theorem X8_get (xb : Blk) (i : Nat) (hi : 7 ≤ i) : (X8 xb).get i = if 7 = i then xb else .dead := by
  rw [X8, St.get_push]; rfl
theorem X8_sc {xb : Blk} (h : xb.sc 8) (i : Nat) (hi : 7 ≤ i) : ((X8 xb).get i).sc (X8 xb).next := by
  rw [X8_get _ _ hi]
  split
  · exact h
  · trivial
theorem X8_live {xb : Blk} (i : Nat) (hi : 7 ≤ i) (hl : ((X8 xb).get i).live = true) : i < (X8 xb).next := by
  rw [X8_get _ _ hi] at hl
  show i < 8
  split at hl
  · omega
  · cases hl

/-- The input: numbers that stay as they are. -/
def Ints (zs : List Value) : Prop := ∀ v ∈ zs, ∃ z, v = .int .i64 z
theorem Ints.pure {zs : List Value} (h : Ints zs) (ρ : Nat → AH.Loc) : zs.map (AH.ren ρ) = zs :=
  (List.map_congr_left fun v hv => by obtain ⟨z, rfl⟩ := h v hv; simp : zs.map (AH.ren ρ) = zs.map id).trans (List.map_id _)

def lS (len cap : Nat) : Value := .slice (some ⟨7, 0, none⟩) len cap
def apF (l : Value) (i : Nat) : List (Nat × Value) := [(0, l), (3, .pointer (some ⟨2, 0, none⟩)), (5, .pointer (some ⟨0, 0, none⟩)), (7, .int .i64 ((i : Nat) : Int))]
noncomputable def ap1 : List Item := pathI 200 [false] [.code (bodyC Try.f7)]
theorem ap1_eq : ap1 = .code (.loop (loopC ap1)) :: ap1.tail := by kernel_rfl
def s0L (zs : List Value) : St := (⟨7, .leaf⟩ : St) |>.set 0 (.ro zs) |>.set 1 (.cells 89 (wsL [])) |>.set 2 (.cells 4 (bsL [])) |>.set 3 (hdr 1 2 127 128 0) |>.set 4 (.map [] 0) |>.set 5 (.map [] 0) |>.set 6 (hst 3 4 5 (.slice none 0 0) 2 126 0)
def pi0 : Nat → Nat := fun i => match i with | 0 => 6 | 1 => 4 | 2 => 3 | 3 => 5 | 5 => 1 | 6 => 2 | 7 => 0 | _ => 8
theorem pi0_inj : ∀ i, i < 8 → ∀ j, j < 8 → i ≠ 4 → j ≠ 4 → pi0 i = pi0 j → i = j := by decide

theorem apF_sc (n len cap i : Nat) (hn : 8 ≤ n) : ∀ p ∈ apF (lS len cap) i, Sc n p.2 := fun p hp => by
  simp only [apF, List.mem_cons, List.not_mem_nil, or_false] at hp
  rcases hp with rfl | rfl | rfl | rfl
  · exact Sc_slice (by show 7 < n; omega)
  · exact Sc_ptr (by show 2 < n; omega)
  · exact Sc_ptr (by show 0 < n; omega)
  · exact Sc_int _ _ _

theorem ap_start (zs : List Value) (len cap : Nat) (hz : Ints zs) (hc : cap ≤ unk) (R : Value → St → Prop) (h : VB 0 M 7 Try.f7.ntmps ap1 (frL (apF (lS len cap) 0)) (mix (apS [] 0) (X8 (.ro zs))) R) :
    VB 0 M 7 Try.f7.ntmps [.code (bodyC Try.f7)] (initF 0 [.slice (some ⟨0, 0, none⟩) len cap] .nil) (St.empty.push (.ro zs)) R := by
  refine runS_stop ev0_ok (giv := fun _ => .no) (n := 200) Try.func7 ap1 [(0, .slice (some ⟨0, 0, none⟩) len cap), (3, .pointer (some ⟨3, 0, none⟩)), (5, .pointer (some ⟨6, 0, none⟩)), (7, .int .i64 0)] (σ' := s0L zs) (p' := True) (by kernel_rfl) trivial ?_
  have hwf : Wf (frL (apF (lS len cap) 0)) (mix (apS [] 0) (X8 (.ro zs))) := mix_wf (apS_nice (L := []) trivial 0).ok (by show 7 ≤ 8; omega) (X8_sc (sc_of_pure hz.pure 8)) X8_live (apF_sc 8 len cap 0 (Nat.le_refl _))
  have h4 : ((mix (apS [] 0) (X8 (.ro zs))).get 4).live = false := by rw [mix_get, if_pos (by omega), hs_get]; rfl
  refine VB.renum pi0 (Nat.zero_le _) (fun i hi => absurd hi (Nat.not_lt_zero _)) (fun i j hi hj e => ?_) (fun i hi => ?_) hwf (fun t v ht => ?_) rfl (fun i hi => by rw [frL_df] at hi; simp at hi) h
  · refine pi0_inj i (hwf.lt i hi) j (hwf.lt j hj) (fun e4 => ?_) (fun e4 => ?_) e
    · rw [e4, h4] at hi; cases hi
    · rw [e4, h4] at hj; cases hj
  · have h8 : i < 8 := hwf.lt i hi
    have : i = 0 ∨ i = 1 ∨ i = 2 ∨ i = 3 ∨ i = 4 ∨ i = 5 ∨ i = 6 ∨ i = 7 := by omega
    rcases this with rfl | rfl | rfl | rfl | rfl | rfl | rfl | rfl
    · rw [mix_get, if_pos (by omega), hs_get]
      show hst 3 4 5 (.slice none 0 0) 2 126 0 = renB _ (.cells 83 [.pointer (some ⟨2, 0, none⟩), .int .i64 2, .int .i64 126, .map (some 1), .map (some 3), .slice none 0 0, .int .i64 0])
      simp only [renB, List.map_cons, List.map_nil, ren_ptr, ren_int, ren_map, ren_nilslice, renA, loc]
      rfl
    · rw [mix_get, if_pos (by omega), hs_get]; rfl
    · rw [mix_get, if_pos (by omega), hs_get]
      show hdr 1 2 127 128 0 = renB _ (.cells 107 (.slice (some ⟨5, 0, none⟩) 128 128 :: .slice (some ⟨6, 0, none⟩) 128 128 :: csL 0))
      simp only [renB, List.map_cons, ren_slice, renA, loc, csL_pure]
      rfl
    · rw [mix_get, if_pos (by omega), hs_get]; rfl
    · rw [h4] at hi; cases hi
    · rw [mix_get, if_pos (by omega), hs_get]
      show Blk.cells 89 (wsL []) = renB _ (.cells 89 (wsL []))
      rw [renB, wsL_pure]
    · rw [mix_get, if_pos (by omega), hs_get]
      show Blk.cells 4 (bsL []) = renB _ (.cells 4 (bsL []))
      rw [renB, bsL_pure]
    · rw [mix_get, if_neg (by omega), X8_get _ _ (by omega), if_pos rfl, renB, hz.pure]
      rfl
  · have := frL_mem ht
    simp only [apF, List.mem_cons, Prod.mk.injEq, List.not_mem_nil, or_false] at this
    rcases this with ⟨rfl, rfl⟩ | ⟨rfl, rfl⟩ | ⟨rfl, rfl⟩ | ⟨rfl, rfl⟩
    · rw [lS, ren_slice]
      simp only [renA, loc]
      rw [renC_le hc]
      rfl
    · simp only [ren_ptr, renA, loc]; rfl
    · simp only [ren_ptr, renA, loc]; rfl
    · simp only [ren_int]; rfl
end
end Go.Proofs.Ytlnlopeodpamdaa.Hx
end

section
/-
  HeapApart: the loop that takes blocks.
-/
set_option maxRecDepth 100000
set_option linter.unusedVariables false
namespace Go.Proofs.Ytlnlopeodpamdaa.Hx
open Go AH Go.Proofs
noncomputable section

theorem and_mask (x m : Int) (j : Nat) (hj : j < 63) (hm : (BitVec.ofInt 64 m).toNat = 2 ^ j - 1) : ∃ n : Nat, n < 2 ^ j ∧ AH.intOp .and .i64 x m = some (.int .i64 n) := by
  refine ⟨(BitVec.ofInt 64 x).toNat % 2 ^ j, Nat.mod_lt _ (Nat.two_pow_pos j), ?_⟩
  show some (Value.int .i64 (IntKind.i64.wrap (((BitVec.ofInt 64 x) &&& (BitVec.ofInt 64 m)).toNat : Nat))) = _
  rw [BitVec.toNat_and, hm, Nat.and_two_pow_sub_one_eq_mod]
  have h1 : (BitVec.ofInt 64 x).toNat % 2 ^ j < 2 ^ j := Nat.mod_lt _ (Nat.two_pow_pos j)
  have h2 : 2 ^ j ≤ 2 ^ 62 := Nat.pow_le_pow_right (by omega) (by omega)
  have h3 : (2 : Nat) ^ 62 = 4611686018427387904 := rfl
  rw [IntWalk.i64_in _ (by omega)]

theorem midS_nice {L : BL} {k t : Nat} (h : FitL ((k, t) :: L)) (j : Nat) (c : Int) : (midS L k t j c).Nice 0 [] := by
  have h0 := apS_nice h c
  refine ⟨h0.es, h0.gs, h0.cs, fun ρ => ?_, h0.bs, h0.pold, rfl, ?_, h0.bl, h0.n, .inl ⟨rfl, rfl, rfl⟩, fun _ => rfl⟩
  · show (setR _ (putAt (wsL L) _ _) _ j).map _ = setR _ (putAt (wsL L) _ _) _ j
    refine setR_map ?_ (by simp) _ _
    rw [putAt_map, wsL_pure, repl_pure (fun ρ => by simp)]
  · show (setR _ (putAt (wsL L) _ _) _ j).length = 128
    rw [setR_len, putAt_length, wsL_len]
theorem midS_good {L : BL} {k t : Nat} (h : FitL ((k, t) :: L)) (j : Nat) (c : Int) (hl : L.length < 1000) : (midS L k t j c).Good := by
  have h0 := apS_good h c (by show L.length + 1 ≤ 1000; omega)
  exact ⟨(midS_nice h j c).ok, h0.st, h0.sh, h0.len, h0.dist, .inl rfl⟩

theorem bsL_free {L : BL} {k t : Nat} (h : FitL ((k, t) :: L)) (a : Nat) (h1 : 2 + offL L ≤ a) (h2 : a < 2 + offL L + k) : (bsL ((k, t) :: L))[a]? = some (.bool false) := by
  rw [bsL, setR_get _ _ _ _ _ (by rw [bsL_len]; exact h.2.1), if_pos ⟨h1, h2⟩]
theorem drop_take_repl {l : List Value} {v : Value} {p k : Nat} (h : ∀ j, j < k → l[p + j]? = some v) : (l.drop p).take k = repl k [v] := by
  apply List.ext_getElem?
  intro i
  rw [List.getElem?_take]
  by_cases hi : i < k
  · rw [if_pos hi, List.getElem?_drop, h i hi, repl_get v k i hi]
  · rw [if_neg hi, List.getElem?_eq_none (by rw [repl_len]; omega)]

theorem args2 (a : Int) : Scs 7 [.pointer (some ⟨0, 0, none⟩), .int .i64 a] := fun u hu => by
  simp only [List.mem_cons, List.not_mem_nil, or_false] at hu
  rcases hu with rfl | rfl
  · exact Sc_ptr (by show 0 < 7; omega)
  · exact Sc_int _ _ _
theorem ren2 (a : Int) : ([.pointer (some ⟨0, 0, none⟩), .int .i64 a] : List Value).map (AH.ren (loc id)) = [.pointer (some ⟨0, 0, none⟩), .int .i64 a] := by simp [renA, loc]

theorem ap_take {L : BL} (h : FitL L) (c : Int) (m k t : Nat) (hm : m < 16) (hk : 1 + m + (1 + m) % 2 = k) (hl : L.length < 1000) (hroom : 2 + offL L + k ≤ 128) (X : St) (hX : 7 ≤ X.next) :
    WF M.toEnv 27 [.pointer (some ⟨0, 0, none⟩), .int .i64 ((1 + m : Nat) : Int)] (mix (apS L c) X) (fun r σ' => r = .tuple #[.int .i64 ((2 + offL L : Nat) : Int), .int .i64 0] ∧ σ' = mix (midS L k t 0 c) X) := by
  by_cases ht : 1 ≤ t
  · have hfit : FitL ((k, t) :: L) := ⟨by omega, hroom, ht, h⟩
    have hg := gap_end (k : Int) (by omega) h
    have hn := apS_nice h c
    have hkt : ((1 + m : Nat) : Int) + ((1 + m : Nat) : Int).tmod 2 = (k : Int) := by
      rw [Int.tmod_eq_emod_of_nonneg (by omega)]; omega
    have := take_ok (apS L c) ((1 + m : Nat) : Int) (2 + offL L) k (by omega) (by omega) hkt (apS_good h c (by omega)) (apS_gs c) (apS_fits h c _ (by omega)) (by rw [apS_blocks h]; show (gap _ _ 2).1 = _; rw [hg]) (by
      rw [apS_blocks h]
      show ((gap _ _ 2).2 || decide ((k : Int) ≤ 2 + 126 - _)) = true
      rw [hg, Bool.false_or, decide_eq_true_eq]; omega) (by show 2 + offL L + k ≤ 128; exact hroom) (by show (esL L).length < 1024; rw [esL_len]; omega) hn.mflat (esL_fresh h)
    rw [apS_take h c k t] at this
    exact lift hn.ok hn.flat (midS_nice hfit 0 c).ok (midS_nice hfit 0 c).flat hX (args2 _) (ren2 _) (fun ρ => by simp) (.inl rfl) this
  · have e : t = 0 := by omega
    subst e
    have hfit : FitL ((k, 1) :: L) := ⟨by omega, hroom, Nat.le_refl _, h⟩
    have hg := gap_end (k : Int) (by omega) h
    have hn := apS_nice h c
    have hkt : ((1 + m : Nat) : Int) + ((1 + m : Nat) : Int).tmod 2 = (k : Int) := by
      rw [Int.tmod_eq_emod_of_nonneg (by omega)]; omega
    have := take_ok (apS L c) ((1 + m : Nat) : Int) (2 + offL L) k (by omega) (by omega) hkt (apS_good h c (by omega)) (apS_gs c) (apS_fits h c _ (by omega)) (by rw [apS_blocks h]; show (gap _ _ 2).1 = _; rw [hg]) (by
      rw [apS_blocks h]
      show ((gap _ _ 2).2 || decide ((k : Int) ≤ 2 + 126 - _)) = true
      rw [hg, Bool.false_or, decide_eq_true_eq]; omega) (by show 2 + offL L + k ≤ 128; exact hroom) (by show (esL L).length < 1024; rw [esL_len]; omega) hn.mflat (esL_fresh h)
    rw [apS_take h c k 1] at this
    exact lift hn.ok hn.flat (midS_nice hfit 0 c).ok (midS_nice hfit 0 c).flat hX (args2 _) (ren2 _) (fun ρ => by simp) (.inl rfl) this

theorem ap_full {L : BL} (h : FitL L) (c : Int) (m k : Nat) (hm : m < 16) (hk : 1 + m + (1 + m) % 2 = k) (hl : L.length < 1000) (hroom : ¬ 2 + offL L + k ≤ 128) (X : St) (hX : 7 ≤ X.next) :
    WF M.toEnv 27 [.pointer (some ⟨0, 0, none⟩), .int .i64 ((1 + m : Nat) : Int)] (mix (apS L c) X) (fun r σ' => r = .tuple #[.int .i64 0, .int .i64 15] ∧ σ' = mix (apS L c) X) := by
  have hg := gap_end (k : Int) (by omega) h
  have hn := apS_nice h c
  have hkt : ((1 + m : Nat) : Int) + ((1 + m : Nat) : Int).tmod 2 = (k : Int) := by
    rw [Int.tmod_eq_emod_of_nonneg (by omega)]; omega
  refine lift hn.ok hn.flat hn.ok hn.flat hX (args2 _) (ren2 _) (fun ρ => by simp) (.inl rfl) (take_full (apS L c) ((1 + m : Nat) : Int) k (by omega) (by omega) hkt (apS_good h c (by omega)) (apS_fits h c _ (by omega)) ?_)
  rw [apS_blocks h]
  show ((gap _ _ 2).2 || decide ((k : Int) ≤ 2 + 126 - (gap _ _ 2).1)) = false
  rw [hg, Bool.false_or, decide_eq_false_iff_not]
  show ¬ (k : Int) ≤ 2 + 126 - ((2 + offL L : Nat) : Int)
  omega

theorem ap_at {L : BL} {k t : Nat} (h : FitL ((k, t) :: L)) (c : Int) (hl : L.length < 1000) (X : St) (hX : 7 ≤ X.next) :
    WF M.toEnv 38 [.pointer (some ⟨0, 0, none⟩), .int .i64 ((2 + offL L : Nat) : Int)] (mix (midS L k t 0 c) X) (fun r σ' => r = .tuple #[blkV ((2 + offL L : Nat) : Int) (k : Int) 0 true, .bool true] ∧ σ' = mix (midS L k t 0 c) X) := by
  have hn := midS_nice h 0 c
  have hk := h.1
  have hle := h.2.1
  refine lift hn.ok hn.flat hn.ok hn.flat hX (args2 _) (ren2 _) (fun ρ => by simp [blkV]) (.inl rfl) (at_taken _ _ (midS_good h 0 c hl) (fun e he p' k' g' v' hv => ?_) (by omega) (entL (k, t) L) ?_ ?_ fun e' he' hh => ?_)
  · obtain ⟨p, q, h1, h2, h3, h4, h5, h6⟩ := esL_mem h e he
    rw [h2] at hv
    simp only [blkV, Value.agg.injEq, Array.mk.injEq, List.cons.injEq, Value.int.injEq, true_and, Value.bool.injEq] at hv
    have : p + q ≤ 2 + (offL L + k) := h5
    omega
  · show entL (k, t) L ∈ esL L ++ [entL (k, t) L]
    simp
  · rw [hasE_blk (p := ((2 + offL L : Nat) : Int)) (k := (k : Int)) (g := 0) (v := true) rfl, decide_eq_true (by omega), decide_eq_true (by have : 1 ≤ k := hk; omega)]
    rfl
  · have he'' : e' ∈ esL L ++ [entL (k, t) L] := he'
    rcases List.mem_append.1 he'' with he'' | he''
    · obtain ⟨p, q, h1, h2, h3, h4, h5, h6⟩ := esL_mem h.2.2.2 e' he''
      rw [hasE_blk h2, Bool.and_eq_true, decide_eq_true_eq, decide_eq_true_eq] at hh
      omega
    · simp only [List.mem_singleton] at he''
      rw [he'']
end
end Go.Proofs.Ytlnlopeodpamdaa.Hx
end

section
/-
  HeapApart: a block's words are stored; a turn of the loop that takes blocks.
-/
set_option maxRecDepth 100000
set_option linter.unusedVariables false
namespace Go.Proofs.Ytlnlopeodpamdaa.Hx
open Go AH Go.Proofs
noncomputable section

noncomputable def k1 : List Item := .code (loopC ap1) :: .inLoop (loopC ap1) :: ap1.tail
noncomputable def ap3 : List Item := pathI 200 [true, false, false] k1
theorem ap3_eq : ap3 = .code (.loop (loopC ap3)) :: ap3.tail := by kernel_rfl
def sC (ro : Blk) (k : Nat) : St := X8 ro |>.push .dead |>.push .dead |>.push (.row 89 1 (repl k [.int .u64 0]))
theorem sC_get (ro : Blk) (k i : Nat) : (sC ro k).get i = if 10 = i then .row 89 1 (repl k [.int .u64 0]) else if 9 = i then .dead else if 8 = i then .dead else if 7 = i then ro else .dead := by
  simp only [sC, X8, St.get_push]; rfl
def apI (l : Value) (i p k j : Nat) : List (Nat × Value) := [(0, l), (3, .pointer (some ⟨2, 0, none⟩)), (5, .pointer (some ⟨0, 0, none⟩)), (7, .int .i64 ((i : Nat) : Int)), (8, .int .i64 ((p : Nat) : Int)), (12, .slice (some ⟨10, 0, none⟩) k unk), (13, .int .i64 ((j : Nat) : Int))]
theorem apI_sc (n len cap i p k j : Nat) (hn : 11 ≤ n) : ∀ q ∈ apI (lS len cap) i p k j, Sc n q.2 := fun q hq => by
  simp only [apI, List.mem_cons, List.not_mem_nil, or_false] at hq
  rcases hq with rfl | rfl | rfl | rfl | rfl | rfl | rfl
  · exact Sc_slice (by show 7 < n; omega)
  · exact Sc_ptr (by show 2 < n; omega)
  · exact Sc_ptr (by show 0 < n; omega)
  · exact Sc_int _ _ _
  · exact Sc_int _ _ _
  · exact Sc_slice (by show 10 < n; omega)
  · exact Sc_int _ _ _

theorem ap_store {L : BL} {k t : Nat} (h : FitL ((k, t) :: L)) (j : Nat) (hj : j < k) (c : Int) (ro : Blk) :
    WF M.toEnv 43 [.pointer (some ⟨2, 0, none⟩), .int .i64 ((2 + offL L + j : Nat) : Int), .int .u64 (t : Int)] (mix (midS L k t j c) (sC ro k)) (fun r σ' => r = .tuple #[] ∧ σ' = mix (midS L k t (j + 1) (IntKind.i64.wrap (c + 1))) (sC ro k)) := by
  have hn := midS_nice h j c
  have hn1 := midS_nice h (j + 1) (IntKind.i64.wrap (c + 1))
  have hn2 := midS_nice h j (IntKind.i64.wrap (c + 1))
  have hle := h.2.1
  have hs := store_ok (midS L k t j c) (2 + offL L + j) (t : Int) c (.int .i64 0) [.int .i64 0, .int .i64 0, .int .i64 0, .int .i64 0, .int .i64 (-1), .bool false] (by show 2 + offL L + j < 128; omega) (bsL_free h _ (by omega) (by omega)) hn.wl hn2.ok.m hn2.mflat hn1.ok.m
  refine (liftM (s := midS L k t j c) (s' := midS L k t (j + 1) (IntKind.i64.wrap (c + 1))) (σ := mix (midS L k t j c) (sC ro k)) hn.ok.m hn.mflat hn1.ok.m hn1.mflat (by show 7 ≤ 11; omega) (by rw [mix_get, if_pos (by omega), hs_get, ms_get]; rfl) (by rw [mix_get, if_pos (by omega), hs_get, ms_get]; rfl) (by rw [mix_get, if_pos (by omega), hs_get, ms_get]; rfl) (fun u hu => ?_) (by simp [renA, loc]) (fun ρ => by simp) hs).mono fun r σ' _ ⟨e1, e2⟩ => ⟨e1, e2.trans ?_⟩
  · simp only [List.mem_cons, List.not_mem_nil, or_false] at hu
    rcases hu with rfl | rfl | rfl
    · exact Sc_ptr (by show 2 < 7; omega)
    · exact Sc_int _ _ _
    · exact Sc_int _ _ _
  · show _ = _
    kernel_rfl

theorem ro_sc {zs : List Value} (hz : Ints zs) (n : Nat) : (Blk.ro zs).sc n := sc_of_pure hz.pure n
theorem sC_sc {zs : List Value} (hz : Ints zs) (k i : Nat) (hi : 7 ≤ i) : ((sC (.ro zs) k).get i).sc 11 := by
  rw [sC_get]
  split
  · exact repl_sc (Sc_int _ _ _) k
  split
  · trivial
  split
  · trivial
  split
  · exact ro_sc hz 11
  · trivial

/-- A word of the block is stored. -/
theorem ap_inner1 {L : BL} {k t i : Nat} (h : FitL ((k, t) :: L)) (ht : t = i + 1) (hi : i < 20) (j : Nat) (hj : j < k) (c : Int) (zs : List Value) (len cap : Nat) (R : Value → St → Prop)
    (hk : VB 0 M 7 Try.f7.ntmps (.inLoop (loopC ap3) :: ap3.tail) (frL (apI (lS len cap) i (2 + offL L) k (j + 1))) (mix (midS L k t (j + 1) (IntKind.i64.wrap (c + 1))) (sC (.ro zs) k)) R) :
    VB 0 M 7 Try.f7.ntmps (.code (loopC ap3) :: .inLoop (loopC ap3) :: ap3.tail) (frL (apI (lS len cap) i (2 + offL L) k j)) (mix (midS L k t j c) (sC (.ro zs) k)) R := by
  have hle := h.2.1
  have hk1 : k ≤ 128 := by have : 2 + offL L + k ≤ 128 := hle; omega
  refine runS_stop ev0_ok (giv := givL [(103, .q (.bool true)), (108, .q (.pointer (some ⟨10, j, none⟩))), (109, .q (.int .u64 0)), (114, .q (.int .i64 ((2 + offL L + j : Nat) : Int))), (116, .q (.int .i64 ((i + 1 : Nat) : Int))), (117, .q (.int .u64 ((i + 1 : Nat) : Int))), (118, .c (.tuple #[]) (mix (midS L k t (j + 1) (IntKind.i64.wrap (c + 1))) (sC (.ro zs) k))), (105, .q (.int .i64 ((j + 1 : Nat) : Int)))]) (n := 100) Try.func7
    (.inLoop (loopC ap3) :: ap3.tail) (apI (lS len cap) i (2 + offL L) k (j + 1)) (σ' := mix (midS L k t (j + 1) (IntKind.i64.wrap (c + 1))) (sC (.ro zs) k))
    (p' := (((((((True ∧ some (Value.bool (ltI (j : Int) (k : Int))) = some (.bool true))
      ∧ (if 0 ≤ ((j : Nat) : Int) ∧ ((j : Nat) : Int) < ((k : Nat) : Int) then some (Value.pointer (some (addA ⟨10, 0, none⟩ (((j : Nat) : Int).toNat * 1)))) else none) = some (Value.pointer (some ⟨10, j, none⟩)))
      ∧ ldVar T89 (mix (midS L k t j c) (sC (.ro zs) k)) ⟨10, j, none⟩ = some (.int .u64 0))
      ∧ some (Value.int .i64 (IntKind.i64.wrap (((2 + offL L : Nat) : Int) + (j : Int)))) = some (.int .i64 ((2 + offL L + j : Nat) : Int)))
      ∧ some (Value.int .i64 (IntKind.i64.wrap ((i : Int) + 1))) = some (.int .i64 ((i + 1 : Nat) : Int)))
      ∧ some (Value.int .u64 (IntKind.u64.wrap ((i + 1 : Nat) : Int))) = some (.int .u64 ((i + 1 : Nat) : Int)))
      ∧ WF M.toEnv 43 [.pointer (some ⟨2, 0, none⟩), .int .i64 ((2 + offL L + j : Nat) : Int), .int .u64 ((i + 1 : Nat) : Int)] (mix (midS L k t j c) (sC (.ro zs) k)) (fun r σ' => r = .tuple #[] ∧ σ' = mix (midS L k t (j + 1) (IntKind.i64.wrap (c + 1))) (sC (.ro zs) k)))
      ∧ some (Value.int .i64 (IntKind.i64.wrap ((j : Int) + 1))) = some (.int .i64 ((j + 1 : Nat) : Int)))
    (by kernel_rfl) ⟨⟨⟨⟨⟨⟨⟨⟨trivial, ?_⟩, ?_⟩, ?_⟩, ?_⟩, ?_⟩, ?_⟩, ?_⟩, ?_⟩ hk
  · rw [ltI_eq, decide_eq_true (by omega)]
  · exact idx_ptr hj
  · exact ld_cell (cs := repl k [.int .u64 0]) rfl (by rw [mix_get, if_neg (by omega), sC_get, if_pos rfl]; rfl) (repl_get _ k j hj)
  · rw [IntWalk.i64_in _ (by omega)]; rfl
  · rw [IntWalk.i64_in _ (by omega)]; rfl
  · rw [IntWalk.u64_in _ (by omega)]
  · rw [← ht]; exact ap_store h j hj c (.ro zs)
  · rw [IntWalk.i64_in _ (by omega)]; rfl

theorem apF_get (l : Value) (i : Nat) : ∀ q ∈ apF l i, (frL (apF l i)).get q.1 = some q.2 := fun q hq => by
  simp only [apF, List.mem_cons, List.not_mem_nil, or_false] at hq
  rcases hq with rfl | rfl | rfl | rfl <;> (show _ = _; kernel_rfl)
theorem ap_wf {L : BL} (h : FitL L) (c : Int) {zs : List Value} (hz : Ints zs) (len cap i : Nat) : Wf (frL (apF (lS len cap) i)) (mix (apS L c) (X8 (.ro zs))) :=
  mix_wf (apS_nice h c).ok (by show 7 ≤ 8; omega) (X8_sc (ro_sc hz 8)) X8_live (apF_sc 8 len cap i (Nat.le_refl _))

theorem ap_inner {L : BL} {k t i : Nat} (h : FitL ((k, t) :: L)) (ht : t = i + 1) (hi : i < 20) (c : Int) {zs : List Value} (hz : Ints zs) (len cap : Nat) (R : Value → St → Prop)
    (hk : ∀ c', VB 0 M 7 Try.f7.ntmps (.inLoop (loopC ap1) :: ap1.tail) (frL (apF (lS len cap) (i + 1))) (mix (apS ((k, t) :: L) c') (X8 (.ro zs))) R) :
    VB 0 M 7 Try.f7.ntmps ap3 (frL (apI (lS len cap) i (2 + offL L) k 0)) (mix (midS L k t 0 c) (sC (.ro zs) k)) R := by
  rw [ap3_eq]
  refine VB.loop (fun f σ => ∃ (j : Nat) (c' : Int), j ≤ k ∧ f = frL (apI (lS len cap) i (2 + offL L) k j) ∧ σ = mix (midS L k t j c') (sC (.ro zs) k))
    (fun f σ => k - (match f.get 13 with | some (.int _ j) => j.toNat | _ => 0)) ⟨0, c, by omega, rfl, rfl⟩ ?_
  intro f σ ⟨j, c', hj, hf, hσ⟩ ih
  subst hf; subst hσ
  by_cases hjk : j < k
  · refine ap_inner1 h ht hi j hjk c' zs len cap R (ih _ _ ⟨j + 1, _, by omega, rfl, rfl⟩ ?_)
    show k - (((j + 1 : Nat) : Int)).toNat < k - ((j : Nat) : Int).toNat
    omega
  · have e : j = k := by omega
    subst e
    refine runS_stop ev0_ok (giv := givL [(103, .q (.bool false)), (46, .q (.int .i64 ((i + 1 : Nat) : Int)))]) (n := 100) Try.func7
      (.inLoop (loopC ap1) :: ap1.tail) (apF (lS len cap) (i + 1)) (σ' := mix (midS L j t j c') (sC (.ro zs) j))
      (p' := (True ∧ some (Value.bool (ltI (j : Int) (j : Int))) = some (.bool false)) ∧ some (Value.int .i64 (IntKind.i64.wrap ((i : Int) + 1))) = some (.int .i64 ((i + 1 : Nat) : Int)))
      (by kernel_rfl) ⟨⟨trivial, ?_⟩, ?_⟩ ?_
    · rw [ltI_eq, decide_eq_false (by omega)]
    · rw [IntWalk.i64_in _ (by omega)]; rfl
    · refine VB.cut (apF (lS len cap) (i + 1)) (mix (apS ((j, t) :: L) c') (X8 (.ro zs))) (apF_get _ _) rfl (ap_wf h c' hz len cap (i + 1)) (Nat.zero_le _) (fun n => ?_) (hk c')
      rw [mix_get, mix_get]
      by_cases hn : n < 7
      · rw [if_pos hn, if_pos hn]; exact .inl rfl
      · rw [if_neg hn, if_neg hn, X8_get _ _ (by omega), sC_get]
        by_cases h7 : 7 = n
        · subst h7; exact .inl rfl
        · rw [if_neg h7]; exact .inr rfl

/-- A turn of the loop in which there is no room. -/
theorem ap_turn0 {L : BL} (h : FitL L) (hl : L.length < 1000) (c : Int) {zs : List Value} (hz : Ints zs) (len cap i m k : Nat) (z : Int) (hi : i < 20) (hil : i < len) (hzi : zs[i]? = some (.int .i64 z)) (hm : m < 16) (hmz : AH.intOp .and .i64 z 15 = some (.int .i64 (m : Nat))) (hk : 1 + m + (1 + m) % 2 = k) (hroom : ¬ 2 + offL L + k ≤ 128) (R : Value → St → Prop)
    (hkn : VB 0 M 7 Try.f7.ntmps (.inLoop (loopC ap1) :: ap1.tail) (frL (apF (lS len cap) (i + 1))) (mix (apS L c) (X8 (.ro zs))) R) : VB 0 M 7 Try.f7.ntmps k1 (frL (apF (lS len cap) i)) (mix (apS L c) (X8 (.ro zs))) R := by
  refine runS_stop ev0_ok (giv := givL [(40, .q (.bool true)), (43, .q (.bool true)), (51, .q (.pointer (some ⟨7, i, none⟩))), (52, .q (.int .i64 z)), (53, .q (.int .i64 (m : Nat))), (54, .q (.int .i64 ((1 + m : Nat) : Int))), (55, .c (.tuple #[.int .i64 0, .int .i64 15]) (mix (apS L c) (X8 (.ro zs)))), (46, .q (.int .i64 ((i + 1 : Nat) : Int)))]) (n := 200) Try.func7
    (.inLoop (loopC ap1) :: ap1.tail) (apF (lS len cap) (i + 1)) (σ' := mix (apS L c) (X8 (.ro zs)))
    (p' := (((((((True ∧ some (Value.bool (ltI (i : Int) (len : Int))) = some (.bool true)) ∧ some (Value.bool (ltI (i : Int) 20)) = some (.bool true))
      ∧ (if 0 ≤ ((i : Nat) : Int) ∧ ((i : Nat) : Int) < ((len : Nat) : Int) then some (Value.pointer (some (addA ⟨7, 0, none⟩ (((i : Nat) : Int).toNat * 1)))) else none) = some (Value.pointer (some ⟨7, i, none⟩)))
      ∧ ldVar T3 (mix (apS L c) (X8 (.ro zs))) ⟨7, i, none⟩ = some (.int .i64 z))
      ∧ AH.intOp .and .i64 z 15 = some (.int .i64 (m : Nat)))
      ∧ some (Value.int .i64 (IntKind.i64.wrap (1 + (m : Int)))) = some (.int .i64 ((1 + m : Nat) : Int)))
      ∧ WF M.toEnv 27 [.pointer (some ⟨0, 0, none⟩), .int .i64 ((1 + m : Nat) : Int)] (mix (apS L c) (X8 (.ro zs))) (fun r σ' => r = .tuple #[.int .i64 0, .int .i64 15] ∧ σ' = mix (apS L c) (X8 (.ro zs))))
      ∧ some (Value.int .i64 (IntKind.i64.wrap ((i : Int) + 1))) = some (.int .i64 ((i + 1 : Nat) : Int)))
    (by kernel_rfl) ⟨⟨⟨⟨⟨⟨⟨⟨trivial, ?_⟩, ?_⟩, ?_⟩, ?_⟩, hmz⟩, ?_⟩, ?_⟩, ?_⟩ hkn
  · rw [ltI_eq, decide_eq_true (by omega)]
  · rw [ltI_eq, decide_eq_true (by omega)]
  · exact idx_ptr hil
  · exact ld_cell (cs := zs) rfl (by rw [mix_get, if_neg (by omega), X8_get _ _ (by omega), if_pos rfl]; rfl) hzi
  · rw [IntWalk.i64_in _ (by omega)]; rfl
  · exact ap_full h c m k hm hk hl hroom (X8 (.ro zs)) (by show 7 ≤ 8; omega)
  · rw [IntWalk.i64_in _ (by omega)]; rfl
end
end Go.Proofs.Ytlnlopeodpamdaa.Hx
end

section
/-
  HeapApart: a turn of the loop that takes blocks, where there is room; the loop.
-/
set_option maxRecDepth 100000
set_option linter.unusedVariables false
namespace Go.Proofs.Ytlnlopeodpamdaa.Hx
open Go AH Go.Proofs
noncomputable section

def sB (L : BL) (k t : Nat) (c : Int) (ro : Blk) : St := mix (midS L k t 0 c) (X8 ro |>.push (.cells 74 (blkL ((2 + offL L : Nat) : Int) (k : Int) 0 true)))
theorem sB_get (L : BL) (k t : Nat) (c : Int) (ro : Blk) (i : Nat) : (sB L k t c ro).get i = if i < 7 then (hs (midS L k t 0 c)).get i else if 8 = i then .cells 74 (blkL ((2 + offL L : Nat) : Int) (k : Int) 0 true) else (X8 ro).get i := by
  rw [sB, mix_get]
  split
  · rfl
  · rw [St.get_push]; rfl

theorem cB_get (L : BL) (k t : Nat) (c : Int) (ro : Blk) (l : List Value) (i : Nat) : (cloned (sB L k t c ro) 89 l).get i = if 10 = i then .row 89 1 l else if 9 = i then .cells 89 [] else (sB L k t c ro).get i := by
  rw [cloned_get]; rfl

theorem ap_turn1 {L : BL} (h : FitL L) (hl : L.length < 1000) (c : Int) {zs : List Value} (hz : Ints zs) (len cap i m k t : Nat) (z : Int) (hi : i < 20) (hil : i < len) (hzi : zs[i]? = some (.int .i64 z)) (hm : m < 16) (hmz : AH.intOp .and .i64 z 15 = some (.int .i64 (m : Nat))) (hk : 1 + m + (1 + m) % 2 = k) (hroom : 2 + offL L + k ≤ 128) (hev : offL L % 2 = 0) (ht : t = i + 1) (R : Value → St → Prop)
    (hkn : VB 0 M 7 Try.f7.ntmps ap3 (frL (apI (lS len cap) i (2 + offL L) k 0)) (mix (midS L k t 0 c) (sC (.ro zs) k)) R) : VB 0 M 7 Try.f7.ntmps k1 (frL (apF (lS len cap) i)) (mix (apS L c) (X8 (.ro zs))) R := by
  have hfit : FitL ((k, t) :: L) := ⟨by show 1 ≤ k; omega, hroom, by show 1 ≤ t; omega, h⟩
  have hn := midS_nice hfit 0 c
  have hcut : VB 0 M 7 Try.f7.ntmps ap3 (frL (apI (lS len cap) i (2 + offL L) k 0)) (cloned (sB L k t c (.ro zs)) 89 (repl k [.int .u64 0])) R := by
    refine VB.cut (apI (lS len cap) i (2 + offL L) k 0) (mix (midS L k t 0 c) (sC (.ro zs) k)) (fun q hq => ?_) rfl (mix_wf hn.ok (by show 7 ≤ 11; omega) (sC_sc hz k) (fun n hn hln => ?_) (apI_sc 11 len cap i _ k 0 (Nat.le_refl _))) (Nat.zero_le _) (fun n => ?_) hkn
    · simp only [apI, List.mem_cons, List.not_mem_nil, or_false] at hq
      rcases hq with rfl | rfl | rfl | rfl | rfl | rfl | rfl <;> (show _ = _; kernel_rfl)
    · rw [sC_get] at hln
      show n < 11
      by_cases h11 : n < 11
      · exact h11
      · rw [if_neg (by omega), if_neg (by omega), if_neg (by omega), if_neg (by omega)] at hln
        cases hln
    · rw [cB_get, sB_get, mix_get]
      by_cases h7 : n < 7
      · rw [if_pos h7, if_neg (by omega), if_neg (by omega), if_pos h7]; exact .inl rfl
      · rw [if_neg h7, if_neg h7, sC_get]
        by_cases h10 : 10 = n
        · rw [if_pos h10, if_pos h10]; exact .inl rfl
        · rw [if_neg h10, if_neg h10]
          by_cases h9 : 9 = n
          · rw [if_pos h9]; exact .inr rfl
          · rw [if_neg h9, if_neg h9]
            by_cases h8 : 8 = n
            · rw [if_pos h8]; exact .inr rfl
            · rw [if_neg h8, if_neg h8, X8_get _ _ (by omega)]
              exact .inl rfl
  refine runS_stop ev0_ok (giv := givL [(40, .q (.bool true)), (43, .q (.bool true)), (51, .q (.pointer (some ⟨7, i, none⟩))), (52, .q (.int .i64 z)), (53, .q (.int .i64 (m : Nat))), (54, .q (.int .i64 ((1 + m : Nat) : Int))), (55, .c (.tuple #[.int .i64 ((2 + offL L : Nat) : Int), .int .i64 0]) (mix (midS L k t 0 c) (X8 (.ro zs)))),
      (63, .c (.tuple #[blkV ((2 + offL L : Nat) : Int) (k : Int) 0 true, .bool true]) (mix (midS L k t 0 c) (X8 (.ro zs)))), (70, .c (.slice (some ⟨10, 0, none⟩) k unk) (cloned (sB L k t c (.ro zs)) 89 (repl k [.int .u64 0]))),
      (82, .q (.bool false)), (87, .q (.bool false)), (94, .q (.pointer (some ⟨7, i, none⟩))), (95, .q (.int .i64 z)), (96, .q (.int .i64 (m : Nat))), (97, .q (.int .i64 ((1 + m : Nat) : Int))), (98, .q (.bool false))]) (n := 200) Try.func7
    ap3 (apI (lS len cap) i (2 + offL L) k 0) (σ' := cloned (sB L k t c (.ro zs)) 89 (repl k [.int .u64 0]))
    (p' := (((((((((((((((True ∧ some (Value.bool (ltI (i : Int) (len : Int))) = some (.bool true)) ∧ some (Value.bool (ltI (i : Int) 20)) = some (.bool true))
      ∧ (if 0 ≤ ((i : Nat) : Int) ∧ ((i : Nat) : Int) < ((len : Nat) : Int) then some (Value.pointer (some (addA ⟨7, 0, none⟩ (((i : Nat) : Int).toNat * 1)))) else none) = some (Value.pointer (some ⟨7, i, none⟩)))
      ∧ ldVar T3 (mix (apS L c) (X8 (.ro zs))) ⟨7, i, none⟩ = some (.int .i64 z))
      ∧ AH.intOp .and .i64 z 15 = some (.int .i64 (m : Nat)))
      ∧ some (Value.int .i64 (IntKind.i64.wrap (1 + (m : Int)))) = some (.int .i64 ((1 + m : Nat) : Int)))
      ∧ WF M.toEnv 27 [.pointer (some ⟨0, 0, none⟩), .int .i64 ((1 + m : Nat) : Int)] (mix (apS L c) (X8 (.ro zs))) (fun r σ' => r = .tuple #[.int .i64 ((2 + offL L : Nat) : Int), .int .i64 0] ∧ σ' = mix (midS L k t 0 c) (X8 (.ro zs))))
      ∧ WF M.toEnv 38 [.pointer (some ⟨0, 0, none⟩), .int .i64 ((2 + offL L : Nat) : Int)] (mix (midS L k t 0 c) (X8 (.ro zs))) (fun r σ' => r = .tuple #[blkV ((2 + offL L : Nat) : Int) (k : Int) 0 true, .bool true] ∧ σ' = mix (midS L k t 0 c) (X8 (.ro zs))))
      ∧ WF M.toEnv 42 [.pointer (some ⟨2, 0, none⟩), .int .i64 ((2 + offL L : Nat) : Int), .int .i64 (k : Nat)] (sB L k t c (.ro zs)) (fun r σ' => r = .slice (some ⟨10, 0, none⟩) k unk ∧ σ' = cloned (sB L k t c (.ro zs)) 89 (repl k [.int .u64 0])))
      ∧ some (Value.bool (!(((2 + offL L : Nat) : Int) == ((2 + offL L : Nat) : Int)))) = some (.bool false))
      ∧ some (Value.bool (!((((2 + offL L : Nat) : Int)).tmod 2 == 0))) = some (.bool false))
      ∧ (if 0 ≤ ((i : Nat) : Int) ∧ ((i : Nat) : Int) < ((len : Nat) : Int) then some (Value.pointer (some (addA ⟨7, 0, none⟩ (((i : Nat) : Int).toNat * 1)))) else none) = some (Value.pointer (some ⟨7, i, none⟩)))
      ∧ ldVar T3 (cloned (sB L k t c (.ro zs)) 89 (repl k [.int .u64 0])) ⟨7, i, none⟩ = some (.int .i64 z))
      ∧ AH.intOp .and .i64 z 15 = some (.int .i64 (m : Nat)))
      ∧ some (Value.int .i64 (IntKind.i64.wrap (1 + (m : Int)))) = some (.int .i64 ((1 + m : Nat) : Int)))
      ∧ some (Value.bool (ltI (k : Int) ((1 + m : Nat) : Int))) = some (.bool false))
    (by kernel_rfl) ⟨⟨⟨⟨⟨⟨⟨⟨⟨⟨⟨⟨⟨⟨⟨⟨trivial, ?_⟩, ?_⟩, idx_ptr hil⟩, ?_⟩, hmz⟩, ?_⟩, ?_⟩, ?_⟩, ?_⟩, ?_⟩, ?_⟩, idx_ptr hil⟩, ?_⟩, hmz⟩, ?_⟩, ?_⟩ hcut
  · rw [ltI_eq, decide_eq_true (by omega)]
  · rw [ltI_eq, decide_eq_true (by omega)]
  · exact ld_cell (cs := zs) rfl (by rw [mix_get, if_neg (by omega), X8_get _ _ (by omega), if_pos rfl]; rfl) hzi
  · rw [IntWalk.i64_in _ (by omega)]; rfl
  · exact ap_take h c m k t hm hk hl hroom (X8 (.ro zs)) (by show 7 ≤ 8; omega)
  · exact ap_at hfit c hl (X8 (.ro zs)) (by show 7 ≤ 8; omega)
  · have hp := peek_any (s := midS L k t 0 c) (σ := sB L k t c (.ro zs)) (2 + offL L) k (by omega) (by show 2 + offL L + k ≤ 128; exact hroom) (by show 127 ≤ 100000; omega) hn.ok.m hn.mflat (by show 7 ≤ 9; omega) (by rw [sB_get, if_pos (by omega), hs_get, ms_get]; rfl) (by rw [sB_get, if_pos (by omega), hs_get, ms_get]; rfl) (by rw [sB_get, if_pos (by omega), hs_get, ms_get]; rfl)
    have e : ((midS L k t 0 c).ws.drop (2 + offL L)).take k = repl k [.int .u64 0] := drop_take_repl fun j hj => by
      show (putAt (wsL L) (2 + offL L) (repl k [.int .u64 0]))[2 + offL L + j]? = _
      rw [putAt_get _ _ _ _ (by rw [repl_len, wsL_len]; exact hroom), if_pos (by rw [repl_len]; omega), show 2 + offL L + j - (2 + offL L) = j by omega, repl_get _ k j hj]
    rw [e] at hp
    exact hp
  · rw [beq_self_eq_true]; rfl
  · have : (((2 + offL L : Nat) : Int)).tmod 2 = 0 := by rw [Int.tmod_eq_emod_of_nonneg (by omega)]; omega
    rw [this]; rfl
  · exact ld_cell (cs := zs) rfl (by rw [cB_get, if_neg (by omega), if_neg (by omega), sB_get, if_neg (by omega), if_neg (by omega), X8_get _ _ (by omega), if_pos rfl]; rfl) hzi
  · rw [IntWalk.i64_in _ (by omega)]; rfl
  · rw [ltI_eq, decide_eq_false (by omega)]
end
end Go.Proofs.Ytlnlopeodpamdaa.Hx
end

section
/-
  HeapApart: the loop that takes blocks; and behind it.
-/
set_option maxRecDepth 100000
set_option linter.unusedVariables false
namespace Go.Proofs.Ytlnlopeodpamdaa.Hx
open Go AH Go.Proofs
noncomputable section

noncomputable def ap4 : List Item := pathI 200 [false] k1
theorem ap4_eq : ap4 = .code (.loop (loopC ap4)) :: ap4.tail := by kernel_rfl
def xb : List BV → Blk
  | [] => .dead
  | x :: r => .row 74 4 (encs (x :: r))
def xv : List BV → Value
  | [] => .slice none 0 0
  | x :: r => .slice (some ⟨7, 0, none⟩) (x :: r).length unk
def apG (v : Value) (i : Nat) : List (Nat × Value) := [(3, .pointer (some ⟨2, 0, none⟩)), (5, .pointer (some ⟨0, 0, none⟩)), (14, v), (15, .int .i64 ((i : Nat) : Int))]

theorem seen_mix {s : HS} (h : s.Good) (X : St) : Seen (mix s X) 0 s.hv := by
  have h0 := h.seen
  exact ⟨by rw [mix_get, if_pos (by omega)]; exact h0.cell, by rw [mix_get, if_pos (by show 1 < 7; omega)]; exact h0.map, h0.st, h0.sh, h0.len, h0.dist, h0.rn, h0.fix, h0.lt⟩

theorem xb_sc (l : List BV) (n : Nat) : (xb l).sc n := by
  cases l with
  | nil => trivial
  | cons x r => exact encs_sc _ n
theorem xv_sc (l : List BV) (n : Nat) (hn : 8 ≤ n) : Sc n (xv l) := by
  cases l with
  | nil => exact Sc_nilslice _ _ _
  | cons x r => exact Sc_slice (by show 7 < n; omega)
theorem apG_sc (l : List BV) (i n : Nat) (hn : 8 ≤ n) : ∀ q ∈ apG (xv l) i, Sc n q.2 := fun q hq => by
  simp only [apG, List.mem_cons, List.not_mem_nil, or_false] at hq
  rcases hq with rfl | rfl | rfl | rfl
  · exact Sc_ptr (by show 2 < n; omega)
  · exact Sc_ptr (by show 0 < n; omega)
  · exact xv_sc l n hn
  · exact Sc_int _ _ _
theorem apG_wf {L : BL} (h : FitL L) (c : Int) (i : Nat) : Wf (frL (apG (xv (blL L)) i)) (mix (apS L c) (X8 (xb (blL L)))) :=
  mix_wf (apS_nice h c).ok (by show 7 ≤ 8; omega) (X8_sc (xb_sc _ 8)) X8_live (apG_sc _ i 8 (Nat.le_refl _))

def pi7 : Nat → Nat := fun i => if i = 7 then 8 else i

theorem ap_exit {L : BL} (h : FitL L) (hl : L.length < 1000) (c : Int) {zs : List Value} (hz : Ints zs) (len cap i : Nat) (hi : (¬ i < len) ∨ (i < len ∧ i = 20)) (R : Value → St → Prop)
    (hk : VB 0 M 7 Try.f7.ntmps ap4 (frL (apG (xv (blL L)) 0)) (mix (apS L c) (X8 (xb (blL L)))) R) : VB 0 M 7 Try.f7.ntmps k1 (frL (apF (lS len cap) i)) (mix (apS L c) (X8 (.ro zs))) R := by
  have hb := blocksG (seen_mix (apS_good h c (by omega)) (X8 (.ro zs)))
  have hbl : sortB ((apS L c).hv.es.map bvOf) = blL L := apS_blocks h c
  rw [hbl] at hb
  have hback : VB 0 M 7 Try.f7.ntmps ap4 (frL (apG (blocksV (mix (apS L c) (X8 (.ro zs))) (blL L)).1 0)) (blocksV (mix (apS L c) (X8 (.ro zs))) (blL L)).2 R := by
    have hwf := apG_wf h c 0
    cases hx : blL L with
    | nil =>
      rw [hx] at hk hwf
      refine VB.cut (apG (xv []) 0) (mix (apS L c) (X8 (xb []))) (fun q hq => ?_) rfl hwf (Nat.zero_le _) (fun n => ?_) hk
      · simp only [apG, List.mem_cons, List.not_mem_nil, or_false] at hq
        rcases hq with rfl | rfl | rfl | rfl <;> (show _ = _; kernel_rfl)
      · show (mix _ (X8 (xb []))).get n = (mix _ (X8 (.ro zs))).get n ∨ _
        rw [mix_get, mix_get]
        by_cases h7 : n < 7
        · rw [if_pos h7, if_pos h7]; exact .inl rfl
        · rw [if_neg h7, X8_get _ _ (by omega)]
          right
          split <;> rfl
    | cons x r =>
      rw [hx] at hk hwf
      show VB 0 M 7 Try.f7.ntmps ap4 (frL (apG (.slice (some ⟨8, 0, none⟩) (x :: r).length unk) 0)) ((mix (apS L c) (X8 (.ro zs))).push (.row 74 4 (encs (x :: r)))) R
      have hn := apS_nice h c
      refine VB.renum pi7 (Nat.zero_le _) (fun i hi => absurd hi (Nat.not_lt_zero _)) (fun i j hi hj e => ?_) (fun i hi => ?_) hwf (fun t v ht => ?_) rfl (fun i hi => by rw [frL_df] at hi; simp at hi) hk
      · have h1 : i < 8 := hwf.lt i hi
        have h2 : j < 8 := hwf.lt j hj
        unfold pi7 at e
        split at e <;> split at e <;> omega
      · have h1 : i < 8 := hwf.lt i hi
        rw [mix_get]
        by_cases h7 : i < 7
        · rw [if_pos h7, show pi7 i = i by unfold pi7; rw [if_neg (by omega)], St.get_push, if_neg (by show ¬ 8 = i; omega), mix_get, if_pos h7]
          by_cases h0 : i = 0
          · subst h0
            rw [hs_get]
            show hst 2 1 3 (.slice none 0 0) 2 126 0 = renB _ (hst 2 1 3 (.slice none 0 0) 2 126 0)
            simp only [hst, renB, List.map_cons, List.map_nil, ren_ptr, ren_int, ren_map, ren_nilslice, renA, loc]
            rfl
          · by_cases h4 : i = 4
            · subst h4; rw [hs_get]; rfl
            · rw [hs_ren hn pi7 (fun i hi _ => by unfold pi7; rw [if_neg (by omega)]) i h0 h4]
        · have h8 : i = 7 := by omega
          subst h8
          rw [if_neg h7, X8_get _ _ (by omega), if_pos rfl, show pi7 7 = 8 from rfl, St.get_push, if_pos (by rfl)]
          show Blk.row 74 4 _ = renB _ (Blk.row 74 4 _)
          rw [renB, encs_closed]
      · have := frL_mem ht
        simp only [apG, List.mem_cons, Prod.mk.injEq, List.not_mem_nil, or_false] at this
        rcases this with ⟨rfl, rfl⟩ | ⟨rfl, rfl⟩ | ⟨rfl, rfl⟩ | ⟨rfl, rfl⟩
        · simp only [ren_ptr, renA, loc]; rfl
        · simp only [ren_ptr, renA, loc]; rfl
        · rw [xv, ren_slice]
          simp only [renA, loc]
          rw [renC_le (Nat.le_refl _)]
          rfl
        · simp only [ren_int]; rfl
  rcases hi with hi | ⟨hi, rfl⟩
  · refine runS_stop ev0_ok (giv := givL [(40, .q (.bool false)), (120, .c (blocksV (mix (apS L c) (X8 (.ro zs))) (blL L)).1 (blocksV (mix (apS L c) (X8 (.ro zs))) (blL L)).2)]) (n := 200) Try.func7
      ap4 (apG (blocksV (mix (apS L c) (X8 (.ro zs))) (blL L)).1 0) (σ' := (blocksV (mix (apS L c) (X8 (.ro zs))) (blL L)).2)
      (p' := (True ∧ some (Value.bool (ltI (i : Int) (len : Int))) = some (.bool false)) ∧ WF M.toEnv 35 [.pointer (some ⟨0, 0, none⟩)] (mix (apS L c) (X8 (.ro zs))) (fun r σ' => r = (blocksV (mix (apS L c) (X8 (.ro zs))) (blL L)).1 ∧ σ' = (blocksV (mix (apS L c) (X8 (.ro zs))) (blL L)).2))
      (by kernel_rfl) ⟨⟨trivial, ?_⟩, hb⟩ hback
    rw [ltI_eq, decide_eq_false (by omega)]
  · refine runS_stop ev0_ok (giv := givL [(40, .q (.bool true)), (43, .q (.bool false)), (120, .c (blocksV (mix (apS L c) (X8 (.ro zs))) (blL L)).1 (blocksV (mix (apS L c) (X8 (.ro zs))) (blL L)).2)]) (n := 200) Try.func7
      ap4 (apG (blocksV (mix (apS L c) (X8 (.ro zs))) (blL L)).1 0) (σ' := (blocksV (mix (apS L c) (X8 (.ro zs))) (blL L)).2)
      (p' := ((True ∧ some (Value.bool (ltI ((20 : Nat) : Int) (len : Int))) = some (.bool true)) ∧ some (Value.bool (ltI ((20 : Nat) : Int) 20)) = some (.bool false)) ∧ WF M.toEnv 35 [.pointer (some ⟨0, 0, none⟩)] (mix (apS L c) (X8 (.ro zs))) (fun r σ' => r = (blocksV (mix (apS L c) (X8 (.ro zs))) (blL L)).1 ∧ σ' = (blocksV (mix (apS L c) (X8 (.ro zs))) (blL L)).2))
      (by kernel_rfl) ⟨⟨⟨trivial, ?_⟩, ?_⟩, hb⟩ hback
    · rw [ltI_eq, decide_eq_true (by omega)]
    · rw [ltI_eq, decide_eq_false (by omega)]

/-- The loop that takes blocks. -/
theorem ap_loop {zs : List Value} (hz : Ints zs) (len cap : Nat) (hlen : len ≤ zs.length) (R : Value → St → Prop)
    (hk : ∀ L c, FitL L → L.length ≤ 20 → VB 0 M 7 Try.f7.ntmps ap4 (frL (apG (xv (blL L)) 0)) (mix (apS L c) (X8 (xb (blL L)))) R) : VB 0 M 7 Try.f7.ntmps ap1 (frL (apF (lS len cap) 0)) (mix (apS [] 0) (X8 (.ro zs))) R := by
  rw [ap1_eq]
  refine VB.loop (fun f σ => ∃ (L : BL) (c : Int) (i : Nat), FitL L ∧ offL L % 2 = 0 ∧ L.length ≤ i ∧ i ≤ 20 ∧ f = frL (apF (lS len cap) i) ∧ σ = mix (apS L c) (X8 (.ro zs)))
    (fun f σ => 20 - (match f.get 7 with | some (.int _ j) => j.toNat | _ => 0)) ⟨[], 0, 0, trivial, rfl, by simp, by omega, rfl, rfl⟩ ?_
  intro f σ ⟨L, c, i, h, hev, hl, hi, hf, hσ⟩ ih
  subst hf; subst hσ
  have hdec : 20 - (((i + 1 : Nat) : Int)).toNat < 20 - ((i : Nat) : Int).toNat ∨ ¬ i < 20 := by omega
  by_cases hil : i < len
  · by_cases h20 : i < 20
    · have hdec' : 20 - (((i + 1 : Nat) : Int)).toNat < 20 - ((i : Nat) : Int).toNat := by omega
      have hzl : i < zs.length := by omega
      obtain ⟨z, hzv⟩ := hz zs[i] (List.getElem_mem hzl)
      have hzi : zs[i]? = some (.int .i64 z) := by rw [List.getElem?_eq_getElem hzl, hzv]
      obtain ⟨m, hm, hmz⟩ := and_mask z 15 4 (by omega) (by decide)
      by_cases hroom : 2 + offL L + (1 + m + (1 + m) % 2) ≤ 128
      · refine ap_turn1 h (by omega) c hz len cap i m (1 + m + (1 + m) % 2) (i + 1) z h20 hil hzi hm hmz rfl hroom hev rfl R (ap_inner ⟨by show 1 ≤ 1 + m + (1 + m) % 2; omega, hroom, by show 1 ≤ i + 1; omega, h⟩ rfl h20 c hz len cap R fun c' => ?_)
        exact ih _ _ ⟨(1 + m + (1 + m) % 2, i + 1) :: L, c', i + 1, ⟨by show 1 ≤ 1 + m + (1 + m) % 2; omega, hroom, by show 1 ≤ i + 1; omega, h⟩, by show (offL L + (1 + m + (1 + m) % 2)) % 2 = 0; omega, by show L.length + 1 ≤ i + 1; omega, by omega, rfl, rfl⟩ hdec'
      · exact ap_turn0 h (by omega) c hz len cap i m (1 + m + (1 + m) % 2) z h20 hil hzi hm hmz rfl hroom R (ih _ _ ⟨L, c, i + 1, h, hev, by omega, by omega, rfl, rfl⟩ hdec')
    · exact ap_exit h (by omega) c hz len cap i (.inr ⟨hil, by omega⟩) R (hk L c h (by omega))
  · exact ap_exit h (by omega) c hz len cap i (.inl hil) R (hk L c h (by omega))
end
end Go.Proofs.Ytlnlopeodpamdaa.Hx
end

section
/-
  HeapApart: what is in the blocks is looked at.
-/
set_option maxRecDepth 100000
set_option linter.unusedVariables false
namespace Go.Proofs.Ytlnlopeodpamdaa.Hx
open Go AH Go.Proofs
noncomputable section

noncomputable def k4 : List Item := .code (loopC ap4) :: .inLoop (loopC ap4) :: ap4.tail
noncomputable def ap5 : List Item := pathI 200 [true] k4
theorem ap5_eq : ap5 = .code (.loop (loopC ap5)) :: ap5.tail := by kernel_rfl
noncomputable def k5 : List Item := .code (loopC ap5) :: .inLoop (loopC ap5) :: ap5.tail
theorem ty68 : M.toEnv.ty 68 = some T68 := by kernel_rfl

/-- All words of a block are one number. -/
theorem wsL_blk : ∀ {L : BL}, FitL L → ∀ x ∈ blL L, ∃ p k t : Nat, x = ((p : Int), (k : Int), 0, true) ∧ 2 ≤ p ∧ 1 ≤ k ∧ p + k ≤ 2 + offL L ∧ 1 ≤ t ∧ ∀ j, j < k → (wsL L)[p + j]? = some (.int .u64 (t : Int))
  | [], _, x, hx => by simp [blL] at hx
  | b :: r, h, x, hx => by
    have hl : 2 + offL r + b.1 ≤ (putAt (wsL r) (2 + offL r) (repl b.1 [.int .u64 0])).length := by rw [putAt_length, wsL_len]; exact h.2.1
    have hl2 : 2 + offL r + (repl b.1 [Value.int .u64 0]).length ≤ (wsL r).length := by rw [repl_len, wsL_len]; exact h.2.1
    rw [blL] at hx
    rcases List.mem_append.1 hx with hx | hx
    · obtain ⟨p, k, t, h1, h2, h3, h4, h5, h6⟩ := wsL_blk h.2.2.2 x hx
      refine ⟨p, k, t, h1, h2, h3, by show p + k ≤ 2 + (offL r + b.1); omega, h5, fun j hj => ?_⟩
      rw [wsL, setR_get _ _ _ _ _ hl, if_neg (by omega), putAt_get _ _ _ _ hl2, if_neg (by omega)]
      exact h6 j hj
    · simp only [List.mem_singleton] at hx
      refine ⟨2 + offL r, b.1, b.2, hx, by omega, h.1, by show 2 + offL r + b.1 ≤ 2 + (offL r + b.1); omega, h.2.2.1, fun j hj => ?_⟩
      rw [wsL, setR_get _ _ _ _ _ hl, if_pos (by omega)]

theorem encs_at {l : List BV} {i : Nat} (hi : i < l.length) (j : Nat) (hj : j < 4) : (encs l)[i * 4 + j]? = (encB l[i])[j]? := by
  have h : (((encs l).drop (i * 4)).take 4)[j]? = (encB l[i])[j]? := by rw [encs_drop l i hi]
  rw [List.getElem?_take, if_pos hj, List.getElem?_drop] at h
  exact h
theorem xv_eq {l : List BV} (h : 0 < l.length) : xv l = .slice (some ⟨7, 0, none⟩) l.length unk := by
  cases l with
  | nil => simp at h
  | cons x r => rfl
theorem xb_eq {l : List BV} (h : 0 < l.length) : xb l = .row 74 4 (encs l) := by
  cases l with
  | nil => simp at h
  | cons x r => rfl
theorem xv_len (l : List BV) (σ : St) (t : Tmp) (ht : t = 122 ∨ t = 191 ∨ t = 228 ∨ t = 235) : opQ M.toEnv (frL [(t, xv l)]) σ (.call ⟨.builtin .len, #[.tmp t], #[68]⟩) = some (.int .i64 (l.length : Nat)) := by
  rcases ht with rfl | rfl | rfl | rfl <;> cases l <;> (show _ = _; kernel_rfl)
theorem xv_idx {l : List BV} {f : Fr} {σ : St} {t u : Tmp} {i : Nat} (h : f.get t = some (xv l)) (hu : f.get u = some (.int .i64 (i : Nat))) (hi : i < l.length) : opQ M.toEnv f σ (.indexAddr 68 (.tmp t) (.tmp u)) = some (.pointer (some ⟨7, i * 4, none⟩)) := by
  rw [xv_eq (by omega)] at h
  exact indexA_ok (i := T68) (j := T74) (e := 74) (k := i) h hu ty68 rfl ty74 hi
theorem xb_ld {l : List BV} {i j : Nat} {σ : St} {ty : TyI} {v : Value} (hty : ty.agg = false) (hx : (σ.get 7) = xb l) (hi : i < l.length) (hj : j < 4) (hv : (encB l[i])[j]? = some v) : ldVar ty σ ⟨7, i * 4 + j, none⟩ = some v :=
  ld_cell (cs := encs l) hty (by rw [hx, xb_eq (by omega)]; rfl) (by rw [encs_at hi j hj]; exact hv)

def frY (l : List BV) (i k j : Nat) : List (Nat × Value) := [(3, .pointer (some ⟨2, 0, none⟩)), (5, .pointer (some ⟨0, 0, none⟩)), (14, xv l), (15, .int .i64 ((i : Nat) : Int)), (16, .slice (some ⟨9, 0, none⟩) k unk), (17, .int .i64 ((j : Nat) : Int))]
def sY (L : BL) (c : Int) (l : List BV) (ww : List Value) : St := mix (apS L c) (X8 (xb l) |>.push .dead |>.push (.row 89 1 ww))
theorem sY_get (L : BL) (c : Int) (l : List BV) (ww : List Value) (i : Nat) : (sY L c l ww).get i = if i < 7 then (hs (apS L c)).get i else if 9 = i then .row 89 1 ww else if 8 = i then .dead else (X8 (xb l)).get i := by
  rw [sY, mix_get]
  split
  · rfl
  · rw [St.get_push, St.get_push]; rfl

/-- A block's words are fetched. -/
theorem ap_look {L : BL} (h : FitL L) (hl : L.length < 1000) (c : Int) (i p k : Nat) (hi : i < (blL L).length) (hx : (blL L)[i] = ((p : Int), (k : Int), 0, true)) (hk1 : 1 ≤ k) (hpk : p + k ≤ 128) (R : Value → St → Prop)
    (hk : VB 0 M 7 Try.f7.ntmps ap5 (frL (frY (blL L) i k 0)) (sY L c (blL L) (((wsL L).drop p).take k)) R) : VB 0 M 7 Try.f7.ntmps k4 (frL (apG (xv (blL L)) i)) (mix (apS L c) (X8 (xb (blL L)))) R := by
  have hn := apS_nice h c
  generalize hll : blL L = l at *
  have hnl : l.length < 1000 := by rw [← hll, blL_len]; exact hl
  generalize hww : ((wsL L).drop p).take k = ww at *
  have hcut : VB 0 M 7 Try.f7.ntmps ap5 (frL (frY l i k 0)) (cloned (mix (apS L c) (X8 (xb l))) 89 ww) R := by
    have hwws : Scs 10 ww := fun v hv => by
      rw [← hww] at hv
      exact sc_of_pure (wsL_pure L) 10 v (List.mem_of_mem_drop (List.mem_of_mem_take hv))
    refine VB.cut (frY l i k 0) (sY L c l ww) (fun q hq => ?_) rfl ⟨fun n => ?_, fun n hn => ?_, fun t v ht => ?_⟩ (Nat.zero_le _) (fun n => ?_) hk
    · simp only [frY, List.mem_cons, List.not_mem_nil, or_false] at hq
      rcases hq with rfl | rfl | rfl | rfl | rfl | rfl <;> (show _ = _; kernel_rfl)
    · rw [sY_get]
      split
      · exact hs_sc hn.ok n _ (by show 7 ≤ 10; omega)
      split
      · exact hwws
      split
      · trivial
      · rw [X8_get _ _ (by omega)]
        split
        · exact xb_sc _ _
        · trivial
    · rw [sY_get] at hn
      show n < 10
      by_cases h10 : n < 10
      · exact h10
      · rw [if_neg (by omega), if_neg (by omega), if_neg (by omega), X8_get _ _ (by omega), if_neg (by omega)] at hn
        cases hn
    · have := frL_mem ht
      simp only [frY, List.mem_cons, Prod.mk.injEq, List.not_mem_nil, or_false] at this
      rcases this with ⟨_, rfl⟩ | ⟨_, rfl⟩ | ⟨_, rfl⟩ | ⟨_, rfl⟩ | ⟨_, rfl⟩ | ⟨_, rfl⟩
      · exact Sc_ptr (by show 2 < 10; omega)
      · exact Sc_ptr (by show 0 < 10; omega)
      · exact xv_sc l _ (by show 8 ≤ 10; omega)
      · exact Sc_int _ _ _
      · exact Sc_slice (by show 9 < 10; omega)
      · exact Sc_int _ _ _
    · rw [sY_get, cloned_get, mix_get]
      show _ = (if 8 + 1 = n then _ else if 8 = n then _ else _) ∨ _
      by_cases h7 : n < 7
      · rw [if_pos h7, if_neg (by omega), if_neg (by omega), if_pos h7]; exact .inl rfl
      · rw [if_neg h7]
        by_cases h9 : 9 = n
        · subst h9; exact .inl rfl
        · rw [if_neg h9]
          by_cases h8 : 8 = n
          · rw [if_pos h8]; exact .inr rfl
          · rw [if_neg h8, if_neg (by omega), if_neg h8, if_neg h7]; exact .inl rfl
  refine runS_stop ev0_ok (giv := givL [(123, .q (.int .i64 (l.length : Nat))), (124, .q (.bool true)), (130, .q (.pointer (some ⟨7, i * 4, none⟩))), (132, .q (.int .i64 (p : Nat))), (135, .q (.pointer (some ⟨7, i * 4, none⟩))), (137, .q (.int .i64 (k : Nat))), (138, .c (.slice (some ⟨9, 0, none⟩) k unk) (cloned (mix (apS L c) (X8 (xb l))) 89 ww))]) (n := 200) Try.func7
    ap5 (frY l i k 0) (σ' := cloned (mix (apS L c) (X8 (xb l))) 89 ww)
    (p' := ((((((True ∧ opQ M.toEnv (frL [(122, xv l)]) (mix (apS L c) (X8 (xb l))) (.call ⟨.builtin .len, #[.tmp 122], #[68]⟩) = some (.int .i64 (l.length : Nat)))
      ∧ some (Value.bool (ltI (i : Int) ((l.length : Nat) : Int))) = some (.bool true))
      ∧ opQ M.toEnv (frL [(128, xv l), (129, .int .i64 (i : Nat))]) (mix (apS L c) (X8 (xb l))) (.indexAddr 68 (.tmp 128) (.tmp 129)) = some (.pointer (some ⟨7, i * 4, none⟩)))
      ∧ opQ M.toEnv (frL [(133, xv l), (134, .int .i64 (i : Nat))]) (mix (apS L c) (X8 (xb l))) (.indexAddr 68 (.tmp 133) (.tmp 134)) = some (.pointer (some ⟨7, i * 4, none⟩)))
      ∧ ldVar T3 (mix (apS L c) (X8 (xb l))) ⟨7, i * 4 + 0, none⟩ = some (.int .i64 (p : Nat)))
      ∧ ldVar T3 (mix (apS L c) (X8 (xb l))) ⟨7, i * 4 + 1, none⟩ = some (.int .i64 (k : Nat)))
      ∧ WF M.toEnv 42 [.pointer (some ⟨2, 0, none⟩), .int .i64 (p : Nat), .int .i64 (k : Nat)] (mix (apS L c) (X8 (xb l))) (fun r σ' => r = .slice (some ⟨9, 0, none⟩) k unk ∧ σ' = cloned (mix (apS L c) (X8 (xb l))) 89 ww))
    (by kernel_rfl) ⟨⟨⟨⟨⟨⟨⟨trivial, xv_len l _ 122 (.inl rfl)⟩, ?_⟩, xv_idx (by rfl) (by rfl) hi⟩, xv_idx (by rfl) (by rfl) hi⟩, ?_⟩, ?_⟩, ?_⟩ hcut
  · rw [ltI_eq, decide_eq_true (by omega)]
  · exact xb_ld rfl (by rw [mix_get, if_neg (by omega), X8_get _ _ (by omega), if_pos rfl]) hi (by omega) (by rw [hx]; rfl)
  · exact xb_ld rfl (by rw [mix_get, if_neg (by omega), X8_get _ _ (by omega), if_pos rfl]) hi (by omega) (by rw [hx]; rfl)
  · have hp := peek_any (s := apS L c) (σ := mix (apS L c) (X8 (xb l))) p k hk1 (by show p + k ≤ 128; exact hpk) (by show 127 ≤ 100000; omega) hn.ok.m hn.mflat (by show 7 ≤ 8; omega) (by rw [mix_get, if_pos (by omega), hs_get, ms_get]; rfl) (by rw [mix_get, if_pos (by omega), hs_get, ms_get]; rfl) (by rw [mix_get, if_pos (by omega), hs_get, ms_get]; rfl)
    rw [← hww]
    exact hp
end
end Go.Proofs.Ytlnlopeodpamdaa.Hx
end

section
/-
  HeapApart: the words of a block are looked at one by one; the loop over the blocks.
-/
set_option maxRecDepth 100000
set_option linter.unusedVariables false
namespace Go.Proofs.Ytlnlopeodpamdaa.Hx
open Go AH Go.Proofs
noncomputable section

theorem ww_ld {L : BL} {c : Int} {l : List BV} {ww : List Value} {j : Nat} {v : Value} (h : ww[j]? = some v) : ldVar T89 (sY L c l ww) ⟨9, j, none⟩ = some v :=
  ld_cell (cs := ww) rfl (by rw [sY_get, if_neg (by omega), if_pos rfl]; rfl) h
theorem sY_7 (L : BL) (c : Int) (l : List BV) (ww : List Value) : (sY L c l ww).get 7 = xb l := by
  rw [sY_get, if_neg (by omega), if_neg (by omega), if_neg (by omega), X8_get _ _ (by omega), if_pos rfl]

theorem ap_chk1 {L : BL} (c : Int) {l : List BV} (hnl : l.length < 1000) (i p k j t : Nat) (ww : List Value) (hi : i < l.length) (hx : l[i] = ((p : Int), (k : Int), 0, true)) (hj : j < k) (ht : 1 ≤ t) (hww : ∀ j, j < k → ww[j]? = some (.int .u64 (t : Int))) (hpk : p + k ≤ 128)
    (hprev : ∀ h0 : 0 < i, ∃ p' k' : Nat, l[i - 1] = ((p' : Int), (k' : Int), 0, true) ∧ p' + k' ≤ p) (R : Value → St → Prop)
    (hk : VB 0 M 7 Try.f7.ntmps (.inLoop (loopC ap5) :: ap5.tail) (frL (frY l i k (j + 1))) (sY L c l ww) R) : VB 0 M 7 Try.f7.ntmps k5 (frL (frY l i k j)) (sY L c l ww) R := by
  have ht0 : some (Value.bool (decide ((t : Int) = 0))) = some (.bool false) := by rw [decide_eq_false (by omega)]
  have htt : some (Value.bool (!((t : Int) == (t : Int)))) = some (.bool false) := by rw [beq_self_eq_true]; rfl
  by_cases h0 : 0 < i
  · obtain ⟨p', k', hp, hle⟩ := hprev h0
    refine runS_stop ev0_ok (giv := givL [(142, .q (.bool true)), (147, .q (.pointer (some ⟨9, j, none⟩))), (148, .q (.int .u64 (t : Nat))), (149, .q (.bool false)), (153, .q (.pointer (some ⟨9, j, none⟩))), (154, .q (.int .u64 (t : Nat))), (156, .q (.pointer (some ⟨9, 0, none⟩))), (157, .q (.int .u64 (t : Nat))), (158, .q (.bool false)), (162, .q (.bool true)),
        (166, .q (.pointer (some ⟨7, i * 4, none⟩))), (168, .q (.int .i64 (p : Nat))), (171, .q (.int .i64 ((i - 1 : Nat) : Int))), (172, .q (.pointer (some ⟨7, (i - 1) * 4, none⟩))), (174, .q (.int .i64 (p' : Nat))), (177, .q (.int .i64 ((i - 1 : Nat) : Int))), (178, .q (.pointer (some ⟨7, (i - 1) * 4, none⟩))), (180, .q (.int .i64 (k' : Nat))), (181, .q (.int .i64 ((p' + k' : Nat) : Int))), (182, .q (.bool false)), (144, .q (.int .i64 ((j + 1 : Nat) : Int)))]) (n := 200) Try.func7
      (.inLoop (loopC ap5) :: ap5.tail) (frY l i k (j + 1)) (σ' := sY L c l ww)
      (p' := ((((((((((((((((((((True ∧ some (Value.bool (ltI (j : Int) (k : Int))) = some (.bool true))
        ∧ (if 0 ≤ ((j : Nat) : Int) ∧ ((j : Nat) : Int) < ((k : Nat) : Int) then some (Value.pointer (some (addA ⟨9, 0, none⟩ (((j : Nat) : Int).toNat * 1)))) else none) = some (Value.pointer (some ⟨9, j, none⟩)))
        ∧ ldVar T89 (sY L c l ww) ⟨9, j, none⟩ = some (.int .u64 (t : Nat)))
        ∧ some (Value.bool (decide ((t : Int) = 0))) = some (.bool false))
        ∧ (if 0 ≤ ((j : Nat) : Int) ∧ ((j : Nat) : Int) < ((k : Nat) : Int) then some (Value.pointer (some (addA ⟨9, 0, none⟩ (((j : Nat) : Int).toNat * 1)))) else none) = some (Value.pointer (some ⟨9, j, none⟩)))
        ∧ (if 0 ≤ ((0 : Nat) : Int) ∧ ((0 : Nat) : Int) < ((k : Nat) : Int) then some (Value.pointer (some (addA ⟨9, 0, none⟩ (((0 : Nat) : Int).toNat * 1)))) else none) = some (Value.pointer (some ⟨9, 0, none⟩)))
        ∧ ldVar T89 (sY L c l ww) ⟨9, j, none⟩ = some (.int .u64 (t : Nat)))
        ∧ ldVar T89 (sY L c l ww) ⟨9, 0, none⟩ = some (.int .u64 (t : Nat)))
        ∧ some (Value.bool (!((t : Int) == (t : Int)))) = some (.bool false))
        ∧ some (Value.bool (ltI 0 (i : Int))) = some (.bool true))
        ∧ opQ M.toEnv (frL [(164, xv l), (165, .int .i64 (i : Nat))]) (sY L c l ww) (.indexAddr 68 (.tmp 164) (.tmp 165)) = some (.pointer (some ⟨7, i * 4, none⟩)))
        ∧ some (Value.int .i64 (IntKind.i64.wrap ((i : Int) - 1))) = some (.int .i64 ((i - 1 : Nat) : Int)))
        ∧ opQ M.toEnv (frL [(169, xv l), (171, .int .i64 ((i - 1 : Nat) : Int))]) (sY L c l ww) (.indexAddr 68 (.tmp 169) (.tmp 171)) = some (.pointer (some ⟨7, (i - 1) * 4, none⟩)))
        ∧ some (Value.int .i64 (IntKind.i64.wrap ((i : Int) - 1))) = some (.int .i64 ((i - 1 : Nat) : Int)))
        ∧ opQ M.toEnv (frL [(175, xv l), (177, .int .i64 ((i - 1 : Nat) : Int))]) (sY L c l ww) (.indexAddr 68 (.tmp 175) (.tmp 177)) = some (.pointer (some ⟨7, (i - 1) * 4, none⟩)))
        ∧ ldVar T3 (sY L c l ww) ⟨7, i * 4 + 0, none⟩ = some (.int .i64 (p : Nat)))
        ∧ ldVar T3 (sY L c l ww) ⟨7, (i - 1) * 4 + 0, none⟩ = some (.int .i64 (p' : Nat)))
        ∧ ldVar T3 (sY L c l ww) ⟨7, (i - 1) * 4 + 1, none⟩ = some (.int .i64 (k' : Nat)))
        ∧ some (Value.int .i64 (IntKind.i64.wrap ((p' : Int) + (k' : Int)))) = some (.int .i64 ((p' + k' : Nat) : Int)))
        ∧ some (Value.bool (ltI (p : Int) ((p' + k' : Nat) : Int))) = some (.bool false))
        ∧ some (Value.int .i64 (IntKind.i64.wrap ((j : Int) + 1))) = some (.int .i64 ((j + 1 : Nat) : Int)))
      (by kernel_rfl) ⟨⟨⟨⟨⟨⟨⟨⟨⟨⟨⟨⟨⟨⟨⟨⟨⟨⟨⟨⟨⟨trivial, ?_⟩, idx_ptr hj⟩, ww_ld (hww j hj)⟩, ht0⟩, idx_ptr hj⟩, idx_ptr (by omega)⟩, ww_ld (hww j hj)⟩, ww_ld (hww 0 (by omega))⟩, htt⟩, ?_⟩, xv_idx (by rfl) (by rfl) hi⟩, ?_⟩, xv_idx (by rfl) (by rfl) (by omega)⟩, ?_⟩, xv_idx (by rfl) (by rfl) (by omega)⟩, xb_ld rfl (sY_7 _ _ _ _) hi (by omega) (by rw [hx]; rfl)⟩, xb_ld rfl (sY_7 _ _ _ _) (i := i - 1) (by omega) (by omega) (by rw [hp]; rfl)⟩, xb_ld rfl (sY_7 _ _ _ _) (i := i - 1) (by omega) (by omega) (by rw [hp]; rfl)⟩, ?_⟩, ?_⟩, ?_⟩ hk
    · rw [ltI_eq, decide_eq_true (by omega)]
    · rw [ltI_eq, decide_eq_true (by omega)]
    · rw [IntWalk.i64_in _ (by omega)]; congr 2; omega
    · rw [IntWalk.i64_in _ (by omega)]; congr 2; omega
    · rw [IntWalk.i64_in _ (by omega)]; congr 2
    · rw [ltI_eq, decide_eq_false (by omega)]
    · rw [IntWalk.i64_in _ (by omega)]; congr 2
  · refine runS_stop ev0_ok (giv := givL [(142, .q (.bool true)), (147, .q (.pointer (some ⟨9, j, none⟩))), (148, .q (.int .u64 (t : Nat))), (149, .q (.bool false)), (153, .q (.pointer (some ⟨9, j, none⟩))), (154, .q (.int .u64 (t : Nat))), (156, .q (.pointer (some ⟨9, 0, none⟩))), (157, .q (.int .u64 (t : Nat))), (158, .q (.bool false)), (162, .q (.bool false)), (144, .q (.int .i64 ((j + 1 : Nat) : Int)))]) (n := 200) Try.func7
      (.inLoop (loopC ap5) :: ap5.tail) (frY l i k (j + 1)) (σ' := sY L c l ww)
      (p' := ((((((((((True ∧ some (Value.bool (ltI (j : Int) (k : Int))) = some (.bool true))
        ∧ (if 0 ≤ ((j : Nat) : Int) ∧ ((j : Nat) : Int) < ((k : Nat) : Int) then some (Value.pointer (some (addA ⟨9, 0, none⟩ (((j : Nat) : Int).toNat * 1)))) else none) = some (Value.pointer (some ⟨9, j, none⟩)))
        ∧ ldVar T89 (sY L c l ww) ⟨9, j, none⟩ = some (.int .u64 (t : Nat)))
        ∧ some (Value.bool (decide ((t : Int) = 0))) = some (.bool false))
        ∧ (if 0 ≤ ((j : Nat) : Int) ∧ ((j : Nat) : Int) < ((k : Nat) : Int) then some (Value.pointer (some (addA ⟨9, 0, none⟩ (((j : Nat) : Int).toNat * 1)))) else none) = some (Value.pointer (some ⟨9, j, none⟩)))
        ∧ (if 0 ≤ ((0 : Nat) : Int) ∧ ((0 : Nat) : Int) < ((k : Nat) : Int) then some (Value.pointer (some (addA ⟨9, 0, none⟩ (((0 : Nat) : Int).toNat * 1)))) else none) = some (Value.pointer (some ⟨9, 0, none⟩)))
        ∧ ldVar T89 (sY L c l ww) ⟨9, j, none⟩ = some (.int .u64 (t : Nat)))
        ∧ ldVar T89 (sY L c l ww) ⟨9, 0, none⟩ = some (.int .u64 (t : Nat)))
        ∧ some (Value.bool (!((t : Int) == (t : Int)))) = some (.bool false))
        ∧ some (Value.bool (ltI 0 (i : Int))) = some (.bool false))
        ∧ some (Value.int .i64 (IntKind.i64.wrap ((j : Int) + 1))) = some (.int .i64 ((j + 1 : Nat) : Int)))
      (by kernel_rfl) ⟨⟨⟨⟨⟨⟨⟨⟨⟨⟨⟨trivial, ?_⟩, idx_ptr hj⟩, ww_ld (hww j hj)⟩, ht0⟩, idx_ptr hj⟩, idx_ptr (by omega)⟩, ww_ld (hww j hj)⟩, ww_ld (hww 0 (by omega))⟩, htt⟩, ?_⟩, ?_⟩ hk
    · rw [ltI_eq, decide_eq_true (by omega)]
    · rw [ltI_eq, decide_eq_false (by omega)]
    · rw [IntWalk.i64_in _ (by omega)]; congr 2
end
end Go.Proofs.Ytlnlopeodpamdaa.Hx
end

section
/-
  HeapApart: the loop over the blocks.
-/
set_option maxRecDepth 100000
set_option linter.unusedVariables false
namespace Go.Proofs.Ytlnlopeodpamdaa.Hx
open Go AH Go.Proofs
noncomputable section

theorem apG_get (l : List BV) (i : Nat) : ∀ q ∈ apG (xv l) i, (frL (apG (xv l) i)).get q.1 = some q.2 := fun q hq => by
  simp only [apG, List.mem_cons, List.not_mem_nil, or_false] at hq
  rcases hq with rfl | rfl | rfl | rfl <;> (show _ = _; kernel_rfl)

theorem ap_chk {L : BL} (h : FitL L) (c : Int) {l : List BV} (hlL : blL L = l) (hnl : l.length < 1000) (i p k t : Nat) (ww : List Value) (hi : i < l.length) (hx : l[i] = ((p : Int), (k : Int), 0, true)) (ht : 1 ≤ t) (hww : ∀ j, j < k → ww[j]? = some (.int .u64 (t : Int))) (hpk : p + k ≤ 128)
    (hprev : ∀ h0 : 0 < i, ∃ p' k' : Nat, l[i - 1] = ((p' : Int), (k' : Int), 0, true) ∧ p' + k' ≤ p) (R : Value → St → Prop)
    (hk : VB 0 M 7 Try.f7.ntmps (.inLoop (loopC ap4) :: ap4.tail) (frL (apG (xv l) (i + 1))) (mix (apS L c) (X8 (xb l))) R) : VB 0 M 7 Try.f7.ntmps ap5 (frL (frY l i k 0)) (sY L c l ww) R := by
  rw [ap5_eq]
  refine VB.loop (fun f σ => ∃ j : Nat, j ≤ k ∧ f = frL (frY l i k j) ∧ σ = sY L c l ww) (fun f σ => k - (match f.get 17 with | some (.int _ j) => j.toNat | _ => 0)) ⟨0, by omega, rfl, rfl⟩ ?_
  intro f σ ⟨j, hj, hf, hσ⟩ ih
  subst hf; subst hσ
  by_cases hjk : j < k
  · refine ap_chk1 c hnl i p k j t ww hi hx hjk ht hww hpk hprev R (ih _ _ ⟨j + 1, by omega, rfl, rfl⟩ ?_)
    show k - (((j + 1 : Nat) : Int)).toNat < k - ((j : Nat) : Int).toNat
    omega
  · have e : j = k := by omega
    subst e
    refine runS_stop ev0_ok (giv := givL [(142, .q (.bool false)), (126, .q (.int .i64 ((i + 1 : Nat) : Int)))]) (n := 100) Try.func7
      (.inLoop (loopC ap4) :: ap4.tail) (apG (xv l) (i + 1)) (σ' := sY L c l ww)
      (p' := (True ∧ some (Value.bool (ltI (j : Int) (j : Int))) = some (.bool false)) ∧ some (Value.int .i64 (IntKind.i64.wrap ((i : Int) + 1))) = some (.int .i64 ((i + 1 : Nat) : Int)))
      (by kernel_rfl) ⟨⟨trivial, ?_⟩, ?_⟩ ?_
    · rw [ltI_eq, decide_eq_false (by omega)]
    · rw [IntWalk.i64_in _ (by omega)]; rfl
    · have hwf := apG_wf h c (i + 1)
      rw [hlL] at hwf
      refine VB.cut (apG (xv l) (i + 1)) (mix (apS L c) (X8 (xb l))) (apG_get _ _) rfl hwf (Nat.zero_le _) (fun n => ?_) hk
      rw [sY_get, mix_get]
      by_cases h7 : n < 7
      · rw [if_pos h7, if_pos h7]; exact .inl rfl
      · rw [if_neg h7, if_neg h7]
        by_cases h9 : 9 = n
        · subst h9; right; rw [X8_get _ _ (by omega)]; rfl
        · rw [if_neg h9]
          by_cases h8 : 8 = n
          · subst h8; right; rw [X8_get _ _ (by omega)]; rfl
          · rw [if_neg h8]; exact .inl rfl

noncomputable def ap6 : List Item := pathI 200 [false] k4
theorem ap6_eq : ap6 = .code (.loop (loopC ap6)) :: ap6.tail := by kernel_rfl
def apH0 (l : List BV) : List (Nat × Value) := [(3, .pointer (some ⟨2, 0, none⟩)), (5, .pointer (some ⟨0, 0, none⟩)), (14, xv l), (19, .pointer (some ⟨13, 0, none⟩)), (20, .int .i64 0)]

/-- The loop over the blocks; and the copies. -/
theorem ap_loop2 {L : BL} (h : FitL L) (hl : L.length < 1000) (c : Int) (R : Value → St → Prop)
    (hk : VB 0 M 7 Try.f7.ntmps ap6 (frL (apH0 (blL L))) (s41 (apS L c) c (xb (blL L))) R) : VB 0 M 7 Try.f7.ntmps ap4 (frL (apG (xv (blL L)) 0)) (mix (apS L c) (X8 (xb (blL L)))) R := by
  rw [ap4_eq]
  refine VB.loop (fun f σ => ∃ i : Nat, i ≤ (blL L).length ∧ f = frL (apG (xv (blL L)) i) ∧ σ = mix (apS L c) (X8 (xb (blL L)))) (fun f σ => (blL L).length - (match f.get 15 with | some (.int _ j) => j.toNat | _ => 0)) ⟨0, by omega, rfl, rfl⟩ ?_
  intro f σ ⟨i, hi, hf, hσ⟩ ih
  subst hf; subst hσ
  have hnl : (blL L).length < 1000 := by rw [blL_len]; exact hl
  by_cases hil : i < (blL L).length
  · have hle := offL_le h
    obtain ⟨p, k, t, h1, h2, h3, h4, h5, h6⟩ := wsL_blk h _ (List.getElem_mem hil)
    refine ap_look h hl c i p k hil h1 h3 (by omega) R (ap_chk h c rfl hnl i p k t _ hil h1 h5 (fun j hj => ?_) (by omega) (fun h0 => ?_) R (ih _ _ ⟨i + 1, by omega, rfl, rfl⟩ ?_))
    · rw [List.getElem?_take, if_pos hj, List.getElem?_drop]
      exact h6 j hj
    · obtain ⟨p', k', g1, g2, g3, g4⟩ := blL_mem h _ (List.getElem_mem (show i - 1 < (blL L).length by omega))
      refine ⟨p', k', g1, ?_⟩
      have := (List.pairwise_iff_getElem.1 (blL_rise h) (i - 1) i (by omega) hil (by omega)).1
      rw [g1, h1] at this
      have h9 : (p' : Int) + (k' : Int) ≤ (p : Int) := this
      omega
    · show (blL L).length - (((i + 1 : Nat) : Int)).toNat < (blL L).length - ((i : Nat) : Int).toNat
      omega
  · have hn := apS_nice h c
    refine runS_stop ev0_ok (giv := givL [(123, .q (.int .i64 ((blL L).length : Nat))), (124, .q (.bool false)), (186, .c (.pointer (some ⟨8, 0, none⟩)) (s44 (apS L c) c (xb (blL L)))), (189, .c (.pointer (some ⟨13, 0, none⟩)) (s41 (apS L c) c (xb (blL L))))]) (n := 200) Try.func7
      ap6 (apH0 (blL L)) (σ' := s41 (apS L c) c (xb (blL L)))
      (p' := (((True ∧ opQ M.toEnv (frL [(122, xv (blL L))]) (mix (apS L c) (X8 (xb (blL L)))) (.call ⟨.builtin .len, #[.tmp 122], #[68]⟩) = some (.int .i64 ((blL L).length : Nat)))
        ∧ some (Value.bool (ltI (i : Int) (((blL L).length : Nat) : Int))) = some (.bool false))
        ∧ WF M.toEnv 44 [.pointer (some ⟨2, 0, none⟩)] (mix (lawS (apS L c) c) (X8 (xb (blL L)))) (fun r σ' => r = .pointer (some ⟨8, 0, none⟩) ∧ σ' = s44 (apS L c) c (xb (blL L))))
        ∧ WF M.toEnv 41 [.pointer (some ⟨0, 0, none⟩), .pointer (some ⟨8, 0, none⟩)] (s44 (apS L c) c (xb (blL L))) (fun r σ' => r = .pointer (some ⟨13, 0, none⟩) ∧ σ' = s41 (apS L c) c (xb (blL L))))
      (by kernel_rfl) ⟨⟨⟨⟨trivial, xv_len _ _ 122 (.inl rfl)⟩, ?_⟩, clone44 _ c _ hn.wl hn.bl hn.n⟩, clone41 _ c _⟩ hk
    rw [ltI_eq, decide_eq_false (by omega)]
end
end Go.Proofs.Ytlnlopeodpamdaa.Hx
end

section
/-
  HeapApart: the copy gives all its blocks back.
-/
set_option maxRecDepth 100000
set_option linter.unusedVariables false
namespace Go.Proofs.Ytlnlopeodpamdaa.Hx
open Go AH Go.Proofs
noncomputable section

/-- The copy's state; and what else there is: the blocks' list, and the heap itself. -/
def cpS (L : BL) (c : Int) : HS := { apS L c with wv := .slice (some ⟨4, 0, none⟩) 0 0, wb := .cells 74 [], row := true }
def X15 (L : BL) (c : Int) : St := (⟨15, .leaf⟩ : St) |>.set 7 (xb (blL L)) |>.set 8 (hst 10 9 11 (.slice none 0 0) 2 126 0) |>.set 9 (.map (esL L) L.length) |>.set 10 (hdr 13 14 127 128 c) |>.set 11 (.map (gsL L) L.length) |>.set 13 (.cells 89 (wsL L)) |>.set 14 (.cells 4 (bsL L))
theorem X15_get (L : BL) (c : Int) (i : Nat) : (X15 L c).get i = if 14 = i then .cells 4 (bsL L) else if 13 = i then .cells 89 (wsL L) else if 11 = i then .map (gsL L) L.length else if 10 = i then hdr 13 14 127 128 c else if 9 = i then .map (esL L) L.length else if 8 = i then hst 10 9 11 (.slice none 0 0) 2 126 0 else if 7 = i then xb (blL L) else .dead := by
  simp only [X15, St.get_set]
  rfl
def apJ (l : List BV) (i : Nat) : List (Nat × Value) := [(3, .pointer (some ⟨10, 0, none⟩)), (5, .pointer (some ⟨8, 0, none⟩)), (14, xv l), (19, .pointer (some ⟨0, 0, none⟩)), (20, .int .i64 ((i : Nat) : Int))]

theorem cpS_nice {L : BL} (h : FitL L) (c : Int) : (cpS L c).Nice 0 [] := by
  have h0 := apS_nice h c
  exact ⟨h0.es, h0.gs, h0.cs, h0.ws, h0.bs, fun ρ => rfl, h0.cl, h0.wl, h0.bl, h0.n, .inr (.inr ⟨rfl, rfl, rfl, rfl⟩), fun e => by cases e⟩
theorem X15_sc {L : BL} (h : FitL L) (c : Int) (i : Nat) (hi : 7 ≤ i) : ((X15 L c).get i).sc 15 := by
  have hn := apS_nice h c
  rw [X15_get]
  split
  · exact sc_of_pure (bsL_pure L) 15
  split
  · exact sc_of_pure (wsL_pure L) 15
  split
  · exact scE_of_pure hn.gs 15
  split
  · intro v hv
    rcases List.mem_cons.1 hv with rfl | hv
    · exact Sc_slice (by show 13 < 15; omega)
    rcases List.mem_cons.1 hv with rfl | hv
    · exact Sc_slice (by show 14 < 15; omega)
    · exact sc_of_pure (csL_pure c) 15 v hv
  split
  · exact scE_of_pure hn.es 15
  split
  · intro v hv
    simp only [List.mem_cons, List.not_mem_nil, or_false] at hv
    rcases hv with e | e | e | e | e | e | e
    · rw [e]; exact Sc_ptr (by show 10 < 15; omega)
    · rw [e]; exact Sc_int _ _ _
    · rw [e]; exact Sc_int _ _ _
    · rw [e]; exact Sc_map (by omega)
    · rw [e]; exact Sc_map (by omega)
    · rw [e]; exact Sc_nilslice _ _ _
    · rw [e]; exact Sc_int _ _ _
  split
  · exact xb_sc _ _
  · trivial
theorem X15_live (L : BL) (c : Int) (i : Nat) (hi : 7 ≤ i) (hl : ((X15 L c).get i).live = true) : i < 15 := by
  by_cases h15 : i < 15
  · exact h15
  · rw [X15_get, if_neg (by omega), if_neg (by omega), if_neg (by omega), if_neg (by omega), if_neg (by omega), if_neg (by omega), if_neg (by omega)] at hl
    cases hl
theorem apJ_sc (l : List BV) (i n : Nat) (hn : 15 ≤ n) : ∀ q ∈ apJ l i, Sc n q.2 := fun q hq => by
  simp only [apJ, List.mem_cons, List.not_mem_nil, or_false] at hq
  rcases hq with rfl | rfl | rfl | rfl | rfl
  · exact Sc_ptr (by show 10 < n; omega)
  · exact Sc_ptr (by show 8 < n; omega)
  · exact xv_sc l n (by omega)
  · exact Sc_ptr (by show 0 < n; omega)
  · exact Sc_int _ _ _

/-- A renumbering that leaves 7 and others where they are does nothing to what is beside the copy. -/
theorem X15_ren {L : BL} (h : FitL L) (c : Int) (π : Nat → Nat) (hπ : ∀ i, 7 ≤ i → i < 15 → π i = i) (i : Nat) (hi : 7 ≤ i) : renB (loc π) ((X15 L c).get i) = (X15 L c).get i := by
  have hn := apS_nice h c
  rw [X15_get]
  split
  · rw [renB, bsL_pure]
  split
  · rw [renB, wsL_pure]
  split
  · rw [renB, show gsL L = (apS L c).gs from rfl, hn.gs]
  split
  · simp only [hdr, renB, List.map_cons, ren_slice, renA, loc, hπ 13 (by omega) (by omega), hπ 14 (by omega) (by omega), csL_pure]
    rw [renC_le (by unfold unk; omega)]
  split
  · rw [renB, show esL L = (apS L c).es from rfl, hn.es]
  split
  · simp only [hst, renB, List.map_cons, List.map_nil, ren_ptr, ren_int, ren_map, ren_nilslice, renA, loc, hπ 10 (by omega) (by omega), hπ 9 (by omega) (by omega), hπ 11 (by omega) (by omega)]
  split
  · cases blL L with
    | nil => rfl
    | cons x r => rw [xb, renB, encs_closed]
  · rfl

def piC : Nat → Nat := fun i => match i with | 0 => 13 | 1 => 14 | 2 => 8 | 3 => 15 | 4 => 16 | 5 => 10 | 6 => 12 | 7 => 7 | 8 => 0 | 9 => 1 | 10 => 2 | 11 => 3 | 13 => 5 | 14 => 6 | _ => 20
theorem piC_inj : ∀ i, i < 15 → ∀ j, j < 15 → i ≠ 12 → j ≠ 12 → piC i = piC j → i = j := by decide

theorem s44_get (s : HS) (c1 : Int) (xb : Blk) (i : Nat) : (s44 s c1 xb).get i = if i < 7 then (hs (lawS s c1)).get i else if 12 = i then .row 4 1 s.bs else if 11 = i then .cells 4 [] else if 10 = i then .row 89 1 s.ws else if 9 = i then .cells 89 [] else if 8 = i then hdr 10 12 s.n unk c1 else (X8 xb).get i := by
  rw [s44, mix_get]
  split
  · rfl
  · rw [St.get_push, St.get_push, St.get_push, St.get_push, St.get_push]; rfl
theorem s41_get (s : HS) (c1 : Int) (xb : Blk) (i : Nat) : (s41 s c1 xb).get i = if 16 = i then .cells 74 [] else if 15 = i then .map s.gs s.gclock else if 14 = i then .map s.es s.clock else if 13 = i then hst 8 14 15 (.slice (some ⟨16, 0, none⟩) 0 0) s.first s.words s.bad else (s44 s c1 xb).get i := by
  rw [s41, St.get_push, St.get_push, St.get_push, St.get_push]; rfl

theorem ap_swap {L : BL} (h : FitL L) (c : Int) (R : Value → St → Prop) (hk : VB 0 M 7 Try.f7.ntmps ap6 (frL (apJ (blL L) 0)) (mix (cpS L c) (X15 L c)) R) : VB 0 M 7 Try.f7.ntmps ap6 (frL (apH0 (blL L))) (s41 (apS L c) c (xb (blL L))) R := by
  have hn := apS_nice h c
  have hwf : Wf (frL (apJ (blL L) 0)) (mix (cpS L c) (X15 L c)) := mix_wf (cpS_nice h c).ok (by show 7 ≤ 15; omega) (X15_sc h c) (X15_live L c) (apJ_sc _ 0 15 (Nat.le_refl _))
  have h12 : ((mix (cpS L c) (X15 L c)).get 12).live = false := by rw [mix_get, if_neg (by omega), X15_get]; rfl
  refine VB.renum piC (Nat.zero_le _) (fun i hi => absurd hi (Nat.not_lt_zero _)) (fun i j hi hj e => ?_) (fun i hi => ?_) hwf (fun t v ht => ?_) rfl (fun i hi => by rw [frL_df] at hi; simp at hi) hk
  · refine piC_inj i (hwf.lt i hi) j (hwf.lt j hj) (fun e4 => ?_) (fun e4 => ?_) e
    · rw [e4, h12] at hi; cases hi
    · rw [e4, h12] at hj; cases hj
  · have h15 : i < 15 := hwf.lt i hi
    have : i = 0 ∨ i = 1 ∨ i = 2 ∨ i = 3 ∨ i = 4 ∨ i = 5 ∨ i = 6 ∨ i = 7 ∨ i = 8 ∨ i = 9 ∨ i = 10 ∨ i = 11 ∨ i = 12 ∨ i = 13 ∨ i = 14 := by omega
    have hget : ∀ (n : Nat) (b : Blk), (if 16 = n then Blk.cells 74 [] else if 15 = n then Blk.map (gsL L) L.length else if 14 = n then .map (esL L) L.length else if 13 = n then hst 8 14 15 (.slice (some ⟨16, 0, none⟩) 0 0) 2 126 0 else if n < 7 then (hs (apS L c)).get n else if 12 = n then .row 4 1 (bsL L) else if 11 = n then .cells 4 [] else if 10 = n then .row 89 1 (wsL L) else if 9 = n then .cells 89 [] else if 8 = n then hdr 10 12 127 unk c else (X8 (xb (blL L))).get n) = b → (s41 (apS L c) c (xb (blL L))).get n = b := fun n b hb => by
      rw [s41_get, s44_get]
      exact hb
    have hm : ∀ (n : Nat) (b : Blk), (if n < 7 then (hs (cpS L c)).get n else if 14 = n then Blk.cells 4 (bsL L) else if 13 = n then .cells 89 (wsL L) else if 11 = n then .map (gsL L) L.length else if 10 = n then hdr 13 14 127 128 c else if 9 = n then .map (esL L) L.length else if 8 = n then hst 10 9 11 (.slice none 0 0) 2 126 0 else if 7 = n then xb (blL L) else .dead) = b → (mix (cpS L c) (X15 L c)).get n = b := fun n b hb => by
      rw [mix_get, X15_get]
      exact hb
    rcases this with rfl | rfl | rfl | rfl | rfl | rfl | rfl | rfl | rfl | rfl | rfl | rfl | rfl | rfl | rfl
    · rw [hget (piC 0) (hst 8 14 15 (.slice (some ⟨16, 0, none⟩) 0 0) 2 126 0) rfl, hm 0 (hst 2 1 3 (.slice (some ⟨4, 0, none⟩) 0 0) 2 126 0) (by rw [if_pos (by omega), hs_get]; rfl)]
      simp only [hst, renB, List.map_cons, List.map_nil, ren_ptr, ren_int, ren_map, ren_slice, renA, loc]
      rw [renC_le (Nat.zero_le _)]
      rfl
    · rw [hget (piC 1) (.map (apS L c).es L.length) rfl, hm 1 (.map (apS L c).es L.length) (by rw [if_pos (by omega), hs_get]; rfl), renB, hn.es]
    · rw [hget (piC 2) (hdr 10 12 127 unk c) rfl, hm 2 (hdr 5 6 127 unk c) (by rw [if_pos (by omega), hs_get]; rfl)]
      simp only [hdr, renB, List.map_cons, ren_slice, renA, loc, csL_pure]
      rw [renC_le (Nat.le_refl _)]
      rfl
    · rw [hget (piC 3) (.map (apS L c).gs L.length) rfl, hm 3 (.map (apS L c).gs L.length) (by rw [if_pos (by omega), hs_get]; rfl), renB, hn.gs]
    · rw [hget (piC 4) (.cells 74 []) rfl, hm 4 (.cells 74 []) (by rw [if_pos (by omega), hs_get]; rfl)]; rfl
    · rw [hget (piC 5) (.row 89 1 (wsL L)) rfl, hm 5 (.row 89 1 (wsL L)) (by rw [if_pos (by omega), hs_get]; rfl), renB, wsL_pure]
    · rw [hget (piC 6) (.row 4 1 (bsL L)) rfl, hm 6 (.row 4 1 (bsL L)) (by rw [if_pos (by omega), hs_get]; rfl), renB, bsL_pure]
    · rw [hget (piC 7) (xb (blL L)) rfl, hm 7 (xb (blL L)) rfl]
      cases blL L with
      | nil => rfl
      | cons x r => rw [xb, renB, encs_closed]
    · rw [hget (piC 8) (hst 2 1 3 (.slice none 0 0) 2 126 0) (by show (hs (apS L c)).get 0 = _; rw [hs_get]; rfl), hm 8 (hst 10 9 11 (.slice none 0 0) 2 126 0) rfl]
      simp only [hst, renB, List.map_cons, List.map_nil, ren_ptr, ren_int, ren_map, ren_nilslice, renA, loc]
      rfl
    · rw [hget (piC 9) (.map (apS L c).es L.length) (by show (hs (apS L c)).get 1 = _; rw [hs_get]; rfl), hm 9 (.map (apS L c).es L.length) rfl, renB, hn.es]
    · rw [hget (piC 10) (hdr 5 6 127 128 c) (by show (hs (apS L c)).get 2 = _; rw [hs_get]; rfl), hm 10 (hdr 13 14 127 128 c) rfl]
      simp only [hdr, renB, List.map_cons, ren_slice, renA, loc, csL_pure]
      rw [renC_le (by unfold unk; omega)]
      rfl
    · rw [hget (piC 11) (.map (apS L c).gs L.length) (by show (hs (apS L c)).get 3 = _; rw [hs_get]; rfl), hm 11 (.map (apS L c).gs L.length) rfl, renB, hn.gs]
    · rw [h12] at hi; cases hi
    · rw [hget (piC 13) (.cells 89 (wsL L)) (by show (hs (apS L c)).get 5 = _; rw [hs_get]; rfl), hm 13 (.cells 89 (wsL L)) rfl, renB, wsL_pure]
    · rw [hget (piC 14) (.cells 4 (bsL L)) (by show (hs (apS L c)).get 6 = _; rw [hs_get]; rfl), hm 14 (.cells 4 (bsL L)) rfl, renB, bsL_pure]
  · have := frL_mem ht
    simp only [apJ, List.mem_cons, Prod.mk.injEq, List.not_mem_nil, or_false] at this
    rcases this with ⟨rfl, rfl⟩ | ⟨rfl, rfl⟩ | ⟨rfl, rfl⟩ | ⟨rfl, rfl⟩ | ⟨rfl, rfl⟩
    · simp only [ren_ptr, renA, loc]; rfl
    · simp only [ren_ptr, renA, loc]; rfl
    · cases hx : blL L with
      | nil => simp only [xv, ren_nilslice]; rfl
      | cons x r =>
        rw [xv, ren_slice]
        simp only [renA, loc]
        rw [renC_le (Nat.le_refl _)]
        rfl
    · simp only [ren_ptr, renA, loc]; rfl
    · simp only [ren_int]; rfl
end
end Go.Proofs.Ytlnlopeodpamdaa.Hx
end

section
/-
  HeapApart: all blocks are given back; the end.
-/
set_option maxRecDepth 100000
set_option linter.unusedVariables false
namespace Go.Proofs.Ytlnlopeodpamdaa.Hx
open Go AH Go.Proofs
noncomputable section

noncomputable def k6 : List Item := .code (loopC ap6) :: .inLoop (loopC ap6) :: ap6.tail

/-- The copy, behind so many Gives. -/
structure Gv (L : BL) (i : Nat) (s : HS) (old : List Value) : Prop where
  nice : s.Nice i old
  first : s.first = 2
  words : s.words = 126
  bad : s.bad = (i : Int)
  es : s.es = (esL L).drop i
  clock : s.clock = L.length
  gs : s.gs = gsL L
  n : s.n = 127

theorem esL_at {L : BL} (h : FitL L) {i p k : Nat} (hi : i < (blL L).length) (hx : (blL L)[i] = ((p : Int), (k : Int), 0, true)) : ∃ e, (esL L)[i]? = some e ∧ e.key = .int .i64 (p : Int) ∧ e.val = blkV (p : Int) (k : Int) 0 true := by
  have hl : i < (esL L).length := by rw [esL_len, ← blL_len]; exact hi
  obtain ⟨p', k', h1, h2, h3, h4, h5, h6⟩ := esL_mem h _ (List.getElem_mem hl)
  have hb : bvOf (esL L)[i] = ((p : Int), (k : Int), 0, true) := by
    have : ((esL L).map bvOf)[i]'(by rw [List.length_map]; exact hl) = (blL L)[i] := by simp only [esL_bv]
    rw [List.getElem_map] at this
    rw [this, hx]
  have hb2 : bvOf (esL L)[i] = ((p' : Int), (k' : Int), 0, true) := by unfold bvOf; rw [h2]; rfl
  rw [hb2] at hb
  simp only [Prod.mk.injEq] at hb
  refine ⟨_, List.getElem?_eq_getElem hl, by rw [h1]; congr 1; omega, by rw [h2, hb.1, hb.2.1]⟩

theorem esL_find {L : BL} (h : FitL L) {i p k : Nat} (hi : i < (blL L).length) (hx : (blL L)[i] = ((p : Int), (k : Int), 0, true)) : findI (p : Int) ((esL L).drop i) 0 = some (0, blkV (p : Int) (k : Int) 0 true) := by
  obtain ⟨e, h1, h2, h3⟩ := esL_at h hi hx
  have hl : i < (esL L).length := by rw [esL_len, ← blL_len]; exact hi
  rw [List.drop_eq_getElem_cons hl]
  rw [List.getElem?_eq_getElem hl, Option.some.injEq] at h1
  rw [h1]
  simp only [findI, h2, if_true, h3]
theorem esL_gone {L : BL} (h : FitL L) {i p k : Nat} (hi : i < (blL L).length) (hx : (blL L)[i] = ((p : Int), (k : Int), 0, true)) : findI (p : Int) ((esL L).drop (i + 1)) 0 = none := by
  refine findI_none (fun e he => ?_) 0
  obtain ⟨j, hj, rfl⟩ := List.getElem_of_mem he
  rw [List.length_drop, esL_len] at hj
  rw [List.getElem_drop]
  have hjl : i + 1 + j < (blL L).length := by rw [blL_len]; omega
  obtain ⟨p', k', g1, g2, g3, g4⟩ := blL_mem h _ (List.getElem_mem hjl)
  obtain ⟨e, h1, h2, h3⟩ := esL_at h hjl g1
  rw [List.getElem?_eq_getElem (by rw [esL_len, ← blL_len]; exact hjl), Option.some.injEq] at h1
  rw [h1]
  refine ⟨_, h2, ?_⟩
  have := (List.pairwise_iff_getElem.1 (blL_rise h) i (i + 1 + j) hi hjl (by omega)).2
  rw [g1, hx] at this
  have h9 : (p : Int) < (p' : Int) := this
  omega

def oldL (old : List Value) (p k : Nat) : List Value := old ++ blkL (p : Int) (k : Int) 0 false
def nextS (s : HS) (p k i : Nat) (old : List Value) : HS := homeS (badS (tookS s p k 0)) (i + 1) (oldL old p k)

theorem took_nice {s : HS} {i p k : Nat} {old : List Value} (h : s.Nice i old) (hlen : i * 4 = old.length) : (homeS (tookS s p k 0) (i + 1) (oldL old p k)).Nice (i + 1) (oldL old p k) := by
  refine ⟨fun ρ => ?_, h.gs, h.cs, h.ws, fun ρ => setR_map (h.bs ρ) (by simp) p k, fun ρ => ?_, h.cl, h.wl, (setR_len _ _ _ _).trans h.bl, h.n, .inr (.inl ⟨rfl, rfl, ?_⟩), fun e => by cases e⟩
  · have : ∀ e ∈ s.es, renE ρ e = e := fun e he => (List.map_inj_left.1 ((h.es ρ).trans (List.map_id _).symm)) e he
    exact (List.map_congr_left fun e he => this e (List.mem_of_mem_eraseIdx he)).trans (List.map_id _)
  · rw [oldL, List.map_append, h.pold]; simp [blkL]
  · rw [oldL, List.length_append]; show (i + 1) * 4 = old.length + 4; omega
theorem was_len {s : HS} {i : Nat} {old : List Value} (h : s.Nice i old) : i * 4 = old.length := by
  rcases h.was with ⟨_, h1, h2⟩ | ⟨_, _, h3⟩ | ⟨_, _, h1, h2⟩
  · rw [h1, h2]; rfl
  · exact h3
  · rw [h1, h2]; rfl

theorem gv_next {L : BL} (h : FitL L) {i p k : Nat} {s : HS} {old : List Value} (g : Gv L i s old) (hi : i < 1000) : Gv L (i + 1) (nextS s p k i old) (oldL old p k) := by
  have hn := took_nice (p := p) (k := k) g.nice (was_len g.nice)
  refine ⟨⟨hn.es, hn.gs, hn.cs, hn.ws, hn.bs, hn.pold, hn.cl, hn.wl, hn.bl, hn.n, .inr (.inl ⟨rfl, rfl, by have := was_len g.nice; rw [oldL, List.length_append]; show (i + 1) * 4 = old.length + 4; omega⟩), fun e => by cases e⟩, g.first, g.words, ?_, ?_, g.clock, g.gs, g.n⟩
  · show IntKind.i64.wrap (s.bad + 1) = _
    rw [g.bad, IntWalk.i64_in _ (by omega)]; omega
  · show s.es.eraseIdx 0 = _
    rw [g.es, List.eraseIdx_zero, List.tail_drop]

theorem apJ_get (l : List BV) (i : Nat) : ∀ q ∈ apJ l i, (frL (apJ l i)).get q.1 = some q.2 := fun q hq => by
  simp only [apJ, List.mem_cons, List.not_mem_nil, or_false] at hq
  rcases hq with rfl | rfl | rfl | rfl | rfl <;> (show _ = _; kernel_rfl)
theorem apJ_ren (l : List BV) (i : Nat) : ∀ q ∈ apJ l i, AH.ren (loc (pi4 15)) q.2 = q.2 := fun q hq => by
  simp only [apJ, List.mem_cons, List.not_mem_nil, or_false] at hq
  rcases hq with rfl | rfl | rfl | rfl | rfl
  · simp only [ren_ptr, renA, loc]; rfl
  · simp only [ren_ptr, renA, loc]; rfl
  · cases l with
    | nil => simp only [xv, ren_nilslice]
    | cons x r =>
      rw [xv, ren_slice]
      simp only [renA, loc]
      rw [renC_le (Nat.le_refl _)]
      rfl
  · simp only [ren_ptr, renA, loc]; rfl
  · simp only [ren_int]

theorem X15_7 (s : HS) (L : BL) (c : Int) : (mix s (X15 L c)).get 7 = xb (blL L) := by rw [mix_get, if_neg (by omega), X15_get]; rfl
theorem away_7 (s : HS) (m : Nat) (old : List Value) (L : BL) (c : Int) : (away s m old (X15 L c)).get 7 = xb (blL L) := by
  rw [away_get, if_neg (by show ¬ 15 = 7; omega), if_neg (by omega), X15_get]; rfl

/-- One block is given back, and again. -/
theorem ap_give {L : BL} (h : FitL L) (hl : L.length < 1000) (c : Int) {i p k : Nat} (s : HS) (old : List Value) (g : Gv L i s old) (hi : i < (blL L).length) (hx : (blL L)[i] = ((p : Int), (k : Int), 0, true)) (hk1 : 1 ≤ k) (hpk : p + k ≤ 128) (R : Value → St → Prop)
    (hk : VB 0 M 7 Try.f7.ntmps (.inLoop (loopC ap6) :: ap6.tail) (frL (apJ (blL L) (i + 1))) (mix (nextS s p k i old) (X15 L c)) R) : VB 0 M 7 Try.f7.ntmps k6 (frL (apJ (blL L) i)) (mix s (X15 L c)) R := by
  have hnl : (blL L).length < 1000 := by rw [blL_len]; exact hl
  have hsh : Shaped1 s.es := fun e he => by
    rw [g.es] at he
    obtain ⟨p, k, h1, h2, h3, h4, _⟩ := esL_mem h e (List.mem_of_mem_drop he)
    exact ⟨_, _, _, _, h2, h1, by omega⟩
  have hg1 := give_away (X := X15 L c) g.nice (by show 7 ≤ 15; omega) hsh (by rw [g.es]; exact esL_find h hi hx) hk1 (by rw [g.n]; exact hpk) (by omega)
  have htk := took_nice (p := p) (k := k) g.nice (was_len g.nice)
  have hnx := (gv_next h (p := p) (k := k) g (by omega)).nice
  have hes : (tookS s p k 0).es = (esL L).drop (i + 1) := by
    show s.es.eraseIdx 0 = _
    rw [g.es, List.eraseIdx_zero, List.tail_drop]
  have hg2 := lift_away (X := X15 L c) htk hnx (by show 7 ≤ 15; omega) (args2 (p : Int)) (by simp [renA, loc, pi4]) (fun ρ => by simp) (give_none (homeS (tookS s p k 0) (i + 1) (oldL old p k)) (p : Int) htk.ok (fun e he => by
    have he' : e ∈ (esL L).drop (i + 1) := hes ▸ he
    obtain ⟨p, k, h1, h2, h3, h4, _⟩ := esL_mem h e (List.mem_of_mem_drop he')
    exact ⟨_, _, _, _, h2, h1, by omega⟩) (by show findI _ (tookS s p k 0).es 0 = none; rw [hes]; exact esL_gone h hi hx))
  have hhome : VB 0 M 7 Try.f7.ntmps (.inLoop (loopC ap6) :: ap6.tail) (frL (apJ (blL L) (i + 1))) (away (badS (tookS s p k 0)) (i + 1) (oldL old p k) (X15 L c)) R :=
    VB.home (apJ (blL L) (i + 1)) hnx (by show 7 ≤ 15; omega) (X15_sc h c) (X15_live L c) (fun n hn => X15_ren h c _ (fun i h7 _ => pi4_ne (by omega)) n hn) (apJ_get _ _) (apJ_ren _ _) (apJ_sc _ _ 15 (Nat.le_refl _)) rfl hk
  refine runS_stop ev0_ok (giv := givL [(192, .q (.int .i64 ((blL L).length : Nat))), (193, .q (.bool true)), (199, .q (.pointer (some ⟨7, i * 4, none⟩))), (201, .q (.int .i64 (p : Nat))), (202, .c (.int .i64 0) (away (tookS s p k 0) (i + 1) (oldL old p k) (X15 L c))), (208, .q (.pointer (some ⟨7, i * 4, none⟩))), (210, .q (.int .i64 (p : Nat))), (211, .c (.int .i64 16) (away (badS (tookS s p k 0)) (i + 1) (oldL old p k) (X15 L c))), (195, .q (.int .i64 ((i + 1 : Nat) : Int)))]) (n := 200) Try.func7
    (.inLoop (loopC ap6) :: ap6.tail) (apJ (blL L) (i + 1)) (σ' := away (badS (tookS s p k 0)) (i + 1) (oldL old p k) (X15 L c))
    (p' := ((((((((True ∧ opQ M.toEnv (frL [(191, xv (blL L))]) (mix s (X15 L c)) (.call ⟨.builtin .len, #[.tmp 191], #[68]⟩) = some (.int .i64 ((blL L).length : Nat)))
      ∧ some (Value.bool (ltI (i : Int) (((blL L).length : Nat) : Int))) = some (.bool true))
      ∧ opQ M.toEnv (frL [(197, xv (blL L)), (198, .int .i64 (i : Nat))]) (mix s (X15 L c)) (.indexAddr 68 (.tmp 197) (.tmp 198)) = some (.pointer (some ⟨7, i * 4, none⟩)))
      ∧ ldVar T3 (mix s (X15 L c)) ⟨7, i * 4 + 0, none⟩ = some (.int .i64 (p : Nat)))
      ∧ WF M.toEnv 30 [.pointer (some ⟨0, 0, none⟩), .int .i64 (p : Nat)] (mix s (X15 L c)) (fun r σ' => r = .int .i64 0 ∧ σ' = away (tookS s p k 0) (i + 1) (oldL old p k) (X15 L c)))
      ∧ opQ M.toEnv (frL [(206, xv (blL L)), (207, .int .i64 (i : Nat))]) (away (tookS s p k 0) (i + 1) (oldL old p k) (X15 L c)) (.indexAddr 68 (.tmp 206) (.tmp 207)) = some (.pointer (some ⟨7, i * 4, none⟩)))
      ∧ ldVar T3 (away (tookS s p k 0) (i + 1) (oldL old p k) (X15 L c)) ⟨7, i * 4 + 0, none⟩ = some (.int .i64 (p : Nat)))
      ∧ WF M.toEnv 30 [.pointer (some ⟨0, 0, none⟩), .int .i64 (p : Nat)] (away (tookS s p k 0) (i + 1) (oldL old p k) (X15 L c)) (fun r σ' => r = .int .i64 16 ∧ σ' = away (badS (tookS s p k 0)) (i + 1) (oldL old p k) (X15 L c)))
      ∧ some (Value.int .i64 (IntKind.i64.wrap ((i : Int) + 1))) = some (.int .i64 ((i + 1 : Nat) : Int)))
    (by kernel_rfl) ⟨⟨⟨⟨⟨⟨⟨⟨⟨trivial, xv_len _ _ 191 (.inr (.inl rfl))⟩, ?_⟩, xv_idx (by rfl) (by rfl) hi⟩, xb_ld rfl (X15_7 _ _ _) hi (by omega) (by rw [hx]; rfl)⟩, hg1⟩, xv_idx (by rfl) (by rfl) hi⟩, xb_ld rfl (away_7 _ _ _ _ _) hi (by omega) (by rw [hx]; rfl)⟩, hg2⟩, ?_⟩ hhome
  · rw [ltI_eq, decide_eq_true (by omega)]
  · rw [IntWalk.i64_in _ (by omega)]; rfl
end
end Go.Proofs.Ytlnlopeodpamdaa.Hx
end

section
/-
  HeapApart: the end.
-/
set_option maxRecDepth 100000
set_option linter.unusedVariables false
namespace Go.Proofs.Ytlnlopeodpamdaa.Hx
open Go AH Go.Proofs
noncomputable section

theorem gensUp_ints {gs : List MapEntry} {c : Nat} {a : Int} (h : ∀ e ∈ gs, ∃ p z, e.key = .int .i64 p ∧ e.val = .int .i64 z) : ∀ e ∈ (gensUp gs c a).1, ∃ p z, e.key = .int .i64 p ∧ e.val = .int .i64 z := by
  intro e he
  unfold gensUp at he
  split at he
  · rename_i j _ _
    obtain ⟨i, hi, rfl⟩ := List.getElem_of_mem he
    simp only [List.getElem_modify]
    split
    · exact ⟨_, _, rfl, rfl⟩
    · exact h _ (List.getElem_mem _)
  · rcases List.mem_append.1 he with he | he
    · exact h e he
    · simp only [List.mem_singleton] at he
      subst he
      exact ⟨_, _, rfl, rfl⟩

theorem takeS_nice {s : HS} {m : Nat} {old : List Value} (h0 : s.Nice m old) (hgs : ∀ e ∈ s.gs, ∃ p z, e.key = .int .i64 p ∧ e.val = .int .i64 z) (p k : Nat) : (takeS s p k).Nice m old := by
  refine ⟨fun ρ => ?_, pure_mapE fun e he ρ => ?_, h0.cs, fun ρ => ?_, fun ρ => setR_map (h0.bs ρ) (by simp) _ _, h0.pold, h0.cl, ?_, (setR_len _ _ _ _).trans h0.bl, h0.n, h0.was, h0.dead⟩
  · show (s.es ++ [_]).map _ = s.es ++ [_]
    rw [List.map_append, h0.es]
    simp only [List.map_cons, List.map_nil, renE, ren_int, blkV_pure]
  · obtain ⟨p, z, h1, h2⟩ := gensUp_ints hgs e he
    rw [h1, h2]
    exact ⟨by simp, by simp⟩
  · show (putAt s.ws p (repl k [.int .u64 0])).map _ = putAt s.ws p (repl k [.int .u64 0])
    rw [putAt_map, h0.ws, repl_pure (fun ρ => by simp)]
  · show (putAt s.ws p (repl k [.int .u64 0])).length = _
    rw [putAt_length]; exact h0.wl

/-- All words are taken at once. -/
theorem ap_all {L : BL} (h : FitL L) {s : HS} {old : List Value} (g : Gv L L.length s old) (X : St) (hX : 7 ≤ X.next) (hl : L.length < 1000) :
    WF M.toEnv 27 [.pointer (some ⟨0, 0, none⟩), .int .i64 126] (mix s X) (fun r σ' => r = .tuple #[.int .i64 2, .int .i64 0] ∧ σ' = mix (takeS s 2 126) X) := by
  have hes : s.es = [] := by rw [g.es, ← esL_len, List.drop_length]
  have hgs : ∀ e ∈ s.gs, ∃ p z, e.key = .int .i64 p ∧ e.val = .int .i64 z := fun e he => by
    rw [g.gs] at he
    obtain ⟨p, h1, h2⟩ := gsL_mem L e he
    exact ⟨_, _, h1, h2⟩
  have hGd : s.Good := ⟨g.nice.ok, by rw [hes]; exact ⟨List.nodup_nil, by simp⟩, by rw [hes]; intro e he; simp at he, by rw [hes]; simp, by rw [hes]; exact List.nodup_nil, by
    rcases g.nice.was with ⟨e, _, _⟩ | ⟨e, _, _⟩ | ⟨e, _, _, _⟩
    · exact .inl e
    · exact .inr ⟨_, _, e, Nat.le_refl _⟩
    · exact .inr ⟨_, _, e, Nat.zero_le _⟩⟩
  have hblk : s.blocks = [] := by unfold HS.blocks; rw [hes]; rfl
  have hfit : Fits s (126 : Nat) := ⟨by rw [g.first]; omega, by rw [g.words]; omega, by omega, fun b hb => by rw [hblk] at hb; simp at hb⟩
  have hsg : ShapedG s.gs := fun e he => by
    rw [g.gs] at he
    obtain ⟨p, h1, h2⟩ := gsL_mem L e he
    exact ⟨_, _, h1, h2, by omega, by omega⟩
  have ht := take_ok s 126 2 126 (by omega) (by omega) (by rfl) hGd hsg hfit (by rw [hblk, g.first]; rfl) (by rw [hblk, g.first, g.words]; rfl) (by rw [g.n]; omega) (by rw [hes]; simp) g.nice.mflat (by rw [hes]; rfl)
  have hnice := takeS_nice g.nice hgs 2 126
  exact lift g.nice.ok g.nice.flat hnice.ok hnice.flat hX (args2 _) (ren2 _) (fun ρ => by simp) (.inl rfl) ht

theorem ap_last {L : BL} (h : FitL L) (hl : L.length < 1000) (c : Int) (s : HS) (old : List Value) (g : Gv L L.length s old) : VB 0 M 7 Try.f7.ntmps k6 (frL (apJ (blL L) L.length)) (mix s (X15 L c)) (fun r _ => r = .bool true) := by
  have hll : (blL L).length = L.length := blL_len L
  have hxv : ∀ σ t, (t = 122 ∨ t = 191 ∨ t = 228 ∨ t = 235) → opQ M.toEnv (frL [(t, xv (blL L))]) σ (.call ⟨.builtin .len, #[.tmp t], #[68]⟩) = some (.int .i64 (L.length : Nat)) := fun σ t ht => by rw [xv_len _ _ t ht, hll]
  refine runS_fin ev0_ok (giv := givL [(192, .q (.int .i64 (L.length : Nat))), (193, .q (.bool false)), (216, .c (.tuple #[.int .i64 2, .int .i64 0]) (mix (takeS s 2 126) (X15 L c))), (229, .q (.int .i64 (L.length : Nat))), (230, .q (.bool true)), (236, .q (.int .i64 (L.length : Nat))), (237, .q (.bool true)), (250, .c (.bool true) (mix (takeS s 2 126) (X15 L c)))]) (n := 200) Try.func7
    (v := .bool true) (σ' := mix (takeS s 2 126) (X15 L c))
    (p' := (((((((True ∧ opQ M.toEnv (frL [(191, xv (blL L))]) (mix s (X15 L c)) (.call ⟨.builtin .len, #[.tmp 191], #[68]⟩) = some (.int .i64 (L.length : Nat)))
      ∧ some (Value.bool (ltI (L.length : Int) ((L.length : Nat) : Int))) = some (.bool false))
      ∧ WF M.toEnv 27 [.pointer (some ⟨0, 0, none⟩), .int .i64 126] (mix s (X15 L c)) (fun r σ' => r = .tuple #[.int .i64 2, .int .i64 0] ∧ σ' = mix (takeS s 2 126) (X15 L c)))
      ∧ opQ M.toEnv (frL [(228, xv (blL L))]) (mix (takeS s 2 126) (X15 L c)) (.call ⟨.builtin .len, #[.tmp 228], #[68]⟩) = some (.int .i64 (L.length : Nat)))
      ∧ some (Value.bool (decide (s.bad = ((L.length : Nat) : Int)))) = some (.bool true))
      ∧ opQ M.toEnv (frL [(235, xv (blL L))]) (mix (takeS s 2 126) (X15 L c)) (.call ⟨.builtin .len, #[.tmp 235], #[68]⟩) = some (.int .i64 (L.length : Nat)))
      ∧ some (Value.bool (decide ((((esL L).length : Nat) : Int) = ((L.length : Nat) : Int)))) = some (.bool true))
      ∧ WF M.toEnv 32 [] (mix (takeS s 2 126) (X15 L c)) (fun r σ' => r = .bool true ∧ σ' = mix (takeS s 2 126) (X15 L c)))
    (by kernel_rfl) ⟨⟨⟨⟨⟨⟨⟨⟨trivial, hxv _ 191 (.inr (.inl rfl))⟩, ?_⟩, ap_all h g _ (by show 7 ≤ 15; omega) hl⟩, hxv _ 228 (.inr (.inr (.inl rfl)))⟩, ?_⟩, hxv _ 235 (.inr (.inr (.inr rfl)))⟩, ?_⟩, orc03_ok 32 [] _ _ _ rfl⟩ rfl
  · rw [ltI_eq, decide_eq_false (by omega)]
  · rw [g.bad, decide_eq_true rfl]
  · rw [esL_len, decide_eq_true rfl]

theorem ap_loop3 {L : BL} (h : FitL L) (hl : L.length < 1000) (c : Int) : VB 0 M 7 Try.f7.ntmps ap6 (frL (apJ (blL L) 0)) (mix (cpS L c) (X15 L c)) (fun r _ => r = .bool true) := by
  rw [ap6_eq]
  refine VB.loop (fun f σ => ∃ (i : Nat) (s : HS) (old : List Value), i ≤ L.length ∧ Gv L i s old ∧ f = frL (apJ (blL L) i) ∧ σ = mix s (X15 L c)) (fun f σ => L.length - (match f.get 20 with | some (.int _ j) => j.toNat | _ => 0)) ⟨0, cpS L c, [], by omega, ⟨cpS_nice h c, rfl, rfl, rfl, rfl, rfl, rfl, rfl⟩, rfl, rfl⟩ ?_
  intro f σ ⟨i, s, old, hi, g, hf, hσ⟩ ih
  subst hf; subst hσ
  have hll : (blL L).length = L.length := blL_len L
  by_cases hil : i < L.length
  · have hib : i < (blL L).length := by omega
    obtain ⟨p, k, g1, g2, g3, g4⟩ := blL_mem h _ (List.getElem_mem hib)
    have hle := offL_le h
    refine ap_give h hl c s old g hib g1 g3 (by omega) _ (ih _ _ ⟨i + 1, nextS s p k i old, oldL old p k, by omega, gv_next h g (by omega), rfl, rfl⟩ ?_)
    show L.length - (((i + 1 : Nat) : Int)).toNat < L.length - ((i : Nat) : Int).toNat
    omega
  · have e : i = L.length := by omega
    subst e
    exact ap_last h hl c s old g

/-- HeapApart, of any numbers. -/
theorem ap_vb (zs : List Value) (len cap : Nat) (hz : Ints zs) (hlen : len ≤ zs.length) (hc : cap ≤ unk) : VB 0 M 7 Try.f7.ntmps [.code (bodyC Try.f7)] (initF 0 [.slice (some ⟨0, 0, none⟩) len cap] .nil) (St.empty.push (.ro zs)) (fun r _ => r = .bool true) :=
  ap_start zs len cap hz hc _ (ap_loop hz len cap hlen _ fun L c h hl => ap_loop2 h (by omega) c _ (ap_swap h c _ (ap_loop3 h (by omega) c)))
end
end Go.Proofs.Ytlnlopeodpamdaa.Hx
end
