/-
  HeapApart: a block's words are stored; a turn of the loop that takes blocks.
-/
import Derived.Test.YtlnlopeodpamdaaLawHApart2
set_option maxRecDepth 100000
set_option linter.unusedVariables false
namespace Go.Proofs.Ytlnlopeodpamdaa.Hx
open Go AH Go.Proofs
noncomputable section

noncomputable def k1 : List Item := .code (loopC ap1) :: .inLoop (loopC ap1) :: ap1.tail
noncomputable def ap3 : List Item := pathI 200 [true, false, false] k1
theorem ap3_eq : ap3 = .code (.loop (loopC ap3)) :: ap3.tail := by kernel_rfl
def sC (ro : Blk) (k : Nat) : St := X8 ro |>.push .dead |>.push .dead |>.push (.row 89 1 (repl k [.int .u64 0]))
theorem sC_get (ro : Blk) (k i : Nat) : (sC ro k).get i = if 10 = i then .row 89 1 (repl k [.int .u64 0]) else if 9 = i then .dead else if 8 = i then .dead else if 7 = i then ro else .dead := by
  simp only [sC, X8, St.get_push]; rfl
def apI (l : Value) (i p k j : Nat) : List (Nat × Value) := [(0, l), (3, .pointer (some ⟨2, 0, none⟩)), (5, .pointer (some ⟨0, 0, none⟩)), (7, .int .i64 ((i : Nat) : Int)), (8, .int .i64 ((p : Nat) : Int)), (12, .slice (some ⟨10, 0, none⟩) k unk), (13, .int .i64 ((j : Nat) : Int))]
theorem apI_sc (n len cap i p k j : Nat) (hn : 11 ≤ n) : ∀ q ∈ apI (lS len cap) i p k j, Sc n q.2 := fun q hq => by
  simp only [apI, List.mem_cons, List.not_mem_nil, or_false] at hq
  rcases hq with rfl | rfl | rfl | rfl | rfl | rfl | rfl
  · exact Sc_slice (by show 7 < n; omega)
  · exact Sc_ptr (by show 2 < n; omega)
  · exact Sc_ptr (by show 0 < n; omega)
  · exact Sc_int _ _ _
  · exact Sc_int _ _ _
  · exact Sc_slice (by show 10 < n; omega)
  · exact Sc_int _ _ _

theorem ap_store {L : BL} {k t : Nat} (h : FitL ((k, t) :: L)) (j : Nat) (hj : j < k) (c : Int) (ro : Blk) :
    WF M.toEnv 43 [.pointer (some ⟨2, 0, none⟩), .int .i64 ((2 + offL L + j : Nat) : Int), .int .u64 (t : Int)] (mix (midS L k t j c) (sC ro k)) (fun r σ' => r = .tuple #[] ∧ σ' = mix (midS L k t (j + 1) (IntKind.i64.wrap (c + 1))) (sC ro k)) := by
  have hn := midS_nice h j c
  have hn1 := midS_nice h (j + 1) (IntKind.i64.wrap (c + 1))
  have hn2 := midS_nice h j (IntKind.i64.wrap (c + 1))
  have hle := h.2.1
  have hs := store_ok (midS L k t j c) (2 + offL L + j) (t : Int) c (.int .i64 0) [.int .i64 0, .int .i64 0, .int .i64 0, .int .i64 0, .int .i64 (-1), .bool false] (by show 2 + offL L + j < 128; omega) (bsL_free h _ (by omega) (by omega)) hn.wl hn2.ok.m hn2.mflat hn1.ok.m
  refine (liftM (s := midS L k t j c) (s' := midS L k t (j + 1) (IntKind.i64.wrap (c + 1))) (σ := mix (midS L k t j c) (sC ro k)) hn.ok.m hn.mflat hn1.ok.m hn1.mflat (by show 7 ≤ 11; omega) (by rw [mix_get, if_pos (by omega), hs_get, ms_get]; rfl) (by rw [mix_get, if_pos (by omega), hs_get, ms_get]; rfl) (by rw [mix_get, if_pos (by omega), hs_get, ms_get]; rfl) (fun u hu => ?_) (by simp [renA, loc]) (fun ρ => by simp) hs).mono fun r σ' _ ⟨e1, e2⟩ => ⟨e1, e2.trans ?_⟩
  · simp only [List.mem_cons, List.not_mem_nil, or_false] at hu
    rcases hu with rfl | rfl | rfl
    · exact Sc_ptr (by show 2 < 7; omega)
    · exact Sc_int _ _ _
    · exact Sc_int _ _ _
  · show _ = _
    kernel_rfl

theorem ro_sc {zs : List Value} (hz : Ints zs) (n : Nat) : (Blk.ro zs).sc n := sc_of_pure hz.pure n
theorem sC_sc {zs : List Value} (hz : Ints zs) (k i : Nat) (hi : 7 ≤ i) : ((sC (.ro zs) k).get i).sc 11 := by
  rw [sC_get]
  split
  · exact repl_sc (Sc_int _ _ _) k
  split
  · trivial
  split
  · trivial
  split
  · exact ro_sc hz 11
  · trivial

/-- A word of the block is stored. -/
theorem ap_inner1 {L : BL} {k t i : Nat} (h : FitL ((k, t) :: L)) (ht : t = i + 1) (hi : i < 20) (j : Nat) (hj : j < k) (c : Int) (zs : List Value) (len cap : Nat) (R : Value → St → Prop)
    (hk : VB 0 M 7 Try.f7.ntmps (.inLoop (loopC ap3) :: ap3.tail) (frL (apI (lS len cap) i (2 + offL L) k (j + 1))) (mix (midS L k t (j + 1) (IntKind.i64.wrap (c + 1))) (sC (.ro zs) k)) R) :
    VB 0 M 7 Try.f7.ntmps (.code (loopC ap3) :: .inLoop (loopC ap3) :: ap3.tail) (frL (apI (lS len cap) i (2 + offL L) k j)) (mix (midS L k t j c) (sC (.ro zs) k)) R := by
  have hle := h.2.1
  have hk1 : k ≤ 128 := by have : 2 + offL L + k ≤ 128 := hle; omega
  refine runS_stop ev0_ok (giv := givL [(103, .q (.bool true)), (108, .q (.pointer (some ⟨10, j, none⟩))), (109, .q (.int .u64 0)), (114, .q (.int .i64 ((2 + offL L + j : Nat) : Int))), (116, .q (.int .i64 ((i + 1 : Nat) : Int))), (117, .q (.int .u64 ((i + 1 : Nat) : Int))), (118, .c (.tuple #[]) (mix (midS L k t (j + 1) (IntKind.i64.wrap (c + 1))) (sC (.ro zs) k))), (105, .q (.int .i64 ((j + 1 : Nat) : Int)))]) (n := 100) Try.func7
    (.inLoop (loopC ap3) :: ap3.tail) (apI (lS len cap) i (2 + offL L) k (j + 1)) (σ' := mix (midS L k t (j + 1) (IntKind.i64.wrap (c + 1))) (sC (.ro zs) k))
    (p' := (((((((True ∧ some (Value.bool (ltI (j : Int) (k : Int))) = some (.bool true))
      ∧ (if 0 ≤ ((j : Nat) : Int) ∧ ((j : Nat) : Int) < ((k : Nat) : Int) then some (Value.pointer (some (addA ⟨10, 0, none⟩ (((j : Nat) : Int).toNat * 1)))) else none) = some (Value.pointer (some ⟨10, j, none⟩)))
      ∧ ldVar T89 (mix (midS L k t j c) (sC (.ro zs) k)) ⟨10, j, none⟩ = some (.int .u64 0))
      ∧ some (Value.int .i64 (IntKind.i64.wrap (((2 + offL L : Nat) : Int) + (j : Int)))) = some (.int .i64 ((2 + offL L + j : Nat) : Int)))
      ∧ some (Value.int .i64 (IntKind.i64.wrap ((i : Int) + 1))) = some (.int .i64 ((i + 1 : Nat) : Int)))
      ∧ some (Value.int .u64 (IntKind.u64.wrap ((i + 1 : Nat) : Int))) = some (.int .u64 ((i + 1 : Nat) : Int)))
      ∧ WF M.toEnv 43 [.pointer (some ⟨2, 0, none⟩), .int .i64 ((2 + offL L + j : Nat) : Int), .int .u64 ((i + 1 : Nat) : Int)] (mix (midS L k t j c) (sC (.ro zs) k)) (fun r σ' => r = .tuple #[] ∧ σ' = mix (midS L k t (j + 1) (IntKind.i64.wrap (c + 1))) (sC (.ro zs) k)))
      ∧ some (Value.int .i64 (IntKind.i64.wrap ((j : Int) + 1))) = some (.int .i64 ((j + 1 : Nat) : Int)))
    (by kernel_rfl) ⟨⟨⟨⟨⟨⟨⟨⟨trivial, ?_⟩, ?_⟩, ?_⟩, ?_⟩, ?_⟩, ?_⟩, ?_⟩, ?_⟩ hk
  · rw [ltI_eq, decide_eq_true (by omega)]
  · exact idx_ptr hj
  · exact ld_cell (cs := repl k [.int .u64 0]) rfl (by rw [mix_get, if_neg (by omega), sC_get, if_pos rfl]; rfl) (repl_get _ k j hj)
  · rw [IntWalk.i64_in _ (by omega)]; rfl
  · rw [IntWalk.i64_in _ (by omega)]; rfl
  · rw [IntWalk.u64_in _ (by omega)]
  · rw [← ht]; exact ap_store h j hj c (.ro zs)
  · rw [IntWalk.i64_in _ (by omega)]; rfl

theorem apF_get (l : Value) (i : Nat) : ∀ q ∈ apF l i, (frL (apF l i)).get q.1 = some q.2 := fun q hq => by
  simp only [apF, List.mem_cons, List.not_mem_nil, or_false] at hq
  rcases hq with rfl | rfl | rfl | rfl <;> (show _ = _; kernel_rfl)
theorem ap_wf {L : BL} (h : FitL L) (c : Int) {zs : List Value} (hz : Ints zs) (len cap i : Nat) : Wf (frL (apF (lS len cap) i)) (mix (apS L c) (X8 (.ro zs))) :=
  mix_wf (apS_nice h c).ok (by show 7 ≤ 8; omega) (X8_sc (ro_sc hz 8)) X8_live (apF_sc 8 len cap i (Nat.le_refl _))

theorem ap_inner {L : BL} {k t i : Nat} (h : FitL ((k, t) :: L)) (ht : t = i + 1) (hi : i < 20) (c : Int) {zs : List Value} (hz : Ints zs) (len cap : Nat) (R : Value → St → Prop)
    (hk : ∀ c', VB 0 M 7 Try.f7.ntmps (.inLoop (loopC ap1) :: ap1.tail) (frL (apF (lS len cap) (i + 1))) (mix (apS ((k, t) :: L) c') (X8 (.ro zs))) R) :
    VB 0 M 7 Try.f7.ntmps ap3 (frL (apI (lS len cap) i (2 + offL L) k 0)) (mix (midS L k t 0 c) (sC (.ro zs) k)) R := by
  rw [ap3_eq]
  refine VB.loop (fun f σ => ∃ (j : Nat) (c' : Int), j ≤ k ∧ f = frL (apI (lS len cap) i (2 + offL L) k j) ∧ σ = mix (midS L k t j c') (sC (.ro zs) k))
    (fun f σ => k - (match f.get 13 with | some (.int _ j) => j.toNat | _ => 0)) ⟨0, c, by omega, rfl, rfl⟩ ?_
  intro f σ ⟨j, c', hj, hf, hσ⟩ ih
  subst hf; subst hσ
  by_cases hjk : j < k
  · refine ap_inner1 h ht hi j hjk c' zs len cap R (ih _ _ ⟨j + 1, _, by omega, rfl, rfl⟩ ?_)
    show k - (((j + 1 : Nat) : Int)).toNat < k - ((j : Nat) : Int).toNat
    omega
  · have e : j = k := by omega
    subst e
    refine runS_stop ev0_ok (giv := givL [(103, .q (.bool false)), (46, .q (.int .i64 ((i + 1 : Nat) : Int)))]) (n := 100) Try.func7
      (.inLoop (loopC ap1) :: ap1.tail) (apF (lS len cap) (i + 1)) (σ' := mix (midS L j t j c') (sC (.ro zs) j))
      (p' := (True ∧ some (Value.bool (ltI (j : Int) (j : Int))) = some (.bool false)) ∧ some (Value.int .i64 (IntKind.i64.wrap ((i : Int) + 1))) = some (.int .i64 ((i + 1 : Nat) : Int)))
      (by kernel_rfl) ⟨⟨trivial, ?_⟩, ?_⟩ ?_
    · rw [ltI_eq, decide_eq_false (by omega)]
    · rw [IntWalk.i64_in _ (by omega)]; rfl
    · refine VB.cut (apF (lS len cap) (i + 1)) (mix (apS ((j, t) :: L) c') (X8 (.ro zs))) (apF_get _ _) rfl (ap_wf h c' hz len cap (i + 1)) (Nat.zero_le _) (fun n => ?_) (hk c')
      rw [mix_get, mix_get]
      by_cases hn : n < 7
      · rw [if_pos hn, if_pos hn]; exact .inl rfl
      · rw [if_neg hn, if_neg hn, X8_get _ _ (by omega), sC_get]
        by_cases h7 : 7 = n
        · subst h7; exact .inl rfl
        · rw [if_neg h7]; exact .inr rfl

/-- A turn of the loop in which there is no room. -/
theorem ap_turn0 {L : BL} (h : FitL L) (hl : L.length < 1000) (c : Int) {zs : List Value} (hz : Ints zs) (len cap i m k : Nat) (z : Int) (hi : i < 20) (hil : i < len) (hzi : zs[i]? = some (.int .i64 z)) (hm : m < 16) (hmz : AH.intOp .and .i64 z 15 = some (.int .i64 (m : Nat))) (hk : 1 + m + (1 + m) % 2 = k) (hroom : ¬ 2 + offL L + k ≤ 128) (R : Value → St → Prop)
    (hkn : VB 0 M 7 Try.f7.ntmps (.inLoop (loopC ap1) :: ap1.tail) (frL (apF (lS len cap) (i + 1))) (mix (apS L c) (X8 (.ro zs))) R) : VB 0 M 7 Try.f7.ntmps k1 (frL (apF (lS len cap) i)) (mix (apS L c) (X8 (.ro zs))) R := by
  refine runS_stop ev0_ok (giv := givL [(40, .q (.bool true)), (43, .q (.bool true)), (51, .q (.pointer (some ⟨7, i, none⟩))), (52, .q (.int .i64 z)), (53, .q (.int .i64 (m : Nat))), (54, .q (.int .i64 ((1 + m : Nat) : Int))), (55, .c (.tuple #[.int .i64 0, .int .i64 15]) (mix (apS L c) (X8 (.ro zs)))), (46, .q (.int .i64 ((i + 1 : Nat) : Int)))]) (n := 200) Try.func7
    (.inLoop (loopC ap1) :: ap1.tail) (apF (lS len cap) (i + 1)) (σ' := mix (apS L c) (X8 (.ro zs)))
    (p' := (((((((True ∧ some (Value.bool (ltI (i : Int) (len : Int))) = some (.bool true)) ∧ some (Value.bool (ltI (i : Int) 20)) = some (.bool true))
      ∧ (if 0 ≤ ((i : Nat) : Int) ∧ ((i : Nat) : Int) < ((len : Nat) : Int) then some (Value.pointer (some (addA ⟨7, 0, none⟩ (((i : Nat) : Int).toNat * 1)))) else none) = some (Value.pointer (some ⟨7, i, none⟩)))
      ∧ ldVar T3 (mix (apS L c) (X8 (.ro zs))) ⟨7, i, none⟩ = some (.int .i64 z))
      ∧ AH.intOp .and .i64 z 15 = some (.int .i64 (m : Nat)))
      ∧ some (Value.int .i64 (IntKind.i64.wrap (1 + (m : Int)))) = some (.int .i64 ((1 + m : Nat) : Int)))
      ∧ WF M.toEnv 27 [.pointer (some ⟨0, 0, none⟩), .int .i64 ((1 + m : Nat) : Int)] (mix (apS L c) (X8 (.ro zs))) (fun r σ' => r = .tuple #[.int .i64 0, .int .i64 15] ∧ σ' = mix (apS L c) (X8 (.ro zs))))
      ∧ some (Value.int .i64 (IntKind.i64.wrap ((i : Int) + 1))) = some (.int .i64 ((i + 1 : Nat) : Int)))
    (by kernel_rfl) ⟨⟨⟨⟨⟨⟨⟨⟨trivial, ?_⟩, ?_⟩, ?_⟩, ?_⟩, hmz⟩, ?_⟩, ?_⟩, ?_⟩ hkn
  · rw [ltI_eq, decide_eq_true (by omega)]
  · rw [ltI_eq, decide_eq_true (by omega)]
  · exact idx_ptr hil
  · exact ld_cell (cs := zs) rfl (by rw [mix_get, if_neg (by omega), X8_get _ _ (by omega), if_pos rfl]; rfl) hzi
  · rw [IntWalk.i64_in _ (by omega)]; rfl
  · exact ap_full h c m k hm hk hl hroom (X8 (.ro zs)) (by show 7 ≤ 8; omega)
  · rw [IntWalk.i64_in _ (by omega)]; rfl
end
end Go.Proofs.Ytlnlopeodpamdaa.Hx
