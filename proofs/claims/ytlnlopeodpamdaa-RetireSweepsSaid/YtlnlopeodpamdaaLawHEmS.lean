/-
  The texts HBnd0, HBnd1, HBase, HEm, HEmS, joined.
-/
import Derived.Test.YtlnlopeodpamdaaLawHSwp4
section
/-
  RetireBound: slots, bounds, one.
-/
set_option maxRecDepth 100000
set_option linter.unusedVariables false
namespace Go.Proofs.Ytlnlopeodpamdaa.Hx
open Go AH Go.Proofs
noncomputable section

/-- What a function of ground arguments comes to, by reckoning. -/
def callV (call : CallF) (K : Nat) (args : List Value) : Option Value := match call K args St.empty with | some (v, _) => some v | none => none
theorem callV_ok {call : CallF} (hc : CallOk M call) {K : Nat} {args : List Value} {v : Value} (h : callV call K args = some v) (ha : ∀ a ∈ args, ∀ ρ : Nat → AH.Loc, AH.ren ρ a = a) (hv : ∀ ρ, AH.ren ρ v = v) (σ : St) : WF M.toEnv K args σ (fun r σ' => r = v ∧ σ' = σ) := by
  refine WF.anyw ha hv ?_ σ
  unfold callV at h
  split at h
  · rename_i u σ' heq
    simp only [Option.some.injEq] at h
    subst h
    exact (hc _ _ _ _ _ heq).mono fun r σ' _ e => e.1
  · cases h
def evN : CallF := ev3 M noOrc 100000 50
theorem evN_ok : CallOk M evN := ev3_sound (noOrc_ok M) 100000 50
/-- Slots. -/
theorem slot_ok (a b : Nat) (ha : a < 2) (hb : b < 2) (σ : St) : WF M.toEnv 59 [.agg #[.int .i64 0, .int .i64 2, .int .i64 2], .int .i64 (a : Nat), .int .i64 (b : Nat)] σ (fun r σ' => r = .int .i64 ((2 * a + b : Nat) : Int) ∧ σ' = σ) := by
  have h : a = 0 ∨ a = 1 := by omega
  have h' : b = 0 ∨ b = 1 := by omega
  refine callV_ok evN_ok ?_ (fun v hv ρ => ?_) (fun ρ => by simp) σ
  · rcases h with rfl | rfl <;> rcases h' with rfl | rfl
    · kernel_rfl
    · kernel_rfl
    · kernel_rfl
    · kernel_rfl
  · simp only [List.mem_cons, List.not_mem_nil, or_false] at hv
    rcases hv with rfl | rfl | rfl <;> simp
theorem bound_ok (m : Nat) (hm : m < 4) (σ : St) : WF M.toEnv 60 [.int .i64 2, .int .i64 2, .int .i64 ((1 + m : Nat) : Int)] σ (fun r σ' => r = .int .i64 ((2 * (5 + m) : Nat) : Int) ∧ σ' = σ) := by
  have h : m = 0 ∨ m = 1 ∨ m = 2 ∨ m = 3 := by omega
  refine callV_ok evN_ok ?_ (fun v hv ρ => ?_) (fun ρ => by simp) σ
  · rcases h with rfl | rfl | rfl | rfl
    · kernel_rfl
    · kernel_rfl
    · kernel_rfl
    · kernel_rfl
  · simp only [List.mem_cons, List.not_mem_nil, or_false] at hv
    rcases hv with rfl | rfl | rfl <;> simp
theorem bound0 (σ : St) : WF M.toEnv 60 [.int .i64 0, .int .i64 1, .int .i64 1] σ (fun r σ' => r = .int .i64 0 ∧ σ' = σ) :=
  callV_ok evN_ok (by kernel_rfl) (fun v hv ρ => by simp only [List.mem_cons, List.not_mem_nil, or_false] at hv; rcases hv with rfl | rfl | rfl <;> simp) (fun ρ => by simp) σ
theorem bound1 (σ : St) : WF M.toEnv 60 [.int .i64 1, .int .i64 1, .int .i64 65537] σ (fun r σ' => r = .int .i64 0 ∧ σ' = σ) :=
  callV_ok evN_ok (by kernel_rfl) (fun v hv ρ => by simp only [List.mem_cons, List.not_mem_nil, or_false] at hv; rcases hv with rfl | rfl | rfl <;> simp) (fun ρ => by simp) σ
theorem oneB58 : isT (ev3 M noOrc 100000 50 58 [] St.empty) = true := by kernel_rfl
theorem one_ok (σ : St) : WF M.toEnv 58 [] σ (fun r σ' => r = .bool true ∧ σ' = σ) := by
  refine WF.anywhere (by simp) ?_ σ
  have h := oneB58
  unfold isT at h
  split at h
  · rename_i b σ₁ hcall
    subst h
    exact (evN_ok _ _ _ _ _ hcall).mono fun r σ' _ e => e.1
  · cases h
end
end Go.Proofs.Ytlnlopeodpamdaa.Hx
end

section
/-
  RetireBound: behind a sweep; slots; stores.
-/
set_option maxRecDepth 100000
set_option linter.unusedVariables false
namespace Go.Proofs.Ytlnlopeodpamdaa.Hx
open Go AH Go.Proofs
noncomputable section

/-- Beside the heap, behind a sweep: retire's operation is there still. -/
def XRo (fm fd : Int) (l0 l1 : List Nat) (inp : Blk) (k : Int) (d : Nat) : St := XR fm fd l0 l1 inp |>.push (opB k true (d : Nat)) |>.push .dead |>.push .dead |>.push .dead
theorem XRo_get (fm fd : Int) (l0 l1 : List Nat) (inp : Blk) (k : Int) (d : Nat) (i : Nat) : (XRo fm fd l0 l1 inp k d).get i = if 16 = i then .dead else if 15 = i then .dead else if 14 = i then .dead else if 13 = i then opB k true (d : Nat) else (XR fm fd l0 l1 inp).get i := by
  rw [XRo, St.get_push, St.get_push, St.get_push, St.get_push]; rfl
theorem XRo_all (fm fd : Int) (l0 l1 : List Nat) (inp : Blk) (k : Int) (d : Nat) (i : Nat) (hi : 7 ≤ i) : (XRo fm fd l0 l1 inp k d).get i = if 16 = i then .dead else if 15 = i then .dead else if 14 = i then .dead else if 13 = i then opB k true (d : Nat) else if 12 = i then gB else if 11 = i then inp else if 10 = i then lr l1 else if 9 = i then lr l0 else if 8 = i then .cells 86 [lv 9 l0, lv 10 l1] else if 7 = i then lsB fm fd else .dead := by
  rw [XRo_get, XR_get _ _ _ _ _ _ hi]
theorem XRo_beside (fm fd : Int) (l0 l1 : List Nat) {inp : Blk} (hs : ∀ n, inp.sc n) (hr : ∀ ρ, renB ρ inp = inp) (k : Int) (d : Nat) : Beside (XRo fm fd l0 l1 inp k d) := by
  refine Bes.home (n := 17) ?_ rfl
  exact ((((XR_bes 17 (by omega) fm fd l0 l1 hs hr).push (by show 13 < 17; omega) (Fix.opB (by omega) _ _ _)).push (by show 14 < 17; omega) (Fix.dead _)).push (by show 15 < 17; omega) (Fix.dead _)).push (by show 16 < 17; omega) (Fix.dead _)

def l0Of (v : Bool) (left l0 : List Nat) : List Nat := bif v then l0 else left
def l1Of (v : Bool) (left l1 : List Nat) : List Nat := bif v then left else l1

theorem YG_get (v : Bool) (fm fd : Int) (l0 l1 : List Nat) (inp : Blk) (p : Int) (N : Nat) (Q : List Int) (A B : Blk) (left : List Nat) (d i : Nat) : (YG v fm fd l0 l1 inp p N Q A B left d).get i = if 13 = i then opB (kOf v) true (d : Nat) else if 8 = i then .cells 86 (bif v then [lv 9 l0, lv 22 left] else [lv 22 left, lv 10 l1]) else if 22 = i then lr left else if 21 = i then .cells 87 [mv 20 Q] else if 20 = i then mr Q else if 19 = i then .dead else (XU fm fd l0 l1 inp (kOf v) p N Q A B).get i := by
  rw [YG, YE, YL, St.get_set, St.get_set, YB_get]

def piG (v : Bool) (i : Nat) : Nat := if i = 4 then 23 else if i = NOf v then 22 else i
theorem VB.toXRo (v : Bool) {K : FuncId} {nt : Nat} {k : List Item} {f : Fr} {R : Value → St → Prop} {s : HS} {m : Nat} {old : List Value} {fm fd : Int} {l0 l1 : List Nat} {inp : Blk} {p : Int} {N : Nat} {Q : List Int} {A B : Blk} {left : List Nat} {d : Nat} (l : List (Nat × Value)) (h : s.Nice m old) (hw : WasA s m old) (his : ∀ n, inp.sc n) (hir : ∀ ρ, renB ρ inp = inp)
    (hl : ∀ p ∈ l, f.get p.1 = some p.2) (hlr : ∀ p ∈ l, AH.ren (loc (piG v)) p.2 = p.2) (hls : ∀ p ∈ l, Sc 17 p.2) (hd : f.df = [])
    (hk : VB 0 M K nt k (frL l) (mix s (XRo fm fd (l0Of v left l0) (l1Of v left l1) inp (kOf v) d)) R) : VB 0 M K nt k f (fr s m old (YG v fm fd l0 l1 inp p N Q A B left d)) R := by
  have hNv : NOf v = 9 ∨ NOf v = 10 := by cases v <;> simp [NOf]
  have hfx : ∀ i, i ≠ 4 → i ≠ 9 → i ≠ 10 → piG v i = i := fun i h1 h2 h3 => by unfold piG; rw [if_neg h1, if_neg (by omega)]
  have h4 : piG v 4 = 23 := rfl
  refine VB.toY (piG v) l h (XRo_beside fm fd _ _ his hir (kOf v) d) (Nat.zero_le _) (fun i hi => absurd hi (Nat.not_lt_zero _)) (fun i j hi hj e => ?_) (fun i hi hlv => ?_) hl hlr hls hd hk
  · have h1 : i < 17 := hi
    have h2 : j < 17 := hj
    unfold piG at e
    split at e <;> split at e <;> (try split at e) <;> (try split at e) <;> omega
  · have h17 : i < 17 := hi
    rw [mix_get] at hlv ⊢
    by_cases h7 : i < 7
    · rw [if_pos h7] at hlv ⊢
      by_cases hi4 : i = 4
      · subst hi4
        rw [hs_get]
        show _ = renB _ s.wb
        rw [h4, fr_get, if_neg (by omega), if_pos (by rfl), hw.wb, wbA_ren h.pold]
      · rw [hfx i hi4 (by omega) (by omega), fr_get, if_pos h7, aw_home hw i hi4]
        have e := aw_ren h 4 (piG v) (fun i hi h4 => hfx i h4 (by omega) (by omega)) i hi4
        rw [h4] at e
        exact e
    · rw [if_neg h7] at hlv ⊢
      rw [XRo_all _ _ _ _ _ _ _ _ (by omega)] at hlv ⊢
      have hg : ∀ j, 7 ≤ j → j < 23 → (fr s m old (YG v fm fd l0 l1 inp p N Q A B left d)).get j = if 13 = j then opB (kOf v) true (d : Nat) else if 8 = j then .cells 86 (bif v then [lv 9 l0, lv 22 left] else [lv 22 left, lv 10 l1]) else if 22 = j then lr left else if 21 = j then .cells 87 [mv 20 Q] else if 20 = j then mr Q else if 19 = j then .dead else if 18 = j then B else if 17 = j then A else if 16 = j then hpO 4 p (mv N Q) true else if 15 = j then .dead else if 14 = j then .dead else if 13 = j then opB (kOf v) true 0 else if 12 = j then gB else if 11 = j then inp else if 10 = j then lr l1 else if 9 = j then lr l0 else if 8 = j then .cells 86 [lv 9 l0, lv 10 l1] else if 7 = j then lsB fm fd else .dead := fun j hj h23 => by
        rw [fr_get, if_neg (show ¬ j < 7 by omega), if_neg (by show ¬ 23 = j; omega), YG_get, XU_all, XR_get _ _ _ _ _ _ hj]
      have h6 : i = 16 ∨ i = 15 ∨ i = 14 ∨ i = 13 ∨ i = 12 ∨ i = 11 ∨ i = 10 ∨ i = 9 ∨ i = 8 ∨ i = 7 := by omega
      rcases h6 with rfl | rfl | rfl | rfl | rfl | rfl | rfl | rfl | rfl | rfl
      · cases hlv
      · cases hlv
      · cases hlv
      · rw [hfx 13 (by omega) (by omega) (by omega), hg 13 (by omega) (by omega)]
        show opB _ _ _ = renB _ (opB _ _ _)
        simp only [opB, renB, List.map_cons, List.map_nil, ren_int, ren_ptr, ren_bool, renA, loc, hfx 7 (by omega) (by omega) (by omega), hfx 16 (by omega) (by omega) (by omega)]
      · rw [hfx 12 (by omega) (by omega) (by omega), hg 12 (by omega) (by omega)]
        show gB = renB _ gB
        simp [gB, renB]
      · rw [hfx 11 (by omega) (by omega) (by omega), hg 11 (by omega) (by omega)]
        show inp = renB _ inp
        rw [hir]
      · show _ = renB _ (lr (l1Of v left l1))
        rw [lr_ren]
        cases v
        · show (fr _ _ _ _).get 10 = lr l1
          rw [hg 10 (by omega) (by omega)]; rfl
        · show (fr _ _ _ _).get 22 = lr left
          rw [hg 22 (by omega) (by omega)]; rfl
      · show _ = renB _ (lr (l0Of v left l0))
        rw [lr_ren]
        cases v
        · show (fr _ _ _ _).get 22 = lr left
          rw [hg 22 (by omega) (by omega)]; rfl
        · show (fr _ _ _ _).get 9 = lr l0
          rw [hg 9 (by omega) (by omega)]; rfl
      · rw [hfx 8 (by omega) (by omega) (by omega), hg 8 (by omega) (by omega)]
        show Blk.cells 86 _ = renB _ (Blk.cells 86 [lv 9 (l0Of v left l0), lv 10 (l1Of v left l1)])
        simp only [renB, List.map_cons, List.map_nil, lv_ren]
        cases v <;> rfl
      · rw [hfx 7 (by omega) (by omega) (by omega), hg 7 (by omega) (by omega)]
        show lsB fm fd = renB _ (lsB fm fd)
        simp only [lsB, renB, List.map_cons, List.map_nil, ren_int, ren_ptr, ren_slice, renA, loc, hfx 0 (by omega) (by omega) (by omega), hfx 8 (by omega) (by omega) (by omega)]
        rw [renC_le (by unfold unk; omega)]

/-- Of, behind a sweep. -/
theorem ofo (v : Bool) (s : HS) (fm fd : Int) (l0 l1 : List Nat) (inp : Blk) (d : Nat) (hl : (lOf v l0 l1).length ≤ 1000000) :
    WF M.toEnv 50 [.pointer (some ⟨7, 0, none⟩), .int .i64 (kOf v)] (mix s (XRo fm fd l0 l1 inp (kOf v) d)) (fun r σ' => r = lv 18 (lOf v l0 l1) ∧ σ' = ofS (mix s (XRo fm fd l0 l1 inp (kOf v) d)) (lOf v l0 l1)) := by
  cases v with
  | false =>
    exact WF.run ev0_ok (giv := givL [(16, .c (lv 18 l0) (ofS (mix s (XRo fm fd l0 l1 inp 0 d)) l0))]) (n := 200) (fn := Try.f50)
      (p' := True ∧ WF M.toEnv 93 [lv 9 l0] (mix s (XRo fm fd l0 l1 inp 0 d)) (fun r σ' => r = lv 18 l0 ∧ σ' = ofS (mix s (XRo fm fd l0 l1 inp 0 d)) l0)) Try.func50 rfl (by kernel_rfl) ⟨trivial, clone93 (σ := mix s (XRo fm fd l0 l1 inp 0 d)) (by show 9 < 17; omega) (by rw [mix_get, if_neg (by omega), XRo_all _ _ _ _ _ _ _ _ (by omega)]; rfl) hl⟩
  | true =>
    exact WF.run ev0_ok (giv := givL [(16, .c (lv 18 l1) (ofS (mix s (XRo fm fd l0 l1 inp 1 d)) l1))]) (n := 200) (fn := Try.f50)
      (p' := True ∧ WF M.toEnv 93 [lv 10 l1] (mix s (XRo fm fd l0 l1 inp 1 d)) (fun r σ' => r = lv 18 l1 ∧ σ' = ofS (mix s (XRo fm fd l0 l1 inp 1 d)) l1)) Try.func50 rfl (by kernel_rfl) ⟨trivial, clone93 (σ := mix s (XRo fm fd l0 l1 inp 1 d)) (by show 10 < 17; omega) (by rw [mix_get, if_neg (by omega), XRo_all _ _ _ _ _ _ _ _ (by omega)]; rfl) hl⟩

theorem cnt_self {s : HS} {c0 c1 : Int} (h : s.cs = csT c0 c1) : cnt s c0 c1 = s := by
  cases s
  simp only at h
  subst h
  rfl
theorem store_XR {s : HS} (fm fd : Int) (l0 l1 : List Nat) (inp : Blk) (c0 c1 : Int) (hc : s.cs = csT c0 c1) (a : Nat) (v : Int) (ha : a < s.n + 1) (hb : s.bs[a]? = some (.bool false)) (h0 : s.MOk) (f0 : s.MFlat) :
    WF M.toEnv 43 [.pointer (some ⟨2, 0, none⟩), .int .i64 a, .int .u64 v] (mix s (XR fm fd l0 l1 inp)) (fun r σ' => r = .tuple #[] ∧ σ' = mix (putW (cnt s c0 (IntKind.i64.wrap (c1 + 1))) a v) (XR fm fd l0 l1 inp)) :=
  (store_any (s := s) (σ := mix s (XR fm fd l0 l1 inp)) c0 c1 a v ha hb h0 f0 (by show 7 ≤ 13; omega) (by rw [cnt_self hc, mix_get, if_pos (by omega), hs_get, ms_get]; rfl) (by rw [mix_get, if_pos (by omega), hs_get, ms_get]; rfl) (by rw [mix_get, if_pos (by omega), hs_get, ms_get]; rfl)).mono fun r σ' _ ⟨e1, e2⟩ => ⟨e1, e2.trans (by kernel_rfl)⟩
theorem putW_hp2 {s : HS} {ks : List Nat} {c m : Nat} {old : List Value} (h : Hp2 s ks c m old) (a : Nat) (v : Int) : Hp2 (putW s a v) ks c m old :=
  ⟨⟨h.nice.es, h.nice.gs, h.nice.cs, fun ρ => (putAt_map _ _ _ _).trans (by rw [h.nice.ws, List.map_cons, List.map_nil, ren_int]; rfl), h.nice.bs, h.nice.pold, h.nice.cl, (putAt_length _ _ _).trans h.nice.wl, h.nice.bl, h.nice.n, h.nice.was, h.nice.dead⟩, h.first, h.words, h.n, h.es, h.keys, h.nd, h.st, h.gs, h.cb, h.free⟩

end
end Go.Proofs.Ytlnlopeodpamdaa.Hx
end

section
/-
  What RetireBound and RetireSweeps have in common.
-/
set_option maxRecDepth 100000
set_option linter.unusedVariables false
namespace Go.Proofs.Ytlnlopeodpamdaa.Hx
open Go AH Go.Proofs
noncomputable section

def hdI (l : List Item) : List Item := match l with | .code (.loop c) :: t => .code c :: .inLoop c :: t | x => x
theorem ltF {x y : Int} (h : ¬ x < y) : some (Value.bool (ltI x y)) = some (.bool false) := by rw [ltI_eq, decide_eq_false h]
theorem ltT {x y : Int} (h : x < y) : some (Value.bool (ltI x y)) = some (.bool true) := by rw [ltI_eq, decide_eq_true h]
theorem and_maskE (x m : Int) (j : Nat) (hj : j < 63) (hm : (BitVec.ofInt 64 m).toNat = 2 ^ j - 1) : AH.intOp .and .i64 x m = some (.int .i64 (((BitVec.ofInt 64 x).toNat % 2 ^ j : Nat) : Int)) := by
  show some (Value.int .i64 (IntKind.i64.wrap (((BitVec.ofInt 64 x) &&& (BitVec.ofInt 64 m)).toNat : Nat))) = _
  rw [BitVec.toNat_and, hm, Nat.and_two_pow_sub_one_eq_mod]
  have h1 : (BitVec.ofInt 64 x).toNat % 2 ^ j < 2 ^ j := Nat.mod_lt _ (Nat.two_pow_pos j)
  have h2 : 2 ^ j ≤ 2 ^ 62 := Nat.pow_le_pow_right (by omega) (by omega)
  have h3 : (2 : Nat) ^ 62 = 4611686018427387904 := rfl
  rw [IntWalk.i64_in _ (by omega)]
/-- The numbers of a round: list, slot's halves, word. -/
structure Nums (z1 z2 : Int) (v : Bool) (a b c : Nat) (y : Int) : Prop where
  e1 : AH.intOp .and .i64 z1 1 = some (.int .i64 (kOf v))
  e2 : AH.intOp .and .i64 z2 3 = some (.int .i64 ((2 * a + b : Nat) : Int))
  e3 : AH.shOp .shr .i64 ((2 * a + b : Nat) : Int) 1 = some (.int .i64 (a : Nat))
  e4 : AH.intOp .and .i64 z2 1 = some (.int .i64 (b : Nat))
  e5 : AH.shOp .shr .i64 z2 2 = some (.int .i64 y)
  e6 : AH.intOp .and .i64 y 31 = some (.int .i64 (c : Nat))
  a : a < 2
  b : b < 2
  c : c < 32
theorem nums (z1 z2 : Int) : ∃ v a b c y, Nums z1 z2 v a b c y := by
  have h1 := and_maskE z1 1 1 (by omega) (by decide)
  have h2 := and_maskE z2 3 2 (by omega) (by decide)
  have h4 := and_maskE z2 1 1 (by omega) (by decide)
  obtain ⟨c, hc, h6⟩ := and_mask (z2.fdiv (2 ^ (min (Int.toNat 2) 64))) 31 5 (by omega) (by decide)
  generalize (BitVec.ofInt 64 z2).toNat = n at h2 h4
  generalize (BitVec.ofInt 64 z1).toNat = n1 at h1
  refine ⟨decide (n1 % 2 = 1), n % 4 / 2, n % 2, c, z2.fdiv (2 ^ (min (Int.toNat 2) 64)), ?_, ?_, ?_, ?_, rfl, h6, by omega, by omega, hc⟩
  · rw [h1]
    have : n1 % 2 ^ 1 = 0 ∨ n1 % 2 ^ 1 = 1 := by omega
    rcases this with e | e
    · rw [e, decide_eq_false (by omega)]; rfl
    · rw [e, decide_eq_true (by omega)]; rfl
  · rw [h2]; congr 3; omega
  · show some (Value.int .i64 ((((2 * (n % 4 / 2) + n % 2 : Nat) : Int)).fdiv (2 ^ (min (Int.toNat 1) 64)))) = _
    have e : ((2 : Int) ^ (min (Int.toNat 1) 64)) = 2 := by decide
    rw [e, Int.fdiv_eq_ediv_of_nonneg _ (by omega)]
    congr 2; omega
  · rw [h4]
theorem bd_idx {i len : Nat} (h : i < len) : (if 0 ≤ ((i : Nat) : Int) ∧ ((i : Nat) : Int) < ((len : Nat) : Int) then some (Value.pointer (some (addA ⟨11, 0, none⟩ (((i : Nat) : Int).toNat * 3)))) else none) = some (Value.pointer (some ⟨11, i * 3, none⟩)) := by
  rw [if_pos ⟨by omega, by omega⟩, Int.toNat_natCast]
  unfold addA
  split
  · rename_i h0; rw [h0]
  · show some (Value.pointer (some ⟨11, 0 + i * 3, none⟩)) = _
    rw [Nat.zero_add]
def addedV (v : Bool) (s : HS) (fm fd : Int) (l0 l1 : List Nat) (inp : Blk) (p : Nat) : St := bif v then added1 s fm fd l0 l1 inp p else added0 s fm fd l0 l1 inp p
theorem due_ok (v : Bool) (s : HS) (fm fd : Int) (l0 l1 : List Nat) (inp : Blk) : WF M.toEnv 49 [.pointer (some ⟨7, 0, none⟩), .int .i64 (kOf v)] (mix s (XR fm fd l0 l1 inp)) (fun r σ' => r = .bool (decide (fm ≤ ((lOf v l0 l1).length : Int))) ∧ σ' = mix s (XR fm fd l0 l1 inp)) := by
  cases v
  · exact due0 s fm fd l0 l1 inp
  · exact due1 s fm fd l0 l1 inp
theorem pi1719_ne {i : Nat} (h : i ≠ 17) : pi1719 i = i := by unfold pi1719; rw [if_neg h]
def othOf (v : Bool) (l0 l1 : List Nat) : List Nat := bif v then l0 else l1
theorem perm_v (v : Bool) (l0 l1 : List Nat) : (lOf v l0 l1 ++ othOf v l0 l1).Perm (l0 ++ l1) := by
  cases v
  · exact List.Perm.refl _
  · exact List.perm_append_comm
theorem perm_left (v : Bool) (left l0 l1 : List Nat) : (left ++ othOf v l0 l1).Perm (l0Of v left l0 ++ l1Of v left l1) := by
  cases v
  · exact List.Perm.refl _
  · exact List.perm_append_comm
def S46 (v : Bool) (s : HS) (fm fd : Int) (l0 l1 : List Nat) (inp : Blk) : St := mix s (XR fm fd l0 l1 inp |>.push (opB (kOf v) false 0) |>.push gB |>.push gB |>.push (hpO 0 0 (.slice none 0 0) false))
def evO : CallF := ev3 M orc 100000 40
theorem evO_ok : CallOk M evO := ev3_sound orc_ok 100000 40
def stOf (r : Option RS) : St := match r with | some (.stop _ _ σ _) => σ | _ => St.empty
def s0R : HS := { first := 4, words := 60, bad := 0, es := [], clock := 0, gs := [], gclock := 0, wv := .slice none 0 0, wb := .dead, cs := csT 0 4, n := 63, ws := repl 64 [.int .u64 0], bs := setR (.bool true) (repl 64 [.bool false]) 4 60, row := false }
theorem add_ok (v : Bool) (s : HS) (fm fd : Int) (l0 l1 : List Nat) (inp : Blk) (p : Nat) (h0 : l0.length ≤ 1000000) (h1 : l1.length ≤ 1000000) :
    WF M.toEnv 48 [.pointer (some ⟨7, 0, none⟩), .int .i64 (kOf v), .slice (some ⟨13, 0, none⟩) 1 1] (mix s (XR fm fd l0 l1 inp |>.push (.cells 3 [.int .i64 (p : Int)]))) (fun r σ' => r = .int .i64 0 ∧ σ' = addedV v s fm fd l0 l1 inp p) := by
  cases v
  · exact add0 s fm fd l0 l1 inp p h0
  · exact add1 s fm fd l0 l1 inp p h1
def piA (v : Bool) (i : Nat) : Nat := if i = NOf v then 14 else i
theorem zs_at {zs : List Value} (hz : Ints zs) {j : Nat} (h : j < zs.length) : ∃ z : Int, zs[j]? = some (.int .i64 z) := by
  obtain ⟨z, hz'⟩ := hz _ (List.getElem_mem h)
  exact ⟨z, by rw [List.getElem?_eq_getElem h, hz']⟩
theorem s0R_nice : s0R.Nice 0 [] := ⟨fun ρ => rfl, fun ρ => rfl, fun ρ => csT_pure 0 4 ρ, fun ρ => repl_pure (fun ρ => by simp) _ ρ, fun ρ => setR_map (repl_pure (fun ρ => by simp) _ ρ) (by simp) _ _, fun ρ => rfl, rfl, by show (repl 64 _).length = 64; rw [repl_len], by show (setR _ _ _ _).length = 64; rw [setR_len, repl_len], by show 63 < 1000000; omega, .inl ⟨rfl, rfl, rfl⟩, fun _ => rfl⟩
theorem s0R_hp : Hp2 s0R [] 0 0 [] := ⟨s0R_nice, rfl, rfl, rfl, fun e he => by simp [s0R] at he, rfl, List.nodup_nil, ⟨List.Pairwise.nil, fun e he => by simp [s0R] at he⟩, fun e he => by simp [s0R] at he, by omega, fun a ha => by
  show (setR _ _ _ _)[a]? = _
  rw [setR_get _ _ _ _ _ (by rw [repl_len]; omega), if_neg (by omega), repl_get _ _ _ (by omega)]⟩
theorem s0R_was : WasA s0R 0 [] := ⟨rfl, rfl, rfl⟩
def piS (i : Nat) : Nat := [18, 16, 4, 17, 1, 2, 3, 22, 21, 5, 6, 0, 23].getD i 0
theorem piS_inj : ∀ i, i < 13 → ∀ j, j < 13 → piS i = piS j → i = j := by decide
end
end Go.Proofs.Ytlnlopeodpamdaa.Hx
end

section
/-
  A small state in a greater one, where calls may be made one behind the other; blocks that are put between.
-/
set_option maxRecDepth 100000
set_option linter.unusedVariables false
namespace Go.Proofs.Ytlnlopeodpamdaa.Hx
open Go AH Go.Proofs
noncomputable section

theorem Tr_map_map {α : Type} (g h : α → α) : ∀ t : Tr α, (t.map g).map h = t.map (fun x => h (g x))
  | .leaf => rfl
  | .node l v r => by
    show Tr.node ((l.map g).map h) ((v.map g).map h) ((r.map g).map h) = _
    rw [Tr_map_map g h l, Tr_map_map g h r, Option.map_map]
    rfl
theorem renB_comp (ρ : Nat → AH.Loc) (π : Nat → Nat) (B : Blk) : renB ρ (renB (loc π) B) = renB (fun i => ρ (π i)) B := by
  cases B with
  | cells e cs => simp only [renB, List.map_map, Function.comp_def, ren_comp]
  | row e sz cs => simp only [renB, List.map_map, Function.comp_def, ren_comp]
  | ro cs => simp only [renB, List.map_map, Function.comp_def, ren_comp]
  | map es c => simp only [renB, List.map_map, Function.comp_def, renE_comp]
  | miter m a b c => simp only [renB, Option.map_map, Function.comp_def, loc]
  | siter s p => rfl
  | loop st p fn nt f ps x y =>
    simp only [renB, Tr_map_map, ren_comp]
  | dfr => rfl
  | dead => rfl
theorem renB_sc_eq {B : Blk} {n : Nat} (h : B.sc n) {π π' : Nat → Nat} (he : ∀ i, i < n → π i = π' i) : renB (loc π) B = renB (loc π') B := by
  have hv : ∀ v, Sc n v → AH.ren (loc π) v = AH.ren (loc π') v := fun v hv => hv _ _ fun i hi => by simp [loc, he i hi]
  cases B with
  | cells e cs => simp only [renB, Blk.cells.injEq, true_and]; exact List.map_congr_left fun v hm => hv v (h v hm)
  | row e sz cs => simp only [renB, Blk.row.injEq, true_and]; exact List.map_congr_left fun v hm => hv v (h v hm)
  | ro cs => simp only [renB, Blk.ro.injEq]; exact List.map_congr_left fun v hm => hv v (h v hm)
  | map es c =>
    simp only [renB, Blk.map.injEq, and_true]
    refine List.map_congr_left fun e he' => ?_
    simp only [renE, hv _ (h e he').1, hv _ (h e he').2]
  | miter m a b c =>
    cases m with
    | none => rfl
    | some m =>
      have hm : m < n := h
      simp only [renB, Option.map_some, loc, he m hm]
  | siter s p => rfl
  | loop st p fn nt f ps x y =>
    have := renB_exN (π := π) (n₀ := n) (n := 0) h
    have h2 := renB_exN (π := π') (n₀ := n) (n := 0) h
    rw [← this, ← h2]
    have e : ∀ i, exN π n 0 i = exN π' n 0 i := fun i => by
      unfold exN
      split
      · rename_i hi; exact he i hi
      · rfl
    rw [show exN π n 0 = exN π' n 0 from funext e]
  | dfr => rfl
  | dead => rfl

/-- Blocks of one state are in another one. -/
structure Em (π : Nat → Nat) (S T : St) : Prop where
  lt : ∀ i, i < S.next → π i < T.next
  inj : ∀ i j, (S.get i).live = true → (S.get j).live = true → π i = π j → i = j
  get : ∀ i, (S.get i).live = true → T.get (π i) = renB (loc π) (S.get i)
structure Ok (S : St) : Prop where
  sc : ∀ i, (S.get i).sc S.next
  out : ∀ i, (S.get i).live = true → i < S.next
theorem Em.small {π : Nat → Nat} {S T : St} (h : Em π S T) (hs : Ok S) : Small π S T := ⟨h.lt, h.inj, h.get, hs.sc, hs.out⟩
theorem Em.trans {π ρ : Nat → Nat} {S T U : St} (h : Em π S T) (g : Em ρ T U) : Em (fun i => ρ (π i)) S U := by
  have hl : ∀ i, (S.get i).live = true → (T.get (π i)).live = true := fun i hi => by rw [h.get i hi, renB_live]; exact hi
  refine ⟨fun i hi => g.lt _ (h.lt i hi), fun i j hi hj e => h.inj i j hi hj (g.inj _ _ (hl i hi) (hl j hj) e), fun i hi => ?_⟩
  rw [g.get _ (hl i hi), h.get i hi, renB_comp]
  rfl

def ofFn (g : Nat → Blk) : Nat → St
  | 0 => ⟨0, .leaf⟩
  | n + 1 => (ofFn g n).push (g n)
theorem ofFn_next (g : Nat → Blk) : ∀ n, (ofFn g n).next = n
  | 0 => rfl
  | n + 1 => by show (ofFn g n).next + 1 = n + 1; rw [ofFn_next g n]
theorem ofFn_get (g : Nat → Blk) : ∀ n i, (ofFn g n).get i = if i < n then g i else .dead
  | 0, i => by rw [if_neg (by omega)]; rfl
  | n + 1, i => by
    show ((ofFn g n).push (g n)).get i = _
    rw [St.get_push, ofFn_next, ofFn_get g n]
    by_cases h : n = i
    · subst h; rw [if_pos rfl, if_pos (by omega)]
    · rw [if_neg h]
      by_cases h1 : i < n
      · rw [if_pos h1, if_pos (by omega)]
      · rw [if_neg h1, if_neg (by omega)]

theorem blt_tt {i n : Nat} (h : i < n) : Nat.blt i n = true := Nat.ble_eq_true_of_le h
theorem blt_ff {i n : Nat} (h : ¬ i < n) : Nat.blt i n = false := by
  cases e : Nat.blt i n with
  | false => rfl
  | true => exact absurd (Nat.le_of_ble_eq_true e) h
/-- Blocks put between: from 13 on. -/
def sh (e : Nat) (i : Nat) : Nat := bif Nat.blt i 13 then i else i + e
theorem sh_lt {e i : Nat} (h : i < 13) : sh e i = i := by unfold sh; rw [show Nat.blt i 13 = true from blt_tt h]; rfl
theorem sh_ge {e i : Nat} (h : ¬ i < 13) : sh e i = i + e := by unfold sh; rw [show Nat.blt i 13 = false from blt_ff h]; rfl
def insK (E : List Blk) (S : St) (i : Nat) : Blk := bif Nat.blt i 13 then renB (loc (sh E.length)) (S.get i) else bif Nat.blt i (13 + E.length) then E.getD (i - 13) .dead else renB (loc (sh E.length)) (S.get (i - E.length))
def ins (E : List Blk) (S : St) : St := ofFn (insK E S) (S.next + E.length)
theorem ins_next (E : List Blk) (S : St) : (ins E S).next = S.next + E.length := ofFn_next _ _
theorem insK_eq (E : List Blk) (S : St) (i : Nat) : insK E S i = if i < 13 then renB (loc (sh E.length)) (S.get i) else if i < 13 + E.length then E.getD (i - 13) .dead else renB (loc (sh E.length)) (S.get (i - E.length)) := by
  unfold insK
  by_cases h : i < 13
  · rw [show Nat.blt i 13 = true from blt_tt h, if_pos h]; rfl
  · rw [show Nat.blt i 13 = false from blt_ff h, if_neg h]
    by_cases h2 : i < 13 + E.length
    · rw [show Nat.blt i (13 + E.length) = true from blt_tt h2, if_pos h2]; rfl
    · rw [show Nat.blt i (13 + E.length) = false from blt_ff h2, if_neg h2]; rfl
theorem ins_get (E : List Blk) (S : St) (i : Nat) : (ins E S).get i = if i < S.next + E.length then (if i < 13 then renB (loc (sh E.length)) (S.get i) else if i < 13 + E.length then E.getD (i - 13) .dead else renB (loc (sh E.length)) (S.get (i - E.length))) else .dead := by
  unfold ins
  rw [ofFn_get, insK_eq]
theorem ins_out {E : List Blk} {S : St} {i : Nat} (h : ((ins E S).get i).live = true) : i < (ins E S).next := by
  rw [ins_next]
  rw [ins_get] at h
  by_cases h1 : i < S.next + E.length
  · exact h1
  · rw [if_neg h1] at h; cases h
theorem ins_sh (E : List Blk) {S : St} (h13 : 13 ≤ S.next) {i : Nat} (hi : i < S.next) : (ins E S).get (sh E.length i) = renB (loc (sh E.length)) (S.get i) := by
  rw [ins_get]
  by_cases h : i < 13
  · rw [sh_lt h, if_pos (by omega), if_pos h]
  · rw [sh_ge h, if_pos (by omega), if_neg (by omega), if_neg (by omega), Nat.add_sub_cancel]
theorem sh_inj {e i j : Nat} (h : sh e i = sh e j) : i = j := by
  by_cases h1 : i < 13
  · by_cases h2 : j < 13
    · rw [sh_lt h1, sh_lt h2] at h; exact h
    · rw [sh_lt h1, sh_ge h2] at h; omega
  · by_cases h2 : j < 13
    · rw [sh_ge h1, sh_lt h2] at h; omega
    · rw [sh_ge h1, sh_ge h2] at h; omega
theorem sh_next {e i n : Nat} (h13 : 13 ≤ n) (h : i < n) : sh e i < n + e := by
  by_cases h1 : i < 13
  · rw [sh_lt h1]; omega
  · rw [sh_ge h1]; omega
theorem ins_em (E : List Blk) {S : St} (hS : Ok S) (h13 : 13 ≤ S.next) : Em (sh E.length) S (ins E S) :=
  ⟨fun i hi => by rw [ins_next]; exact sh_next h13 hi, fun i j _ _ e => sh_inj e, fun i hi => ins_sh E h13 (hS.out i hi)⟩

/-- What a call leaves; what was not there before it is not looked at. -/
def maskB (S S1 : St) (i : Nat) : Blk := bif Nat.blt i S.next then (bif (S.get i).live then S1.get i else S.get i) else S1.get i
def mask (S S1 : St) : St := ofFn (maskB S S1) S1.next
theorem mask_next (S S1 : St) : (mask S S1).next = S1.next := ofFn_next _ _
theorem mask_get {S S1 : St} {i : Nat} (hi : i < S1.next) (h : i < S.next → (S.get i).live = true) : (mask S S1).get i = S1.get i := by
  unfold mask
  rw [ofFn_get, if_pos hi]
  unfold maskB
  by_cases h1 : i < S.next
  · rw [show Nat.blt i S.next = true from blt_tt h1, h h1]; rfl
  · rw [show Nat.blt i S.next = false from blt_ff h1]; rfl
theorem mask_dead {S S1 : St} {i : Nat} (hi : i < S1.next) (h1 : i < S.next) (h : (S.get i).live = false) : (mask S S1).get i = S.get i := by
  unfold mask
  rw [ofFn_get, if_pos hi]
  unfold maskB
  rw [show Nat.blt i S.next = true from blt_tt h1, h]; rfl

theorem WF.insM (E : List Blk) {V : Env} {K : FuncId} {args : List Value} {v : Value} {S S1 : St} (hS : Ok S) (h13 : 13 ≤ S.next) (ha : Scs S.next args) (hn : S.next ≤ S1.next)
    (h : WF V K args S (fun r σ' => r = v ∧ σ' = S1)) : WF V K (args.map (AH.ren (loc (sh E.length)))) (ins E S) (fun r σ' => r = AH.ren (loc (sh E.length)) v ∧ σ' = Hx.ins E (mask S S1)) := by
  have hex : exN (sh E.length) S.next (Hx.ins E S).next = sh E.length := by
    funext i
    unfold exN
    by_cases h1 : i < S.next
    · rw [if_pos h1]
    · rw [if_neg h1, ins_next, sh_ge (by omega)]; omega
  refine WF.frame ((ins_em E hS h13).small hS) ha h fun r σ₀' _ ⟨e1, e2⟩ => ?_
  subst e1; subst e2
  rw [hex]
  refine ⟨_, ⟨?_, fun i hi hl => ?_, fun j hj hno => ?_, fun j hj => ?_⟩, rfl, rfl⟩
  · rw [ins_next, ins_next, mask_next]; omega
  · rw [hex, ins_sh E (by rw [mask_next]; omega) (by rw [mask_next]; omega), mask_get hi]
    intro h1
    rcases hl with hl | hl
    · omega
    · exact hl
  · rw [ins_next] at hj
    rw [ins_get, ins_get, mask_next, if_pos (by omega), if_pos hj]
    by_cases h1 : j < 13
    · rw [if_pos h1, if_pos h1]
      cases hl : (S.get j).live with
      | true => exact absurd (sh_lt h1) (hno j hl)
      | false => rw [mask_dead (by omega) (by omega) hl]
    · rw [if_neg h1, if_neg h1]
      by_cases h2 : j < 13 + E.length
      · rw [if_pos h2, if_pos h2]
      · rw [if_neg h2, if_neg h2]
        cases hl : (S.get (j - E.length)).live with
        | true => exact absurd (by rw [sh_ge (by omega)]; omega) (hno (j - E.length) hl)
        | false => rw [mask_dead (by omega) (by omega) hl]
  · cases hl : ((Hx.ins E (mask S σ₀')).get j).live with
    | false => rfl
    | true => have := ins_out hl; omega
/-- A call that changes nothing, where blocks are put between. -/
theorem WF.insS (E : List Blk) {V : Env} {K : FuncId} {args : List Value} {v : Value} {S : St} (hS : Ok S) (h13 : 13 ≤ S.next) (ha : Scs S.next args)
    (h : WF V K args S (fun r σ' => r = v ∧ σ' = S)) : WF V K (args.map (AH.ren (loc (sh E.length)))) (ins E S) (fun r σ' => r = AH.ren (loc (sh E.length)) v ∧ σ' = Hx.ins E S) := by
  have hex : exN (sh E.length) S.next (Hx.ins E S).next = sh E.length := by
    funext i
    unfold exN
    by_cases h1 : i < S.next
    · rw [if_pos h1]
    · rw [if_neg h1, ins_next, sh_ge (by omega)]; omega
  refine WF.frame ((ins_em E hS h13).small hS) ha h fun r σ₀' _ ⟨e1, e2⟩ => ?_
  subst e1; subst e2
  rw [hex]
  refine ⟨_, ⟨?_, fun i hi hl => ?_, fun j hj hno => rfl, fun j hj => ?_⟩, rfl, rfl⟩
  · rw [ins_next]; omega
  · rw [hex]; exact ins_sh E h13 hi
  · cases hl : ((Hx.ins E σ₀').get j).live with
    | false => rfl
    | true => have := ins_out hl; omega

/-- The numbers of what was put between, and of all else. -/
def PI (π κ : Nat → Nat) (e : Nat) (i : Nat) : Nat := bif Nat.blt i 13 then π i else bif Nat.blt i (13 + e) then κ (i - 13) else π (i - e)
theorem PI_eq (π κ : Nat → Nat) (e i : Nat) : PI π κ e i = if i < 13 then π i else if i < 13 + e then κ (i - 13) else π (i - e) := by
  unfold PI
  by_cases h : i < 13
  · rw [show Nat.blt i 13 = true from blt_tt h, if_pos h]; rfl
  · rw [show Nat.blt i 13 = false from blt_ff h, if_neg h]
    by_cases h2 : i < 13 + e
    · rw [show Nat.blt i (13 + e) = true from blt_tt h2, if_pos h2]; rfl
    · rw [show Nat.blt i (13 + e) = false from blt_ff h2, if_neg h2]; rfl
theorem PI_sh (π κ : Nat → Nat) (e i : Nat) : PI π κ e (sh e i) = π i := by
  rw [PI_eq]
  by_cases h : i < 13
  · rw [sh_lt h, if_pos h]
  · rw [sh_ge h, if_neg (by omega), if_neg (by omega), Nat.add_sub_cancel]

theorem ins_wf {E : List Blk} {S : St} (hS : Ok S) (h13 : 13 ≤ S.next) (hE : ∀ j, j < E.length → (E.getD j .dead).sc (13 + E.length)) {l : List (Nat × Value)} (hls : ∀ p ∈ l, Sc (S.next + E.length) p.2) : Wf (frL l) (ins E S) := by
  refine ⟨fun i => ?_, fun i hi => ins_out hi, fun t v ht => by rw [ins_next]; exact hls _ (frL_mem ht)⟩
  rw [ins_next, ins_get]
  split
  · split
    · exact renB_sc (hS.sc i) fun i hi => sh_next h13 hi
    split
    · exact Blk.sc_mono (hE _ (by omega)) (by omega)
    · exact renB_sc (hS.sc _) fun i hi => sh_next h13 hi
  · trivial

/-- From any state to one in which blocks are put between. -/
theorem VB.ins {K : FuncId} {nt : Nat} {k : List Item} {f : Fr} {R : Value → St → Prop} {T S : St} (E : List Blk) (π κ : Nat → Nat) (l : List (Nat × Value)) (hS : Ok S) (h13 : 13 ≤ S.next) (hEs : ∀ j, j < E.length → (E.getD j .dead).sc (13 + E.length))
    (hinj : ∀ i j, (S.get i).live = true → (S.get j).live = true → π i = π j → i = j) (hg : ∀ i, (S.get i).live = true → T.get (π i) = renB (loc π) (S.get i))
    (hκ : ∀ i j, i < E.length → j < E.length → (E.getD i .dead).live = true → (E.getD j .dead).live = true → κ i = κ j → i = j) (hπκ : ∀ i j, (S.get i).live = true → j < E.length → (E.getD j .dead).live = true → π i ≠ κ j)
    (hE : ∀ j, j < E.length → (E.getD j .dead).live = true → T.get (κ j) = renB (loc (PI π κ E.length)) (E.getD j .dead))
    (hl : ∀ p ∈ l, f.get p.1 = some (AH.ren (loc (PI π κ E.length)) p.2)) (hls : ∀ p ∈ l, Sc (S.next + E.length) p.2) (hd : f.df = [])
    (hk : VB 0 M K nt k (frL l) (Hx.ins E S) R) : VB 0 M K nt k f T R := by
  have hwf := ins_wf hS h13 hEs hls
  have hcase : ∀ i, ((Hx.ins E S).get i).live = true → (∃ i', i = sh E.length i' ∧ (S.get i').live = true ∧ i' < S.next) ∨ (∃ j, i = 13 + j ∧ j < E.length ∧ (E.getD j .dead).live = true ∧ (Hx.ins E S).get i = E.getD j .dead) := fun i hi => by
    have h1 := ins_out hi
    rw [ins_next] at h1
    have hg0 := ins_get E S i
    rw [if_pos h1] at hg0
    by_cases h2 : i < 13
    · left
      rw [if_pos h2] at hg0
      rw [hg0, renB_live] at hi
      exact ⟨i, (sh_lt h2).symm, hi, hS.out i hi⟩
    · rw [if_neg h2] at hg0
      by_cases h3 : i < 13 + E.length
      · right
        rw [if_pos h3] at hg0
        rw [hg0] at hi
        exact ⟨i - 13, by omega, by omega, hi, hg0⟩
      · left
        rw [if_neg h3] at hg0
        rw [hg0, renB_live] at hi
        exact ⟨i - E.length, by rw [sh_ge (by omega)]; omega, hi, hS.out _ hi⟩
  have hPk : ∀ j, j < E.length → PI π κ E.length (13 + j) = κ j := fun j hj => by
    rw [PI_eq, if_neg (by omega), if_pos (by omega), Nat.add_sub_cancel_left]
  refine VB.renum (f' := frL l) (σ' := Hx.ins E S) (PI π κ E.length) (Nat.zero_le _) (fun i hi => absurd hi (Nat.not_lt_zero _)) (fun i j hi hj e => ?_) (fun i hi => ?_) hwf (fun t v ht => ?_) (by rw [frL_df]; exact hd) (fun i hi => by rw [frL_df] at hi; simp at hi) hk
  · rcases hcase i hi with ⟨i', rfl, hi1, _⟩ | ⟨a, rfl, ha1, ha2, _⟩
    · rw [PI_sh] at e
      rcases hcase j hj with ⟨j', rfl, hj1, _⟩ | ⟨b, rfl, hb1, hb2, _⟩
      · rw [PI_sh] at e
        rw [hinj i' j' hi1 hj1 e]
      · rw [hPk b hb1] at e
        exact absurd e (hπκ i' b hi1 hb1 hb2)
    · rw [hPk a ha1] at e
      rcases hcase j hj with ⟨j', rfl, hj1, _⟩ | ⟨b, rfl, hb1, hb2, _⟩
      · rw [PI_sh] at e
        exact absurd e.symm (hπκ j' a hj1 ha1 ha2)
      · rw [hPk b hb1] at e
        rw [hκ a b ha1 hb1 ha2 hb2 e]
  · rcases hcase i hi with ⟨i', rfl, hi1, hi2⟩ | ⟨a, rfl, ha1, ha2, ha3⟩
    · rw [PI_sh, ins_sh E h13 hi2, renB_comp, hg i' hi1]
      congr 1
      funext i
      show loc π i = loc (PI π κ E.length) (sh E.length i)
      simp only [loc, PI_sh]
    · rw [hPk a ha1, ha3]
      exact hE a ha1 ha2
  · exact hl _ (frL_mem ht)

/-- What is put between names nothing else. -/
structure EOk (E : List Blk) : Prop where
  sc : ∀ j, j < E.length → (E.getD j .dead).sc (13 + E.length)
  fix : ∀ π : Nat → Nat, (∀ i, 13 ≤ i → i < 13 + E.length → π i = i) → ∀ j, j < E.length → renB (loc π) (E.getD j .dead) = E.getD j .dead

def PH (ρ : Nat → Nat) (e : Nat) : Nat → Nat := PI (fun i => sh e (ρ i)) (fun j => 13 + j) e
/-- Behind a call, blocks are under their own numbers again. -/
theorem VB.insHm {K : FuncId} {nt : Nat} {k : List Item} {f : Fr} {R : Value → St → Prop} {S S1 S' : St} {E : List Blk} (ρ : Nat → Nat) (l : List (Nat × Value)) (hE : EOk E) (hS' : Ok S') (h13 : 13 ≤ S'.next) (h13' : 13 ≤ S1.next)
    (hinj : ∀ i j, i < S'.next → j < S'.next → ρ i = ρ j → i = j) (hg : ∀ i, i < S'.next → (S'.get i).live = true → ρ i < S1.next ∧ S1.get (ρ i) = renB (loc ρ) (S'.get i)) (hlv : ∀ i, i < S'.next → (S'.get i).live = true → ρ i < S.next → (S.get (ρ i)).live = true)
    (hl : ∀ p ∈ l, f.get p.1 = some p.2) (hlr : ∀ p ∈ l, AH.ren (loc (PH ρ E.length)) p.2 = p.2) (hls : ∀ p ∈ l, Sc (S'.next + E.length) p.2) (hd : f.df = [])
    (hk : VB 0 M K nt k (frL l) (Hx.ins E S') R) : VB 0 M K nt k f (Hx.ins E (mask S S1)) R := by
  have hPk : ∀ j, j < E.length → PH ρ E.length (13 + j) = 13 + j := fun j hj => by
    unfold PH
    rw [PI_eq, if_neg (by omega), if_pos (by omega), Nat.add_sub_cancel_left]
  refine VB.ins E (fun i => sh E.length (ρ i)) (fun j => 13 + j) l hS' h13 hE.sc (fun i j hi hj e => hinj i j (hS'.out i hi) (hS'.out j hj) (sh_inj e)) (fun i hi => ?_) (fun i j _ _ _ _ e => by omega) (fun i j hi hj _ e => ?_) (fun j hj hl => ?_) (fun p hp => ?_) hls hd hk
  · obtain ⟨h1, h2⟩ := hg i (hS'.out i hi) hi
    rw [ins_sh E (by rw [mask_next]; exact h13') (by rw [mask_next]; exact h1), mask_get h1 (hlv i (hS'.out i hi) hi), h2, renB_comp]
    rfl
  · by_cases h : ρ i < 13
    · rw [sh_lt h] at e; omega
    · rw [sh_ge h] at e; omega
  · rw [hE.fix _ (fun i h1 h2 => ?_) j hj, ins_get, mask_next, if_pos (by omega), if_neg (by omega), if_pos (by omega), Nat.add_sub_cancel_left]
    have := hPk (i - 13) (by omega)
    rw [show 13 + (i - 13) = i by omega] at this
    exact this
  · rw [hl p hp]
    exact congrArg some (hlr p hp).symm
theorem mix_ok {s : HS} {m : Nat} {old : List Value} {Y : St} (h : s.Nice m old) (hY : Beside Y) : Ok (mix s Y) := by
  have hw := mixY_wf h hY (l := []) (fun p hp => by simp at hp)
  exact ⟨hw.sc, hw.lt⟩
end
end Go.Proofs.Ytlnlopeodpamdaa.Hx
end

section
/-
  A sweep's steps, where blocks are put between: behind each, blocks are under their own numbers again.
-/
set_option maxRecDepth 100000
set_option linter.unusedVariables false
namespace Go.Proofs.Ytlnlopeodpamdaa.Hx
open Go AH Go.Proofs
noncomputable section

theorem hs_cnt_live (s : HS) (a b : Int) (i : Nat) : ((hs (cnt s a b)).get i).live = ((hs s).get i).live := by
  rw [hs_get, hs_get]
  repeat' split
  all_goals rfl
theorem hs_all_live (s : HS) (i : Nat) (h : i < 7) (h4 : i ≠ 4) : ((hs s).get i).live = true := by
  rw [hs_get]
  repeat' split
  all_goals first | rfl | exact arrR_live _ _ _ | omega

theorem hm7 {s : HS} {m : Nat} {old : List Value} {Y σ : St} {π : Nat → Nat} {n : Nat} (h : s.Nice m old) (hw : WasA s m old) (h7 : ∀ i, i < 7 → π i = i) (hg7 : ∀ i, i < 7 → σ.get i = (hs s).get i) (hg : ∀ i, 7 ≤ i → i < n → (Y.get i).live = true → σ.get (π i) = renB (loc π) (Y.get i)) :
    ∀ i, i < n → ((mix s Y).get i).live = true → σ.get (π i) = renB (loc π) ((mix s Y).get i) := fun i hi hlv => by
  rw [mix_get] at hlv ⊢
  by_cases hi7 : i < 7
  · rw [if_pos hi7] at hlv ⊢
    rw [h7 i hi7, hg7 i hi7, hs_fix h hw π h7 i hi7]
  · rw [if_neg hi7] at hlv ⊢
    exact hg i (by omega) hi hlv

theorem Z_ok {s : HS} {m : Nat} {old : List Value} (h : s.Nice m old) (c0 c1 fm fd : Int) (l0 l1 : List Nat) {inp : Blk} (his : ∀ n, inp.sc n) (hir : ∀ ρ, renB ρ inp = inp) (k j p : Int) (Q : List Int) : Ok (Z s c0 c1 fm fd l0 l1 inp k j p Q) :=
  mix_ok (cnt_nice h c0 c1) (XO_beside fm fd l0 l1 his hir k j p Q false)
theorem XR_ok {s : HS} {m : Nat} {old : List Value} (h : s.Nice m old) (fm fd : Int) (l0 l1 : List Nat) {inp : Blk} (his : ∀ n, inp.sc n) (hir : ∀ ρ, renB ρ inp = inp) : Ok (mix s (XR fm fd l0 l1 inp)) :=
  mix_ok h (XR_beside fm fd l0 l1 his hir)
theorem XRo_ok {s : HS} {m : Nat} {old : List Value} (h : s.Nice m old) (fm fd : Int) (l0 l1 : List Nat) {inp : Blk} (his : ∀ n, inp.sc n) (hir : ∀ ρ, renB ρ inp = inp) (k : Int) (d : Nat) : Ok (mix s (XRo fm fd l0 l1 inp k d)) :=
  mix_ok h (XRo_beside fm fd l0 l1 his hir k d)

/-- What a word met leaves. -/
theorem Zmet_hm {s : HS} {m : Nat} {old : List Value} {c0 c1 fm fd : Int} {l0 l1 : List Nat} {inp : Blk} {k : Int} {j : Nat} {v : Int} {Q : List Int} (h : s.Nice m old) (hw : WasA s m old) (his : ∀ n, inp.sc n) (hir : ∀ ρ, renB ρ inp = inp) :
    ∀ i, i < 18 → ((Z s c0 c1 fm fd l0 l1 inp k ((j + 1 : Nat) : Int) (((Q ++ [v]).length : Nat) : Int) (Q ++ [v])).get i).live = true → (Zmet s c0 c1 fm fd l0 l1 inp k (j : Nat) v Q false).get (pi1719 i) = renB (loc pi1719) ((Z s c0 c1 fm fd l0 l1 inp k ((j + 1 : Nat) : Int) (((Q ++ [v]).length : Nat) : Int) (Q ++ [v])).get i) := by
  refine hm7 (cnt_nice h c0 c1) (cnt_was hw c0 c1) (fun i hi => pi1719_ne (by omega)) (fun i hi => ?_) (fun i h7 hi hlv => ?_)
  · rw [Zmet, mix_get, if_pos hi]
  · have hZ : ∀ i, 7 ≤ i → i < 22 → (Zmet s c0 c1 fm fd l0 l1 inp k (j : Nat) v Q false).get i = if 21 = i then gB else if 20 = i then gB else if 19 = i then .row 89 1 (wds (Q ++ [v])) else if 18 = i then .cells 89 [.int .u64 v] else if 17 = i then .dead else if 16 = i then hpO ((j : Nat) + 1) ((Q.length + 1 : Nat) : Int) (.slice (some ⟨19, 0, none⟩) (Q.length + 1) unk) false else if 15 = i then .dead else if 14 = i then .dead else if 13 = i then opB k false 0 else (XR fm fd l0 l1 inp).get i := fun i h7 h22 => by
      rw [Zmet, mix_get, if_neg (by omega)]
      simp only [XO, St.get_push]
      rfl
    have hX : ∀ i, (XO fm fd l0 l1 inp k ((j + 1 : Nat) : Int) (((Q ++ [v]).length : Nat) : Int) (mv 17 (Q ++ [v])) false (mr (Q ++ [v]))).get i = if 17 = i then mr (Q ++ [v]) else if 16 = i then hpO ((j + 1 : Nat) : Int) (((Q ++ [v]).length : Nat) : Int) (mv 17 (Q ++ [v])) false else if 15 = i then .dead else if 14 = i then .dead else if 13 = i then opB k false 0 else (XR fm fd l0 l1 inp).get i := fun i => by
      simp only [XO, St.get_push]
      rfl
    rw [hX] at hlv ⊢
    by_cases h17 : i = 17
    · subst h17
      show (Zmet s c0 c1 fm fd l0 l1 inp k (j : Nat) v Q false).get 19 = renB _ (mr (Q ++ [v]))
      rw [hZ 19 (by omega) (by omega), mr_ren, mr_snoc]
      rfl
    · have hp : pi1719 i = i := by unfold pi1719; rw [if_neg h17]
      rw [hp, hZ i h7 (by omega), if_neg (by omega), if_neg (by omega), if_neg (by omega), if_neg (by omega), if_neg (show ¬ 17 = i by omega), if_neg (show ¬ 17 = i by omega)]
      by_cases h16 : 16 = i
      · subst h16
        rw [if_pos rfl, if_pos rfl]
        show _ = renB (loc pi1719) (hpO _ _ _ _)
        simp only [hpO, renB, List.map_cons, List.map_nil, ren_int, ren_bool, mv_ren]
        show _ = Blk.cells 161 [_, _, _, _, _, _, _, _, _, mv 19 (Q ++ [v]), _, _]
        rw [mv_snoc, List.length_append]
        rfl
      · rw [if_neg h16, if_neg h16]
        split
        · rfl
        split
        · rfl
        split
        · exact ((Fix.opB (n := 17) (by omega) k false 0).2 _ fun i hi _ => by unfold pi1719; rw [if_neg (by omega)]).symm
        · exact (((XR_bes 13 (by omega) fm fd l0 l1 his hir).fix i h7).2 _ fun i hi _ => by unfold pi1719; rw [if_neg (by omega)]).symm
theorem Znot_hm {s : HS} {m : Nat} {old : List Value} {c0 c1 fm fd : Int} {l0 l1 : List Nat} {inp : Blk} {k : Int} {j : Nat} {Q : List Int} (h : s.Nice m old) (hw : WasA s m old) (his : ∀ n, inp.sc n) (hir : ∀ ρ, renB ρ inp = inp) :
    ∀ i, i < 18 → ((Z s c0 c1 fm fd l0 l1 inp k ((j + 1 : Nat) : Int) ((Q.length : Nat) : Int) Q).get i).live = true → (Znot s c0 c1 fm fd l0 l1 inp k (j : Nat) Q false).get (id i) = renB (loc id) ((Z s c0 c1 fm fd l0 l1 inp k ((j + 1 : Nat) : Int) ((Q.length : Nat) : Int) Q).get i) := by
  have hB := XO_beside fm fd l0 l1 his hir k ((j + 1 : Nat) : Int) ((Q.length : Nat) : Int) Q false
  refine hm7 (cnt_nice h c0 c1) (cnt_was hw c0 c1) (fun i hi => rfl) (fun i hi => ?_) (fun i h7 hi hlv => ?_)
  · rw [Znot, mix_get, if_pos hi]
  · have h18 : i < 18 := hi
    rw [hB.keep id (fun _ _ _ => rfl) i h7]
    show (Znot s c0 c1 fm fd l0 l1 inp k (j : Nat) Q false).get i = _
    rw [Znot, mix_get, if_neg (by omega), St.get_push, if_neg (by show ¬ 19 = i; omega), St.get_push, if_neg (by show ¬ 18 = i; omega)]
    rfl
theorem Z_live {s : HS} {c0 c1 c0' c1' fm fd : Int} {l0 l1 : List Nat} {inp : Blk} {k j p j' p' : Int} {Q Q' : List Int} {i : Nat} (h17 : i = 17 → Q = Q') (h : ((Z s c0 c1 fm fd l0 l1 inp k j p Q).get i).live = true) : ((Z s c0' c1' fm fd l0 l1 inp k j' p' Q').get i).live = true := by
  rw [Z_get] at h ⊢
  by_cases h7 : i < 7
  · rw [if_pos h7, hs_cnt_live] at h ⊢
    exact h
  · rw [if_neg h7] at h ⊢
    by_cases e : 17 = i
    · rw [if_pos e] at h ⊢
      rw [← h17 e.symm]; exact h
    · rw [if_neg e] at h ⊢
      by_cases e2 : 16 = i
      · rw [if_pos e2]; rfl
      · rw [if_neg e2] at h ⊢; exact h

theorem insMet {K : FuncId} {nt : Nat} {kk : List Item} {f : Fr} {R : Value → St → Prop} {E : List Blk} (l : List (Nat × Value)) (hE : EOk E) {s : HS} {m : Nat} {old : List Value} {c0 c1 c0' c1' fm fd : Int} {l0 l1 : List Nat} {inp : Blk} {k p : Int} {j : Nat} {v : Int} {Q : List Int} (h : s.Nice m old) (hw : WasA s m old) (his : ∀ n, inp.sc n) (hir : ∀ ρ, renB ρ inp = inp)
    (hl : ∀ p ∈ l, f.get p.1 = some p.2) (hlr : ∀ p ∈ l, AH.ren (loc (PH pi1719 E.length)) p.2 = p.2) (hls : ∀ p ∈ l, Sc (18 + E.length) p.2) (hd : f.df = [])
    (hk : VB 0 M K nt kk (frL l) (Hx.ins E (Z s c0' c1' fm fd l0 l1 inp k ((j + 1 : Nat) : Int) (((Q ++ [v]).length : Nat) : Int) (Q ++ [v]))) R) :
    VB 0 M K nt kk f (Hx.ins E (mask (Z s c0 c1 fm fd l0 l1 inp k (j : Nat) p Q) (Zmet s c0' c1' fm fd l0 l1 inp k (j : Nat) v Q false))) R := by
  refine VB.insHm pi1719 l hE (Z_ok h _ _ _ _ _ _ his hir _ _ _ _) (by show 13 ≤ 18; omega) (by show 13 ≤ 22; omega) (fun i j hi hj e => ?_) (fun i hi hlv => ⟨?_, Zmet_hm h hw his hir i hi hlv⟩) (fun i hi hlv hp => ?_) hl hlr hls hd hk
  · have h1 : i < 18 := hi
    have h2 : j < 18 := hj
    unfold pi1719 at e
    split at e <;> split at e <;> omega
  · have h1 : i < 18 := hi
    show pi1719 i < 22
    unfold pi1719; split <;> omega
  · have h1 : i < 18 := hi
    have hp' : pi1719 i < 18 := hp
    have h17 : i ≠ 17 := fun e => by rw [e] at hp'; exact absurd hp' (by decide)
    rw [pi1719_ne h17]
    exact Z_live (fun e => absurd e h17) hlv
theorem insNot {K : FuncId} {nt : Nat} {kk : List Item} {f : Fr} {R : Value → St → Prop} {E : List Blk} (l : List (Nat × Value)) (hE : EOk E) {s : HS} {m : Nat} {old : List Value} {c0 c1 c0' c1' fm fd : Int} {l0 l1 : List Nat} {inp : Blk} {k p : Int} {j : Nat} {Q : List Int} (h : s.Nice m old) (hw : WasA s m old) (his : ∀ n, inp.sc n) (hir : ∀ ρ, renB ρ inp = inp)
    (hl : ∀ p ∈ l, f.get p.1 = some p.2) (hlr : ∀ p ∈ l, AH.ren (loc (PH id E.length)) p.2 = p.2) (hls : ∀ p ∈ l, Sc (18 + E.length) p.2) (hd : f.df = [])
    (hk : VB 0 M K nt kk (frL l) (Hx.ins E (Z s c0' c1' fm fd l0 l1 inp k ((j + 1 : Nat) : Int) ((Q.length : Nat) : Int) Q)) R) :
    VB 0 M K nt kk f (Hx.ins E (mask (Z s c0 c1 fm fd l0 l1 inp k (j : Nat) p Q) (Znot s c0' c1' fm fd l0 l1 inp k (j : Nat) Q false))) R := by
  refine VB.insHm id l hE (Z_ok h _ _ _ _ _ _ his hir _ _ _ _) (by show 13 ≤ 18; omega) (by show 13 ≤ 20; omega) (fun i j hi hj e => e) (fun i hi hlv => ⟨?_, Znot_hm h hw his hir i hi hlv⟩) (fun i hi hlv hp => ?_) hl hlr hls hd hk
  · have h1 : i < 18 := hi
    show i < 20
    omega
  · exact Z_live (fun _ => rfl) hlv

/-- Behind the last step. -/
theorem insOut (v : Bool) {K : FuncId} {nt : Nat} {kk : List Item} {f : Fr} {R : Value → St → Prop} {E : List Blk} (l : List (Nat × Value)) (hE : EOk E) {s s' : HS} {m : Nat} {old : List Value} {c0 c1 fm fd fd' : Int} {l0 l1 : List Nat} {inp : Blk} {p p' : Int} {N : Nat} {Q Q' : List Int} {A B : Blk} {left : List Nat} {d : Nat} (h : s'.Nice m old) (hw : WasA s' m old) (his : ∀ n, inp.sc n) (hir : ∀ ρ, renB ρ inp = inp)
    (hl : ∀ p ∈ l, f.get p.1 = some p.2) (hlr : ∀ p ∈ l, AH.ren (loc (PH (piG v) E.length)) p.2 = p.2) (hls : ∀ p ∈ l, Sc (17 + E.length) p.2) (hd : f.df = [])
    (hk : VB 0 M K nt kk (frL l) (Hx.ins E (mix s' (XRo fm fd' (l0Of v left l0) (l1Of v left l1) inp (kOf v) d))) R) :
    VB 0 M K nt kk f (Hx.ins E (mask (Z s c0 c1 fm fd l0 l1 inp (kOf v) (3 : Nat) p Q) (fr s' m old (YG v fm fd' l0 l1 inp p' N Q' A B left d)))) R := by
  have hNv : NOf v = 9 ∨ NOf v = 10 := by cases v <;> simp [NOf]
  have hfx : ∀ i, i ≠ 4 → i ≠ 9 → i ≠ 10 → piG v i = i := fun i h1 h2 h3 => by unfold piG; rw [if_neg h1, if_neg (by omega)]
  have h4 : piG v 4 = 23 := rfl
  have hg : ∀ j, 7 ≤ j → j < 23 → (fr s' m old (YG v fm fd' l0 l1 inp p' N Q' A B left d)).get j = if 13 = j then opB (kOf v) true (d : Nat) else if 8 = j then .cells 86 (bif v then [lv 9 l0, lv 22 left] else [lv 22 left, lv 10 l1]) else if 22 = j then lr left else if 21 = j then .cells 87 [mv 20 Q'] else if 20 = j then mr Q' else if 19 = j then .dead else if 18 = j then B else if 17 = j then A else if 16 = j then hpO 4 p' (mv N Q') true else if 15 = j then .dead else if 14 = j then .dead else if 13 = j then opB (kOf v) true 0 else if 12 = j then gB else if 11 = j then inp else if 10 = j then lr l1 else if 9 = j then lr l0 else if 8 = j then .cells 86 [lv 9 l0, lv 10 l1] else if 7 = j then lsB fm fd' else .dead := fun j hj h23 => by
    rw [fr_get, if_neg (show ¬ j < 7 by omega), if_neg (by show ¬ 23 = j; omega), YG_get, XU_all, XR_get _ _ _ _ _ _ hj]
  refine VB.insHm (piG v) l hE (XRo_ok h _ _ _ _ his hir _ _) (by show 13 ≤ 17; omega) (by show 13 ≤ 24; omega) (fun i j hi hj e => ?_) (fun i hi hlv => ⟨?_, ?_⟩) (fun i hi hlv hp => ?_) hl hlr hls hd hk
  · have h1 : i < 17 := hi
    have h2 : j < 17 := hj
    unfold piG at e
    split at e <;> split at e <;> (try split at e) <;> (try split at e) <;> omega
  · have h1 : i < 17 := hi
    show piG v i < 24
    unfold piG
    split
    · omega
    · split <;> omega
  · have h17 : i < 17 := hi
    rw [mix_get] at hlv ⊢
    by_cases h7 : i < 7
    · rw [if_pos h7] at hlv ⊢
      by_cases hi4 : i = 4
      · subst hi4
        rw [hs_get]
        show _ = renB _ s'.wb
        rw [h4, fr_get, if_neg (by omega), if_pos (by rfl), hw.wb, wbA_ren h.pold]
      · rw [hfx i hi4 (by omega) (by omega), fr_get, if_pos h7, aw_home hw i hi4]
        have e := aw_ren h 4 (piG v) (fun i hi h4 => hfx i h4 (by omega) (by omega)) i hi4
        rw [h4] at e
        exact e
    · rw [if_neg h7] at hlv ⊢
      rw [XRo_all _ _ _ _ _ _ _ _ (by omega)] at hlv ⊢
      have h6 : i = 16 ∨ i = 15 ∨ i = 14 ∨ i = 13 ∨ i = 12 ∨ i = 11 ∨ i = 10 ∨ i = 9 ∨ i = 8 ∨ i = 7 := by omega
      rcases h6 with rfl | rfl | rfl | rfl | rfl | rfl | rfl | rfl | rfl | rfl
      · cases hlv
      · cases hlv
      · cases hlv
      · rw [hfx 13 (by omega) (by omega) (by omega), hg 13 (by omega) (by omega)]
        show opB _ _ _ = renB _ (opB _ _ _)
        simp only [opB, renB, List.map_cons, List.map_nil, ren_int, ren_ptr, ren_bool, renA, loc, hfx 7 (by omega) (by omega) (by omega), hfx 16 (by omega) (by omega) (by omega)]
      · rw [hfx 12 (by omega) (by omega) (by omega), hg 12 (by omega) (by omega)]
        show gB = renB _ gB
        simp [gB, renB]
      · rw [hfx 11 (by omega) (by omega) (by omega), hg 11 (by omega) (by omega)]
        show inp = renB _ inp
        rw [hir]
      · show _ = renB _ (lr (l1Of v left l1))
        rw [lr_ren]
        cases v
        · show (fr _ _ _ _).get 10 = lr l1
          rw [hg 10 (by omega) (by omega)]; rfl
        · show (fr _ _ _ _).get 22 = lr left
          rw [hg 22 (by omega) (by omega)]; rfl
      · show _ = renB _ (lr (l0Of v left l0))
        rw [lr_ren]
        cases v
        · show (fr _ _ _ _).get 22 = lr left
          rw [hg 22 (by omega) (by omega)]; rfl
        · show (fr _ _ _ _).get 9 = lr l0
          rw [hg 9 (by omega) (by omega)]; rfl
      · rw [hfx 8 (by omega) (by omega) (by omega), hg 8 (by omega) (by omega)]
        show Blk.cells 86 _ = renB _ (Blk.cells 86 [lv 9 (l0Of v left l0), lv 10 (l1Of v left l1)])
        simp only [renB, List.map_cons, List.map_nil, lv_ren]
        cases v <;> rfl
      · rw [hfx 7 (by omega) (by omega) (by omega), hg 7 (by omega) (by omega)]
        show lsB fm fd' = renB _ (lsB fm fd')
        simp only [lsB, renB, List.map_cons, List.map_nil, ren_int, ren_ptr, ren_slice, renA, loc, hfx 0 (by omega) (by omega) (by omega), hfx 8 (by omega) (by omega) (by omega)]
        rw [renC_le (by unfold unk; omega)]
  · have h17 : i < 17 := hi
    have hp' : piG v i < 18 := hp
    have hi4 : i ≠ 4 := fun e => by rw [e, h4] at hp'; omega
    have hiN : i ≠ NOf v := fun e => by
      unfold piG at hp'
      rw [if_neg hi4, if_pos e] at hp'
      omega
    have hpi : piG v i = i := by unfold piG; rw [if_neg hi4, if_neg hiN]
    rw [hpi, Z_get]
    by_cases h7 : i < 7
    · rw [if_pos h7]; exact hs_all_live _ i h7 hi4
    · rw [if_neg h7]
      rw [mix_get, if_neg h7, XRo_all _ _ _ _ _ _ _ _ (by omega)] at hlv
      have h6 : i = 16 ∨ i = 15 ∨ i = 14 ∨ i = 13 ∨ i = 12 ∨ i = 11 ∨ i = 10 ∨ i = 9 ∨ i = 8 ∨ i = 7 := by omega
      rcases h6 with rfl | rfl | rfl | rfl | rfl | rfl | rfl | rfl | rfl | rfl
      · rfl
      · cases hlv
      · cases hlv
      · rfl
      · rw [if_neg (by omega), if_neg (by omega), if_neg (by omega), if_neg (by omega), if_neg (by omega), XR_get _ _ _ _ _ _ (by omega)]; rfl
      · rw [if_neg (by omega), if_neg (by omega), if_neg (by omega), if_neg (by omega), if_neg (by omega), XR_get _ _ _ _ _ _ (by omega)]; exact hlv
      · cases v
        · rw [if_neg (by omega), if_neg (by omega), if_neg (by omega), if_neg (by omega), if_neg (by omega), XR_get _ _ _ _ _ _ (by omega)]; exact hlv
        · exact absurd rfl hiN
      · cases v
        · exact absurd rfl hiN
        · rw [if_neg (by omega), if_neg (by omega), if_neg (by omega), if_neg (by omega), if_neg (by omega), XR_get _ _ _ _ _ _ (by omega)]; exact hlv
      · rw [if_neg (by omega), if_neg (by omega), if_neg (by omega), if_neg (by omega), if_neg (by omega), XR_get _ _ _ _ _ _ (by omega)]; rfl
      · rw [if_neg (by omega), if_neg (by omega), if_neg (by omega), if_neg (by omega), if_neg (by omega), XR_get _ _ _ _ _ _ (by omega)]; rfl
end
end Go.Proofs.Ytlnlopeodpamdaa.Hx
end
