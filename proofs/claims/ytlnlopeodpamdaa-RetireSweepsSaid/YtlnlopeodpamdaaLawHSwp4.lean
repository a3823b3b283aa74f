/-
  The texts HSide, HSwp1, HSwp2, HSwp3, HSwp4, joined.
-/
import Derived.Test.YtlnlopeodpamdaaLawHMet
section
/-
  Blocks beside a heap, one by one; an operation of retire's, step by step.
-/
set_option maxRecDepth 100000
set_option linter.unusedVariables false
namespace Go.Proofs.Ytlnlopeodpamdaa.Hx
open Go AH Go.Proofs
noncomputable section

def Keeps (n : Nat) (π : Nat → Nat) : Prop := ∀ i, i < n → i ≠ 4 → π i = i
def Fix (n : Nat) (B : Blk) : Prop := B.sc n ∧ ∀ π, Keeps n π → renB (loc π) B = B
structure Bes (n : Nat) (Y : St) : Prop where
  n7 : 7 ≤ Y.next
  up : Y.next ≤ n
  fix : ∀ i, 7 ≤ i → Fix n (Y.get i)
  lt : ∀ i, 7 ≤ i → (Y.get i).live = true → i < Y.next
theorem Bes.home {n : Nat} {Y : St} (h : Bes n Y) (hn : Y.next = n) : Beside Y := by
  subst hn
  exact ⟨h.n7, fun i hi => (h.fix i hi).1, h.lt, fun π hπ i hi => (h.fix i hi).2 π hπ⟩
theorem Beside.bes {n : Nat} {Y : St} (h : Beside Y) (hn : Y.next ≤ n) : Bes n Y :=
  ⟨h.n, hn, fun i hi => ⟨Blk.sc_mono (h.sc i hi) hn, fun π hπ => h.keep π (fun i hi h4 => hπ i (by omega) h4) i hi⟩, h.lt⟩
theorem Bes.push {n : Nat} {Y : St} {B : Blk} (h : Bes n Y) (hn : Y.next < n) (hB : Fix n B) : Bes n (Y.push B) := by
  refine ⟨by show 7 ≤ Y.next + 1; have := h.n7; omega, hn, fun i hi => ?_, fun i hi hl => ?_⟩
  · rw [St.get_push]; split
    · exact hB
    · exact h.fix i hi
  · show i < Y.next + 1
    rw [St.get_push] at hl
    by_cases e : Y.next = i
    · omega
    · rw [if_neg e] at hl; have := h.lt i hi hl; omega
theorem Bes.set {n : Nat} {Y : St} {B : Blk} (h : Bes n Y) (j : Nat) (hj : j < Y.next) (hB : Fix n B) : Bes n (Y.set j B) := by
  refine ⟨h.n7, h.up, fun i hi => ?_, fun i hi hl => ?_⟩
  · rw [St.get_set]; split
    · exact hB
    · exact h.fix i hi
  · show i < Y.next
    rw [St.get_set] at hl
    by_cases e : j = i
    · omega
    · rw [if_neg e] at hl; exact h.lt i hi hl
theorem Fix.dead (n : Nat) : Fix n .dead := ⟨trivial, fun _ _ => rfl⟩
theorem Fix.pure {n : Nat} {t : Nat} {cs : List Value} (h : ∀ ρ : Nat → AH.Loc, cs.map (AH.ren ρ) = cs) : Fix n (.cells t cs) := ⟨sc_of_pure h n, fun π _ => by rw [renB, h]⟩
theorem Fix.gB (n : Nat) : Fix n gB := Fix.pure fun ρ => by simp
theorem Fix.lr (n : Nat) (l : List Nat) : Fix n (lr l) := ⟨lr_sc _ _, fun π _ => lr_ren _ _⟩
theorem Fix.mr (n : Nat) (Q : List Int) : Fix n (mr Q) := ⟨mr_sc _ _, fun π _ => mr_ren _ _⟩
theorem Fix.lsB {n : Nat} (hn : 9 ≤ n) (fm fd : Int) : Fix n (lsB fm fd) := by
  refine ⟨fun v hv => ?_, fun π hπ => ?_⟩
  · simp only [List.mem_cons, List.not_mem_nil, or_false] at hv
    rcases hv with e | e | e | e | e | e | e
    · rw [e]; exact Sc_int _ _ _
    · rw [e]; exact Sc_int _ _ _
    · rw [e]; exact Sc_int _ _ _
    · rw [e]; exact Sc_ptr (by show 0 < n; omega)
    · rw [e]; exact Sc_int _ _ _
    · rw [e]; exact Sc_slice (by show 8 < n; omega)
    · rw [e]; exact Sc_int _ _ _
  · simp only [Hx.lsB, renB, List.map_cons, List.map_nil, ren_int, ren_ptr, ren_slice, renA, loc, hπ 0 (by omega) (by omega), hπ 8 (by omega) (by omega)]
    rw [renC_le (by unfold unk; omega)]
theorem Fix.lists {n a b : Nat} (ha : a < n) (hb : b < n) (ha4 : a ≠ 4) (hb4 : b ≠ 4) (l0 l1 : List Nat) : Fix n (.cells 86 [lv a l0, lv b l1]) := by
  refine ⟨fun v hv => ?_, fun π hπ => ?_⟩
  · simp only [List.mem_cons, List.not_mem_nil, or_false] at hv
    rcases hv with rfl | rfl
    · exact lv_sc _ _ _ ha
    · exact lv_sc _ _ _ hb
  · simp only [renB, List.map_cons, List.map_nil, lv_ren, hπ a ha ha4, hπ b hb hb4]
theorem Fix.opB {n : Nat} (hn : 17 ≤ n) (k : Int) (dn : Bool) (m : Int) : Fix n (opB k dn m) := by
  refine ⟨fun v hv => ?_, fun π hπ => ?_⟩
  · simp only [List.mem_cons, List.not_mem_nil, or_false] at hv
    rcases hv with e | e | e | e | e | e | e
    · rw [e]; exact Sc_bool _ _
    · rw [e]; exact Sc_ptr (by show 7 < n; omega)
    · rw [e]; exact Sc_int _ _ _
    · rw [e]; exact Sc_ptr (by show 16 < n; omega)
    · rw [e]; exact Sc_bool _ _
    · rw [e]; exact Sc_int _ _ _
    · rw [e]; exact Sc_int _ _ _
  · simp only [Hx.opB, renB, List.map_cons, List.map_nil, ren_int, ren_ptr, ren_bool, renA, loc, hπ 7 (by omega) (by omega), hπ 16 (by omega) (by omega)]
theorem Fix.hpO {n N : Nat} (hN : N < n) (h4 : N ≠ 4) (at_ p : Int) (Q : List Int) (dn : Bool) : Fix n (hpO at_ p (mv N Q) dn) := by
  refine ⟨fun v hv => ?_, fun π hπ => ?_⟩
  · simp only [List.mem_cons, List.not_mem_nil, or_false] at hv
    rcases hv with e | e | e | e | e | e | e | e | e | e | e | e
    · rw [e]; exact Sc_bool _ _
    · rw [e]; exact Sc_int _ _ _
    · rw [e]; exact Sc_int _ _ _
    · rw [e]; exact Sc_int _ _ _
    · rw [e]; exact Sc_int _ _ _
    · rw [e]; exact Sc_int _ _ _
    · rw [e]; exact Sc_int _ _ _
    · rw [e]; exact Sc_int _ _ _
    · rw [e]; exact Sc_int _ _ _
    · rw [e]; exact mv_sc _ _ _ hN
    · rw [e]; exact Sc_bool _ _
    · rw [e]; exact Sc_int _ _ _
  · simp only [Hx.hpO, renB, List.map_cons, List.map_nil, ren_int, ren_bool, mv_ren, hπ N hN h4]

theorem XR_bes (n : Nat) (hn : 13 ≤ n) (fm fd : Int) (l0 l1 : List Nat) {inp : Blk} (hs : ∀ n, inp.sc n) (hr : ∀ ρ, renB ρ inp = inp) : Bes n (XR fm fd l0 l1 inp) := (XR_beside fm fd l0 l1 hs hr).bes hn

theorem hs_fix {s : HS} {m : Nat} {old : List Value} (h : s.Nice m old) (hw : WasA s m old) (π : Nat → Nat) (hπ : ∀ i, i < 7 → π i = i) (i : Nat) (hi : i < 7) : renB (loc π) ((hs s).get i) = (hs s).get i := by
  by_cases h4 : i = 4
  · subst h4
    rw [hs_get]
    show renB _ s.wb = s.wb
    rw [hw.wb, wbA_ren h.pold]
  · rw [aw_home hw i h4]
    have e := aw_ren h 4 π (fun i hi _ => hπ i hi) i h4
    rw [hπ 4 (by omega)] at e
    exact e.symm

/-- From any state to one beside a heap. -/
theorem VB.toY {nB : Nat} {K : FuncId} {nt : Nat} {k : List Item} {f : Fr} {R : Value → St → Prop} {s : HS} {m : Nat} {old : List Value} {Y σ : St} (π : Nat → Nat) (l : List (Nat × Value)) (h : s.Nice m old) (hY : Beside Y) (hn : nB ≤ Y.next) (hfix : ∀ i, i < nB → π i = i)
    (hinj : ∀ i j, i < Y.next → j < Y.next → π i = π j → i = j) (hg : ∀ i, i < Y.next → ((mix s Y).get i).live = true → σ.get (π i) = renB (loc π) ((mix s Y).get i))
    (hl : ∀ p ∈ l, f.get p.1 = some p.2) (hlr : ∀ p ∈ l, AH.ren (loc π) p.2 = p.2) (hls : ∀ p ∈ l, Sc Y.next p.2) (hd : f.df = [])
    (hk : VB nB M K nt k (frL l) (mix s Y) R) : VB nB M K nt k f σ R := by
  have hwf : Wf (frL l) (mix s Y) := mixY_wf h hY hls
  refine VB.renum (f' := frL l) (σ' := mix s Y) π hn hfix (fun i j hi hj e => hinj i j (hwf.lt i hi) (hwf.lt j hj) e) (fun i hi => hg i (hwf.lt i hi) hi) hwf (fun t v ht => ?_) (by rw [frL_df]; exact hd) (fun i hi => by rw [frL_df] at hi; simp at hi) hk
  have hm := frL_mem ht
  rw [hlr _ hm]
  exact hl _ hm
/-- The same where the heap's blocks keep their numbers. -/
theorem VB.toY7 {nB : Nat} {K : FuncId} {nt : Nat} {k : List Item} {f : Fr} {R : Value → St → Prop} {s : HS} {m : Nat} {old : List Value} {Y σ : St} (π : Nat → Nat) (l : List (Nat × Value)) (h : s.Nice m old) (hw : WasA s m old) (hY : Beside Y) (hn : nB ≤ Y.next) (hfix : ∀ i, i < nB → π i = i) (h7 : ∀ i, i < 7 → π i = i)
    (hinj : ∀ i j, i < Y.next → j < Y.next → π i = π j → i = j) (hg7 : ∀ i, i < 7 → σ.get i = (hs s).get i) (hg : ∀ i, 7 ≤ i → i < Y.next → (Y.get i).live = true → σ.get (π i) = renB (loc π) (Y.get i))
    (hl : ∀ p ∈ l, f.get p.1 = some p.2) (hlr : ∀ p ∈ l, AH.ren (loc π) p.2 = p.2) (hls : ∀ p ∈ l, Sc Y.next p.2) (hd : f.df = [])
    (hk : VB nB M K nt k (frL l) (mix s Y) R) : VB nB M K nt k f σ R := by
  refine VB.toY π l h hY hn hfix hinj (fun i hi hlv => ?_) hl hlr hls hd hk
  rw [mix_get] at hlv ⊢
  by_cases hi7 : i < 7
  · rw [if_pos hi7] at hlv ⊢
    rw [h7 i hi7, hg7 i hi7, hs_fix h hw π h7 i hi7]
  · rw [if_neg hi7] at hlv ⊢
    exact hg i (by omega) hi hlv

theorem cnt_nice {s : HS} {m : Nat} {old : List Value} (h : s.Nice m old) (c0 c1 : Int) : (cnt s c0 c1).Nice m old :=
  ⟨h.es, h.gs, fun ρ => csT_pure c0 c1 ρ, h.ws, h.bs, h.pold, rfl, h.wl, h.bl, h.n, h.was, h.dead⟩
theorem cnt_was {s : HS} {m : Nat} {old : List Value} (h : WasA s m old) (c0 c1 : Int) : WasA (cnt s c0 c1) m old := ⟨h.wv, h.wb, h.len⟩
theorem cnt_hp2 {s : HS} {ks : List Nat} {c m : Nat} {old : List Value} (h : Hp2 s ks c m old) (c0 c1 : Int) : Hp2 (cnt s c0 c1) ks c m old :=
  ⟨cnt_nice h.nice c0 c1, h.first, h.words, h.n, h.es, h.keys, h.nd, h.st, h.gs, h.cb, h.free⟩

/-- Beside the heap, while a list is swept. -/
theorem XO_beside (fm fd : Int) (l0 l1 : List Nat) {inp : Blk} (hs : ∀ n, inp.sc n) (hr : ∀ ρ, renB ρ inp = inp) (k j p : Int) (Q : List Int) (dn : Bool) : Beside (XO fm fd l0 l1 inp k j p (mv 17 Q) dn (mr Q)) := by
  refine Bes.home (n := 18) ?_ rfl
  exact (((((XR_bes 18 (by omega) fm fd l0 l1 hs hr).push (by show 13 < 18; omega) (Fix.opB (by omega) _ _ _)).push (by show 14 < 18; omega) (Fix.dead _)).push (by show 15 < 18; omega) (Fix.dead _)).push (by show 16 < 18; omega) (Fix.hpO (by omega) (by omega) _ _ _ _)).push (by show 17 < 18; omega) (Fix.mr _ _)

/-- A step of hp's operation. -/
theorem hp_met {s : HS} (c0 c1 fm fd : Int) (l0 l1 : List Nat) (inp : Blk) (k p : Int) (j : Nat) (v : Int) (Q : List Int) (dn : Bool) (hj : j < 4) (hdn : dn = decide (((j + 1 : Nat) : Int) = 4)) (hv0 : v ≠ 0) (hQ : Q.length ≤ 1000) (ha : j < s.n + 1) (hb : s.bs[j]? = some (.bool false)) (hv : s.ws[j]? = some (.int .u64 v)) (h0 : s.MOk) (f0 : s.MFlat) :
    WF M.toEnv 95 [.pointer (some ⟨16, 0, none⟩), .pointer (some ⟨2, 0, none⟩)] (Z s c0 c1 fm fd l0 l1 inp k (j : Nat) p Q) (fun r σ' => r = .bool dn ∧ σ' = Zmet s (IntKind.i64.wrap (c0 + 1)) c1 fm fd l0 l1 inp k (j : Nat) v Q dn) :=
  WF.run ev0_ok (giv := givL [(20, .c (.tuple #[]) (Zmet s (IntKind.i64.wrap (c0 + 1)) c1 fm fd l0 l1 inp k (j : Nat) v Q dn))]) (n := 200) (fn := Try.f95)
    (p' := True ∧ WF M.toEnv 111 [.pointer (some ⟨16, 0, none⟩), .pointer (some ⟨2, 0, none⟩)] (Z s c0 c1 fm fd l0 l1 inp k (j : Nat) p Q) (fun r σ' => r = .tuple #[] ∧ σ' = Zmet s (IntKind.i64.wrap (c0 + 1)) c1 fm fd l0 l1 inp k (j : Nat) v Q dn)) Try.func95 rfl (by kernel_rfl) ⟨trivial, scan_met c0 c1 fm fd l0 l1 inp k p j v Q dn hj hdn hv0 hQ ha hb hv h0 f0⟩
theorem hp_not {s : HS} (c0 c1 fm fd : Int) (l0 l1 : List Nat) (inp : Blk) (k p : Int) (j : Nat) (Q : List Int) (dn : Bool) (hj : j < 4) (hdn : dn = decide (((j + 1 : Nat) : Int) = 4)) (hQ : Q.length ≤ 1000) (ha : j < s.n + 1) (hb : s.bs[j]? = some (.bool false)) (hv : s.ws[j]? = some (.int .u64 0)) (h0 : s.MOk) (f0 : s.MFlat) :
    WF M.toEnv 95 [.pointer (some ⟨16, 0, none⟩), .pointer (some ⟨2, 0, none⟩)] (Z s c0 c1 fm fd l0 l1 inp k (j : Nat) p Q) (fun r σ' => r = .bool dn ∧ σ' = Znot s (IntKind.i64.wrap (c0 + 1)) c1 fm fd l0 l1 inp k (j : Nat) Q dn) :=
  WF.run ev0_ok (giv := givL [(20, .c (.tuple #[]) (Znot s (IntKind.i64.wrap (c0 + 1)) c1 fm fd l0 l1 inp k (j : Nat) Q dn))]) (n := 200) (fn := Try.f95)
    (p' := True ∧ WF M.toEnv 111 [.pointer (some ⟨16, 0, none⟩), .pointer (some ⟨2, 0, none⟩)] (Z s c0 c1 fm fd l0 l1 inp k (j : Nat) p Q) (fun r σ' => r = .tuple #[] ∧ σ' = Znot s (IntKind.i64.wrap (c0 + 1)) c1 fm fd l0 l1 inp k (j : Nat) Q dn)) Try.func95 rfl (by kernel_rfl) ⟨trivial, scan_not c0 c1 fm fd l0 l1 inp k p j Q dn hj hdn hQ ha hb hv h0 f0⟩

/-- A step of retire's operation that is not the last. -/
theorem ret_met {s : HS} (c0 c1 fm fd : Int) (l0 l1 : List Nat) (inp : Blk) (k p : Int) (j : Nat) (v : Int) (Q : List Int) (hj : j < 3) (hv0 : v ≠ 0) (hQ : Q.length ≤ 1000) (ha : j < s.n + 1) (hb : s.bs[j]? = some (.bool false)) (hv : s.ws[j]? = some (.int .u64 v)) (h0 : s.MOk) (f0 : s.MFlat) :
    WF M.toEnv 57 [.pointer (some ⟨13, 0, none⟩), .pointer (some ⟨2, 0, none⟩)] (Z s c0 c1 fm fd l0 l1 inp k (j : Nat) p Q) (fun r σ' => r = .bool false ∧ σ' = Zmet s (IntKind.i64.wrap (c0 + 1)) c1 fm fd l0 l1 inp k (j : Nat) v Q false) :=
  WF.run ev0_ok (giv := givL [(19, .c (.bool false) (Zmet s (IntKind.i64.wrap (c0 + 1)) c1 fm fd l0 l1 inp k (j : Nat) v Q false))]) (n := 200) (fn := Try.f57)
    (p' := True ∧ WF M.toEnv 95 [.pointer (some ⟨16, 0, none⟩), .pointer (some ⟨2, 0, none⟩)] (Z s c0 c1 fm fd l0 l1 inp k (j : Nat) p Q) (fun r σ' => r = .bool false ∧ σ' = Zmet s (IntKind.i64.wrap (c0 + 1)) c1 fm fd l0 l1 inp k (j : Nat) v Q false)) Try.func57 rfl (by kernel_rfl) ⟨trivial, hp_met c0 c1 fm fd l0 l1 inp k p j v Q false (by omega) (by rw [decide_eq_false]; omega) hv0 hQ ha hb hv h0 f0⟩
theorem ret_not {s : HS} (c0 c1 fm fd : Int) (l0 l1 : List Nat) (inp : Blk) (k p : Int) (j : Nat) (Q : List Int) (hj : j < 3) (hQ : Q.length ≤ 1000) (ha : j < s.n + 1) (hb : s.bs[j]? = some (.bool false)) (hv : s.ws[j]? = some (.int .u64 0)) (h0 : s.MOk) (f0 : s.MFlat) :
    WF M.toEnv 57 [.pointer (some ⟨13, 0, none⟩), .pointer (some ⟨2, 0, none⟩)] (Z s c0 c1 fm fd l0 l1 inp k (j : Nat) p Q) (fun r σ' => r = .bool false ∧ σ' = Znot s (IntKind.i64.wrap (c0 + 1)) c1 fm fd l0 l1 inp k (j : Nat) Q false) :=
  WF.run ev0_ok (giv := givL [(19, .c (.bool false) (Znot s (IntKind.i64.wrap (c0 + 1)) c1 fm fd l0 l1 inp k (j : Nat) Q false))]) (n := 200) (fn := Try.f57)
    (p' := True ∧ WF M.toEnv 95 [.pointer (some ⟨16, 0, none⟩), .pointer (some ⟨2, 0, none⟩)] (Z s c0 c1 fm fd l0 l1 inp k (j : Nat) p Q) (fun r σ' => r = .bool false ∧ σ' = Znot s (IntKind.i64.wrap (c0 + 1)) c1 fm fd l0 l1 inp k (j : Nat) Q false)) Try.func57 rfl (by kernel_rfl) ⟨trivial, hp_not c0 c1 fm fd l0 l1 inp k p j Q false (by omega) (by rw [decide_eq_false]; omega) hQ ha hb hv h0 f0⟩

def pi1719 (i : Nat) : Nat := if i = 17 then 19 else i
/-- What was met lies where it lay before. -/
theorem VB.met {K : FuncId} {nt : Nat} {kk : List Item} {R : Value → St → Prop} {s : HS} {m : Nat} {old : List Value} {c0 c1 fm fd : Int} {l0 l1 : List Nat} {inp : Blk} {k : Int} {j : Nat} {v : Int} {Q : List Int} {f : Fr} (l : List (Nat × Value)) (h : s.Nice m old) (hw : WasA s m old) (his : ∀ n, inp.sc n) (hir : ∀ ρ, renB ρ inp = inp)
    (hl : ∀ p ∈ l, f.get p.1 = some p.2) (hlr : ∀ p ∈ l, AH.ren (loc pi1719) p.2 = p.2) (hls : ∀ p ∈ l, Sc 18 p.2) (hd : f.df = [])
    (hk : VB 0 M K nt kk (frL l) (Z s c0 c1 fm fd l0 l1 inp k ((j + 1 : Nat) : Int) (((Q ++ [v]).length : Nat) : Int) (Q ++ [v])) R) : VB 0 M K nt kk f (Zmet s c0 c1 fm fd l0 l1 inp k (j : Nat) v Q false) R := by
  refine VB.toY7 pi1719 l (cnt_nice h c0 c1) (cnt_was hw c0 c1) (XO_beside fm fd l0 l1 his hir k ((j + 1 : Nat) : Int) (((Q ++ [v]).length : Nat) : Int) (Q ++ [v]) false) (Nat.zero_le _) (fun i hi => absurd hi (Nat.not_lt_zero _)) (fun i hi => by unfold pi1719; rw [if_neg (by omega)]) (fun i j hi hj e => ?_) (fun i hi => ?_) (fun i h7 hi hlv => ?_) hl hlr hls hd hk
  · have h1 : i < 18 := hi
    have h2 : j < 18 := hj
    unfold pi1719 at e
    split at e <;> split at e <;> omega
  · rw [Zmet, mix_get, if_pos hi]
  · have h18 : i < 18 := hi
    have hZ : ∀ i, 7 ≤ i → i < 22 → (Zmet s c0 c1 fm fd l0 l1 inp k (j : Nat) v Q false).get i = if 21 = i then gB else if 20 = i then gB else if 19 = i then .row 89 1 (wds (Q ++ [v])) else if 18 = i then .cells 89 [.int .u64 v] else if 17 = i then .dead else if 16 = i then hpO ((j : Nat) + 1) ((Q.length + 1 : Nat) : Int) (.slice (some ⟨19, 0, none⟩) (Q.length + 1) unk) false else if 15 = i then .dead else if 14 = i then .dead else if 13 = i then opB k false 0 else (XR fm fd l0 l1 inp).get i := fun i h7 h22 => by
      rw [Zmet, mix_get, if_neg (by omega)]
      simp only [XO, St.get_push]
      rfl
    have hX : ∀ i, (XO fm fd l0 l1 inp k ((j + 1 : Nat) : Int) (((Q ++ [v]).length : Nat) : Int) (mv 17 (Q ++ [v])) false (mr (Q ++ [v]))).get i = if 17 = i then mr (Q ++ [v]) else if 16 = i then hpO ((j + 1 : Nat) : Int) (((Q ++ [v]).length : Nat) : Int) (mv 17 (Q ++ [v])) false else if 15 = i then .dead else if 14 = i then .dead else if 13 = i then opB k false 0 else (XR fm fd l0 l1 inp).get i := fun i => by
      simp only [XO, St.get_push]
      rfl
    rw [hX] at hlv ⊢
    by_cases h17 : i = 17
    · subst h17
      show (Zmet s c0 c1 fm fd l0 l1 inp k (j : Nat) v Q false).get 19 = renB _ (mr (Q ++ [v]))
      rw [hZ 19 (by omega) (by omega), mr_ren, mr_snoc]
      rfl
    · have hp : pi1719 i = i := by unfold pi1719; rw [if_neg h17]
      rw [hp, hZ i h7 (by omega), if_neg (by omega), if_neg (by omega), if_neg (by omega), if_neg (by omega), if_neg (show ¬ 17 = i by omega), if_neg (show ¬ 17 = i by omega)]
      by_cases h16 : 16 = i
      · subst h16
        rw [if_pos rfl, if_pos rfl]
        show _ = renB (loc pi1719) (hpO _ _ _ _)
        simp only [hpO, renB, List.map_cons, List.map_nil, ren_int, ren_bool, mv_ren]
        show _ = Blk.cells 161 [_, _, _, _, _, _, _, _, _, mv 19 (Q ++ [v]), _, _]
        rw [mv_snoc, List.length_append]
        rfl
      · rw [if_neg h16, if_neg h16]
        split
        · rfl
        split
        · rfl
        split
        · exact ((Fix.opB (n := 17) (by omega) k false 0).2 _ fun i hi _ => by unfold pi1719; rw [if_neg (by omega)]).symm
        · exact (((XR_bes 13 (by omega) fm fd l0 l1 his hir).fix i h7).2 _ fun i hi _ => by unfold pi1719; rw [if_neg (by omega)]).symm
theorem VB.notmet {K : FuncId} {nt : Nat} {kk : List Item} {R : Value → St → Prop} {s : HS} {m : Nat} {old : List Value} {c0 c1 fm fd : Int} {l0 l1 : List Nat} {inp : Blk} {k : Int} {j : Nat} {Q : List Int} {f : Fr} (l : List (Nat × Value)) (h : s.Nice m old) (hw : WasA s m old) (his : ∀ n, inp.sc n) (hir : ∀ ρ, renB ρ inp = inp)
    (hl : ∀ p ∈ l, f.get p.1 = some p.2) (hlr : ∀ p ∈ l, AH.ren (loc id) p.2 = p.2) (hls : ∀ p ∈ l, Sc 18 p.2) (hd : f.df = [])
    (hk : VB 0 M K nt kk (frL l) (Z s c0 c1 fm fd l0 l1 inp k ((j + 1 : Nat) : Int) ((Q.length : Nat) : Int) Q) R) : VB 0 M K nt kk f (Znot s c0 c1 fm fd l0 l1 inp k (j : Nat) Q false) R := by
  have hB := XO_beside fm fd l0 l1 his hir k ((j + 1 : Nat) : Int) ((Q.length : Nat) : Int) Q false
  refine VB.toY7 id l (cnt_nice h c0 c1) (cnt_was hw c0 c1) hB (Nat.zero_le _) (fun i hi => absurd hi (Nat.not_lt_zero _)) (fun i hi => rfl) (fun i j hi hj e => e) (fun i hi => ?_) (fun i h7 hi hlv => ?_) hl hlr hls hd hk
  · rw [Znot, mix_get, if_pos hi]
  · have h18 : i < 18 := hi
    rw [hB.keep id (fun _ _ _ => rfl) i h7]
    show (Znot s c0 c1 fm fd l0 l1 inp k (j : Nat) Q false).get i = _
    rw [Znot, mix_get, if_neg (by omega), St.get_push, if_neg (by show ¬ 19 = i; omega), St.get_push, if_neg (by show ¬ 18 = i; omega)]
    rfl
end
end Go.Proofs.Ytlnlopeodpamdaa.Hx
end

section
/-
  What hp's operation met, copied.
-/
set_option maxRecDepth 100000
set_option linter.unusedVariables false
namespace Go.Proofs.Ytlnlopeodpamdaa.Hx
open Go AH Go.Proofs
noncomputable section

def metS (σ : St) (Q : List Int) : St := (σ.push .dead).push (mr Q)
theorem metS_get (σ : St) (Q : List Int) (i : Nat) : (metS σ Q).get i = if σ.next + 1 = i then mr Q else if σ.next = i then .dead else σ.get i := by
  rw [metS, St.get_push, St.get_push]; rfl
theorem cloneM {σ : St} {N : Nat} {Q : List Int} (hN : N < σ.next) (hg : σ.get N = mr Q) (hl : Q.length ≤ 1000000) :
    WF M.toEnv 84 [mv N Q] σ (fun r σ' => r = mv (σ.next + 1) Q ∧ σ' = metS σ Q) := by
  have hE : Enter M.P 84 := ⟨Try.f84, Try.func84, by kernel_rfl, by kernel_rfl⟩
  refine WF.know hE fun hout hsc => ?_
  refine WF.forget (R := fun r => r = mv (σ.next + 1) Q) (by show σ.next ≤ σ.next + 2; omega) (fun i => ?_) (fun i hi => ?_) ?_
  · rw [metS_get]
    split
    · exact mr_sc _ _
    split
    · trivial
    · exact Blk.sc_mono (hsc i) (by show σ.next ≤ σ.next + 2; omega)
  · rw [metS_get] at hi
    show i < σ.next + 2
    by_cases h1 : σ.next + 1 = i
    · omega
    · rw [if_neg h1] at hi
      by_cases h2 : σ.next = i
      · omega
      · rw [if_neg h2] at hi; have := hout i hi; omega
  · cases Q with
    | nil =>
      refine (WF.run ev0_ok (giv := fun _ => .no) (n := 200) (fn := Try.f84) (v := .slice none 0 0) (σ' := σ) (p' := True) Try.func84 rfl (by kernel_rfl) trivial).mono fun r σ' _ ⟨e1, e2⟩ => ?_
      subst e1; subst e2
      refine ⟨⟨rfl, Sc_nilslice _ _ _⟩, fun i => ?_⟩
      rw [metS_get]
      split
      · exact .inr rfl
      split
      · exact .inr rfl
      · exact .inl rfl
    | cons x r =>
      have hlen : (wds (x :: r)).length = (x :: r).length := by unfold wds; rw [List.length_map]
      have hk : (σ.get N).known = some (wds (x :: r)) := by rw [hg]; rfl
      refine (WF.run ev0_ok (giv := givL [(7, .w (some (.slice (some ⟨σ.next + 1, 0, none⟩) (x :: r).length unk)) (cloned σ 89 (wds (x :: r))))]) (n := 100) (fn := Try.f84) (v := .slice (some ⟨σ.next + 1, 0, none⟩) (x :: r).length unk) (σ' := cloned σ 89 (wds (x :: r)))
        (p' := True ∧ (match appQ M.toEnv (σ.push (.cells 89 [])) 87 87 (.slice (some ⟨σ.next, 0, none⟩) 0 0) (.slice (some ⟨N, 0, none⟩) (x :: r).length unk) with | some (u, σ') => some (some u, σ') | none => none) = some (some (.slice (some ⟨σ.next + 1, 0, none⟩) (x :: r).length unk), cloned σ 89 (wds (x :: r)))) Try.func84 rfl (by kernel_rfl) ⟨trivial, ?_⟩).mono fun r' σ' _ ⟨e1, e2⟩ => ?_
      · have hg' : ((σ.push (.cells 89 [])).get N).known = some (wds (x :: r)) := by rw [St.get_push, if_neg (by omega)]; exact hk
        have h0 : ((σ.push (.cells 89 [])).get σ.next).known = some [] := by rw [St.get_push, if_pos rfl]; rfl
        have hsrc : srcQ (σ.push (.cells 89 [])) T89.size (.slice (some ⟨N, 0, none⟩) (x :: r).length unk) = some ((x :: r).length, wds (x :: r)) := by
          have := src_mid (a := 0) (k := (x :: r).length) (c := unk) hg' (by rw [hlen]; omega)
          rw [List.drop_zero, List.take_of_length_le (by rw [hlen]; omega)] at this
          exact this
        rw [appQ_cap0 (i := T87) (ix := T87) (j := T89) (e := 89) (e2 := 89) ty87 rfl ty87 rfl ty89 hsrc (by show 0 < 1; omega) (by show 0 < 8; omega) h0 (by show 0 < r.length + 1; omega) (by show (8 * (x :: r).length + 4096) * 8 ≤ _; omega)]
        rfl
      · subst e1; subst e2
        refine ⟨⟨rfl, Sc_slice (by show σ.next + 1 < σ.next + 2; omega)⟩, fun i => ?_⟩
        rw [metS_get, cloned_get]
        by_cases h1 : σ.next + 1 = i
        · rw [if_pos h1, if_pos h1]; exact .inl rfl
        · rw [if_neg h1, if_neg h1]
          by_cases h2 : σ.next = i
          · rw [if_pos h2]; exact .inr rfl
          · rw [if_neg h2, if_neg h2]; exact .inl rfl

/-- Beside the heap, once all words were looked at: what was met lies at N. -/
def XU (fm fd : Int) (l0 l1 : List Nat) (inp : Blk) (k p : Int) (N : Nat) (Q : List Int) (A B : Blk) : St := XR fm fd l0 l1 inp |>.push (opB k true 0) |>.push .dead |>.push .dead |>.push (hpO 4 p (mv N Q) true) |>.push A |>.push B
def Nth (N : Nat) (Q : List Int) (A B : Blk) : Prop := (N = 17 ∧ A = mr Q ∧ B = .dead) ∨ (N = 18 ∧ A = .dead ∧ B = mr Q)
theorem Nth.get {N : Nat} {Q : List Int} {A B : Blk} (h : Nth N Q A B) (s : HS) (fm fd : Int) (l0 l1 : List Nat) (inp : Blk) (k p : Int) : (mix s (XU fm fd l0 l1 inp k p N Q A B)).get N = mr Q := by
  rw [mix_get]
  rcases h with ⟨rfl, rfl, rfl⟩ | ⟨rfl, rfl, rfl⟩
  · rw [if_neg (by omega)]; simp only [XU, St.get_push]; rfl
  · rw [if_neg (by omega)]; simp only [XU, St.get_push]; rfl
theorem Nth.bes {N : Nat} {Q : List Int} {A B : Blk} (h : Nth N Q A B) (n : Nat) (hn : 19 ≤ n) (fm fd : Int) (l0 l1 : List Nat) {inp : Blk} (hs : ∀ n, inp.sc n) (hr : ∀ ρ, renB ρ inp = inp) (k p : Int) : Bes n (XU fm fd l0 l1 inp k p N Q A B) := by
  have hA : Fix n A := by
    rcases h with ⟨rfl, rfl, rfl⟩ | ⟨rfl, rfl, rfl⟩
    · exact Fix.mr _ _
    · exact Fix.dead _
  have hB : Fix n B := by
    rcases h with ⟨rfl, rfl, rfl⟩ | ⟨rfl, rfl, rfl⟩
    · exact Fix.dead _
    · exact Fix.mr _ _
  have hN : N < n ∧ N ≠ 4 := by
    rcases h with ⟨rfl, _, _⟩ | ⟨rfl, _, _⟩ <;> omega
  exact ((((((XR_bes n (by omega) fm fd l0 l1 hs hr).push (by show 13 < n; omega) (Fix.opB (by omega) _ _ _)).push (by show 14 < n; omega) (Fix.dead _)).push (by show 15 < n; omega) (Fix.dead _)).push (by show 16 < n; omega) (Fix.hpO hN.1 hN.2 _ _ _ _)).push (by show 17 < n; omega) hA).push (by show 18 < n; omega) hB

theorem met97 {N : Nat} {Q : List Int} {A B : Blk} (h : Nth N Q A B) (s : HS) (fm fd : Int) (l0 l1 : List Nat) (inp : Blk) (k p : Int) (hl : Q.length ≤ 1000000) :
    WF M.toEnv 97 [.pointer (some ⟨16, 0, none⟩)] (mix s (XU fm fd l0 l1 inp k p N Q A B)) (fun r σ' => r = mv 20 Q ∧ σ' = metS (mix s (XU fm fd l0 l1 inp k p N Q A B)) Q) :=
  WF.run ev0_ok (giv := givL [(9, .c (mv 20 Q) (metS (mix s (XU fm fd l0 l1 inp k p N Q A B)) Q))]) (n := 200) (fn := Try.f97)
    (p' := True ∧ WF M.toEnv 84 [mv N Q] (mix s (XU fm fd l0 l1 inp k p N Q A B)) (fun r σ' => r = mv 20 Q ∧ σ' = metS (mix s (XU fm fd l0 l1 inp k p N Q A B)) Q)) Try.func97 rfl (by kernel_rfl) ⟨trivial, cloneM (by rcases h with ⟨rfl, _, _⟩ | ⟨rfl, _, _⟩ <;> (show _ < 19; omega)) (h.get s fm fd l0 l1 inp k p) hl⟩
end
end Go.Proofs.Ytlnlopeodpamdaa.Hx
end

section
/-
  retire's sweep of a list.
-/
set_option maxRecDepth 100000
set_option linter.unusedVariables false
namespace Go.Proofs.Ytlnlopeodpamdaa.Hx
open Go AH Go.Proofs
noncomputable section

/-- From any state to one beside a heap whose row of what was there lies behind all else. -/
theorem VB.toFr {nB : Nat} {K : FuncId} {nt : Nat} {k : List Item} {f : Fr} {R : Value → St → Prop} {s : HS} {m : Nat} {old : List Value} {Y σ : St} (π : Nat → Nat) (l : List (Nat × Value)) (h : s.Nice m old) (hY : Beside Y) (hn : nB ≤ Y.next + 1) (hfix : ∀ i, i < nB → π i = i) (h7 : ∀ i, i < 7 → i ≠ 4 → π i = i)
    (hinj : ∀ i j, i < Y.next + 1 → j < Y.next + 1 → i ≠ 4 → j ≠ 4 → π i = π j → i = j) (hg7 : ∀ i, i < 7 → i ≠ 4 → σ.get i = (hs (awS s (π Y.next) m)).get i) (hgw : (wbA m old).live = true → σ.get (π Y.next) = wbA m old) (hg : ∀ i, 7 ≤ i → i < Y.next → (Y.get i).live = true → σ.get (π i) = renB (loc π) (Y.get i))
    (hl : ∀ p ∈ l, f.get p.1 = some (AH.ren (loc π) p.2)) (hls : ∀ p ∈ l, Sc Y.next p.2) (hd : f.df = [])
    (hk : VB nB M K nt k (frL l) (fr s m old Y) R) : VB nB M K nt k f σ R := by
  have hwf := fr_wf h hY hls
  have hn7 := hY.n
  have h4d : ((fr s m old Y).get 4).live = false := by rw [fr_get, if_pos (by omega), hs_get]; rfl
  refine VB.renum (f' := frL l) (σ' := fr s m old Y) π hn hfix (fun i j hi hj e => ?_) (fun i hi => ?_) hwf (fun t v ht => ?_) (by rw [frL_df]; exact hd) (fun i hi => by rw [frL_df] at hi; simp at hi) hk
  · refine hinj i j (hwf.lt i hi) (hwf.lt j hj) (fun e => ?_) (fun e => ?_) e
    · rw [e, h4d] at hi; cases hi
    · rw [e, h4d] at hj; cases hj
  · have h1 : i < Y.next + 1 := hwf.lt i hi
    have h4 : i ≠ 4 := fun e => by rw [e, h4d] at hi; cases hi
    rw [fr_get] at hi ⊢
    by_cases hi7 : i < 7
    · rw [if_pos hi7] at hi ⊢
      rw [h7 i hi7 h4, hg7 i hi7 h4]
      exact aw_ren h Y.next π (fun i hi h4 => h7 i hi h4) i h4
    · rw [if_neg hi7] at hi ⊢
      by_cases hN : Y.next = i
      · subst hN
        rw [if_pos rfl] at hi ⊢
        rw [hgw hi, wbA_ren h.pold]
      · rw [if_neg hN] at hi ⊢
        exact hg i (by omega) (by omega) hi
  · exact hl _ (frL_mem ht)

def YB (fm fd : Int) (l0 l1 : List Nat) (inp : Blk) (k p : Int) (N : Nat) (Q : List Int) (A B : Blk) (C : Blk) : St := XU fm fd l0 l1 inp k p N Q A B |>.push .dead |>.push (mr Q) |>.push (.cells 87 [mv 20 Q]) |>.push C
def YL (fm fd : Int) (l0 l1 : List Nat) (inp : Blk) (k p : Int) (N : Nat) (Q : List Int) (A B : Blk) (left : List Nat) : St := YB fm fd l0 l1 inp k p N Q A B (lr left)
theorem YB_get (fm fd : Int) (l0 l1 : List Nat) (inp : Blk) (k p : Int) (N : Nat) (Q : List Int) (A B C : Blk) (i : Nat) : (YB fm fd l0 l1 inp k p N Q A B C).get i = if 22 = i then C else if 21 = i then .cells 87 [mv 20 Q] else if 20 = i then mr Q else if 19 = i then .dead else (XU fm fd l0 l1 inp k p N Q A B).get i := by
  rw [YB, St.get_push, St.get_push, St.get_push, St.get_push]; rfl
theorem XU_get (fm fd : Int) (l0 l1 : List Nat) (inp : Blk) (k p : Int) (N : Nat) (Q : List Int) (A B : Blk) (i : Nat) (hi : 7 ≤ i) (h : i < 11) : (XU fm fd l0 l1 inp k p N Q A B).get i = (XR fm fd l0 l1 inp).get i := by
  simp only [XU, St.get_push]
  have h13 : (XR fm fd l0 l1 inp).next = 13 := rfl
  rw [if_neg (by show ¬ 18 = i; omega), if_neg (by show ¬ 17 = i; omega), if_neg (by show ¬ 16 = i; omega), if_neg (by show ¬ 15 = i; omega), if_neg (by show ¬ 14 = i; omega), if_neg (by show ¬ 13 = i; omega)]
theorem YL_beside {N : Nat} {Q : List Int} {A B : Blk} (h : Nth N Q A B) (fm fd : Int) (l0 l1 : List Nat) {inp : Blk} (his : ∀ n, inp.sc n) (hir : ∀ ρ, renB ρ inp = inp) (k p : Int) (left : List Nat) : Beside (YL fm fd l0 l1 inp k p N Q A B left) := by
  refine Bes.home (n := 23) ?_ rfl
  refine ((((h.bes 23 (by omega) fm fd l0 l1 his hir k p).push (by show 19 < 23; omega) (Fix.dead _)).push (by show 20 < 23; omega) (Fix.mr _ _)).push (by show 21 < 23; omega) ?_).push (by show 22 < 23; omega) (Fix.lr _ _)
  refine ⟨fun v hv => ?_, fun π hπ => ?_⟩
  · simp only [List.mem_cons, List.not_mem_nil, or_false] at hv
    rw [hv]
    exact mv_sc _ _ _ (by omega)
  · simp only [renB, List.map_cons, List.map_nil, mv_ren, hπ 20 (by omega) (by omega)]

/-- Which list it is. -/
def Nlt (NL : Nat) (l l0 l1 : List Nat) : Prop := (NL = 9 ∧ l = l0) ∨ (NL = 10 ∧ l = l1)
theorem Nlt.get {NL : Nat} {l l0 l1 : List Nat} (h : Nlt NL l l0 l1) (s : HS) (m : Nat) (old : List Value) (fm fd : Int) (inp : Blk) (k p : Int) (N : Nat) (Q : List Int) (A B C : Blk) : (fr s m old (YB fm fd l0 l1 inp k p N Q A B C)).get NL = lr l := by
  have hNL : 9 ≤ NL ∧ NL ≤ 10 := by rcases h with ⟨rfl, _⟩ | ⟨rfl, _⟩ <;> omega
  rw [fr_get, if_neg (by omega), if_neg (by show ¬ 23 = NL; omega), YB_get, if_neg (by omega), if_neg (by omega), if_neg (by omega), if_neg (by omega), XU_get _ _ _ _ _ _ _ _ _ _ _ _ (by omega) (by omega), XR_get _ _ _ _ _ _ (by omega)]
  rcases h with ⟨rfl, rfl⟩ | ⟨rfl, rfl⟩ <;> rfl

noncomputable def m1 : List Item := pathI 200 [] [.code (bodyC Try.f96)]
theorem m1_eq : m1 = .code (.loop (loopC m1)) :: m1.tail := by kernel_rfl
def fF (k : Int) (L : Value) (ll : Nat) (left : List Nat) (i : Nat) : List (Nat × Value) := [(0, .pointer (some ⟨7, 0, none⟩)), (1, .int .i64 k), (7, L), (8, .func (.func 112) #[] #[.pointer (some ⟨21, 0, none⟩)]), (9, lv 22 left), (20, L), (21, .int .i64 (ll : Nat)), (22, .int .i64 (i : Nat))]

theorem fF_sc {NL : Nat} {l l0 l1 : List Nat} (h : Nlt NL l l0 l1) (k : Int) (ll : Nat) (left : List Nat) (i : Nat) : ∀ p ∈ fF k (lv NL l) ll left i, Sc 23 p.2 := fun p hp => by
  have hNL : NL < 23 := by rcases h with ⟨rfl, _⟩ | ⟨rfl, _⟩ <;> omega
  simp only [fF, List.mem_cons, List.not_mem_nil, or_false] at hp
  rcases hp with rfl | rfl | rfl | rfl | rfl | rfl | rfl | rfl
  · exact Sc_ptr (by show 7 < 23; omega)
  · exact Sc_int _ _ _
  · exact lv_sc _ _ _ hNL
  · refine Sc_func.2 ⟨trivial, fun v hv => by simp at hv, fun v hv => ?_⟩
    simp only [List.mem_cons, List.not_mem_nil, or_false] at hv
    rw [hv]; exact Sc_ptr (by show 21 < 23; omega)
  · exact lv_sc _ _ _ (by omega)
  · exact lv_sc _ _ _ hNL
  · exact Sc_int _ _ _
  · exact Sc_int _ _ _
theorem fF_keep {NL : Nat} {l l0 l1 : List Nat} (h : Nlt NL l l0 l1) (k : Int) (ll : Nat) (left : List Nat) (i : Nat) (π : Nat → Nat) (hπ : ∀ i, i < 23 → i ≠ 4 → π i = i) : ∀ p ∈ fF k (lv NL l) ll left i, AH.ren (loc π) p.2 = p.2 := fun p hp => by
  have hNL : NL < 23 ∧ NL ≠ 4 := by rcases h with ⟨rfl, _⟩ | ⟨rfl, _⟩ <;> omega
  simp only [fF, List.mem_cons, List.not_mem_nil, or_false] at hp
  rcases hp with rfl | rfl | rfl | rfl | rfl | rfl | rfl | rfl
  · simp only [ren_ptr, renA, loc, hπ 7 (by omega) (by omega)]
  · exact ren_int _ _ _
  · show AH.ren _ (lv NL l) = _; rw [lv_ren, hπ NL hNL.1 hNL.2]
  · rw [ren_func]
    show Value.func (.func 112) _ _ = _
    simp [renA, loc, hπ 21 (by omega) (by omega)]
  · show AH.ren _ (lv 22 left) = _; rw [lv_ren, hπ 22 (by omega) (by omega)]
  · show AH.ren _ (lv NL l) = _; rw [lv_ren, hπ NL hNL.1 hNL.2]
  · exact ren_int _ _ _
  · exact ren_int _ _ _

/-- Is a block among what was met? -/
theorem sweep1_ok (s : HS) (m : Nat) (old : List Value) (fm fd : Int) (l0 l1 : List Nat) (inp : Blk) (k p : Int) (N : Nat) (Q : List Int) (A B : Blk) (left : List Nat) (x : Nat) (hx : x < 1000000) (hQ : Q.length ≤ 100000) :
    WF M.toEnv 112 [.int .i64 (x : Nat), .pointer (some ⟨21, 0, none⟩)] (fr s m old (YL fm fd l0 l1 inp k p N Q A B left)) (fun r σ' => r = .bool (decide ((x : Int) ∈ Q)) ∧ σ' = fr s m old (YL fm fd l0 l1 inp k p N Q A B left)) :=
  WF.run ev0_ok (giv := givL [(9, .q (.int .u64 (x : Nat))), (10, .c (.bool (decide ((x : Int) ∈ Q))) (fr s m old (YL fm fd l0 l1 inp k p N Q A B left)))]) (n := 200) (fn := Try.f112)
    (p' := (True ∧ some (Value.int .u64 (IntKind.u64.wrap ((x : Nat) : Int))) = some (.int .u64 (x : Nat))) ∧ WF M.toEnv 113 [mv 20 Q, .int .u64 (x : Nat)] (fr s m old (YL fm fd l0 l1 inp k p N Q A B left)) (fun r σ' => r = .bool (decide ((x : Int) ∈ Q)) ∧ σ' = fr s m old (YL fm fd l0 l1 inp k p N Q A B left)))
    Try.func112 rfl (by kernel_rfl) ⟨⟨trivial, by rw [IntWalk.u64_in _ (by omega)]⟩, contains_ok Q (x : Nat) (by rw [fr_get, if_neg (by omega), if_neg (by show ¬ 23 = 20; omega), YL, YB_get]; rfl) hQ⟩

theorem ll_idx {NL : Nat} {l : List Nat} {i : Nat} (hi : i < l.length) (σ : St) : opQ M.toEnv (frL [(20, lv NL l), (22, .int .i64 ((i : Nat) : Int))]) σ (.indexAddr 86 (.tmp 20) (.tmp 22)) = some (.pointer (some ⟨NL, i * 1, none⟩)) := by
  cases l with
  | nil => simp at hi
  | cons x r => exact indexA_ok (i := T86) (j := T3) (e := 3) (k := i) (by rfl) (by rfl) ty86 rfl ty3 hi
theorem ll_ld {σ : St} {NL : Nat} {l : List Nat} {i : Nat} (hi : i < l.length) (hN : σ.get NL = lr l) : ldVar T3 σ ⟨NL, i * 1, none⟩ = some (.int .i64 ((l[i] : Nat) : Int)) := by
  rw [Nat.mul_one]
  refine ld_cell (cs := ints l) rfl ?_ ?_
  · rw [hN]
    cases l with
    | nil => simp at hi
    | cons x r => rfl
  · unfold ints
    rw [List.getElem?_map, List.getElem?_eq_getElem hi]; rfl

/-- A block that was met is kept. -/
theorem sweep_keep {nB : Nat} (hnB : nB ≤ 21) {R : Value → St → Prop} {NL : Nat} {l l0 l1 : List Nat} (hN : Nlt NL l l0 l1) {s : HS} {m : Nat} {old : List Value} (h : s.Nice m old) {fm fd : Int} {inp : Blk} (his : ∀ n, inp.sc n) (hir : ∀ ρ, renB ρ inp = inp) {k p : Int} {N : Nat} {Q : List Int} {A B : Blk} (hQN : Nth N Q A B) (hQ : Q.length ≤ 100000) {left : List Nat} {i : Nat} (hi : i < l.length) (hx : l[i] < 1000000) (hll : l.length ≤ 100000) (hle : left.length ≤ 100000) (hm : ((l[i] : Nat) : Int) ∈ Q)
    (hk : VB nB M 96 Try.f96.ntmps (.inLoop (loopC m1) :: m1.tail) (frL (fF k (lv NL l) l.length (left ++ [l[i]]) (i + 1))) (fr s m old (YL fm fd l0 l1 inp k p N Q A B (left ++ [l[i]]))) R) :
    VB nB M 96 Try.f96.ntmps (.code (loopC m1) :: .inLoop (loopC m1) :: m1.tail) (frL (fF k (lv NL l) l.length left i)) (fr s m old (YL fm fd l0 l1 inp k p N Q A B left)) R := by
  have happ := app_list (σ := (fr s m old (YL fm fd l0 l1 inp k p N Q A B left)).push (.cells 3 [.int .i64 ((l[i] : Nat) : Int)])) (N := 22) (B := 24) (l := left) (p := l[i]) (by rw [St.get_push, if_neg (by show ¬ 24 = 22; omega), fr_get, if_neg (by omega), if_neg (by show ¬ 23 = 22; omega), YL, YB_get, if_pos rfl]) (by rw [St.get_push, if_pos (by rfl)]; rfl) (by omega)
  have hst : (killR ((fr s m old (YL fm fd l0 l1 inp k p N Q A B left)).push (.cells 3 [.int .i64 ((l[i] : Nat) : Int)])) 22 left).push (.row 3 1 (ints (left ++ [l[i]]))) = ((fr s m old (YB fm fd l0 l1 inp k p N Q A B .dead)).push (.cells 3 [.int .i64 ((l[i] : Nat) : Int)])).push (.row 3 1 (ints (left ++ [l[i]]))) := by
    generalize l[i] = x
    cases left <;> (show _ = _; kernel_rfl)
  rw [hst] at happ
  have hc := sweep1_ok s m old fm fd l0 l1 inp k p N Q A B left l[i] hx hQ
  rw [decide_eq_true hm] at hc
  have hid := ll_idx (NL := NL) hi (fr s m old (YL fm fd l0 l1 inp k p N Q A B left))
  have hld := ll_ld hi (hN.get s m old fm fd inp k p N Q A B (lr left))
  revert hk happ hc hld
  generalize l[i] = x
  intro hk happ hc hld
  refine runS_stop ev0_ok (giv := givL [(23, .q (.bool true)), (24, .q (.pointer (some ⟨NL, i * 1, none⟩))), (25, .q (.int .i64 (x : Nat))), (28, .c (.bool true) (fr s m old (YL fm fd l0 l1 inp k p N Q A B left))), (32, .w (some (.slice (some ⟨25, 0, none⟩) (left.length + 1) unk)) (((fr s m old (YB fm fd l0 l1 inp k p N Q A B .dead)).push (.cells 3 [.int .i64 (x : Nat)])).push (.row 3 1 (ints (left ++ [x]))))), (46, .q (.int .i64 ((i + 1 : Nat) : Int)))]) (n := 200) Try.func96
    (.inLoop (loopC m1) :: m1.tail) [(0, .pointer (some ⟨7, 0, none⟩)), (1, .int .i64 k), (7, lv NL l), (8, .func (.func 112) #[] #[.pointer (some ⟨21, 0, none⟩)]), (9, .slice (some ⟨25, 0, none⟩) (left.length + 1) unk), (20, lv NL l), (21, .int .i64 (l.length : Nat)), (22, .int .i64 ((i + 1 : Nat) : Int))]
    (σ' := ((fr s m old (YB fm fd l0 l1 inp k p N Q A B .dead)).push (.cells 3 [.int .i64 (x : Nat)])).push (.row 3 1 (ints (left ++ [x]))))
    (p' := (((((True ∧ some (Value.bool (ltI (i : Int) ((l.length : Nat) : Int))) = some (.bool true))
      ∧ opQ M.toEnv (frL [(20, lv NL l), (22, .int .i64 ((i : Nat) : Int))]) (fr s m old (YL fm fd l0 l1 inp k p N Q A B left)) (.indexAddr 86 (.tmp 20) (.tmp 22)) = some (.pointer (some ⟨NL, i * 1, none⟩)))
      ∧ ldVar T3 (fr s m old (YL fm fd l0 l1 inp k p N Q A B left)) ⟨NL, i * 1, none⟩ = some (.int .i64 ((x : Nat) : Int)))
      ∧ WF M.toEnv 112 [.int .i64 (x : Nat), .pointer (some ⟨21, 0, none⟩)] (fr s m old (YL fm fd l0 l1 inp k p N Q A B left)) (fun r σ' => r = .bool true ∧ σ' = fr s m old (YL fm fd l0 l1 inp k p N Q A B left)))
      ∧ (match appQ M.toEnv ((fr s m old (YL fm fd l0 l1 inp k p N Q A B left)).push (.cells 3 [.int .i64 (x : Nat)])) 86 86 (lv 22 left) (.slice (some ⟨24, 0, none⟩) 1 1) with | some (u, σ') => some (some u, σ') | none => none) = some (some (.slice (some ⟨25, 0, none⟩) (left.length + 1) unk), ((fr s m old (YB fm fd l0 l1 inp k p N Q A B .dead)).push (.cells 3 [.int .i64 (x : Nat)])).push (.row 3 1 (ints (left ++ [x])))))
      ∧ some (Value.int .i64 (IntKind.i64.wrap (((i : Nat) : Int) + 1))) = some (.int .i64 ((i + 1 : Nat) : Int)))
    (by kernel_rfl) ⟨⟨⟨⟨⟨⟨trivial, by rw [ltI_eq, decide_eq_true (by omega)]⟩, hid⟩, hld⟩, hc⟩, by rw [happ]; rfl⟩, by rw [IntWalk.i64_in _ (by omega)]; rfl⟩ ?_
  have hπ : ∀ i, i ≠ 22 → (if i = 22 then 25 else i) = i := fun i hi => if_neg hi
  refine VB.toFr (fun i => if i = 22 then 25 else i) (fF k (lv NL l) l.length (left ++ [x]) (i + 1)) h (YL_beside hQN fm fd l0 l1 his hir k p (left ++ [x])) (by show nB ≤ 24; omega) (fun i hi => hπ i (by omega)) (fun i hi _ => hπ i (by omega)) (fun i j hi hj _ _ e => ?_) (fun i hi _ => ?_) (fun hl => ?_) (fun i h7 hi hl => ?_) (fun q hq => ?_) (fF_sc hN _ _ _ _) rfl hk
  · have h1 : i < 24 := hi
    have h2 : j < 24 := hj
    have e' : (if i = 22 then 25 else i) = (if j = 22 then 25 else j) := e
    split at e' <;> split at e' <;> omega
  · rw [St.get_push, if_neg (by show ¬ 25 = i; omega), St.get_push, if_neg (by show ¬ 24 = i; omega), fr_get, if_pos hi]
    rfl
  · show St.get _ 23 = _
    rw [St.get_push, if_neg (by show ¬ 25 = 23; omega), St.get_push, if_neg (by show ¬ 24 = 23; omega), fr_get, if_neg (by omega), if_pos (by rfl)]
  · have h23 : i < 23 := hi
    by_cases h22 : i = 22
    · subst h22
      show St.get _ 25 = _
      rw [St.get_push, if_pos (by rfl), YL, YB_get, if_pos rfl, lr_ren, lr_snoc]
    · show St.get _ (if i = 22 then 25 else i) = _
      rw [if_neg h22, St.get_push, if_neg (by show ¬ 25 = i; omega), St.get_push, if_neg (by show ¬ 24 = i; omega), fr_get, if_neg (by omega), if_neg (by show ¬ 23 = i; omega)]
      have hY := YL_beside hQN fm fd l0 l1 his hir k p ([] : List Nat)
      have e : ∀ C, (YB fm fd l0 l1 inp k p N Q A B C).get i = (YL fm fd l0 l1 inp k p N Q A B []).get i := fun C => by
        rw [YL, YB_get, YB_get, if_neg (show ¬ 22 = i by omega), if_neg (show ¬ 22 = i by omega)]
      rw [YL, e, e]
      by_cases h4 : i = 4
      · omega
      · have hk2 : ∀ {n : Nat}, 7 ≤ n → (YL fm fd l0 l1 inp k p N Q A B []).get n = .dead ∨ renB (loc fun i => if i = 22 then 25 else i) ((YL fm fd l0 l1 inp k p N Q A B []).get n) = (YL fm fd l0 l1 inp k p N Q A B []).get n := fun {n} hn => by
          by_cases hn22 : n = 22
          · subst hn22; left; rw [YL, YB_get, if_pos rfl]; rfl
          · right
            rw [YL, YB_get, if_neg (by omega)]
            split
            · simp only [renB, List.map_cons, List.map_nil, mv_ren]
              rfl
            split
            · exact mr_ren _ _
            split
            · rfl
            · exact ((hQN.bes 19 (by omega) fm fd l0 l1 his hir k p).fix n hn).2 _ fun i hi _ => hπ i (by omega)
        rcases hk2 h7 with e | e
        · rw [e]; rfl
        · exact e.symm
  · have hNL : NL < 22 := by rcases hN with ⟨rfl, _⟩ | ⟨rfl, _⟩ <;> omega
    simp only [fF, List.mem_cons, List.not_mem_nil, or_false] at hq
    rcases hq with rfl | rfl | rfl | rfl | rfl | rfl | rfl | rfl
    · simp only [ren_ptr, renA, loc]; rfl
    · simp only [ren_int]; rfl
    · show _ = some (AH.ren _ (lv NL l)); rw [lv_ren, hπ NL (by omega)]; show _ = _; kernel_rfl
    · show _ = some (AH.ren _ (.func (.func 112) #[] #[.pointer (some ⟨21, 0, none⟩)]))
      rw [ren_func]
      simp [renA, loc]
      rfl
    · show _ = some (AH.ren _ (lv 22 (left ++ [x]))); rw [lv_ren, if_pos rfl, lv_snoc 25]; show _ = _; kernel_rfl
    · show _ = some (AH.ren _ (lv NL l)); rw [lv_ren, hπ NL (by omega)]; show _ = _; kernel_rfl
    · simp only [ren_int]; rfl
    · simp only [ren_int]; rfl
end
end Go.Proofs.Ytlnlopeodpamdaa.Hx
end

section
/-
  retire's sweep of a list: the whole.
-/
set_option maxRecDepth 100000
set_option linter.unusedVariables false
namespace Go.Proofs.Ytlnlopeodpamdaa.Hx
open Go AH Go.Proofs
noncomputable section

theorem fF_get (k : Int) (L : Value) (ll : Nat) (left : List Nat) (i : Nat) : ∀ p ∈ fF k L ll left i, (frL (fF k L ll left i)).get p.1 = some p.2 := fun p hp => by
  simp only [fF, List.mem_cons, List.not_mem_nil, or_false] at hp
  rcases hp with rfl | rfl | rfl | rfl | rfl | rfl | rfl | rfl <;> (show _ = _; kernel_rfl)

/-- A block that was not met is given back. -/
theorem sweep_give {nB : Nat} (hnB : nB ≤ 21) {R : Value → St → Prop} {NL : Nat} {l l0 l1 : List Nat} (hN : Nlt NL l l0 l1) {s s' : HS} {m : Nat} {old old' : List Value} (h : s'.Nice (m + 1) old') {fm fd : Int} (hfd : 0 ≤ fd ∧ fd ≤ 1000000) {inp : Blk} (his : ∀ n, inp.sc n) (hir : ∀ ρ, renB ρ inp = inp) {k p : Int} {N : Nat} {Q : List Int} {A B : Blk} (hQN : Nth N Q A B) (hQ : Q.length ≤ 100000) {left : List Nat} {i : Nat} (hi : i < l.length) (hx : l[i] < 1000000) (hll : l.length ≤ 100000) (hm : ((l[i] : Nat) : Int) ∉ Q)
    (hg : WF M.toEnv 30 [.pointer (some ⟨0, 0, none⟩), .int .i64 ((l[i] : Nat) : Int)] (fr s m old (YL fm fd l0 l1 inp k p N Q A B left)) (fun r σ' => r = .int .i64 0 ∧ σ' = newT s' (m + 1) old' (YL fm fd l0 l1 inp k p N Q A B left)))
    (hk : VB nB M 96 Try.f96.ntmps (.inLoop (loopC m1) :: m1.tail) (frL (fF k (lv NL l) l.length left (i + 1))) (fr s' (m + 1) old' (YL fm (fd + 1) l0 l1 inp k p N Q A B left)) R) :
    VB nB M 96 Try.f96.ntmps (.code (loopC m1) :: .inLoop (loopC m1) :: m1.tail) (frL (fF k (lv NL l) l.length left i)) (fr s m old (YL fm fd l0 l1 inp k p N Q A B left)) R := by
  have hc := sweep1_ok s m old fm fd l0 l1 inp k p N Q A B left l[i] hx hQ
  rw [decide_eq_false hm] at hc
  have hid := ll_idx (NL := NL) hi (fr s m old (YL fm fd l0 l1 inp k p N Q A B left))
  have hld := ll_ld hi (hN.get s m old fm fd inp k p N Q A B (lr left))
  revert hk hc hld hg
  generalize l[i] = x
  intro hg hk hc hld
  have hk2 : VB nB M 96 Try.f96.ntmps (.inLoop (loopC m1) :: m1.tail) (frL (fF k (lv NL l) l.length left (i + 1))) (newT s' (m + 1) old' (YL fm (fd + 1) l0 l1 inp k p N Q A B left)) R :=
    VB.fr_same (fF k (lv NL l) l.length left (i + 1)) h (YL_beside hQN fm (fd + 1) l0 l1 his hir k p left) (by show nB ≤ 23; omega) rfl (fun i h7 hl => rfl) (fF_get _ _ _ _ _) (fun q hq π hπ => fF_keep hN _ _ _ _ π hπ q hq) (fF_sc hN _ _ _ _) rfl hk
  revert hg hk2
  generalize m + 1 = m'
  intro hg hk2
  exact runS_stop ev0_ok (giv := givL [(23, .q (.bool true)), (24, .q (.pointer (some ⟨NL, i * 1, none⟩))), (25, .q (.int .i64 (x : Nat))), (28, .c (.bool false) (fr s m old (YL fm fd l0 l1 inp k p N Q A B left))), (38, .c (.int .i64 0) (newT s' m' old' (YL fm fd l0 l1 inp k p N Q A B left))), (43, .q (.int .i64 (fd + 1))), (46, .q (.int .i64 ((i + 1 : Nat) : Int)))]) (n := 200) Try.func96
    (.inLoop (loopC m1) :: m1.tail) (fF k (lv NL l) l.length left (i + 1)) (σ' := newT s' m' old' (YL fm (fd + 1) l0 l1 inp k p N Q A B left))
    (p' := ((((((True ∧ some (Value.bool (ltI (i : Int) ((l.length : Nat) : Int))) = some (.bool true))
      ∧ opQ M.toEnv (frL [(20, lv NL l), (22, .int .i64 ((i : Nat) : Int))]) (fr s m old (YL fm fd l0 l1 inp k p N Q A B left)) (.indexAddr 86 (.tmp 20) (.tmp 22)) = some (.pointer (some ⟨NL, i * 1, none⟩)))
      ∧ ldVar T3 (fr s m old (YL fm fd l0 l1 inp k p N Q A B left)) ⟨NL, i * 1, none⟩ = some (.int .i64 ((x : Nat) : Int)))
      ∧ WF M.toEnv 112 [.int .i64 (x : Nat), .pointer (some ⟨21, 0, none⟩)] (fr s m old (YL fm fd l0 l1 inp k p N Q A B left)) (fun r σ' => r = .bool false ∧ σ' = fr s m old (YL fm fd l0 l1 inp k p N Q A B left)))
      ∧ WF M.toEnv 30 [.pointer (some ⟨0, 0, none⟩), .int .i64 (x : Nat)] (fr s m old (YL fm fd l0 l1 inp k p N Q A B left)) (fun r σ' => r = .int .i64 0 ∧ σ' = newT s' m' old' (YL fm fd l0 l1 inp k p N Q A B left)))
      ∧ some (Value.int .i64 (IntKind.i64.wrap (fd + 1))) = some (.int .i64 (fd + 1)))
      ∧ some (Value.int .i64 (IntKind.i64.wrap (((i : Nat) : Int) + 1))) = some (.int .i64 ((i + 1 : Nat) : Int)))
    (by kernel_rfl) ⟨⟨⟨⟨⟨⟨⟨trivial, by rw [ltI_eq, decide_eq_true (by omega)]⟩, hid⟩, hld⟩, hc⟩, hg⟩, by rw [IntWalk.i64_in _ (by omega)]⟩, by rw [IntWalk.i64_in _ (by omega)]; rfl⟩ hk2

/-- Behind the sweep: list k is what was left. -/
def YE (v : Bool) (fm fd : Int) (l0 l1 : List Nat) (inp : Blk) (k p : Int) (N : Nat) (Q : List Int) (A B : Blk) (left : List Nat) : St := (YL fm fd l0 l1 inp k p N Q A B left).set 8 (.cells 86 (bif v then [lv 9 l0, lv 22 left] else [lv 22 left, lv 10 l1]))
def kOf (v : Bool) : Int := bif v then 1 else 0
def NOf (v : Bool) : Nat := bif v then 10 else 9
def lOf (v : Bool) (l0 l1 : List Nat) : List Nat := bif v then l1 else l0
theorem NltOf (v : Bool) (l0 l1 : List Nat) : Nlt (NOf v) (lOf v l0 l1) l0 l1 := by cases v <;> simp [Nlt, NOf, lOf]

theorem sub_ok {a b : Nat} (h : b ≤ a) (ha : a ≤ 100000) : some (Value.int .i64 (IntKind.i64.wrap (((a : Nat) : Int) - ((b : Nat) : Int)))) = some (.int .i64 ((a - b : Nat) : Int)) := by
  rw [IntWalk.i64_in _ (by omega)]
  congr 2; omega

theorem sweep_end {nB : Nat} {R : Value → St → Prop} (v : Bool) {l0 l1 : List Nat} {s : HS} {m : Nat} {old : List Value} {fm fd : Int} {inp : Blk} {p : Int} {N : Nat} {Q : List Int} {A B : Blk} {left : List Nat} (hl : left.length ≤ (lOf v l0 l1).length) (hll : (lOf v l0 l1).length ≤ 100000)
    (hk : R (.int .i64 (((lOf v l0 l1).length - left.length : Nat) : Int)) (fr s m old (YE v fm fd l0 l1 inp (kOf v) p N Q A B left))) :
    VB nB M 96 Try.f96.ntmps (.code (loopC m1) :: .inLoop (loopC m1) :: m1.tail) (frL (fF (kOf v) (lv (NOf v) (lOf v l0 l1)) (lOf v l0 l1).length left (lOf v l0 l1).length)) (fr s m old (YL fm fd l0 l1 inp (kOf v) p N Q A B left)) R := by
  have e1 : some (Value.bool (ltI (((lOf v l0 l1).length : Nat) : Int) (((lOf v l0 l1).length : Nat) : Int))) = some (.bool false) := by rw [ltI_eq, decide_eq_false (by omega)]
  have e2 := lv_len (NOf v) (lOf v l0 l1) (fr s m old (YE v fm fd l0 l1 inp (kOf v) p N Q A B left)) 54 (by simp)
  have e3 := sub_ok hl hll
  revert hk
  generalize hd : (lOf v l0 l1).length - left.length = d at e3 ⊢
  intro hk
  cases v with
  | false =>
    cases left with
    | nil =>
      exact runS_fin ev0_ok (giv := givL [(23, .q (.bool false)), (55, .q (.int .i64 (l0.length : Nat))), (58, .q (.int .i64 (d : Nat)))]) (n := 200) Try.func96 (v := .int .i64 (d : Nat)) (σ' := fr s m old (YE false fm fd l0 l1 inp 0 p N Q A B []))
        (p' := ((True ∧ some (Value.bool (ltI ((l0.length : Nat) : Int) ((l0.length : Nat) : Int))) = some (.bool false))
          ∧ opQ M.toEnv (frL [(54, lv 9 l0)]) (fr s m old (YE false fm fd l0 l1 inp 0 p N Q A B [])) (.call ⟨.builtin .len, #[.tmp 54], #[86]⟩) = some (.int .i64 (l0.length : Nat)))
          ∧ some (Value.int .i64 (IntKind.i64.wrap (((l0.length : Nat) : Int) - ((0 : Nat) : Int)))) = some (.int .i64 (d : Nat))) (by kernel_rfl) ⟨⟨⟨trivial, e1⟩, e2⟩, e3⟩ hk
    | cons y r =>
      exact runS_fin ev0_ok (giv := givL [(23, .q (.bool false)), (55, .q (.int .i64 (l0.length : Nat))), (58, .q (.int .i64 (d : Nat)))]) (n := 200) Try.func96 (v := .int .i64 (d : Nat)) (σ' := fr s m old (YE false fm fd l0 l1 inp 0 p N Q A B (y :: r)))
        (p' := ((True ∧ some (Value.bool (ltI ((l0.length : Nat) : Int) ((l0.length : Nat) : Int))) = some (.bool false))
          ∧ opQ M.toEnv (frL [(54, lv 9 l0)]) (fr s m old (YE false fm fd l0 l1 inp 0 p N Q A B (y :: r))) (.call ⟨.builtin .len, #[.tmp 54], #[86]⟩) = some (.int .i64 (l0.length : Nat)))
          ∧ some (Value.int .i64 (IntKind.i64.wrap (((l0.length : Nat) : Int) - (((y :: r).length : Nat) : Int)))) = some (.int .i64 (d : Nat))) (by kernel_rfl) ⟨⟨⟨trivial, e1⟩, e2⟩, e3⟩ hk
  | true =>
    cases left with
    | nil =>
      exact runS_fin ev0_ok (giv := givL [(23, .q (.bool false)), (55, .q (.int .i64 (l1.length : Nat))), (58, .q (.int .i64 (d : Nat)))]) (n := 200) Try.func96 (v := .int .i64 (d : Nat)) (σ' := fr s m old (YE true fm fd l0 l1 inp 1 p N Q A B []))
        (p' := ((True ∧ some (Value.bool (ltI ((l1.length : Nat) : Int) ((l1.length : Nat) : Int))) = some (.bool false))
          ∧ opQ M.toEnv (frL [(54, lv 10 l1)]) (fr s m old (YE true fm fd l0 l1 inp 1 p N Q A B [])) (.call ⟨.builtin .len, #[.tmp 54], #[86]⟩) = some (.int .i64 (l1.length : Nat)))
          ∧ some (Value.int .i64 (IntKind.i64.wrap (((l1.length : Nat) : Int) - ((0 : Nat) : Int)))) = some (.int .i64 (d : Nat))) (by kernel_rfl) ⟨⟨⟨trivial, e1⟩, e2⟩, e3⟩ hk
    | cons y r =>
      exact runS_fin ev0_ok (giv := givL [(23, .q (.bool false)), (55, .q (.int .i64 (l1.length : Nat))), (58, .q (.int .i64 (d : Nat)))]) (n := 200) Try.func96 (v := .int .i64 (d : Nat)) (σ' := fr s m old (YE true fm fd l0 l1 inp 1 p N Q A B (y :: r)))
        (p' := ((True ∧ some (Value.bool (ltI ((l1.length : Nat) : Int) ((l1.length : Nat) : Int))) = some (.bool false))
          ∧ opQ M.toEnv (frL [(54, lv 10 l1)]) (fr s m old (YE true fm fd l0 l1 inp 1 p N Q A B (y :: r))) (.call ⟨.builtin .len, #[.tmp 54], #[86]⟩) = some (.int .i64 (l1.length : Nat)))
          ∧ some (Value.int .i64 (IntKind.i64.wrap (((l1.length : Nat) : Int) - (((y :: r).length : Nat) : Int)))) = some (.int .i64 (d : Nat))) (by kernel_rfl) ⟨⟨⟨trivial, e1⟩, e2⟩, e3⟩ hk

def inQ (Q : List Int) (x : Nat) : Bool := decide ((x : Int) ∈ Q)
structure Aft (s s' : HS) (m m' c : Nat) (old' : List Value) (r left oth : List Nat) (Q : List Int) : Prop where
  hp : ∃ ks', Hp2 s' ks' c m' old' ∧ ks'.Perm (left ++ r.filter (inQ Q) ++ oth)
  was : WasA s' m' old'
  m : m' ≤ m + r.length
  ws : s'.ws = s.ws
  cs : s'.cs = s.cs
  bad : s'.bad = s.bad

theorem eraseIdx_perm : ∀ {ks : List Nat} {j x : Nat}, ks[j]? = some x → ks.Perm (x :: ks.eraseIdx j)
  | [], j, x, h => by simp at h
  | y :: r, 0, x, h => by
    have : y = x := by simpa using h
    rw [this]; exact List.Perm.refl _
  | y :: r, j + 1, x, h => by
    have h' : r[j]? = some x := by simpa using h
    show (y :: r).Perm (x :: y :: r.eraseIdx j)
    exact ((eraseIdx_perm h').cons y).trans (List.Perm.swap x y _)

/-- The loop of the sweep. -/
theorem sweep_loop {nB : Nat} (hnB : nB ≤ 21) (v : Bool) {l0 l1 : List Nat} {fm : Int} {inp : Blk} (his : ∀ n, inp.sc n) (hir : ∀ ρ, renB ρ inp = inp) {p : Int} {N : Nat} {Q : List Int} {A B : Blk} (hQN : Nth N Q A B) (hQ : Q.length ≤ 100000) (hll : (lOf v l0 l1).length ≤ 100000) {c : Nat} {oth : List Nat} :
    ∀ (r : List Nat) (i : Nat) (left : List Nat) (s : HS) (m : Nat) (old : List Value) (ks : List Nat) (fd : Int), (lOf v l0 l1).drop i = r → i + r.length = (lOf v l0 l1).length → left.length ≤ i → Hp2 s ks c m old → WasA s m old → ks.Perm (left ++ r ++ oth) → 0 ≤ fd → fd + r.length ≤ 1000000 → m + r.length ≤ 100000 →
      ∃ (s' : HS) (m' : Nat) (old' : List Value), Aft s s' m m' c old' r left oth Q ∧ ∀ R : Value → St → Prop, R (.int .i64 (((lOf v l0 l1).length - (left ++ r.filter (inQ Q)).length : Nat) : Int)) (fr s' m' old' (YE v fm (fd + (r.length - (r.filter (inQ Q)).length : Nat)) l0 l1 inp (kOf v) p N Q A B (left ++ r.filter (inQ Q)))) →
        VB nB M 96 Try.f96.ntmps (.code (loopC m1) :: .inLoop (loopC m1) :: m1.tail) (frL (fF (kOf v) (lv (NOf v) (lOf v l0 l1)) (lOf v l0 l1).length left i)) (fr s m old (YL fm fd l0 l1 inp (kOf v) p N Q A B left)) R
  | [], i, left, s, m, old, ks, fd, hr, hi, hle, hp, hw, hks, hf0, hf1, hm => by
    refine ⟨s, m, old, ⟨⟨ks, hp, by simpa using hks⟩, hw, by simp, rfl, rfl, rfl⟩, fun R hR => ?_⟩
    have hi' : i = (lOf v l0 l1).length := by simpa using hi
    subst hi'
    refine sweep_end v (by omega) hll ?_
    simpa using hR
  | x :: r, i, left, s, m, old, ks, fd, hr, hi, hle, hp, hw, hks, hf0, hf1, hm => by
    have hlen : (x :: r).length = r.length + 1 := rfl
    rw [hlen] at hi hf1 hm
    have hil : i < (lOf v l0 l1).length := by omega
    have hcons := List.drop_eq_getElem_cons hil
    rw [hr] at hcons
    simp only [List.cons.injEq] at hcons
    obtain ⟨hx, hr'⟩ := hcons
    have hxk : x ∈ ks := hks.mem_iff.2 (by simp)
    have hxb := hp.mem hxk
    by_cases hq : ((x : Nat) : Int) ∈ Q
    · have hin : inQ Q x = true := decide_eq_true hq
      obtain ⟨s', m', old', ha, hV⟩ := sweep_loop hnB v his hir hQN hQ hll (c := c) (oth := oth) r (i + 1) (left ++ [x]) s m old ks fd hr'.symm (by omega) (by rw [List.length_append]; show left.length + 1 ≤ i + 1; omega) hp hw (by simpa using hks) hf0 (by omega) (by omega)
      refine ⟨s', m', old', ⟨?_, ha.was, by have := ha.m; rw [hlen]; omega, ha.ws, ha.cs, ha.bad⟩, fun R hR => ?_⟩
      · obtain ⟨ks', h1, h2⟩ := ha.hp
        exact ⟨ks', h1, by rw [List.filter_cons_of_pos hin]; simpa using h2⟩
      · have hk := hV R (by
          rw [List.filter_cons_of_pos hin] at hR
          simp only [List.append_assoc, List.singleton_append]
          have e1 : (x :: r).length - (x :: r.filter (inQ Q)).length = r.length - (r.filter (inQ Q)).length := by simp
          rw [e1] at hR
          exact hR)
        have := sweep_keep hnB (R := R) (NltOf v l0 l1) hp.nice (fm := fm) (fd := fd) his hir (k := kOf v) (p := p) hQN hQ (left := left) hil (by rw [← hx]; omega) hll (by omega) (by rw [← hx]; exact hq)
        rw [← hx] at this
        exact this (VB.inLoop hk)
    · have hin : inQ Q x = false := decide_eq_false hq
      obtain ⟨j, g, g1, g2, g3, g4⟩ := hp.gave hw hxk
      obtain ⟨s', m', old', ha, hV⟩ := sweep_loop hnB v his hir hQN hQ hll (c := c) (oth := oth) r (i + 1) left (backS s x j m old g) (m + 1) (old ++ blkL x 2 g false) (ks.eraseIdx j) (fd + 1) hr'.symm (by omega) (by omega) g3 g4 (by
        have h1 := (eraseIdx_perm g2).symm.trans hks
        have h2 : (left ++ x :: r ++ oth).Perm (x :: (left ++ r ++ oth)) := by
          simp only [List.append_assoc, List.cons_append]
          exact List.perm_middle
        exact (h1.trans h2).cons_inv) (by omega) (by omega) (by omega)
      have hfl : (r.filter (inQ Q)).length ≤ r.length := List.length_filter_le _ _
      refine ⟨s', m', old', ⟨?_, ha.was, by have := ha.m; rw [hlen]; omega, ha.ws, ha.cs, ha.bad⟩, fun R hR => ?_⟩
      · obtain ⟨ks', h1, h2⟩ := ha.hp
        exact ⟨ks', h1, by rw [List.filter_cons_of_neg (by simp [hin])]; exact h2⟩
      · have hk := hV R (by
          rw [List.filter_cons_of_neg (by simp [hin])] at hR
          have e1 : fd + (((x :: r).length - (r.filter (inQ Q)).length : Nat) : Int) = fd + 1 + ((r.length - (r.filter (inQ Q)).length : Nat) : Int) := by rw [hlen]; omega
          rw [e1] at hR
          exact hR)
        have hg := hp.give hw hxk g1 (by omega) (YL_beside hQN fm fd l0 l1 his hir (kOf v) p left)
        have := sweep_give hnB (R := R) (NltOf v l0 l1) (s := s) (old := old) g3.nice (fm := fm) (fd := fd) (by omega) his hir (k := kOf v) (p := p) hQN hQ (left := left) hil (by rw [← hx]; omega) hll (by rw [← hx]; exact hq)
        rw [← hx] at this
        exact this hg (VB.inLoop hk)
end
end Go.Proofs.Ytlnlopeodpamdaa.Hx
end

section
/-
  The last step of retire's operation.
-/
set_option maxRecDepth 100000
set_option linter.unusedVariables false
namespace Go.Proofs.Ytlnlopeodpamdaa.Hx
open Go AH Go.Proofs
noncomputable section

/-- retire's sweep. -/
theorem sweep_ok (v : Bool) {l0 l1 : List Nat} {fm fd : Int} {inp : Blk} (his : ∀ n, inp.sc n) (hir : ∀ ρ, renB ρ inp = inp) {p : Int} {N : Nat} {Q : List Int} {A B : Blk} (hQN : Nth N Q A B) (hQ : Q.length ≤ 100000) (hll : (lOf v l0 l1).length ≤ 100000) {c : Nat} {oth ks : List Nat} {s : HS} {m : Nat} {old : List Value}
    (hp : Hp2 s ks c m old) (hw : WasA s m old) (hks : ks.Perm (lOf v l0 l1 ++ oth)) (hf0 : 0 ≤ fd) (hf1 : fd + (lOf v l0 l1).length ≤ 1000000) (hm : m + (lOf v l0 l1).length ≤ 100000) :
    ∃ (s' : HS) (m' : Nat) (old' : List Value), Aft s s' m m' c old' (lOf v l0 l1) [] oth Q ∧
      WF M.toEnv 96 [.pointer (some ⟨7, 0, none⟩), .int .i64 (kOf v), mv 20 Q] (metS (mix s (XU fm fd l0 l1 inp (kOf v) p N Q A B)) Q) (fun r σ' => r = .int .i64 (((lOf v l0 l1).length - ((lOf v l0 l1).filter (inQ Q)).length : Nat) : Int) ∧
        σ' = fr s' m' old' (YE v fm (fd + ((lOf v l0 l1).length - ((lOf v l0 l1).filter (inQ Q)).length : Nat)) l0 l1 inp (kOf v) p N Q A B ((lOf v l0 l1).filter (inQ Q)))) := by
  obtain ⟨s', m', old', ha, hV⟩ := sweep_loop (nB := 21) (Nat.le_refl _) v (l0 := l0) (l1 := l1) (fm := fm) his hir (p := p) hQN hQ hll (c := c) (oth := oth) (lOf v l0 l1) 0 [] s m old ks fd rfl (by omega) (Nat.zero_le _) hp hw (by simpa using hks) hf0 hf1 hm
  refine ⟨s', m', old', ha, ?_⟩
  refine WF.of_VB (fn := Try.f96) (c := bodyC Try.f96) Try.func96 rfl (by kernel_rfl) (by show 3 ≤ 59; omega) ?_
  have hk := hV (fun r σ' => r = .int .i64 (((lOf v l0 l1).length - ((lOf v l0 l1).filter (inQ Q)).length : Nat) : Int) ∧
        σ' = fr s' m' old' (YE v fm (fd + ((lOf v l0 l1).length - ((lOf v l0 l1).filter (inQ Q)).length : Nat)) l0 l1 inp (kOf v) p N Q A B ((lOf v l0 l1).filter (inQ Q)))) ⟨rfl, rfl⟩
  have hin : ∀ R : Value → St → Prop, VB 21 M 96 Try.f96.ntmps (.code (loopC m1) :: .inLoop (loopC m1) :: m1.tail) (frL (fF (kOf v) (lv (NOf v) (lOf v l0 l1)) (lOf v l0 l1).length [] 0)) (fr s m old (YL fm fd l0 l1 inp (kOf v) p N Q A B [])) R →
      VB 21 M 96 Try.f96.ntmps m1 (frL (fF (kOf v) (lv (NOf v) (lOf v l0 l1)) (lOf v l0 l1).length [] 0)) (mix s (XU fm fd l0 l1 inp (kOf v) p N Q A B |>.push .dead |>.push (mr Q) |>.push (.cells 87 [mv 20 Q]))) R := by
    intro R hk
    refine VB.fr_in (fF (kOf v) (lv (NOf v) (lOf v l0 l1)) (lOf v l0 l1).length [] 0) hp.nice hw (YL_beside hQN fm fd l0 l1 his hir (kOf v) p []) (by show 21 ≤ 23; omega) (by omega) (fun i h7 => ?_) (fF_get _ _ _ _ _) (fun q hq π hπ => fF_keep (NltOf v l0 l1) _ _ _ _ π hπ q hq) (fF_sc (NltOf v l0 l1) _ _ _ _) rfl ?_
    · rw [YL, YB, St.get_push]
      split
      · right; rfl
      · left; rfl
    · rw [m1_eq]
      exact VB.loop1 hk
  have e2 := lv_len (NOf v) (lOf v l0 l1) (mix s (XU fm fd l0 l1 inp (kOf v) p N Q A B |>.push .dead |>.push (mr Q) |>.push (.cells 87 [mv 20 Q]))) 20 (by simp)
  cases v with
  | false =>
    refine runS_stop ev0_ok (giv := givL [(21, .q (.int .i64 (l0.length : Nat)))]) (n := 200) Try.func96 m1 (fF 0 (lv 9 l0) l0.length [] 0) (σ' := mix s (XU fm fd l0 l1 inp 0 p N Q A B |>.push .dead |>.push (mr Q) |>.push (.cells 87 [mv 20 Q]))) (p' := True ∧ opQ M.toEnv (frL [(20, lv 9 l0)]) (mix s (XU fm fd l0 l1 inp 0 p N Q A B |>.push .dead |>.push (mr Q) |>.push (.cells 87 [mv 20 Q]))) (.call ⟨.builtin .len, #[.tmp 20], #[86]⟩) = some (.int .i64 (l0.length : Nat))) (by cases Q <;> (show _ = _; kernel_rfl)) ⟨trivial, e2⟩ (hin _ hk)
  | true =>
    refine runS_stop ev0_ok (giv := givL [(21, .q (.int .i64 (l1.length : Nat)))]) (n := 200) Try.func96 m1 (fF 1 (lv 10 l1) l1.length [] 0) (σ' := mix s (XU fm fd l0 l1 inp 1 p N Q A B |>.push .dead |>.push (mr Q) |>.push (.cells 87 [mv 20 Q]))) (p' := True ∧ opQ M.toEnv (frL [(20, lv 10 l1)]) (mix s (XU fm fd l0 l1 inp 1 p N Q A B |>.push .dead |>.push (mr Q) |>.push (.cells 87 [mv 20 Q]))) (.call ⟨.builtin .len, #[.tmp 20], #[86]⟩) = some (.int .i64 (l1.length : Nat))) (by cases Q <;> (show _ = _; kernel_rfl)) ⟨trivial, e2⟩ (hin _ hk)

noncomputable def st57 : List Item := pathI 13 [false, true] [.code (bodyC Try.f57)]
def gF : List (Nat × Value) := [(0, .pointer (some ⟨13, 0, none⟩)), (1, .pointer (some ⟨2, 0, none⟩)), (19, .bool true)]
/-- Behind the last step. -/
def YG (v : Bool) (fm fd : Int) (l0 l1 : List Nat) (inp : Blk) (p : Int) (N : Nat) (Q : List Int) (A B : Blk) (left : List Nat) (d : Nat) : St := (YE v fm fd l0 l1 inp (kOf v) p N Q A B left).set 13 (opB (kOf v) true (d : Nat))

theorem hold13 (s : HS) (fm fd : Int) (l0 l1 : List Nat) (inp : Blk) (k p : Int) (N : Nat) (Q : List Int) (A B : Blk) : ((metS (mix s (XU fm fd l0 l1 inp k p N Q A B)) Q).get 13).known = some [.bool true, .pointer (some ⟨7, 0, none⟩), .int .i64 k, .pointer (some ⟨16, 0, none⟩), .bool true, .int .i64 0, .int .i64 0] := by
  rw [metS_get, if_neg (by show ¬ 20 = 13; omega), if_neg (by show ¬ 19 = 13; omega), mix_get, if_neg (by omega)]
  simp only [XU, St.get_push]
  rfl

theorem last_fin (v : Bool) {nB : Nat} {R : Value → St → Prop} {l0 l1 : List Nat} {fm fd fd' : Int} {inp : Blk} {p : Int} {N : Nat} {Q : List Int} {A B : Blk} (hQN : Nth N Q A B) (hQ : Q.length ≤ 100000) {s s' : HS} {m' : Nat} {old' : List Value} {left : List Nat} {d : Nat}
    (hs : WF M.toEnv 96 [.pointer (some ⟨7, 0, none⟩), .int .i64 (kOf v), mv 20 Q] (metS (mix s (XU fm fd l0 l1 inp (kOf v) p N Q A B)) Q) (fun r σ' => r = .int .i64 (d : Nat) ∧ σ' = fr s' m' old' (YE v fm fd' l0 l1 inp (kOf v) p N Q A B left)))
    (hR : R (.bool true) (fr s' m' old' (YG v fm fd' l0 l1 inp p N Q A B left d))) : VB nB M 57 Try.f57.ntmps st57 (frL gF) (mix s (XU fm fd l0 l1 inp (kOf v) p N Q A B)) R := by
  have h97 := met97 hQN s fm fd l0 l1 inp (kOf v) p (by omega)
  have hh := hold13 s fm fd l0 l1 inp (kOf v) p N Q A B
  cases v with
  | false =>
    exact runS_fin ev0_ok (giv := givL [(36, .c (mv 20 Q) (metS (mix s (XU fm fd l0 l1 inp 0 p N Q A B)) Q)), (37, .c (.int .i64 (d : Nat)) (fr s' m' old' (YE false fm fd' l0 l1 inp 0 p N Q A B left)))]) (n := 200) Try.func57 (v := .bool true) (σ' := fr s' m' old' (YG false fm fd' l0 l1 inp p N Q A B left d))
      (p' := ((True ∧ WF M.toEnv 97 [.pointer (some ⟨16, 0, none⟩)] (mix s (XU fm fd l0 l1 inp 0 p N Q A B)) (fun r σ' => r = mv 20 Q ∧ σ' = metS (mix s (XU fm fd l0 l1 inp 0 p N Q A B)) Q))
        ∧ (Hold.cell 13 2 (.int .i64 0)).in (metS (mix s (XU fm fd l0 l1 inp 0 p N Q A B)) Q) ∧ (Hold.cell 13 1 (.pointer (some ⟨7, 0, none⟩))).in (metS (mix s (XU fm fd l0 l1 inp 0 p N Q A B)) Q) ∧ True)
        ∧ WF M.toEnv 96 [.pointer (some ⟨7, 0, none⟩), .int .i64 0, mv 20 Q] (metS (mix s (XU fm fd l0 l1 inp 0 p N Q A B)) Q) (fun r σ' => r = .int .i64 (d : Nat) ∧ σ' = fr s' m' old' (YE false fm fd' l0 l1 inp 0 p N Q A B left)))
      (by kernel_rfl) ⟨⟨⟨trivial, h97⟩, ⟨_, hh, rfl⟩, ⟨_, hh, rfl⟩, trivial⟩, hs⟩ hR
  | true =>
    exact runS_fin ev0_ok (giv := givL [(36, .c (mv 20 Q) (metS (mix s (XU fm fd l0 l1 inp 1 p N Q A B)) Q)), (37, .c (.int .i64 (d : Nat)) (fr s' m' old' (YE true fm fd' l0 l1 inp 1 p N Q A B left)))]) (n := 200) Try.func57 (v := .bool true) (σ' := fr s' m' old' (YG true fm fd' l0 l1 inp p N Q A B left d))
      (p' := ((True ∧ WF M.toEnv 97 [.pointer (some ⟨16, 0, none⟩)] (mix s (XU fm fd l0 l1 inp 1 p N Q A B)) (fun r σ' => r = mv 20 Q ∧ σ' = metS (mix s (XU fm fd l0 l1 inp 1 p N Q A B)) Q))
        ∧ (Hold.cell 13 2 (.int .i64 1)).in (metS (mix s (XU fm fd l0 l1 inp 1 p N Q A B)) Q) ∧ (Hold.cell 13 1 (.pointer (some ⟨7, 0, none⟩))).in (metS (mix s (XU fm fd l0 l1 inp 1 p N Q A B)) Q) ∧ True)
        ∧ WF M.toEnv 96 [.pointer (some ⟨7, 0, none⟩), .int .i64 1, mv 20 Q] (metS (mix s (XU fm fd l0 l1 inp 1 p N Q A B)) Q) (fun r σ' => r = .int .i64 (d : Nat) ∧ σ' = fr s' m' old' (YE true fm fd' l0 l1 inp 1 p N Q A B left)))
      (by kernel_rfl) ⟨⟨⟨trivial, h97⟩, ⟨_, hh, rfl⟩, ⟨_, hh, rfl⟩, trivial⟩, hs⟩ hR

theorem gF_sc : ∀ p ∈ gF, Sc 19 p.2 := fun p hp => by
  simp only [gF, List.mem_cons, List.not_mem_nil, or_false] at hp
  rcases hp with rfl | rfl | rfl
  · exact Sc_ptr (by show 13 < 19; omega)
  · exact Sc_ptr (by show 2 < 19; omega)
  · exact Sc_bool _ _
theorem gF_get : ∀ p ∈ gF, (frL gF).get p.1 = some p.2 := fun p hp => by
  simp only [gF, List.mem_cons, List.not_mem_nil, or_false] at hp
  rcases hp with rfl | rfl | rfl <;> rfl

structure LastPre (v : Bool) (s : HS) (c m : Nat) (old : List Value) (ks oth : List Nat) (fd : Int) (l0 l1 : List Nat) : Prop where
  hp : Hp2 s ks c m old
  was : WasA s m old
  perm : ks.Perm (lOf v l0 l1 ++ oth)
  f0 : 0 ≤ fd
  f1 : fd + (lOf v l0 l1).length ≤ 1000000
  m : m + (lOf v l0 l1).length ≤ 100000
  l : (lOf v l0 l1).length ≤ 100000

/-- What the last step leaves. -/
def LastPost (v : Bool) (s : HS) (c m : Nat) (oth : List Nat) (fm fd : Int) (l0 l1 : List Nat) (inp : Blk) (Q' : List Int) (σ : St) : Prop :=
  ∃ (s' : HS) (m' : Nat) (old' : List Value) (N : Nat) (A B : Blk) (p : Int), Nth N Q' A B ∧ Aft s s' m m' c old' (lOf v l0 l1) [] oth Q' ∧
    WF M.toEnv 57 [.pointer (some ⟨13, 0, none⟩), .pointer (some ⟨2, 0, none⟩)] σ (fun r σ' => r = .bool true ∧ σ' = fr s' m' old' (YG v fm (fd + ((lOf v l0 l1).length - ((lOf v l0 l1).filter (inQ Q')).length : Nat)) l0 l1 inp p N Q' A B ((lOf v l0 l1).filter (inQ Q')) ((lOf v l0 l1).length - ((lOf v l0 l1).filter (inQ Q')).length)))

theorem XU_all (fm fd : Int) (l0 l1 : List Nat) (inp : Blk) (k p : Int) (N : Nat) (Q : List Int) (A B : Blk) (i : Nat) : (XU fm fd l0 l1 inp k p N Q A B).get i = if 18 = i then B else if 17 = i then A else if 16 = i then hpO 4 p (mv N Q) true else if 15 = i then .dead else if 14 = i then .dead else if 13 = i then opB k true 0 else (XR fm fd l0 l1 inp).get i := by
  rw [XU, St.get_push, St.get_push, St.get_push, St.get_push, St.get_push, St.get_push]; rfl
def pi1819 (i : Nat) : Nat := if i = 18 then 19 else i
theorem last_met (v : Bool) {s : HS} {c m : Nat} {old : List Value} {ks oth : List Nat} {c0 c1 fm fd : Int} {l0 l1 : List Nat} {inp : Blk} (his : ∀ n, inp.sc n) (hir : ∀ ρ, renB ρ inp = inp) {p w : Int} {Q : List Int} (h : LastPre v s c m old ks oth fd l0 l1) (hw0 : w ≠ 0) (hQ : Q.length ≤ 1000) (hv : s.ws[3]? = some (.int .u64 w)) :
    LastPost v (cnt s (IntKind.i64.wrap (c0 + 1)) c1) c m oth fm fd l0 l1 inp (Q ++ [w]) (Z s c0 c1 fm fd l0 l1 inp (kOf v) (3 : Nat) p Q) := by
  have hQN : Nth 18 (Q ++ [w]) .dead (mr (Q ++ [w])) := .inr ⟨rfl, rfl, rfl⟩
  have hl : (Q ++ [w]).length ≤ 100000 := by rw [List.length_append]; show Q.length + 1 ≤ _; omega
  have hn := cnt_nice h.hp.nice (IntKind.i64.wrap (c0 + 1)) c1
  obtain ⟨s', m', old', ha, hs⟩ := sweep_ok v (fm := fm) his hir (p := ((Q.length + 1 : Nat) : Int)) hQN hl h.l (cnt_hp2 h.hp (IntKind.i64.wrap (c0 + 1)) c1) (cnt_was h.was _ _) h.perm h.f0 h.f1 h.m
  refine ⟨s', m', old', 18, .dead, mr (Q ++ [w]), ((Q.length + 1 : Nat) : Int), hQN, ha, ?_⟩
  refine WF.of_VB (fn := Try.f57) (c := bodyC Try.f57) Try.func57 rfl (by kernel_rfl) (by show 2 ≤ 44; omega) ?_
  have hm3 := hp_met (s := s) c0 c1 fm fd l0 l1 inp (kOf v) p 3 w Q true (by omega) rfl hw0 hQ (by rw [h.hp.n]; omega) (h.hp.free 3 (by omega)) hv h.hp.nice.ok.m h.hp.nice.mflat
  refine runS_stop ev0_ok (giv := givL [(19, .c (.bool true) (Zmet s (IntKind.i64.wrap (c0 + 1)) c1 fm fd l0 l1 inp (kOf v) (3 : Nat) w Q true))]) (n := 13) Try.func57 st57 gF (σ' := (Zmet s (IntKind.i64.wrap (c0 + 1)) c1 fm fd l0 l1 inp (kOf v) (3 : Nat) w Q true).set 13 (opB (kOf v) true 0))
    (p' := True ∧ WF M.toEnv 95 [.pointer (some ⟨16, 0, none⟩), .pointer (some ⟨2, 0, none⟩)] (Z s c0 c1 fm fd l0 l1 inp (kOf v) (3 : Nat) p Q) (fun r σ' => r = .bool true ∧ σ' = Zmet s (IntKind.i64.wrap (c0 + 1)) c1 fm fd l0 l1 inp (kOf v) (3 : Nat) w Q true)) (by kernel_rfl) ⟨trivial, hm3⟩ ?_
  have hZ : ∀ i, 7 ≤ i → ((Zmet s (IntKind.i64.wrap (c0 + 1)) c1 fm fd l0 l1 inp (kOf v) (3 : Nat) w Q true).set 13 (opB (kOf v) true 0)).get i = if 13 = i then opB (kOf v) true 0 else if 21 = i then gB else if 20 = i then gB else if 19 = i then .row 89 1 (wds (Q ++ [w])) else if 18 = i then .cells 89 [.int .u64 w] else if 17 = i then .dead else if 16 = i then hpO ((3 : Nat) + 1) ((Q.length + 1 : Nat) : Int) (.slice (some ⟨19, 0, none⟩) (Q.length + 1) unk) true else if 15 = i then .dead else if 14 = i then .dead else if 13 = i then opB (kOf v) false 0 else (XR fm fd l0 l1 inp).get i := fun i h7 => by
    rw [St.get_set, Zmet, mix_get, if_neg (show ¬ i < 7 by omega), XO, St.get_push, St.get_push, St.get_push, St.get_push, St.get_push, St.get_push, St.get_push, St.get_push, St.get_push]
    rfl
  have hfx : ∀ i, i < 18 → pi1819 i = i := fun i hi => by unfold pi1819; rw [if_neg (by omega)]
  refine VB.toY7 pi1819 gF hn (cnt_was h.was _ _) ((hQN.bes 19 (by omega) fm fd l0 l1 his hir (kOf v) ((Q.length + 1 : Nat) : Int)).home rfl) (by show 18 ≤ 19; omega) (fun i hi => hfx i hi) (fun i hi => hfx i (by omega)) (fun i j hi hj e => ?_) (fun i hi => ?_) (fun i h7 hi hlv => ?_) gF_get (fun q hq => ?_) gF_sc rfl (last_fin v hQN hl hs ⟨rfl, rfl⟩)
  · have h1 : i < 19 := hi
    have h2 : j < 19 := hj
    unfold pi1819 at e
    split at e <;> split at e <;> omega
  · rw [St.get_set, if_neg (by omega), Zmet, mix_get, if_pos hi]
  · have h19 : i < 19 := hi
    rw [XU_all]
    by_cases h18 : i = 18
    · subst h18
      show St.get _ 19 = renB _ (mr (Q ++ [w]))
      rw [hZ 19 (by omega), mr_ren, mr_snoc]
      rfl
    · rw [hfx i (by omega), hZ i h7, if_neg (show ¬ 18 = i by omega)]
      have h6 : i = 17 ∨ i = 16 ∨ i = 15 ∨ i = 14 ∨ i = 13 ∨ i < 13 := by omega
      rcases h6 with rfl | rfl | rfl | rfl | rfl | h13
      · rfl
      · show hpO _ _ _ _ = renB _ (hpO _ _ _ _)
        simp only [hpO, renB, List.map_cons, List.map_nil, ren_int, ren_bool, mv_ren]
        show _ = Blk.cells 161 [_, _, _, _, _, _, _, _, _, mv 19 (Q ++ [w]), _, _]
        rw [mv_snoc]
        rfl
      · rfl
      · rfl
      · exact ((Fix.opB (n := 17) (by omega) _ _ _).2 _ fun i hi _ => hfx i (by omega)).symm
      · rw [if_neg (show ¬ 13 = i by omega), if_neg (show ¬ 21 = i by omega), if_neg (show ¬ 20 = i by omega), if_neg (show ¬ 19 = i by omega), if_neg (show ¬ 18 = i by omega), if_neg (show ¬ 17 = i by omega), if_neg (show ¬ 16 = i by omega), if_neg (show ¬ 15 = i by omega), if_neg (show ¬ 14 = i by omega), if_neg (show ¬ 13 = i by omega),
          if_neg (show ¬ 17 = i by omega), if_neg (show ¬ 16 = i by omega), if_neg (show ¬ 15 = i by omega), if_neg (show ¬ 14 = i by omega), if_neg (show ¬ 13 = i by omega)]
        exact (((XR_bes 13 (by omega) fm fd l0 l1 his hir).fix i h7).2 _ fun i hi _ => hfx i (by omega)).symm
  · simp only [gF, List.mem_cons, List.not_mem_nil, or_false] at hq
    rcases hq with rfl | rfl | rfl
    · simp only [ren_ptr, renA, loc]; rfl
    · simp only [ren_ptr, renA, loc]; rfl
    · exact ren_bool _ _

theorem last_not (v : Bool) {s : HS} {c m : Nat} {old : List Value} {ks oth : List Nat} {c0 c1 fm fd : Int} {l0 l1 : List Nat} {inp : Blk} (his : ∀ n, inp.sc n) (hir : ∀ ρ, renB ρ inp = inp) {p : Int} {Q : List Int} (h : LastPre v s c m old ks oth fd l0 l1) (hQ : Q.length ≤ 1000) (hv : s.ws[3]? = some (.int .u64 0)) :
    LastPost v (cnt s (IntKind.i64.wrap (c0 + 1)) c1) c m oth fm fd l0 l1 inp Q (Z s c0 c1 fm fd l0 l1 inp (kOf v) (3 : Nat) p Q) := by
  have hQN : Nth 17 Q (mr Q) .dead := .inl ⟨rfl, rfl, rfl⟩
  have hl : Q.length ≤ 100000 := by omega
  have hn := cnt_nice h.hp.nice (IntKind.i64.wrap (c0 + 1)) c1
  obtain ⟨s', m', old', ha, hs⟩ := sweep_ok v (fm := fm) his hir (p := ((Q.length : Nat) : Int)) hQN hl h.l (cnt_hp2 h.hp (IntKind.i64.wrap (c0 + 1)) c1) (cnt_was h.was _ _) h.perm h.f0 h.f1 h.m
  refine ⟨s', m', old', 17, mr Q, .dead, ((Q.length : Nat) : Int), hQN, ha, ?_⟩
  refine WF.of_VB (fn := Try.f57) (c := bodyC Try.f57) Try.func57 rfl (by kernel_rfl) (by show 2 ≤ 44; omega) ?_
  have hm3 := hp_not (s := s) c0 c1 fm fd l0 l1 inp (kOf v) p 3 Q true (by omega) rfl hQ (by rw [h.hp.n]; omega) (h.hp.free 3 (by omega)) hv h.hp.nice.ok.m h.hp.nice.mflat
  refine runS_stop ev0_ok (giv := givL [(19, .c (.bool true) (Znot s (IntKind.i64.wrap (c0 + 1)) c1 fm fd l0 l1 inp (kOf v) (3 : Nat) Q true))]) (n := 13) Try.func57 st57 gF (σ' := (Znot s (IntKind.i64.wrap (c0 + 1)) c1 fm fd l0 l1 inp (kOf v) (3 : Nat) Q true).set 13 (opB (kOf v) true 0))
    (p' := True ∧ WF M.toEnv 95 [.pointer (some ⟨16, 0, none⟩), .pointer (some ⟨2, 0, none⟩)] (Z s c0 c1 fm fd l0 l1 inp (kOf v) (3 : Nat) p Q) (fun r σ' => r = .bool true ∧ σ' = Znot s (IntKind.i64.wrap (c0 + 1)) c1 fm fd l0 l1 inp (kOf v) (3 : Nat) Q true)) (by kernel_rfl) ⟨trivial, hm3⟩ ?_
  have hB := (hQN.bes 19 (by omega) fm fd l0 l1 his hir (kOf v) ((Q.length : Nat) : Int)).home rfl
  refine VB.toY7 id gF hn (cnt_was h.was _ _) hB (by show 18 ≤ 19; omega) (fun i hi => rfl) (fun i hi => rfl) (fun i j hi hj e => e) (fun i hi => ?_) (fun i h7 hi hlv => ?_) gF_get (fun q hq => ?_) gF_sc rfl (last_fin v hQN hl hs ⟨rfl, rfl⟩)
  · rw [St.get_set, if_neg (by omega), Znot, mix_get, if_pos hi]
  · have h19 : i < 19 := hi
    rw [hB.keep id (fun _ _ _ => rfl) i h7]
    rw [XU_all] at hlv ⊢
    have hZ : ((Znot s (IntKind.i64.wrap (c0 + 1)) c1 fm fd l0 l1 inp (kOf v) (3 : Nat) Q true).set 13 (opB (kOf v) true 0)).get i = if 13 = i then opB (kOf v) true 0 else if 19 = i then gB else if 18 = i then gB else if 17 = i then mr Q else if 16 = i then hpO ((3 : Nat) + 1) ((Q.length : Nat) : Int) (mv 17 Q) true else if 15 = i then .dead else if 14 = i then .dead else if 13 = i then opB (kOf v) false 0 else (XR fm fd l0 l1 inp).get i := by
      rw [St.get_set, Znot, mix_get, if_neg (show ¬ i < 7 by omega), XO, St.get_push, St.get_push, St.get_push, St.get_push, St.get_push, St.get_push, St.get_push]
      rfl
    show St.get _ i = _
    rw [hZ]
    have h6 : i = 18 ∨ i = 17 ∨ i = 16 ∨ i = 15 ∨ i = 14 ∨ i = 13 ∨ i < 13 := by omega
    rcases h6 with rfl | rfl | rfl | rfl | rfl | rfl | h13
    · cases hlv
    · rfl
    · rfl
    · rfl
    · rfl
    · rfl
    · rw [if_neg (show ¬ 13 = i by omega), if_neg (show ¬ 19 = i by omega), if_neg (show ¬ 18 = i by omega), if_neg (show ¬ 17 = i by omega), if_neg (show ¬ 16 = i by omega), if_neg (show ¬ 15 = i by omega), if_neg (show ¬ 14 = i by omega), if_neg (show ¬ 13 = i by omega), if_neg (show ¬ 18 = i by omega), if_neg (show ¬ 17 = i by omega), if_neg (show ¬ 16 = i by omega), if_neg (show ¬ 15 = i by omega), if_neg (show ¬ 14 = i by omega), if_neg (show ¬ 13 = i by omega)]
  · simp only [gF, List.mem_cons, List.not_mem_nil, or_false] at hq
    rcases hq with rfl | rfl | rfl
    · simp only [ren_ptr, renA, loc]; rfl
    · simp only [ren_ptr, renA, loc]; rfl
    · exact ren_bool _ _
end
end Go.Proofs.Ytlnlopeodpamdaa.Hx
end
