/-
  The texts HPeek, HAt, HGive, HTwo, HCopy, HLaw, XFill, joined.
-/
import Derived.Test.YtlnlopeodpamdaaLawHMix
import Derived.Test.YtlnlopeodpamdaaAh37
section
/-
  mem's Barred, Store, Peek and Clone over a heap's small state.
-/
set_option maxRecDepth 100000
set_option linter.unusedVariables false
namespace Go.Proofs.Ytlnlopeodpamdaa.Hx
open Go AH Go.Proofs
noncomputable section

def T4 : TyI := { desc := .bool, size := 1, bytes := 1, zero := .bool false, eqok := true }
theorem ty89 : M.toEnv.ty 89 = some T89 := by kernel_rfl
theorem ty87 : M.toEnv.ty 87 = some T87 := by kernel_rfl

theorem ld_cell {σ : St} {i : TyI} {b a : Nat} {v : Value} {cs : List Value} (hi : i.agg = false) (hk : (σ.get b).known = some cs) (hv : cs[a]? = some v) : ldVar i σ ⟨b, a, none⟩ = some v := by
  have ha : a < cs.length := by
    rcases Nat.lt_or_ge a cs.length with h | h
    · exact h
    · rw [List.getElem?_eq_none h] at hv; cases hv
  have hb : Nat.ble (a + 1) cs.length = true := Nat.ble_eq_true_of_le (by omega)
  simp only [ldVar, hi, cond_false, ldCells, hk, hb, Option.isNone_none, Bool.and_self, cond_true]
  have : (cs.drop a).take 1 = [v] := by
    rw [List.drop_eq_getElem_cons ha, List.take_succ_cons, List.take_zero]
    rw [List.getElem?_eq_getElem ha] at hv
    simpa using hv
  rw [this]

theorem idx_ptr {b a n : Nat} (h : a < n) : (if 0 ≤ ((a : Nat) : Int) ∧ ((a : Nat) : Int) < ((n : Nat) : Int) then some (Value.pointer (some (addA ⟨b, 0, none⟩ (((a : Nat) : Int).toNat * 1)))) else none) = some (Value.pointer (some ⟨b, a, none⟩)) := by
  rw [if_pos ⟨by omega, by omega⟩, Int.toNat_natCast, Nat.mul_one]
  unfold addA
  split
  · rename_i h0; rw [h0]
  · simp

/-- A word's bar. -/
theorem barred_ok (s : HS) (a : Nat) (b : Bool) (ha : a < s.n + 1) (hb : s.bs[a]? = some (.bool b)) :
    WF M.toEnv 40 [.pointer (some ⟨2, 0, none⟩), .int .i64 a] (ms s) (fun r σ' => r = .bool b ∧ σ' = ms s) := by
  refine WF.run ev0_ok (giv := givL [(6, .q (.bool false)), (11, .q (.bool false)), (19, .q (.pointer (some ⟨6, a, none⟩))), (20, .q (.bool b))]) (n := 100) (fn := Try.f40) (v := .bool b) (σ' := ms s)
    (p' := (((True ∧ some (Value.bool (ltI (a : Int) 0)) = some (.bool false)) ∧ some (Value.bool (leI ((s.n + 1 : Nat) : Int) a)) = some (.bool false)) ∧ (if 0 ≤ ((a : Nat) : Int) ∧ ((a : Nat) : Int) < ((s.n + 1 : Nat) : Int) then some (Value.pointer (some (addA ⟨6, 0, none⟩ (((a : Nat) : Int).toNat * 1)))) else none) = some (Value.pointer (some ⟨6, a, none⟩))) ∧ ldVar T4 (ms s) ⟨6, a, none⟩ = some (.bool b)) Try.func40 rfl (by kernel_rfl) ⟨⟨⟨⟨trivial, ?_⟩, ?_⟩, ?_⟩, ?_⟩
  · rw [ltI_eq, decide_eq_false (by omega)]
  · rw [leI_eq, decide_eq_false (by omega)]
  · exact idx_ptr ha
  · exact ld_cell (cs := s.bs) rfl (by rw [ms_get]; exact arrR_known _ _ _) hb

theorem appQ_cap0 {E : Env} {σ : St} {t tx : Nat} {i ix : TyI} {e : TypeId} {j : TyI} {b : Nat} {new : List Value} {n : Nat} {x : Value} (ht : E.ty t = some i) (hd : i.desc = .slice e) (htx : E.ty tx = some ix) {e2 : TypeId} (hdx : ix.desc = .slice e2)
    (he : E.ty e = some j) (hs : srcQ σ j.size x = some (n, new)) (hj : 0 < j.size) (hjb : 0 < j.bytes) (hb : (σ.get b).known = some []) (hn : 0 < n) (hbd : (8 * n + 4096) * j.bytes ≤ 281474976710656) :
    appQ E σ t tx (.slice (some ⟨b, 0, none⟩) 0 0) x = some (.slice (some ⟨σ.next, 0, none⟩) n unk, σ.push (.row e j.size new)) := by
  have h1 : ¬ (j.size = 0 ∨ j.bytes = 0) := by omega
  have h2 : (0 : Nat) < half := by unfold half; omega
  have h3 : ¬ (n ≤ 0) := by omega
  have hsz : srcZ σ (.slice e2) j x = some (n, new) := hs
  have hl : ldCells σ ⟨b, 0, none⟩ 0 = some [] := by
    simp only [ldCells, hb]
    rfl
  simp only [appQ, ht, htx, hd, hdx, he, hsz, if_neg h1, if_pos h2, Nat.zero_add, if_neg h3, if_pos hbd, Nat.zero_mul, hl, List.nil_append]

theorem src_mid {σ : St} {b a k c : Nat} {ws : List Value} (hg : (σ.get b).known = some ws) (hin : a + k ≤ ws.length) : srcQ σ 1 (.slice (some ⟨b, a, none⟩) k c) = some (k, (ws.drop a).take k) := by
  have hb : Nat.ble (a + k) ws.length = true := Nat.ble_eq_true_of_le hin
  simp only [srcQ, Nat.mul_one, ldCells, hg, hb, Option.isNone_none, Bool.and_self, cond_true]

/-- What slices.Clone leaves. -/
def cloned (σ : St) (e : Nat) (l : List Value) : St := (σ.push (.cells e [])).push (.row e 1 l)

theorem clone84 {σ : St} {b a k c : Nat} {ws : List Value} (hg : (σ.get b).known = some ws) (hb : b < σ.next) (hk : 0 < k) (hin : a + k ≤ ws.length) (hkb : k ≤ 1000000) :
    WF M.toEnv 84 [.slice (some ⟨b, a, none⟩) k c] σ (fun r σ' => r = .slice (some ⟨σ.next + 1, 0, none⟩) k unk ∧ σ' = cloned σ 89 ((ws.drop a).take k)) := by
  refine WF.run ev0_ok (giv := givL [(7, .w (some (.slice (some ⟨σ.next + 1, 0, none⟩) k unk)) (cloned σ 89 ((ws.drop a).take k)))]) (n := 100) (fn := Try.f84)
    (p' := True ∧ (match appQ M.toEnv (σ.push (.cells 89 [])) 87 87 (.slice (some ⟨σ.next, 0, none⟩) 0 0) (.slice (some ⟨b, a, none⟩) k c) with | some (u, σ') => some (some u, σ') | none => none) = some (some (.slice (some ⟨σ.next + 1, 0, none⟩) k unk), cloned σ 89 ((ws.drop a).take k))) Try.func84 rfl (by kernel_rfl) ⟨trivial, ?_⟩
  have hg' : (((σ.push (.cells 89 [])).get b).known) = some ws := by rw [St.get_push, if_neg (by omega)]; exact hg
  have h0 : (((σ.push (.cells 89 [])).get σ.next).known) = some [] := by rw [St.get_push, if_pos rfl]; rfl
  rw [appQ_cap0 (i := T87) (ix := T87) (j := T89) (e := 89) (e2 := 89) ty87 rfl ty87 rfl ty89 (src_mid hg' hin) (by show 0 < 1; omega) (by show 0 < 8; omega) h0 hk (by show (8 * k + 4096) * 8 ≤ _; omega)]
  rfl

def T27 : TyI := { desc := .slice 4, size := 1, bytes := 24, zero := .slice none 0 0, eqok := true }
theorem ty27 : M.toEnv.ty 27 = some T27 := by kernel_rfl
theorem ty4 : M.toEnv.ty 4 = some T4 := by kernel_rfl
theorem clone88 {σ : St} {b a k c : Nat} {ws : List Value} (hg : (σ.get b).known = some ws) (hb : b < σ.next) (hk : 0 < k) (hin : a + k ≤ ws.length) (hkb : k ≤ 1000000) :
    WF M.toEnv 88 [.slice (some ⟨b, a, none⟩) k c] σ (fun r σ' => r = .slice (some ⟨σ.next + 1, 0, none⟩) k unk ∧ σ' = cloned σ 4 ((ws.drop a).take k)) := by
  refine WF.run ev0_ok (giv := givL [(7, .w (some (.slice (some ⟨σ.next + 1, 0, none⟩) k unk)) (cloned σ 4 ((ws.drop a).take k)))]) (n := 100) (fn := Try.f88)
    (p' := True ∧ (match appQ M.toEnv (σ.push (.cells 4 [])) 27 27 (.slice (some ⟨σ.next, 0, none⟩) 0 0) (.slice (some ⟨b, a, none⟩) k c) with | some (u, σ') => some (some u, σ') | none => none) = some (some (.slice (some ⟨σ.next + 1, 0, none⟩) k unk), cloned σ 4 ((ws.drop a).take k))) Try.func88 rfl (by kernel_rfl) ⟨trivial, ?_⟩
  have hg' : (((σ.push (.cells 4 [])).get b).known) = some ws := by rw [St.get_push, if_neg (by omega)]; exact hg
  have h0 : (((σ.push (.cells 4 [])).get σ.next).known) = some [] := by rw [St.get_push, if_pos rfl]; rfl
  rw [appQ_cap0 (i := T27) (ix := T27) (j := T4) (e := 4) (e2 := 4) ty27 rfl ty27 rfl ty4 (src_mid hg' hin) (by show 0 < 1; omega) (by show 0 < 1; omega) h0 hk (by show (8 * k + 4096) * 1 ≤ _; omega)]
  rfl

theorem held2 (s : HS) (l : List Value) : (Hold.cell 2 0 (.slice (some ⟨5, 0, none⟩) (s.n + 1) (capR s.row s.n))).in (cloned (ms s) 89 l) := by
  refine ⟨.slice (some ⟨5, 0, none⟩) (s.n + 1) (capR s.row s.n) :: .slice (some ⟨6, 0, none⟩) (s.n + 1) (capR s.row s.n) :: s.cs, ?_, rfl⟩
  rw [cloned, St.get_push, if_neg (by show ¬ 8 = 2; omega), St.get_push, if_neg (by show ¬ 7 = 2; omega), ms_get]
  rfl
/-- Words that are looked at. -/
theorem peek_ok (s : HS) (a k : Nat) (hk : 1 ≤ k) (hin : a + k ≤ s.n + 1) (hwl : s.ws.length = s.n + 1) (hn : s.n ≤ 100000) :
    WF M.toEnv 42 [.pointer (some ⟨2, 0, none⟩), .int .i64 a, .int .i64 k] (ms s) (fun r σ' => r = .slice (some ⟨8, 0, none⟩) k unk ∧ σ' = cloned (ms s) 89 ((s.ws.drop a).take k)) := by
  refine WF.run ev0_ok (giv := givL [(8, .q (.bool false)), (11, .q (.bool false)), (17, .q (.bool false)), (33, .q (.int .i64 k)), (34, .q (.int .i64 ((a + k : Nat) : Int))), (35, .q (.slice (some ⟨5, a, none⟩) (a + k - a) (capR s.row s.n - a))), (36, .c (.slice (some ⟨8, 0, none⟩) k unk) (cloned (ms s) 89 ((s.ws.drop a).take k)))]) (n := 100) (fn := Try.f42)
    (p' := (((((((True ∧ some (Value.bool (ltI (a : Int) 0)) = some (.bool false)) ∧ some (Value.bool (ltI (k : Int) 1)) = some (.bool false)) ∧ some (Value.bool (leI ((s.n + 1 : Nat) : Int) a)) = some (.bool false)) ∧ foldMM false (.int .i64 k) [.int .i64 (IntKind.i64.wrap (((s.n + 1 : Nat) : Int) - a))] = some (.int .i64 k)) ∧ some (Value.int .i64 (IntKind.i64.wrap ((a : Int) + k))) = some (.int .i64 ((a + k : Nat) : Int))) ∧ sliceQ M.toEnv (ms s) 87 (.slice (some ⟨5, 0, none⟩) (s.n + 1) (capR s.row s.n)) (some (.int .i64 a)) (some (.int .i64 ((a + k : Nat) : Int))) none = some (.slice (some ⟨5, a, none⟩) (a + k - a) (capR s.row s.n - a))) ∧ WF M.toEnv 84 [.slice (some ⟨5, a, none⟩) (a + k - a) (capR s.row s.n - a)] (ms s) (fun r' σ'' => r' = .slice (some ⟨8, 0, none⟩) k unk ∧ σ'' = cloned (ms s) 89 ((s.ws.drop a).take k)))
      ∧ (Hold.cell 2 0 (.slice (some ⟨5, 0, none⟩) (s.n + 1) (capR s.row s.n))).in (cloned (ms s) 89 ((s.ws.drop a).take k)) ∧ True) Try.func42 rfl (by kernel_rfl) ⟨⟨⟨⟨⟨⟨⟨⟨trivial, ?_⟩, ?_⟩, ?_⟩, ?_⟩, ?_⟩, ?_⟩, ?_⟩, held2 s _, trivial⟩
  · rw [ltI_eq, decide_eq_false (by omega)]
  · rw [ltI_eq, decide_eq_false (by omega)]
  · rw [leI_eq, decide_eq_false (by omega)]
  · rw [IntWalk.i64_in _ (by omega)]
    show some (Value.int .i64 (if (((s.n + 1 : Nat) : Int) - a) < (k : Int) then (((s.n + 1 : Nat) : Int) - a) else (k : Int))) = _
    rw [if_neg (by omega)]
  · rw [IntWalk.i64_in _ (by omega)]
    rfl
  · exact slice_arr (i := T87) (j := T89) (e := 89) (b := 5) (n := s.n) (p := a) (q := a + k) (c := 89) (cs := s.ws) (row := s.row) ty87 rfl ty89 rfl (by rw [ms_get]; rfl) hwl (by omega) (by omega) (by omega) (by omega) (by show s.n + 1 < 4611686018427387904; omega)
  · rw [show a + k - a = k by omega]
    exact clone84 (σ := ms s) (by rw [ms_get]; exact arrR_known _ _ _) (by show 5 < 7; omega) (by omega) (by rw [hwl]; omega) (by omega)

/-- The box of a value that is stored. -/
def boxS (s : HS) (v : Int) : St := (ms s).push (.cells 89 [.int .u64 v])
def putC (s : HS) (c0 c1 : Value) (cr : List Value) : HS := { s with cs := c0 :: c1 :: cr }
theorem use_ok (s : HS) (a : Nat) (v c1 : Int) (c0 : Value) (cr : List Value) (ha : a < s.n + 1) (hb : s.bs[a]? = some (.bool false)) (hwl : s.ws.length = s.n + 1) (h0 : (putC s c0 (.int .i64 (IntKind.i64.wrap (c1 + 1))) cr).MOk) (f0 : (putC s c0 (.int .i64 (IntKind.i64.wrap (c1 + 1))) cr).MFlat) :
    WF M.toEnv 85 [.pointer (some ⟨2, 0, none⟩), .int .i64 1, .int .i64 a, .func (.func 86) #[] #[.pointer (some ⟨7, 0, none⟩)]] (boxS (putC s c0 (.int .i64 c1) cr) v) (fun r σ' => r = .tuple #[] ∧ σ' = boxS { putC s c0 (.int .i64 (IntKind.i64.wrap (c1 + 1))) cr with ws := putAt s.ws a [.int .u64 v] } v) := by
  have hbar : WF M.toEnv 40 [.pointer (some ⟨2, 0, none⟩), .int .i64 a] (boxS (putC s c0 (.int .i64 (IntKind.i64.wrap (c1 + 1))) cr) v) (fun r' σ'' => r' = .bool false ∧ σ'' = boxS (putC s c0 (.int .i64 (IntKind.i64.wrap (c1 + 1))) cr) v) :=
    (liftM (σ := boxS (putC s c0 (.int .i64 (IntKind.i64.wrap (c1 + 1))) cr) v) h0 f0 h0 f0 (by show 7 ≤ 8; omega) (by kernel_rfl) (by kernel_rfl) (by kernel_rfl) (fun u hu => by
      simp only [List.mem_cons, List.not_mem_nil, or_false] at hu
      rcases hu with rfl | rfl
      · exact Sc_ptr (by show 2 < 7; omega)
      · exact Sc_int _ _ _) (by simp [renA, loc]) (fun ρ => by simp) (barred_ok _ a false ha hb)).mono fun r σ' _ ⟨e1, e2⟩ => ⟨e1, e2.trans (by kernel_rfl)⟩
  have hcl : WF M.toEnv 86 [.pointer (some ⟨5, a, none⟩), .pointer (some ⟨7, 0, none⟩)] (boxS (putC s c0 (.int .i64 (IntKind.i64.wrap (c1 + 1))) cr) v) (fun r' σ'' => r' = .tuple #[] ∧ σ'' = boxS { putC s c0 (.int .i64 (IntKind.i64.wrap (c1 + 1))) cr with ws := putAt s.ws a [.int .u64 v] } v) := by
    refine WF.run ev0_ok (giv := fun o => match o.op with | .store _ _ _ => .w none (boxS { putC s c0 (.int .i64 (IntKind.i64.wrap (c1 + 1))) cr with ws := putAt s.ws a [.int .u64 v] } v) | _ => .no) (n := 100) (fn := Try.f86)
      (p' := True ∧ opW M.toEnv (frL [(5, .pointer (some ⟨5, a, none⟩)), (4, .int .u64 v)]) (boxS (putC s c0 (.int .i64 (IntKind.i64.wrap (c1 + 1))) cr) v) (.store 89 (.tmp 5) (.tmp 4)) = some (none, boxS { putC s c0 (.int .i64 (IntKind.i64.wrap (c1 + 1))) cr with ws := putAt s.ws a [.int .u64 v] } v)) Try.func86 rfl (by kernel_rfl) ⟨trivial, ?_⟩
    refine (opW_store (i := T89) rfl rfl ty89 rfl (stCells_arr (row := s.row) (e := 89) (cs := s.ws) (by rw [boxS, St.get_push, if_neg (by show ¬ 7 = 5; omega), ms_get]; rfl) (by rw [hwl]; show a + 1 ≤ s.n + 1; omega) rfl)).trans ?_
    kernel_rfl
  refine WF.run ev0_ok (giv := givL [(22, .c (.bool false) (boxS (putC s c0 (.int .i64 (IntKind.i64.wrap (c1 + 1))) cr) v)), (32, .q (.pointer (some ⟨5, a, none⟩))), (33, .c (.tuple #[]) (boxS { putC s c0 (.int .i64 (IntKind.i64.wrap (c1 + 1))) cr with ws := putAt s.ws a [.int .u64 v] } v))]) (n := 100) (fn := Try.f85)
    (p' := ((True ∧ WF M.toEnv 40 [.pointer (some ⟨2, 0, none⟩), .int .i64 a] (boxS (putC s c0 (.int .i64 (IntKind.i64.wrap (c1 + 1))) cr) v) (fun r' σ'' => r' = .bool false ∧ σ'' = boxS (putC s c0 (.int .i64 (IntKind.i64.wrap (c1 + 1))) cr) v)) ∧ (if 0 ≤ ((a : Nat) : Int) ∧ ((a : Nat) : Int) < ((s.n + 1 : Nat) : Int) then some (Value.pointer (some (addA ⟨5, 0, none⟩ (((a : Nat) : Int).toNat * 1)))) else none) = some (Value.pointer (some ⟨5, a, none⟩))) ∧ WF M.toEnv 86 [.pointer (some ⟨5, a, none⟩), .pointer (some ⟨7, 0, none⟩)] (boxS (putC s c0 (.int .i64 (IntKind.i64.wrap (c1 + 1))) cr) v) (fun r' σ'' => r' = .tuple #[] ∧ σ'' = boxS { putC s c0 (.int .i64 (IntKind.i64.wrap (c1 + 1))) cr with ws := putAt s.ws a [.int .u64 v] } v)) Try.func85 rfl (by kernel_rfl) ⟨⟨⟨trivial, hbar⟩, idx_ptr ha⟩, hcl⟩

theorem box_get (s : HS) (v : Int) (i : Nat) : (boxS s v).get i = if 7 = i then .cells 89 [.int .u64 v] else (ms s).get i := by
  rw [boxS, St.get_push]; rfl
/-- A word is stored. -/
theorem store_ok (s : HS) (a : Nat) (v c1 : Int) (c0 : Value) (cr : List Value) (ha : a < s.n + 1) (hb : s.bs[a]? = some (.bool false)) (hwl : s.ws.length = s.n + 1) (h0 : (putC s c0 (.int .i64 (IntKind.i64.wrap (c1 + 1))) cr).MOk) (f0 : (putC s c0 (.int .i64 (IntKind.i64.wrap (c1 + 1))) cr).MFlat)
    (h1 : ({ putC s c0 (.int .i64 (IntKind.i64.wrap (c1 + 1))) cr with ws := putAt s.ws a [.int .u64 v] } : HS).MOk) :
    WF M.toEnv 43 [.pointer (some ⟨2, 0, none⟩), .int .i64 a, .int .u64 v] (ms (putC s c0 (.int .i64 c1) cr)) (fun r σ' => r = .tuple #[] ∧ σ' = ms { putC s c0 (.int .i64 (IntKind.i64.wrap (c1 + 1))) cr with ws := putAt s.ws a [.int .u64 v] }) := by
  refine WF.forget (R := fun r => r = .tuple #[]) (by show 7 ≤ 7; omega) (fun i => ms_sc h1 i _ (by show 7 ≤ 7; omega)) (fun i hi => by rcases ms_live hi with rfl | rfl | rfl <;> exact Nat.le_of_ble_eq_true rfl) ?_
  refine WF.mono (WF.run ev0_ok (giv := givL [(9, .c (.tuple #[]) (boxS { putC s c0 (.int .i64 (IntKind.i64.wrap (c1 + 1))) cr with ws := putAt s.ws a [.int .u64 v] } v))]) (n := 100) (fn := Try.f43)
    (v := .tuple #[]) (σ' := boxS { putC s c0 (.int .i64 (IntKind.i64.wrap (c1 + 1))) cr with ws := putAt s.ws a [.int .u64 v] } v)
    (p' := True ∧ WF M.toEnv 85 [.pointer (some ⟨2, 0, none⟩), .int .i64 1, .int .i64 a, .func (.func 86) #[] #[.pointer (some ⟨7, 0, none⟩)]] (boxS (putC s c0 (.int .i64 c1) cr) v) (fun r σ' => r = .tuple #[] ∧ σ' = boxS { putC s c0 (.int .i64 (IntKind.i64.wrap (c1 + 1))) cr with ws := putAt s.ws a [.int .u64 v] } v)) Try.func43 rfl (by kernel_rfl) ⟨trivial, use_ok s a v c1 c0 cr ha hb hwl h0 f0⟩) fun r σ' _ ⟨e1, e2⟩ => ?_
  subst e1; subst e2
  refine ⟨⟨rfl, Sc_tuple.2 fun v hv => by simp at hv⟩, fun i => ?_⟩
  rw [box_get]
  by_cases hi : 7 = i
  · subst hi; right; rw [ms_get]; rfl
  · rw [if_neg hi]; exact .inl rfl

theorem cloned_get (σ : St) (e : Nat) (l : List Value) (i : Nat) : (cloned σ e l).get i = if σ.next + 1 = i then .row e 1 l else if σ.next = i then .cells e [] else σ.get i := by
  rw [cloned, St.get_push, St.get_push]; rfl
/-- Words that are looked at, in any state that has the memory. -/
theorem peek_any {s : HS} {σ : St} (a k : Nat) (hk : 1 ≤ k) (hin : a + k ≤ s.n + 1) (hn : s.n ≤ 100000) (h0 : s.MOk) (f0 : s.MFlat) (h7 : 7 ≤ σ.next) (g2 : σ.get 2 = (ms s).get 2) (g5 : σ.get 5 = (ms s).get 5) (g6 : σ.get 6 = (ms s).get 6) :
    WF M.toEnv 42 [.pointer (some ⟨2, 0, none⟩), .int .i64 a, .int .i64 k] σ (fun r σ' => r = .slice (some ⟨σ.next + 1, 0, none⟩) k unk ∧ σ' = cloned σ 89 ((s.ws.drop a).take k)) := by
  have hc := peek_ok s a k hk hin h0.wl hn
  refine WF.know hc.1 fun hout hsc => ?_
  have hg : ∀ i, ((ms s).get i).live = true → σ.get i = (ms s).get i := fun i hi => by
    rcases ms_live hi with rfl | rfl | rfl
    · exact g2
    · exact g5
    · exact g6
  have hs : Small id (ms s) σ := ⟨fun i hi => (by have : i < 7 := hi; show i < σ.next; omega), fun i j _ _ e => e, fun i hi => by rw [ms_flat f0]; exact hg i hi, fun i => ms_sc h0 i _ (Nat.le_refl _), fun i hi => by
    rcases ms_live hi with rfl | rfl | rfl <;> exact Nat.le_of_ble_eq_true rfl⟩
  have hws : ((s.ws.drop a).take k).map (AH.ren (loc (exN id 7 σ.next))) = (s.ws.drop a).take k := by
    have h1 : ∀ v ∈ s.ws, AH.ren (loc (exN id 7 σ.next)) v = v := fun v hv => by
      have h2 := List.map_inj_left.1 (f0.ws.trans (List.map_id _).symm) v hv
      rw [h0.ws v hv (loc (exN id 7 σ.next)) (loc id) fun i hi => absurd hi (Nat.not_lt_zero _)]
      exact h2
    have h3 : ∀ v ∈ (s.ws.drop a).take k, AH.ren (loc (exN id 7 σ.next)) v = v := fun v hv => h1 v (List.mem_of_mem_drop (List.mem_of_mem_take hv))
    exact (List.map_congr_left h3).trans (List.map_id _)
  rw [← ren3 a k]
  refine WF.frame hs (args3 _ _) hc fun r σ₀' _ ⟨e1, e2⟩ => ?_
  subst e1; subst e2
  refine ⟨cloned σ 89 ((s.ws.drop a).take k), ⟨?_, fun i hi hl => ?_, fun j hj hno => ?_, fun j hj => ?_⟩, ?_, rfl⟩
  · show σ.next + 1 + 1 = σ.next + (9 - 7); omega
  · have hi' : i < 9 := hi
    show (cloned σ 89 _).get (exN id 7 σ.next i) = renB (loc (exN id 7 σ.next)) ((cloned (ms s) 89 _).get i)
    rw [cloned_get, cloned_get]
    show _ = renB _ (if 7 + 1 = i then _ else if 7 = i then _ else _)
    by_cases h8 : 7 + 1 = i
    · subst h8
      rw [show exN id 7 σ.next (7 + 1) = σ.next + 1 from rfl, if_pos rfl, if_pos rfl, renB, hws]
    · by_cases h77 : 7 = i
      · subst h77
        rw [show exN id 7 σ.next 7 = σ.next from exN_new, if_neg (by omega), if_pos rfl, if_neg (by omega), if_pos rfl]
        rfl
      · have hl' : i = 2 ∨ i = 5 ∨ i = 6 := by
          rcases hl with hl | hl
          · have : 7 ≤ i := hl
            omega
          · exact ms_live hl
        rw [show exN id 7 σ.next i = i from exN_lt (by omega), if_neg (by omega), if_neg (by omega), if_neg h8, if_neg h77, renB_exN (ms_sc h0 i 7 (Nat.le_refl _)), ms_flat f0]
        rcases hl' with rfl | rfl | rfl
        · exact g2
        · exact g5
        · exact g6
  · have hj' : j < σ.next := hj
    rw [cloned_get, if_neg (by omega), if_neg (by omega)]
  · have hj' : σ.next + 2 ≤ j := hj
    rw [cloned_get, if_neg (by omega), if_neg (by omega)]
    cases hl : (σ.get j).live with
    | false => rfl
    | true => have := hout j hl; omega
  · rw [ren_slice]
    simp only [renA, loc]
    rw [renC_le (Nat.le_refl _)]
    rfl
end
end Go.Proofs.Ytlnlopeodpamdaa.Hx
end

section
/-
  heap's At, where the word is in a block that is taken.
-/
set_option maxRecDepth 100000
set_option linter.unusedVariables false
namespace Go.Proofs.Ytlnlopeodpamdaa.Hx
open Go AH Go.Proofs
noncomputable section

/-- Is a word in a block? -/
theorem has_ok (p k g a : Int) (l : Bool) (hp : -2305843009213693951 ≤ p ∧ p ≤ 2305843009213693951) (hk : 0 ≤ k ∧ k ≤ 2305843009213693951) (ha : -2305843009213693951 ≤ a ∧ a ≤ 2305843009213693951) (σ : St) :
    WF M.toEnv 80 [blkV p k g l, .int .i64 a] σ (fun r σ' => r = .bool (decide (p ≤ a) && decide (a < p + k)) ∧ σ' = σ) := by
  refine WF.anyw (fun v hv ρ => ?_) (fun ρ => by simp) ?_ σ
  · simp only [List.mem_cons, List.not_mem_nil, or_false] at hv
    rcases hv with rfl | rfl
    · simp [blkV]
    · simp
  · by_cases h1 : p ≤ a
    · rw [decide_eq_true h1, Bool.true_and]
      refine (WF.run ev0_ok (giv := givL [(8, .q (.bool true)), (16, .q (.bool (decide (a < p + k))))]) (n := 100) (fn := Try.f80) (v := .bool (decide (a < p + k))) (σ' := St.empty.push (.cells 74 [.int .i64 p, .int .i64 k, .int .i64 g, .bool l]))
        (p' := (True ∧ some (Value.bool (leI p a)) = some (.bool true)) ∧ some (Value.bool (ltI (IntKind.i64.wrap (a - p)) k)) = some (.bool (decide (a < p + k)))) Try.func80 rfl (by kernel_rfl) ⟨⟨trivial, ?_⟩, ?_⟩).mono fun r σ' _ e => e.1
      · rw [leI_eq, decide_eq_true h1]
      · rw [IntWalk.i64_in _ (by omega), ltI_eq]
        congr 2
        exact decide_eq_decide.2 (by omega)
    · rw [decide_eq_false h1, Bool.false_and]
      refine (WF.run ev0_ok (giv := givL [(8, .q (.bool false))]) (n := 100) (fn := Try.f80) (v := .bool false) (σ' := St.empty.push (.cells 74 [.int .i64 p, .int .i64 k, .int .i64 g, .bool l]))
        (p' := (True ∧ some (Value.bool (leI p a)) = some (.bool false))) Try.func80 rfl (by kernel_rfl) ⟨trivial, ?_⟩).mono fun r σ' _ e => e.1
      rw [leI_eq, decide_eq_false h1]

noncomputable def atX (s : HS) (a : Int) (seen : List Nat) : St := (⟨7, .leaf⟩ : St) |>.push (.cells 3 [.int .i64 a]) |>.push (.cells 74 [.int .i64 0, .int .i64 0, .int .i64 0, .bool false]) |>.push (.cells 4 [.bool false]) |>.push (.miter (some 1) s.clock seen s.clock)
noncomputable def atS (s : HS) (a : Int) (seen : List Nat) : St := mix s (atX s a seen)
noncomputable def atF : List (Nat × Value) := [(0, .pointer (some ⟨0, 0, none⟩)), (3, .pointer (some ⟨7, 0, none⟩)), (4, .pointer (some ⟨8, 0, none⟩)), (5, .pointer (some ⟨9, 0, none⟩)), (17, .pointer (some ⟨10, 0, none⟩))]
noncomputable def at1 : List Item := pathI 200 [false] [.code (bodyC Try.f38)]
noncomputable def at2 : List Item := pathI 200 [] (.code (loopC at1) :: .inLoop (loopC at1) :: at1.tail)
theorem at1_eq : at1 = .code (.loop (loopC at1)) :: at1.tail := by kernel_rfl
theorem at2_eq : at2 = .code (.region (idI at2) (opsI at2) false) :: at2.tail := by kernel_rfl

theorem at_start (s : HS) (a : Int) (R : Value → St → Prop) (h : VB 7 M 38 Try.f38.ntmps at1 (frL atF) (atS s a []) R) : WF M.toEnv 38 [.pointer (some ⟨0, 0, none⟩), .int .i64 a] (hs s) R :=
  WF.of_VB (fn := Try.f38) (c := bodyC Try.f38) Try.func38 rfl (by kernel_rfl) (by show 2 ≤ 38; omega)
    (runS_stop ev0_ok (giv := fun _ => .no) (n := 200) Try.func38 at1 atF (σ' := atS s a []) (p' := True) (by kernel_rfl) trivial h)

def atY (s : HS) (a : Int) (seen : List Nat) (cs : List Value) : St := mix s ((atX s a seen).push (.cells 74 cs))
theorem atX_get (s : HS) (a : Int) (seen : List Nat) (i : Nat) (hi : 7 ≤ i) : (atX s a seen).get i = if 10 = i then .miter (some 1) s.clock seen s.clock else if 9 = i then .cells 4 [.bool false] else if 8 = i then .cells 74 [.int .i64 0, .int .i64 0, .int .i64 0, .bool false] else if 7 = i then .cells 3 [.int .i64 a] else .dead := by
  simp only [atX, St.get_push]
  rfl
theorem atS_wf {s : HS} (h : s.Ok) (a : Int) (seen : List Nat) : Wf (frL atF) (atS s a seen) := by
  refine ⟨fun i => ?_, fun i hi => ?_, fun t v ht => ?_⟩
  · rw [atS, mix_get]
    split
    · exact hs_sc h i _ (by show 7 ≤ 11; omega)
    · rw [atX_get _ _ _ _ (by omega)]
      split
      · show 1 < 11; omega
      split
      · intro v hv; simp only [List.mem_singleton] at hv; rw [hv]; exact Sc_bool _ _
      split
      · intro v hv
        simp only [List.mem_cons, List.not_mem_nil, or_false] at hv
        rcases hv with rfl | rfl | rfl | rfl <;> first | exact Sc_int _ _ _ | exact Sc_bool _ _
      split
      · intro v hv; simp only [List.mem_singleton] at hv; rw [hv]; exact Sc_int _ _ _
      · trivial
  · rw [atS, mix_get] at hi
    show i < 11
    by_cases h11 : i < 11
    · exact h11
    · rw [if_neg (by omega), atX_get _ _ _ _ (by omega), if_neg (by omega), if_neg (by omega), if_neg (by omega), if_neg (by omega)] at hi
      cases hi
  · have := frL_mem ht
    simp only [atF, List.mem_cons, Prod.mk.injEq, List.not_mem_nil, or_false] at this
    rcases this with ⟨_, rfl⟩ | ⟨_, rfl⟩ | ⟨_, rfl⟩ | ⟨_, rfl⟩ | ⟨_, rfl⟩ <;> exact Sc_ptr (Nat.le_of_ble_eq_true rfl)

/-- The numbers of all blocks are small. -/
def Small64 (es : List MapEntry) : Prop := ∀ e ∈ es, ∀ p k g v, e.val = blkV p k g v → -2305843009213693951 ≤ p ∧ p ≤ 2305843009213693951 ∧ 0 ≤ k ∧ k ≤ 2305843009213693951
/-- Whether a word is in an entry's block. -/
def hasE (a : Int) (e : MapEntry) : Bool := match e.val with
  | .agg cs => (match cs.toList with | [.int _ p, .int _ k, _, _] => decide (p ≤ a) && decide (a < p + k) | _ => false)
  | _ => false
theorem hasE_blk {a : Int} {e : MapEntry} {p k g : Int} {v : Bool} (h : e.val = blkV p k g v) : hasE a e = (decide (p ≤ a) && decide (a < p + k)) := by
  unfold hasE; rw [h]; rfl

theorem frL_get_atF (q : Nat × Value) (hq : q ∈ atF) : (frL atF).get q.1 = some q.2 := by
  simp only [atF, List.mem_cons, List.not_mem_nil, or_false] at hq
  rcases hq with rfl | rfl | rfl | rfl | rfl <;> rfl
/-- Behind the loop over what is taken: nothing there has the word; or a block that has it is what is told. -/
theorem at_loop (s : HS) (a : Int) (hg : s.Good) (hsm : Small64 s.es) (ha : -2305843009213693951 ≤ a ∧ a ≤ 2305843009213693951) (R : Value → St → Prop)
    (hin : ∀ e ∈ s.es, hasE a e = true → ∀ σ', (∀ i, i < 7 → σ'.get i = (hs s).get i) → R (.tuple #[e.val, .bool true]) σ')
    (hout : (∀ e ∈ s.es, hasE a e = false) → ∀ seen, VB 7 M 38 Try.f38.ntmps (pathI 3 [false] at2.tail) (frL atF) (atS s a seen) R) :
    VB 7 M 38 Try.f38.ntmps at1 (frL atF) (atS s a []) R := by
  rw [at1_eq]
  refine VB.loop (fun f σ => ∃ vis : List MapEntry, f = frL atF ∧ σ = atS s a (vis.map (·.born)) ∧ vis.Nodup ∧ (∀ e ∈ vis, e ∈ s.es) ∧ ∀ e ∈ vis, hasE a e = false)
    (fun f σ => s.es.length - (match σ.get 10 with | .miter _ _ seen _ => seen.length | _ => 0)) ⟨[], rfl, rfl, List.nodup_nil, by simp, by simp⟩ ?_
  intro f σ ⟨vis, hf, hσ, hnd, hsub, hno⟩ ih
  subst hf; subst hσ
  refine runS_stop ev0_ok (giv := fun _ => .no) (n := 20) Try.func38 at2 atF (σ' := atS s a (vis.map (·.born))) (p' := True) (by kernel_rfl) trivial ?_
  refine VB.nextS at2_eq (o := (opsI at2).toList.headD default) (rest := (opsI at2).toList.tail) (x := .tmp 17) (r := 10) (m := 1) (since := s.clock) (seen := vis.map (·.born)) (last := s.clock) (es := s.es) (clock := s.clock) (by kernel_rfl) (by kernel_rfl) (by kernel_rfl) (by kernel_rfl) (by kernel_rfl) (by kernel_rfl) (by kernel_rfl) (not_cleared hg.st) ?_
  intro c hc
  rcases cands_old hg.st hsub hc with ⟨rfl, hall⟩ | ⟨e, rfl, he, hnv⟩
  · refine midS_stop ev0_ok (giv := fun _ => .no) (n := 3) Try.func38 (pathI 3 [false] at2.tail) atF (σ' := atS s a (vis.map (·.born))) (p' := True) (by kernel_rfl) trivial ?_
    exact hout (fun e he => hno e (hall e he)) _
  · obtain ⟨p, k, g, v, hv, hk, hl⟩ := hg.sh e he
    obtain ⟨b1, b2, b3, b4⟩ := hsm e he p k g v hv
    have hhas := hasE_blk (a := a) hv
    have hent : opW M.toEnv (frL [(17, .pointer (some ⟨10, 0, none⟩))]) (atS s a (vis.map (·.born) ++ [e.born])) (.entry (.tmp 17)) = some (some (.tuple #[.int .i64 p, blkV p k g v]), atS s a (vis.map (·.born) ++ [e.born])) := by
      rw [← hk, ← hv]
      exact opW_entry (r := 10) (m := 1) (since := s.clock) (seen := vis.map (·.born) ++ [e.born]) (stepped := s.clock) (es := s.es) rfl (by rw [atS, mix_get, if_neg (by omega), atX_get _ _ _ _ (by omega)]; rfl) (by rw [atS, mix_get, if_pos (by omega), hs_get]; rfl) (by simp) (entry_last hg.st he)
    have hcall := has_ok p k g a v ⟨b1, b2⟩ ⟨b3, b4⟩ ha (atY s a (vis.map (·.born) ++ [e.born]) [.int .i64 p, .int .i64 k, .int .i64 g, .bool v])
    rw [← hhas] at hcall
    cases hh : hasE a e with
    | true =>
      rw [hh] at hcall
      refine midS_fin ev0_ok (giv := fun o => match o.op with | .entry _ => .w (some (.tuple #[.int .i64 p, blkV p k g v])) (atS s a (vis.map (·.born) ++ [e.born])) | _ => givL [(24, .c (.bool true) (atY s a (vis.map (·.born) ++ [e.born]) [.int .i64 p, .int .i64 k, .int .i64 g, .bool v]))] o) (n := 100) Try.func38
        (v := .tuple #[blkV p k g v, .bool true]) (σ' := mix s ((⟨7, .leaf⟩ : St) |>.push (.cells 3 [.int .i64 a]) |>.push (.cells 74 [.int .i64 p, .int .i64 k, .int .i64 g, .bool v]) |>.push (.cells 4 [.bool true]) |>.push (.miter (some 1) s.clock (vis.map (·.born) ++ [e.born]) s.clock) |>.push (.cells 74 [.int .i64 p, .int .i64 k, .int .i64 g, .bool v])))
        (p' := (True ∧ opW M.toEnv (frL [(17, .pointer (some ⟨10, 0, none⟩))]) (atS s a (vis.map (·.born) ++ [e.born])) (.entry (.tmp 17)) = some (some (.tuple #[.int .i64 p, blkV p k g v]), atS s a (vis.map (·.born) ++ [e.born]))) ∧ WF M.toEnv 80 [blkV p k g v, .int .i64 a] (atY s a (vis.map (·.born) ++ [e.born]) [.int .i64 p, .int .i64 k, .int .i64 g, .bool v]) (fun r σ' => r = .bool true ∧ σ' = atY s a (vis.map (·.born) ++ [e.born]) [.int .i64 p, .int .i64 k, .int .i64 g, .bool v]))
        (by kernel_rfl) ⟨⟨trivial, hent⟩, hcall⟩ ?_
      rw [← hv]
      exact hin e he hh _ fun i hi => by rw [mix_get, if_pos hi]
    | false =>
      rw [hh] at hcall
      refine midS_stop ev0_ok (giv := fun o => match o.op with | .entry _ => .w (some (.tuple #[.int .i64 p, blkV p k g v])) (atS s a (vis.map (·.born) ++ [e.born])) | _ => givL [(24, .c (.bool false) (atY s a (vis.map (·.born) ++ [e.born]) [.int .i64 p, .int .i64 k, .int .i64 g, .bool v]))] o) (n := 100) Try.func38
        (.inLoop (loopC at1) :: at1.tail) atF (σ' := atY s a (vis.map (·.born) ++ [e.born]) [.int .i64 p, .int .i64 k, .int .i64 g, .bool v])
        (p' := (True ∧ opW M.toEnv (frL [(17, .pointer (some ⟨10, 0, none⟩))]) (atS s a (vis.map (·.born) ++ [e.born])) (.entry (.tmp 17)) = some (some (.tuple #[.int .i64 p, blkV p k g v]), atS s a (vis.map (·.born) ++ [e.born]))) ∧ WF M.toEnv 80 [blkV p k g v, .int .i64 a] (atY s a (vis.map (·.born) ++ [e.born]) [.int .i64 p, .int .i64 k, .int .i64 g, .bool v]) (fun r σ' => r = .bool false ∧ σ' = atY s a (vis.map (·.born) ++ [e.born]) [.int .i64 p, .int .i64 k, .int .i64 g, .bool v]))
        (by kernel_rfl) ⟨⟨trivial, hent⟩, hcall⟩ ?_
      have hm : vis.map (·.born) ++ [e.born] = (vis ++ [e]).map (·.born) := by simp
      refine VB.cut atF (atS s a ((vis ++ [e]).map (·.born))) (fun q hq => frL_get_atF q hq) rfl (atS_wf hg.ok a _) (by show 7 ≤ 11; omega) (fun i => ?_) (ih _ _ ⟨vis ++ [e], rfl, rfl, nodup_snoc hnd hnv, ?_, ?_⟩ ?_)
      · rw [atS, atY, mix_get, mix_get, St.get_push, hm]
        show (if i < 7 then _ else (atX s a _).get i) = (if i < 7 then _ else if 11 = i then _ else _) ∨ _
        by_cases hi : i < 7
        · rw [if_pos hi, if_pos hi]; exact .inl rfl
        · rw [if_neg hi, if_neg hi]
          by_cases h11 : 11 = i
          · subst h11; right; rw [atX_get _ _ _ _ (by omega)]; rfl
          · rw [if_neg h11]; exact .inl rfl
      · intro x hx
        rcases List.mem_append.1 hx with hx | hx
        · exact hsub x hx
        · simp only [List.mem_singleton] at hx; subst hx; exact he
      · intro x hx
        rcases List.mem_append.1 hx with hx | hx
        · exact hno x hx
        · simp only [List.mem_singleton] at hx; subst hx; exact hh
      · have h1 : vis.length + 1 ≤ s.es.length := by
          have := length_le_of_sub (nodup_snoc hnd hnv) (fun x hx => by
            rcases List.mem_append.1 hx with hx | hx
            · exact hsub x hx
            · simp only [List.mem_singleton] at hx; subst hx; exact he : ∀ x ∈ vis ++ [e], x ∈ s.es)
          simpa using this
        have h10 : ∀ seen, (atS s a seen).get 10 = .miter (some 1) s.clock seen s.clock := fun seen => by rw [atS, mix_get, if_neg (by omega), atX_get _ _ _ _ (by omega), if_pos rfl]
        rw [h10, h10]
        show s.es.length - ((vis ++ [e]).map (·.born)).length < s.es.length - (vis.map (·.born)).length
        simp only [List.length_map, List.length_append, List.length_singleton]
        omega

/-- A word of a block that is taken. -/
theorem at_taken (s : HS) (a : Int) (hg : s.Good) (hsm : Small64 s.es) (ha : -2305843009213693951 ≤ a ∧ a ≤ 2305843009213693951) (e : MapEntry) (he : e ∈ s.es) (hh : hasE a e = true) (hu : ∀ e' ∈ s.es, hasE a e' = true → e'.val = e.val) :
    WF M.toEnv 38 [.pointer (some ⟨0, 0, none⟩), .int .i64 a] (hs s) (fun r σ' => r = .tuple #[e.val, .bool true] ∧ σ' = hs s) := by
  obtain ⟨p, k, g, v, hv, _, _⟩ := hg.sh e he
  refine WF.gc (at_start s a _ (at_loop s a hg hsm ha _ (fun e' he' hh' σ' hσ => ⟨⟨by rw [hu e' he' hh'], ?_⟩, hσ⟩) fun hno => absurd hh (by rw [hno e he]; simp)))
  rw [hu e' he' hh', hv]
  exact Sc_tuple.2 fun v hv => by
    simp only [List.mem_cons, List.not_mem_nil, or_false] at hv
    rcases hv with rfl | rfl
    · refine Sc_agg.2 fun v hv => ?_
      simp only [List.mem_cons, List.not_mem_nil, or_false] at hv
      rcases hv with rfl | rfl | rfl | rfl <;> first | exact Sc_int _ _ _ | exact Sc_bool _ _
    · exact Sc_bool _ _
end
end Go.Proofs.Ytlnlopeodpamdaa.Hx
end

section
/-
  heap's Give: a block that is taken; one that is not.
-/
set_option maxRecDepth 100000
set_option linter.unusedVariables false
namespace Go.Proofs.Ytlnlopeodpamdaa.Hx
open Go AH Go.Proofs
noncomputable section

theorem lookupE {σ : St} {r c : Nat} {es : List MapEntry} {a : Int} (hg : σ.get r = .map es c) (hk : ∀ e ∈ es, ∃ z, e.key = .int .i64 z) :
    lookupQ M.toEnv σ 80 (.map (some r)) (.int .i64 a) true = some (match findI a es 0 with | some (_, v) => .tuple #[v, .bool true] | none => .tuple #[.agg #[.int .i64 0, .int .i64 0, .int .i64 0, .bool false], .bool false]) := by
  have hd : T80.desc = .map 3 74 := rfl
  simp only [lookupQ, ty80, hd, ty3, ty74, keyOk3, hg]
  have hq := findQ_int a hk 0
  rw [show T3.desc = .int .i64 from rfl, hq]
  cases hf : findI a es 0 with
  | none => rfl
  | some p => obtain ⟨j, v⟩ := p; rfl

theorem delE {σ : St} {r c : Nat} {es : List MapEntry} {a : Int} {j : Nat} {v : Value} (hg : σ.get r = .map es c) (hk : ∀ e ∈ es, ∃ z, e.key = .int .i64 z) (hf : findI a es 0 = some (j, v)) :
    delQ M.toEnv σ 80 (.map (some r)) (.int .i64 a) = some (.tuple #[], σ.set r (.map (es.eraseIdx j) c)) := by
  have hd : T80.desc = .map 3 74 := rfl
  simp only [delQ, ty80, hd, ty3, keyOk3, hg]
  have hq := findQ_int a hk 0
  rw [show T3.desc = .int .i64 from rfl, hq, hf]

def zeroB : Value := .agg #[.int .i64 0, .int .i64 0, .int .i64 0, .bool false]
def badS (s : HS) : HS := { s with bad := IntKind.i64.wrap (s.bad + 1) }

/-- Nothing that is taken begins there. -/
theorem give_none (s : HS) (a : Int) (hok : s.Ok) (hsh : Shaped1 s.es) (habs : findI a s.es 0 = none) :
    WF M.toEnv 30 [.pointer (some ⟨0, 0, none⟩), .int .i64 a] (hs s) (fun r σ' => r = .int .i64 16 ∧ σ' = hs (badS s)) := by
  have hok' : (badS s).Ok := ⟨hok.es, hok.gs, hok.wv, hok.wb, hok.cs, hok.ws, hok.bs, hok.cl, hok.wl, hok.bl, hok.nl⟩
  refine WF.forget (R := fun r => r = .int .i64 16) (by show 7 ≤ 7; omega) (fun i => hs_sc hok' i _ (by show 7 ≤ 7; omega)) (fun i hi => hs_live hi) ?_
  refine WF.mono (WF.run ev0_ok (giv := givL [(15, .q (.tuple #[zeroB, .bool false]))]) (n := 100) (fn := Try.f30)
    (v := .int .i64 16) (σ' := (hs (badS s)).push (.cells 74 [.int .i64 0, .int .i64 0, .int .i64 0, .bool false]))
    (p' := True ∧ lookupQ M.toEnv (hs s) 80 (.map (some 1)) (.int .i64 a) true = some (.tuple #[zeroB, .bool false])) Try.func30 rfl (by kernel_rfl) ⟨trivial, ?_⟩) fun r σ' _ ⟨e1, e2⟩ => ?_
  · rw [lookupE (es := s.es) (c := s.clock) (by rw [hs_get]; rfl) (shaped_keys hsh), habs]
    rfl
  · subst e1; subst e2
    refine ⟨⟨rfl, Sc_int _ _ _⟩, fun i => ?_⟩
    rw [St.get_push]
    show _ = (if 7 = i then _ else _) ∨ _
    by_cases h7 : 7 = i
    · subst h7; right; rw [hs_get]; rfl
    · rw [if_neg h7]; exact .inl rfl

/-- What was in the heap, as an append wants it. -/
def WasIs (s : HS) (m : Nat) (old : List Value) : Prop := (s.wv = .slice none 0 0 ∧ m = 0 ∧ old = []) ∨ (s.wv = .slice (some ⟨4, 0, none⟩) m unk ∧ s.wb = .row 74 4 old ∧ m * 4 = old.length) ∨ (s.wv = .slice (some ⟨4, 0, none⟩) 0 0 ∧ s.wb = .cells 74 [] ∧ m = 0 ∧ old = [])

def blkL (a k g : Int) (v : Bool) : List Value := [.int .i64 a, .int .i64 k, .int .i64 g, .bool v]
def delS (s : HS) (a k g : Int) (j : Nat) (v : Bool) : St := (hs { s with es := s.es.eraseIdx j }).push (.cells 74 (blkL a k g v))
def del2S (s : HS) (a k g : Int) (j : Nat) : St := (delS s a k g j false).push (.cells 74 (blkL a k g false))
/-- Behind the append. -/
def appS (s : HS) (wb : Blk) (a k g : Int) (j : Nat) (old : List Value) : St := ((hs { s with es := s.es.eraseIdx j, wb := wb }).push (.cells 74 (blkL a k g false))).push (.cells 74 (blkL a k g false)) |>.push (.row 74 4 (old ++ blkL a k g false))
def app2S (s : HS) (wb : Blk) (a k g : Int) (j m : Nat) (old : List Value) : St := ((hs { s with es := s.es.eraseIdx j, wb := wb, wv := .slice (some ⟨9, 0, none⟩) (m + 1) unk }).push (.cells 74 (blkL a k g false))).push (.cells 74 (blkL a k g false)) |>.push (.row 74 4 (old ++ blkL a k g false))
def endS (s : HS) (wb : Blk) (a k : Nat) (g : Int) (j m : Nat) (old : List Value) : St := ((hs { s with es := s.es.eraseIdx j, wb := wb, wv := .slice (some ⟨9, 0, none⟩) (m + 1) unk, bs := setR (.bool true) s.bs a k }).push (.cells 74 (blkL a k g false))).push (.cells 74 (blkL a k g false)) |>.push (.row 74 4 (old ++ blkL a k g false))

theorem give_run (s : HS) (wb : Blk) (a k : Nat) (g : Int) (j m : Nat) (old : List Value)
    (h1 : lookupQ M.toEnv (hs s) 80 (.map (some 1)) (.int .i64 a) true = some (.tuple #[blkV a k g true, .bool true]))
    (h2 : (match delQ M.toEnv ((hs s).push (.cells 74 (blkL a k g true))) 80 (.map (some 1)) (.int .i64 a) with | some (u, σ') => some (some u, σ') | none => none) = some (some (.tuple #[]), delS s a k g j true))
    (h3 : (match appQ M.toEnv (del2S s a k g j) 68 68 s.wv (.slice (some ⟨8, 0, none⟩) 1 1) with | some (u, σ') => some (some u, σ') | none => none) = some (some (.slice (some ⟨9, 0, none⟩) (m + 1) unk), appS s wb a k g j old))
    (h4 : WF M.toEnv 71 [.pointer (some ⟨2, 0, none⟩), .int .i64 a, .int .i64 k] (app2S s wb a k g j m old) (fun r σ' => r = .int .i64 0 ∧ σ' = endS s wb a k g j m old)) :
    WF M.toEnv 30 [.pointer (some ⟨0, 0, none⟩), .int .i64 a] (hs s) (fun r σ' => r = .int .i64 0 ∧ σ' = endS s wb a k g j m old) := by
  have hheld : (Hold.cell 0 5 s.wv).in (del2S s a k g j) := by
    refine ⟨[.pointer (some ⟨2, 0, none⟩), .int .i64 s.first, .int .i64 s.words, .map (some 1), .map (some 3), s.wv, .int .i64 s.bad], ?_, rfl⟩
    rw [del2S, delS, St.get_push, if_neg (by show ¬ 8 = 0; omega), St.get_push, if_neg (by show ¬ 7 = 0; omega), hs_get]
    rfl
  refine WF.run ev0_ok (giv := fun o => match o.op with
    | .call ⟨.builtin .delete, _, _⟩ => .w (some (.tuple #[])) (delS s a k g j true)
    | _ => givL [(15, .q (.tuple #[blkV a k g true, .bool true])), (40, .w (some (.slice (some ⟨9, 0, none⟩) (m + 1) unk)) (appS s wb a k g j old)), (51, .c (.int .i64 0) (endS s wb a k g j m old))] o) (n := 100) (fn := Try.f30)
    (p' := ((((True ∧ lookupQ M.toEnv (hs s) 80 (.map (some 1)) (.int .i64 a) true = some (.tuple #[blkV a k g true, .bool true]))
      ∧ (match delQ M.toEnv ((hs s).push (.cells 74 (blkL a k g true))) 80 (.map (some 1)) (.int .i64 a) with | some (u, σ') => some (some u, σ') | none => none) = some (some (.tuple #[]), delS s a k g j true))
      ∧ (Hold.cell 0 5 s.wv).in (del2S s a k g j) ∧ True)
      ∧ (match appQ M.toEnv (del2S s a k g j) 68 68 s.wv (.slice (some ⟨8, 0, none⟩) 1 1) with | some (u, σ') => some (some u, σ') | none => none) = some (some (.slice (some ⟨9, 0, none⟩) (m + 1) unk), appS s wb a k g j old))
      ∧ WF M.toEnv 71 [.pointer (some ⟨2, 0, none⟩), .int .i64 a, .int .i64 k] (app2S s wb a k g j m old) (fun r σ' => r = .int .i64 0 ∧ σ' = endS s wb a k g j m old)) Try.func30 rfl (by kernel_rfl) ⟨⟨⟨⟨⟨trivial, h1⟩, h2⟩, hheld, trivial⟩, h3⟩, h4⟩

/-- What is left behind a Give: the row of what was in the heap is block 7. -/
def gaveS (s : HS) (a k : Nat) (j m : Nat) : HS := { s with es := s.es.eraseIdx j, wb := .dead, wv := .slice (some ⟨7, 0, none⟩) (m + 1) unk, bs := setR (.bool true) s.bs a k }
def gaveT (s : HS) (a k : Nat) (g : Int) (j m : Nat) (old : List Value) : St := (hs (gaveS s a k j m)).push (.row 74 4 (old ++ blkL a k g false))

theorem exN_inj {n : Nat} {N : Nat} (h : n ≤ N) (i j : Nat) (e : exN id n N i = exN id n N j) : i = j := by
  unfold exN at e
  simp only [id] at e
  split at e <;> split at e <;> omega

theorem app_any (s : HS) (a k : Int) (g : Int) (j m : Nat) (old : List Value) (hw : WasIs s m old) (hm : m ≤ 1000000) : ∃ wb, (match appQ M.toEnv (del2S s a k g j) 68 68 s.wv (.slice (some ⟨8, 0, none⟩) 1 1) with | some (u, σ') => some (some u, σ') | none => none) = some (some (.slice (some ⟨9, 0, none⟩) (m + 1) unk), appS s wb a k g j old) := by
  have ty68 : M.toEnv.ty 68 = some T68 := by kernel_rfl
  have hsrc : srcQ (del2S s a k g j) T74.size (.slice (some ⟨8, 0, none⟩) 1 1) = some (1, blkL a k g false) := by kernel_rfl
  rcases hw with ⟨h1, rfl, rfl⟩ | ⟨h1, h2, h3⟩ | ⟨h1, h2, rfl, rfl⟩
  · refine ⟨s.wb, ?_⟩
    rw [h1, appQ_nil (i := T68) (ix := T68) (j := T74) (e := 74) (e2 := 74) ty68 rfl ty68 rfl ty74 hsrc (by show 0 < 4; omega) (by show 0 < 32; omega) (by omega) (by show (8 * 1 + 4096) * 32 ≤ _; omega)]
    have hx : True := trivial
    show _ = _
    kernel_rfl
  · refine ⟨.dead, ?_⟩
    have hb : (del2S s a k g j).get 4 = .row 74 4 old := by
      rw [del2S, delS, St.get_push, if_neg (by show ¬ 8 = 4; omega), St.get_push, if_neg (by show ¬ 7 = 4; omega), hs_get]
      exact h2
    rw [h1, appQ_row (i := T68) (ix := T68) (j := T74) (e := 74) (e2 := 74) (b := 4) (len := m) (cs := old) ty68 rfl ty68 rfl ty74 hsrc (by show 0 < 4; omega) (by show 0 < 32; omega) hb h3 (by omega) rfl (by show (8 * (m + 1) + 4096) * 32 ≤ _; omega)]
    have hx : True := trivial
    show _ = _
    kernel_rfl
  · refine ⟨s.wb, ?_⟩
    have hb : ((del2S s a k g j).get 4).known = some [] := by
      rw [del2S, delS, St.get_push, if_neg (by show ¬ 8 = 4; omega), St.get_push, if_neg (by show ¬ 7 = 4; omega), hs_get]
      show s.wb.known = _
      rw [h2]; rfl
    rw [h1, appQ_cap0 (i := T68) (ix := T68) (j := T74) (e := 74) (e2 := 74) (b := 4) ty68 rfl ty68 rfl ty74 hsrc (by show 0 < 4; omega) (by show 0 < 32; omega) hb (by omega) (by show (8 * 1 + 4096) * 32 ≤ _; omega)]
    have hx : True := trivial
    show _ = _
    kernel_rfl

/-- A block that is taken is given back. -/
theorem give_ok (s : HS) (a k : Nat) (g : Int) (j m : Nat) (old : List Value) (hok : s.Ok) (hfl : s.Flat) (hsh : Shaped1 s.es) (hf : findI a s.es 0 = some (j, blkV a k g true)) (h1 : 1 ≤ k) (hk : a + k ≤ s.n + 1) (hw : WasIs s m old) (hm : m ≤ 1000000) (ho : ∀ ρ : Nat → AH.Loc, old.map (AH.ren ρ) = old) :
    WF M.toEnv 30 [.pointer (some ⟨0, 0, none⟩), .int .i64 a] (hs s) (fun r σ' => r = .int .i64 0 ∧ σ' = gaveT s a k g j m old) := by
  obtain ⟨wb, happ⟩ := app_any s a k g j m old hw hm
  have hmf : s.MFlat := ⟨hfl.cs, hfl.ws, hfl.bs, hfl.n⟩
  have hrun := give_run s wb a k g j m old
    (by rw [lookupE (es := s.es) (c := s.clock) (by rw [hs_get]; rfl) (shaped_keys hsh), hf])
    (by
      rw [delE (es := s.es) (c := s.clock) (v := blkV a k g true) (j := j) (by rw [St.get_push, if_neg (by show ¬ 7 = 1; omega), hs_get]; rfl) (shaped_keys hsh) hf]
      kernel_rfl) happ
    ((bar_any (s := s) (σ := app2S s wb a k g j m old) a k h1 hk hok.m hmf (by show 7 ≤ 10; omega) (by kernel_rfl) (by kernel_rfl) (by kernel_rfl)).mono fun r σ' _ ⟨e1, e2⟩ => ⟨e1, e2.trans (by kernel_rfl)⟩)
  have hblk : ∀ ρ : Nat → AH.Loc, (old ++ blkL a k g false).map (AH.ren ρ) = old ++ blkL a k g false := fun ρ => by rw [List.map_append, ho]; simp [blkL]
  have hget : ∀ i, (gaveT s a k g j m old).get i = if 7 = i then .row 74 4 (old ++ blkL a k g false) else (hs (gaveS s a k j m)).get i := fun i => by rw [gaveT, St.get_push]; rfl
  have hgets : ∀ i, (hs (gaveS s a k j m)).get i = if 6 = i then arrR s.row 4 (setR (.bool true) s.bs a k) else if 5 = i then arrR s.row 89 s.ws else if 4 = i then .dead else if 3 = i then .map s.gs s.gclock else if 2 = i then .cells 107 (.slice (some ⟨5, 0, none⟩) (s.n + 1) (capR s.row s.n) :: .slice (some ⟨6, 0, none⟩) (s.n + 1) (capR s.row s.n) :: s.cs) else if 1 = i then .map (s.es.eraseIdx j) s.clock else if 0 = i then .cells 83 [.pointer (some ⟨2, 0, none⟩), .int .i64 s.first, .int .i64 s.words, .map (some 1), .map (some 3), .slice (some ⟨7, 0, none⟩) (m + 1) unk, .int .i64 s.bad] else .dead := fun i => hs_get _ i
  have hsc : ∀ i, ((gaveT s a k g j m old).get i).sc 8 := fun i => by
    rw [hget]
    split
    · intro v hv
      have : (old ++ blkL a k g false).map (AH.ren (fun _ => ⟨0, 0, 0⟩)) = old ++ blkL a k g false := hblk _
      intro ρ ρ' _
      have h1 := List.map_inj_left.1 ((hblk ρ).trans (hblk ρ').symm) v hv
      exact h1
    · rw [hgets]
      split
      · exact arrR_sc fun v hv => (setR_sc hok.bs (Sc_bool _ _) a k v hv).mono (Nat.zero_le _)
      split
      · exact arrR_sc fun v hv => (hok.ws v hv).mono (Nat.zero_le _)
      split
      · trivial
      split
      · exact fun e he => ⟨(hok.gs e he).1.mono (Nat.zero_le _), (hok.gs e he).2.mono (Nat.zero_le _)⟩
      split
      · intro v hv
        rcases List.mem_cons.1 hv with rfl | hv
        · exact Sc_slice (by show 5 < 8; omega)
        rcases List.mem_cons.1 hv with rfl | hv
        · exact Sc_slice (by show 6 < 8; omega)
        · exact (hok.cs v hv).mono (Nat.zero_le _)
      split
      · exact fun e he => ⟨(hok.es e (List.mem_of_mem_eraseIdx he)).1.mono (Nat.zero_le _), (hok.es e (List.mem_of_mem_eraseIdx he)).2.mono (Nat.zero_le _)⟩
      split
      · intro v hv
        simp only [List.mem_cons, List.not_mem_nil, or_false] at hv
        rcases hv with e | e | e | e | e | e | e
        · rw [e]; exact Sc_ptr (by show 2 < 8; omega)
        · rw [e]; exact Sc_int _ _ _
        · rw [e]; exact Sc_int _ _ _
        · rw [e]; exact Sc_map (by omega)
        · rw [e]; exact Sc_map (by omega)
        · rw [e]; exact Sc_slice (by show 7 < 8; omega)
        · rw [e]; exact Sc_int _ _ _
      · trivial
  have hlt : ∀ i, ((gaveT s a k g j m old).get i).live = true → i < 8 := fun i hi => by
    by_cases h : i < 8
    · exact h
    · rw [hget, if_neg (by omega), hgets, if_neg (by omega), if_neg (by omega), if_neg (by omega), if_neg (by omega), if_neg (by omega), if_neg (by omega), if_neg (by omega)] at hi
      cases hi
  refine hrun.renum fun r σ' _ ⟨e1, e2⟩ => ⟨.int .i64 0, gaveT s a k g j m old, exN id 7 9, ⟨fun i hi => exN_lt hi, fun i j _ _ => exN_inj (by omega) i j, fun i hi => ?_, hsc, hlt, by show 7 ≤ 8; omega⟩, by rw [e1]; simp, Sc_int _ _ _, rfl, rfl⟩
  subst e2
  have hend : ∀ i, (endS s wb a k g j m old).get i = if 9 = i then .row 74 4 (old ++ blkL a k g false) else if 8 = i then .cells 74 (blkL a k g false) else if 7 = i then .cells 74 (blkL a k g false) else (hs { s with es := s.es.eraseIdx j, wb := wb, wv := .slice (some ⟨9, 0, none⟩) (m + 1) unk, bs := setR (.bool true) s.bs a k }).get i := fun i => by
    rw [endS, St.get_push, St.get_push, St.get_push]; rfl
  have hi8 := hlt i hi
  by_cases h7 : i = 7
  · subst h7
    rw [show exN id 7 9 7 = 9 from rfl, hend, hget, if_pos rfl, if_pos rfl, renB, hblk]
  · have hi7 : i < 7 := by omega
    rw [show exN id 7 9 i = i from exN_lt hi7, hend, if_neg (by omega), if_neg (by omega), if_neg (by omega)]
    rw [hget, if_neg (by omega)] at hi ⊢
    rw [hs_get, hgets]
    rw [hgets] at hi
    have hid : ∀ b : Blk, b.sc 7 → renB (loc id) b = b → b = renB (loc (exN id 7 9)) b := fun b h1 h2 => by rw [renB_exN h1, h2]
    by_cases c6 : 6 = i
    · rw [if_pos c6, if_pos c6]
      exact hid _ (arrR_sc fun v hv => (setR_sc hok.bs (Sc_bool _ _) a k v hv).mono (Nat.zero_le _)) (arrR_ren (setR_map hfl.bs (by simp) a k))
    rw [if_neg c6, if_neg c6]
    by_cases c5 : 5 = i
    · rw [if_pos c5, if_pos c5]
      exact hid _ (arrR_sc fun v hv => (hok.ws v hv).mono (Nat.zero_le _)) (arrR_ren hfl.ws)
    rw [if_neg c5, if_neg c5]
    by_cases c4 : 4 = i
    · subst c4
      simp only [if_neg c6, if_neg c5] at hi
      cases hi
    rw [if_neg c4, if_neg c4]
    by_cases c3 : 3 = i
    · rw [if_pos c3, if_pos c3]
      exact hid _ (fun e he => ⟨(hok.gs e he).1.mono (Nat.zero_le _), (hok.gs e he).2.mono (Nat.zero_le _)⟩) (by rw [renB, hfl.gs])
    rw [if_neg c3, if_neg c3]
    by_cases c2 : 2 = i
    · rw [if_pos c2, if_pos c2]
      refine hid _ (fun v hv => ?_) ?_
      · rcases List.mem_cons.1 hv with rfl | hv
        · exact Sc_slice (by show 5 < 7; omega)
        rcases List.mem_cons.1 hv with rfl | hv
        · exact Sc_slice (by show 6 < 7; omega)
        · exact (hok.cs v hv).mono (Nat.zero_le _)
      · simp only [renB, List.map_cons, ren_slice, renA, loc, id, hfl.cs]
        rw [renC_le (capR_le _ hfl.n)]
    rw [if_neg c2, if_neg c2]
    by_cases c1 : 1 = i
    · rw [if_pos c1, if_pos c1]
      refine hid _ (fun e he => ⟨(hok.es e (List.mem_of_mem_eraseIdx he)).1.mono (Nat.zero_le _), (hok.es e (List.mem_of_mem_eraseIdx he)).2.mono (Nat.zero_le _)⟩) ?_
      rw [renB]
      congr 1
      have : ∀ e ∈ s.es, renE (loc id) e = e := fun e he => (List.map_inj_left.1 (hfl.es.trans (List.map_id _).symm)) e he
      exact (List.map_congr_left fun e he => this e (List.mem_of_mem_eraseIdx he)).trans (List.map_id _)
    rw [if_neg c1, if_neg c1]
    have c0 : 0 = i := by omega
    rw [if_pos c0, if_pos c0]
    simp only [renB, List.map_cons, List.map_nil, ren_ptr, ren_int, ren_map, ren_slice, renA, loc]
    rfl
end
end Go.Proofs.Ytlnlopeodpamdaa.Hx
end

section
/-
  A heap's state that names no other block; Give where there is more than the heap.
-/
set_option maxRecDepth 100000
set_option linter.unusedVariables false
namespace Go.Proofs.Ytlnlopeodpamdaa.Hx
open Go AH Go.Proofs
noncomputable section

theorem sc_of_pure {l : List Value} (h : ∀ ρ : Nat → AH.Loc, l.map (AH.ren ρ) = l) (n : Nat) : Scs n l := fun v hv ρ ρ' _ => List.map_inj_left.1 ((h ρ).trans (h ρ').symm) v hv
theorem scE_of_pure {l : List MapEntry} (h : ∀ ρ : Nat → AH.Loc, l.map (renE ρ) = l) (n : Nat) : ∀ e ∈ l, Sc n e.key ∧ Sc n e.val := fun e he => by
  refine ⟨fun ρ ρ' _ => ?_, fun ρ ρ' _ => ?_⟩
  · have := List.map_inj_left.1 ((h ρ).trans (h ρ').symm) e he
    simp only [renE, MapEntry.mk.injEq] at this
    exact this.1
  · have := List.map_inj_left.1 ((h ρ).trans (h ρ').symm) e he
    simp only [renE, MapEntry.mk.injEq] at this
    exact this.2.1

/-- A heap that names nothing but its own blocks. -/
structure HS.Nice (s : HS) (m : Nat) (old : List Value) : Prop where
  es : ∀ ρ : Nat → AH.Loc, s.es.map (renE ρ) = s.es
  gs : ∀ ρ : Nat → AH.Loc, s.gs.map (renE ρ) = s.gs
  cs : ∀ ρ : Nat → AH.Loc, s.cs.map (AH.ren ρ) = s.cs
  ws : ∀ ρ : Nat → AH.Loc, s.ws.map (AH.ren ρ) = s.ws
  bs : ∀ ρ : Nat → AH.Loc, s.bs.map (AH.ren ρ) = s.bs
  pold : ∀ ρ : Nat → AH.Loc, old.map (AH.ren ρ) = old
  cl : s.cs.length = 8
  wl : s.ws.length = s.n + 1
  bl : s.bs.length = s.n + 1
  n : s.n < 1000000
  was : WasIs s m old
  dead : s.wv = .slice none 0 0 → s.wb = .dead
theorem HS.Nice.wvs {s : HS} {m : Nat} {old : List Value} (h : s.Nice m old) : Sc 7 s.wv := by
  rcases h.was with ⟨e, _, _⟩ | ⟨e, _, _⟩ | ⟨e, _, _, _⟩
  · rw [e]; exact Sc_nilslice _ _ _
  · rw [e]; exact Sc_slice (by show 4 < 7; omega)
  · rw [e]; exact Sc_slice (by show 4 < 7; omega)
theorem HS.Nice.wvf {s : HS} {m : Nat} {old : List Value} (h : s.Nice m old) (π : Nat → Nat) (hπ : π 4 = 4) : AH.ren (loc π) s.wv = s.wv := by
  rcases h.was with ⟨e, _, _⟩ | ⟨e, _, _⟩ | ⟨e, _, _, _⟩
  · rw [e]; simp
  · rw [e, ren_slice]; simp only [renA, loc, hπ]; rw [renC_le (Nat.le_refl _)]
  · rw [e, ren_slice]; simp only [renA, loc, hπ]; rw [renC_le (Nat.zero_le _)]
theorem HS.Nice.wbs {s : HS} {m : Nat} {old : List Value} (h : s.Nice m old) (n : Nat) : s.wb.sc n := by
  rcases h.was with ⟨e, _, _⟩ | ⟨_, e, _⟩ | ⟨_, e, _, _⟩
  · rw [h.dead e]; trivial
  · rw [e]; exact sc_of_pure h.pold n
  · rw [e]; intro v hv; simp at hv
theorem HS.Nice.wbf {s : HS} {m : Nat} {old : List Value} (h : s.Nice m old) (ρ : Nat → AH.Loc) : renB ρ s.wb = s.wb := by
  rcases h.was with ⟨e, _, _⟩ | ⟨_, e, _⟩ | ⟨_, e, _, _⟩
  · rw [h.dead e]; rfl
  · rw [e, renB, h.pold]
  · rw [e]; rfl
theorem HS.Nice.ok {s : HS} {m : Nat} {old : List Value} (h : s.Nice m old) : s.Ok := ⟨scE_of_pure h.es 0, scE_of_pure h.gs 0, h.wvs, h.wbs 7, sc_of_pure h.cs 0, sc_of_pure h.ws 0, sc_of_pure h.bs 0, h.cl, h.wl, h.bl, by have := h.n; omega⟩
theorem HS.Nice.flat {s : HS} {m : Nat} {old : List Value} (h : s.Nice m old) : s.Flat := ⟨h.es _, h.gs _, h.wvf id rfl, h.wbf _, h.cs _, h.ws _, h.bs _, by have := h.n; unfold unk; omega⟩
theorem HS.Nice.mflat {s : HS} {m : Nat} {old : List Value} (h : s.Nice m old) : s.MFlat := ⟨h.cs _, h.ws _, h.bs _, by have := h.n; unfold unk; omega⟩
theorem HS.Nice.wbl {s : HS} {m : Nat} {old : List Value} (h : s.Nice m old) : s.wb = .dead ∨ s.wb.live = true := by
  rcases h.was with ⟨e, _, _⟩ | ⟨_, e, _⟩ | ⟨_, e, _, _⟩
  · exact .inl (h.dead e)
  · right; rw [e]; rfl
  · right; rw [e]; rfl

/-- A block of the heap but the first and the one of what was there names only blocks that stay. -/
theorem hs_ren {s : HS} {m : Nat} {old : List Value} (h : s.Nice m old) (π : Nat → Nat) (hπ : ∀ i, i < 7 → i ≠ 4 → π i = i) (i : Nat) (h0 : i ≠ 0) (h4 : i ≠ 4) : renB (loc π) ((hs s).get i) = (hs s).get i := by
  rw [hs_get]
  split
  · exact arrR_ren (h.bs _)
  split
  · exact arrR_ren (h.ws _)
  split
  · omega
  split
  · rw [renB, h.gs]
  split
  · simp only [renB, List.map_cons, ren_slice, renA, loc, hπ 5 (by omega) (by omega), hπ 6 (by omega) (by omega), h.cs]
    rw [renC_le (capR_le _ (by have := h.n; unfold unk; omega))]
  split
  · rw [renB, h.es]
  split
  · omega
  · rfl

def awayS (s : HS) (N m : Nat) : HS := { s with wv := .slice (some ⟨N, 0, none⟩) m unk, wb := .dead }
/-- The row of what was in the heap lies behind all else. -/
def away (s : HS) (m : Nat) (old : List Value) (X : St) : St := (mix (awayS s X.next m) X).push (.row 74 4 old)
def homeS (s : HS) (m : Nat) (old : List Value) : HS := { s with wv := .slice (some ⟨4, 0, none⟩) m unk, wb := .row 74 4 old }
def tookS (s : HS) (a k j : Nat) : HS := { s with es := s.es.eraseIdx j, bs := setR (.bool true) s.bs a k }

theorem away_get (s : HS) (m : Nat) (old : List Value) (X : St) (i : Nat) : (away s m old X).get i = if X.next = i then .row 74 4 old else if i < 7 then (hs (awayS s X.next m)).get i else X.get i := by
  rw [away, St.get_push]
  show (if X.next = i then _ else _) = _
  split
  · rfl
  · rw [mix_get]

/-- Give, where there is more. -/
theorem give_away {s : HS} {a k j m : Nat} {g : Int} {old : List Value} {X : St} (h : s.Nice m old) (hX : 7 ≤ X.next) (hsh : Shaped1 s.es) (hf : findI a s.es 0 = some (j, blkV a k g true)) (h1 : 1 ≤ k) (hk : a + k ≤ s.n + 1) (hm : m ≤ 1000000) :
    WF M.toEnv 30 [.pointer (some ⟨0, 0, none⟩), .int .i64 a] (mix s X) (fun r σ' => r = .int .i64 0 ∧ σ' = away (tookS s a k j) (m + 1) (old ++ blkL a k g false) X) := by
  have hc := give_ok s a k g j m old h.ok h.flat hsh hf h1 hk h.was hm h.pold
  refine WF.know hc.1 fun hout hsc => ?_
  have hS := mix_small h.ok h.flat hX
  have har : ([.pointer (some ⟨0, 0, none⟩), .int .i64 a] : List Value).map (AH.ren (loc id)) = [.pointer (some ⟨0, 0, none⟩), .int .i64 a] := by simp [renA, loc]
  rw [← har]
  refine WF.frame hS (fun u hu => ?_) hc fun r σ₀' _ ⟨e1, e2⟩ => ?_
  · simp only [List.mem_cons, List.not_mem_nil, or_false] at hu
    rcases hu with rfl | rfl
    · exact Sc_ptr (by show 0 < 7; omega)
    · exact Sc_int _ _ _
  subst e1; subst e2
  have hT : (tookS s a k j).Nice m old := ⟨fun ρ => by
      have : ∀ e ∈ s.es, renE ρ e = e := fun e he => (List.map_inj_left.1 ((h.es ρ).trans (List.map_id _).symm)) e he
      exact (List.map_congr_left fun e he => this e (List.mem_of_mem_eraseIdx he)).trans (List.map_id _), h.gs, h.cs, h.ws, fun ρ => setR_map (h.bs ρ) (by simp) a k, h.pold, h.cl, h.wl, (setR_len _ _ _ _).trans h.bl, h.n, h.was, h.dead⟩
  have hold : (∀ ρ : Nat → AH.Loc, (old ++ blkL a k g false).map (AH.ren ρ) = old ++ blkL a k g false) := fun ρ => by rw [List.map_append, h.pold]; simp [blkL]
  have hgT : ∀ i, (gaveT s a k g j m old).get i = if 7 = i then .row 74 4 (old ++ blkL a k g false) else (hs (gaveS s a k j m)).get i := fun i => by rw [gaveT, St.get_push]; rfl
  refine ⟨_, ⟨?_, fun i hi hl => ?_, fun i hi hno => ?_, fun i hi => ?_⟩, by simp, rfl⟩
  · show X.next + 1 = X.next + (8 - 7); omega
  · have hi' : i < 8 := hi
    by_cases h7 : i = 7
    · subst h7
      show (away _ _ _ X).get (exN id 7 X.next 7) = renB (loc (exN id 7 X.next)) _
      rw [show exN id 7 X.next 7 = X.next from exN_new, away_get, if_pos rfl, hgT, if_pos rfl, renB, hold]
    · have hi7 : i < 7 := by omega
      show (away _ _ _ X).get (exN id 7 X.next i) = renB (loc (exN id 7 X.next)) _
      rw [show exN id 7 X.next i = i from exN_lt hi7, away_get, if_neg (by omega), if_pos hi7, hgT, if_neg (by omega)]
      by_cases h0 : i = 0
      · subst h0
        rw [hs_get, hs_get]
        show Blk.cells 83 _ = renB _ (Blk.cells 83 _)
        simp only [renB, List.map_cons, List.map_nil, ren_ptr, ren_int, ren_map, renA, loc]
        rw [show (gaveS s a k j m).wv = .slice (some ⟨7, 0, none⟩) (m + 1) unk from rfl, ren_slice]
        simp only [renA, loc, show exN id 7 X.next 7 = X.next from exN_new, show exN id 7 X.next 2 = 2 from rfl, show exN id 7 X.next 1 = 1 from rfl, show exN id 7 X.next 3 = 3 from rfl]
        rw [renC_le (Nat.le_refl _)]
        rfl
      · by_cases h4 : i = 4
        · subst h4; rw [hs_get, hs_get]; rfl
        · have e1 : (hs (gaveS s a k j m)).get i = (hs (tookS s a k j)).get i := by
            rw [hs_get, hs_get]
            simp only [if_neg (Ne.symm h0), if_neg (Ne.symm h4)]
            rfl
          have e2 : (hs (awayS (tookS s a k j) X.next (m + 1))).get i = (hs (tookS s a k j)).get i := by
            rw [hs_get, hs_get]
            simp only [if_neg (Ne.symm h0), if_neg (Ne.symm h4)]
            rfl
          rw [e1, e2, hs_ren hT _ (fun i hi _ => exN_lt hi) i h0 h4]
  · have hi' : i < X.next := hi
    rw [away_get, if_neg (by omega), mix_get]
    split
    · rename_i hi7
      by_cases h4 : i = 4
      · subst h4
        rcases h.wbl with e | e
        · rw [hs_get, hs_get]
          show Blk.dead = s.wb
          rw [e]
        · exact absurd rfl (hno 4 (by rw [hs_get]; exact e))
      · exfalso
        refine hno i ?_ rfl
        rw [hs_get]
        repeat' split
        all_goals first | rfl | exact arrR_live _ _ _ | omega
    · rfl
  · have hi' : X.next + 1 ≤ i := hi
    rw [away_get, if_neg (by omega), if_neg (by omega)]
    cases hl : (X.get i).live with
    | false => rfl
    | true =>
      have := hout i (by rw [mix_get, if_neg (by omega)]; exact hl)
      exact absurd this (by show ¬ i < X.next; omega)

def pi4 (N : Nat) : Nat → Nat := fun i => if i = 4 then N else i
theorem pi4_ne {N i : Nat} (h : i ≠ 4) : pi4 N i = i := by unfold pi4; rw [if_neg h]
theorem pi4_4 (N : Nat) : pi4 N 4 = N := by unfold pi4; rw [if_pos rfl]
theorem home_live {s : HS} {m : Nat} {old : List Value} {i : Nat} (hi : i < 7) : ((hs (homeS s m old)).get i).live = true := by
  rw [hs_get]
  repeat' split
  all_goals first | rfl | exact arrR_live _ _ _ | omega

/-- A block of the heap, where the row of what was there is elsewhere. -/
theorem away_home {s : HS} {m : Nat} {old : List Value} {X : St} (h : (homeS s m old).Nice m old) (hX : 7 ≤ X.next) (i : Nat) (hi : i < 7) : (away s m old X).get (pi4 X.next i) = renB (loc (pi4 X.next)) ((hs (homeS s m old)).get i) := by
  by_cases h4 : i = 4
  · subst h4
    rw [pi4_4, away_get, if_pos rfl, hs_get]
    show _ = renB _ (Blk.row 74 4 old)
    rw [renB, h.pold]
  · rw [pi4_ne h4, away_get, if_neg (by omega), if_pos hi]
    by_cases h0 : i = 0
    · subst h0
      rw [hs_get, hs_get]
      show Blk.cells 83 _ = renB _ (Blk.cells 83 _)
      simp only [renB, List.map_cons, List.map_nil, ren_ptr, ren_int, ren_map, renA, loc]
      rw [show (homeS s m old).wv = .slice (some ⟨4, 0, none⟩) m unk from rfl, ren_slice]
      simp only [renA, loc, pi4_4, pi4_ne (N := X.next) (i := 2) (by omega), pi4_ne (N := X.next) (i := 1) (by omega), pi4_ne (N := X.next) (i := 3) (by omega)]
      rw [renC_le (Nat.le_refl _)]
      rfl
    · rw [hs_ren h _ (fun i _ hi => pi4_ne hi) i h0 h4]
      rw [hs_get, hs_get]
      simp only [if_neg (Ne.symm h0), if_neg (Ne.symm h4)]
      rfl

/-- What is said of a heap alone holds where the row of what was there is elsewhere. -/
theorem lift_away {K : FuncId} {args : List Value} {v : Value} {s s' : HS} {m : Nat} {old : List Value} {X : St} (h : (homeS s m old).Nice m old) (h' : (homeS s' m old).Nice m old) (hX : 7 ≤ X.next) (ha : Scs 7 args) (har : args.map (AH.ren (loc (pi4 X.next))) = args) (hv : ∀ ρ, AH.ren ρ v = v)
    (hc : WF M.toEnv K args (hs (homeS s m old)) (fun r σ' => r = v ∧ σ' = hs (homeS s' m old))) : WF M.toEnv K args (away s m old X) (fun r σ' => r = v ∧ σ' = away s' m old X) := by
  refine WF.know hc.1 fun hout hsc => ?_
  have hS : Small (pi4 X.next) (hs (homeS s m old)) (away s m old X) := by
    refine ⟨fun i hi => ?_, fun i j hi hj e => ?_, fun i hi => away_home h hX i (hs_live hi), fun i => hs_sc h.ok i _ (Nat.le_refl _), fun i hi => hs_live hi⟩
    · have hi' : i < 7 := hi
      show pi4 X.next i < X.next + 1
      unfold pi4; split <;> omega
    · have h1 := hs_live hi
      have h2 := hs_live hj
      unfold pi4 at e
      split at e <;> split at e <;> omega
  rw [← har]
  refine WF.frame hS ha hc fun r σ₀' _ ⟨e1, e2⟩ => ?_
  subst e1; subst e2
  refine ⟨away s' m old X, ⟨?_, fun i hi hl => ?_, fun i hi hno => ?_, fun i hi => ?_⟩, hv _, rfl⟩
  · show X.next + 1 = X.next + 1 + (7 - 7); omega
  · have hi' : i < 7 := hi
    show (away s' m old X).get (exN (pi4 X.next) 7 (X.next + 1) i) = renB (loc (exN (pi4 X.next) 7 (X.next + 1))) _
    rw [exN_lt hi', renB_exN (hs_sc h'.ok i 7 (Nat.le_refl _)), away_home h' hX i hi']
  · have hi' : i < X.next + 1 := hi
    rw [away_get, away_get]
    by_cases hN : X.next = i
    · exact absurd (by rw [← hN]; exact pi4_4 _) (hno 4 (home_live (by omega)))
    · rw [if_neg hN, if_neg hN]
      by_cases h7 : i < 7
      · by_cases h4 : i = 4
        · subst h4; rw [if_pos h7, if_pos h7, hs_get, hs_get]; rfl
        · exact absurd (pi4_ne h4) (hno i (home_live h7))
      · rw [if_neg h7, if_neg h7]
  · have hi' : X.next + 1 ≤ i := hi
    have := hout i
    rw [away_get, if_neg (by omega), if_neg (by omega)]
    rw [away_get, if_neg (by omega), if_neg (by omega)] at this
    cases hl : (X.get i).live with
    | false => rfl
    | true => exact absurd (this hl) (by show ¬ i < X.next + 1; omega)

/-- The row of what was there is block 4 again. -/
theorem VB.home {K : FuncId} {nt : Nat} {k : List Item} {f : Fr} {R : Value → St → Prop} {s : HS} {m : Nat} {old : List Value} {X : St} (l : List (Nat × Value)) (h : (homeS s m old).Nice m old) (hX : 7 ≤ X.next)
    (hXs : ∀ i, 7 ≤ i → (X.get i).sc X.next) (hXl : ∀ i, 7 ≤ i → (X.get i).live = true → i < X.next) (hXr : ∀ i, 7 ≤ i → renB (loc (pi4 X.next)) (X.get i) = X.get i)
    (hl : ∀ p ∈ l, f.get p.1 = some p.2) (hlr : ∀ p ∈ l, AH.ren (loc (pi4 X.next)) p.2 = p.2) (hls : ∀ p ∈ l, Sc X.next p.2) (hd : f.df = [])
    (hk : VB 0 M K nt k (frL l) (mix (homeS s m old) X) R) : VB 0 M K nt k f (away s m old X) R := by
  have hwf : Wf (frL l) (mix (homeS s m old) X) := by
    refine ⟨fun i => ?_, fun i hi => ?_, fun t v ht => hls _ (frL_mem ht)⟩
    · rw [mix_get]
      split
      · exact hs_sc h.ok i _ hX
      · exact hXs i (by omega)
    · show i < X.next
      by_cases h7 : i < 7
      · omega
      · rw [mix_get, if_neg h7] at hi
        exact hXl i (by omega) hi
  refine VB.renum (pi4 X.next) (Nat.zero_le _) (fun i hi => absurd hi (Nat.not_lt_zero _)) (fun i j hi hj e => ?_) (fun i hi => ?_) hwf (fun t v ht => ?_) (by rw [frL_df]; exact hd) (fun i hi => by rw [frL_df] at hi; simp at hi) hk
  · have h1 : i < X.next := hwf.lt i hi
    have h2 : j < X.next := hwf.lt j hj
    unfold pi4 at e
    split at e <;> split at e <;> omega
  · have h1 : i < X.next := hwf.lt i hi
    rw [mix_get]
    split
    · rename_i h7
      exact away_home h hX i h7
    · rename_i h7
      rw [pi4_ne (by omega), away_get, if_neg (by omega), if_neg h7, hXr i (by omega)]
  · have hm := frL_mem ht
    rw [hlr _ hm]
    exact hl _ hm
end
end Go.Proofs.Ytlnlopeodpamdaa.Hx
end

section
/-
  Copies of maps, of a memory, of a heap.
-/
set_option maxRecDepth 100000
set_option linter.unusedVariables false
namespace Go.Proofs.Ytlnlopeodpamdaa.Hx
open Go AH Go.Proofs
noncomputable section

theorem isClone : IsClone M.P 106 := ⟨Try.f106, Try.func106, by kernel_rfl, by kernel_rfl, by kernel_rfl, by kernel_rfl⟩

theorem clone82 {σ : St} {m cl : Nat} {es : List MapEntry} (hm : σ.get m = .map es cl) : WF M.toEnv 82 [.map (some m)] σ (fun r σ' => r = .map (some σ.next) ∧ σ' = σ.push (.map es cl)) := by
  refine WF.of_VB (fn := Try.f82) Try.func82 rfl rfl (by show 1 ≤ 9; omega) ?_
  refine VB.seq ?_
  apply VB.region
  case hd => rfl
  apply WL.quiet
  case hw => rfl
  case hq => exact rfl
  apply WL.nil
  refine VB.seq (VB.seq ?_)
  apply VB.region
  case hd => rfl
  iterate 2
    apply WL.quiet
    case hw => rfl
    case hq => exact rfl
  apply WL.nil
  apply VB.cond
  case hc => exact rfl
  refine VB.skip (VB.seq ?_)
  apply VB.region
  case hd => rfl
  iterate 2
    apply WL.quiet
    case hw => rfl
    case hq => exact rfl
  refine WL.mapsClone (t := 80) (m := m) (g := 106) (es := es) (cl := cl) rfl rfl rfl rfl isClone hm ?_
  iterate 2
    apply WL.quiet
    case hw => rfl
    case hq => exact rfl
  apply WL.nil
  exact VB.ret (v := .map (some σ.next)) rfl Try.func82 rfl ⟨rfl, rfl⟩
theorem clone83 {σ : St} {m cl : Nat} {es : List MapEntry} (hm : σ.get m = .map es cl) : WF M.toEnv 83 [.map (some m)] σ (fun r σ' => r = .map (some σ.next) ∧ σ' = σ.push (.map es cl)) := by
  refine WF.of_VB (fn := Try.f83) Try.func83 rfl rfl (by show 1 ≤ 9; omega) ?_
  refine VB.seq ?_
  apply VB.region
  case hd => rfl
  apply WL.quiet
  case hw => rfl
  case hq => exact rfl
  apply WL.nil
  refine VB.seq (VB.seq ?_)
  apply VB.region
  case hd => rfl
  iterate 2
    apply WL.quiet
    case hw => rfl
    case hq => exact rfl
  apply WL.nil
  apply VB.cond
  case hc => exact rfl
  refine VB.skip (VB.seq ?_)
  apply VB.region
  case hd => rfl
  iterate 2
    apply WL.quiet
    case hw => rfl
    case hq => exact rfl
  refine WL.mapsClone (t := 81) (m := m) (g := 106) (es := es) (cl := cl) rfl rfl rfl rfl isClone hm ?_
  iterate 2
    apply WL.quiet
    case hw => rfl
    case hq => exact rfl
  apply WL.nil
  exact VB.ret (v := .map (some σ.next)) rfl Try.func83 rfl ⟨rfl, rfl⟩

def csL (c1 : Int) : List Value := [.int .i64 0, .int .i64 c1, .int .i64 0, .int .i64 0, .int .i64 0, .int .i64 0, .int .i64 (-1), .bool false]
/-- A heap in which nothing was given back yet; of its memory's steps only stores were done. -/
def lawS (s : HS) (c1 : Int) : HS := { s with cs := csL c1, row := false, wv := .slice none 0 0 }
def X8 (xb : Blk) : St := (⟨7, .leaf⟩ : St).push xb
def hdr (a b n c : Nat) (c1 : Int) : Blk := .cells 107 (.slice (some ⟨a, 0, none⟩) (n + 1) c :: .slice (some ⟨b, 0, none⟩) (n + 1) c :: csL c1)
def hst (p e g : Nat) (wv : Value) (first words bad : Int) : Blk := .cells 83 [.pointer (some ⟨p, 0, none⟩), .int .i64 first, .int .i64 words, .map (some e), .map (some g), wv, .int .i64 bad]
def s44o (s : HS) (c1 : Int) (xb : Blk) : St := mix (lawS s c1) (X8 xb |>.push (hdr 5 6 s.n (s.n + 1) c1))
def s44a (s : HS) (c1 : Int) (xb : Blk) : St := mix (lawS s c1) (X8 xb |>.push (hdr 5 6 s.n (s.n + 1) c1) |>.push (.cells 89 []) |>.push (.row 89 1 s.ws))
def s44b (s : HS) (c1 : Int) (xb : Blk) : St := mix (lawS s c1) (X8 xb |>.push (hdr 5 6 s.n (s.n + 1) c1) |>.push (.cells 89 []) |>.push (.row 89 1 s.ws) |>.push (.cells 4 []) |>.push (.row 4 1 s.bs))
/-- Behind the memory's copy. -/
def s44 (s : HS) (c1 : Int) (xb : Blk) : St := mix (lawS s c1) (X8 xb |>.push (hdr 10 12 s.n unk c1) |>.push (.cells 89 []) |>.push (.row 89 1 s.ws) |>.push (.cells 4 []) |>.push (.row 4 1 s.bs))

theorem clone44 (s : HS) (c1 : Int) (xb : Blk) (hwl : s.ws.length = s.n + 1) (hbl : s.bs.length = s.n + 1) (hn : s.n < 1000000) : WF M.toEnv 44 [.pointer (some ⟨2, 0, none⟩)] (mix (lawS s c1) (X8 xb)) (fun r σ' => r = .pointer (some ⟨8, 0, none⟩) ∧ σ' = s44 s c1 xb) := by
  refine WF.run ev0_ok (giv := givL [(13, .c (.slice (some ⟨10, 0, none⟩) (s.n + 1) unk) (s44a s c1 xb)), (18, .c (.slice (some ⟨12, 0, none⟩) (s.n + 1) unk) (s44b s c1 xb))]) (n := 100) (fn := Try.f44)
    (p' := ((True ∧ WF M.toEnv 84 [.slice (some ⟨5, 0, none⟩) (s.n + 1) (s.n + 1)] (s44o s c1 xb) (fun r σ' => r = .slice (some ⟨10, 0, none⟩) (s.n + 1) unk ∧ σ' = s44a s c1 xb))
      ∧ (Hold.cell 2 1 (.slice (some ⟨6, 0, none⟩) (s.n + 1) (s.n + 1))).in (s44a s c1 xb) ∧ True)
      ∧ WF M.toEnv 88 [.slice (some ⟨6, 0, none⟩) (s.n + 1) (s.n + 1)] (s44a s c1 xb) (fun r σ' => r = .slice (some ⟨12, 0, none⟩) (s.n + 1) unk ∧ σ' = s44b s c1 xb)) Try.func44 rfl (by kernel_rfl) ⟨⟨⟨trivial, ?_⟩, ?_, trivial⟩, ?_⟩
  · refine (clone84 (σ := s44o s c1 xb) (b := 5) (a := 0) (k := s.n + 1) (c := s.n + 1) (ws := s.ws) (by rw [s44o, mix_get, if_pos (by omega), hs_get]; rfl) (by show 5 < 9; omega) (by omega) (by omega) (by omega)).mono fun r σ' _ ⟨e1, e2⟩ => ⟨e1, e2.trans ?_⟩
    rw [List.drop_zero, List.take_of_length_le (by omega)]
    kernel_rfl
  · refine ⟨.slice (some ⟨5, 0, none⟩) (s.n + 1) (s.n + 1) :: .slice (some ⟨6, 0, none⟩) (s.n + 1) (s.n + 1) :: csL c1, ?_, rfl⟩
    rw [s44a, mix_get, if_pos (by omega), hs_get]; rfl
  · refine (clone88 (σ := s44a s c1 xb) (b := 6) (a := 0) (k := s.n + 1) (c := s.n + 1) (ws := s.bs) (by rw [s44a, mix_get, if_pos (by omega), hs_get]; rfl) (by show 6 < 11; omega) (by omega) (by omega) (by omega)).mono fun r σ' _ ⟨e1, e2⟩ => ⟨e1, e2.trans ?_⟩
    rw [List.drop_zero, List.take_of_length_le (by omega)]
    kernel_rfl

def s41o (s : HS) (c1 : Int) (xb : Blk) : St := (s44 s c1 xb).push (hst 2 1 3 (.slice none 0 0) s.first s.words s.bad)
def s41b (s : HS) (c1 : Int) (xb : Blk) : St := (s41o s c1 xb).push (.map s.es s.clock)
def s41c (s : HS) (c1 : Int) (xb : Blk) : St := (s41b s c1 xb).push (.map s.gs s.gclock)
/-- Behind the heap's copy. -/
def s41 (s : HS) (c1 : Int) (xb : Blk) : St := (s44 s c1 xb).push (hst 8 14 15 (.slice (some ⟨16, 0, none⟩) 0 0) s.first s.words s.bad) |>.push (.map s.es s.clock) |>.push (.map s.gs s.gclock) |>.push (.cells 74 [])

theorem clone41 (s : HS) (c1 : Int) (xb : Blk) : WF M.toEnv 41 [.pointer (some ⟨0, 0, none⟩), .pointer (some ⟨8, 0, none⟩)] (s44 s c1 xb) (fun r σ' => r = .pointer (some ⟨13, 0, none⟩) ∧ σ' = s41 s c1 xb) := by
  refine WF.run ev0_ok (giv := givL [(16, .c (.map (some 14)) (s41b s c1 xb)), (21, .c (.map (some 15)) (s41c s c1 xb))]) (n := 100) (fn := Try.f41)
    (p' := ((True ∧ WF M.toEnv 82 [.map (some 1)] (s41o s c1 xb) (fun r σ' => r = .map (some 14) ∧ σ' = s41b s c1 xb))
      ∧ (Hold.cell 0 4 (.map (some 3))).in (s41b s c1 xb) ∧ True)
      ∧ WF M.toEnv 83 [.map (some 3)] (s41b s c1 xb) (fun r σ' => r = .map (some 15) ∧ σ' = s41c s c1 xb)) Try.func41 rfl (by kernel_rfl) ⟨⟨⟨trivial, ?_⟩, ?_, trivial⟩, ?_⟩
  · exact clone82 (σ := s41o s c1 xb) (m := 1) (by rw [s41o, St.get_push, if_neg (by show ¬ 13 = 1; omega), s44, mix_get, if_pos (by omega), hs_get]; rfl)
  · refine ⟨[.pointer (some ⟨2, 0, none⟩), .int .i64 s.first, .int .i64 s.words, .map (some 1), .map (some 3), .slice none 0 0, .int .i64 s.bad], ?_, rfl⟩
    rw [s41b, St.get_push, if_neg (by show ¬ 14 = 0; omega), s41o, St.get_push, if_neg (by show ¬ 13 = 0; omega), s44, mix_get, if_pos (by omega), hs_get]; rfl
  · exact clone83 (σ := s41b s c1 xb) (m := 3) (by rw [s41b, St.get_push, if_neg (by show ¬ 14 = 3; omega), s41o, St.get_push, if_neg (by show ¬ 13 = 3; omega), s44, mix_get, if_pos (by omega), hs_get]; rfl)
end
end Go.Proofs.Ytlnlopeodpamdaa.Hx
end

section
/-
  A heap in which blocks were taken one behind the other: its state, in plain Lean.
-/
set_option maxRecDepth 100000
set_option linter.unusedVariables false
namespace Go.Proofs.Ytlnlopeodpamdaa.Hx
open Go AH Go.Proofs
noncomputable section

theorem putAt_get : ∀ (vs cs : List Value) (o i : Nat), o + vs.length ≤ cs.length → (putAt cs o vs)[i]? = if o ≤ i ∧ i < o + vs.length then vs[i - o]? else cs[i]?
  | [], cs, o, i, h => by
    show cs[i]? = _
    rw [if_neg (fun h' => by have h1 := h'.1; have h2 : i < o + 0 := h'.2; omega)]
  | v :: vs, cs, o, i, h => by
    show (putAt (cs.set o v) (o + 1) vs)[i]? = _
    have hl : (v :: vs).length = vs.length + 1 := rfl
    rw [hl] at h ⊢
    rw [putAt_get vs (cs.set o v) (o + 1) i (by rw [List.length_set]; omega), List.getElem?_set]
    by_cases h1 : o = i
    · subst h1
      rw [if_neg (by omega), if_pos rfl, if_pos (by omega), if_pos (by omega), Nat.sub_self]
      rfl
    · rw [if_neg h1]
      by_cases h2 : o + 1 ≤ i ∧ i < o + 1 + vs.length
      · rw [if_pos h2, if_pos (by omega), show i - o = (i - (o + 1)) + 1 by omega, List.getElem?_cons_succ]
      · rw [if_neg h2, if_neg (by omega)]
theorem setR_get (v : Value) (l : List Value) (p : Nat) : ∀ (k i : Nat), p + k ≤ l.length → (setR v l p k)[i]? = if p ≤ i ∧ i < p + k then some v else l[i]?
  | 0, i, h => by rw [if_neg (by omega)]; rfl
  | k + 1, i, h => by
    rw [setR, putAt_get _ _ _ _ (by rw [setR_len]; show p + k + 1 ≤ _; omega), setR_get v l p k i (by omega)]
    show (if p + k ≤ i ∧ i < p + k + 1 then [v][i - (p + k)]? else _) = _
    by_cases h1 : p + k ≤ i ∧ i < p + k + 1
    · rw [if_pos h1, if_pos (by omega), show i - (p + k) = 0 by omega]; rfl
    · rw [if_neg h1]
      by_cases h2 : p ≤ i ∧ i < p + k
      · rw [if_pos h2, if_pos (by omega)]
      · rw [if_neg h2, if_neg (by omega)]
theorem repl_get (v : Value) : ∀ k i, i < k → (repl k [v])[i]? = some v
  | 0, i, h => by omega
  | k + 1, 0, h => rfl
  | k + 1, i + 1, h => by
    show (v :: repl k [v])[i + 1]? = _
    rw [List.getElem?_cons_succ, repl_get v k i (by omega)]
theorem repl_len (v : Value) (k : Nat) : (repl k [v]).length = k := by rw [repl_length]; simp

/-- Blocks that were taken, the last one first: each one's words, and what is stored in all of them. -/
abbrev BL := List (Nat × Nat)
def offL : BL → Nat
  | [] => 0
  | b :: r => offL r + b.1
def entL (b : Nat × Nat) (r : BL) : MapEntry := { key := .int .i64 ((2 + offL r : Nat) : Int), val := blkV ((2 + offL r : Nat) : Int) (b.1 : Int) 0 true, born := r.length }
def esL : BL → List MapEntry
  | [] => []
  | b :: r => esL r ++ [entL b r]
def genL (r : BL) : MapEntry := { key := .int .i64 ((2 + offL r : Nat) : Int), val := .int .i64 1, born := r.length }
def gsL : BL → List MapEntry
  | [] => []
  | b :: r => gsL r ++ [genL r]
def wsL : BL → List Value
  | [] => repl 128 [.int .u64 0]
  | b :: r => setR (.int .u64 (b.2 : Int)) (putAt (wsL r) (2 + offL r) (repl b.1 [.int .u64 0])) (2 + offL r) b.1
def bsL : BL → List Value
  | [] => setR (.bool true) (repl 128 [.bool false]) 2 126
  | b :: r => setR (.bool false) (bsL r) (2 + offL r) b.1
def blL : BL → List BV
  | [] => []
  | b :: r => blL r ++ [(((2 + offL r : Nat) : Int), ((b.1 : Nat) : Int), (0 : Int), true)]
def apS (L : BL) (c1 : Int) : HS := { first := 2, words := 126, bad := 0, es := esL L, clock := L.length, gs := gsL L, gclock := L.length, wv := .slice none 0 0, wb := .dead, cs := csL c1, n := 127, ws := wsL L, bs := bsL L, row := false }

/-- All blocks fit, and are not empty. -/
def FitL : BL → Prop
  | [] => True
  | b :: r => 1 ≤ b.1 ∧ 2 + offL r + b.1 ≤ 128 ∧ 1 ≤ b.2 ∧ FitL r

theorem wsL_len : ∀ L, (wsL L).length = 128
  | [] => repl_len _ _
  | b :: r => by rw [wsL, setR_len, putAt_length, wsL_len r]
theorem bsL_len : ∀ L, (bsL L).length = 128
  | [] => by rw [bsL, setR_len, repl_len]
  | b :: r => by rw [bsL, setR_len, bsL_len r]
theorem esL_len : ∀ L, (esL L).length = L.length
  | [] => rfl
  | b :: r => by rw [esL, List.length_append, esL_len r]; rfl
theorem blL_len : ∀ L, (blL L).length = L.length
  | [] => rfl
  | b :: r => by rw [blL, List.length_append, blL_len r]; rfl
theorem bvOf_ent (b : Nat × Nat) (r : BL) : bvOf (entL b r) = (((2 + offL r : Nat) : Int), ((b.1 : Nat) : Int), (0 : Int), true) := rfl
theorem esL_bv : ∀ L, (esL L).map bvOf = blL L
  | [] => rfl
  | b :: r => by rw [esL, List.map_append, esL_bv r]; rfl
theorem offL_le {L : BL} (h : FitL L) : 2 + offL L ≤ 128 := by
  cases L with
  | nil => show 2 + 0 ≤ 128; omega
  | cons b r => have := h.2.1; show 2 + (offL r + b.1) ≤ 128; omega

/-- Each block lies in what was taken. -/
theorem blL_mem : ∀ {L : BL}, FitL L → ∀ x ∈ blL L, ∃ p k : Nat, x = ((p : Int), (k : Int), 0, true) ∧ 2 ≤ p ∧ 1 ≤ k ∧ p + k ≤ 2 + offL L
  | [], _, x, hx => by simp [blL] at hx
  | b :: r, h, x, hx => by
    rw [blL] at hx
    rcases List.mem_append.1 hx with hx | hx
    · obtain ⟨p, k, h1, h2, h3, h4⟩ := blL_mem h.2.2.2 x hx
      exact ⟨p, k, h1, h2, h3, by show p + k ≤ 2 + (offL r + b.1); omega⟩
    · simp only [List.mem_singleton] at hx
      exact ⟨2 + offL r, b.1, hx, by omega, h.1, by show 2 + offL r + b.1 ≤ 2 + (offL r + b.1); omega⟩
theorem blL_rise : ∀ {L : BL}, FitL L → (blL L).Pairwise (fun x y => x.1 + x.2.1 ≤ y.1 ∧ x.1 < y.1)
  | [], _ => List.Pairwise.nil
  | b :: r, h => by
    rw [blL, List.pairwise_append]
    refine ⟨blL_rise h.2.2.2, List.pairwise_singleton _ _, fun x hx y hy => ?_⟩
    obtain ⟨p, k, h1, h2, h3, h4⟩ := blL_mem h.2.2.2 x hx
    simp only [List.mem_singleton] at hy
    subst hy; subst h1
    exact ⟨by show (p : Int) + (k : Int) ≤ ((2 + offL r : Nat) : Int); omega, by show (p : Int) < ((2 + offL r : Nat) : Int); omega⟩
theorem blL_nodup {L : BL} (h : FitL L) : ((blL L).map (·.1)).Nodup := by
  rw [List.Nodup, List.pairwise_map]
  exact (blL_rise h).imp fun hxy e => by have := hxy.2; omega
theorem blL_sorted {L : BL} (h : FitL L) : sortB (blL L) = blL L := (sortB_unique (blL_nodup h) (List.Perm.refl _) ((blL_rise h).imp fun hxy => by have := hxy.2; omega)).symm

theorem esL_mem : ∀ {L : BL}, FitL L → ∀ e ∈ esL L, ∃ p k : Nat, e.key = .int .i64 (p : Int) ∧ e.val = blkV (p : Int) (k : Int) 0 true ∧ 2 ≤ p ∧ 1 ≤ k ∧ p + k ≤ 2 + offL L ∧ e.born < L.length
  | [], _, x, hx => by simp [esL] at hx
  | b :: r, h, x, hx => by
    rw [esL] at hx
    rcases List.mem_append.1 hx with hx | hx
    · obtain ⟨p, k, h1, h2, h3, h4, h5, h6⟩ := esL_mem h.2.2.2 x hx
      exact ⟨p, k, h1, h2, h3, h4, by show p + k ≤ 2 + (offL r + b.1); omega, by show x.born < r.length + 1; omega⟩
    · simp only [List.mem_singleton] at hx
      subst hx
      exact ⟨2 + offL r, b.1, rfl, rfl, by omega, h.1, by show 2 + offL r + b.1 ≤ 2 + (offL r + b.1); omega, by show r.length < r.length + 1; omega⟩
theorem gsL_mem : ∀ (L : BL), ∀ e ∈ gsL L, ∃ p : Nat, e.key = .int .i64 (p : Int) ∧ e.val = .int .i64 1
  | [], x, hx => by simp [gsL] at hx
  | b :: r, x, hx => by
    rw [gsL] at hx
    rcases List.mem_append.1 hx with hx | hx
    · exact gsL_mem r x hx
    · simp only [List.mem_singleton] at hx
      subst hx
      exact ⟨2 + offL r, rfl, rfl⟩
theorem esL_born : ∀ L : BL, (esL L).map (·.born) = List.range L.length
  | [] => rfl
  | b :: r => by
    rw [esL, List.map_append, esL_born r]
    show _ ++ [r.length] = List.range (r.length + 1)
    rw [List.range_succ]
theorem esL_stamped {L : BL} (h : FitL L) : Stamped (esL L) L.length := ⟨by rw [esL_born]; exact List.nodup_range, fun e he => by
  obtain ⟨_, _, _, _, _, _, _, h6⟩ := esL_mem h e he
  exact h6⟩
theorem findI_none {es : List MapEntry} {a : Int} (h : ∀ e ∈ es, ∃ z, e.key = .int .i64 z ∧ z ≠ a) : ∀ i, findI a es i = none := by
  induction es with
  | nil => intro i; rfl
  | cons e r ih =>
    intro i
    obtain ⟨z, hz, hne⟩ := h e (by simp)
    simp only [findI, hz]
    rw [if_neg (by omega)]
    exact ih (fun e he => h e (by simp [he])) _
theorem esL_fresh {L : BL} (h : FitL L) : findI ((2 + offL L : Nat) : Int) (esL L) 0 = none := findI_none (fun e he => by
  obtain ⟨p, k, h1, h2, h3, h4, h5, h6⟩ := esL_mem h e he
  exact ⟨_, h1, by omega⟩) 0
theorem gsL_fresh : ∀ {L : BL}, FitL L → ∀ {a : Nat}, 2 + offL L ≤ a → ∀ i, findI (a : Int) (gsL L) i = none
  | [], _, a, _ => fun i => rfl
  | b :: r, h, a, ha => findI_none (fun e he => by
    have : ∀ {L : BL}, FitL L → ∀ e ∈ gsL L, ∃ p : Nat, e.key = .int .i64 (p : Int) ∧ p < 2 + offL L := by
      intro L
      induction L with
      | nil => intro _ e he; simp [gsL] at he
      | cons b r ih =>
        intro h e he
        rw [gsL] at he
        rcases List.mem_append.1 he with he | he
        · obtain ⟨p, h1, h2⟩ := ih h.2.2.2 e he
          exact ⟨p, h1, by show p < 2 + (offL r + b.1); omega⟩
        · simp only [List.mem_singleton] at he
          subst he
          exact ⟨2 + offL r, rfl, by have := h.1; show 2 + offL r < 2 + (offL r + b.1); omega⟩
    obtain ⟨p, h1, h2⟩ := this h e he
    exact ⟨_, h1, by omega⟩)

theorem gap_end (w : Int) (hw : 1 ≤ w) : ∀ {L : BL}, FitL L → gap w (blL L) 2 = (((2 + offL L : Nat) : Int), false) := by
  have app : ∀ (l : List BV) (b : BV) (a : Int), (gap w l a).2 = false → gap w (l ++ [b]) a = if w ≤ b.1 - (gap w l a).1 then ((gap w l a).1, true) else (b.1 + b.2.1, false) := by
    intro l
    induction l with
    | nil => intro b a _; rfl
    | cons x r ih =>
      intro b a h
      show (if w ≤ x.1 - a then (a, true) else gap w (r ++ [b]) (x.1 + x.2.1)) = _
      by_cases hx : w ≤ x.1 - a
      · simp only [gap, if_pos hx] at h
        cases h
      · simp only [gap, if_neg hx] at h ⊢
        exact ih b _ h
  intro L
  induction L with
  | nil => intro _; rfl
  | cons b r ih =>
    intro h
    have h0 := ih h.2.2.2
    rw [blL, app _ _ _ (by rw [h0]), h0]
    show (if w ≤ ((2 + offL r : Nat) : Int) - ((2 + offL r : Nat) : Int) then _ else (((2 + offL r : Nat) : Int) + (b.1 : Int), false)) = _
    rw [if_neg (by omega)]
    have : ((2 + offL r : Nat) : Int) + (b.1 : Int) = ((2 + offL (b :: r) : Nat) : Int) := by
      show _ = ((2 + (offL r + b.1) : Nat) : Int); omega
    rw [this]

/-! ### The state's properties -/
theorem pure_mapE {es : List MapEntry} (h : ∀ e ∈ es, ∀ ρ : Nat → AH.Loc, AH.ren ρ e.key = e.key ∧ AH.ren ρ e.val = e.val) (ρ : Nat → AH.Loc) : es.map (renE ρ) = es :=
  (List.map_congr_left fun e he => by rw [renE, (h e he ρ).1, (h e he ρ).2]; rfl).trans (List.map_id _)
theorem repl_pure {v : Value} (hv : ∀ ρ : Nat → AH.Loc, AH.ren ρ v = v) (k : Nat) (ρ : Nat → AH.Loc) : (repl k [v]).map (AH.ren ρ) = repl k [v] := repl_map (hv ρ) k
theorem wsL_pure : ∀ (L : BL) (ρ : Nat → AH.Loc), (wsL L).map (AH.ren ρ) = wsL L
  | [], ρ => repl_pure (fun ρ => by simp) _ ρ
  | b :: r, ρ => by
    rw [wsL]
    refine setR_map ?_ (by simp) _ _
    rw [putAt_map, wsL_pure r ρ, repl_pure (fun ρ => by simp)]
theorem bsL_pure : ∀ (L : BL) (ρ : Nat → AH.Loc), (bsL L).map (AH.ren ρ) = bsL L
  | [], ρ => setR_map (repl_pure (fun ρ => by simp) _ ρ) (by simp) _ _
  | b :: r, ρ => by
    rw [bsL]
    exact setR_map (bsL_pure r ρ) (by simp) _ _
theorem csL_pure (c1 : Int) (ρ : Nat → AH.Loc) : (csL c1).map (AH.ren ρ) = csL c1 := by simp [csL]
theorem blkV_pure (a l g : Int) (v : Bool) (ρ : Nat → AH.Loc) : AH.ren ρ (blkV a l g v) = blkV a l g v := by simp [blkV]

theorem apS_nice {L : BL} (h : FitL L) (c1 : Int) : (apS L c1).Nice 0 [] :=
  ⟨pure_mapE fun e he ρ => by
      obtain ⟨p, k, h1, h2, _⟩ := esL_mem h e he
      rw [h1, h2, blkV_pure]
      exact ⟨by simp, rfl⟩,
    pure_mapE fun e he ρ => by
      obtain ⟨p, h1, h2⟩ := gsL_mem L e he
      rw [h1, h2]
      exact ⟨by simp, by simp⟩, csL_pure c1, wsL_pure L, bsL_pure L, fun ρ => rfl, rfl, wsL_len L, bsL_len L, by show 127 < 1000000; omega, .inl ⟨rfl, rfl, rfl⟩, fun _ => rfl⟩
theorem apS_good {L : BL} (h : FitL L) (c1 : Int) (hl : L.length ≤ 1000) : (apS L c1).Good :=
  ⟨(apS_nice h c1).ok, esL_stamped h, fun e he => by
      obtain ⟨p, k, h1, h2, h3, h4, h5, _⟩ := esL_mem h e he
      exact ⟨_, _, _, _, h2, h1, by omega⟩, by show (esL L).length ≤ _; rw [esL_len]; omega, by show (((esL L).map bvOf).map (·.1)).Nodup; rw [esL_bv]; exact blL_nodup h, .inl rfl⟩
theorem apS_blocks {L : BL} (h : FitL L) (c1 : Int) : (apS L c1).blocks = blL L := by
  show sortB ((esL L).map bvOf) = _
  rw [esL_bv, blL_sorted h]
theorem apS_fits {L : BL} (h : FitL L) (c1 : Int) (w : Int) (hw : 0 ≤ w ∧ w ≤ 1000000) : Fits (apS L c1) w :=
  ⟨⟨by show (0 : Int) ≤ 2; omega, by show (2 : Int) ≤ _; omega⟩, ⟨by show (0 : Int) ≤ 126; omega, by show (126 : Int) ≤ _; omega⟩, ⟨hw.1, by omega⟩, fun b hb => by
    rw [apS_blocks h] at hb
    obtain ⟨p, k, rfl, h2, h3, h4⟩ := blL_mem h b hb
    have := offL_le h
    exact ⟨by show (0 : Int) ≤ p; omega, by show (p : Int) ≤ _; omega, by show (0 : Int) ≤ k; omega, by show (k : Int) ≤ _; omega⟩⟩
theorem apS_gs {L : BL} (c1 : Int) : ShapedG (apS L c1).gs := fun e he => by
  obtain ⟨p, h1, h2⟩ := gsL_mem L e he
  exact ⟨_, _, h1, h2, by omega, by omega⟩
/-- The next block, all 0; so many of its words are stored. -/
def midS (L : BL) (k t j : Nat) (c1 : Int) : HS := { apS ((k, t) :: L) c1 with ws := setR (.int .u64 (t : Int)) (putAt (wsL L) (2 + offL L) (repl k [.int .u64 0])) (2 + offL L) j }
theorem midS_end (L : BL) (k t : Nat) (c1 : Int) : midS L k t k c1 = apS ((k, t) :: L) c1 := rfl
theorem apS_take {L : BL} (h : FitL L) (c1 : Int) (k t : Nat) : takeS (apS L c1) (2 + offL L) k = midS L k t 0 c1 := by
  have hf := gsL_fresh h (a := 2 + offL L) (Nat.le_refl _) 0
  have hg : genOf (gsL L) ((2 + offL L : Nat) : Int) = 0 := by simp only [genOf, hf]
  have hu : gensUp (gsL L) L.length ((2 + offL L : Nat) : Int) = (gsL L ++ [genL L], L.length + 1) := by simp only [gensUp, hf]; rfl
  show ({ apS L c1 with es := esL L ++ [{ key := .int .i64 ((2 + offL L : Nat) : Int), val := blkV ((2 + offL L : Nat) : Int) (k : Int) (genOf (gsL L) ((2 + offL L : Nat) : Int)) true, born := L.length }], clock := L.length + 1, gs := (gensUp (gsL L) L.length ((2 + offL L : Nat) : Int)).1, gclock := (gensUp (gsL L) L.length ((2 + offL L : Nat) : Int)).2, bs := setR (.bool false) (bsL L) (2 + offL L) k, ws := putAt (wsL L) (2 + offL L) (repl k [.int .u64 0]) } : HS) = _
  rw [hg, hu]
  rfl
end
end Go.Proofs.Ytlnlopeodpamdaa.Hx
end

section
/-
  What HeapFills' runs share.
-/
namespace Go.Proofs.Ytlnlopeodpamdaa.Hx
open Go AH Go.Proofs
theorem one32 : isT (ev2 M orc 100000 50 32 [] St.empty) = true := by kernel_rfl
noncomputable def orc03 : CallF := orcT 32 orc
theorem orc03_ok : CallOk M orc03 := orcT_ok orc_ok (ev2_sound orc_ok 100000 50) one32
noncomputable def ev03 : CallF := ev2 M orc03 100000 50
theorem ev03_ok : CallOk M ev03 := ev2_sound orc03_ok 100000 50
def ovF (w n : Int) : Tmp → Option Value := fun t => bif Nat.beq t 17 then some (.int .i64 w) else bif Nat.beq t 20 then some (.int .i64 n) else none
def owF (a b w n : Int) : Prop := (True ∧ intOp .and .i64 a 62 = some (.int .i64 w)) ∧ intOp .and .i64 b 7 = some (.int .i64 n)
noncomputable def runF (w n a b : Int) : Option Prop := okO (bodyO M ev03 (ovF w n) 100000 4 [.int .i64 a, .int .i64 b] St.empty)
theorem hd8 {α : Type} {x y : α} {l m : List α} (h : x :: l = y :: m) : x = y ∧ l = m := by cases h; exact ⟨rfl, rfl⟩
end Go.Proofs.Ytlnlopeodpamdaa.Hx
end
