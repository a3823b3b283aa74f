/-
  mem's Barred, Store, Peek and Clone over a heap's small state.
-/
import Derived.Test.YtlnlopeodpamdaaLawHMix
import Derived.Test.YtlnlopeodpamdaaLawHBar
import Derived.Test.YtlnlopeodpamdaaAh37
set_option maxRecDepth 100000
set_option linter.unusedVariables false
namespace Go.Proofs.Ytlnlopeodpamdaa.Hx
open Go AH Go.Proofs
noncomputable section

def T4 : TyI := { desc := .bool, size := 1, bytes := 1, zero := .bool false, eqok := true }
theorem ty89 : M.toEnv.ty 89 = some T89 := by kernel_rfl
theorem ty87 : M.toEnv.ty 87 = some T87 := by kernel_rfl

theorem ld_cell {σ : St} {i : TyI} {b a : Nat} {v : Value} {cs : List Value} (hi : i.agg = false) (hk : (σ.get b).known = some cs) (hv : cs[a]? = some v) : ldVar i σ ⟨b, a, none⟩ = some v := by
  have ha : a < cs.length := by
    rcases Nat.lt_or_ge a cs.length with h | h
    · exact h
    · rw [List.getElem?_eq_none h] at hv; cases hv
  have hb : Nat.ble (a + 1) cs.length = true := Nat.ble_eq_true_of_le (by omega)
  simp only [ldVar, hi, cond_false, ldCells, hk, hb, Option.isNone_none, Bool.and_self, cond_true]
  have : (cs.drop a).take 1 = [v] := by
    rw [List.drop_eq_getElem_cons ha, List.take_succ_cons, List.take_zero]
    rw [List.getElem?_eq_getElem ha] at hv
    simpa using hv
  rw [this]

theorem idx_ptr {b a n : Nat} (h : a < n) : (if 0 ≤ ((a : Nat) : Int) ∧ ((a : Nat) : Int) < ((n : Nat) : Int) then some (Value.pointer (some (addA ⟨b, 0, none⟩ (((a : Nat) : Int).toNat * 1)))) else none) = some (Value.pointer (some ⟨b, a, none⟩)) := by
  rw [if_pos ⟨by omega, by omega⟩, Int.toNat_natCast, Nat.mul_one]
  unfold addA
  split
  · rename_i h0; rw [h0]
  · simp

/-- A word's bar. -/
theorem barred_ok (s : HS) (a : Nat) (b : Bool) (ha : a < s.n + 1) (hb : s.bs[a]? = some (.bool b)) :
    WF M.toEnv 40 [.pointer (some ⟨2, 0, none⟩), .int .i64 a] (ms s) (fun r σ' => r = .bool b ∧ σ' = ms s) := by
  refine WF.run ev0_ok (giv := givL [(6, .q (.bool false)), (11, .q (.bool false)), (19, .q (.pointer (some ⟨6, a, none⟩))), (20, .q (.bool b))]) (n := 100) (fn := Try.f40) (v := .bool b) (σ' := ms s)
    (p' := (((True ∧ some (Value.bool (ltI (a : Int) 0)) = some (.bool false)) ∧ some (Value.bool (leI ((s.n + 1 : Nat) : Int) a)) = some (.bool false)) ∧ (if 0 ≤ ((a : Nat) : Int) ∧ ((a : Nat) : Int) < ((s.n + 1 : Nat) : Int) then some (Value.pointer (some (addA ⟨6, 0, none⟩ (((a : Nat) : Int).toNat * 1)))) else none) = some (Value.pointer (some ⟨6, a, none⟩))) ∧ ldVar T4 (ms s) ⟨6, a, none⟩ = some (.bool b)) Try.func40 rfl (by kernel_rfl) ⟨⟨⟨⟨trivial, ?_⟩, ?_⟩, ?_⟩, ?_⟩
  · rw [ltI_eq, decide_eq_false (by omega)]
  · rw [leI_eq, decide_eq_false (by omega)]
  · exact idx_ptr ha
  · exact ld_cell (cs := s.bs) rfl (by rw [ms_get]; exact arrR_known _ _ _) hb

theorem appQ_cap0 {E : Env} {σ : St} {t tx : Nat} {i ix : TyI} {e : TypeId} {j : TyI} {b : Nat} {new : List Value} {n : Nat} {x : Value} (ht : E.ty t = some i) (hd : i.desc = .slice e) (htx : E.ty tx = some ix) {e2 : TypeId} (hdx : ix.desc = .slice e2)
    (he : E.ty e = some j) (hs : srcQ σ j.size x = some (n, new)) (hj : 0 < j.size) (hjb : 0 < j.bytes) (hb : (σ.get b).known = some []) (hn : 0 < n) (hbd : (8 * n + 4096) * j.bytes ≤ 281474976710656) :
    appQ E σ t tx (.slice (some ⟨b, 0, none⟩) 0 0) x = some (.slice (some ⟨σ.next, 0, none⟩) n unk, σ.push (.row e j.size new)) := by
  have h1 : ¬ (j.size = 0 ∨ j.bytes = 0) := by omega
  have h2 : (0 : Nat) < half := by unfold half; omega
  have h3 : ¬ (n ≤ 0) := by omega
  have hsz : srcZ σ (.slice e2) j x = some (n, new) := hs
  have hl : ldCells σ ⟨b, 0, none⟩ 0 = some [] := by
    simp only [ldCells, hb]
    rfl
  simp only [appQ, ht, htx, hd, hdx, he, hsz, if_neg h1, if_pos h2, Nat.zero_add, if_neg h3, if_pos hbd, Nat.zero_mul, hl, List.nil_append]

theorem src_mid {σ : St} {b a k c : Nat} {ws : List Value} (hg : (σ.get b).known = some ws) (hin : a + k ≤ ws.length) : srcQ σ 1 (.slice (some ⟨b, a, none⟩) k c) = some (k, (ws.drop a).take k) := by
  have hb : Nat.ble (a + k) ws.length = true := Nat.ble_eq_true_of_le hin
  simp only [srcQ, Nat.mul_one, ldCells, hg, hb, Option.isNone_none, Bool.and_self, cond_true]

/-- What slices.Clone leaves. -/
def cloned (σ : St) (e : Nat) (l : List Value) : St := (σ.push (.cells e [])).push (.row e 1 l)

theorem clone84 {σ : St} {b a k c : Nat} {ws : List Value} (hg : (σ.get b).known = some ws) (hb : b < σ.next) (hk : 0 < k) (hin : a + k ≤ ws.length) (hkb : k ≤ 1000000) :
    WF M.toEnv 84 [.slice (some ⟨b, a, none⟩) k c] σ (fun r σ' => r = .slice (some ⟨σ.next + 1, 0, none⟩) k unk ∧ σ' = cloned σ 89 ((ws.drop a).take k)) := by
  refine WF.run ev0_ok (giv := givL [(7, .w (some (.slice (some ⟨σ.next + 1, 0, none⟩) k unk)) (cloned σ 89 ((ws.drop a).take k)))]) (n := 100) (fn := Try.f84)
    (p' := True ∧ (match appQ M.toEnv (σ.push (.cells 89 [])) 87 87 (.slice (some ⟨σ.next, 0, none⟩) 0 0) (.slice (some ⟨b, a, none⟩) k c) with | some (u, σ') => some (some u, σ') | none => none) = some (some (.slice (some ⟨σ.next + 1, 0, none⟩) k unk), cloned σ 89 ((ws.drop a).take k))) Try.func84 rfl (by kernel_rfl) ⟨trivial, ?_⟩
  have hg' : (((σ.push (.cells 89 [])).get b).known) = some ws := by rw [St.get_push, if_neg (by omega)]; exact hg
  have h0 : (((σ.push (.cells 89 [])).get σ.next).known) = some [] := by rw [St.get_push, if_pos rfl]; rfl
  rw [appQ_cap0 (i := T87) (ix := T87) (j := T89) (e := 89) (e2 := 89) ty87 rfl ty87 rfl ty89 (src_mid hg' hin) (by show 0 < 1; omega) (by show 0 < 8; omega) h0 hk (by show (8 * k + 4096) * 8 ≤ _; omega)]
  rfl

def T27 : TyI := { desc := .slice 4, size := 1, bytes := 24, zero := .slice none 0 0, eqok := true }
theorem ty27 : M.toEnv.ty 27 = some T27 := by kernel_rfl
theorem ty4 : M.toEnv.ty 4 = some T4 := by kernel_rfl
theorem clone88 {σ : St} {b a k c : Nat} {ws : List Value} (hg : (σ.get b).known = some ws) (hb : b < σ.next) (hk : 0 < k) (hin : a + k ≤ ws.length) (hkb : k ≤ 1000000) :
    WF M.toEnv 88 [.slice (some ⟨b, a, none⟩) k c] σ (fun r σ' => r = .slice (some ⟨σ.next + 1, 0, none⟩) k unk ∧ σ' = cloned σ 4 ((ws.drop a).take k)) := by
  refine WF.run ev0_ok (giv := givL [(7, .w (some (.slice (some ⟨σ.next + 1, 0, none⟩) k unk)) (cloned σ 4 ((ws.drop a).take k)))]) (n := 100) (fn := Try.f88)
    (p' := True ∧ (match appQ M.toEnv (σ.push (.cells 4 [])) 27 27 (.slice (some ⟨σ.next, 0, none⟩) 0 0) (.slice (some ⟨b, a, none⟩) k c) with | some (u, σ') => some (some u, σ') | none => none) = some (some (.slice (some ⟨σ.next + 1, 0, none⟩) k unk), cloned σ 4 ((ws.drop a).take k))) Try.func88 rfl (by kernel_rfl) ⟨trivial, ?_⟩
  have hg' : (((σ.push (.cells 4 [])).get b).known) = some ws := by rw [St.get_push, if_neg (by omega)]; exact hg
  have h0 : (((σ.push (.cells 4 [])).get σ.next).known) = some [] := by rw [St.get_push, if_pos rfl]; rfl
  rw [appQ_cap0 (i := T27) (ix := T27) (j := T4) (e := 4) (e2 := 4) ty27 rfl ty27 rfl ty4 (src_mid hg' hin) (by show 0 < 1; omega) (by show 0 < 1; omega) h0 hk (by show (8 * k + 4096) * 1 ≤ _; omega)]
  rfl

theorem held2 (s : HS) (l : List Value) : (Hold.cell 2 0 (.slice (some ⟨5, 0, none⟩) (s.n + 1) (capR s.row s.n))).in (cloned (ms s) 89 l) := by
  refine ⟨.slice (some ⟨5, 0, none⟩) (s.n + 1) (capR s.row s.n) :: .slice (some ⟨6, 0, none⟩) (s.n + 1) (capR s.row s.n) :: s.cs, ?_, rfl⟩
  rw [cloned, St.get_push, if_neg (by show ¬ 8 = 2; omega), St.get_push, if_neg (by show ¬ 7 = 2; omega), ms_get]
  rfl
/-- Words that are looked at. -/
theorem peek_ok (s : HS) (a k : Nat) (hk : 1 ≤ k) (hin : a + k ≤ s.n + 1) (hwl : s.ws.length = s.n + 1) (hn : s.n ≤ 100000) :
    WF M.toEnv 42 [.pointer (some ⟨2, 0, none⟩), .int .i64 a, .int .i64 k] (ms s) (fun r σ' => r = .slice (some ⟨8, 0, none⟩) k unk ∧ σ' = cloned (ms s) 89 ((s.ws.drop a).take k)) := by
  refine WF.run ev0_ok (giv := givL [(8, .q (.bool false)), (11, .q (.bool false)), (17, .q (.bool false)), (33, .q (.int .i64 k)), (34, .q (.int .i64 ((a + k : Nat) : Int))), (35, .q (.slice (some ⟨5, a, none⟩) (a + k - a) (capR s.row s.n - a))), (36, .c (.slice (some ⟨8, 0, none⟩) k unk) (cloned (ms s) 89 ((s.ws.drop a).take k)))]) (n := 100) (fn := Try.f42)
    (p' := (((((((True ∧ some (Value.bool (ltI (a : Int) 0)) = some (.bool false)) ∧ some (Value.bool (ltI (k : Int) 1)) = some (.bool false)) ∧ some (Value.bool (leI ((s.n + 1 : Nat) : Int) a)) = some (.bool false)) ∧ foldMM false (.int .i64 k) [.int .i64 (IntKind.i64.wrap (((s.n + 1 : Nat) : Int) - a))] = some (.int .i64 k)) ∧ some (Value.int .i64 (IntKind.i64.wrap ((a : Int) + k))) = some (.int .i64 ((a + k : Nat) : Int))) ∧ sliceQ M.toEnv (ms s) 87 (.slice (some ⟨5, 0, none⟩) (s.n + 1) (capR s.row s.n)) (some (.int .i64 a)) (some (.int .i64 ((a + k : Nat) : Int))) none = some (.slice (some ⟨5, a, none⟩) (a + k - a) (capR s.row s.n - a))) ∧ WF M.toEnv 84 [.slice (some ⟨5, a, none⟩) (a + k - a) (capR s.row s.n - a)] (ms s) (fun r' σ'' => r' = .slice (some ⟨8, 0, none⟩) k unk ∧ σ'' = cloned (ms s) 89 ((s.ws.drop a).take k)))
      ∧ (Hold.cell 2 0 (.slice (some ⟨5, 0, none⟩) (s.n + 1) (capR s.row s.n))).in (cloned (ms s) 89 ((s.ws.drop a).take k)) ∧ True) Try.func42 rfl (by kernel_rfl) ⟨⟨⟨⟨⟨⟨⟨⟨trivial, ?_⟩, ?_⟩, ?_⟩, ?_⟩, ?_⟩, ?_⟩, ?_⟩, held2 s _, trivial⟩
  · rw [ltI_eq, decide_eq_false (by omega)]
  · rw [ltI_eq, decide_eq_false (by omega)]
  · rw [leI_eq, decide_eq_false (by omega)]
  · rw [IntWalk.i64_in _ (by omega)]
    show some (Value.int .i64 (if (((s.n + 1 : Nat) : Int) - a) < (k : Int) then (((s.n + 1 : Nat) : Int) - a) else (k : Int))) = _
    rw [if_neg (by omega)]
  · rw [IntWalk.i64_in _ (by omega)]
    rfl
  · exact slice_arr (i := T87) (j := T89) (e := 89) (b := 5) (n := s.n) (p := a) (q := a + k) (c := 89) (cs := s.ws) (row := s.row) ty87 rfl ty89 rfl (by rw [ms_get]; rfl) hwl (by omega) (by omega) (by omega) (by omega) (by show s.n + 1 < 4611686018427387904; omega)
  · rw [show a + k - a = k by omega]
    exact clone84 (σ := ms s) (by rw [ms_get]; exact arrR_known _ _ _) (by show 5 < 7; omega) (by omega) (by rw [hwl]; omega) (by omega)

/-- The box of a value that is stored. -/
def boxS (s : HS) (v : Int) : St := (ms s).push (.cells 89 [.int .u64 v])
def putC (s : HS) (c0 c1 : Value) (cr : List Value) : HS := { s with cs := c0 :: c1 :: cr }
theorem use_ok (s : HS) (a : Nat) (v c1 : Int) (c0 : Value) (cr : List Value) (ha : a < s.n + 1) (hb : s.bs[a]? = some (.bool false)) (hwl : s.ws.length = s.n + 1) (h0 : (putC s c0 (.int .i64 (IntKind.i64.wrap (c1 + 1))) cr).MOk) (f0 : (putC s c0 (.int .i64 (IntKind.i64.wrap (c1 + 1))) cr).MFlat) :
    WF M.toEnv 85 [.pointer (some ⟨2, 0, none⟩), .int .i64 1, .int .i64 a, .func (.func 86) #[] #[.pointer (some ⟨7, 0, none⟩)]] (boxS (putC s c0 (.int .i64 c1) cr) v) (fun r σ' => r = .tuple #[] ∧ σ' = boxS { putC s c0 (.int .i64 (IntKind.i64.wrap (c1 + 1))) cr with ws := putAt s.ws a [.int .u64 v] } v) := by
  have hbar : WF M.toEnv 40 [.pointer (some ⟨2, 0, none⟩), .int .i64 a] (boxS (putC s c0 (.int .i64 (IntKind.i64.wrap (c1 + 1))) cr) v) (fun r' σ'' => r' = .bool false ∧ σ'' = boxS (putC s c0 (.int .i64 (IntKind.i64.wrap (c1 + 1))) cr) v) :=
    (liftM (σ := boxS (putC s c0 (.int .i64 (IntKind.i64.wrap (c1 + 1))) cr) v) h0 f0 h0 f0 (by show 7 ≤ 8; omega) (by kernel_rfl) (by kernel_rfl) (by kernel_rfl) (fun u hu => by
      simp only [List.mem_cons, List.not_mem_nil, or_false] at hu
      rcases hu with rfl | rfl
      · exact Sc_ptr (by show 2 < 7; omega)
      · exact Sc_int _ _ _) (by simp [renA, loc]) (fun ρ => by simp) (barred_ok _ a false ha hb)).mono fun r σ' _ ⟨e1, e2⟩ => ⟨e1, e2.trans (by kernel_rfl)⟩
  have hcl : WF M.toEnv 86 [.pointer (some ⟨5, a, none⟩), .pointer (some ⟨7, 0, none⟩)] (boxS (putC s c0 (.int .i64 (IntKind.i64.wrap (c1 + 1))) cr) v) (fun r' σ'' => r' = .tuple #[] ∧ σ'' = boxS { putC s c0 (.int .i64 (IntKind.i64.wrap (c1 + 1))) cr with ws := putAt s.ws a [.int .u64 v] } v) := by
    refine WF.run ev0_ok (giv := fun o => match o.op with | .store _ _ _ => .w none (boxS { putC s c0 (.int .i64 (IntKind.i64.wrap (c1 + 1))) cr with ws := putAt s.ws a [.int .u64 v] } v) | _ => .no) (n := 100) (fn := Try.f86)
      (p' := True ∧ opW M.toEnv (frL [(5, .pointer (some ⟨5, a, none⟩)), (4, .int .u64 v)]) (boxS (putC s c0 (.int .i64 (IntKind.i64.wrap (c1 + 1))) cr) v) (.store 89 (.tmp 5) (.tmp 4)) = some (none, boxS { putC s c0 (.int .i64 (IntKind.i64.wrap (c1 + 1))) cr with ws := putAt s.ws a [.int .u64 v] } v)) Try.func86 rfl (by kernel_rfl) ⟨trivial, ?_⟩
    refine (opW_store (i := T89) rfl rfl ty89 rfl (stCells_arr (row := s.row) (e := 89) (cs := s.ws) (by rw [boxS, St.get_push, if_neg (by show ¬ 7 = 5; omega), ms_get]; rfl) (by rw [hwl]; show a + 1 ≤ s.n + 1; omega) rfl)).trans ?_
    kernel_rfl
  refine WF.run ev0_ok (giv := givL [(22, .c (.bool false) (boxS (putC s c0 (.int .i64 (IntKind.i64.wrap (c1 + 1))) cr) v)), (32, .q (.pointer (some ⟨5, a, none⟩))), (33, .c (.tuple #[]) (boxS { putC s c0 (.int .i64 (IntKind.i64.wrap (c1 + 1))) cr with ws := putAt s.ws a [.int .u64 v] } v))]) (n := 100) (fn := Try.f85)
    (p' := ((True ∧ WF M.toEnv 40 [.pointer (some ⟨2, 0, none⟩), .int .i64 a] (boxS (putC s c0 (.int .i64 (IntKind.i64.wrap (c1 + 1))) cr) v) (fun r' σ'' => r' = .bool false ∧ σ'' = boxS (putC s c0 (.int .i64 (IntKind.i64.wrap (c1 + 1))) cr) v)) ∧ (if 0 ≤ ((a : Nat) : Int) ∧ ((a : Nat) : Int) < ((s.n + 1 : Nat) : Int) then some (Value.pointer (some (addA ⟨5, 0, none⟩ (((a : Nat) : Int).toNat * 1)))) else none) = some (Value.pointer (some ⟨5, a, none⟩))) ∧ WF M.toEnv 86 [.pointer (some ⟨5, a, none⟩), .pointer (some ⟨7, 0, none⟩)] (boxS (putC s c0 (.int .i64 (IntKind.i64.wrap (c1 + 1))) cr) v) (fun r' σ'' => r' = .tuple #[] ∧ σ'' = boxS { putC s c0 (.int .i64 (IntKind.i64.wrap (c1 + 1))) cr with ws := putAt s.ws a [.int .u64 v] } v)) Try.func85 rfl (by kernel_rfl) ⟨⟨⟨trivial, hbar⟩, idx_ptr ha⟩, hcl⟩

theorem box_get (s : HS) (v : Int) (i : Nat) : (boxS s v).get i = if 7 = i then .cells 89 [.int .u64 v] else (ms s).get i := by
  rw [boxS, St.get_push]; rfl
/-- A word is stored. -/
theorem store_ok (s : HS) (a : Nat) (v c1 : Int) (c0 : Value) (cr : List Value) (ha : a < s.n + 1) (hb : s.bs[a]? = some (.bool false)) (hwl : s.ws.length = s.n + 1) (h0 : (putC s c0 (.int .i64 (IntKind.i64.wrap (c1 + 1))) cr).MOk) (f0 : (putC s c0 (.int .i64 (IntKind.i64.wrap (c1 + 1))) cr).MFlat)
    (h1 : ({ putC s c0 (.int .i64 (IntKind.i64.wrap (c1 + 1))) cr with ws := putAt s.ws a [.int .u64 v] } : HS).MOk) :
    WF M.toEnv 43 [.pointer (some ⟨2, 0, none⟩), .int .i64 a, .int .u64 v] (ms (putC s c0 (.int .i64 c1) cr)) (fun r σ' => r = .tuple #[] ∧ σ' = ms { putC s c0 (.int .i64 (IntKind.i64.wrap (c1 + 1))) cr with ws := putAt s.ws a [.int .u64 v] }) := by
  refine WF.forget (R := fun r => r = .tuple #[]) (by show 7 ≤ 7; omega) (fun i => ms_sc h1 i _ (by show 7 ≤ 7; omega)) (fun i hi => by rcases ms_live hi with rfl | rfl | rfl <;> exact Nat.le_of_ble_eq_true rfl) ?_
  refine WF.mono (WF.run ev0_ok (giv := givL [(9, .c (.tuple #[]) (boxS { putC s c0 (.int .i64 (IntKind.i64.wrap (c1 + 1))) cr with ws := putAt s.ws a [.int .u64 v] } v))]) (n := 100) (fn := Try.f43)
    (v := .tuple #[]) (σ' := boxS { putC s c0 (.int .i64 (IntKind.i64.wrap (c1 + 1))) cr with ws := putAt s.ws a [.int .u64 v] } v)
    (p' := True ∧ WF M.toEnv 85 [.pointer (some ⟨2, 0, none⟩), .int .i64 1, .int .i64 a, .func (.func 86) #[] #[.pointer (some ⟨7, 0, none⟩)]] (boxS (putC s c0 (.int .i64 c1) cr) v) (fun r σ' => r = .tuple #[] ∧ σ' = boxS { putC s c0 (.int .i64 (IntKind.i64.wrap (c1 + 1))) cr with ws := putAt s.ws a [.int .u64 v] } v)) Try.func43 rfl (by kernel_rfl) ⟨trivial, use_ok s a v c1 c0 cr ha hb hwl h0 f0⟩) fun r σ' _ ⟨e1, e2⟩ => ?_
  subst e1; subst e2
  refine ⟨⟨rfl, Sc_tuple.2 fun v hv => by simp at hv⟩, fun i => ?_⟩
  rw [box_get]
  by_cases hi : 7 = i
  · subst hi; right; rw [ms_get]; rfl
  · rw [if_neg hi]; exact .inl rfl

theorem cloned_get (σ : St) (e : Nat) (l : List Value) (i : Nat) : (cloned σ e l).get i = if σ.next + 1 = i then .row e 1 l else if σ.next = i then .cells e [] else σ.get i := by
  rw [cloned, St.get_push, St.get_push]; rfl
/-- Words that are looked at, in any state that has the memory. -/
theorem peek_any {s : HS} {σ : St} (a k : Nat) (hk : 1 ≤ k) (hin : a + k ≤ s.n + 1) (hn : s.n ≤ 100000) (h0 : s.MOk) (f0 : s.MFlat) (h7 : 7 ≤ σ.next) (g2 : σ.get 2 = (ms s).get 2) (g5 : σ.get 5 = (ms s).get 5) (g6 : σ.get 6 = (ms s).get 6) :
    WF M.toEnv 42 [.pointer (some ⟨2, 0, none⟩), .int .i64 a, .int .i64 k] σ (fun r σ' => r = .slice (some ⟨σ.next + 1, 0, none⟩) k unk ∧ σ' = cloned σ 89 ((s.ws.drop a).take k)) := by
  have hc := peek_ok s a k hk hin h0.wl hn
  refine WF.know hc.1 fun hout hsc => ?_
  have hg : ∀ i, ((ms s).get i).live = true → σ.get i = (ms s).get i := fun i hi => by
    rcases ms_live hi with rfl | rfl | rfl
    · exact g2
    · exact g5
    · exact g6
  have hs : Small id (ms s) σ := ⟨fun i hi => (by have : i < 7 := hi; show i < σ.next; omega), fun i j _ _ e => e, fun i hi => by rw [ms_flat f0]; exact hg i hi, fun i => ms_sc h0 i _ (Nat.le_refl _), fun i hi => by
    rcases ms_live hi with rfl | rfl | rfl <;> exact Nat.le_of_ble_eq_true rfl⟩
  have hws : ((s.ws.drop a).take k).map (AH.ren (loc (exN id 7 σ.next))) = (s.ws.drop a).take k := by
    have h1 : ∀ v ∈ s.ws, AH.ren (loc (exN id 7 σ.next)) v = v := fun v hv => by
      have h2 := List.map_inj_left.1 (f0.ws.trans (List.map_id _).symm) v hv
      rw [h0.ws v hv (loc (exN id 7 σ.next)) (loc id) fun i hi => absurd hi (Nat.not_lt_zero _)]
      exact h2
    have h3 : ∀ v ∈ (s.ws.drop a).take k, AH.ren (loc (exN id 7 σ.next)) v = v := fun v hv => h1 v (List.mem_of_mem_drop (List.mem_of_mem_take hv))
    exact (List.map_congr_left h3).trans (List.map_id _)
  rw [← ren3 a k]
  refine WF.frame hs (args3 _ _) hc fun r σ₀' _ ⟨e1, e2⟩ => ?_
  subst e1; subst e2
  refine ⟨cloned σ 89 ((s.ws.drop a).take k), ⟨?_, fun i hi hl => ?_, fun j hj hno => ?_, fun j hj => ?_⟩, ?_, rfl⟩
  · show σ.next + 1 + 1 = σ.next + (9 - 7); omega
  · have hi' : i < 9 := hi
    show (cloned σ 89 _).get (exN id 7 σ.next i) = renB (loc (exN id 7 σ.next)) ((cloned (ms s) 89 _).get i)
    rw [cloned_get, cloned_get]
    show _ = renB _ (if 7 + 1 = i then _ else if 7 = i then _ else _)
    by_cases h8 : 7 + 1 = i
    · subst h8
      rw [show exN id 7 σ.next (7 + 1) = σ.next + 1 from rfl, if_pos rfl, if_pos rfl, renB, hws]
    · by_cases h77 : 7 = i
      · subst h77
        rw [show exN id 7 σ.next 7 = σ.next from exN_new, if_neg (by omega), if_pos rfl, if_neg (by omega), if_pos rfl]
        rfl
      · have hl' : i = 2 ∨ i = 5 ∨ i = 6 := by
          rcases hl with hl | hl
          · have : 7 ≤ i := hl
            omega
          · exact ms_live hl
        rw [show exN id 7 σ.next i = i from exN_lt (by omega), if_neg (by omega), if_neg (by omega), if_neg h8, if_neg h77, renB_exN (ms_sc h0 i 7 (Nat.le_refl _)), ms_flat f0]
        rcases hl' with rfl | rfl | rfl
        · exact g2
        · exact g5
        · exact g6
  · have hj' : j < σ.next := hj
    rw [cloned_get, if_neg (by omega), if_neg (by omega)]
  · have hj' : σ.next + 2 ≤ j := hj
    rw [cloned_get, if_neg (by omega), if_neg (by omega)]
    cases hl : (σ.get j).live with
    | false => rfl
    | true => have := hout j hl; omega
  · rw [ren_slice]
    simp only [renA, loc]
    rw [renC_le (Nat.le_refl _)]
    rfl
end
end Go.Proofs.Ytlnlopeodpamdaa.Hx
