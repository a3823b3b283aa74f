/-
  heap's Take, where there is room.
-/
import Derived.Test.YtlnlopeodpamdaaLawHRoom
import Derived.Test.YtlnlopeodpamdaaLawHBar
set_option maxRecDepth 100000
set_option linter.unusedVariables false
namespace Go.Proofs.Ytlnlopeodpamdaa.Hx
open Go AH Go.Proofs
noncomputable section

/-- An entry's place in a map from whole numbers. -/
def findI (a : Int) : List MapEntry → Nat → Option (Nat × Value)
  | [], _ => none
  | e :: es, i => match e.key with
    | .int _ z => if a = z then some (i, e.val) else findI a es (i + 1)
    | _ => findI a es (i + 1)
theorem findQ_int {es : List MapEntry} (a : Int) (h : ∀ e ∈ es, ∃ z, e.key = .int .i64 z) : ∀ i, findQ (.int .i64) (.int .i64 a) es i = some (findI a es i) := by
  induction es with
  | nil => intro i; rfl
  | cons e r ih =>
    intro i
    obtain ⟨z, hz⟩ := h e (by simp)
    have := ih (fun e he => h e (by simp [he])) (i + 1)
    have hs : Instr.sameNow (.int .i64) (.int .i64 a) (.int .i64 z) = some (decide (a = z)) := rfl
    simp only [findQ, findI, hz, hs]
    by_cases haz : a = z
    · rw [decide_eq_true haz, if_pos haz]
    · rw [decide_eq_false haz, if_neg haz]
      exact this
def ShapedG (gs : List MapEntry) : Prop := ∀ e ∈ gs, ∃ a n, e.key = .int .i64 a ∧ e.val = .int .i64 n ∧ 0 ≤ n ∧ n ≤ 1152921504606846976
/-- How often a block began there. -/
def genOf (gs : List MapEntry) (a : Int) : Int := match findI a gs 0 with
  | some (_, .int _ n) => n
  | _ => 0
def gensUp (gs : List MapEntry) (c : Nat) (a : Int) : List MapEntry × Nat := match findI a gs 0 with
  | some (j, _) => (gs.modify j fun e => { e with key := .int .i64 a, val := .int .i64 (genOf gs a + 1) }, c)
  | none => (gs ++ [{ key := .int .i64 a, val := .int .i64 1, born := c }], c + 1)
theorem findI_val {gs : List MapEntry} (h : ShapedG gs) (a : Int) : ∀ i j v, findI a gs i = some (j, v) → ∃ n, v = .int .i64 n ∧ 0 ≤ n ∧ n ≤ 1152921504606846976 := by
  induction gs with
  | nil => intro i j v h; cases h
  | cons e r ih =>
    intro i j v hf
    obtain ⟨z, n, hz, hv, h0, h1⟩ := h e (by simp)
    simp only [findI, hz] at hf
    split at hf
    · simp only [Option.some.injEq, Prod.mk.injEq] at hf
      exact ⟨n, by rw [← hf.2, hv], h0, h1⟩
    · exact ih (fun e he => h e (by simp [he])) _ _ _ hf

/-- The heap behind a Take of k words at p. -/
def takeS (s : HS) (p k : Nat) : HS := { s with
  es := s.es ++ [{ key := .int .i64 p, val := blkV p k (genOf s.gs p) true, born := s.clock }], clock := s.clock + 1
  gs := (gensUp s.gs s.gclock p).1, gclock := (gensUp s.gs s.gclock p).2
  bs := setR (.bool false) s.bs p k, ws := putAt s.ws p (repl k [.int .u64 0]) }

def T80 : TyI := { desc := .map 3 74, size := 1, bytes := 8, zero := .map none, eqok := true }
theorem shaped_keys {es : List MapEntry} (h : Shaped1 es) : ∀ e ∈ es, ∃ z, e.key = .int .i64 z := fun e he => by
  obtain ⟨a, _, _, _, _, hk, _⟩ := h e he
  exact ⟨a, hk⟩
theorem shapedG_keys {es : List MapEntry} (h : ShapedG es) : ∀ e ∈ es, ∃ z, e.key = .int .i64 z := fun e he => by
  obtain ⟨a, _, hk, _⟩ := h e he
  exact ⟨a, hk⟩

theorem opQ_lookup {E : Env} {f : Fr} {σ : St} {t : Nat} {x k : Operand} {ok : Bool} {m v r : Value} (hx : opd f x = some m) (hk : opd f k = some v) (hr : lookupQ E σ t m v ok = some r) : opQ E f σ (.lookup t x k ok) = some r := by
  simp only [opQ, hx, hk, hr]
theorem opW_mapUpdate {E : Env} {f : Fr} {σ σ' : St} {t : Nat} {m k x : Operand} {vm vk vx : Value} (hm : opd f m = some vm) (hk : opd f k = some vk) (hx : opd f x = some vx) (hr : mapUpdQ E σ t vm vk vx = some σ') : opW E f σ (.mapUpdate t m k x) = some (none, σ') := by
  simp only [opW, hm, hk, hx, hr]
def T81 : TyI := { desc := .map 3 3, size := 1, bytes := 8, zero := .map none, eqok := true }
def T3 : TyI := { desc := .int .i64, size := 1, bytes := 8, zero := .int .i64 0, eqok := true }
theorem ty3 : M.toEnv.ty 3 = some T3 := by kernel_rfl
theorem ty74 : M.toEnv.ty 74 = some T74 := by kernel_rfl
theorem ty80 : M.toEnv.ty 80 = some T80 := by kernel_rfl
theorem ty81 : M.toEnv.ty 81 = some T81 := by kernel_rfl
theorem keyOk3 (a : Int) : keyOk M.toEnv 3 (.int .i64 a) = true := by
  simp only [keyOk, ty3]
  rfl
theorem lookupG {σ : St} {r c : Nat} {gs : List MapEntry} {a : Int} (hg : σ.get r = .map gs c) (hG : ShapedG gs) : lookupQ M.toEnv σ 81 (.map (some r)) (.int .i64 a) false = some (.int .i64 (genOf gs a)) := by
  have hd : T81.desc = .map 3 3 := rfl
  simp only [lookupQ, ty81, hd, ty3, keyOk3, hg]
  have hq := findQ_int a (shapedG_keys hG) 0
  rw [show T3.desc = .int .i64 from rfl, hq]
  cases hf : findI a gs 0 with
  | none => simp only [genOf, hf]; rfl
  | some p =>
    obtain ⟨j, v⟩ := p
    obtain ⟨n, rfl, _⟩ := findI_val hG a _ _ _ hf
    simp only [genOf, hf]
    rfl
theorem mapUpd_new {σ : St} {r c : Nat} {es : List MapEntry} {a : Int} {v : Value} (hg : σ.get r = .map es c) (hk : ∀ e ∈ es, ∃ z, e.key = .int .i64 z) (hf : findI a es 0 = none) : mapUpdQ M.toEnv σ 80 (.map (some r)) (.int .i64 a) v = some (σ.set r (.map (es ++ [{ key := .int .i64 a, val := v, born := c }]) (c + 1))) := by
  have hd : T80.desc = .map 3 74 := rfl
  simp only [mapUpdQ, ty80, hd, ty3, keyOk3, hg]
  have hq := findQ_int a hk 0
  rw [show T3.desc = .int .i64 from rfl, hq, hf]

theorem mapUpd_gens {σ : St} {r c : Nat} {gs : List MapEntry} {a : Int} (hg : σ.get r = .map gs c) (hG : ShapedG gs) : mapUpdQ M.toEnv σ 81 (.map (some r)) (.int .i64 a) (.int .i64 (genOf gs a + 1)) = some (σ.set r (.map (gensUp gs c a).1 (gensUp gs c a).2)) := by
  have hd : T81.desc = .map 3 3 := rfl
  simp only [mapUpdQ, ty81, hd, ty3, keyOk3, hg]
  have hq := findQ_int a (shapedG_keys hG) 0
  rw [show T3.desc = .int .i64 from rfl, hq]
  cases hf : findI a gs 0 with
  | none =>
    have h0 : genOf gs a = 0 := by simp only [genOf, hf]
    simp only [gensUp, hf, h0]
    rfl
  | some p =>
    obtain ⟨j, v⟩ := p
    simp only [gensUp, hf]
theorem genOf_le {gs : List MapEntry} (hG : ShapedG gs) (a : Int) : 0 ≤ genOf gs a ∧ genOf gs a ≤ 1152921504606846976 := by
  unfold genOf
  cases hf : findI a gs 0 with
  | none => exact ⟨by simp, by simp⟩
  | some p =>
    obtain ⟨j, v⟩ := p
    obtain ⟨n, rfl, h0, h1⟩ := findI_val hG a _ _ _ hf
    exact ⟨h0, h1⟩

theorem take_ok (s : HS) (w : Int) (p k : Nat) (h1 : 1 ≤ w) (h2 : w ≤ 65536) (hk : w + w.tmod 2 = k) (hg : s.Good) (hG : ShapedG s.gs) (hf : Fits s k) (hp : (gap k s.blocks s.first).1 = p) (hroom : ((gap k s.blocks s.first).2 || decide ((k : Int) ≤ s.first + s.words - p)) = true) (hin : p + k ≤ s.n + 1) (hc : s.es.length < 1024) (hfl : s.MFlat) (habs : findI p s.es 0 = none) :
    WF M.toEnv 27 [.pointer (some ⟨0, 0, none⟩), .int .i64 w] (hs s) (fun r σ' => r = .tuple #[.int .i64 p, .int .i64 0] ∧ σ' = hs (takeS s p k)) := by
  refine WF.of_VB (fn := Try.f27) Try.func27 rfl rfl (by show 2 ≤ 67; omega) ?_
  refine VB.seq ?_
  apply VB.region
  case hd => rfl
  iterate 2
    apply WL.quiet
    case hw => rfl
    case hq => exact rfl
  apply WL.nil
  refine VB.seq (VB.block (VB.seq ?_))
  apply VB.region
  case hd => rfl
  apply WL.quiet
  case hw => rfl
  case hq => exact rfl
  apply WL.call
  case ho => rfl
  case hw => rfl
  case hc => exact rfl
  refine (ev0_ok _ _ _ (.bool false) (hs s) (by kernel_rfl)).mono fun r σ' _ ⟨e1, e2⟩ => ?_
  subst e1; subst e2
  apply WL.quiet
  case hw => rfl
  case hq => exact rfl
  apply WL.nil
  apply VB.cond
  case hc => exact rfl
  refine VB.seq ?_
  apply VB.region
  case hd => rfl
  apply WL.quiet
  case hw => rfl
  case hq => exact rfl
  refine WL.quiet (v := .bool false) rfl (by show some (Value.bool (ltI w 1)) = _; rw [ltI_eq, decide_eq_false (by omega)]) ?_
  apply WL.quiet
  case hw => rfl
  case hq => exact rfl
  apply WL.quiet
  case hw => rfl
  case hq => exact rfl
  refine WL.quiet (v := .bool false) rfl (by show some (Value.bool (ltI 65536 w)) = _; rw [ltI_eq, decide_eq_false (by omega)]) ?_
  iterate 2
    apply WL.quiet
    case hw => rfl
    case hq => exact rfl
  apply WL.nil
  apply VB.cond
  case hc => exact rfl
  refine VB.skip (VB.inBlock ?_)
  refine VB.seq ?_
  apply VB.region
  case hd => rfl
  iterate 3
    apply WL.quiet
    case hw => rfl
    case hq => exact rfl
  have hwk : IntKind.i64.wrap (w + w.tmod 2) = (k : Int) := by
    rw [hk]; exact IntWalk.i64_in _ (by have := hf.w; omega)
  refine WL.quiet (v := .int .i64 (k : Int)) rfl (by rw [← hwk]; exact rfl) ?_
  apply WL.quiet
  case hw => rfl
  case hq => exact rfl
  apply WL.nil
  refine VB.seq ?_
  apply VB.region
  case hd => rfl
  iterate 2
    apply WL.quiet
    case hw => rfl
    case hq => exact rfl
  apply WL.call
  case ho => rfl
  case hw => rfl
  case hc => exact rfl
  refine (room_ok s k hg hf).mono fun r σ' _ ⟨e1, e2⟩ => ?_
  subst e1; subst e2
  rw [hp, hroom]
  iterate 5
    apply WL.quiet
    case hw => rfl
    case hq => exact rfl
  apply WL.nil
  refine VB.seq (VB.seq ?_)
  apply VB.region
  case hd => rfl
  iterate 8
    apply WL.quiet
    case hw => rfl
    case hq => exact rfl
  refine WL.quiet (v := .bool false) rfl (by show some (Value.bool (leI 1024 (s.es.length : Nat))) = _; rw [leI_eq, decide_eq_false (by omega)]) ?_
  apply WL.quiet
  case hw => rfl
  case hq => exact rfl
  apply WL.nil
  apply VB.cond
  case hc => exact rfl
  refine VB.skip (VB.seq ?_)
  apply VB.region
  case hd => rfl
  iterate 6
    apply WL.quiet
    case hw => rfl
    case hq => exact rfl
  apply WL.call
  case ho => rfl
  case hw => rfl
  case hc => exact rfl
  have hk1 : 1 ≤ k := by have : 0 ≤ w.tmod 2 := Int.tmod_nonneg _ (by omega); omega
  refine (free_hs (s := s) p k hk1 hin hg.ok.m hfl).mono fun r σ' _ ⟨e1, e2⟩ => ?_
  subst e1; subst e2
  apply WL.nil
  refine VB.seq ?_
  refine VB.draw [.q 0 [], .q 1 [], .q 2 [], .q 4 [], .q 5 [], .q 6 [], .q 7 [], .q 8 [], .q 9 [], .q 11 [], .q 3 [14], .e 10, .e 12, .q 13 [], .e 14] (by kernel_rfl) ?_
  apply DP.quiet
  case hop => rfl
  case hw => rfl
  case hq => exact rfl
  case hi => (show ∀ x ∈ ([] : List HE), x.1.contains 0 = false); intro x hx; cases hx
  apply DP.quiet
  case hop => rfl
  case hw => rfl
  case hq => exact rfl
  case hi => (show ∀ x ∈ ([] : List HE), x.1.contains 1 = false); intro x hx; cases hx
  apply DP.quiet
  case hop => rfl
  case hw => rfl
  case hq => exact rfl
  case hi => (show ∀ x ∈ ([] : List HE), x.1.contains 2 = false); intro x hx; cases hx
  apply DP.quiet
  case hop => rfl
  case hw => rfl
  case hq => exact rfl
  case hi => (show ∀ x ∈ ([] : List HE), x.1.contains 4 = false); intro x hx; cases hx
  apply DP.quiet
  case hop => rfl
  case hw => rfl
  case hq => exact rfl
  case hi => (show ∀ x ∈ ([] : List HE), x.1.contains 5 = false); intro x hx; cases hx
  apply DP.quiet
  case hop => rfl
  case hw => rfl
  case hq => exact rfl
  case hi => (show ∀ x ∈ ([] : List HE), x.1.contains 6 = false); intro x hx; cases hx
  apply DP.quiet
  case hop => rfl
  case hw => rfl
  case hq => exact rfl
  case hi => (show ∀ x ∈ ([] : List HE), x.1.contains 7 = false); intro x hx; cases hx
  apply DP.quiet
  case hop => rfl
  case hw => rfl
  case hq => exact rfl
  case hi => (show ∀ x ∈ ([] : List HE), x.1.contains 8 = false); intro x hx; cases hx
  apply DP.quiet
  case hop => rfl
  case hw => rfl
  case hq => exact rfl
  case hi => (show ∀ x ∈ ([] : List HE), x.1.contains 9 = false); intro x hx; cases hx
  apply DP.quiet
  case hop => rfl
  case hw => rfl
  case hq => exact rfl
  case hi => (show ∀ x ∈ ([] : List HE), x.1.contains 11 = false); intro x hx; cases hx
  apply DP.quiet
  case hop => rfl
  case hw => rfl
  case hq => exact rfl
  case hi => (show ∀ x ∈ ([] : List HE), x.1.contains 3 = false); intro x hx; cases hx
  apply DP.quietE
  case hop => rfl
  case hw => rfl
  case hq => exact rfl
  refine DP.quietE (v := .int .i64 (genOf s.gs p)) rfl rfl (opQ_lookup rfl rfl (lookupG (c := s.gclock) rfl hG)) ?_
  apply DP.quiet
  case hop => rfl
  case hw => rfl
  case hq => exact rfl
  case hi =>
    intro x hx
    have : x.1 = [14] := by
      change x ∈ ([([14], _)] : List HE) at hx
      simp only [List.mem_singleton] at hx
      rw [hx]
    rw [this]; rfl
  refine DP.write (res := none) (σ' := hs { s with es := s.es ++ [{ key := .int .i64 p, val := blkV p k (genOf s.gs p) true, born := s.clock }], clock := s.clock + 1, bs := setR (.bool false) s.bs p k, ws := putAt s.ws p (repl k [.int .u64 0]) }) rfl rfl ?_ (fun h hh => absurd hh ?_) ?_
  · refine opW_mapUpdate rfl rfl rfl (mapUpd_new (es := s.es) (c := s.clock) (a := p) rfl (shaped_keys hg.sh) habs) |>.trans ?_
    kernel_rfl
  · show ¬ h ∈ ([] : List HE)
    simp
  apply DP.nil
  refine VB.seq ?_
  apply VB.region
  case hd => rfl
  iterate 5
    apply WL.quiet
    case hw => rfl
    case hq => exact rfl
  refine WL.quiet (v := .int .i64 (genOf s.gs p)) rfl (opQ_lookup rfl rfl (lookupG (c := s.gclock) rfl hG)) ?_
  have hgen := genOf_le hG p
  refine WL.quiet (v := .int .i64 (genOf s.gs p + 1)) rfl (by rw [show (genOf s.gs p + 1 : Int) = IntKind.i64.wrap (genOf s.gs p + 1) from (IntWalk.i64_in _ (by omega)).symm]; exact rfl) ?_
  refine WL.write (r := none) (σ' := hs (takeS s p k)) rfl ((opW_mapUpdate rfl rfl rfl (mapUpd_gens (c := s.gclock) (gs := s.gs) (a := p) rfl hG)).trans (by kernel_rfl)) ?_
  apply WL.nil
  refine VB.seq ?_
  apply VB.region
  case hd => rfl
  iterate 3
    apply WL.quiet
    case hw => rfl
    case hq => exact rfl
  apply WL.nil
  exact VB.ret (v := .tuple #[.int .i64 p, .int .i64 0]) rfl Try.func27 rfl ⟨rfl, rfl⟩

/-- Where there is no room. -/
theorem take_full (s : HS) (w : Int) (k : Nat) (h1 : 1 ≤ w) (h2 : w ≤ 65536) (hk : w + w.tmod 2 = k) (hg : s.Good) (hf : Fits s k) (hroom : ((gap k s.blocks s.first).2 || decide ((k : Int) ≤ s.first + s.words - (gap k s.blocks s.first).1)) = false) :
    WF M.toEnv 27 [.pointer (some ⟨0, 0, none⟩), .int .i64 w] (hs s) (fun r σ' => r = .tuple #[.int .i64 0, .int .i64 15] ∧ σ' = hs s) := by
  refine WF.run ev0_ok (giv := givL [(13, .q (.bool false)), (16, .q (.bool false)), (21, .q (.int .i64 k)), (25, .c (.tuple #[.int .i64 (gap k s.blocks s.first).1, .bool false]) (hs s))]) (n := 100) (fn := Try.f27)
    (p' := (((True ∧ some (Value.bool (ltI w 1)) = some (.bool false)) ∧ some (Value.bool (ltI 65536 w)) = some (.bool false)) ∧ some (Value.int .i64 (IntKind.i64.wrap (w + w.tmod 2))) = some (.int .i64 k)) ∧ WF M.toEnv 73 [.pointer (some ⟨0, 0, none⟩), .int .i64 k] (hs s) (fun r σ' => r = .tuple #[.int .i64 (gap k s.blocks s.first).1, .bool false] ∧ σ' = hs s)) Try.func27 rfl (by kernel_rfl) ⟨⟨⟨⟨trivial, ?_⟩, ?_⟩, ?_⟩, ?_⟩
  · rw [ltI_eq, decide_eq_false (by omega)]
  · rw [ltI_eq, decide_eq_false (by omega)]
  · rw [hk, IntWalk.i64_in _ (by have := hf.w; omega)]
  · have := room_ok s k hg hf
    rw [hroom] at this
    exact this
end
end Go.Proofs.Ytlnlopeodpamdaa.Hx
