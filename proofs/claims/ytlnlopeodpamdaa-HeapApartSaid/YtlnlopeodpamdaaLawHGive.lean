/-
  heap's Give: a block that is taken; one that is not.
-/
import Derived.Test.YtlnlopeodpamdaaLawHAt
set_option maxRecDepth 100000
set_option linter.unusedVariables false
namespace Go.Proofs.Ytlnlopeodpamdaa.Hx
open Go AH Go.Proofs
noncomputable section

theorem lookupE {σ : St} {r c : Nat} {es : List MapEntry} {a : Int} (hg : σ.get r = .map es c) (hk : ∀ e ∈ es, ∃ z, e.key = .int .i64 z) :
    lookupQ M.toEnv σ 80 (.map (some r)) (.int .i64 a) true = some (match findI a es 0 with | some (_, v) => .tuple #[v, .bool true] | none => .tuple #[.agg #[.int .i64 0, .int .i64 0, .int .i64 0, .bool false], .bool false]) := by
  have hd : T80.desc = .map 3 74 := rfl
  simp only [lookupQ, ty80, hd, ty3, ty74, keyOk3, hg]
  have hq := findQ_int a hk 0
  rw [show T3.desc = .int .i64 from rfl, hq]
  cases hf : findI a es 0 with
  | none => rfl
  | some p => obtain ⟨j, v⟩ := p; rfl

theorem delE {σ : St} {r c : Nat} {es : List MapEntry} {a : Int} {j : Nat} {v : Value} (hg : σ.get r = .map es c) (hk : ∀ e ∈ es, ∃ z, e.key = .int .i64 z) (hf : findI a es 0 = some (j, v)) :
    delQ M.toEnv σ 80 (.map (some r)) (.int .i64 a) = some (.tuple #[], σ.set r (.map (es.eraseIdx j) c)) := by
  have hd : T80.desc = .map 3 74 := rfl
  simp only [delQ, ty80, hd, ty3, keyOk3, hg]
  have hq := findQ_int a hk 0
  rw [show T3.desc = .int .i64 from rfl, hq, hf]

def zeroB : Value := .agg #[.int .i64 0, .int .i64 0, .int .i64 0, .bool false]
def badS (s : HS) : HS := { s with bad := IntKind.i64.wrap (s.bad + 1) }

/-- Nothing that is taken begins there. -/
theorem give_none (s : HS) (a : Int) (hok : s.Ok) (hsh : Shaped1 s.es) (habs : findI a s.es 0 = none) :
    WF M.toEnv 30 [.pointer (some ⟨0, 0, none⟩), .int .i64 a] (hs s) (fun r σ' => r = .int .i64 16 ∧ σ' = hs (badS s)) := by
  have hok' : (badS s).Ok := ⟨hok.es, hok.gs, hok.wv, hok.wb, hok.cs, hok.ws, hok.bs, hok.cl, hok.wl, hok.bl, hok.nl⟩
  refine WF.forget (R := fun r => r = .int .i64 16) (by show 7 ≤ 7; omega) (fun i => hs_sc hok' i _ (by show 7 ≤ 7; omega)) (fun i hi => hs_live hi) ?_
  refine WF.mono (WF.run ev0_ok (giv := givL [(15, .q (.tuple #[zeroB, .bool false]))]) (n := 100) (fn := Try.f30)
    (v := .int .i64 16) (σ' := (hs (badS s)).push (.cells 74 [.int .i64 0, .int .i64 0, .int .i64 0, .bool false]))
    (p' := True ∧ lookupQ M.toEnv (hs s) 80 (.map (some 1)) (.int .i64 a) true = some (.tuple #[zeroB, .bool false])) Try.func30 rfl (by kernel_rfl) ⟨trivial, ?_⟩) fun r σ' _ ⟨e1, e2⟩ => ?_
  · rw [lookupE (es := s.es) (c := s.clock) (by rw [hs_get]; rfl) (shaped_keys hsh), habs]
    rfl
  · subst e1; subst e2
    refine ⟨⟨rfl, Sc_int _ _ _⟩, fun i => ?_⟩
    rw [St.get_push]
    show _ = (if 7 = i then _ else _) ∨ _
    by_cases h7 : 7 = i
    · subst h7; right; rw [hs_get]; rfl
    · rw [if_neg h7]; exact .inl rfl

/-- What was in the heap, as an append wants it. -/
def WasIs (s : HS) (m : Nat) (old : List Value) : Prop := (s.wv = .slice none 0 0 ∧ m = 0 ∧ old = []) ∨ (s.wv = .slice (some ⟨4, 0, none⟩) m unk ∧ s.wb = .row 74 4 old ∧ m * 4 = old.length) ∨ (s.wv = .slice (some ⟨4, 0, none⟩) 0 0 ∧ s.wb = .cells 74 [] ∧ m = 0 ∧ old = [])

def blkL (a k g : Int) (v : Bool) : List Value := [.int .i64 a, .int .i64 k, .int .i64 g, .bool v]
def delS (s : HS) (a k g : Int) (j : Nat) (v : Bool) : St := (hs { s with es := s.es.eraseIdx j }).push (.cells 74 (blkL a k g v))
def del2S (s : HS) (a k g : Int) (j : Nat) : St := (delS s a k g j false).push (.cells 74 (blkL a k g false))
/-- Behind the append. -/
def appS (s : HS) (wb : Blk) (a k g : Int) (j : Nat) (old : List Value) : St := ((hs { s with es := s.es.eraseIdx j, wb := wb }).push (.cells 74 (blkL a k g false))).push (.cells 74 (blkL a k g false)) |>.push (.row 74 4 (old ++ blkL a k g false))
def app2S (s : HS) (wb : Blk) (a k g : Int) (j m : Nat) (old : List Value) : St := ((hs { s with es := s.es.eraseIdx j, wb := wb, wv := .slice (some ⟨9, 0, none⟩) (m + 1) unk }).push (.cells 74 (blkL a k g false))).push (.cells 74 (blkL a k g false)) |>.push (.row 74 4 (old ++ blkL a k g false))
def endS (s : HS) (wb : Blk) (a k : Nat) (g : Int) (j m : Nat) (old : List Value) : St := ((hs { s with es := s.es.eraseIdx j, wb := wb, wv := .slice (some ⟨9, 0, none⟩) (m + 1) unk, bs := setR (.bool true) s.bs a k }).push (.cells 74 (blkL a k g false))).push (.cells 74 (blkL a k g false)) |>.push (.row 74 4 (old ++ blkL a k g false))

theorem give_run (s : HS) (wb : Blk) (a k : Nat) (g : Int) (j m : Nat) (old : List Value)
    (h1 : lookupQ M.toEnv (hs s) 80 (.map (some 1)) (.int .i64 a) true = some (.tuple #[blkV a k g true, .bool true]))
    (h2 : (match delQ M.toEnv ((hs s).push (.cells 74 (blkL a k g true))) 80 (.map (some 1)) (.int .i64 a) with | some (u, σ') => some (some u, σ') | none => none) = some (some (.tuple #[]), delS s a k g j true))
    (h3 : (match appQ M.toEnv (del2S s a k g j) 68 68 s.wv (.slice (some ⟨8, 0, none⟩) 1 1) with | some (u, σ') => some (some u, σ') | none => none) = some (some (.slice (some ⟨9, 0, none⟩) (m + 1) unk), appS s wb a k g j old))
    (h4 : WF M.toEnv 71 [.pointer (some ⟨2, 0, none⟩), .int .i64 a, .int .i64 k] (app2S s wb a k g j m old) (fun r σ' => r = .int .i64 0 ∧ σ' = endS s wb a k g j m old)) :
    WF M.toEnv 30 [.pointer (some ⟨0, 0, none⟩), .int .i64 a] (hs s) (fun r σ' => r = .int .i64 0 ∧ σ' = endS s wb a k g j m old) := by
  have hheld : (Hold.cell 0 5 s.wv).in (del2S s a k g j) := by
    refine ⟨[.pointer (some ⟨2, 0, none⟩), .int .i64 s.first, .int .i64 s.words, .map (some 1), .map (some 3), s.wv, .int .i64 s.bad], ?_, rfl⟩
    rw [del2S, delS, St.get_push, if_neg (by show ¬ 8 = 0; omega), St.get_push, if_neg (by show ¬ 7 = 0; omega), hs_get]
    rfl
  refine WF.run ev0_ok (giv := fun o => match o.op with
    | .call ⟨.builtin .delete, _, _⟩ => .w (some (.tuple #[])) (delS s a k g j true)
    | _ => givL [(15, .q (.tuple #[blkV a k g true, .bool true])), (40, .w (some (.slice (some ⟨9, 0, none⟩) (m + 1) unk)) (appS s wb a k g j old)), (51, .c (.int .i64 0) (endS s wb a k g j m old))] o) (n := 100) (fn := Try.f30)
    (p' := ((((True ∧ lookupQ M.toEnv (hs s) 80 (.map (some 1)) (.int .i64 a) true = some (.tuple #[blkV a k g true, .bool true]))
      ∧ (match delQ M.toEnv ((hs s).push (.cells 74 (blkL a k g true))) 80 (.map (some 1)) (.int .i64 a) with | some (u, σ') => some (some u, σ') | none => none) = some (some (.tuple #[]), delS s a k g j true))
      ∧ (Hold.cell 0 5 s.wv).in (del2S s a k g j) ∧ True)
      ∧ (match appQ M.toEnv (del2S s a k g j) 68 68 s.wv (.slice (some ⟨8, 0, none⟩) 1 1) with | some (u, σ') => some (some u, σ') | none => none) = some (some (.slice (some ⟨9, 0, none⟩) (m + 1) unk), appS s wb a k g j old))
      ∧ WF M.toEnv 71 [.pointer (some ⟨2, 0, none⟩), .int .i64 a, .int .i64 k] (app2S s wb a k g j m old) (fun r σ' => r = .int .i64 0 ∧ σ' = endS s wb a k g j m old)) Try.func30 rfl (by kernel_rfl) ⟨⟨⟨⟨⟨trivial, h1⟩, h2⟩, hheld, trivial⟩, h3⟩, h4⟩

/-- What is left behind a Give: the row of what was in the heap is block 7. -/
def gaveS (s : HS) (a k : Nat) (j m : Nat) : HS := { s with es := s.es.eraseIdx j, wb := .dead, wv := .slice (some ⟨7, 0, none⟩) (m + 1) unk, bs := setR (.bool true) s.bs a k }
def gaveT (s : HS) (a k : Nat) (g : Int) (j m : Nat) (old : List Value) : St := (hs (gaveS s a k j m)).push (.row 74 4 (old ++ blkL a k g false))

theorem exN_inj {n : Nat} {N : Nat} (h : n ≤ N) (i j : Nat) (e : exN id n N i = exN id n N j) : i = j := by
  unfold exN at e
  simp only [id] at e
  split at e <;> split at e <;> omega

theorem app_any (s : HS) (a k : Int) (g : Int) (j m : Nat) (old : List Value) (hw : WasIs s m old) (hm : m ≤ 1000000) : ∃ wb, (match appQ M.toEnv (del2S s a k g j) 68 68 s.wv (.slice (some ⟨8, 0, none⟩) 1 1) with | some (u, σ') => some (some u, σ') | none => none) = some (some (.slice (some ⟨9, 0, none⟩) (m + 1) unk), appS s wb a k g j old) := by
  have ty68 : M.toEnv.ty 68 = some T68 := by kernel_rfl
  have hsrc : srcQ (del2S s a k g j) T74.size (.slice (some ⟨8, 0, none⟩) 1 1) = some (1, blkL a k g false) := by kernel_rfl
  rcases hw with ⟨h1, rfl, rfl⟩ | ⟨h1, h2, h3⟩ | ⟨h1, h2, rfl, rfl⟩
  · refine ⟨s.wb, ?_⟩
    rw [h1, appQ_nil (i := T68) (ix := T68) (j := T74) (e := 74) (e2 := 74) ty68 rfl ty68 rfl ty74 hsrc (by show 0 < 4; omega) (by show 0 < 32; omega) (by omega) (by show (8 * 1 + 4096) * 32 ≤ _; omega)]
    have hx : True := trivial
    show _ = _
    kernel_rfl
  · refine ⟨.dead, ?_⟩
    have hb : (del2S s a k g j).get 4 = .row 74 4 old := by
      rw [del2S, delS, St.get_push, if_neg (by show ¬ 8 = 4; omega), St.get_push, if_neg (by show ¬ 7 = 4; omega), hs_get]
      exact h2
    rw [h1, appQ_row (i := T68) (ix := T68) (j := T74) (e := 74) (e2 := 74) (b := 4) (len := m) (cs := old) ty68 rfl ty68 rfl ty74 hsrc (by show 0 < 4; omega) (by show 0 < 32; omega) hb h3 (by omega) rfl (by show (8 * (m + 1) + 4096) * 32 ≤ _; omega)]
    have hx : True := trivial
    show _ = _
    kernel_rfl
  · refine ⟨s.wb, ?_⟩
    have hb : ((del2S s a k g j).get 4).known = some [] := by
      rw [del2S, delS, St.get_push, if_neg (by show ¬ 8 = 4; omega), St.get_push, if_neg (by show ¬ 7 = 4; omega), hs_get]
      show s.wb.known = _
      rw [h2]; rfl
    rw [h1, appQ_cap0 (i := T68) (ix := T68) (j := T74) (e := 74) (e2 := 74) (b := 4) ty68 rfl ty68 rfl ty74 hsrc (by show 0 < 4; omega) (by show 0 < 32; omega) hb (by omega) (by show (8 * 1 + 4096) * 32 ≤ _; omega)]
    have hx : True := trivial
    show _ = _
    kernel_rfl

/-- A block that is taken is given back. -/
theorem give_ok (s : HS) (a k : Nat) (g : Int) (j m : Nat) (old : List Value) (hok : s.Ok) (hfl : s.Flat) (hsh : Shaped1 s.es) (hf : findI a s.es 0 = some (j, blkV a k g true)) (h1 : 1 ≤ k) (hk : a + k ≤ s.n + 1) (hw : WasIs s m old) (hm : m ≤ 1000000) (ho : ∀ ρ : Nat → AH.Loc, old.map (AH.ren ρ) = old) :
    WF M.toEnv 30 [.pointer (some ⟨0, 0, none⟩), .int .i64 a] (hs s) (fun r σ' => r = .int .i64 0 ∧ σ' = gaveT s a k g j m old) := by
  obtain ⟨wb, happ⟩ := app_any s a k g j m old hw hm
  have hmf : s.MFlat := ⟨hfl.cs, hfl.ws, hfl.bs, hfl.n⟩
  have hrun := give_run s wb a k g j m old
    (by rw [lookupE (es := s.es) (c := s.clock) (by rw [hs_get]; rfl) (shaped_keys hsh), hf])
    (by
      rw [delE (es := s.es) (c := s.clock) (v := blkV a k g true) (j := j) (by rw [St.get_push, if_neg (by show ¬ 7 = 1; omega), hs_get]; rfl) (shaped_keys hsh) hf]
      kernel_rfl) happ
    ((bar_any (s := s) (σ := app2S s wb a k g j m old) a k h1 hk hok.m hmf (by show 7 ≤ 10; omega) (by kernel_rfl) (by kernel_rfl) (by kernel_rfl)).mono fun r σ' _ ⟨e1, e2⟩ => ⟨e1, e2.trans (by kernel_rfl)⟩)
  have hblk : ∀ ρ : Nat → AH.Loc, (old ++ blkL a k g false).map (AH.ren ρ) = old ++ blkL a k g false := fun ρ => by rw [List.map_append, ho]; simp [blkL]
  have hget : ∀ i, (gaveT s a k g j m old).get i = if 7 = i then .row 74 4 (old ++ blkL a k g false) else (hs (gaveS s a k j m)).get i := fun i => by rw [gaveT, St.get_push]; rfl
  have hgets : ∀ i, (hs (gaveS s a k j m)).get i = if 6 = i then arrR s.row 4 (setR (.bool true) s.bs a k) else if 5 = i then arrR s.row 89 s.ws else if 4 = i then .dead else if 3 = i then .map s.gs s.gclock else if 2 = i then .cells 107 (.slice (some ⟨5, 0, none⟩) (s.n + 1) (capR s.row s.n) :: .slice (some ⟨6, 0, none⟩) (s.n + 1) (capR s.row s.n) :: s.cs) else if 1 = i then .map (s.es.eraseIdx j) s.clock else if 0 = i then .cells 83 [.pointer (some ⟨2, 0, none⟩), .int .i64 s.first, .int .i64 s.words, .map (some 1), .map (some 3), .slice (some ⟨7, 0, none⟩) (m + 1) unk, .int .i64 s.bad] else .dead := fun i => hs_get _ i
  have hsc : ∀ i, ((gaveT s a k g j m old).get i).sc 8 := fun i => by
    rw [hget]
    split
    · intro v hv
      have : (old ++ blkL a k g false).map (AH.ren (fun _ => ⟨0, 0, 0⟩)) = old ++ blkL a k g false := hblk _
      intro ρ ρ' _
      have h1 := List.map_inj_left.1 ((hblk ρ).trans (hblk ρ').symm) v hv
      exact h1
    · rw [hgets]
      split
      · exact arrR_sc fun v hv => (setR_sc hok.bs (Sc_bool _ _) a k v hv).mono (Nat.zero_le _)
      split
      · exact arrR_sc fun v hv => (hok.ws v hv).mono (Nat.zero_le _)
      split
      · trivial
      split
      · exact fun e he => ⟨(hok.gs e he).1.mono (Nat.zero_le _), (hok.gs e he).2.mono (Nat.zero_le _)⟩
      split
      · intro v hv
        rcases List.mem_cons.1 hv with rfl | hv
        · exact Sc_slice (by show 5 < 8; omega)
        rcases List.mem_cons.1 hv with rfl | hv
        · exact Sc_slice (by show 6 < 8; omega)
        · exact (hok.cs v hv).mono (Nat.zero_le _)
      split
      · exact fun e he => ⟨(hok.es e (List.mem_of_mem_eraseIdx he)).1.mono (Nat.zero_le _), (hok.es e (List.mem_of_mem_eraseIdx he)).2.mono (Nat.zero_le _)⟩
      split
      · intro v hv
        simp only [List.mem_cons, List.not_mem_nil, or_false] at hv
        rcases hv with e | e | e | e | e | e | e
        · rw [e]; exact Sc_ptr (by show 2 < 8; omega)
        · rw [e]; exact Sc_int _ _ _
        · rw [e]; exact Sc_int _ _ _
        · rw [e]; exact Sc_map (by omega)
        · rw [e]; exact Sc_map (by omega)
        · rw [e]; exact Sc_slice (by show 7 < 8; omega)
        · rw [e]; exact Sc_int _ _ _
      · trivial
  have hlt : ∀ i, ((gaveT s a k g j m old).get i).live = true → i < 8 := fun i hi => by
    by_cases h : i < 8
    · exact h
    · rw [hget, if_neg (by omega), hgets, if_neg (by omega), if_neg (by omega), if_neg (by omega), if_neg (by omega), if_neg (by omega), if_neg (by omega), if_neg (by omega)] at hi
      cases hi
  refine hrun.renum fun r σ' _ ⟨e1, e2⟩ => ⟨.int .i64 0, gaveT s a k g j m old, exN id 7 9, ⟨fun i hi => exN_lt hi, fun i j _ _ => exN_inj (by omega) i j, fun i hi => ?_, hsc, hlt, by show 7 ≤ 8; omega⟩, by rw [e1]; simp, Sc_int _ _ _, rfl, rfl⟩
  subst e2
  have hend : ∀ i, (endS s wb a k g j m old).get i = if 9 = i then .row 74 4 (old ++ blkL a k g false) else if 8 = i then .cells 74 (blkL a k g false) else if 7 = i then .cells 74 (blkL a k g false) else (hs { s with es := s.es.eraseIdx j, wb := wb, wv := .slice (some ⟨9, 0, none⟩) (m + 1) unk, bs := setR (.bool true) s.bs a k }).get i := fun i => by
    rw [endS, St.get_push, St.get_push, St.get_push]; rfl
  have hi8 := hlt i hi
  by_cases h7 : i = 7
  · subst h7
    rw [show exN id 7 9 7 = 9 from rfl, hend, hget, if_pos rfl, if_pos rfl, renB, hblk]
  · have hi7 : i < 7 := by omega
    rw [show exN id 7 9 i = i from exN_lt hi7, hend, if_neg (by omega), if_neg (by omega), if_neg (by omega)]
    rw [hget, if_neg (by omega)] at hi ⊢
    rw [hs_get, hgets]
    rw [hgets] at hi
    have hid : ∀ b : Blk, b.sc 7 → renB (loc id) b = b → b = renB (loc (exN id 7 9)) b := fun b h1 h2 => by rw [renB_exN h1, h2]
    by_cases c6 : 6 = i
    · rw [if_pos c6, if_pos c6]
      exact hid _ (arrR_sc fun v hv => (setR_sc hok.bs (Sc_bool _ _) a k v hv).mono (Nat.zero_le _)) (arrR_ren (setR_map hfl.bs (by simp) a k))
    rw [if_neg c6, if_neg c6]
    by_cases c5 : 5 = i
    · rw [if_pos c5, if_pos c5]
      exact hid _ (arrR_sc fun v hv => (hok.ws v hv).mono (Nat.zero_le _)) (arrR_ren hfl.ws)
    rw [if_neg c5, if_neg c5]
    by_cases c4 : 4 = i
    · subst c4
      simp only [if_neg c6, if_neg c5] at hi
      cases hi
    rw [if_neg c4, if_neg c4]
    by_cases c3 : 3 = i
    · rw [if_pos c3, if_pos c3]
      exact hid _ (fun e he => ⟨(hok.gs e he).1.mono (Nat.zero_le _), (hok.gs e he).2.mono (Nat.zero_le _)⟩) (by rw [renB, hfl.gs])
    rw [if_neg c3, if_neg c3]
    by_cases c2 : 2 = i
    · rw [if_pos c2, if_pos c2]
      refine hid _ (fun v hv => ?_) ?_
      · rcases List.mem_cons.1 hv with rfl | hv
        · exact Sc_slice (by show 5 < 7; omega)
        rcases List.mem_cons.1 hv with rfl | hv
        · exact Sc_slice (by show 6 < 7; omega)
        · exact (hok.cs v hv).mono (Nat.zero_le _)
      · simp only [renB, List.map_cons, ren_slice, renA, loc, id, hfl.cs]
        rw [renC_le (capR_le _ hfl.n)]
    rw [if_neg c2, if_neg c2]
    by_cases c1 : 1 = i
    · rw [if_pos c1, if_pos c1]
      refine hid _ (fun e he => ⟨(hok.es e (List.mem_of_mem_eraseIdx he)).1.mono (Nat.zero_le _), (hok.es e (List.mem_of_mem_eraseIdx he)).2.mono (Nat.zero_le _)⟩) ?_
      rw [renB]
      congr 1
      have : ∀ e ∈ s.es, renE (loc id) e = e := fun e he => (List.map_inj_left.1 (hfl.es.trans (List.map_id _).symm)) e he
      exact (List.map_congr_left fun e he => this e (List.mem_of_mem_eraseIdx he)).trans (List.map_id _)
    rw [if_neg c1, if_neg c1]
    have c0 : 0 = i := by omega
    rw [if_pos c0, if_pos c0]
    simp only [renB, List.map_cons, List.map_nil, ren_ptr, ren_int, ren_map, ren_slice, renA, loc]
    rfl
end
end Go.Proofs.Ytlnlopeodpamdaa.Hx
