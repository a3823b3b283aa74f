/-
  A heap's state that names no other block; Give where there is more than the heap.
-/
import Derived.Test.YtlnlopeodpamdaaLawHGive
set_option maxRecDepth 100000
set_option linter.unusedVariables false
namespace Go.Proofs.Ytlnlopeodpamdaa.Hx
open Go AH Go.Proofs
noncomputable section

theorem sc_of_pure {l : List Value} (h : ∀ ρ : Nat → AH.Loc, l.map (AH.ren ρ) = l) (n : Nat) : Scs n l := fun v hv ρ ρ' _ => List.map_inj_left.1 ((h ρ).trans (h ρ').symm) v hv
theorem scE_of_pure {l : List MapEntry} (h : ∀ ρ : Nat → AH.Loc, l.map (renE ρ) = l) (n : Nat) : ∀ e ∈ l, Sc n e.key ∧ Sc n e.val := fun e he => by
  refine ⟨fun ρ ρ' _ => ?_, fun ρ ρ' _ => ?_⟩
  · have := List.map_inj_left.1 ((h ρ).trans (h ρ').symm) e he
    simp only [renE, MapEntry.mk.injEq] at this
    exact this.1
  · have := List.map_inj_left.1 ((h ρ).trans (h ρ').symm) e he
    simp only [renE, MapEntry.mk.injEq] at this
    exact this.2.1

/-- A heap that names nothing but its own blocks. -/
structure HS.Nice (s : HS) (m : Nat) (old : List Value) : Prop where
  es : ∀ ρ : Nat → AH.Loc, s.es.map (renE ρ) = s.es
  gs : ∀ ρ : Nat → AH.Loc, s.gs.map (renE ρ) = s.gs
  cs : ∀ ρ : Nat → AH.Loc, s.cs.map (AH.ren ρ) = s.cs
  ws : ∀ ρ : Nat → AH.Loc, s.ws.map (AH.ren ρ) = s.ws
  bs : ∀ ρ : Nat → AH.Loc, s.bs.map (AH.ren ρ) = s.bs
  pold : ∀ ρ : Nat → AH.Loc, old.map (AH.ren ρ) = old
  cl : s.cs.length = 8
  wl : s.ws.length = s.n + 1
  bl : s.bs.length = s.n + 1
  n : s.n < 1000000
  was : WasIs s m old
  dead : s.wv = .slice none 0 0 → s.wb = .dead
theorem HS.Nice.wvs {s : HS} {m : Nat} {old : List Value} (h : s.Nice m old) : Sc 7 s.wv := by
  rcases h.was with ⟨e, _, _⟩ | ⟨e, _, _⟩ | ⟨e, _, _, _⟩
  · rw [e]; exact Sc_nilslice _ _ _
  · rw [e]; exact Sc_slice (by show 4 < 7; omega)
  · rw [e]; exact Sc_slice (by show 4 < 7; omega)
theorem HS.Nice.wvf {s : HS} {m : Nat} {old : List Value} (h : s.Nice m old) (π : Nat → Nat) (hπ : π 4 = 4) : AH.ren (loc π) s.wv = s.wv := by
  rcases h.was with ⟨e, _, _⟩ | ⟨e, _, _⟩ | ⟨e, _, _, _⟩
  · rw [e]; simp
  · rw [e, ren_slice]; simp only [renA, loc, hπ]; rw [renC_le (Nat.le_refl _)]
  · rw [e, ren_slice]; simp only [renA, loc, hπ]; rw [renC_le (Nat.zero_le _)]
theorem HS.Nice.wbs {s : HS} {m : Nat} {old : List Value} (h : s.Nice m old) (n : Nat) : s.wb.sc n := by
  rcases h.was with ⟨e, _, _⟩ | ⟨_, e, _⟩ | ⟨_, e, _, _⟩
  · rw [h.dead e]; trivial
  · rw [e]; exact sc_of_pure h.pold n
  · rw [e]; intro v hv; simp at hv
theorem HS.Nice.wbf {s : HS} {m : Nat} {old : List Value} (h : s.Nice m old) (ρ : Nat → AH.Loc) : renB ρ s.wb = s.wb := by
  rcases h.was with ⟨e, _, _⟩ | ⟨_, e, _⟩ | ⟨_, e, _, _⟩
  · rw [h.dead e]; rfl
  · rw [e, renB, h.pold]
  · rw [e]; rfl
theorem HS.Nice.ok {s : HS} {m : Nat} {old : List Value} (h : s.Nice m old) : s.Ok := ⟨scE_of_pure h.es 0, scE_of_pure h.gs 0, h.wvs, h.wbs 7, sc_of_pure h.cs 0, sc_of_pure h.ws 0, sc_of_pure h.bs 0, h.cl, h.wl, h.bl, by have := h.n; omega⟩
theorem HS.Nice.flat {s : HS} {m : Nat} {old : List Value} (h : s.Nice m old) : s.Flat := ⟨h.es _, h.gs _, h.wvf id rfl, h.wbf _, h.cs _, h.ws _, h.bs _, by have := h.n; unfold unk; omega⟩
theorem HS.Nice.mflat {s : HS} {m : Nat} {old : List Value} (h : s.Nice m old) : s.MFlat := ⟨h.cs _, h.ws _, h.bs _, by have := h.n; unfold unk; omega⟩
theorem HS.Nice.wbl {s : HS} {m : Nat} {old : List Value} (h : s.Nice m old) : s.wb = .dead ∨ s.wb.live = true := by
  rcases h.was with ⟨e, _, _⟩ | ⟨_, e, _⟩ | ⟨_, e, _, _⟩
  · exact .inl (h.dead e)
  · right; rw [e]; rfl
  · right; rw [e]; rfl

/-- A block of the heap but the first and the one of what was there names only blocks that stay. -/
theorem hs_ren {s : HS} {m : Nat} {old : List Value} (h : s.Nice m old) (π : Nat → Nat) (hπ : ∀ i, i < 7 → i ≠ 4 → π i = i) (i : Nat) (h0 : i ≠ 0) (h4 : i ≠ 4) : renB (loc π) ((hs s).get i) = (hs s).get i := by
  rw [hs_get]
  split
  · exact arrR_ren (h.bs _)
  split
  · exact arrR_ren (h.ws _)
  split
  · omega
  split
  · rw [renB, h.gs]
  split
  · simp only [renB, List.map_cons, ren_slice, renA, loc, hπ 5 (by omega) (by omega), hπ 6 (by omega) (by omega), h.cs]
    rw [renC_le (capR_le _ (by have := h.n; unfold unk; omega))]
  split
  · rw [renB, h.es]
  split
  · omega
  · rfl

def awayS (s : HS) (N m : Nat) : HS := { s with wv := .slice (some ⟨N, 0, none⟩) m unk, wb := .dead }
/-- The row of what was in the heap lies behind all else. -/
def away (s : HS) (m : Nat) (old : List Value) (X : St) : St := (mix (awayS s X.next m) X).push (.row 74 4 old)
def homeS (s : HS) (m : Nat) (old : List Value) : HS := { s with wv := .slice (some ⟨4, 0, none⟩) m unk, wb := .row 74 4 old }
def tookS (s : HS) (a k j : Nat) : HS := { s with es := s.es.eraseIdx j, bs := setR (.bool true) s.bs a k }

theorem away_get (s : HS) (m : Nat) (old : List Value) (X : St) (i : Nat) : (away s m old X).get i = if X.next = i then .row 74 4 old else if i < 7 then (hs (awayS s X.next m)).get i else X.get i := by
  rw [away, St.get_push]
  show (if X.next = i then _ else _) = _
  split
  · rfl
  · rw [mix_get]

/-- Give, where there is more. -/
theorem give_away {s : HS} {a k j m : Nat} {g : Int} {old : List Value} {X : St} (h : s.Nice m old) (hX : 7 ≤ X.next) (hsh : Shaped1 s.es) (hf : findI a s.es 0 = some (j, blkV a k g true)) (h1 : 1 ≤ k) (hk : a + k ≤ s.n + 1) (hm : m ≤ 1000000) :
    WF M.toEnv 30 [.pointer (some ⟨0, 0, none⟩), .int .i64 a] (mix s X) (fun r σ' => r = .int .i64 0 ∧ σ' = away (tookS s a k j) (m + 1) (old ++ blkL a k g false) X) := by
  have hc := give_ok s a k g j m old h.ok h.flat hsh hf h1 hk h.was hm h.pold
  refine WF.know hc.1 fun hout hsc => ?_
  have hS := mix_small h.ok h.flat hX
  have har : ([.pointer (some ⟨0, 0, none⟩), .int .i64 a] : List Value).map (AH.ren (loc id)) = [.pointer (some ⟨0, 0, none⟩), .int .i64 a] := by simp [renA, loc]
  rw [← har]
  refine WF.frame hS (fun u hu => ?_) hc fun r σ₀' _ ⟨e1, e2⟩ => ?_
  · simp only [List.mem_cons, List.not_mem_nil, or_false] at hu
    rcases hu with rfl | rfl
    · exact Sc_ptr (by show 0 < 7; omega)
    · exact Sc_int _ _ _
  subst e1; subst e2
  have hT : (tookS s a k j).Nice m old := ⟨fun ρ => by
      have : ∀ e ∈ s.es, renE ρ e = e := fun e he => (List.map_inj_left.1 ((h.es ρ).trans (List.map_id _).symm)) e he
      exact (List.map_congr_left fun e he => this e (List.mem_of_mem_eraseIdx he)).trans (List.map_id _), h.gs, h.cs, h.ws, fun ρ => setR_map (h.bs ρ) (by simp) a k, h.pold, h.cl, h.wl, (setR_len _ _ _ _).trans h.bl, h.n, h.was, h.dead⟩
  have hold : (∀ ρ : Nat → AH.Loc, (old ++ blkL a k g false).map (AH.ren ρ) = old ++ blkL a k g false) := fun ρ => by rw [List.map_append, h.pold]; simp [blkL]
  have hgT : ∀ i, (gaveT s a k g j m old).get i = if 7 = i then .row 74 4 (old ++ blkL a k g false) else (hs (gaveS s a k j m)).get i := fun i => by rw [gaveT, St.get_push]; rfl
  refine ⟨_, ⟨?_, fun i hi hl => ?_, fun i hi hno => ?_, fun i hi => ?_⟩, by simp, rfl⟩
  · show X.next + 1 = X.next + (8 - 7); omega
  · have hi' : i < 8 := hi
    by_cases h7 : i = 7
    · subst h7
      show (away _ _ _ X).get (exN id 7 X.next 7) = renB (loc (exN id 7 X.next)) _
      rw [show exN id 7 X.next 7 = X.next from exN_new, away_get, if_pos rfl, hgT, if_pos rfl, renB, hold]
    · have hi7 : i < 7 := by omega
      show (away _ _ _ X).get (exN id 7 X.next i) = renB (loc (exN id 7 X.next)) _
      rw [show exN id 7 X.next i = i from exN_lt hi7, away_get, if_neg (by omega), if_pos hi7, hgT, if_neg (by omega)]
      by_cases h0 : i = 0
      · subst h0
        rw [hs_get, hs_get]
        show Blk.cells 83 _ = renB _ (Blk.cells 83 _)
        simp only [renB, List.map_cons, List.map_nil, ren_ptr, ren_int, ren_map, renA, loc]
        rw [show (gaveS s a k j m).wv = .slice (some ⟨7, 0, none⟩) (m + 1) unk from rfl, ren_slice]
        simp only [renA, loc, show exN id 7 X.next 7 = X.next from exN_new, show exN id 7 X.next 2 = 2 from rfl, show exN id 7 X.next 1 = 1 from rfl, show exN id 7 X.next 3 = 3 from rfl]
        rw [renC_le (Nat.le_refl _)]
        rfl
      · by_cases h4 : i = 4
        · subst h4; rw [hs_get, hs_get]; rfl
        · have e1 : (hs (gaveS s a k j m)).get i = (hs (tookS s a k j)).get i := by
            rw [hs_get, hs_get]
            simp only [if_neg (Ne.symm h0), if_neg (Ne.symm h4)]
            rfl
          have e2 : (hs (awayS (tookS s a k j) X.next (m + 1))).get i = (hs (tookS s a k j)).get i := by
            rw [hs_get, hs_get]
            simp only [if_neg (Ne.symm h0), if_neg (Ne.symm h4)]
            rfl
          rw [e1, e2, hs_ren hT _ (fun i hi _ => exN_lt hi) i h0 h4]
  · have hi' : i < X.next := hi
    rw [away_get, if_neg (by omega), mix_get]
    split
    · rename_i hi7
      by_cases h4 : i = 4
      · subst h4
        rcases h.wbl with e | e
        · rw [hs_get, hs_get]
          show Blk.dead = s.wb
          rw [e]
        · exact absurd rfl (hno 4 (by rw [hs_get]; exact e))
      · exfalso
        refine hno i ?_ rfl
        rw [hs_get]
        repeat' split
        all_goals first | rfl | exact arrR_live _ _ _ | omega
    · rfl
  · have hi' : X.next + 1 ≤ i := hi
    rw [away_get, if_neg (by omega), if_neg (by omega)]
    cases hl : (X.get i).live with
    | false => rfl
    | true =>
      have := hout i (by rw [mix_get, if_neg (by omega)]; exact hl)
      exact absurd this (by show ¬ i < X.next; omega)

def pi4 (N : Nat) : Nat → Nat := fun i => if i = 4 then N else i
theorem pi4_ne {N i : Nat} (h : i ≠ 4) : pi4 N i = i := by unfold pi4; rw [if_neg h]
theorem pi4_4 (N : Nat) : pi4 N 4 = N := by unfold pi4; rw [if_pos rfl]
theorem home_live {s : HS} {m : Nat} {old : List Value} {i : Nat} (hi : i < 7) : ((hs (homeS s m old)).get i).live = true := by
  rw [hs_get]
  repeat' split
  all_goals first | rfl | exact arrR_live _ _ _ | omega

/-- A block of the heap, where the row of what was there is elsewhere. -/
theorem away_home {s : HS} {m : Nat} {old : List Value} {X : St} (h : (homeS s m old).Nice m old) (hX : 7 ≤ X.next) (i : Nat) (hi : i < 7) : (away s m old X).get (pi4 X.next i) = renB (loc (pi4 X.next)) ((hs (homeS s m old)).get i) := by
  by_cases h4 : i = 4
  · subst h4
    rw [pi4_4, away_get, if_pos rfl, hs_get]
    show _ = renB _ (Blk.row 74 4 old)
    rw [renB, h.pold]
  · rw [pi4_ne h4, away_get, if_neg (by omega), if_pos hi]
    by_cases h0 : i = 0
    · subst h0
      rw [hs_get, hs_get]
      show Blk.cells 83 _ = renB _ (Blk.cells 83 _)
      simp only [renB, List.map_cons, List.map_nil, ren_ptr, ren_int, ren_map, renA, loc]
      rw [show (homeS s m old).wv = .slice (some ⟨4, 0, none⟩) m unk from rfl, ren_slice]
      simp only [renA, loc, pi4_4, pi4_ne (N := X.next) (i := 2) (by omega), pi4_ne (N := X.next) (i := 1) (by omega), pi4_ne (N := X.next) (i := 3) (by omega)]
      rw [renC_le (Nat.le_refl _)]
      rfl
    · rw [hs_ren h _ (fun i _ hi => pi4_ne hi) i h0 h4]
      rw [hs_get, hs_get]
      simp only [if_neg (Ne.symm h0), if_neg (Ne.symm h4)]
      rfl

/-- What is said of a heap alone holds where the row of what was there is elsewhere. -/
theorem lift_away {K : FuncId} {args : List Value} {v : Value} {s s' : HS} {m : Nat} {old : List Value} {X : St} (h : (homeS s m old).Nice m old) (h' : (homeS s' m old).Nice m old) (hX : 7 ≤ X.next) (ha : Scs 7 args) (har : args.map (AH.ren (loc (pi4 X.next))) = args) (hv : ∀ ρ, AH.ren ρ v = v)
    (hc : WF M.toEnv K args (hs (homeS s m old)) (fun r σ' => r = v ∧ σ' = hs (homeS s' m old))) : WF M.toEnv K args (away s m old X) (fun r σ' => r = v ∧ σ' = away s' m old X) := by
  refine WF.know hc.1 fun hout hsc => ?_
  have hS : Small (pi4 X.next) (hs (homeS s m old)) (away s m old X) := by
    refine ⟨fun i hi => ?_, fun i j hi hj e => ?_, fun i hi => away_home h hX i (hs_live hi), fun i => hs_sc h.ok i _ (Nat.le_refl _), fun i hi => hs_live hi⟩
    · have hi' : i < 7 := hi
      show pi4 X.next i < X.next + 1
      unfold pi4; split <;> omega
    · have h1 := hs_live hi
      have h2 := hs_live hj
      unfold pi4 at e
      split at e <;> split at e <;> omega
  rw [← har]
  refine WF.frame hS ha hc fun r σ₀' _ ⟨e1, e2⟩ => ?_
  subst e1; subst e2
  refine ⟨away s' m old X, ⟨?_, fun i hi hl => ?_, fun i hi hno => ?_, fun i hi => ?_⟩, hv _, rfl⟩
  · show X.next + 1 = X.next + 1 + (7 - 7); omega
  · have hi' : i < 7 := hi
    show (away s' m old X).get (exN (pi4 X.next) 7 (X.next + 1) i) = renB (loc (exN (pi4 X.next) 7 (X.next + 1))) _
    rw [exN_lt hi', renB_exN (hs_sc h'.ok i 7 (Nat.le_refl _)), away_home h' hX i hi']
  · have hi' : i < X.next + 1 := hi
    rw [away_get, away_get]
    by_cases hN : X.next = i
    · exact absurd (by rw [← hN]; exact pi4_4 _) (hno 4 (home_live (by omega)))
    · rw [if_neg hN, if_neg hN]
      by_cases h7 : i < 7
      · by_cases h4 : i = 4
        · subst h4; rw [if_pos h7, if_pos h7, hs_get, hs_get]; rfl
        · exact absurd (pi4_ne h4) (hno i (home_live h7))
      · rw [if_neg h7, if_neg h7]
  · have hi' : X.next + 1 ≤ i := hi
    have := hout i
    rw [away_get, if_neg (by omega), if_neg (by omega)]
    rw [away_get, if_neg (by omega), if_neg (by omega)] at this
    cases hl : (X.get i).live with
    | false => rfl
    | true => exact absurd (this hl) (by show ¬ i < X.next + 1; omega)

/-- The row of what was there is block 4 again. -/
theorem VB.home {K : FuncId} {nt : Nat} {k : List Item} {f : Fr} {R : Value → St → Prop} {s : HS} {m : Nat} {old : List Value} {X : St} (l : List (Nat × Value)) (h : (homeS s m old).Nice m old) (hX : 7 ≤ X.next)
    (hXs : ∀ i, 7 ≤ i → (X.get i).sc X.next) (hXl : ∀ i, 7 ≤ i → (X.get i).live = true → i < X.next) (hXr : ∀ i, 7 ≤ i → renB (loc (pi4 X.next)) (X.get i) = X.get i)
    (hl : ∀ p ∈ l, f.get p.1 = some p.2) (hlr : ∀ p ∈ l, AH.ren (loc (pi4 X.next)) p.2 = p.2) (hls : ∀ p ∈ l, Sc X.next p.2) (hd : f.df = [])
    (hk : VB 0 M K nt k (frL l) (mix (homeS s m old) X) R) : VB 0 M K nt k f (away s m old X) R := by
  have hwf : Wf (frL l) (mix (homeS s m old) X) := by
    refine ⟨fun i => ?_, fun i hi => ?_, fun t v ht => hls _ (frL_mem ht)⟩
    · rw [mix_get]
      split
      · exact hs_sc h.ok i _ hX
      · exact hXs i (by omega)
    · show i < X.next
      by_cases h7 : i < 7
      · omega
      · rw [mix_get, if_neg h7] at hi
        exact hXl i (by omega) hi
  refine VB.renum (pi4 X.next) (Nat.zero_le _) (fun i hi => absurd hi (Nat.not_lt_zero _)) (fun i j hi hj e => ?_) (fun i hi => ?_) hwf (fun t v ht => ?_) (by rw [frL_df]; exact hd) (fun i hi => by rw [frL_df] at hi; simp at hi) hk
  · have h1 : i < X.next := hwf.lt i hi
    have h2 : j < X.next := hwf.lt j hj
    unfold pi4 at e
    split at e <;> split at e <;> omega
  · have h1 : i < X.next := hwf.lt i hi
    rw [mix_get]
    split
    · rename_i h7
      exact away_home h hX i h7
    · rename_i h7
      rw [pi4_ne (by omega), away_get, if_neg (by omega), if_neg h7, hXr i (by omega)]
  · have hm := frL_mem ht
    rw [hlr _ hm]
    exact hl _ hm
end
end Go.Proofs.Ytlnlopeodpamdaa.Hx
