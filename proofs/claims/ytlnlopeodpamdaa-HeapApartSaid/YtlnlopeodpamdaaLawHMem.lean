/-
  A heap and its memory as a small state: mem's set over it.
-/
import Derived.Test.YtlnlopeodpamdaaAh37
import Derived.Test.YtlnlopeodpamdaaLawHOrc
set_option maxRecDepth 100000
set_option linter.unusedVariables false
namespace Go.Proofs.Ytlnlopeodpamdaa.Hx
open Go AH Go.Proofs
noncomputable section

/-- A heap: its numbers, its two maps, what was in it; its memory's numbers, words and bars (n + 1 of each). -/
structure HS where
  first : Int
  words : Int
  bad : Int
  es : List MapEntry
  clock : Nat
  gs : List MapEntry
  gclock : Nat
  wv : Value
  wb : Blk
  cs : List Value
  n : Nat
  ws : List Value
  bs : List Value
  row : Bool := false

/-- How far a slice reaches; an array of which the end is known, or not. -/
def capR (row : Bool) (n : Nat) : Nat := bif row then unk else n + 1
def arrR (row : Bool) (e : Nat) (l : List Value) : Blk := bif row then .row e 1 l else .cells e l
theorem arrR_known (row : Bool) (e : Nat) (l : List Value) : (arrR row e l).known = some l := by cases row <;> rfl
theorem arrR_live (row : Bool) (e : Nat) (l : List Value) : (arrR row e l).live = true := by cases row <;> rfl
theorem arrR_sc {row : Bool} {e : Nat} {l : List Value} {n : Nat} (h : Scs n l) : (arrR row e l).sc n := by cases row <;> exact h
theorem arrR_ren {row : Bool} {e : Nat} {l : List Value} {ρ : Nat → AH.Loc} (h : l.map (AH.ren ρ) = l) : renB ρ (arrR row e l) = arrR row e l := by
  cases row
  · show Blk.cells e (l.map (AH.ren ρ)) = _; rw [h]; rfl
  · show Blk.row e 1 (l.map (AH.ren ρ)) = _; rw [h]; rfl

def hs (s : HS) : St := (⟨7, .leaf⟩ : St) |>.set 0 (.cells 83 [.pointer (some ⟨2, 0, none⟩), .int .i64 s.first, .int .i64 s.words, .map (some 1), .map (some 3), s.wv, .int .i64 s.bad]) |>.set 1 (.map s.es s.clock) |>.set 2 (.cells 107 (.slice (some ⟨5, 0, none⟩) (s.n + 1) (capR s.row s.n) :: .slice (some ⟨6, 0, none⟩) (s.n + 1) (capR s.row s.n) :: s.cs)) |>.set 3 (.map s.gs s.gclock) |>.set 4 s.wb |>.set 5 (arrR s.row 89 s.ws) |>.set 6 (arrR s.row 4 s.bs)

theorem hs_get (s : HS) (i : Nat) : (hs s).get i = if 6 = i then arrR s.row 4 s.bs else if 5 = i then arrR s.row 89 s.ws else if 4 = i then s.wb else if 3 = i then .map s.gs s.gclock else if 2 = i then .cells 107 (.slice (some ⟨5, 0, none⟩) (s.n + 1) (capR s.row s.n) :: .slice (some ⟨6, 0, none⟩) (s.n + 1) (capR s.row s.n) :: s.cs) else if 1 = i then .map s.es s.clock else if 0 = i then .cells 83 [.pointer (some ⟨2, 0, none⟩), .int .i64 s.first, .int .i64 s.words, .map (some 1), .map (some 3), s.wv, .int .i64 s.bad] else .dead := by
  simp only [hs, St.get_set]
  rfl

/-- What names no block, or one of the heap's own. -/
structure HS.Ok (s : HS) : Prop where
  es : ∀ e ∈ s.es, Sc 0 e.key ∧ Sc 0 e.val
  gs : ∀ e ∈ s.gs, Sc 0 e.key ∧ Sc 0 e.val
  wv : Sc 7 s.wv
  wb : s.wb.sc 7
  cs : Scs 0 s.cs
  ws : Scs 0 s.ws
  bs : Scs 0 s.bs
  cl : s.cs.length = 8
  wl : s.ws.length = s.n + 1
  bl : s.bs.length = s.n + 1
  nl : s.n < 4611686018427387000

theorem hs_sc {s : HS} (h : s.Ok) (i k : Nat) (hk : 7 ≤ k) : ((hs s).get i).sc k := by
  rw [hs_get]
  split
  · exact arrR_sc fun v hv => (h.bs v hv).mono (Nat.zero_le _)
  split
  · exact arrR_sc fun v hv => (h.ws v hv).mono (Nat.zero_le _)
  split
  · exact Blk.sc_mono h.wb hk
  split
  · exact fun e he => ⟨(h.gs e he).1.mono (Nat.zero_le _), (h.gs e he).2.mono (Nat.zero_le _)⟩
  split
  · intro v hv
    rcases List.mem_cons.1 hv with rfl | hv
    · exact Sc_slice (by show 5 < k; omega)
    rcases List.mem_cons.1 hv with rfl | hv
    · exact Sc_slice (by show 6 < k; omega)
    · exact (h.cs v hv).mono (Nat.zero_le _)
  split
  · exact fun e he => ⟨(h.es e he).1.mono (Nat.zero_le _), (h.es e he).2.mono (Nat.zero_le _)⟩
  split
  · intro v hv
    simp only [List.mem_cons, List.not_mem_nil, or_false] at hv
    rcases hv with e | e | e | e | e | e | e
    · rw [e]; exact Sc_ptr (by show 2 < k; omega)
    · rw [e]; exact Sc_int _ _ _
    · rw [e]; exact Sc_int _ _ _
    · rw [e]; exact Sc_map (by omega)
    · rw [e]; exact Sc_map (by omega)
    · rw [e]; exact h.wv.mono hk
    · rw [e]; exact Sc_int _ _ _
  · trivial

theorem hs_live {s : HS} {i : Nat} (hi : ((hs s).get i).live = true) : i < 7 := by
  by_cases h : i < 7
  · exact h
  · rw [hs_get, if_neg (by omega), if_neg (by omega), if_neg (by omega), if_neg (by omega), if_neg (by omega), if_neg (by omega), if_neg (by omega)] at hi
    cases hi

/-- The memory alone. -/
def putM (s : HS) (X : St) : St := X |>.set 2 (.cells 107 (.slice (some ⟨5, 0, none⟩) (s.n + 1) (capR s.row s.n) :: .slice (some ⟨6, 0, none⟩) (s.n + 1) (capR s.row s.n) :: s.cs)) |>.set 5 (arrR s.row 89 s.ws) |>.set 6 (arrR s.row 4 s.bs)
def ms (s : HS) : St := putM s ⟨7, .leaf⟩
theorem putM_get (s : HS) (X : St) (i : Nat) : (putM s X).get i = if 6 = i then arrR s.row 4 s.bs else if 5 = i then arrR s.row 89 s.ws else if 2 = i then .cells 107 (.slice (some ⟨5, 0, none⟩) (s.n + 1) (capR s.row s.n) :: .slice (some ⟨6, 0, none⟩) (s.n + 1) (capR s.row s.n) :: s.cs) else X.get i := by
  simp only [putM, St.get_set]
theorem ms_get (s : HS) (i : Nat) : (ms s).get i = if 6 = i then arrR s.row 4 s.bs else if 5 = i then arrR s.row 89 s.ws else if 2 = i then .cells 107 (.slice (some ⟨5, 0, none⟩) (s.n + 1) (capR s.row s.n) :: .slice (some ⟨6, 0, none⟩) (s.n + 1) (capR s.row s.n) :: s.cs) else .dead := putM_get s _ i
structure HS.MOk (s : HS) : Prop where
  cs : Scs 0 s.cs
  ws : Scs 0 s.ws
  bs : Scs 0 s.bs
  cl : s.cs.length = 8
  wl : s.ws.length = s.n + 1
  bl : s.bs.length = s.n + 1
  nl : s.n < 4611686018427387000
theorem HS.Ok.m {s : HS} (h : s.Ok) : s.MOk := ⟨h.cs, h.ws, h.bs, h.cl, h.wl, h.bl, h.nl⟩
structure HS.MFlat (s : HS) : Prop where
  cs : s.cs.map (AH.ren (loc id)) = s.cs
  ws : s.ws.map (AH.ren (loc id)) = s.ws
  bs : s.bs.map (AH.ren (loc id)) = s.bs
  n : s.n < unk
theorem capR_le (row : Bool) {n : Nat} (h : n < unk) : capR row n ≤ unk := by
  cases row
  · exact h
  · exact Nat.le_refl _
theorem ms_sc {s : HS} (h : s.MOk) (i k : Nat) (hk : 7 ≤ k) : ((ms s).get i).sc k := by
  rw [ms_get]
  split
  · exact arrR_sc fun v hv => (h.bs v hv).mono (Nat.zero_le _)
  split
  · exact arrR_sc fun v hv => (h.ws v hv).mono (Nat.zero_le _)
  split
  · intro v hv
    rcases List.mem_cons.1 hv with rfl | hv
    · exact Sc_slice (by show 5 < k; omega)
    rcases List.mem_cons.1 hv with rfl | hv
    · exact Sc_slice (by show 6 < k; omega)
    · exact (h.cs v hv).mono (Nat.zero_le _)
  · trivial
theorem ms_live {s : HS} {i : Nat} (hi : ((ms s).get i).live = true) : i = 2 ∨ i = 5 ∨ i = 6 := by
  rw [ms_get] at hi
  by_cases h6 : 6 = i
  · omega
  by_cases h5 : 5 = i
  · omega
  by_cases h2 : 2 = i
  · omega
  rw [if_neg h6, if_neg h5, if_neg h2] at hi
  cases hi
theorem ms_flat {s : HS} (h : s.MFlat) (i : Nat) : renB (loc id) ((ms s).get i) = (ms s).get i := by
  rw [ms_get]
  split
  · exact arrR_ren h.bs
  split
  · exact arrR_ren h.ws
  split
  · simp only [renB, List.map_cons, ren_slice, renA, loc, id, h.cs]
    rw [renC_le (capR_le _ h.n)]
  · rfl
/-- What is said of the memory alone holds in any state that has it. -/
theorem liftM {K : FuncId} {args : List Value} {v : Value} {s s' : HS} {σ : St} (h0 : s.MOk) (f0 : s.MFlat) (h1 : s'.MOk) (f1 : s'.MFlat) (h7 : 7 ≤ σ.next) (g2 : σ.get 2 = (ms s).get 2) (g5 : σ.get 5 = (ms s).get 5) (g6 : σ.get 6 = (ms s).get 6) (ha : Scs 7 args) (har : args.map (AH.ren (loc id)) = args) (hv : ∀ ρ, AH.ren ρ v = v)
    (h : WF M.toEnv K args (ms s) (fun r σ' => r = v ∧ σ' = ms s')) : WF M.toEnv K args σ (fun r σ' => r = v ∧ σ' = putM s' σ) := by
  refine WF.know h.1 fun hout hsc => ?_
  have hg : ∀ i, ((ms s).get i).live = true → σ.get i = (ms s).get i := fun i hi => by
    rcases ms_live hi with rfl | rfl | rfl
    · exact g2
    · exact g5
    · exact g6
  have hs : Small id (ms s) σ := ⟨fun i hi => (by have : i < 7 := hi; show i < σ.next; omega), fun i j _ _ e => e, fun i hi => by rw [ms_flat f0]; exact hg i hi, fun i => ms_sc h0 i _ (Nat.le_refl _), fun i hi => by
    rcases ms_live hi with rfl | rfl | rfl <;> exact Nat.le_of_ble_eq_true rfl⟩
  rw [← har]
  refine WF.frame hs ha h fun r σ₀' _ ⟨e1, e2⟩ => ?_
  subst e1; subst e2
  have hget : ∀ i, (i = 2 ∨ i = 5 ∨ i = 6) → (putM s' σ).get i = (ms s').get i := fun i hi => by
    rw [putM_get, ms_get]
    rcases hi with rfl | rfl | rfl <;> rfl
  have hoth : ∀ i, ¬ (i = 2 ∨ i = 5 ∨ i = 6) → (putM s' σ).get i = σ.get i := fun i hi => by
    rw [putM_get, if_neg (by omega), if_neg (by omega), if_neg (by omega)]
  refine ⟨putM s' σ, ⟨rfl, fun i hi hl => ?_, fun j hj hno => ?_, fun j hj => ?_⟩, hv _, rfl⟩
  · have hi' : i < 7 := hi
    have hl' : i = 2 ∨ i = 5 ∨ i = 6 := by
      rcases hl with hl | hl
      · have : 7 ≤ i := hl
        omega
      · exact ms_live hl
    show (putM s' σ).get (exN id 7 σ.next i) = renB (loc (exN id 7 σ.next)) _
    rw [show exN id 7 σ.next i = i from exN_lt hi', hget i hl', renB_exN (ms_sc h1 i 7 (Nat.le_refl _)), ms_flat f1]
  · refine hoth j fun hj => ?_
    refine hno j ?_ rfl
    rw [ms_get]
    rcases hj with rfl | rfl | rfl
    · rfl
    · exact arrR_live _ _ _
    · exact arrR_live _ _ _
  · have hj' : σ.next ≤ j := hj
    rw [hoth j (by omega)]
    cases hl : (σ.get j).live with
    | false => rfl
    | true => have := hout j hl; omega

def T87 : TyI := { desc := .slice 89, size := 1, bytes := 24, zero := .slice none 0 0, eqok := true }
def T89 : TyI := { desc := .int .u64, size := 1, bytes := 8, zero := .int .u64 0, eqok := true }

/-! ### mem's may -/
def ov4 (l : List (Nat × Bool)) : Tmp → Option Value := fun t => match l.find? (fun p => Nat.beq p.1 t) with
  | some p => some (.bool p.2)
  | none => none
def ev0 : CallF := ev3 M noOrc 100000 40
theorem ev0_ok : CallOk M ev0 := ev3_sound (noOrc_ok M) 100000 40

/-- Words that there are may be named. -/
theorem may_m (s : HS) (a k : Int) (h1 : 1 ≤ k) (h0 : 0 ≤ a) (ha : a < s.n + 1) (hk : k ≤ s.n + 1 - a) (hn : s.n < 4611686018427387000) :
    WF M.toEnv 123 [.pointer (some ⟨2, 0, none⟩), .int .i64 a, .int .i64 k] (ms s) (fun r σ' => r = .int .i64 0 ∧ σ' = ms s) := by
  have h : bodyO M ev0 (ov4 [(12, false), (15, false), (24, false), (35, false)]) 1000 123 [.pointer (some ⟨2, 0, none⟩), .int .i64 a, .int .i64 k] (ms s) =
      some (.int .i64 0, ms s, (((True ∧ some (Value.bool (ltI k 1)) = some (.bool false)) ∧ some (Value.bool (ltI a 0)) = some (.bool false)) ∧ some (Value.bool (leI (s.n + 1 : Nat) a)) = some (.bool false)) ∧ some (Value.bool (ltI (IntKind.i64.wrap ((s.n + 1 : Nat) - a)) k)) = some (.bool false)) := by kernel_rfl
  refine bodyO_sound ev0_ok h ⟨⟨⟨⟨trivial, ?_⟩, ?_⟩, ?_⟩, ?_⟩
  · rw [ltI_eq, decide_eq_false (by omega)]
  · rw [ltI_eq, decide_eq_false (by omega)]
  · rw [leI_eq, decide_eq_false (by omega)]
  · rw [IntWalk.i64_in _ (by omega), ltI_eq, decide_eq_false (by omega)]

theorem vs_cast {nB : Nat} {M : EnvM} {K : FuncId} {nt : Nat} {k : List Item} {f : Fr} {σ σ' : St} {R : Value → St → Prop} (hs : σ = σ') (h : VB nB M K nt k f σ' R) : VB nB M K nt k f σ R := by rw [hs]; exact h

/-! ### mem's set -/
/-- From p on, j of them are v. -/
def setR (v : Value) (l : List Value) (p : Nat) : Nat → List Value
  | 0 => l
  | j + 1 => putAt (setR v l p j) (p + j) [v]
theorem setR_length (v : Value) (l : List Value) (p : Nat) : ∀ j, p + j ≤ l.length → (setR v l p j).length = l.length
  | 0, _ => rfl
  | j + 1, h => by rw [setR, putAt_length, setR_length v l p j (by omega)]

theorem stCells_cells {σ : St} {b off : Nat} {e : TypeId} {cs vs : List Value} (hg : σ.get b = .cells e cs) (ho : off + vs.length ≤ cs.length) (hv : vs.all Value.oneCell' = true) : stCells σ ⟨b, off, none⟩ vs = some (σ.set b (.cells e (putAt cs off vs))) := by
  simp only [stCells, hg]
  rw [if_pos ⟨rfl, ho, hv⟩]

theorem stCells_arr {σ : St} {b off : Nat} {row : Bool} {e : TypeId} {cs vs : List Value} (hg : σ.get b = arrR row e cs) (ho : off + vs.length ≤ cs.length) (hv : vs.all Value.oneCell' = true) : stCells σ ⟨b, off, none⟩ vs = some (σ.set b (arrR row e (putAt cs off vs))) := by
  cases row
  · have hg' : σ.get b = .cells e cs := hg
    simp only [stCells, hg']
    rw [if_pos ⟨rfl, ho, hv⟩]
    rfl
  · have hg' : σ.get b = .row e 1 cs := hg
    simp only [stCells, hg']
    rw [if_pos ⟨rfl, ho, hv⟩]
    rfl

theorem set_m (s : HS) (p k : Nat) (b : Bool) (h1 : 1 ≤ k) (hk : p + k ≤ s.n + 1) (hs0 : s.MOk) :
    WF M.toEnv 100 [.pointer (some ⟨2, 0, none⟩), .int .i64 p, .int .i64 k, .bool b] (ms s) (fun r σ' => r = .int .i64 0 ∧ σ' = ms { s with bs := setR (.bool b) s.bs p k }) := by
  have hn := hs0.nl
  refine WF.of_VB (fn := Try.f100) Try.func100 rfl rfl (by show 4 ≤ 33; omega) ?_
  refine VB.seq ?_
  apply VB.region
  case hd => rfl
  apply WL.quiet
  case hw => rfl
  case hq => exact rfl
  apply WL.nil
  refine VB.seq ?_
  apply VB.region
  case hd => rfl
  iterate 3
    apply WL.quiet
    case hw => rfl
    case hq => exact rfl
  apply WL.call
  case ho => rfl
  case hw => rfl
  case hc => exact rfl
  refine (may_m s p k (by omega) (by omega) (by omega) (by omega) hn).mono fun r σ' _ ⟨e1, e2⟩ => ?_
  subst e1; subst e2
  apply WL.quiet
  case hw => rfl
  case hq => exact rfl
  apply WL.nil
  refine VB.seq (VB.seq ?_)
  apply VB.region
  case hd => rfl
  iterate 2
    apply WL.quiet
    case hw => rfl
    case hq => exact rfl
  apply WL.nil
  apply VB.cond
  case hc => exact rfl
  refine VB.seq ?_
  apply VB.region
  case hd => rfl
  iterate 2
    apply WL.quiet
    case hw => rfl
    case hq => exact rfl
  apply WL.nil
  refine VB.block ?_
  refine VB.trim [(0, .pointer (some ⟨2, 0, none⟩)), (1, .int .i64 p), (2, .int .i64 k), (3, .bool b), (9, .int .i64 0), (10, .int .i64 p)] (by
    intro p hp
    simp only [List.mem_cons, List.not_mem_nil, or_false] at hp
    rcases hp with rfl | rfl | rfl | rfl | rfl | rfl <;> (dsimp only; exact rfl)) rfl ?_
  refine VB.loop (fun f σ => ∃ j : Nat, j ≤ k ∧ f = frL [(0, .pointer (some ⟨2, 0, none⟩)), (1, .int .i64 p), (2, .int .i64 k), (3, .bool b), (9, .int .i64 0), (10, .int .i64 ((p + j : Nat) : Int))] ∧ σ = ms { s with bs := setR (.bool b) s.bs p j })
    (fun f σ => k + p - (match f.get 10 with | some (.int _ i) => i.toNat | _ => 0)) ⟨0, by omega, rfl, rfl⟩ ?_
  intro f σ ⟨j, hj, hf, hσ⟩ ih
  subst hf; subst hσ
  have hlen : (setR (.bool b) s.bs p j).length = s.n + 1 := by rw [setR_length _ _ _ _ (by rw [hs0.bl]; omega), hs0.bl]
  refine VB.seq (VB.seq ?_)
  apply VB.region
  case hd => rfl
  iterate 5
    apply WL.quiet
    case hw => rfl
    case hq => exact rfl
  apply WL.nil
  have hadd : IntKind.i64.wrap ((p : Int) + (k : Int)) = ((p + k : Nat) : Int) := by rw [IntWalk.i64_in _ (by omega)]; omega
  refine VB.cond_split (t := ltI ((p + j : Nat) : Int) (IntKind.i64.wrap ((p : Int) + (k : Int)))) rfl (fun ht => ?_) (fun ht => ?_)
  · rw [hadd, ltI_eq, decide_eq_true_eq] at ht
    have hjk : j < k := by omega
    refine VB.skip (VB.seq (VB.block ?_))
    apply VB.region
    case hd => rfl
    iterate 6
      apply WL.quiet
      case hw => rfl
      case hq => exact rfl
    apply WL.quiet
    case hw => rfl
    case hq =>
      show (if 0 ≤ ((p + j : Nat) : Int) ∧ ((p + j : Nat) : Int) < ((s.n + 1 : Nat) : Int) then some (Value.pointer (some (addA ⟨6, 0, none⟩ (((p + j : Nat) : Int).toNat * 1)))) else none) = some (Value.pointer (some ⟨6, p + j, none⟩))
      rw [if_pos ⟨by omega, by omega⟩, Int.toNat_natCast, Nat.mul_one]
      unfold addA
      split
      · rename_i h0; rw [h0]
      · simp
    apply WL.write
    case hw => rfl
    case hq => exact opW_store rfl rfl rfl rfl (stCells_arr (row := s.row) (e := 4) (cs := setR (.bool b) s.bs p j) rfl (by rw [hlen]; show p + j + 1 ≤ s.n + 1; omega) rfl)
    apply WL.nil
    refine VB.inBlock ?_
    apply VB.region
    case hd => rfl
    iterate 3
      apply WL.quiet
      case hw => rfl
      case hq => exact rfl
    apply WL.nil
    refine vs_cast (σ' := ms { s with bs := setR (.bool b) s.bs p (j + 1) }) (by kernel_rfl) ?_
    have hinc : IntKind.i64.wrap (((p + j : Nat) : Int) + 1) = ((p + (j + 1) : Nat) : Int) := by rw [IntWalk.i64_in _ (by omega)]; omega
    refine VB.trim [(0, .pointer (some ⟨2, 0, none⟩)), (1, .int .i64 p), (2, .int .i64 k), (3, .bool b), (9, .int .i64 0), (10, .int .i64 ((p + (j + 1) : Nat) : Int))] (by
      intro p hp
      simp only [List.mem_cons, List.not_mem_nil, or_false] at hp
      rcases hp with rfl | rfl | rfl | rfl | rfl | rfl <;> first | (dsimp only; exact rfl) | (dsimp only; rw [← hinc]; exact rfl)) rfl ?_
    refine ih _ _ ⟨j + 1, by omega, rfl, rfl⟩ ?_
    show k + p - (((p + (j + 1) : Nat) : Int)).toNat < k + p - (((p + j : Nat) : Int)).toNat
    omega
  · rw [hadd, ltI_eq, decide_eq_false_iff_not] at ht
    have hjk : j = k := by omega
    subst hjk
    apply VB.exit
    case hx => exact rfl
    refine VB.seq ?_
    apply VB.region
    case hd => rfl
    iterate 2
      apply WL.quiet
      case hw => rfl
      case hq => exact rfl
    apply WL.nil
    exact VB.ret (v := .int .i64 0) rfl Try.func100 rfl ⟨rfl, rfl⟩

theorem slice_mid {E : Env} {σ : St} {t e : Nat} {i j : TyI} (ht : E.ty t = some i) (hd : i.desc = .slice e) (hj : E.ty e = some j) (hs : j.size = 1) {b n p q : Nat} (hp : p ≤ q) (hq : q ≤ n) (hpn : p < n) (hn : n < half) :
    sliceQ E σ t (.slice (some ⟨b, 0, none⟩) n n) (some (.int .i64 p)) (some (.int .i64 q)) none = some (.slice (some ⟨b, p, none⟩) (q - p) (n - p)) := by
  simp only [sliceQ, ht, hd, hj]
  rw [if_pos hn]
  have h1 : idx (none : Option Value) n n = some n := rfl
  have h2 : idx (some (.int .i64 (q : Int))) n n = some q := by
    simp only [idx]
    rw [if_pos ⟨by omega, by omega⟩, Int.toNat_natCast]
  have h3 : idx (some (.int .i64 (p : Int))) 0 q = some p := by
    simp only [idx]
    rw [if_pos ⟨by omega, by omega⟩, Int.toNat_natCast]
  simp only [h1, h2, h3]
  rw [if_neg (by simp), if_neg (by omega), hs]
  simp only [Option.map_some, Nat.mul_one]
  unfold addA
  split
  · rename_i h0; rw [h0]
  · simp

theorem slice_arr {E : Env} {σ : St} {t e : Nat} {i j : TyI} (ht : E.ty t = some i) (hd : i.desc = .slice e) (hj : E.ty e = some j) (hs : j.size = 1) {row : Bool} {b n p q : Nat} {cs : List Value} {c : Nat} (hg : σ.get b = arrR row c cs) (hl : cs.length = n + 1) (hp : p ≤ q) (hq : q ≤ n + 1) (hpn : p < n + 1) (hpq : p = 0 ∨ p < q) (hn : n + 1 < half) :
    sliceQ E σ t (.slice (some ⟨b, 0, none⟩) (n + 1) (capR row n)) (some (.int .i64 p)) (some (.int .i64 q)) none = some (.slice (some ⟨b, p, none⟩) (q - p) (capR row n - p)) := by
  cases row
  · exact slice_mid ht hd hj hs hp hq hpn hn
  · have hg' : σ.get b = .row c 1 cs := hg
    have hu : ¬ (unk < half) := by unfold unk half; omega
    have hcap : capR true n = unk := rfl
    simp only [sliceQ, ht, hd, hj, hcap]
    rw [if_neg hu]
    have h2 : idx (some (.int .i64 (q : Int))) (n + 1) ((cs.length - 0) / 1) = some q := by
      simp only [idx, hl]
      rw [if_pos ⟨by omega, by omega⟩, Int.toNat_natCast]
    have h3 : idx (some (.int .i64 (p : Int))) 0 q = some p := by
      simp only [idx]
      rw [if_pos ⟨by omega, by omega⟩, Int.toNat_natCast]
    simp only [hg', h2, h3]
    rw [if_pos ⟨by unfold half; omega, Nat.le_refl _, hs.symm, by omega, by omega, by omega⟩, if_pos hpq, if_pos ⟨by omega, by unfold half at *; omega⟩, hs]
    simp only [Nat.mul_one]
    unfold addA
    split
    · rename_i h0; rw [h0]
    · simp

theorem opQ_slice {E : Env} {f : Fr} {σ : St} {t : Nat} {x : Operand} {lo hi mx : Option Operand} {v r : Value} {l h m : Option Value} (hx : opd f x = some v) (hl : opdO f lo = some l) (hh : opdO f hi = some h) (hm : opdO f mx = some m) (hr : sliceQ E σ t v l h m = some r) : opQ E f σ (.slice t x lo hi mx) = some r := by
  simp only [opQ, hx, hl, hh, hm, hr]
theorem opW_clear {E : Env} {f : Fr} {σ σ' : St} {t : Nat} {x : Operand} {v u : Value} {c : Call} (hc : c.callee = .builtin .clear) (ha : c.args.toList = [x]) (ht : c.argTypes.toList = [t]) (hx : opd f x = some v) (hr : clearQ E σ t v = some (u, σ')) : opW E f σ (.call c) = some (some u, σ') := by
  obtain ⟨callee, args, at_⟩ := c
  simp only at hc ha ht
  subst hc
  simp only [opW, ha, ht, hx, hr]

theorem repl_length (l : List Value) : ∀ k, (repl k l).length = k * l.length
  | 0 => by simp [repl]
  | k + 1 => by simp [repl, repl_length l k, Nat.add_mul]; omega

theorem clear_mid {E : Env} {σ : St} {t e : Nat} {i j : TyI} (ht : E.ty t = some i) (hd : i.desc = .slice e) (hj : E.ty e = some j) {b p k m c : Nat} {cs : List Value} {row : Bool} (hk : k ≠ 0) (hg : σ.get b = arrR row c cs) (hl : p + (repl k j.zero.cells.toList).length ≤ cs.length) (h1 : (repl k j.zero.cells.toList).all Value.oneCell' = true) :
    clearQ E σ t (.slice (some ⟨b, p, none⟩) k m) = some (.tuple #[], σ.set b (arrR row c (putAt cs p (repl k j.zero.cells.toList)))) := by
  simp only [clearQ, ht, hd, hj]
  rw [if_neg hk, stCells_arr hg hl h1]

theorem repl_all (f : Value → Bool) (l : List Value) (h : l.all f = true) : ∀ k, (repl k l).all f = true
  | 0 => rfl
  | k + 1 => by simp only [repl, List.all_append, h, repl_all f l h k, Bool.and_self]

/-- Words that are free again are all 0. -/
theorem free74_m (s : HS) (p k : Nat) (h1 : 1 ≤ k) (hk : p + k ≤ s.n + 1) (hs0 : s.MOk) :
    WF M.toEnv 74 [.pointer (some ⟨2, 0, none⟩), .int .i64 p, .int .i64 k] (ms s) (fun r σ' => r = .int .i64 0 ∧ σ' = ms { s with bs := setR (.bool false) s.bs p k, ws := putAt s.ws p (repl k [.int .u64 0]) }) := by
  have hn := hs0.nl
  refine WF.of_VB (fn := Try.f74) Try.func74 rfl rfl (by show 3 ≤ 24; omega) ?_
  refine VB.seq ?_
  apply VB.region
  case hd => rfl
  apply WL.quiet
  case hw => rfl
  case hq => exact rfl
  apply WL.nil
  refine VB.seq ?_
  apply VB.region
  case hd => rfl
  iterate 3
    apply WL.quiet
    case hw => rfl
    case hq => exact rfl
  apply WL.call
  case ho => rfl
  case hw => rfl
  case hc => exact rfl
  refine (set_m s p k false h1 hk hs0).mono fun r σ' _ ⟨e1, e2⟩ => ?_
  subst e1; subst e2
  apply WL.quiet
  case hw => rfl
  case hq => exact rfl
  apply WL.nil
  refine VB.seq (VB.seq ?_)
  apply VB.region
  case hd => rfl
  iterate 2
    apply WL.quiet
    case hw => rfl
    case hq => exact rfl
  apply WL.nil
  apply VB.cond
  case hc => exact rfl
  apply VB.region
  case hd => rfl
  iterate 7
    apply WL.quiet
    case hw => rfl
    case hq => exact rfl
  have hadd : IntKind.i64.wrap ((p : Int) + (k : Int)) = ((p + k : Nat) : Int) := by rw [IntWalk.i64_in _ (by omega)]; omega
  apply WL.quiet
  case hw => rfl
  case hq => exact rfl
  refine WL.quiet (v := .slice (some ⟨5, p, none⟩) (p + k - p) (capR s.row s.n - p)) rfl (opQ_slice rfl rfl rfl rfl (by rw [hadd]; exact slice_arr (i := T87) (j := T89) (e := 89) (b := 5) (n := s.n) (p := p) (q := p + k) (c := 89) (cs := s.ws) (row := s.row) (by kernel_rfl) rfl (by kernel_rfl) rfl rfl hs0.wl (by omega) (by omega) (by omega) (by omega) (by show s.n + 1 < 4611686018427387904; omega))) ?_
  rw [show p + k - p = k by omega]
  apply WL.write
  case hw => rfl
  case hq => exact opW_clear rfl rfl rfl rfl (clear_mid (i := T87) (j := T89) (e := 89) (c := 89) (cs := s.ws) (row := s.row) (by kernel_rfl) rfl (by kernel_rfl) (by omega) rfl (by rw [repl_length]; show p + k * 1 ≤ s.ws.length; rw [hs0.wl]; omega) (repl_all _ _ rfl k))
  apply WL.nil
  refine VB.seq ?_
  apply VB.region
  case hd => rfl
  iterate 2
    apply WL.quiet
    case hw => rfl
    case hq => exact rfl
  apply WL.nil
  exact VB.ret (v := .int .i64 0) rfl Try.func74 rfl ⟨rfl, by kernel_rfl⟩
end
end Go.Proofs.Ytlnlopeodpamdaa.Hx
