/-
  heap's room: the least place for so many words.
-/
import Derived.Test.YtlnlopeodpamdaaLawHMem
set_option maxRecDepth 100000
set_option linter.unusedVariables false
namespace Go.Proofs.Ytlnlopeodpamdaa.Hx
open Go AH Go.Proofs
noncomputable section

/-- The heap's map and what was in it, as they are wanted. -/
structure HS.Good (s : HS) : Prop where
  ok : s.Ok
  st : Stamped s.es s.clock
  sh : Shaped1 s.es
  len : s.es.length ≤ 1048576
  dist : ((s.es.map bvOf).map (·.1)).Nodup
  was : s.wv = .slice none 0 0 ∨ ∃ k c, s.wv = .slice (some ⟨4, 0, none⟩) k c ∧ c ≤ unk

def HS.hv (s : HS) : HV := ⟨2, 1, 3, (match s.wv with | .slice (some _) _ _ => 4 | _ => 0), s.first, s.words, s.bad, s.wv, s.wv, s.es, s.clock⟩

theorem HS.Good.seen {s : HS} (h : s.Good) : Seen (hs s) 0 s.hv := by
  refine ⟨by rw [hs_get]; rfl, by rw [hs_get]; rfl, h.st, h.sh, h.len, h.dist, ?_, ?_, ?_⟩
  · show AH.ren (loc (piH 0 1 2 3 s.hv.r)) s.wv = s.wv
    rcases h.was with e | ⟨k, c, e, hc⟩
    · rw [e]; simp
    · have hr : s.hv.r = 4 := by unfold HS.hv; rw [e]
      rw [e, hr, ren_slice]
      simp only [renA, loc, piH]
      rw [renC_le hc]
      rfl
  · show Fix5 s.wv
    rcases h.was with e | ⟨k, c, e, hc⟩
    · rw [e]; exact ⟨Sc_nilslice _ _ _, fun ρ _ => by simp⟩
    · rw [e]
      refine ⟨Sc_slice (by show 4 < 5; omega), fun ρ hρ => ?_⟩
      rw [ren_slice]
      simp only [renA, hρ 4 (by omega)]
      rw [renC_le hc]
  · show (∃ n c, s.wv = .slice (some ⟨s.hv.r, 0, none⟩) n c) ∨ s.hv.r = 0
    rcases h.was with e | ⟨k, c, e, hc⟩
    · right; unfold HS.hv; rw [e]
    · left
      have hr : s.hv.r = 4 := by unfold HS.hv; rw [e]
      exact ⟨k, c, by rw [hr]; exact e⟩

/-- The blocks, rising. -/
def HS.blocks (s : HS) : List BV := sortB (s.es.map bvOf)

/-- Where the first gap of so many words is; else what is behind the last block. -/
def gap (w : Int) : List BV → Int → Int × Bool
  | [], at_ => (at_, false)
  | b :: r, at_ => if w ≤ b.1 - at_ then (at_, true) else gap w r (b.1 + b.2.1)

theorem encs_drop : ∀ (l : List BV) (j : Nat) (h : j < l.length), ((encs l).drop (j * 4)).take 4 = encB l[j]
  | [], j, h => by simp at h
  | x :: r, 0, h => by
    have e : (encs (x :: r)) = encB x ++ encs r := rfl
    rw [e, Nat.zero_mul, List.drop_zero]
    rfl
  | x :: r, j + 1, h => by
    have e : (encs (x :: r)) = encB x ++ encs r := rfl
    have hx : (encB x).length = 4 := rfl
    rw [e, show (j + 1) * 4 = 4 + j * 4 by omega, ← List.drop_drop, List.drop_left' hx]
    exact encs_drop r j (by simpa using h)

def hsR (s : HS) (l : List BV) : St := (⟨8, .leaf⟩ : St) |>.set 0 (.cells 83 [.pointer (some ⟨2, 0, none⟩), .int .i64 s.first, .int .i64 s.words, .map (some 1), .map (some 3), s.wv, .int .i64 s.bad]) |>.set 1 (.map s.es s.clock) |>.set 2 (.cells 107 (.slice (some ⟨5, 0, none⟩) (s.n + 1) (capR s.row s.n) :: .slice (some ⟨6, 0, none⟩) (s.n + 1) (capR s.row s.n) :: s.cs)) |>.set 3 (.map s.gs s.gclock) |>.set 4 s.wb |>.set 5 (arrR s.row 89 s.ws) |>.set 6 (arrR s.row 4 s.bs) |>.set 7 (.row 74 4 (encs l))
theorem hsR_get (s : HS) (l : List BV) (i : Nat) : (hsR s l).get i = if 7 = i then .row 74 4 (encs l) else (hs s).get i := by
  rw [hs_get]
  simp only [hsR, St.get_set]
  rfl

def hsA (s : HS) (l : List BV) (cs : List Value) : St := (⟨9, .leaf⟩ : St) |>.set 0 (.cells 83 [.pointer (some ⟨2, 0, none⟩), .int .i64 s.first, .int .i64 s.words, .map (some 1), .map (some 3), s.wv, .int .i64 s.bad]) |>.set 1 (.map s.es s.clock) |>.set 2 (.cells 107 (.slice (some ⟨5, 0, none⟩) (s.n + 1) (capR s.row s.n) :: .slice (some ⟨6, 0, none⟩) (s.n + 1) (capR s.row s.n) :: s.cs)) |>.set 3 (.map s.gs s.gclock) |>.set 4 s.wb |>.set 5 (arrR s.row 89 s.ws) |>.set 6 (arrR s.row 4 s.bs) |>.set 7 (.row 74 4 (encs l)) |>.set 8 (.cells 74 cs)
theorem hsA_get (s : HS) (l : List BV) (cs : List Value) (i : Nat) : (hsA s l cs).get i = if 8 = i then .cells 74 cs else (hsR s l).get i := by
  rw [hsR_get, hs_get]
  simp only [hsA, St.get_set]
  rfl
theorem hsR_wf {s : HS} (h : s.Ok) (l : List BV) {w a : Int} {j : Nat} : Wf (frL [(0, .pointer (some ⟨0, 0, none⟩)), (1, .int .i64 w), (6, .int .i64 a), (14, .slice (some ⟨7, 0, none⟩) l.length unk), (15, .int .i64 (l.length : Nat)), (16, .int .i64 (j : Nat))]) (hsR s l) := by
  refine ⟨fun i => ?_, fun i hi => ?_, fun t v ht => ?_⟩
  · rw [hsR_get]
    split
    · exact encs_sc l _
    · exact hs_sc h i _ (by show 7 ≤ 8; omega)
  · rw [hsR_get] at hi
    show i < 8
    by_cases h7 : 7 = i
    · omega
    · rw [if_neg h7] at hi; have := hs_live hi; omega
  · have := frL_mem ht
    simp only [List.mem_cons, Prod.mk.injEq, List.not_mem_nil, or_false] at this
    rcases this with ⟨_, rfl⟩ | ⟨_, rfl⟩ | ⟨_, rfl⟩ | ⟨_, rfl⟩ | ⟨_, rfl⟩ | ⟨_, rfl⟩
    · exact Sc_ptr (by show 0 < 8; omega)
    · exact Sc_int _ _ _
    · exact Sc_int _ _ _
    · exact Sc_slice (by show 7 < 8; omega)
    · exact Sc_int _ _ _
    · exact Sc_int _ _ _

theorem indexA_ok {E : Env} {f : Fr} {σ : St} {t e b len c k : Nat} {x y : Operand} {i j : TyI} (hx : opd f x = some (.slice (some ⟨b, 0, none⟩) len c)) (hy : opd f y = some (.int .i64 (k : Nat))) (ht : E.ty t = some i) (hd : i.desc = .slice e) (hj : E.ty e = some j) (hk : k < len) : opQ E f σ (.indexAddr t x y) = some (.pointer (some ⟨b, k * j.size, none⟩)) := by
  simp only [opQ, hx, hy, indexAddrQ, ht, hd, hj]
  rw [if_pos ⟨by omega, by omega⟩, Int.toNat_natCast]
  unfold addA
  split
  · rename_i h0; rw [h0]
  · simp

theorem ld_row {σ : St} {b : Nat} {l : List BV} {j : Nat} (hg : σ.get b = .row 74 4 (encs l)) (hj : j < l.length) : ldVar T74 σ ⟨b, j * 4, none⟩ = some (.agg (encB l[j]).toArray) := by
  have hk : (σ.get b).known = some (encs l) := by rw [hg]; rfl
  have hle : Nat.ble (j * 4 + 4) (encs l).length = true := Nat.ble_eq_true_of_le (by rw [encs_length]; omega)
  have hc : ldCells σ ⟨b, j * 4, none⟩ 4 = some (encB l[j]) := by
    simp only [ldCells, hk]
    rw [hle]
    show some (((encs l).drop (j * 4)).take 4) = _
    rw [encs_drop l j hj]
  show (match ldCells σ ⟨b, j * 4, none⟩ 4 with | some l => some (Value.agg l.toArray) | none => none) = _
  rw [hc]

/-- All sums that are reckoned fit. -/
structure Fits (s : HS) (w : Int) : Prop where
  first : 0 ≤ s.first ∧ s.first ≤ 2305843009213693951
  words : 0 ≤ s.words ∧ s.words ≤ 2305843009213693951
  w : 0 ≤ w ∧ w ≤ 4611686018427387904
  blk : ∀ b ∈ s.blocks, 0 ≤ b.1 ∧ b.1 ≤ 2305843009213693951 ∧ 0 ≤ b.2.1 ∧ b.2.1 ≤ 2305843009213693951

theorem room_raw (s : HS) (w : Int) (hg : s.Good) (hf : Fits s w) :
    WF M.toEnv 73 [.pointer (some ⟨0, 0, none⟩), .int .i64 w] (hs s) (fun r σ' => (r = .tuple #[.int .i64 (gap w s.blocks s.first).1, .bool ((gap w s.blocks s.first).2 || decide (w ≤ s.first + s.words - (gap w s.blocks s.first).1))] ∧ Sc 7 r) ∧ ∀ i, i < 7 → σ'.get i = (hs s).get i) := by
  refine WF.of_VB (fn := Try.f73) Try.func73 rfl rfl (by show 2 ≤ 47; omega) ?_
  refine VB.seq ?_
  apply VB.region
  case hd => rfl
  iterate 2
    apply WL.quiet
    case hw => rfl
    case hq => exact rfl
  apply WL.nil
  refine VB.seq ?_
  apply VB.region
  case hd => rfl
  iterate 5
    apply WL.quiet
    case hw => rfl
    case hq => exact rfl
  apply WL.nil
  refine VB.seq (VB.seq ?_)
  apply VB.region
  case hd => rfl
  apply WL.quiet
  case hw => rfl
  case hq => exact rfl
  apply WL.call
  case ho => rfl
  case hw => rfl
  case hc => exact rfl
  refine (blocksG hg.seen).mono fun r σ' _ ⟨e1, e2⟩ => ?_
  subst e1; subst e2
  have hfit1 : IntKind.i64.wrap (s.first + s.words) = s.first + s.words := IntWalk.i64_in _ (by have := hf.first; have := hf.words; omega)
  show WL M _ _ _ _ (blocksV (hs s) s.blocks).2 _
  have hv1 : (blocksV (hs s) (sortB (s.hv.es.map bvOf))).1 = (blocksV (hs s) s.blocks).1 := rfl
  rw [hv1]
  cases hl : s.blocks with
  | nil =>
    apply WL.quiet
    case hw => rfl
    case hq => exact rfl
    apply WL.quiet
    case hw => rfl
    case hq => exact rfl
    apply WL.nil
    refine VB.of_VM (((runKO_sound ev0_ok (ov := fun _ => none) (n := 200) (p := True) (p' := True) (r := .tuple #[.int .i64 s.first, .bool (leI w (IntKind.i64.wrap (IntKind.i64.wrap (s.first + s.words) - s.first)))]) (σ' := hs s) Try.func73 (by kernel_rfl)).2 trivial).mono fun r σ' _ ⟨e1, e2⟩ => ?_)
    subst e1; subst e2
    refine ⟨⟨?_, Sc_tuple.2 fun v hv => ?_⟩, fun i _ => rfl⟩
    · simp only [gap, Bool.false_or]
      rw [hfit1, IntWalk.i64_in _ (by have := hf.words; omega), leI_eq]
      rfl
    · simp only [List.mem_cons, List.not_mem_nil, or_false] at hv
      rcases hv with rfl | rfl <;> first | exact Sc_int _ _ _ | exact Sc_bool _ _
  | cons x t =>
    generalize hL : x :: t = l at *
    have hbv : blocksV (hs s) l = (.slice (some ⟨7, 0, none⟩) l.length unk, (hs s).push (.row 74 4 (encs l))) := by subst hL; rfl
    rw [hbv]
    apply WL.quiet
    case hw => rfl
    case hq => exact rfl
    apply WL.quiet
    case hw => rfl
    case hq => exact rfl
    apply WL.nil
    refine VB.block ?_
    refine vs_cast (σ' := hsR s l) (by kernel_rfl) ?_
    refine VB.trim [(0, .pointer (some ⟨0, 0, none⟩)), (1, .int .i64 w), (6, .int .i64 s.first), (14, .slice (some ⟨7, 0, none⟩) l.length unk), (15, .int .i64 (l.length : Nat)), (16, .int .i64 (0 : Nat))] (by
      intro p hp
      simp only [List.mem_cons, List.not_mem_nil, or_false] at hp
      rcases hp with rfl | rfl | rfl | rfl | rfl | rfl <;> (dsimp only; exact rfl)) rfl ?_
    refine VB.loop (fun f σ => ∃ (j : Nat) (a : Int), j ≤ l.length ∧ f = frL [(0, .pointer (some ⟨0, 0, none⟩)), (1, .int .i64 w), (6, .int .i64 a), (14, .slice (some ⟨7, 0, none⟩) l.length unk), (15, .int .i64 (l.length : Nat)), (16, .int .i64 (j : Nat))] ∧ σ = hsR s l ∧ gap w (l.drop j) a = gap w l s.first ∧ 0 ≤ a ∧ a ≤ 4611686018427387904)
      (fun f σ => l.length - (match f.get 16 with | some (.int _ i) => i.toNat | _ => 0)) ⟨0, s.first, by omega, rfl, rfl, rfl, by have := hf.first; omega, by have := hf.first; omega⟩ ?_
    intro f σ ⟨j, a, hj, hfr, hσ, hgap, ha0, ha1⟩ ih
    subst hfr; subst hσ
    refine VB.seq ?_
    apply VB.region
    case hd => rfl
    apply WL.quiet
    case hw => rfl
    case hq => exact rfl
    apply WL.nil
    refine VB.seq ?_
    refine VB.cond_split (t := ltI ((j : Nat) : Int) ((l.length : Nat) : Int)) rfl (fun ht => ?_) (fun ht => ?_)
    · rw [ltI_eq, decide_eq_true_eq] at ht
      have hjl : j < l.length := by omega
      have hb := hf.blk l[j] (by rw [hl]; exact List.getElem_mem hjl)
      have hdrop : l.drop j = l[j] :: l.drop (j + 1) := List.drop_eq_getElem_cons hjl
      rw [hdrop] at hgap
      refine VB.skip (VB.seq (VB.block (VB.seq ?_)))
      apply VB.region
      case hd => rfl
      refine WL.quiet (v := .pointer (some ⟨7, j * 4, none⟩)) rfl (indexA_ok (i := T68) (j := T74) (e := 74) (k := j) rfl rfl (by kernel_rfl) rfl (by kernel_rfl) hjl) ?_
      refine WL.quiet (v := .agg (encB l[j]).toArray) rfl (opQ_load (i := T74) (ad := ⟨7, j * 4, none⟩) rfl (by kernel_rfl) (ld_row (l := l) (by rw [hsR_get, if_pos rfl]) hjl)) ?_
      refine WL.write (r := some (.pointer (some ⟨8, 0, none⟩))) (σ' := hsA s l [.int .i64 0, .int .i64 0, .int .i64 0, .bool false]) rfl (by kernel_rfl) ?_
      refine WL.write (r := none) (σ' := hsA s l (encB l[j])) rfl (by kernel_rfl) ?_
      apply WL.nil
      refine VB.seq (VB.seq ?_)
      apply VB.region
      case hd => rfl
      iterate 6
        apply WL.quiet
        case hw => rfl
        case hq => exact rfl
      apply WL.nil
      have hsub : IntKind.i64.wrap (l[j].1 - a) = l[j].1 - a := IntWalk.i64_in _ (by omega)
      refine VB.cond_split (t := leI w (IntKind.i64.wrap (l[j].1 - a))) rfl (fun ht2 => ?_) (fun ht2 => ?_)
      · rw [hsub, leI_eq, decide_eq_true_eq] at ht2
        rw [gap, if_pos ht2] at hgap
        refine VB.seq ?_
        apply VB.region
        case hd => rfl
        iterate 3
          apply WL.quiet
          case hw => rfl
          case hq => exact rfl
        apply WL.nil
        refine VB.ret (v := .tuple #[.int .i64 a, .bool true]) rfl Try.func73 rfl ⟨⟨?_, Sc_tuple.2 fun v hv => ?_⟩, fun i hi => ?_⟩
        · rw [← hgap]; rfl
        · simp only [List.mem_cons, List.not_mem_nil, or_false] at hv
          rcases hv with rfl | rfl <;> first | exact Sc_int _ _ _ | exact Sc_bool _ _
        · rw [hsA_get, if_neg (by omega), hsR_get, if_neg (by omega)]
      · rw [hsub, leI_eq, decide_eq_false_iff_not] at ht2
        rw [gap, if_neg ht2] at hgap
        refine VB.skip ?_
        apply VB.region
        case hd => rfl
        iterate 6
          apply WL.quiet
          case hw => rfl
          case hq => exact rfl
        apply WL.nil
        refine VB.inBlock ?_
        apply VB.region
        case hd => rfl
        iterate 2
          apply WL.quiet
          case hw => rfl
          case hq => exact rfl
        apply WL.nil
        have hadd : IntKind.i64.wrap (l[j].1 + l[j].2.1) = l[j].1 + l[j].2.1 := IntWalk.i64_in _ (by omega)
        have hll : l.length ≤ 1048576 := by
          rw [← hl]
          show (sortB (s.es.map bvOf)).length ≤ _
          rw [(sortB_perm _).length_eq, List.length_map]
          exact hg.len
        have hinc : IntKind.i64.wrap ((j : Int) + 1) = ((j + 1 : Nat) : Int) := by rw [IntWalk.i64_in _ (by omega)]; omega
        refine VB.cut [(0, .pointer (some ⟨0, 0, none⟩)), (1, .int .i64 w), (6, .int .i64 (l[j].1 + l[j].2.1)), (14, .slice (some ⟨7, 0, none⟩) l.length unk), (15, .int .i64 (l.length : Nat)), (16, .int .i64 (j + 1 : Nat))] (hsR s l) (by
          intro p hp
          simp only [List.mem_cons, List.not_mem_nil, or_false] at hp
          rcases hp with rfl | rfl | rfl | rfl | rfl | rfl
          · dsimp only; exact rfl
          · dsimp only; exact rfl
          · dsimp only
            refine Eq.trans (b := some (Value.int .i64 (IntKind.i64.wrap (l[j].1 + l[j].2.1)))) ?_ (by rw [hadd])
            exact rfl
          · dsimp only; exact rfl
          · dsimp only; exact rfl
          · dsimp only; rw [← hinc]; exact rfl) rfl (hsR_wf hg.ok l) (by show 7 ≤ 8; omega) (fun i => ?_) (ih _ _ ⟨j + 1, _, by omega, rfl, rfl, hgap, by omega, by omega⟩ ?_)
        · rw [hsA_get]
          by_cases h8 : 8 = i
          · subst h8; exact .inr rfl
          · rw [if_neg h8]; exact .inl rfl
        · show l.length - (((j + 1 : Nat) : Int)).toNat < l.length - ((j : Nat) : Int).toNat
          omega
    · rw [ltI_eq, decide_eq_false_iff_not] at ht
      have hjl : j = l.length := by omega
      subst hjl
      rw [List.drop_length] at hgap
      apply VB.exit
      case hx => exact rfl
      refine VB.of_VM (((runKO_sound ev0_ok (ov := fun _ => none) (n := 200) (p := True) (p' := True) (r := .tuple #[.int .i64 a, .bool (leI w (IntKind.i64.wrap (IntKind.i64.wrap (s.first + s.words) - a)))]) (σ' := hsR s l) Try.func73 (by kernel_rfl)).2 trivial).mono fun r σ' _ ⟨e1, e2⟩ => ?_)
      subst e1; subst e2
      refine ⟨⟨?_, Sc_tuple.2 fun v hv => ?_⟩, fun i hi => by rw [hsR_get, if_neg (by omega)]⟩
      · rw [← hgap]
        simp only [gap, Bool.false_or]
        rw [hfit1, IntWalk.i64_in _ (by have := hf.words; have := hf.first; omega), leI_eq]
        rfl
      · simp only [List.mem_cons, List.not_mem_nil, or_false] at hv
        rcases hv with rfl | rfl <;> first | exact Sc_int _ _ _ | exact Sc_bool _ _

theorem room_ok (s : HS) (w : Int) (hg : s.Good) (hf : Fits s w) :
    WF M.toEnv 73 [.pointer (some ⟨0, 0, none⟩), .int .i64 w] (hs s) (fun r σ' => r = .tuple #[.int .i64 (gap w s.blocks s.first).1, .bool ((gap w s.blocks s.first).2 || decide (w ≤ s.first + s.words - (gap w s.blocks s.first).1))] ∧ σ' = hs s) :=
  WF.gc (room_raw s w hg hf)
end
end Go.Proofs.Ytlnlopeodpamdaa.Hx
