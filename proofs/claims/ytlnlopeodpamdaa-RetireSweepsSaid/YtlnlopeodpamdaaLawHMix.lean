/-
  The texts HFree, HBlocks, HSort, HBlk, HOrc, HMem, HRoom, HBar, HTake, HMix, joined.
-/
import Derived.Test.YtlnlopeodpamdaaAh37
import Derived.Test.YtlnlopeodpamdaaRows
import Derived.Shelf.SlSortCmp.WholeK
import Derived.Shelf.SlicesG.Cmp
section
/-
  heap.Free: what is free, whatever order the blocks come in.
-/
set_option maxRecDepth 100000
set_option linter.unusedVariables false
namespace Go.Proofs.Ytlnlopeodpamdaa.Hx
open Go AH Go.Proofs
noncomputable section
theorem mixed : Try.prog.follows .mixedOrders = true := Try.checked.mixed
noncomputable def M : EnvM := envOf Try.prog mixed
def hp (first words bad : Int) (vg vw : Value) (es : List MapEntry) (clock : Nat) : St :=
  (⟨5, .leaf⟩ : St) |>.set 0 (.cells 83 [.pointer (some ⟨2, 0, none⟩), .int .i64 first, .int .i64 words, .map (some 1), vg, vw, .int .i64 bad]) |>.set 1 (.map es clock)
def hpI (first words bad : Int) (vg vw : Value) (es : List MapEntry) (clock : Nat) (seen : List Nat) : St :=
  (⟨6, .leaf⟩ : St) |>.set 0 (.cells 83 [.pointer (some ⟨2, 0, none⟩), .int .i64 first, .int .i64 words, .map (some 1), vg, vw, .int .i64 bad]) |>.set 1 (.map es clock) |>.set 5 (.miter (some 1) clock seen clock)
def hpJ (first words bad : Int) (vg vw : Value) (es : List MapEntry) (clock : Nat) (seen : List Nat) (cs : List Value) : St :=
  (⟨7, .leaf⟩ : St) |>.set 0 (.cells 83 [.pointer (some ⟨2, 0, none⟩), .int .i64 first, .int .i64 words, .map (some 1), vg, vw, .int .i64 bad]) |>.set 1 (.map es clock) |>.set 5 (.miter (some 1) clock seen clock) |>.set 6 (.cells 74 cs)
/-- How long a block is. -/
def lenOf (e : MapEntry) : Int := match e.val with | .agg cs => (match cs.toList with | [_, .int _ n, _, _] => n | _ => 0) | _ => 0
def sumLen (l : List MapEntry) : Int := (l.map lenOf).sum
def blkV (a l g : Int) (v : Bool) : Value := .agg #[.int .i64 a, .int .i64 l, .int .i64 g, .bool v]
def Shaped1 (es : List MapEntry) : Prop := ∀ e ∈ es, ∃ a l g v, e.val = blkV a l g v ∧ e.key = .int .i64 a ∧ 0 ≤ l
theorem opW_entry {E : Env} {f : Fr} {σ : St} {x : Operand} {r m since : Nat} {seen : List Nat} {stepped : Nat} {es : List MapEntry} {e : MapEntry} (hx : opd f x = some (.pointer (some ⟨r, 0, none⟩))) (hr : σ.get r = .miter (some m) since seen stepped) (hm : σ.get m = .map es stepped)
    (hl : seen.getLast? = some e.born) (hf : es.find? (fun x => x.born == e.born) = some e) : opW E f σ (.entry x) = some (some (.tuple #[e.key, e.val]), σ) := by
  simp only [opW, hx, entryQ, hr, hl, hm, if_true, hf]
theorem nodup_snoc {α : Type} {l : List α} {x : α} (h : l.Nodup) (hx : x ∉ l) : (l ++ [x]).Nodup := by
  rw [List.nodup_append]
  refine ⟨h, by simp, fun a ha b hb => ?_⟩
  simp only [List.mem_singleton] at hb
  subst hb
  exact fun e => hx (e ▸ ha)
theorem length_le_of_sub {α : Type} : ∀ {l m : List α}, l.Nodup → (∀ x ∈ l, x ∈ m) → l.length ≤ m.length
  | [], _, _, _ => by simp
  | x :: r, m, h, hs => by
    obtain ⟨s, t, rfl⟩ := List.append_of_mem (hs x (by simp))
    obtain ⟨h1, h2⟩ := List.nodup_cons.1 h
    have := length_le_of_sub (l := r) (m := s ++ t) h2 fun y hy => by
      have h3 := hs y (by simp [hy])
      simp only [List.mem_append, List.mem_cons] at h3 ⊢
      rcases h3 with h3 | h3 | h3
      · exact .inl h3
      · subst h3; exact absurd hy h1
      · exact .inr h3
    simp only [List.length_append, List.length_cons] at *
    omega
theorem sumLen_append (l m : List MapEntry) : sumLen (l ++ m) = sumLen l + sumLen m := by simp [sumLen, List.sum_append]
theorem sumLen_cons (x : MapEntry) (m : List MapEntry) : sumLen (x :: m) = lenOf x + sumLen m := by simp [sumLen]
theorem sumLen_perm {l m : List MapEntry} (h : l.Perm m) : sumLen l = sumLen m := by
  induction h with
  | nil => rfl
  | cons x _ ih => rw [sumLen_cons, sumLen_cons, ih]
  | swap x y l => simp only [sumLen_cons]; omega
  | trans _ _ h1 h2 => rw [h1, h2]
theorem lenOf_nonneg {es : List MapEntry} (h : Shaped1 es) {e : MapEntry} (he : e ∈ es) : 0 ≤ lenOf e := by
  obtain ⟨a, l, g, v, hv, _, hl⟩ := h e he
  have : lenOf e = l := by rw [lenOf, hv]; rfl
  omega
theorem sumLen_nonneg : ∀ {l : List MapEntry}, (∀ e ∈ l, 0 ≤ lenOf e) → 0 ≤ sumLen l
  | [], _ => by simp [sumLen]
  | x :: r, h => by
    have h1 := h x (by simp)
    have h2 := sumLen_nonneg (l := r) fun e he => h e (by simp [he])
    simp only [sumLen, List.map_cons, List.sum_cons] at *
    omega
theorem sumLen_sub : ∀ {l es : List MapEntry}, l.Nodup → (∀ x ∈ l, x ∈ es) → (∀ e ∈ es, 0 ≤ lenOf e) → sumLen l ≤ sumLen es
  | [], es, _, _, hp => sumLen_nonneg hp
  | x :: r, es, h, hs, hp => by
    obtain ⟨s, t, rfl⟩ := List.append_of_mem (hs x (by simp))
    obtain ⟨h1, h2⟩ := List.nodup_cons.1 h
    have := sumLen_sub (l := r) (es := s ++ t) h2 (fun y hy => by
      have h3 := hs y (by simp [hy])
      simp only [List.mem_append, List.mem_cons] at h3 ⊢
      rcases h3 with h3 | h3 | h3
      · exact .inl h3
      · subst h3; exact absurd hy h1
      · exact .inr h3) (fun e he => hp e (by simp only [List.mem_append, List.mem_cons] at he ⊢; rcases he with he | he; exact .inl he; exact .inr (.inr he)))
    rw [sumLen_append, sumLen_cons]
    rw [sumLen_append] at this
    rw [sumLen_cons]
    omega
theorem sumLen_le {es l : List MapEntry} (h : Shaped1 es) (hn : l.Nodup) (hs : ∀ x ∈ l, x ∈ es) : sumLen l ≤ sumLen es ∧ 0 ≤ sumLen l :=
  ⟨sumLen_sub hn hs fun e he => lenOf_nonneg h he, sumLen_nonneg fun e he => lenOf_nonneg h (hs e he)⟩
theorem hpI_get (first words bad : Int) (vg vw : Value) (es : List MapEntry) (clock : Nat) (seen : List Nat) (i : Nat) : (hpI first words bad vg vw es clock seen).get i = if 5 = i then .miter (some 1) clock seen clock else if 1 = i then .map es clock else if 0 = i then .cells 83 [.pointer (some ⟨2, 0, none⟩), .int .i64 first, .int .i64 words, .map (some 1), vg, vw, .int .i64 bad] else .dead := by
  simp only [hpI, St.get_set]
  rfl
theorem hpJ_get (first words bad : Int) (vg vw : Value) (es : List MapEntry) (clock : Nat) (seen : List Nat) (cs : List Value) (i : Nat) : (hpJ first words bad vg vw es clock seen cs).get i = if 6 = i then .cells 74 cs else if 5 = i then .miter (some 1) clock seen clock else if 1 = i then .map es clock else if 0 = i then .cells 83 [.pointer (some ⟨2, 0, none⟩), .int .i64 first, .int .i64 words, .map (some 1), vg, vw, .int .i64 bad] else .dead := by
  simp only [hpJ, St.get_set]
  rfl
theorem hpI_wf {first words bad : Int} {vg vw : Value} {es : List MapEntry} {clock : Nat} {seen seen' : List Nat} {f : Fr} {n : Int} (h : Wf f (hpI first words bad vg vw es clock seen)) :
    Wf (frL [(0, .pointer (some ⟨0, 0, none⟩)), (16, .pointer (some ⟨5, 0, none⟩)), (3, .int .i64 n)]) (hpI first words bad vg vw es clock seen') := by
  refine ⟨fun i => ?_, fun i hi => ?_, fun t v ht => ?_⟩
  · have := h.sc i
    rw [hpI_get] at this ⊢
    by_cases h5 : 5 = i
    · rw [if_pos h5]; show 1 < 6; omega
    · rw [if_neg h5] at this ⊢; exact this
  · have := h.lt i
    rw [hpI_get] at this hi
    by_cases h5 : 5 = i
    · subst h5; show 5 < 6; omega
    · rw [if_neg h5] at this hi; exact this hi
  · have := frL_mem ht
    simp only [List.mem_cons, Prod.mk.injEq, List.not_mem_nil, or_false] at this
    rcases this with ⟨_, rfl⟩ | ⟨_, rfl⟩ | ⟨_, rfl⟩
    · exact Sc_ptr (by show 0 < 6; omega)
    · exact Sc_ptr (by show 5 < 6; omega)
    · exact Sc_int _ _ _
theorem free_small (first words bad : Int) (vg vw : Value) (es : List MapEntry) (clock : Nat) (hst : Stamped es clock) (hsh : Shaped1 es) (hb : sumLen es ≤ 4611686018427387904) (hw1 : 0 ≤ words) (hw2 : words ≤ 4611686018427387904) : WF M.toEnv 28 [.pointer (some ⟨0, 0, none⟩)] (hp first words bad vg vw es clock) (fun r σ' => (r = .int .i64 (words - sumLen es) ∧ Sc 5 r) ∧ ∀ i, i < 5 → σ'.get i = (hp first words bad vg vw es clock).get i) := by
  refine WF.of_VB (fn := Try.f28) Try.func28 rfl rfl (by decide) ?_
  refine VB.seq ?_
  apply VB.region
  case hd => rfl
  apply WL.quiet
  case hw => rfl
  case hq => exact rfl
  apply WL.nil
  refine VB.seq (VB.seq ?_)
  apply VB.region
  case hd => rfl
  apply WL.quiet
  case hw => rfl
  case hq => exact rfl
  apply WL.call
  case ho => rfl
  case hw => rfl
  case hc => exact rfl
  refine ((ev2_sound (noOrc_ok M) 1000 20) _ _ _ (.bool false) (hp first words bad vg vw es clock) (by kernel_rfl)).mono fun r σ' _ ⟨e1, e2⟩ => ?_
  subst e1; subst e2
  apply WL.nil
  apply VB.cond
  case hc => exact rfl
  refine VB.skip ?_
  refine VB.seq ?_
  apply VB.region
  case hd => rfl
  iterate 5
    apply WL.quiet
    case hw => rfl
    case hq => exact rfl
  apply WL.nil
  refine VB.seq (VB.seq ?_)
  apply VB.region
  case hd => rfl
  iterate 4
    apply WL.quiet
    case hw => rfl
    case hq => exact rfl
  refine WL.write (r := some (.pointer (some ⟨5, 0, none⟩))) (σ' := hpI first words bad vg vw es clock []) rfl (by kernel_rfl) ?_
  apply WL.nil
  refine VB.block ?_
  refine VB.trim [(0, .pointer (some ⟨0, 0, none⟩)), (16, .pointer (some ⟨5, 0, none⟩)), (3, .int .i64 words)] (by
    intro p hp
    simp only [List.mem_cons, List.not_mem_nil, or_false] at hp
    rcases hp with rfl | rfl | rfl <;> (dsimp only; exact rfl)) rfl ?_
  refine VB.loop (fun f σ => ∃ vis : List MapEntry, f = frL [(0, .pointer (some ⟨0, 0, none⟩)), (16, .pointer (some ⟨5, 0, none⟩)), (3, .int .i64 (words - sumLen vis))] ∧ σ = hpI first words bad vg vw es clock (vis.map (·.born)) ∧ vis.Nodup ∧ ∀ e ∈ vis, e ∈ es)
    (fun f σ => es.length - (match σ.get 5 with | .miter _ _ seen _ => seen.length | _ => 0)) ⟨[], by simp [sumLen], rfl, List.nodup_nil, by simp⟩ ?_
  intro f σ ⟨vis, hf, hσ, hnd, hsub⟩ ih
  subst hf; subst hσ
  refine VB.know fun hwf => ?_
  refine VB.seq ?_
  apply VB.region
  case hd => rfl
  apply WL.next
  case ho => rfl
  case hw => rfl
  case hx => exact rfl
  case hr => exact rfl
  case hm => exact rfl
  case hok => exact not_cleared hst
  intro c hc
  rcases cands_old hst hsub hc with ⟨rfl, hall⟩ | ⟨e, rfl, he, hnv⟩
  · apply WL.quiet
    case hw => rfl
    case hq => exact rfl
    apply WL.nil
    refine VB.seq ?_
    apply VB.cond
    case hc => exact rfl
    apply VB.exit
    case hx => exact rfl
    refine VB.seq ?_
    apply VB.region
    case hd => rfl
    iterate 2
      apply WL.quiet
      case hw => rfl
      case hq => exact rfl
    apply WL.nil
    refine VB.ret (v := .int .i64 (words - sumLen vis)) rfl Try.func28 rfl ⟨⟨?_, Sc_int _ _ _⟩, fun i hi => ?_⟩
    · rw [sumLen_perm (perm_of_all hnd hst.nodup hsub hall)]
    · show (hpI first words bad vg vw es clock (vis.map (·.born))).get i = _
      rw [hpI_get, if_neg (by omega)]
      simp only [hp, St.get_set]
      rfl
  · apply WL.quiet
    case hw => rfl
    case hq => exact rfl
    apply WL.nil
    refine VB.seq ?_
    apply VB.cond
    case hc => exact rfl
    refine VB.skip (VB.block (VB.seq ?_))
    apply VB.region
    case hd => rfl
    apply WL.write
    case hw => rfl
    case hq => exact opW_entry rfl rfl rfl (e := e) (by simp) (entry_last hst he)
    obtain ⟨a, l, g, v, hv, hk, hl⟩ := hsh e he
    rw [hk, hv]
    apply WL.quiet
    case hw => rfl
    case hq => exact rfl
    refine WL.write (r := some (.pointer (some ⟨6, 0, none⟩))) (σ' := hpJ first words bad vg vw es clock (vis.map (·.born) ++ [e.born]) [.int .i64 0, .int .i64 0, .int .i64 0, .bool false]) rfl (by kernel_rfl) ?_
    refine WL.write (r := none) (σ' := hpJ first words bad vg vw es clock (vis.map (·.born) ++ [e.born]) [.int .i64 a, .int .i64 l, .int .i64 g, .bool v]) rfl (by kernel_rfl) ?_
    apply WL.nil
    apply VB.region
    case hd => rfl
    iterate 5
      apply WL.quiet
      case hw => rfl
      case hq => exact rfl
    apply WL.nil
    refine VB.inBlock ?_
    have hlen : lenOf e = l := by rw [lenOf, hv]; rfl
    have hsum : sumLen (vis ++ [e]) = sumLen vis + l := by simp [sumLen, hlen]
    have hsl : sumLen (vis ++ [e]) ≤ sumLen es ∧ 0 ≤ sumLen (vis ++ [e]) := sumLen_le hsh (nodup_snoc hnd hnv) (fun x hx => by
      rcases List.mem_append.1 hx with hx | hx
      · exact hsub x hx
      · simp only [List.mem_singleton] at hx; subst hx; exact he)
    refine VB.cut [(0, .pointer (some ⟨0, 0, none⟩)), (16, .pointer (some ⟨5, 0, none⟩)), (3, .int .i64 (words - sumLen (vis ++ [e])))] (hpI first words bad vg vw es clock ((vis ++ [e]).map (·.born))) ?_ rfl ?_ (by show 5 ≤ 6; omega) ?_ (ih _ _ ⟨vis ++ [e], rfl, rfl, nodup_snoc hnd hnv, ?_⟩ ?_)
    · intro p hp
      simp only [List.mem_cons, List.not_mem_nil, or_false] at hp
      rcases hp with rfl | rfl | rfl
      · exact rfl
      · exact rfl
      · have : words - sumLen (vis ++ [e]) = IntKind.i64.wrap (words - sumLen vis - l) := by
          rw [IntWalk.i64_in _ (by omega)]; omega
        dsimp only
        rw [this]
        exact rfl
    · exact hpI_wf hwf
    · intro i
      rw [hpI_get, hpJ_get]
      by_cases h6 : i = 6
      · subst h6; exact .inr rfl
      · rw [if_neg (Ne.symm h6)]; left; simp
    · intro x hx
      rcases List.mem_append.1 hx with hx | hx
      · exact hsub x hx
      · simp only [List.mem_singleton] at hx; subst hx; exact he
    · have h1 : vis.length + 1 ≤ es.length := by
        have := length_le_of_sub (nodup_snoc hnd hnv) (fun x hx => by
          rcases List.mem_append.1 hx with hx | hx
          · exact hsub x hx
          · simp only [List.mem_singleton] at hx; subst hx; exact he : ∀ x ∈ vis ++ [e], x ∈ es)
        simpa using this
      show es.length - ((vis ++ [e]).map (·.born)).length < es.length - (vis.map (·.born)).length
      simp only [List.length_map, List.length_append, List.length_singleton]
      omega

theorem free_clean (first words bad : Int) (vg vw : Value) (es : List MapEntry) (clock : Nat) (hst : Stamped es clock) (hsh : Shaped1 es) (hb : sumLen es ≤ 4611686018427387904) (hw1 : 0 ≤ words) (hw2 : words ≤ 4611686018427387904) :
    WF M.toEnv 28 [.pointer (some ⟨0, 0, none⟩)] (hp first words bad vg vw es clock) (fun r σ' => r = .int .i64 (words - sumLen es) ∧ σ' = hp first words bad vg vw es clock) :=
  WF.gc (free_small first words bad vg vw es clock hst hsh hb hw1 hw2)
end
end Go.Proofs.Ytlnlopeodpamdaa.Hx
end

section
set_option maxRecDepth 100000
set_option linter.unusedVariables false
namespace Go.Proofs.Ytlnlopeodpamdaa.Hx
open Go AH Go.Proofs
noncomputable section
def valsOf (l : List MapEntry) : List Value := l.flatMap fun e => e.val.cells.toList
def seq0 (es : List MapEntry) (clock : Nat) : St := (⟨2, .leaf⟩ : St) |>.set 0 (.cells 80 [.map (some 1)]) |>.set 1 (.map es clock)
theorem code_eq {M : EnvM} {K li nt : Nat} {k : List Item} {f : Fr} {σ : St} {R : Value → St → Prop} {c c' : Code} (h : c = c') (hv : VR M K li nt (.code c :: k) f σ R) : VR M K li nt (.code c' :: k) f σ R := h ▸ hv
def T68 : TyI := { desc := .slice 74, size := 1, bytes := 24, zero := .slice none 0 0, eqok := true }
def T74 : TyI := { desc := .struct #[{ name := "At", type := 3, offset := 0, embedded := false, tag := "", pkgPath := "", byteOffset := 0 }, { name := "Len", type := 3, offset := 1, embedded := false, tag := "", pkgPath := "", byteOffset := 8 }, { name := "Gen", type := 3, offset := 2, embedded := false, tag := "", pkgPath := "", byteOffset := 16 }, { name := "Live", type := 4, offset := 3, embedded := false, tag := "", pkgPath := "", byteOffset := 24 }], size := 4, bytes := 32, zero := .agg #[.int .i64 0, .int .i64 0, .int .i64 0, .bool false], eqok := true }
theorem cast {E : Env} {K : FuncId} {args args' : List Value} {σ σ' : St} {R : Value → St → Prop} (ha : args = args') (hs : σ = σ') (h : WF E K args' σ' R) : WF E K args σ R := by rw [ha, hs]; exact h
def f0 : Fr := frL [(2, .pointer (some ⟨2, 0, none⟩)), (6, .func (.func 103) #[] #[.pointer (some ⟨0, 0, none⟩)])]
def vS (es : List MapEntry) (clock : Nat) (seen : List Nat) (row : Blk) (acc : Value) (cA cB : Code) : St := (⟨5, .leaf⟩ : St) |>.set 0 (.cells 80 [.map (some 1)]) |>.set 1 (.map es clock) |>.set 2 (.cells 68 [acc]) |>.set 3 .dfr |>.set 4 (.loop .ready none 124 13 f0.tr #[7] cA cB)
def accV (vis : List MapEntry) : Value := match vis with | [] => .slice none 0 0 | _ :: _ => .slice (some ⟨6, 0, none⟩) vis.length unk
def rowV (vis : List MapEntry) : Blk := match vis with | [] => .dead | _ :: _ => .row 74 4 (valsOf vis)
/-- At the head of the iterator's loop. -/
def vI (es : List MapEntry) (clock : Nat) (vis : List MapEntry) (cA cB : Code) : St := (⟨7, .leaf⟩ : St) |>.set 0 (.cells 80 [.map (some 1)]) |>.set 1 (.map es clock) |>.set 2 (.cells 68 [accV vis]) |>.set 3 .dfr |>.set 4 (.loop .ready none 124 13 f0.tr #[7] cA cB) |>.set 5 (.miter (some 1) clock (vis.map (·.born)) clock) |>.set 6 (rowV vis)
/-- Behind it. -/
def vE (es : List MapEntry) (clock : Nat) (vis : List MapEntry) (cA cB : Code) : St := (⟨7, .leaf⟩ : St) |>.set 0 (.cells 80 [.map (some 1)]) |>.set 1 (.map es clock) |>.set 2 (.cells 68 [accV vis]) |>.set 3 .dfr |>.set 4 (.loop .ready none 124 13 f0.tr #[7] cA cB) |>.set 6 (rowV vis)
def v6 (es : List MapEntry) (clock : Nat) (cA cB : Code) : St := (⟨6, .leaf⟩ : St) |>.set 0 (.cells 80 [.map (some 1)]) |>.set 1 (.map es clock) |>.set 2 (.cells 68 [.slice none 0 0]) |>.set 3 .dfr |>.set 4 (.loop .ready none 124 13 f0.tr #[7] cA cB) |>.set 5 (.miter (some 1) clock [] clock)
def vJ (es : List MapEntry) (clock : Nat) (vis : List MapEntry) (b : Nat) (cs : List Value) (cA cB : Code) : St := (⟨8, .leaf⟩ : St) |>.set 0 (.cells 80 [.map (some 1)]) |>.set 1 (.map es clock) |>.set 2 (.cells 68 [accV vis]) |>.set 3 .dfr |>.set 4 (.loop .ready none 124 13 f0.tr #[7] cA cB) |>.set 5 (.miter (some 1) clock (vis.map (·.born) ++ [b]) clock) |>.set 6 (rowV vis) |>.set 7 (.cells 74 cs)
def blkC (a l g : Int) (v : Bool) : List Value := [.int .i64 a, .int .i64 l, .int .i64 g, .bool v]
def vK (es : List MapEntry) (clock : Nat) (vis : List MapEntry) (b : Nat) (cs cs2 : List Value) (st : LoopState) (cA cB : Code) : St := (⟨9, .leaf⟩ : St) |>.set 0 (.cells 80 [.map (some 1)]) |>.set 1 (.map es clock) |>.set 2 (.cells 68 [accV vis]) |>.set 3 .dfr |>.set 4 (.loop st none 124 13 f0.tr #[7] cA cB) |>.set 5 (.miter (some 1) clock (vis.map (·.born) ++ [b]) clock) |>.set 6 (rowV vis) |>.set 7 (.cells 74 cs) |>.set 8 (.cells 74 cs2)
def vL (es : List MapEntry) (clock : Nat) (vis : List MapEntry) (b : Nat) (cs : List Value) (cA cB : Code) : St := (⟨10, .leaf⟩ : St) |>.set 0 (.cells 80 [.map (some 1)]) |>.set 1 (.map es clock) |>.set 2 (.cells 68 [accV vis]) |>.set 3 .dfr |>.set 4 (.loop .busy none 124 13 f0.tr #[7] cA cB) |>.set 5 (.miter (some 1) clock (vis.map (·.born) ++ [b]) clock) |>.set 6 (rowV vis) |>.set 7 (.cells 74 cs) |>.set 8 (.cells 74 cs) |>.set 9 (.cells 74 cs)
def vM (es : List MapEntry) (clock : Nat) (vis : List MapEntry) (b : Nat) (cs : List Value) (acc : Value) (cA cB : Code) : St := (⟨11, .leaf⟩ : St) |>.set 0 (.cells 80 [.map (some 1)]) |>.set 1 (.map es clock) |>.set 2 (.cells 68 [acc]) |>.set 3 .dfr |>.set 4 (.loop .busy none 124 13 f0.tr #[7] cA cB) |>.set 5 (.miter (some 1) clock (vis.map (·.born) ++ [b]) clock) |>.set 6 .dead |>.set 7 (.cells 74 cs) |>.set 8 (.cells 74 cs) |>.set 9 (.cells 74 cs) |>.set 10 (.row 74 4 (valsOf vis ++ cs))
theorem valsOf_length {vis : List MapEntry} (h : Shaped1 vis) : (valsOf vis).length = vis.length * 4 := by
  induction vis with
  | nil => rfl
  | cons x r ih =>
    obtain ⟨a, l, g, v, hv, _⟩ := h x (by simp)
    have := ih fun e he => h e (by simp [he])
    simp only [valsOf, List.flatMap_cons, List.length_append, List.length_cons] at *
    rw [this, hv]
    have : (blkV a l g v).cells.toList.length = 4 := rfl
    omega
theorem app_step (es : List MapEntry) (clock : Nat) (vis : List MapEntry) (b : Nat) (a l g : Int) (v : Bool) (cA cB : Code) (hsv : Shaped1 vis) (h : vis.length < 1048576) :
    appQ M.toEnv (vL es clock vis b (blkC a l g v) cA cB) 68 68 (accV vis) (.slice (some ⟨9, 0, none⟩) 1 1) = some (.slice (some ⟨10, 0, none⟩) (vis.length + 1) unk, vM es clock vis b (blkC a l g v) (accV vis) cA cB) := by
  cases vis with
  | nil =>
    exact appQ_nil (i := T68) (ix := T68) (j := T74) (e := 74) (e2 := 74) (n := 1) (new := blkC a l g v) (by kernel_rfl) (by kernel_rfl) (by kernel_rfl) (by kernel_rfl) (by kernel_rfl) (by kernel_rfl) (by decide) (by decide) (by decide) (by decide) |>.trans (by kernel_rfl)
  | cons x r =>
    have hl := valsOf_length hsv
    exact appQ_row (i := T68) (ix := T68) (j := T74) (e := 74) (e2 := 74) (n := 1) (new := blkC a l g v) (cs := valsOf (x :: r)) (by kernel_rfl) (by kernel_rfl) (by kernel_rfl) (by kernel_rfl) (by kernel_rfl) (by kernel_rfl) (by decide) (by decide) (by kernel_rfl) hl.symm (by decide) (by rfl) (by show (8 * ((x :: r).length + 1) + 4096) * 32 ≤ _; omega) |>.trans (by kernel_rfl)
theorem vI_get (es : List MapEntry) (clock : Nat) (vis : List MapEntry) (cA cB : Code) (i : Nat) : (vI es clock vis cA cB).get i = if 6 = i then rowV vis else if 5 = i then .miter (some 1) clock (vis.map (·.born)) clock else if 4 = i then .loop .ready none 124 13 f0.tr #[7] cA cB else if 3 = i then .dfr else if 2 = i then .cells 68 [accV vis] else if 1 = i then .map es clock else if 0 = i then .cells 80 [.map (some 1)] else .dead := by
  simp only [vI, St.get_set]
  rfl
theorem v6_get (es : List MapEntry) (clock : Nat) (cA cB : Code) (i : Nat) : (v6 es clock cA cB).get i = if 5 = i then .miter (some 1) clock [] clock else if 4 = i then .loop .ready none 124 13 f0.tr #[7] cA cB else if 3 = i then .dfr else if 2 = i then .cells 68 [.slice none 0 0] else if 1 = i then .map es clock else if 0 = i then .cells 80 [.map (some 1)] else .dead := by
  simp only [v6, St.get_set]
  rfl
/-- Keys and values of the map name no block. -/
def NoBlk (es : List MapEntry) : Prop := ∀ e ∈ es, Sc 0 e.key ∧ Sc 0 e.val
theorem NoBlk.of_shaped {es : List MapEntry} (h : Shaped1 es) : NoBlk es := fun e he => by
  obtain ⟨a, l, g, v, hv, hk, _⟩ := h e he
  rw [hv, hk]
  exact ⟨Sc_int _ _ _, Sc_agg.2 fun u hu => by simp at hu; rcases hu with rfl | rfl | rfl | rfl <;> first | exact Sc_int _ _ _ | exact Sc_bool _ _⟩
theorem f0_sc (t : Nat) (v : Value) (h : f0.tr.get t = some v) : Sc 5 v := by
  have := frL_mem (l := [(2, .pointer (some ⟨2, 0, none⟩)), (6, .func (.func 103) #[] #[.pointer (some ⟨0, 0, none⟩)])]) (t := t) (v := v) h
  simp only [List.mem_cons, Prod.mk.injEq, List.not_mem_nil, or_false] at this
  rcases this with ⟨_, rfl⟩ | ⟨_, rfl⟩
  · exact Sc_ptr (by show 2 < 5; omega)
  · exact Sc_func.2 ⟨trivial, fun v hv => by simp at hv, fun v hv => by simp at hv; subst hv; exact Sc_ptr (by show 0 < 5; omega)⟩
theorem vals_sc {vis : List MapEntry} (h : NoBlk vis) (n : Nat) : Scs n (valsOf vis) := fun v hv => by
  obtain ⟨e, he, hv⟩ := List.mem_flatMap.1 hv
  exact (Sc_cells (h e he).2 v hv).mono (Nat.zero_le _)
theorem vI_wf {es vis : List MapEntry} {clock : Nat} {cA cB : Code} (hn : NoBlk es) (hv : ∀ e ∈ vis, e ∈ es) : Wf (frL [(0, .func (.yield 4) #[] #[]), (6, .pointer (some ⟨5, 0, none⟩))]) (vI es clock vis cA cB) := by
  refine ⟨fun i => ?_, fun i hi => ?_, fun t v ht => ?_⟩
  · rw [vI_get]
    show Blk.sc 7 _
    split
    · cases vis with
      | nil => trivial
      | cons x r => exact vals_sc (fun e he => hn e (hv e he)) 7
    split
    · show 1 < 7; omega
    split
    · exact fun t v h => (f0_sc t v h).mono (by omega)
    split
    · trivial
    split
    · intro v hv'
      simp only [List.mem_singleton] at hv'
      subst hv'
      cases vis with
      | nil => exact Sc_nilslice _ _ _
      | cons x r => exact Sc_slice (by show 6 < 7; omega)
    split
    · exact fun e he => ⟨(hn e he).1.mono (Nat.zero_le _), (hn e he).2.mono (Nat.zero_le _)⟩
    split
    · intro v hv'
      simp only [List.mem_singleton] at hv'
      subst hv'
      exact Sc_map (by omega)
    · trivial
  · rw [vI_get] at hi
    show i < 7
    by_cases h : i < 7
    · exact h
    · rw [if_neg (by omega), if_neg (by omega), if_neg (by omega), if_neg (by omega), if_neg (by omega), if_neg (by omega), if_neg (by omega)] at hi
      simp [Blk.live] at hi
  · have := frL_mem ht
    simp only [List.mem_cons, Prod.mk.injEq, List.not_mem_nil, or_false] at this
    rcases this with ⟨_, rfl⟩ | ⟨_, rfl⟩
    · exact Sc_func.2 ⟨by show 4 < 7; omega, fun v hv => by simp at hv, fun v hv => by simp at hv⟩
    · exact Sc_ptr (by show 5 < 7; omega)
theorem vE_get (es : List MapEntry) (clock : Nat) (vis : List MapEntry) (cA cB : Code) (i : Nat) : (vE es clock vis cA cB).get i = if 6 = i then rowV vis else if 4 = i then .loop .ready none 124 13 f0.tr #[7] cA cB else if 3 = i then .dfr else if 2 = i then .cells 68 [accV vis] else if 1 = i then .map es clock else if 0 = i then .cells 80 [.map (some 1)] else .dead := by
  simp only [vE, St.get_set]
  rfl
theorem vE_wf {es vis : List MapEntry} {clock : Nat} {cA cB : Code} (hn : NoBlk es) (hv : ∀ e ∈ vis, e ∈ es) : Wf (frL []) (vE es clock vis cA cB) := by
  have h := vI_wf (clock := clock) (cA := cA) (cB := cB) hn hv
  refine ⟨fun i => ?_, fun i hi => ?_, fun t v ht => ?_⟩
  · have := h.sc i
    rw [vI_get] at this
    rw [vE_get]
    by_cases h5 : 5 = i
    · subst h5; trivial
    · rw [if_neg h5] at this; exact this
  · have := h.lt i
    rw [vI_get] at this
    rw [vE_get] at hi
    by_cases h5 : 5 = i
    · subst h5; show 5 < 7; omega
    · rw [if_neg h5] at this; exact this hi
  · exact absurd (frL_mem ht) (by simp)
theorem Shaped1.map_eq {es : List MapEntry} (h : Shaped1 es) (ρ : Nat → AH.Loc) : es.map (renE ρ) = es := by
  have := List.map_congr_left (f := renE ρ) (g := id) (l := es) fun e he => by
    obtain ⟨a, l, g, v, hv, hk, _⟩ := h e he
    cases e
    simp only at hv hk
    subst hv; subst hk
    simp [renE, blkV]
  rw [this, List.map_id]
theorem vals_map {vis : List MapEntry} (h : Shaped1 vis) (ρ : Nat → AH.Loc) : (valsOf vis).map (ren ρ) = valsOf vis := by
  have := List.map_congr_left (f := ren ρ) (g := id) (l := valsOf vis) fun v hv => by
    obtain ⟨e, he, hv⟩ := List.mem_flatMap.1 hv
    obtain ⟨a, l, g, b, hb, _, _⟩ := h e he
    rw [hb] at hv
    simp [blkV, Value.cells] at hv
    rcases hv with rfl | rfl | rfl | rfl <;> simp
  rw [this, List.map_id]
theorem valsOf_snoc {vis : List MapEntry} {e : MapEntry} {a l g : Int} {v : Bool} (hv : e.val = blkV a l g v) : valsOf (vis ++ [e]) = valsOf vis ++ blkC a l g v := by
  simp only [valsOf, List.flatMap_append, List.flatMap_cons, List.flatMap_nil, List.append_nil, hv]
  rfl
theorem accV_snoc (vis : List MapEntry) (e : MapEntry) : accV (vis ++ [e]) = .slice (some ⟨6, 0, none⟩) (vis.length + 1) unk := by
  cases vis with
  | nil => rfl
  | cons x r => simp [accV]
theorem rowV_snoc (vis : List MapEntry) (e : MapEntry) : rowV (vis ++ [e]) = .row 74 4 (valsOf (vis ++ [e])) := by
  cases vis with
  | nil => rfl
  | cons x r => rfl
theorem Tr.map_same {α : Type} {g : α → α} : ∀ {t : Tr α}, (∀ k v, t.get k = some v → g v = v) → t.map g = t
  | .leaf, _ => rfl
  | .node l v r, h => by
    have h0 : v.map g = v := by
      cases v with
      | none => rfl
      | some u => rw [Option.map_some, h 0 u rfl]
    have hl : l.map g = l := Tr.map_same fun k v hk => h (2 * k + 1) v (by
      have : (2 * k + 1) % 2 = 1 := by omega
      have h2 : (2 * k + 1) / 2 = k := by omega
      simp [Tr.get_node, this, h2, hk])
    have hr : r.map g = r := Tr.map_same fun k v hk => h (2 * k + 2) v (by
      have : (2 * k + 2) % 2 = 0 := by omega
      have h2 : (2 * k + 2) / 2 = k + 1 := by omega
      simp [Tr.get_node, this, h2, hk])
    simp only [Tr.map, h0, hl, hr]
theorem snoc_get {es vis : List MapEntry} {clock : Nat} {cA cB : Code} {e : MapEntry} {a l g : Int} {v : Bool} (hsh : Shaped1 es) (hsub : ∀ x ∈ vis ++ [e], x ∈ es) (hv : e.val = blkV a l g v) (i : Nat) (hi : i < 7) :
    ((vM es clock vis e.born (blkC a l g v) (.slice (some ⟨10, 0, none⟩) (vis.length + 1) unk) cA cB).set 4 (.loop .ready none 124 13 f0.tr #[7] cA cB)).get (if i = 6 then 10 else i) = renB (loc fun i => if i = 6 then 10 else i) ((vI es clock (vis ++ [e]) cA cB).get i) := by
  match i, hi with
  | 0, _ =>
    show Blk.cells 80 [.map (some 1)] = .cells 80 [ren _ (.map (some 1))]
    rw [ren_map]
    rfl
  | 1, _ =>
    have h1 : (vI es clock (vis ++ [e]) cA cB).get 1 = .map es clock := rfl
    rw [h1, renB, hsh.map_eq]
    exact rfl
  | 2, _ =>
    have h1 : (vI es clock (vis ++ [e]) cA cB).get 2 = .cells 68 [accV (vis ++ [e])] := rfl
    rw [h1, accV_snoc]
    show Blk.cells 68 [.slice (some ⟨10, 0, none⟩) (vis.length + 1) unk] = .cells 68 [ren _ (.slice (some ⟨6, 0, none⟩) (vis.length + 1) unk)]
    rw [ren_slice]
    exact rfl
  | 3, _ => exact rfl
  | 4, _ =>
    show Blk.loop .ready none 124 13 f0.tr #[7] cA cB = .loop .ready none 124 13 (f0.tr.map (ren (loc fun i => if i = 6 then 10 else i))) #[7] cA cB
    rw [Tr.map_same]
    intro t w ht
    have := frL_mem (l := [(2, .pointer (some ⟨2, 0, none⟩)), (6, .func (.func 103) #[] #[.pointer (some ⟨0, 0, none⟩)])]) (t := t) (v := w) ht
    simp only [List.mem_cons, Prod.mk.injEq, List.not_mem_nil, or_false] at this
    rcases this with ⟨_, rfl⟩ | ⟨_, rfl⟩
    · rw [ren_ptr]; rfl
    · simp [renA, loc, renFn]
  | 5, _ =>
    have h1 : (vI es clock (vis ++ [e]) cA cB).get 5 = .miter (some 1) clock ((vis ++ [e]).map (·.born)) clock := rfl
    rw [h1, List.map_append]
    exact rfl
  | 6, _ =>
    have h1 : (vI es clock (vis ++ [e]) cA cB).get 6 = rowV (vis ++ [e]) := rfl
    rw [h1, rowV_snoc, renB, vals_map (fun x hx => hsh x (hsub x hx)), valsOf_snoc hv]
    exact rfl
  | n + 7, h => omega
theorem vb_cast {nB : Nat} {M : EnvM} {K : FuncId} {nt : Nat} {k : List Item} {f f' : Fr} {σ σ' : St} {R : Value → St → Prop} (hf : f = f') (hs : σ = σ') (h : VB nB M K nt k f' σ' R) : VB nB M K nt k f σ R := by rw [hf, hs]; exact h
def vX (es : List MapEntry) (clock : Nat) (vis : List MapEntry) (cA cB : Code) : St := (⟨7, .leaf⟩ : St) |>.set 0 (.cells 80 [.map (some 1)]) |>.set 1 (.map es clock) |>.set 2 (.cells 68 [accV vis]) |>.set 3 .dfr |>.set 4 (.loop .exhausted none 124 13 f0.tr #[7] cA cB) |>.set 6 (rowV vis)
theorem collect (es : List MapEntry) (clock : Nat) (hst : Stamped es clock) (hsh : Shaped1 es) (hlen : es.length ≤ 1048576) :
    WF M.toEnv 124 [.slice none 0 0, .func (.func 103) #[] #[.pointer (some ⟨0, 0, none⟩)]] (seq0 es clock) (fun r σ' => ∃ vis : List MapEntry, vis.Perm es ∧ r = accV vis ∧ σ'.get 0 = .cells 80 [.map (some 1)] ∧ σ'.get 1 = .map es clock ∧ σ'.get 6 = rowV vis) := by
  refine WF.of_VB (fn := Try.f124) Try.func124 rfl rfl (by decide) ?_
  refine VB.seq ?_
  apply VB.region
  case hd => rfl
  refine WL.write (r := some (.pointer (some ⟨2, 0, none⟩))) (σ' := ((⟨3, .leaf⟩ : St) |>.set 0 (.cells 80 [.map (some 1)]) |>.set 1 (.map es clock) |>.set 2 (.cells 68 [.slice none 0 0]))) rfl (by kernel_rfl) ?_
  apply WL.quiet
  case hw => rfl
  case hq => exact rfl
  apply WL.nil
  refine VB.seq (VB.seq ?_)
  apply VB.region
  case hd => rfl
  apply WL.quiet
  case hw => rfl
  case hq => exact rfl
  apply WL.nil
  refine VB.block ?_
  refine VB.trim [(2, .pointer (some ⟨2, 0, none⟩)), (6, .func (.func 103) #[] #[.pointer (some ⟨0, 0, none⟩)])] (by
    intro p hp
    simp only [List.mem_cons, List.not_mem_nil, or_false] at hp
    rcases hp with rfl | rfl <;> (dsimp only; exact rfl)) rfl ?_
  apply VB.rangeFunc
  case hg => exact rfl
  generalize hA : (Code.region 2 _ false) = cA
  generalize hB : (Code.block 1 _) = cB
  refine cast (args' := [.func (.yield 4) #[] #[], .pointer (some ⟨0, 0, none⟩)]) (σ' := vS es clock [] .dead (.slice none 0 0) cA cB) (by kernel_rfl) (by kernel_rfl) ?_
  refine WF.mono (R := fun r σ' => ∃ vis : List MapEntry, vis.Perm es ∧ σ' = vE es clock vis cA cB) ?_ ?_
  · refine WF.of_VB (fn := Try.f103) Try.func103 rfl rfl (by decide) ?_
    refine VB.seq ?_
    apply VB.region
    case hd => rfl
    apply WL.quiet
    case hw => rfl
    case hq => exact rfl
    refine WL.write (r := some (.pointer (some ⟨5, 0, none⟩))) (σ' := v6 es clock cA cB) rfl (by kernel_rfl) ?_
    apply WL.nil
    refine VB.block ?_
    refine VB.know fun hwf0 => ?_
    refine VB.cut [(0, .func (.yield 4) #[] #[]), (6, .pointer (some ⟨5, 0, none⟩))] (vI es clock [] cA cB) (by
      intro p hp
      simp only [List.mem_cons, List.not_mem_nil, or_false] at hp
      rcases hp with rfl | rfl <;> (dsimp only; exact rfl)) rfl (vI_wf (NoBlk.of_shaped hsh) (by simp)) (by show 5 ≤ 7; omega) ?_ ?_
    · intro i
      rw [vI_get, v6_get]
      by_cases h6 : i = 6
      · subst h6; exact .inr rfl
      · rw [if_neg (Ne.symm h6)]; left; rfl
    refine VB.loop (fun f σ => ∃ vis : List MapEntry, f = frL [(0, .func (.yield 4) #[] #[]), (6, .pointer (some ⟨5, 0, none⟩))] ∧ σ = vI es clock vis cA cB ∧ vis.Nodup ∧ ∀ e ∈ vis, e ∈ es)
      (fun f σ => es.length - (match σ.get 5 with | .miter _ _ seen _ => seen.length | _ => 0)) ⟨[], rfl, rfl, List.nodup_nil, by simp⟩ ?_
    intro f σ ⟨vis, hf, hσ, hnd, hsub⟩ ih
    subst hf; subst hσ
    refine VB.know fun hwf => ?_
    refine VB.seq ?_
    apply VB.region
    case hd => rfl
    apply WL.next
    case ho => rfl
    case hw => rfl
    case hx => exact rfl
    case hr => exact rfl
    case hm => exact rfl
    case hok => exact not_cleared hst
    intro c hc
    rcases cands_old hst hsub hc with ⟨rfl, hall⟩ | ⟨e, rfl, he, hnv⟩
    · apply WL.quiet
      case hw => rfl
      case hq => exact rfl
      apply WL.nil
      refine VB.seq ?_
      apply VB.cond
      case hc => exact rfl
      apply VB.exit
      case hx => exact rfl
      refine VB.cut [] (vE es clock vis cA cB) (by simp) rfl (vE_wf (NoBlk.of_shaped hsh) hsub) (by show 5 ≤ 7; omega) ?_ ?_
      · intro i
        rw [vE_get]
        by_cases h5 : i = 5
        · subst h5; exact .inr rfl
        · left
          show _ = (vI es clock vis cA cB).get i
          rw [vI_get, if_neg (fun h : 5 = i => h5 h.symm)]
      · exact VB.done rfl Try.func103 rfl ⟨vis, perm_of_all hnd hst.nodup hsub hall, rfl⟩
    · apply WL.quiet
      case hw => rfl
      case hq => exact rfl
      apply WL.nil
      refine VB.seq ?_
      apply VB.cond
      case hc => exact rfl
      refine VB.skip (VB.block (VB.seq ?_))
      apply VB.region
      case hd => rfl
      apply WL.write
      case hw => rfl
      case hq => exact opW_entry rfl rfl rfl (e := e) (by simp) (entry_last hst he)
      obtain ⟨a, l, g, v, hv, hk, hl⟩ := hsh e he
      rw [hk, hv]
      apply WL.quiet
      case hw => rfl
      case hq => exact rfl
      refine WL.write (r := some (.pointer (some ⟨7, 0, none⟩))) (σ' := vJ es clock vis e.born [.int .i64 0, .int .i64 0, .int .i64 0, .bool false] cA cB) rfl (by kernel_rfl) ?_
      refine WL.write (r := none) (σ' := vJ es clock vis e.born [.int .i64 a, .int .i64 l, .int .i64 g, .bool v] cA cB) rfl (by kernel_rfl) ?_
      apply WL.nil
      refine VB.seq ?_
      apply VB.regionR
      case hd => rfl
      refine WR.op rfl (by simp) ?_
      apply WL.quiet
      case hw => rfl
      case hq => exact rfl
      apply WL.nil
      refine WR.op rfl (by simp) ?_
      refine WL.quiet (v := blkV a l g v) rfl (by kernel_rfl) ?_
      apply WL.nil
      apply WR.yield
      case hrd => simp
      case ho => rfl
      case hc => rfl
      case hw => rfl
      case hx => exact rfl
      case ha => exact rfl
      case hl => exact rfl
      case hlen => rfl
      case hps => rfl
      refine code_eq hA ?_
      apply VR.region
      case hli => show 4 < 8; omega
      case hd => rfl
      refine WR.op rfl (by intro l hl; cases hl; show 4 < 8; omega) ?_
      refine WL.write (r := some (.pointer (some ⟨8, 0, none⟩))) (σ' := vK es clock vis e.born (blkC a l g v) [.int .i64 0, .int .i64 0, .int .i64 0, .bool false] .ready cA cB) rfl (by kernel_rfl) ?_
      apply WL.nil
      refine WR.op rfl (by intro l hl; cases hl; show 4 < 9; omega) ?_
      refine WL.write (r := none) (σ' := vK es clock vis e.born (blkC a l g v) (blkC a l g v) .ready cA cB) rfl (by kernel_rfl) ?_
      apply WL.nil
      apply WR.nil
      apply VR.begin
      case hl => exact rfl
      refine code_eq hB ?_
      refine VR.block ?_
      apply VR.region
      case hli => show 4 < 9; omega
      case hd => rfl
      refine WR.op rfl (by intro l hl; cases hl; show 4 < 9; omega) ?_
      apply WL.quiet
      case hw => rfl
      case hq => exact rfl
      apply WL.nil
      refine WR.op rfl (by intro l hl; cases hl; show 4 < 9; omega) ?_
      refine WL.quiet (v := blkV a l g v) rfl (by kernel_rfl) ?_
      apply WL.nil
      refine WR.op rfl (by intro l hl; cases hl; show 4 < 9; omega) ?_
      refine WL.write (r := some (.slice (some ⟨9, 0, none⟩) 1 1)) (σ' := vL es clock vis e.born (blkC a l g v) cA cB) rfl (by kernel_rfl) ?_
      apply WL.nil
      refine WR.op rfl (by intro l hl; cases hl; show 4 < 10; omega) ?_
      refine WL.write (r := some (.slice (some ⟨10, 0, none⟩) (vis.length + 1) unk)) (σ' := vM es clock vis e.born (blkC a l g v) (accV vis) cA cB) rfl (opW_append rfl rfl rfl rfl (app_step es clock vis e.born a l g v cA cB (fun x hx => hsh x (hsub x hx)) (by have := length_le_of_sub (nodup_snoc hnd hnv) (m := es) (fun x hx => by rcases List.mem_append.1 hx with hx | hx; exact hsub x hx; simp only [List.mem_singleton] at hx; subst hx; exact he); simp at this; omega))) ?_
      apply WL.nil
      refine WR.op rfl (by intro l hl; cases hl; show 4 < 11; omega) ?_
      refine WL.write (r := none) (σ' := vM es clock vis e.born (blkC a l g v) (.slice (some ⟨10, 0, none⟩) (vis.length + 1) unk) cA cB) rfl (by kernel_rfl) ?_
      apply WL.nil
      apply WR.nil
      refine VR.inBlock ?_
      apply VR.done
      case hl => exact rfl
      refine WR.op rfl (by simp) ?_
      refine WL.quiet (v := .bool false) rfl (by kernel_rfl) ?_
      apply WL.nil
      apply WR.nil
      apply VB.cond
      case hc => exact rfl
      refine VB.skip (VB.inBlock ?_)
      have hsub' : ∀ x ∈ vis ++ [e], x ∈ es := fun x hx => by
        rcases List.mem_append.1 hx with hx | hx
        · exact hsub x hx
        · simp only [List.mem_singleton] at hx; subst hx; exact he
      refine VB.renum (f' := frL [(0, .func (.yield 4) #[] #[]), (6, .pointer (some ⟨5, 0, none⟩))]) (σ' := vI es clock (vis ++ [e]) cA cB) (fun i => if i = 6 then 10 else i) (by show 5 ≤ 7; omega) (fun i hi => if_neg (by have : i < 5 := hi; omega)) ?_ ?_ (vI_wf (NoBlk.of_shaped hsh) ?_) ?_ rfl (by rw [frL_df]; simp) (ih _ _ ⟨vis ++ [e], rfl, rfl, nodup_snoc hnd hnv, ?_⟩ ?_)
      · intro i j hi hj h
        have hi7 : i < 7 := (vI_wf (NoBlk.of_shaped hsh) hsub').lt i hi
        have hj7 : j < 7 := (vI_wf (NoBlk.of_shaped hsh) hsub').lt j hj
        split at h <;> split at h <;> omega
      · intro i hi
        have hi7 : i < 7 := (vI_wf (NoBlk.of_shaped hsh) hsub').lt i hi
        exact snoc_get hsh hsub' hv i hi7
      · exact hsub'
      · intro t w ht
        have := frL_mem ht
        simp only [List.mem_cons, Prod.mk.injEq, List.not_mem_nil, or_false] at this
        rcases this with ⟨rfl, rfl⟩ | ⟨rfl, rfl⟩
        · have : ren (loc fun i => if i = 6 then 10 else i) (.func (.yield 4) #[] #[]) = .func (.yield 4) #[] #[] := by simp [renFn, loc]
          rw [this]; exact rfl
        · have : ren (loc fun i => if i = 6 then 10 else i) (.pointer (some ⟨5, 0, none⟩)) = .pointer (some ⟨5, 0, none⟩) := by simp [renA, loc]
          rw [this]; exact rfl
      · exact hsub'
      · have h1 : vis.length + 1 ≤ es.length := by
          have := length_le_of_sub (nodup_snoc hnd hnv) hsub'
          simpa using this
        show es.length - ((vis ++ [e]).map (·.born)).length < es.length - (vis.map (·.born)).length
        simp only [List.length_map, List.length_append, List.length_singleton]
        omega
  · rintro r σ' _ ⟨vis, hp, rfl⟩
    refine ⟨.ready, none, 124, 13, f0.tr, #[7], cA, cB, by show (vE es clock vis cA cB).get 4 = _; rw [vE_get]; rfl, by simp, ?_⟩
    refine vb_cast (f' := (frL [(2, .pointer (some ⟨2, 0, none⟩)), (6, .func (.func 103) #[] #[.pointer (some ⟨0, 0, none⟩)])]).mark 3) (σ' := vX es clock vis cA cB) (by kernel_rfl) (by kernel_rfl) ?_
    refine VB.inBlock ?_
    refine VB.seq ?_
    apply VB.region
    case hd => rfl
    apply WL.quiet
    case hw => rfl
    case hq => exact rfl
    apply WL.quiet
    case hw => rfl
    case hq => exact rfl
    apply WL.nil
    refine VB.of_VM (VM.retD (fn := Try.f124) (v := accV vis) ?_ ?_ Try.func124 ?_ ?_)
    · show ([3] : List Nat).Nodup
      decide
    · intro d hd
      have : d ∈ ([3] : List Nat) := hd
      simp only [List.mem_singleton] at this
      subst this
      exact rfl
    · exact rfl
    · exact ⟨vis, hp, rfl, rfl, rfl, rfl⟩
end
end Go.Proofs.Ytlnlopeodpamdaa.Hx
end

section
/-
  slices.SortFunc over blocks: what the library's own summary says, as a contract over abstract states.
-/
set_option maxRecDepth 100000
set_option linter.unusedVariables false
namespace Go.Proofs.Ytlnlopeodpamdaa.Hx
open Go AH Go.Proofs
noncomputable section
def Hs.sortIv_ren : Go.Shelf.Ren := ⟨fun | 6 => 102 | 15 => 126 | 14 => 125 | 28 => 138 | 29 => 139 | 20 => 130 | 21 => 131 | 22 => 132 | 23 => 133 | 24 => 134 | 25 => 135 | 26 => 136 | 27 => 137 | 46 => 141 | 47 => 142 | 48 => 143 | 49 => 144 | 50 => 145 | 57 => 146 | n => n, fun | 22 => 68 | 24 => 74 | 25 => 134 | 3 => 3 | 39 => 110 | 0 => 0 | 53 => 178 | 55 => 89 | 4 => 4 | 46 => 172 | 45 => 171 | 50 => 128 | 5 => 5 | 9 => 9 | 66 => 180 | 70 => 184 | 76 => 186 | 77 => 187 | n => n, fun | n => n⟩
theorem Hs.sortIv : Go.Proofs.SlLaysF0.n6 Try.prog Hs.sortIv_ren := {
  mixed := by kernel_rfl
  f6 := ⟨Try.f102.name, by decide, Try.func102.trans (congrArg some (by kernel_rfl))⟩
  f14 := ⟨Try.f125.name, by decide, Try.func125.trans (congrArg some (by kernel_rfl))⟩
  f15 := Try.func126.trans (congrArg some (by kernel_rfl))
  f20 := ⟨Try.f130.name, by decide, Try.func130.trans (congrArg some (by kernel_rfl))⟩
  f21 := ⟨Try.f131.name, by decide, Try.func131.trans (congrArg some (by kernel_rfl))⟩
  f22 := ⟨Try.f132.name, by decide, Try.func132.trans (congrArg some (by kernel_rfl))⟩
  f23 := ⟨Try.f133.name, by decide, Try.func133.trans (congrArg some (by kernel_rfl))⟩
  f24 := ⟨Try.f134.name, by decide, Try.func134.trans (congrArg some (by kernel_rfl))⟩
  f25 := ⟨Try.f135.name, by decide, Try.func135.trans (congrArg some (by kernel_rfl))⟩
  f26 := ⟨Try.f136.name, by decide, Try.func136.trans (congrArg some (by kernel_rfl))⟩
  f27 := ⟨Try.f137.name, by decide, Try.func137.trans (congrArg some (by kernel_rfl))⟩
  f28 := Try.func138.trans (congrArg some (by kernel_rfl))
  f29 := Try.func139.trans (congrArg some (by kernel_rfl))
  f46 := ⟨Try.f141.name, by decide, Try.func141.trans (congrArg some (by kernel_rfl))⟩
  f47 := Try.func142.trans (congrArg some (by kernel_rfl))
  f48 := Try.func143.trans (congrArg some (by kernel_rfl))
  f49 := ⟨Try.f144.name, by decide, Try.func144.trans (congrArg some (by kernel_rfl))⟩
  f50 := ⟨Try.f145.name, by decide, Try.func145.trans (congrArg some (by kernel_rfl))⟩
  f57 := ⟨Try.f146.name, by decide, Try.func146.trans (congrArg some (by kernel_rfl))⟩
  t0 := Try.underlying0
  a0 := Try.isAgg0
  z0 := Try.sizeOf0
  v0 := Try.zeroValue0
  t3 := Try.underlying3
  a3 := Try.isAgg3
  z3 := Try.sizeOf3
  v3 := Try.zeroValue3
  t4 := Try.underlying4
  a4 := Try.isAgg4
  z4 := Try.sizeOf4
  v4 := Try.zeroValue4
  t5 := Try.underlying5
  a5 := Try.isAgg5
  z5 := Try.sizeOf5
  v5 := Try.zeroValue5
  t9 := Try.underlying9
  a9 := Try.isAgg9
  z9 := Try.sizeOf9
  v9 := Try.zeroValue9
  t22 := Try.underlying68
  a22 := Try.isAgg68
  z22 := Try.sizeOf68
  v22 := Try.zeroValue68
  t25 := Try.underlying134
  a25 := Try.isAgg134
  z25 := Try.sizeOf134
  v25 := Try.zeroValue134
  t39 := Try.underlying110
  a39 := Try.isAgg110
  z39 := Try.sizeOf110
  v39 := Try.zeroValue110
  t45 := Try.underlying171
  a45 := Try.isAgg171
  z45 := Try.sizeOf171
  v45 := Try.zeroValue171
  t46 := Try.underlying172
  a46 := Try.isAgg172
  z46 := Try.sizeOf172
  v46 := Try.zeroValue172
  t50 := Try.underlying128
  a50 := Try.isAgg128
  z50 := Try.sizeOf128
  v50 := Try.zeroValue128
  t53 := Try.underlying178
  a53 := Try.isAgg178
  z53 := Try.sizeOf178
  v53 := Try.zeroValue178
  t55 := Try.underlying89
  a55 := Try.isAgg89
  z55 := Try.sizeOf89
  v55 := Try.zeroValue89
  t66 := Try.underlying180
  a66 := Try.isAgg180
  z66 := Try.sizeOf180
  v66 := Try.zeroValue180
  t70 := Try.underlying184
  a70 := Try.isAgg184
  z70 := Try.sizeOf184
  v70 := Try.zeroValue184
  t76 := Try.underlying186
  a76 := Try.isAgg186
  z76 := Try.sizeOf186
  v76 := Try.zeroValue186
  t77 := Try.underlying187
  a77 := Try.isAgg187
  z77 := Try.sizeOf187
  v77 := Try.zeroValue187 }
def Hs.cmpInt_ren : Go.Shelf.Ren := ⟨fun | 5 => 79 | 7 => 104 | n => n, fun | 22 => 3 | 3 => 3 | 4 => 4 | n => n, fun | n => n⟩
theorem Hs.cmpInt : Go.Proofs.SlLaysC2.n5 Try.prog Hs.cmpInt_ren := {
  mixed := by kernel_rfl
  f5 := ⟨Try.f79.name, by decide, Try.func79.trans (congrArg some (by kernel_rfl))⟩
  f7 := ⟨Try.f104.name, by decide, Try.func104.trans (congrArg some (by kernel_rfl))⟩
  t3 := Try.underlying3
  a3 := Try.isAgg3
  z3 := Try.sizeOf3
  v3 := Try.zeroValue3
  t4 := Try.underlying4
  a4 := Try.isAgg4
  z4 := Try.sizeOf4
  v4 := Try.zeroValue4
  t22 := Try.underlying3
  a22 := Try.isAgg3
  z22 := Try.sizeOf3
  v22 := Try.zeroValue3 }

/-- A block: where, how long, how often, whether taken. -/
abbrev BV := Int × Int × Int × Bool
def encB (x : BV) : List Value := blkC x.1 x.2.1 x.2.2.1 x.2.2.2
def encs (l : List BV) : List Value := l.flatMap encB
def byAt (x y : BV) : Int := Lib.compareInt x.1 y.1

theorem lt_byAt (x y : BV) : ltOf byAt x y = decide (x.1 < y.1) := by
  unfold ltOf byAt Lib.compareInt
  by_cases h1 : x.1 < y.1
  · simp [h1]
  · by_cases h2 : y.1 < x.1 <;> simp [h1, h2]
theorem swo_byAt : Sort.SWO (ltOf byAt) where
  irrefl x := by rw [lt_byAt]; simp
  trans x y z h1 h2 := by rw [lt_byAt] at *; simp at *; omega
  ntrans x y z h1 h2 := by rw [lt_byAt] at *; simp at *; omega

set_option maxHeartbeats 1000000 in
theorem closure78 (x y : BV) (W : World) : Calls Try.prog 78 #[.agg (encB x).toArray, .agg (encB y).toArray] W fun e w' => e = .returned (.int .i64 (byAt x y)) ∧ ∃ q os', w' = Sort.grow (W.drewN q) os' := by
  have hcon := fun W' => AnyG.cmp_Compare_int Hs.cmpInt x.1 y.1 W'
  change ∀ W', Calls Try.prog 79 _ _ _ at hcon
  unfold byAt encB blkC
  generalize Lib.compareInt x.1 y.1 = r at hcon ⊢
  go_enter Try.func78, Try.ntmps78
  go_wp2_with (go_at_call 79; refine (hcon _).mono ?_; rintro e w' ⟨rfl, rfl⟩)
  go_ret
  exact ⟨rfl, 0, _, by rw [Sort.alloc_eq_grow, Sort.alloc_eq_grow, Sort.grow_grow]; rfl⟩

theorem encs_length (l : List BV) : (encs l).length = l.length * 4 := by
  induction l with
  | nil => rfl
  | cons x r ih =>
    have : (encs (x :: r)) = encB x ++ encs r := rfl
    rw [this, List.length_append, ih]
    simp [encB, blkC]
    omega
theorem encs_get (l : List BV) (t : Nat) (h : t < l.length * 4) : (encs l)[t]! = (encB l[t / 4]!)[t % 4]! := by
  induction l generalizing t with
  | nil => simp at h
  | cons x r ih =>
    have e : (encs (x :: r)) = encB x ++ encs r := rfl
    have hx : (encB x).length = 4 := rfl
    by_cases h4 : t < 4
    · have h0 : t / 4 = 0 := by omega
      have h1 : t % 4 = t := by omega
      rw [h0, h1, e]
      simp only [List.getElem!_eq_getElem?_getD, List.getElem?_cons_zero, Option.getD_some]
      rw [List.getElem?_append_left (by omega)]
    · have h0 : t / 4 = (t - 4) / 4 + 1 := by omega
      have h1 : t % 4 = (t - 4) % 4 := by omega
      have := ih (t - 4) (by simp at h; omega)
      rw [h0, h1, e]
      simp only [List.getElem!_eq_getElem?_getD, List.getElem?_cons_succ] at this ⊢
      rw [List.getElem?_append_right (by omega), hx, this]
theorem flat_encs (l : List BV) : Sort.flatK encB 4 l.toArray = (encs l).toArray := by
  refine Sort.ext_get! (by simp [encs_length]) fun t ht => ?_
  have ht' : t < l.length * 4 := by simpa using ht
  rw [Sort.get_flatK _ _ _ _ (by simpa using ht')]
  have := encs_get l t ht'
  simpa using this.symm
theorem encs_closed (l : List BV) (ρ : Nat → AH.Loc) : (encs l).map (ren ρ) = encs l := by
  have := List.map_congr_left (f := ren ρ) (g := id) (l := encs l) fun v hv => by
    obtain ⟨e, he, hv⟩ := List.mem_flatMap.1 hv
    simp [encB, blkC] at hv
    rcases hv with rfl | rfl | rfl | rfl <;> simp
  rw [this, List.map_id]
theorem encs_sc (l : List BV) (n : Nat) : Scs n (encs l) := fun v hv => by
  obtain ⟨e, he, hv⟩ := List.mem_flatMap.1 hv
  simp [encB, blkC] at hv
  rcases hv with rfl | rfl | rfl | rfl <;> first | exact Sc_int _ _ _ | exact Sc_bool _ _

theorem Evo.grow {ρ : Nat → AH.Loc} {σ : St} {w : World} (h : Rel ρ σ w) (os : Array Obj) : Evo ρ σ w ρ σ (Sort.grow w os) := by
  obtain ⟨l⟩ := os
  induction l generalizing w with
  | nil => rw [Sort.grow_empty]; exact Evo.refl h
  | cons o r ih =>
    have e1 := Evo.more h o
    have e2 := ih e1.rel
    have : Sort.grow (w.alloc o) ⟨r⟩ = Sort.grow w ⟨o :: r⟩ := by
      rw [Sort.alloc_eq_grow, Sort.grow_grow]
      congr 1
      apply Array.ext'
      simp
    rw [this] at e2
    exact e1.trans e2

theorem sorted_unique_perm {l l' : List BV} (h : l'.Perm l) : l'.length = l.length := h.length_eq

/-- slices.SortFunc by where blocks begin. -/
theorem sortFunc (σ : St) (i : Nat) (l : List BV) (c : Nat) (hi : σ.get i = .row 74 4 (encs l)) (hl : l.length < 4611686018427387904) :
    WF M.toEnv 102 [.slice (some ⟨i, 0, none⟩) l.length c, .func (.func 78) #[] #[]] σ (fun r σ' => r = .tuple #[] ∧ ∃ l' : List BV, l'.Perm l ∧ l'.Pairwise (fun x y => x.1 ≤ y.1) ∧ σ' = σ.set i (.row 74 4 (encs l'))) := by
  refine ⟨⟨Try.f102, Try.func102, rfl, rfl⟩, fun ρ w hR hs => ?_⟩
  have hb := hR.blk i
  rw [hi] at hb
  obtain ⟨ho, fz, ex, hfz, hlen, hheap⟩ := hb
  have hblk : (ρ i).b < w.heap.size := heap_lt hheap
  rw [encs_closed] at hheap
  have hcs : (encs l).length ≤ (ρ i).C * 4 := by omega
  have hH : Sort.HoldsK encB 4 w (ρ i).b 0 l.toArray := by
    unfold Sort.HoldsK
    rw [flat_encs]
    intro j hj
    have hj' : j < (encs l).length := by simpa using hj
    refine ⟨?_, frozen_false hheap hfz (by omega)⟩
    simp only [World.cell?, hheap]
    simp [hj', List.getElem?_append_left hj']
  have eg : ∀ args w, (callFunc 78 args).run Try.prog w = .ok (.enter 78 args) w := enters_of Try.func78 (by kernel_rfl) rfl
  have hcon := AnyQ.slices_SortFunc Hs.sortIv 4 Try.isAgg74 Try.sizeOf74 encB (fun _ => rfl) (fun x v hv => by simp [encB, blkC] at hv; rcases hv with rfl | rfl | rfl | rfl <;> rfl) byAt swo_byAt 78 #[] (ρ i).b 0 (renC (ρ i).C c) l.toArray w eg (fun _ _ _ _ x y => closure78 x y _) hH hblk (by simpa using hl)
  change Calls Try.prog 102 _ _ _ at hcon
  have hargs : (([.slice (some ⟨i, 0, none⟩) l.length c, .func (.func 78) #[] #[]] : List Value).map (ren ρ)).toArray = #[.slice (some ⟨(ρ i).b, 0, none⟩) l.toArray.size (renC (ρ i).C c), .func (.func 78) #[] #[]] := by
    simp [renA, renFn, ho]
  rw [hargs]
  refine hcon.mono fun e w' ⟨he, d', n, os, hperm, hsort, hw⟩ => ?_
  subst hw
  obtain ⟨l'⟩ := d'
  have hsz : l'.length = l.length := by have := hperm.1; simpa using this
  have hp : l'.Perm l := by
    have := hperm.2.2
    simp at this
    rwa [← hsz, List.take_length] at this
  have hso : l'.Pairwise (fun x y => x.1 ≤ y.1) := by
    rw [List.pairwise_iff_getElem]
    intro a b ha hb hab
    have := hsort a b (Nat.zero_le _) hab (by simpa [hsz] using hb)
    rw [lt_byAt] at this
    have h1 : (⟨l'⟩ : Array BV)[a]! = l'[a] := by simp [ha]
    have h2 : (⟨l'⟩ : Array BV)[b]! = l'[b] := by simp [hb]
    rw [h1, h2] at this
    simp at this
    omega
  have hput : (Sort.putRowK encB 4 (Sort.ahead w n) (ρ i).b 0 ⟨l'⟩).heap[(ρ i).b]? = some (.cells (encs l' ++ ex).toArray 74 fz) := by
    unfold Sort.putRowK Sort.putRow Sort.mapBlock
    show (w.heap.modify (ρ i).b _)[(ρ i).b]? = _
    rw [Array.getElem?_modify, if_pos rfl, hheap]
    show some (Sort.onCells _ _) = _
    unfold Sort.onCells
    have hflat : Sort.flatK encB 4 ⟨l'⟩ = (encs l').toArray := flat_encs l'
    rw [hflat]
    simp only [Option.some.injEq, Obj.cells.injEq, and_true]
    have hl1 := encs_length l
    have hl2 := encs_length l'
    unfold Sort.putCells
    apply Array.ext_getElem?
    intro k
    simp only [Array.getElem?_mapIdx, List.getElem?_toArray, List.size_toArray, Nat.zero_add, Nat.sub_zero, Nat.zero_le, true_and, id]
    by_cases hk : k < (encs l').length
    · have hk' : k < (encs l).length := by omega
      rw [List.getElem?_append_left hk', List.getElem?_append_left hk, List.getElem?_eq_getElem hk']
      simp [hk]
    · rw [List.getElem?_append_right (by omega), List.getElem?_append_right (by omega)]
      have : (encs l).length = (encs l').length := by omega
      rw [this]
      cases ex[k - (encs l').length]? with
      | none => rfl
      | some v => simp [hk]
  have ev1 : Evo ρ σ w ρ (σ.set i (.row 74 4 (encs l'))) (Sort.putRowK encB 4 (Sort.ahead w n) (ρ i).b 0 ⟨l'⟩) := by
    refine Evo.write hR (i := i) (by rw [hi]; rfl) ⟨by simp [Sort.putRowK, Sort.putRow, Sort.mapBlock, Sort.ahead], rfl, rfl, rfl, fun j hj => ?_⟩ ⟨ho, fz, ex, hfz, ?_, ?_⟩ (encs_sc _ _)
    · show (w.heap.modify (ρ i).b _)[j]? = _
      rw [Array.getElem?_modify, if_neg (Ne.symm hj)]
    · rw [encs_length, hsz, ← encs_length]; exact hlen
    · rw [encs_closed]; exact hput
  refine ⟨.tuple #[], he, .tuple #[], _, ρ, by simp, ev1.trans (Evo.grow ev1.rel os), Sc_tuple.2 (fun v hv => by simp at hv), rfl, l', hp, hso, rfl⟩
end
end Go.Proofs.Ytlnlopeodpamdaa.Hx
end

section
/-
  heap.Blocks: all blocks that are taken, rising, whatever order the map has.
-/
set_option maxRecDepth 100000
set_option linter.unusedVariables false
namespace Go.Proofs.Ytlnlopeodpamdaa.Hx
open Go AH Go.Proofs
noncomputable section

/-- An entry's block. -/
def bvOf (e : MapEntry) : BV := match e.val with
  | .agg cs => (match cs.toList with
    | [.int _ a, .int _ l, .int _ g, .bool v] => (a, l, g, v)
    | _ => (0, 0, 0, false))
  | _ => (0, 0, 0, false)
theorem vals_encs {l : List MapEntry} (h : Shaped1 l) : valsOf l = encs (l.map bvOf) := by
  induction l with
  | nil => rfl
  | cons x r ih =>
    obtain ⟨a, n, g, v, hv, _⟩ := h x (by simp)
    have := ih fun e he => h e (by simp [he])
    have e1 : valsOf (x :: r) = x.val.cells.toList ++ valsOf r := rfl
    have e2 : encs ((x :: r).map bvOf) = encB (bvOf x) ++ encs (r.map bvOf) := rfl
    rw [e1, e2, this]
    have : x.val.cells.toList = encB (bvOf x) := by
      unfold bvOf
      rw [hv]
      rfl
    rw [this]

/-- What AppendSeq leaves. -/
theorem collectN (es : List MapEntry) (clock : Nat) (hst : Stamped es clock) (hsh : Shaped1 es) (hlen : es.length ≤ 1048576) :
    WF M.toEnv 124 [.slice none 0 0, .func (.func 103) #[] #[.pointer (some ⟨0, 0, none⟩)]] (seq0 es clock) (fun r σ' => ∃ vis : List MapEntry, vis.Perm es ∧ ((vis = [] ∧ r = .slice none 0 0 ∧ σ' = seq0 es clock) ∨ (vis ≠ [] ∧ r = .slice (some ⟨2, 0, none⟩) vis.length unk ∧ σ' = (seq0 es clock).push (.row 74 4 (valsOf vis))))) := by
  refine (collect es clock hst hsh hlen).renum fun r σ' hn ⟨vis, hp, hr, h0, h1, h6⟩ => ?_
  have hsv : Shaped1 vis := fun e he => hsh e (hp.subset he)
  have hn2 : 2 ≤ σ'.next := hn
  have hg0 : (seq0 es clock).get 0 = .cells 80 [.map (some 1)] := rfl
  have hg1 : (seq0 es clock).get 1 = .map es clock := rfl
  have hgg : ∀ i, (seq0 es clock).get i = if 1 = i then .map es clock else if 0 = i then .cells 80 [.map (some 1)] else .dead := fun i => by
    simp only [seq0, St.get_set]
    rfl
  have hcl : ∀ ρ : Nat → AH.Loc, renB ρ (.map es clock) = .map es clock := fun ρ => by rw [renB, hsh.map_eq]
  cases vis with
  | nil =>
    refine ⟨.slice none 0 0, seq0 es clock, id, ⟨fun i _ => rfl, fun i j _ _ h => h, fun i hi => ?_, fun i => ?_, fun i hi => ?_, Nat.le_refl _⟩, by rw [hr]; simp [accV], Sc_nilslice _ _ _, [], hp, .inl ⟨rfl, rfl, rfl⟩⟩
    · rw [hgg] at hi ⊢
      by_cases e1 : 1 = i
      · subst e1; rw [if_pos rfl, hcl]; exact h1
      · rw [if_neg e1] at hi ⊢
        by_cases e0 : 0 = i
        · subst e0; rw [if_pos rfl]; exact h0.trans (by simp [renB, loc])
        · rw [if_neg e0] at hi; cases hi
    · rw [hgg]
      split
      · exact fun e he => ⟨((NoBlk.of_shaped hsh e he).1).mono (Nat.zero_le _), ((NoBlk.of_shaped hsh e he).2).mono (Nat.zero_le _)⟩
      split
      · intro v hv
        simp only [List.mem_singleton] at hv
        subst hv
        exact Sc_map (by show 1 < 2; omega)
      · trivial
    · rw [hgg] at hi
      show i < 2
      by_cases h : i < 2
      · exact h
      · rw [if_neg (by omega), if_neg (by omega)] at hi; cases hi
  | cons x t =>
    have hgp : ∀ i, ((seq0 es clock).push (.row 74 4 (valsOf (x :: t)))).get i = if 2 = i then .row 74 4 (valsOf (x :: t)) else (seq0 es clock).get i := fun i => St.get_push _ _ _
    refine ⟨.slice (some ⟨2, 0, none⟩) (x :: t).length unk, (seq0 es clock).push (.row 74 4 (valsOf (x :: t))), fun i => if i = 2 then 6 else i, ⟨fun i hi => if_neg (by have : i < 2 := hi; omega), fun i j hi hj h => ?_, fun i hi => ?_, fun i => ?_, fun i hi => ?_, by show 2 ≤ 3; omega⟩, ?_, Sc_slice (by show 2 < 3; omega), x :: t, hp, .inr ⟨by simp, rfl, rfl⟩⟩
    · rw [hgp] at hi hj
      by_cases hi3 : i < 3
      · by_cases hj3 : j < 3
        · split at h <;> split at h <;> omega
        · rw [if_neg (by omega), hgg, if_neg (by omega), if_neg (by omega)] at hj; cases hj
      · rw [if_neg (by omega), hgg, if_neg (by omega), if_neg (by omega)] at hi; cases hi
    · rw [hgp] at hi ⊢
      by_cases e2 : 2 = i
      · subst e2
        rw [if_pos rfl, if_pos rfl, h6]
        show rowV (x :: t) = _
        rw [renB, vals_map hsv]
        rfl
      · rw [if_neg e2] at hi ⊢
        rw [if_neg (fun h => e2 h.symm)]
        rw [hgg] at hi ⊢
        by_cases e1 : 1 = i
        · subst e1; rw [if_pos rfl, hcl]; exact h1
        · rw [if_neg e1] at hi ⊢
          by_cases e0 : 0 = i
          · subst e0; rw [if_pos rfl]; exact h0.trans (by simp [renB, loc])
          · rw [if_neg e0] at hi; cases hi
    · rw [hgp]
      split
      · exact vals_sc (NoBlk.of_shaped hsv) _
      rw [hgg]
      split
      · exact fun e he => ⟨((NoBlk.of_shaped hsh e he).1).mono (Nat.zero_le _), ((NoBlk.of_shaped hsh e he).2).mono (Nat.zero_le _)⟩
      split
      · intro v hv
        simp only [List.mem_singleton] at hv
        subst hv
        exact Sc_map (by show 1 < 3; omega)
      · trivial
    · rw [hgp] at hi
      show i < 3
      by_cases h : i < 3
      · exact h
      · rw [if_neg (by omega), hgg, if_neg (by omega), if_neg (by omega)] at hi; cases hi
    · rw [hr]
      show Value.slice (some ⟨6, 0, none⟩) (x :: t).length unk = _
      rw [ren_slice]
      exact rfl

/-- The same in any state. -/
theorem collectG (σ : St) (b m : Nat) (es : List MapEntry) (clock : Nat) (hb : σ.get b = .cells 80 [.map (some m)]) (hm : σ.get m = .map es clock) (hst : Stamped es clock) (hsh : Shaped1 es) (hlen : es.length ≤ 1048576) :
    WF M.toEnv 124 [.slice none 0 0, .func (.func 103) #[] #[.pointer (some ⟨b, 0, none⟩)]] σ (fun r σ' => ∃ vis : List MapEntry, vis.Perm es ∧ ((vis = [] ∧ r = .slice none 0 0 ∧ σ' = σ) ∨ (vis ≠ [] ∧ r = .slice (some ⟨σ.next, 0, none⟩) vis.length unk ∧ σ' = σ.push (.row 74 4 (valsOf vis))))) := by
  refine WF.know (collectN es clock hst hsh hlen).1 fun hout hsc => ?_
  have hgg : ∀ i, (seq0 es clock).get i = if 1 = i then .map es clock else if 0 = i then .cells 80 [.map (some 1)] else .dead := fun i => by
    simp only [seq0, St.get_set]
    rfl
  have hbm : b ≠ m := fun e => by rw [e, hm] at hb; cases hb
  have hlive : ∀ i, ((seq0 es clock).get i).live = true → i = 0 ∨ i = 1 := fun i hi => by
    rw [hgg] at hi
    split at hi
    · omega
    split at hi
    · omega
    · cases hi
  have hs : Small (fun i => if i = 0 then b else m) (seq0 es clock) σ := by
    refine ⟨fun i hi => ?_, fun i j hi hj h => ?_, fun i hi => ?_, fun i => ?_, fun i hi => ?_⟩
    · split
      · exact hout b (by rw [hb]; rfl)
      · exact hout m (by rw [hm]; rfl)
    · rcases hlive i hi with rfl | rfl <;> rcases hlive j hj with rfl | rfl
      · rfl
      · exact absurd h hbm
      · exact absurd h.symm hbm
      · rfl
    · rcases hlive i hi with rfl | rfl
      · show σ.get b = _
        rw [hb, hgg]
        simp [renB, loc]
      · show σ.get m = _
        rw [hm, hgg, if_pos rfl, renB, hsh.map_eq]
    · rw [hgg]
      split
      · exact fun e he => ⟨((NoBlk.of_shaped hsh e he).1).mono (Nat.zero_le _), ((NoBlk.of_shaped hsh e he).2).mono (Nat.zero_le _)⟩
      split
      · intro v hv
        simp only [List.mem_singleton] at hv
        subst hv
        exact Sc_map (by show 1 < 2; omega)
      · trivial
    · rcases hlive i hi with rfl | rfl
      · show 0 < 2; omega
      · show 1 < 2; omega
  have hargs : ([.slice none 0 0, .func (.func 103) #[] #[.pointer (some ⟨0, 0, none⟩)]] : List Value).map (ren (loc fun i => if i = 0 then b else m)) = [.slice none 0 0, .func (.func 103) #[] #[.pointer (some ⟨b, 0, none⟩)]] := by
    simp [renA, renFn, loc]
  rw [← hargs]
  refine WF.frame hs (fun v hv => ?_) (collectN es clock hst hsh hlen) fun r σ₀' _ ⟨vis, hp, hcase⟩ => ?_
  · simp only [List.mem_cons, List.not_mem_nil, or_false] at hv
    rcases hv with rfl | rfl
    · exact Sc_nilslice _ _ _
    · exact Sc_func.2 ⟨trivial, fun v hv => by simp at hv, fun v hv => by simp at hv; subst hv; exact Sc_ptr (by show 0 < 2; omega)⟩
  · have hsv : Shaped1 vis := fun e he => hsh e (hp.subset he)
    rcases hcase with ⟨h1, rfl, rfl⟩ | ⟨h1, rfl, rfl⟩
    · exact ⟨σ, Big.same hs hout, vis, hp, .inl ⟨h1, by simp, rfl⟩⟩
    · refine ⟨_, Big.push hs hout _, vis, hp, .inr ⟨h1, ?_, ?_⟩⟩
      · rw [ren_slice]
        have : exN (fun i => if i = 0 then b else m) (seq0 es clock).next σ.next 2 = σ.next := by
          show exN _ 2 σ.next 2 = _
          exact exN_new
        simp only [renA, loc, this]
        rfl
      · rw [renB, vals_map hsv]

def hpB (first words bad : Int) (vg vw : Value) (es : List MapEntry) (clock : Nat) : St :=
  (⟨6, .leaf⟩ : St) |>.set 0 (.cells 83 [.pointer (some ⟨2, 0, none⟩), .int .i64 first, .int .i64 words, .map (some 1), vg, vw, .int .i64 bad]) |>.set 1 (.map es clock) |>.set 5 (.cells 80 [.map (some 1)])
theorem collect101 (first words bad : Int) (vg vw : Value) (es : List MapEntry) (clock : Nat) (hst : Stamped es clock) (hsh : Shaped1 es) (hlen : es.length ≤ 1048576) :
    WF M.toEnv 101 [.func (.func 103) #[] #[.pointer (some ⟨5, 0, none⟩)]] (hpB first words bad vg vw es clock) (fun r σ' => ∃ vis : List MapEntry, vis.Perm es ∧ ((vis = [] ∧ r = .slice none 0 0 ∧ σ' = hpB first words bad vg vw es clock) ∨ (vis ≠ [] ∧ r = .slice (some ⟨6, 0, none⟩) vis.length unk ∧ σ' = (hpB first words bad vg vw es clock).push (.row 74 4 (valsOf vis))))) := by
  refine WF.of_VB (fn := Try.f101) Try.func101 rfl rfl (by decide) ?_
  refine VB.seq ?_
  apply VB.region
  case hd => rfl
  apply WL.quiet
  case hw => rfl
  case hq => exact rfl
  apply WL.nil
  refine VB.seq ?_
  apply VB.region
  case hd => rfl
  apply WL.quiet
  case hw => rfl
  case hq => exact rfl
  apply WL.call
  case ho => rfl
  case hw => rfl
  case hc => exact rfl
  refine (collectG (hpB first words bad vg vw es clock) 5 1 es clock rfl rfl hst hsh hlen).mono fun r σ' _ ⟨vis, hp, hcase⟩ => ?_
  apply WL.quiet
  case hw => rfl
  case hq => exact rfl
  apply WL.nil
  exact VB.ret (v := r) rfl Try.func101 rfl ⟨vis, hp, hcase⟩
def hpBR (first words bad : Int) (vg vw : Value) (es : List MapEntry) (clock : Nat) (l : List BV) : St :=
  (⟨7, .leaf⟩ : St) |>.set 0 (.cells 83 [.pointer (some ⟨2, 0, none⟩), .int .i64 first, .int .i64 words, .map (some 1), vg, vw, .int .i64 bad]) |>.set 1 (.map es clock) |>.set 5 (.cells 80 [.map (some 1)]) |>.set 6 (.row 74 4 (encs l))
theorem sorted76 (first words bad : Int) (vg vw : Value) (es : List MapEntry) (clock : Nat) (hst : Stamped es clock) (hsh : Shaped1 es) (hlen : es.length ≤ 1048576) :
    WF M.toEnv 76 [.func (.func 103) #[] #[.pointer (some ⟨5, 0, none⟩)], .func (.func 78) #[] #[]] (hpB first words bad vg vw es clock) (fun r σ' => ∃ l : List BV, l.Perm (es.map bvOf) ∧ l.Pairwise (fun x y => x.1 ≤ y.1) ∧ ((l = [] ∧ r = .slice none 0 0 ∧ ∀ i, i < 6 → σ'.get i = (hpB first words bad vg vw es clock).get i) ∨ (l ≠ [] ∧ r = .slice (some ⟨6, 0, none⟩) l.length unk ∧ σ' = (hpBR first words bad vg vw es clock l)))) := by
  refine WF.of_VB (fn := Try.f76) Try.func76 rfl rfl (by decide) ?_
  refine VB.seq ?_
  apply VB.region
  case hd => rfl
  apply WL.quiet
  case hw => rfl
  case hq => exact rfl
  apply WL.nil
  refine VB.seq ?_
  apply VB.region
  case hd => rfl
  apply WL.quiet
  case hw => rfl
  case hq => exact rfl
  apply WL.call
  case ho => rfl
  case hw => rfl
  case hc => exact rfl
  refine (collect101 first words bad vg vw es clock hst hsh hlen).mono fun r σ' _ ⟨vis, hp, hcase⟩ => ?_
  have hsv : Shaped1 vis := fun e he => hsh e (hp.subset he)
  apply WL.quiet
  case hw => rfl
  case hq => exact rfl
  apply WL.nil
  refine VB.seq ?_
  apply VB.region
  case hd => rfl
  apply WL.quiet
  case hw => rfl
  case hq => exact rfl
  apply WL.quiet
  case hw => rfl
  case hq => exact rfl
  apply WL.call
  case ho => rfl
  case hw => rfl
  case hc => exact rfl
  rcases hcase with ⟨h1, rfl, rfl⟩ | ⟨h1, rfl, rfl⟩
  · subst h1
    have he : es = [] := hp.symm.eq_nil
    subst he
    refine ((ev2_sound (noOrc_ok M) 1000 20) _ _ _ (.tuple #[]) (hpB first words bad vg vw [] clock) (by kernel_rfl)).mono fun r σ' _ ⟨e1, e2⟩ => ?_
    subst e1; subst e2
    apply WL.nil
    refine VB.seq ?_
    apply VB.region
    case hd => rfl
    apply WL.quiet
    case hw => rfl
    case hq => exact rfl
    apply WL.quiet
    case hw => rfl
    case hq => exact rfl
    apply WL.nil
    exact VB.ret (v := .slice none 0 0) rfl Try.func76 rfl ⟨[], by simp, List.Pairwise.nil, .inl ⟨rfl, rfl, fun i _ => rfl⟩⟩
  · have hlv : (vis.map bvOf).length = vis.length := by simp
    rw [vals_encs hsv, ← hlv]
    have hle := hp.length_eq
    refine (sortFunc ((hpB first words bad vg vw es clock).push (.row 74 4 (encs (vis.map bvOf)))) 6 (vis.map bvOf) unk (by rw [St.get_push]; exact if_pos rfl) (by simp; omega)).mono fun r σ' _ ⟨e1, l, hpl, hso, e2⟩ => ?_
    subst e1; subst e2
    apply WL.nil
    refine VB.seq ?_
    apply VB.region
    case hd => rfl
    apply WL.quiet
    case hw => rfl
    case hq => exact rfl
    apply WL.quiet
    case hw => rfl
    case hq => exact rfl
    apply WL.nil
    refine VB.ret (v := .slice (some ⟨6, 0, none⟩) (vis.map bvOf).length unk) rfl Try.func76 rfl ⟨l, hpl.trans (hp.map bvOf), hso, .inr ⟨?_, ?_, ?_⟩⟩
    · intro e; subst e
      have := hpl.length_eq
      have h2 : vis.length ≠ 0 := fun h => h1 (List.length_eq_zero_iff.1 h)
      simp at this
      exact h2 this.symm
    · rw [hpl.length_eq]
    · kernel_rfl

theorem hpB_get (first words bad : Int) (vg vw : Value) (es : List MapEntry) (clock : Nat) (i : Nat) (hi : i < 5) : (hpB first words bad vg vw es clock).get i = (hp first words bad vg vw es clock).get i := by
  simp only [hpB, hp, St.get_set]
  rw [if_neg (by omega)]
  rfl
theorem hpBR_get (first words bad : Int) (vg vw : Value) (es : List MapEntry) (clock : Nat) (l : List BV) (i : Nat) (hi : i < 5) : (hpBR first words bad vg vw es clock l).get i = (hp first words bad vg vw es clock).get i := by
  simp only [hpBR, hp, St.get_set]
  rw [if_neg (by omega), if_neg (by omega)]
  rfl
/-- heap.Blocks, as it leaves its state. -/
theorem blocks_raw (first words bad : Int) (vg vw : Value) (es : List MapEntry) (clock : Nat) (hst : Stamped es clock) (hsh : Shaped1 es) (hlen : es.length ≤ 1048576) :
    WF M.toEnv 35 [.pointer (some ⟨0, 0, none⟩)] (hp first words bad vg vw es clock) (fun r σ' => ∃ l : List BV, l.Perm (es.map bvOf) ∧ l.Pairwise (fun x y => x.1 ≤ y.1) ∧ ((l = [] ∧ r = .slice none 0 0 ∧ ∀ i, i < 5 → σ'.get i = (hp first words bad vg vw es clock).get i) ∨ (l ≠ [] ∧ r = .slice (some ⟨6, 0, none⟩) l.length unk ∧ σ' = (hpBR first words bad vg vw es clock l)))) := by
  refine WF.of_VB (fn := Try.f35) Try.func35 rfl rfl (by decide) ?_
  refine VB.seq ?_
  apply VB.region
  case hd => rfl
  apply WL.quiet
  case hw => rfl
  case hq => exact rfl
  apply WL.nil
  refine VB.seq (VB.seq ?_)
  apply VB.region
  case hd => rfl
  apply WL.quiet
  case hw => rfl
  case hq => exact rfl
  apply WL.call
  case ho => rfl
  case hw => rfl
  case hc => exact rfl
  refine ((ev2_sound (noOrc_ok M) 1000 20) _ _ _ (.bool false) (hp first words bad vg vw es clock) (by kernel_rfl)).mono fun r σ' _ ⟨e1, e2⟩ => ?_
  subst e1; subst e2
  apply WL.nil
  apply VB.cond
  case hc => exact rfl
  refine VB.skip ?_
  refine VB.seq ?_
  apply VB.region
  case hd => rfl
  iterate 4
    apply WL.quiet
    case hw => rfl
    case hq => exact rfl
  apply WL.call
  case ho => rfl
  case hw => rfl
  case hc => exact rfl
  refine ((ev2_sound (noOrc_ok M) 1000 20) _ _ _ (.func (.func 103) #[] #[.pointer (some ⟨5, 0, none⟩)]) (hpB first words bad vg vw es clock) (by kernel_rfl)).mono fun r σ' _ ⟨e1, e2⟩ => ?_
  subst e1; subst e2
  apply WL.call
  case ho => rfl
  case hw => rfl
  case hc => exact rfl
  refine (sorted76 first words bad vg vw es clock hst hsh hlen).mono fun r σ' _ ⟨l, hp1, hso, hcase⟩ => ?_
  apply WL.quiet
  case hw => rfl
  case hq => exact rfl
  apply WL.nil
  refine VB.ret (v := r) rfl Try.func35 rfl ⟨l, hp1, hso, ?_⟩
  rcases hcase with ⟨h1, h2, h3⟩ | ⟨h1, h2, h3⟩
  · exact .inl ⟨h1, h2, fun i hi => by rw [h3 i (by omega), hpB_get _ _ _ _ _ _ _ _ hi]⟩
  · exact .inr ⟨h1, h2, h3⟩

theorem hp_get (first words bad : Int) (vg vw : Value) (es : List MapEntry) (clock : Nat) (i : Nat) : (hp first words bad vg vw es clock).get i = if 1 = i then .map es clock else if 0 = i then .cells 83 [.pointer (some ⟨2, 0, none⟩), .int .i64 first, .int .i64 words, .map (some 1), vg, vw, .int .i64 bad] else .dead := by
  simp only [hp, St.get_set]
  rfl

/-- A value that the first five numbers, as they are, leave as it is. -/
def Fix5 (v : Value) : Prop := Sc 5 v ∧ ∀ ρ : Nat → AH.Loc, (∀ i, i < 5 → ρ i = ⟨i, 0, unk⟩) → ren ρ v = v
theorem hp_live {first words bad : Int} {vg vw : Value} {es : List MapEntry} {clock i : Nat} (hi : ((hp first words bad vg vw es clock).get i).live = true) : i < 2 := by
  rw [hp_get] at hi
  split at hi
  · omega
  split at hi
  · omega
  · cases hi
theorem hp_sc (first words bad : Int) {vg vw : Value} {es : List MapEntry} (clock : Nat) (hg : Sc 5 vg) (hw : Sc 5 vw) (hsh : Shaped1 es) (i : Nat) {k : Nat} (hk : 5 ≤ k) : ((hp first words bad vg vw es clock).get i).sc k := by
  rw [hp_get]
  split
  · exact fun e he => ⟨((NoBlk.of_shaped hsh e he).1).mono (Nat.zero_le _), ((NoBlk.of_shaped hsh e he).2).mono (Nat.zero_le _)⟩
  split
  · intro v hv
    simp only [List.mem_cons, List.not_mem_nil, or_false] at hv
    rcases hv with e | e | e | e | e | e | e
    · rw [e]; exact Sc_ptr (by show 2 < k; omega)
    · rw [e]; exact Sc_int _ _ _
    · rw [e]; exact Sc_int _ _ _
    · rw [e]; exact Sc_map (by omega)
    · rw [e]; exact hg.mono hk
    · rw [e]; exact hw.mono hk
    · rw [e]; exact Sc_int _ _ _
  · trivial
theorem hp_fix {first words bad : Int} {vg vw : Value} {es : List MapEntry} {clock : Nat} (hg : Fix5 vg) (hw : Fix5 vw) (hsh : Shaped1 es) (π : Nat → Nat) (hπ : ∀ j, j < 5 → π j = j) (i : Nat) : renB (loc π) ((hp first words bad vg vw es clock).get i) = (hp first words bad vg vw es clock).get i := by
  have hρ : ∀ i, i < 5 → loc π i = ⟨i, 0, unk⟩ := fun i hi => by simp [loc, hπ i hi]
  rw [hp_get]
  split
  · rw [renB, hsh.map_eq]
  split
  · simp only [renB, List.map_cons, List.map_nil, ren_ptr, ren_int, ren_map, renA, hρ 2 (by omega), hρ 1 (by omega), hg.2 _ hρ, hw.2 _ hρ]
  · rfl
/-- The same, under small numbers. -/
theorem blocks_small (first words bad : Int) (vg vw : Value) (es : List MapEntry) (clock : Nat) (hg : Fix5 vg) (hw : Fix5 vw) (hst : Stamped es clock) (hsh : Shaped1 es) (hlen : es.length ≤ 1048576) :
    WF M.toEnv 35 [.pointer (some ⟨0, 0, none⟩)] (hp first words bad vg vw es clock) (fun r σ' => ∃ l : List BV, l.Perm (es.map bvOf) ∧ l.Pairwise (fun x y => x.1 ≤ y.1) ∧ ((l = [] ∧ r = .slice none 0 0 ∧ σ' = hp first words bad vg vw es clock) ∨ (l ≠ [] ∧ r = .slice (some ⟨5, 0, none⟩) l.length unk ∧ σ' = (hp first words bad vg vw es clock).push (.row 74 4 (encs l))))) := by
  refine (blocks_raw first words bad vg vw es clock hst hsh hlen).renum fun r σ' hn ⟨l, hp1, hso, hcase⟩ => ?_
  have hn5 : 5 ≤ σ'.next := hn
  rcases hcase with ⟨h1, h2, h3⟩ | ⟨h1, h2, h3⟩
  · refine ⟨r, hp first words bad vg vw es clock, id, ⟨fun _ _ => rfl, fun _ _ _ _ h => h, fun i hi => ?_, fun i => hp_sc _ _ _ _ hg.1 hw.1 hsh i (Nat.le_refl _), fun i hi => ?_, Nat.le_refl _⟩, ?_, ?_, l, hp1, hso, .inl ⟨h1, h2, rfl⟩⟩
    · have := hp_live hi
      rw [hp_fix hg hw hsh id (fun _ _ => rfl)]
      exact h3 i (by omega)
    · have := hp_live hi
      show i < 5; omega
    · rw [h2]; simp
    · rw [h2]; exact Sc_nilslice _ _ _
  · subst h3
    have hgp : ∀ i, ((hp first words bad vg vw es clock).push (.row 74 4 (encs l))).get i = if 5 = i then .row 74 4 (encs l) else (hp first words bad vg vw es clock).get i := fun i => St.get_push _ _ _
    have hlv : ∀ i, (((hp first words bad vg vw es clock).push (.row 74 4 (encs l))).get i).live = true → i = 5 ∨ i < 2 := fun i hi => by
      rw [hgp] at hi
      by_cases h5 : 5 = i
      · exact .inl h5.symm
      · rw [if_neg h5] at hi; exact .inr (hp_live hi)
    refine ⟨.slice (some ⟨5, 0, none⟩) l.length unk, (hp first words bad vg vw es clock).push (.row 74 4 (encs l)), fun i => if i = 5 then 6 else i, ⟨fun i hi => if_neg (by have : i < 5 := hi; omega), fun i j hi hj h => ?_, fun i hi => ?_, fun i => ?_, fun i hi => ?_, by show 5 ≤ 6; omega⟩, ?_, Sc_slice (by show 5 < 6; omega), l, hp1, hso, .inr ⟨h1, rfl, rfl⟩⟩
    · have := hlv i hi
      have := hlv j hj
      split at h <;> split at h <;> omega
    · rcases hlv i hi with rfl | h2'
      · rw [hgp, if_pos rfl, if_pos rfl, renB, encs_closed]
        exact rfl
      · rw [if_neg (by omega), hgp, if_neg (by omega), hp_fix hg hw hsh _ (fun j hj => if_neg (by omega)), hpBR_get _ _ _ _ _ _ _ _ _ (by omega)]
    · rw [hgp]
      split
      · exact encs_sc _ _
      · exact hp_sc _ _ _ _ hg.1 hw.1 hsh i (by show 5 ≤ 6; omega)
    · have := hlv i hi
      show i < 6; omega
    · rw [h2, ren_slice]
      exact rfl

end
end Go.Proofs.Ytlnlopeodpamdaa.Hx
end

section
/-
  heap.Free and heap.Blocks as answers of an evaluator.
-/
set_option maxRecDepth 100000
set_option linter.unusedVariables false
namespace Go.Proofs.Ytlnlopeodpamdaa.Hx
open Go AH Go.Proofs
noncomputable section

structure HV where
  mm : Nat
  m : Nat
  g : Nat
  r : Nat
  first : Int
  words : Int
  bad : Int
  vw : Value
  vw0 : Value
  es : List MapEntry
  clock : Nat

def slotB (h : Nat) : Value → Option (Nat × Value)
  | .slice none 0 0 => some (h, .slice none 0 0)
  | .slice (some ⟨r, 0, none⟩) n c => bif Nat.ble c unk then some (r, .slice (some ⟨4, 0, none⟩) n c) else none
  | _ => none

def nodupN : List Nat → Bool
  | [] => true
  | x :: r => !(r.any fun y => Nat.beq x y) && nodupN r
def nodupI : List BV → Bool
  | [] => true
  | x :: r => !(r.any fun y => leI x.1 y.1 && leI y.1 x.1) && nodupI r
def shapeB (e : MapEntry) : Bool := match e.key with
  | .int .i64 k => (match e.val with
    | .agg cs => (match cs.toList with
      | [.int .i64 a, .int .i64 l, .int .i64 _, .bool _] => leI a k && leI k a && leI 0 l
      | _ => false)
    | _ => false)
  | _ => false
def goodB (es : List MapEntry) (clock : Nat) : Bool := nodupN (es.map (·.born)) && es.all (fun e => Nat.blt e.born clock) && es.all shapeB && Nat.ble es.length 1048576 && nodupI (es.map bvOf)

def seeHeap (σ : St) (h : Nat) : Option HV := match σ.get h with
  | .cells 83 [.pointer (some ⟨mm, 0, none⟩), .int .i64 first, .int .i64 words, .map (some m), .map (some g), vw, .int .i64 bad] =>
    (match slotB h vw with
    | some (r, vw0) => (match σ.get m with
      | .map es clock => bif goodB es clock then some ⟨mm, m, g, r, first, words, bad, vw, vw0, es, clock⟩ else none
      | _ => none)
    | none => none)
  | _ => none

theorem nodupN_ok : ∀ {l : List Nat}, nodupN l = true → l.Nodup
  | [], _ => List.nodup_nil
  | x :: r, h => by
    simp only [nodupN, Bool.and_eq_true, Bool.not_eq_true', List.any_eq_false] at h
    refine List.nodup_cons.2 ⟨fun hx => ?_, nodupN_ok h.2⟩
    have := h.1 x hx
    simp at this
theorem nodupI_ok : ∀ {l : List BV}, nodupI l = true → (l.map (·.1)).Nodup
  | [], _ => List.nodup_nil
  | x :: r, h => by
    simp only [nodupI, Bool.and_eq_true, Bool.not_eq_true', List.any_eq_false] at h
    rw [List.map_cons]
    refine List.nodup_cons.2 ⟨fun hx => ?_, nodupI_ok h.2⟩
    obtain ⟨y, hy, he⟩ := List.mem_map.1 hx
    have := h.1 y hy
    rw [leI_eq, leI_eq, he] at this
    simp at this
theorem shapeB_ok {e : MapEntry} (h : shapeB e = true) : ∃ a l g v, e.val = blkV a l g v ∧ e.key = .int .i64 a ∧ 0 ≤ l := by
  unfold shapeB at h
  split at h
  · rename_i k hk
    split at h
    · rename_i cs hcs
      split at h
      · rename_i a l g v hl
        simp only [Bool.and_eq_true, leI_eq, decide_eq_true_eq] at h
        have : a = k := by omega
        refine ⟨a, l, g, v, ?_, by rw [hk, this], h.2⟩
        rw [hcs]
        unfold blkV
        congr 1
        apply Array.ext'
        rw [hl]
      · cases h
    · cases h
  · cases h
theorem goodB_ok {es : List MapEntry} {clock : Nat} (h : goodB es clock = true) : Stamped es clock ∧ Shaped1 es ∧ es.length ≤ 1048576 ∧ ((es.map bvOf).map (·.1)).Nodup := by
  simp only [goodB, Bool.and_eq_true, List.all_eq_true] at h
  obtain ⟨⟨⟨⟨h1, h2⟩, h3⟩, h4⟩, h5⟩ := h
  exact ⟨⟨nodupN_ok h1, fun e he => by simpa [Nat.blt_eq] using h2 e he⟩, fun e he => shapeB_ok (h3 e he), by simpa using h4, nodupI_ok h5⟩

def piH (h m mm g r : Nat) : Nat → Nat := fun i => if i = 0 then h else if i = 1 then m else if i = 2 then mm else if i = 3 then g else r

structure Seen (σ : St) (h : Nat) (v : HV) : Prop where
  cell : σ.get h = .cells 83 [.pointer (some ⟨v.mm, 0, none⟩), .int .i64 v.first, .int .i64 v.words, .map (some v.m), .map (some v.g), v.vw, .int .i64 v.bad]
  map : σ.get v.m = .map v.es v.clock
  st : Stamped v.es v.clock
  sh : Shaped1 v.es
  len : v.es.length ≤ 1048576
  dist : ((v.es.map bvOf).map (·.1)).Nodup
  rn : AH.ren (loc (piH h v.m v.mm v.g v.r)) v.vw0 = v.vw
  fix : Fix5 v.vw0
  lt : (∃ n c, v.vw = .slice (some ⟨v.r, 0, none⟩) n c) ∨ v.r = h

theorem renC_le {c : Nat} (h : c ≤ unk) : renC unk c = c := by
  unfold renC
  split
  · rfl
  · omega
theorem slotB_ok {h : Nat} {vw : Value} {r : Nat} {vw0 : Value} (hs : slotB h vw = some (r, vw0)) (m mm g : Nat) : AH.ren (loc (piH h m mm g r)) vw0 = vw ∧ Fix5 vw0 ∧ ((∃ n c, vw = .slice (some ⟨r, 0, none⟩) n c) ∨ r = h) := by
  unfold slotB at hs
  split at hs
  · simp only [Option.some.injEq, Prod.mk.injEq] at hs
    obtain ⟨rfl, rfl⟩ := hs
    exact ⟨by simp, ⟨Sc_nilslice _ _ _, fun ρ _ => by simp⟩, .inr rfl⟩
  · rename_i r' n c
    cases hc : Nat.ble c unk with
    | false => rw [hc] at hs; cases hs
    | true =>
      rw [hc] at hs
      simp only [cond_true, Option.some.injEq, Prod.mk.injEq] at hs
      obtain ⟨rfl, rfl⟩ := hs
      have hle : c ≤ unk := by simpa using hc
      refine ⟨?_, ⟨Sc_slice (by show 4 < 5; omega), fun ρ hρ => ?_⟩, .inl ⟨n, c, rfl⟩⟩
      · rw [ren_slice]
        simp only [renA, loc, piH]
        rw [renC_le hle]
        rfl
      · rw [ren_slice]
        simp only [renA, hρ 4 (by omega)]
        rw [renC_le hle]
  · cases hs
theorem seeHeap_ok {σ : St} {h : Nat} {v : HV} (hs : seeHeap σ h = some v) : Seen σ h v := by
  unfold seeHeap at hs
  split at hs
  · rename_i mm first words m g vw bad hc
    split at hs
    · rename_i r vw0 hsl
      split at hs
      · rename_i es clock hm
        cases hg : goodB es clock with
        | false => rw [hg] at hs; cases hs
        | true =>
          rw [hg] at hs
          simp only [cond_true, Option.some.injEq] at hs
          subst hs
          obtain ⟨h1, h2, h3, h4⟩ := goodB_ok hg
          obtain ⟨h5, h6, h7⟩ := slotB_ok hsl m mm g
          exact ⟨hc, hm, h1, h2, h3, h4, h5, h6, h7⟩
      · cases hs
    · cases hs
  · cases hs

theorem Seen.small {σ : St} {h : Nat} {v : HV} (s : Seen σ h v) (hout : ∀ i, (σ.get i).live = true → i < σ.next) (hsc : ∀ i, (σ.get i).sc σ.next) : Small (piH h v.m v.mm v.g v.r) (hp v.first v.words v.bad (.map (some 3)) v.vw0 v.es v.clock) σ := by
  have hh : h < σ.next := hout h (by rw [s.cell]; rfl)
  have hm : v.m < σ.next := hout v.m (by rw [s.map]; rfl)
  have hcs := hsc h
  rw [s.cell] at hcs
  have hmm : v.mm < σ.next := Sc_ptr_lt (hcs (.pointer (some ⟨v.mm, 0, none⟩)) (by simp))
  have hg : v.g < σ.next := Sc_map_lt (hcs (.map (some v.g)) (by simp))
  have hr : v.r < σ.next := by
    rcases s.lt with ⟨n, c, e⟩ | e
    · have := hcs v.vw (by simp)
      rw [e] at this
      exact Sc_slice_lt this
    · rw [e]; exact hh
  have hne : h ≠ v.m := fun e => by
    have := s.cell
    rw [e, s.map] at this
    cases this
  have hf3 : Fix5 (.map (some 3)) := ⟨Sc_map (by omega), fun ρ hρ => by rw [ren_map, hρ 3 (by omega)]⟩
  refine ⟨fun i hi => ?_, fun i j hi hj e => ?_, fun i hi => ?_, fun i => hp_sc _ _ _ _ hf3.1 s.fix.1 s.sh i (Nat.le_refl _), fun i hi => ?_⟩
  · unfold piH
    split
    · exact hh
    split
    · exact hm
    split
    · exact hmm
    split
    · exact hg
    · exact hr
  · have h1 := hp_live hi
    have h2 := hp_live hj
    by_cases e1 : i = 0 <;> by_cases e2 : j = 0
    · omega
    · have : j = 1 := by omega
      subst e1; subst this
      exact absurd e hne
    · have : i = 1 := by omega
      subst e2; subst this
      exact absurd e.symm hne
    · omega
  · have h1 := hp_live hi
    by_cases e1 : i = 0
    · subst e1
      show σ.get h = _
      rw [s.cell, hp_get, if_neg (by omega), if_pos rfl]
      simp only [renB, List.map_cons, List.map_nil, ren_ptr, ren_int, ren_map, renA, s.rn]
      rfl
    · have : i = 1 := by omega
      subst this
      show σ.get v.m = _
      rw [s.map, hp_get, if_pos rfl, renB, s.sh.map_eq]
  · have := hp_live hi
    show i < 5; omega

/-- heap.Free in any state. -/
theorem freeG {σ : St} {h : Nat} {v : HV} (s : Seen σ h v) (hb : sumLen v.es ≤ 4611686018427387904) (hw1 : 0 ≤ v.words) (hw2 : v.words ≤ 4611686018427387904) :
    WF M.toEnv 28 [.pointer (some ⟨h, 0, none⟩)] σ (fun r σ' => r = .int .i64 (v.words - sumLen v.es) ∧ σ' = σ) := by
  have hc := free_clean v.first v.words v.bad (.map (some 3)) v.vw0 v.es v.clock s.st s.sh hb hw1 hw2
  refine WF.know hc.1 fun hout hsc => ?_
  have hs := s.small hout hsc
  have hargs : ([.pointer (some ⟨0, 0, none⟩)] : List Value).map (ren (loc (piH h v.m v.mm v.g v.r))) = [.pointer (some ⟨h, 0, none⟩)] := by
    simp [renA, loc, piH]
  rw [← hargs]
  refine WF.frame hs (fun u hu => ?_) hc fun r σ₀' _ ⟨e1, e2⟩ => ?_
  · simp only [List.mem_singleton] at hu
    subst hu
    exact Sc_ptr (by show 0 < 5; omega)
  · subst e1; subst e2
    exact ⟨σ, Big.same hs hout, by simp, rfl⟩

/-- The blocks, rising. -/
def insB (x : BV) : List BV → List BV
  | [] => [x]
  | y :: r => bif leI x.1 y.1 then x :: y :: r else y :: insB x r
def sortB : List BV → List BV
  | [] => []
  | x :: r => insB x (sortB r)
theorem insB_perm (x : BV) : ∀ l : List BV, (insB x l).Perm (x :: l)
  | [] => List.Perm.refl _
  | y :: r => by
    unfold insB
    cases leI x.1 y.1 with
    | true => exact List.Perm.refl _
    | false => exact ((insB_perm x r).cons y).trans (List.Perm.swap x y r)
theorem sortB_perm : ∀ l : List BV, (sortB l).Perm l
  | [] => List.Perm.refl _
  | x :: r => (insB_perm x (sortB r)).trans ((sortB_perm r).cons x)
theorem insB_sorted (x : BV) : ∀ {l : List BV}, l.Pairwise (fun x y => x.1 ≤ y.1) → (insB x l).Pairwise (fun x y => x.1 ≤ y.1)
  | [], _ => by simp [insB]
  | y :: r, h => by
    unfold insB
    cases hc : leI x.1 y.1 with
    | true =>
      rw [leI_eq, decide_eq_true_eq] at hc
      refine List.pairwise_cons.2 ⟨fun z hz => ?_, h⟩
      rcases List.mem_cons.1 hz with rfl | hz
      · exact hc
      · have := (List.pairwise_cons.1 h).1 z hz; omega
    | false =>
      rw [leI_eq, decide_eq_false_iff_not] at hc
      obtain ⟨h1, h2⟩ := List.pairwise_cons.1 h
      refine List.pairwise_cons.2 ⟨fun z hz => ?_, insB_sorted x h2⟩
      have := (insB_perm x r).subset hz
      rcases List.mem_cons.1 this with rfl | hz
      · omega
      · exact h1 z hz
theorem sortB_sorted : ∀ l : List BV, (sortB l).Pairwise (fun x y => x.1 ≤ y.1)
  | [] => List.Pairwise.nil
  | x :: r => insB_sorted x (sortB_sorted r)
theorem sortB_unique {l l' : List BV} (hn : (l.map (·.1)).Nodup) (hp : l'.Perm l) (hs : l'.Pairwise (fun x y => x.1 ≤ y.1)) : l' = sortB l := by
  refine List.Perm.eq_of_pairwise (le := fun x y => x.1 ≤ y.1) (fun a b ha hb h1 h2 => ?_) hs (sortB_sorted l) (hp.trans (sortB_perm l).symm)
  have ha' := hp.subset ha
  have hb' := (sortB_perm l).subset hb
  have hab : a.1 = b.1 := by omega
  clear hp hs ha hb h1 h2
  induction l with
  | nil => cases ha'
  | cons x r ih =>
    simp only [List.map_cons, List.nodup_cons, List.mem_map, not_exists, not_and] at hn
    rcases List.mem_cons.1 ha' with ea | ha''
    · rcases List.mem_cons.1 hb' with eb | hb''
      · rw [ea, eb]
      · exact absurd (by rw [← hab, ea]) (hn.1 b hb'')
    · rcases List.mem_cons.1 hb' with eb | hb''
      · exact absurd (by rw [hab, eb]) (hn.1 a ha'')
      · exact ih hn.2 ha'' hb''

/-- What heap.Blocks answers. -/
def blocksV (σ : St) (l : List BV) : Value × St := match l with
  | [] => (.slice none 0 0, σ)
  | x :: r => (.slice (some ⟨σ.next, 0, none⟩) (x :: r).length unk, σ.push (.row 74 4 (encs (x :: r))))
theorem blocksG {σ : St} {h : Nat} {v : HV} (s : Seen σ h v) :
    WF M.toEnv 35 [.pointer (some ⟨h, 0, none⟩)] σ (fun r σ' => r = (blocksV σ (sortB (v.es.map bvOf))).1 ∧ σ' = (blocksV σ (sortB (v.es.map bvOf))).2) := by
  have hf3 : Fix5 (.map (some 3)) := ⟨Sc_map (by omega), fun ρ hρ => by rw [ren_map, hρ 3 (by omega)]⟩
  have hc := blocks_small v.first v.words v.bad (.map (some 3)) v.vw0 v.es v.clock hf3 s.fix s.st s.sh s.len
  refine WF.know hc.1 fun hout hsc => ?_
  have hs := s.small hout hsc
  have hargs : ([.pointer (some ⟨0, 0, none⟩)] : List Value).map (ren (loc (piH h v.m v.mm v.g v.r))) = [.pointer (some ⟨h, 0, none⟩)] := by
    simp [renA, loc, piH]
  rw [← hargs]
  refine WF.frame hs (fun u hu => ?_) hc fun r σ₀' _ ⟨l, hp1, hso, hcase⟩ => ?_
  · simp only [List.mem_singleton] at hu
    subst hu
    exact Sc_ptr (by show 0 < 5; omega)
  · have hl := sortB_unique s.dist hp1 hso
    rw [← hl]
    rcases hcase with ⟨rfl, rfl, rfl⟩ | ⟨h1, rfl, rfl⟩
    · exact ⟨σ, Big.same hs hout, by simp [blocksV], rfl⟩
    · cases l with
      | nil => exact absurd rfl h1
      | cons x t =>
        refine ⟨_, Big.push hs hout _, ?_, ?_⟩
        · rw [ren_slice]
          have : exN (piH h v.m v.mm v.g v.r) (hp v.first v.words v.bad (.map (some 3)) v.vw0 v.es v.clock).next σ.next 5 = σ.next := by
            show exN _ 5 σ.next 5 = _
            exact exN_new
          simp only [renA, loc, this]
          rfl
        · rw [renB, encs_closed]
          rfl

/-- The answers of heap.Free and heap.Blocks. -/
def orc : CallF := fun g args σ =>
  bif Nat.beq g 35 then
    (match args with
    | [.pointer (some ⟨h, 0, none⟩)] => (match seeHeap σ h with
      | some v => some (blocksV σ (sortB (v.es.map bvOf)))
      | none => none)
    | _ => none)
  else bif Nat.beq g 28 then
    (match args with
    | [.pointer (some ⟨h, 0, none⟩)] => (match seeHeap σ h with
      | some v => bif leI (sumLen v.es) 4611686018427387904 && leI 0 v.words && leI v.words 4611686018427387904 then some (.int .i64 (v.words - sumLen v.es), σ) else none
      | none => none)
    | _ => none)
  else none

theorem orc_ok : CallOk M orc := by
  intro g args σ r σ' h
  unfold orc at h
  cases h35 : Nat.beq g 35 with
  | true =>
    have hg : g = 35 := Nat.eq_of_beq_eq_true h35
    subst hg
    rw [h35] at h
    simp only [cond_true] at h
    split at h
    · rename_i hh
      split at h
      · rename_i v hv
        simp only [Option.some.injEq] at h
        have := blocksG (seeHeap_ok hv)
        rw [h] at this
        exact this
      · cases h
    · cases h
  | false =>
    rw [h35] at h
    simp only [cond_false] at h
    cases h28 : Nat.beq g 28 with
    | false => rw [h28] at h; cases h
    | true =>
      have hg : g = 28 := Nat.eq_of_beq_eq_true h28
      subst hg
      rw [h28] at h
      simp only [cond_true] at h
      split at h
      · rename_i hh
        split at h
        · rename_i v hv
          cases hc : (leI (sumLen v.es) 4611686018427387904 && leI 0 v.words && leI v.words 4611686018427387904) with
          | false => rw [hc] at h; cases h
          | true =>
            rw [hc] at h
            simp only [cond_true, Option.some.injEq, Prod.mk.injEq] at h
            simp only [Bool.and_eq_true, leI_eq, decide_eq_true_eq] at hc
            obtain ⟨rfl, rfl⟩ := h
            exact freeG (seeHeap_ok hv) hc.1.1 hc.1.2 hc.2
        · cases h
      · cases h
end
end Go.Proofs.Ytlnlopeodpamdaa.Hx
end

section
/-
  A heap and its memory as a small state: mem's set over it.
-/
set_option maxRecDepth 100000
set_option linter.unusedVariables false
namespace Go.Proofs.Ytlnlopeodpamdaa.Hx
open Go AH Go.Proofs
noncomputable section

/-- A heap: its numbers, its two maps, what was in it; its memory's numbers, words and bars (n + 1 of each). -/
structure HS where
  first : Int
  words : Int
  bad : Int
  es : List MapEntry
  clock : Nat
  gs : List MapEntry
  gclock : Nat
  wv : Value
  wb : Blk
  cs : List Value
  n : Nat
  ws : List Value
  bs : List Value
  row : Bool := false

/-- How far a slice reaches; an array of which the end is known, or not. -/
def capR (row : Bool) (n : Nat) : Nat := bif row then unk else n + 1
def arrR (row : Bool) (e : Nat) (l : List Value) : Blk := bif row then .row e 1 l else .cells e l
theorem arrR_known (row : Bool) (e : Nat) (l : List Value) : (arrR row e l).known = some l := by cases row <;> rfl
theorem arrR_live (row : Bool) (e : Nat) (l : List Value) : (arrR row e l).live = true := by cases row <;> rfl
theorem arrR_sc {row : Bool} {e : Nat} {l : List Value} {n : Nat} (h : Scs n l) : (arrR row e l).sc n := by cases row <;> exact h
theorem arrR_ren {row : Bool} {e : Nat} {l : List Value} {ρ : Nat → AH.Loc} (h : l.map (AH.ren ρ) = l) : renB ρ (arrR row e l) = arrR row e l := by
  cases row
  · show Blk.cells e (l.map (AH.ren ρ)) = _; rw [h]; rfl
  · show Blk.row e 1 (l.map (AH.ren ρ)) = _; rw [h]; rfl

def hs (s : HS) : St := (⟨7, .leaf⟩ : St) |>.set 0 (.cells 83 [.pointer (some ⟨2, 0, none⟩), .int .i64 s.first, .int .i64 s.words, .map (some 1), .map (some 3), s.wv, .int .i64 s.bad]) |>.set 1 (.map s.es s.clock) |>.set 2 (.cells 107 (.slice (some ⟨5, 0, none⟩) (s.n + 1) (capR s.row s.n) :: .slice (some ⟨6, 0, none⟩) (s.n + 1) (capR s.row s.n) :: s.cs)) |>.set 3 (.map s.gs s.gclock) |>.set 4 s.wb |>.set 5 (arrR s.row 89 s.ws) |>.set 6 (arrR s.row 4 s.bs)

theorem hs_get (s : HS) (i : Nat) : (hs s).get i = if 6 = i then arrR s.row 4 s.bs else if 5 = i then arrR s.row 89 s.ws else if 4 = i then s.wb else if 3 = i then .map s.gs s.gclock else if 2 = i then .cells 107 (.slice (some ⟨5, 0, none⟩) (s.n + 1) (capR s.row s.n) :: .slice (some ⟨6, 0, none⟩) (s.n + 1) (capR s.row s.n) :: s.cs) else if 1 = i then .map s.es s.clock else if 0 = i then .cells 83 [.pointer (some ⟨2, 0, none⟩), .int .i64 s.first, .int .i64 s.words, .map (some 1), .map (some 3), s.wv, .int .i64 s.bad] else .dead := by
  simp only [hs, St.get_set]
  rfl

/-- What names no block, or one of the heap's own. -/
structure HS.Ok (s : HS) : Prop where
  es : ∀ e ∈ s.es, Sc 0 e.key ∧ Sc 0 e.val
  gs : ∀ e ∈ s.gs, Sc 0 e.key ∧ Sc 0 e.val
  wv : Sc 7 s.wv
  wb : s.wb.sc 7
  cs : Scs 0 s.cs
  ws : Scs 0 s.ws
  bs : Scs 0 s.bs
  cl : s.cs.length = 8
  wl : s.ws.length = s.n + 1
  bl : s.bs.length = s.n + 1
  nl : s.n < 4611686018427387000

theorem hs_sc {s : HS} (h : s.Ok) (i k : Nat) (hk : 7 ≤ k) : ((hs s).get i).sc k := by
  rw [hs_get]
  split
  · exact arrR_sc fun v hv => (h.bs v hv).mono (Nat.zero_le _)
  split
  · exact arrR_sc fun v hv => (h.ws v hv).mono (Nat.zero_le _)
  split
  · exact Blk.sc_mono h.wb hk
  split
  · exact fun e he => ⟨(h.gs e he).1.mono (Nat.zero_le _), (h.gs e he).2.mono (Nat.zero_le _)⟩
  split
  · intro v hv
    rcases List.mem_cons.1 hv with rfl | hv
    · exact Sc_slice (by show 5 < k; omega)
    rcases List.mem_cons.1 hv with rfl | hv
    · exact Sc_slice (by show 6 < k; omega)
    · exact (h.cs v hv).mono (Nat.zero_le _)
  split
  · exact fun e he => ⟨(h.es e he).1.mono (Nat.zero_le _), (h.es e he).2.mono (Nat.zero_le _)⟩
  split
  · intro v hv
    simp only [List.mem_cons, List.not_mem_nil, or_false] at hv
    rcases hv with e | e | e | e | e | e | e
    · rw [e]; exact Sc_ptr (by show 2 < k; omega)
    · rw [e]; exact Sc_int _ _ _
    · rw [e]; exact Sc_int _ _ _
    · rw [e]; exact Sc_map (by omega)
    · rw [e]; exact Sc_map (by omega)
    · rw [e]; exact h.wv.mono hk
    · rw [e]; exact Sc_int _ _ _
  · trivial

theorem hs_live {s : HS} {i : Nat} (hi : ((hs s).get i).live = true) : i < 7 := by
  by_cases h : i < 7
  · exact h
  · rw [hs_get, if_neg (by omega), if_neg (by omega), if_neg (by omega), if_neg (by omega), if_neg (by omega), if_neg (by omega), if_neg (by omega)] at hi
    cases hi

/-- The memory alone. -/
def putM (s : HS) (X : St) : St := X |>.set 2 (.cells 107 (.slice (some ⟨5, 0, none⟩) (s.n + 1) (capR s.row s.n) :: .slice (some ⟨6, 0, none⟩) (s.n + 1) (capR s.row s.n) :: s.cs)) |>.set 5 (arrR s.row 89 s.ws) |>.set 6 (arrR s.row 4 s.bs)
def ms (s : HS) : St := putM s ⟨7, .leaf⟩
theorem putM_get (s : HS) (X : St) (i : Nat) : (putM s X).get i = if 6 = i then arrR s.row 4 s.bs else if 5 = i then arrR s.row 89 s.ws else if 2 = i then .cells 107 (.slice (some ⟨5, 0, none⟩) (s.n + 1) (capR s.row s.n) :: .slice (some ⟨6, 0, none⟩) (s.n + 1) (capR s.row s.n) :: s.cs) else X.get i := by
  simp only [putM, St.get_set]
theorem ms_get (s : HS) (i : Nat) : (ms s).get i = if 6 = i then arrR s.row 4 s.bs else if 5 = i then arrR s.row 89 s.ws else if 2 = i then .cells 107 (.slice (some ⟨5, 0, none⟩) (s.n + 1) (capR s.row s.n) :: .slice (some ⟨6, 0, none⟩) (s.n + 1) (capR s.row s.n) :: s.cs) else .dead := putM_get s _ i
structure HS.MOk (s : HS) : Prop where
  cs : Scs 0 s.cs
  ws : Scs 0 s.ws
  bs : Scs 0 s.bs
  cl : s.cs.length = 8
  wl : s.ws.length = s.n + 1
  bl : s.bs.length = s.n + 1
  nl : s.n < 4611686018427387000
theorem HS.Ok.m {s : HS} (h : s.Ok) : s.MOk := ⟨h.cs, h.ws, h.bs, h.cl, h.wl, h.bl, h.nl⟩
structure HS.MFlat (s : HS) : Prop where
  cs : s.cs.map (AH.ren (loc id)) = s.cs
  ws : s.ws.map (AH.ren (loc id)) = s.ws
  bs : s.bs.map (AH.ren (loc id)) = s.bs
  n : s.n < unk
theorem capR_le (row : Bool) {n : Nat} (h : n < unk) : capR row n ≤ unk := by
  cases row
  · exact h
  · exact Nat.le_refl _
theorem ms_sc {s : HS} (h : s.MOk) (i k : Nat) (hk : 7 ≤ k) : ((ms s).get i).sc k := by
  rw [ms_get]
  split
  · exact arrR_sc fun v hv => (h.bs v hv).mono (Nat.zero_le _)
  split
  · exact arrR_sc fun v hv => (h.ws v hv).mono (Nat.zero_le _)
  split
  · intro v hv
    rcases List.mem_cons.1 hv with rfl | hv
    · exact Sc_slice (by show 5 < k; omega)
    rcases List.mem_cons.1 hv with rfl | hv
    · exact Sc_slice (by show 6 < k; omega)
    · exact (h.cs v hv).mono (Nat.zero_le _)
  · trivial
theorem ms_live {s : HS} {i : Nat} (hi : ((ms s).get i).live = true) : i = 2 ∨ i = 5 ∨ i = 6 := by
  rw [ms_get] at hi
  by_cases h6 : 6 = i
  · omega
  by_cases h5 : 5 = i
  · omega
  by_cases h2 : 2 = i
  · omega
  rw [if_neg h6, if_neg h5, if_neg h2] at hi
  cases hi
theorem ms_flat {s : HS} (h : s.MFlat) (i : Nat) : renB (loc id) ((ms s).get i) = (ms s).get i := by
  rw [ms_get]
  split
  · exact arrR_ren h.bs
  split
  · exact arrR_ren h.ws
  split
  · simp only [renB, List.map_cons, ren_slice, renA, loc, id, h.cs]
    rw [renC_le (capR_le _ h.n)]
  · rfl
/-- What is said of the memory alone holds in any state that has it. -/
theorem liftM {K : FuncId} {args : List Value} {v : Value} {s s' : HS} {σ : St} (h0 : s.MOk) (f0 : s.MFlat) (h1 : s'.MOk) (f1 : s'.MFlat) (h7 : 7 ≤ σ.next) (g2 : σ.get 2 = (ms s).get 2) (g5 : σ.get 5 = (ms s).get 5) (g6 : σ.get 6 = (ms s).get 6) (ha : Scs 7 args) (har : args.map (AH.ren (loc id)) = args) (hv : ∀ ρ, AH.ren ρ v = v)
    (h : WF M.toEnv K args (ms s) (fun r σ' => r = v ∧ σ' = ms s')) : WF M.toEnv K args σ (fun r σ' => r = v ∧ σ' = putM s' σ) := by
  refine WF.know h.1 fun hout hsc => ?_
  have hg : ∀ i, ((ms s).get i).live = true → σ.get i = (ms s).get i := fun i hi => by
    rcases ms_live hi with rfl | rfl | rfl
    · exact g2
    · exact g5
    · exact g6
  have hs : Small id (ms s) σ := ⟨fun i hi => (by have : i < 7 := hi; show i < σ.next; omega), fun i j _ _ e => e, fun i hi => by rw [ms_flat f0]; exact hg i hi, fun i => ms_sc h0 i _ (Nat.le_refl _), fun i hi => by
    rcases ms_live hi with rfl | rfl | rfl <;> exact Nat.le_of_ble_eq_true rfl⟩
  rw [← har]
  refine WF.frame hs ha h fun r σ₀' _ ⟨e1, e2⟩ => ?_
  subst e1; subst e2
  have hget : ∀ i, (i = 2 ∨ i = 5 ∨ i = 6) → (putM s' σ).get i = (ms s').get i := fun i hi => by
    rw [putM_get, ms_get]
    rcases hi with rfl | rfl | rfl <;> rfl
  have hoth : ∀ i, ¬ (i = 2 ∨ i = 5 ∨ i = 6) → (putM s' σ).get i = σ.get i := fun i hi => by
    rw [putM_get, if_neg (by omega), if_neg (by omega), if_neg (by omega)]
  refine ⟨putM s' σ, ⟨rfl, fun i hi hl => ?_, fun j hj hno => ?_, fun j hj => ?_⟩, hv _, rfl⟩
  · have hi' : i < 7 := hi
    have hl' : i = 2 ∨ i = 5 ∨ i = 6 := by
      rcases hl with hl | hl
      · have : 7 ≤ i := hl
        omega
      · exact ms_live hl
    show (putM s' σ).get (exN id 7 σ.next i) = renB (loc (exN id 7 σ.next)) _
    rw [show exN id 7 σ.next i = i from exN_lt hi', hget i hl', renB_exN (ms_sc h1 i 7 (Nat.le_refl _)), ms_flat f1]
  · refine hoth j fun hj => ?_
    refine hno j ?_ rfl
    rw [ms_get]
    rcases hj with rfl | rfl | rfl
    · rfl
    · exact arrR_live _ _ _
    · exact arrR_live _ _ _
  · have hj' : σ.next ≤ j := hj
    rw [hoth j (by omega)]
    cases hl : (σ.get j).live with
    | false => rfl
    | true => have := hout j hl; omega

def T87 : TyI := { desc := .slice 89, size := 1, bytes := 24, zero := .slice none 0 0, eqok := true }
def T89 : TyI := { desc := .int .u64, size := 1, bytes := 8, zero := .int .u64 0, eqok := true }

/-! ### mem's may -/
def ov4 (l : List (Nat × Bool)) : Tmp → Option Value := fun t => match l.find? (fun p => Nat.beq p.1 t) with
  | some p => some (.bool p.2)
  | none => none
def ev0 : CallF := ev3 M noOrc 100000 40
theorem ev0_ok : CallOk M ev0 := ev3_sound (noOrc_ok M) 100000 40

/-- Words that there are may be named. -/
theorem may_m (s : HS) (a k : Int) (h1 : 1 ≤ k) (h0 : 0 ≤ a) (ha : a < s.n + 1) (hk : k ≤ s.n + 1 - a) (hn : s.n < 4611686018427387000) :
    WF M.toEnv 123 [.pointer (some ⟨2, 0, none⟩), .int .i64 a, .int .i64 k] (ms s) (fun r σ' => r = .int .i64 0 ∧ σ' = ms s) := by
  have h : bodyO M ev0 (ov4 [(12, false), (15, false), (24, false), (35, false)]) 1000 123 [.pointer (some ⟨2, 0, none⟩), .int .i64 a, .int .i64 k] (ms s) =
      some (.int .i64 0, ms s, (((True ∧ some (Value.bool (ltI k 1)) = some (.bool false)) ∧ some (Value.bool (ltI a 0)) = some (.bool false)) ∧ some (Value.bool (leI (s.n + 1 : Nat) a)) = some (.bool false)) ∧ some (Value.bool (ltI (IntKind.i64.wrap ((s.n + 1 : Nat) - a)) k)) = some (.bool false)) := by kernel_rfl
  refine bodyO_sound ev0_ok h ⟨⟨⟨⟨trivial, ?_⟩, ?_⟩, ?_⟩, ?_⟩
  · rw [ltI_eq, decide_eq_false (by omega)]
  · rw [ltI_eq, decide_eq_false (by omega)]
  · rw [leI_eq, decide_eq_false (by omega)]
  · rw [IntWalk.i64_in _ (by omega), ltI_eq, decide_eq_false (by omega)]

theorem vs_cast {nB : Nat} {M : EnvM} {K : FuncId} {nt : Nat} {k : List Item} {f : Fr} {σ σ' : St} {R : Value → St → Prop} (hs : σ = σ') (h : VB nB M K nt k f σ' R) : VB nB M K nt k f σ R := by rw [hs]; exact h

/-! ### mem's set -/
/-- From p on, j of them are v. -/
def setR (v : Value) (l : List Value) (p : Nat) : Nat → List Value
  | 0 => l
  | j + 1 => putAt (setR v l p j) (p + j) [v]
theorem setR_length (v : Value) (l : List Value) (p : Nat) : ∀ j, p + j ≤ l.length → (setR v l p j).length = l.length
  | 0, _ => rfl
  | j + 1, h => by rw [setR, putAt_length, setR_length v l p j (by omega)]

theorem stCells_cells {σ : St} {b off : Nat} {e : TypeId} {cs vs : List Value} (hg : σ.get b = .cells e cs) (ho : off + vs.length ≤ cs.length) (hv : vs.all Value.oneCell' = true) : stCells σ ⟨b, off, none⟩ vs = some (σ.set b (.cells e (putAt cs off vs))) := by
  simp only [stCells, hg]
  rw [if_pos ⟨rfl, ho, hv⟩]

theorem stCells_arr {σ : St} {b off : Nat} {row : Bool} {e : TypeId} {cs vs : List Value} (hg : σ.get b = arrR row e cs) (ho : off + vs.length ≤ cs.length) (hv : vs.all Value.oneCell' = true) : stCells σ ⟨b, off, none⟩ vs = some (σ.set b (arrR row e (putAt cs off vs))) := by
  cases row
  · have hg' : σ.get b = .cells e cs := hg
    simp only [stCells, hg']
    rw [if_pos ⟨rfl, ho, hv⟩]
    rfl
  · have hg' : σ.get b = .row e 1 cs := hg
    simp only [stCells, hg']
    rw [if_pos ⟨rfl, ho, hv⟩]
    rfl

theorem set_m (s : HS) (p k : Nat) (b : Bool) (h1 : 1 ≤ k) (hk : p + k ≤ s.n + 1) (hs0 : s.MOk) :
    WF M.toEnv 100 [.pointer (some ⟨2, 0, none⟩), .int .i64 p, .int .i64 k, .bool b] (ms s) (fun r σ' => r = .int .i64 0 ∧ σ' = ms { s with bs := setR (.bool b) s.bs p k }) := by
  have hn := hs0.nl
  refine WF.of_VB (fn := Try.f100) Try.func100 rfl rfl (by show 4 ≤ 33; omega) ?_
  refine VB.seq ?_
  apply VB.region
  case hd => rfl
  apply WL.quiet
  case hw => rfl
  case hq => exact rfl
  apply WL.nil
  refine VB.seq ?_
  apply VB.region
  case hd => rfl
  iterate 3
    apply WL.quiet
    case hw => rfl
    case hq => exact rfl
  apply WL.call
  case ho => rfl
  case hw => rfl
  case hc => exact rfl
  refine (may_m s p k (by omega) (by omega) (by omega) (by omega) hn).mono fun r σ' _ ⟨e1, e2⟩ => ?_
  subst e1; subst e2
  apply WL.quiet
  case hw => rfl
  case hq => exact rfl
  apply WL.nil
  refine VB.seq (VB.seq ?_)
  apply VB.region
  case hd => rfl
  iterate 2
    apply WL.quiet
    case hw => rfl
    case hq => exact rfl
  apply WL.nil
  apply VB.cond
  case hc => exact rfl
  refine VB.seq ?_
  apply VB.region
  case hd => rfl
  iterate 2
    apply WL.quiet
    case hw => rfl
    case hq => exact rfl
  apply WL.nil
  refine VB.block ?_
  refine VB.trim [(0, .pointer (some ⟨2, 0, none⟩)), (1, .int .i64 p), (2, .int .i64 k), (3, .bool b), (9, .int .i64 0), (10, .int .i64 p)] (by
    intro p hp
    simp only [List.mem_cons, List.not_mem_nil, or_false] at hp
    rcases hp with rfl | rfl | rfl | rfl | rfl | rfl <;> (dsimp only; exact rfl)) rfl ?_
  refine VB.loop (fun f σ => ∃ j : Nat, j ≤ k ∧ f = frL [(0, .pointer (some ⟨2, 0, none⟩)), (1, .int .i64 p), (2, .int .i64 k), (3, .bool b), (9, .int .i64 0), (10, .int .i64 ((p + j : Nat) : Int))] ∧ σ = ms { s with bs := setR (.bool b) s.bs p j })
    (fun f σ => k + p - (match f.get 10 with | some (.int _ i) => i.toNat | _ => 0)) ⟨0, by omega, rfl, rfl⟩ ?_
  intro f σ ⟨j, hj, hf, hσ⟩ ih
  subst hf; subst hσ
  have hlen : (setR (.bool b) s.bs p j).length = s.n + 1 := by rw [setR_length _ _ _ _ (by rw [hs0.bl]; omega), hs0.bl]
  refine VB.seq (VB.seq ?_)
  apply VB.region
  case hd => rfl
  iterate 5
    apply WL.quiet
    case hw => rfl
    case hq => exact rfl
  apply WL.nil
  have hadd : IntKind.i64.wrap ((p : Int) + (k : Int)) = ((p + k : Nat) : Int) := by rw [IntWalk.i64_in _ (by omega)]; omega
  refine VB.cond_split (t := ltI ((p + j : Nat) : Int) (IntKind.i64.wrap ((p : Int) + (k : Int)))) rfl (fun ht => ?_) (fun ht => ?_)
  · rw [hadd, ltI_eq, decide_eq_true_eq] at ht
    have hjk : j < k := by omega
    refine VB.skip (VB.seq (VB.block ?_))
    apply VB.region
    case hd => rfl
    iterate 6
      apply WL.quiet
      case hw => rfl
      case hq => exact rfl
    apply WL.quiet
    case hw => rfl
    case hq =>
      show (if 0 ≤ ((p + j : Nat) : Int) ∧ ((p + j : Nat) : Int) < ((s.n + 1 : Nat) : Int) then some (Value.pointer (some (addA ⟨6, 0, none⟩ (((p + j : Nat) : Int).toNat * 1)))) else none) = some (Value.pointer (some ⟨6, p + j, none⟩))
      rw [if_pos ⟨by omega, by omega⟩, Int.toNat_natCast, Nat.mul_one]
      unfold addA
      split
      · rename_i h0; rw [h0]
      · simp
    apply WL.write
    case hw => rfl
    case hq => exact opW_store rfl rfl rfl rfl (stCells_arr (row := s.row) (e := 4) (cs := setR (.bool b) s.bs p j) rfl (by rw [hlen]; show p + j + 1 ≤ s.n + 1; omega) rfl)
    apply WL.nil
    refine VB.inBlock ?_
    apply VB.region
    case hd => rfl
    iterate 3
      apply WL.quiet
      case hw => rfl
      case hq => exact rfl
    apply WL.nil
    refine vs_cast (σ' := ms { s with bs := setR (.bool b) s.bs p (j + 1) }) (by kernel_rfl) ?_
    have hinc : IntKind.i64.wrap (((p + j : Nat) : Int) + 1) = ((p + (j + 1) : Nat) : Int) := by rw [IntWalk.i64_in _ (by omega)]; omega
    refine VB.trim [(0, .pointer (some ⟨2, 0, none⟩)), (1, .int .i64 p), (2, .int .i64 k), (3, .bool b), (9, .int .i64 0), (10, .int .i64 ((p + (j + 1) : Nat) : Int))] (by
      intro p hp
      simp only [List.mem_cons, List.not_mem_nil, or_false] at hp
      rcases hp with rfl | rfl | rfl | rfl | rfl | rfl <;> first | (dsimp only; exact rfl) | (dsimp only; rw [← hinc]; exact rfl)) rfl ?_
    refine ih _ _ ⟨j + 1, by omega, rfl, rfl⟩ ?_
    show k + p - (((p + (j + 1) : Nat) : Int)).toNat < k + p - (((p + j : Nat) : Int)).toNat
    omega
  · rw [hadd, ltI_eq, decide_eq_false_iff_not] at ht
    have hjk : j = k := by omega
    subst hjk
    apply VB.exit
    case hx => exact rfl
    refine VB.seq ?_
    apply VB.region
    case hd => rfl
    iterate 2
      apply WL.quiet
      case hw => rfl
      case hq => exact rfl
    apply WL.nil
    exact VB.ret (v := .int .i64 0) rfl Try.func100 rfl ⟨rfl, rfl⟩

theorem slice_mid {E : Env} {σ : St} {t e : Nat} {i j : TyI} (ht : E.ty t = some i) (hd : i.desc = .slice e) (hj : E.ty e = some j) (hs : j.size = 1) {b n p q : Nat} (hp : p ≤ q) (hq : q ≤ n) (hpn : p < n) (hn : n < half) :
    sliceQ E σ t (.slice (some ⟨b, 0, none⟩) n n) (some (.int .i64 p)) (some (.int .i64 q)) none = some (.slice (some ⟨b, p, none⟩) (q - p) (n - p)) := by
  simp only [sliceQ, ht, hd, hj]
  rw [if_pos hn]
  have h1 : idx (none : Option Value) n n = some n := rfl
  have h2 : idx (some (.int .i64 (q : Int))) n n = some q := by
    simp only [idx]
    rw [if_pos ⟨by omega, by omega⟩, Int.toNat_natCast]
  have h3 : idx (some (.int .i64 (p : Int))) 0 q = some p := by
    simp only [idx]
    rw [if_pos ⟨by omega, by omega⟩, Int.toNat_natCast]
  simp only [h1, h2, h3]
  rw [if_neg (by simp), if_neg (by omega), hs]
  simp only [Option.map_some, Nat.mul_one]
  unfold addA
  split
  · rename_i h0; rw [h0]
  · simp

theorem slice_arr {E : Env} {σ : St} {t e : Nat} {i j : TyI} (ht : E.ty t = some i) (hd : i.desc = .slice e) (hj : E.ty e = some j) (hs : j.size = 1) {row : Bool} {b n p q : Nat} {cs : List Value} {c : Nat} (hg : σ.get b = arrR row c cs) (hl : cs.length = n + 1) (hp : p ≤ q) (hq : q ≤ n + 1) (hpn : p < n + 1) (hpq : p = 0 ∨ p < q) (hn : n + 1 < half) :
    sliceQ E σ t (.slice (some ⟨b, 0, none⟩) (n + 1) (capR row n)) (some (.int .i64 p)) (some (.int .i64 q)) none = some (.slice (some ⟨b, p, none⟩) (q - p) (capR row n - p)) := by
  cases row
  · exact slice_mid ht hd hj hs hp hq hpn hn
  · have hg' : σ.get b = .row c 1 cs := hg
    have hu : ¬ (unk < half) := by unfold unk half; omega
    have hcap : capR true n = unk := rfl
    simp only [sliceQ, ht, hd, hj, hcap]
    rw [if_neg hu]
    have h2 : idx (some (.int .i64 (q : Int))) (n + 1) ((cs.length - 0) / 1) = some q := by
      simp only [idx, hl]
      rw [if_pos ⟨by omega, by omega⟩, Int.toNat_natCast]
    have h3 : idx (some (.int .i64 (p : Int))) 0 q = some p := by
      simp only [idx]
      rw [if_pos ⟨by omega, by omega⟩, Int.toNat_natCast]
    simp only [hg', h2, h3]
    rw [if_pos ⟨by unfold half; omega, Nat.le_refl _, hs.symm, by omega, by omega, by omega⟩, if_pos hpq, if_pos ⟨by omega, by unfold half at *; omega⟩, hs]
    simp only [Nat.mul_one]
    unfold addA
    split
    · rename_i h0; rw [h0]
    · simp

theorem opQ_slice {E : Env} {f : Fr} {σ : St} {t : Nat} {x : Operand} {lo hi mx : Option Operand} {v r : Value} {l h m : Option Value} (hx : opd f x = some v) (hl : opdO f lo = some l) (hh : opdO f hi = some h) (hm : opdO f mx = some m) (hr : sliceQ E σ t v l h m = some r) : opQ E f σ (.slice t x lo hi mx) = some r := by
  simp only [opQ, hx, hl, hh, hm, hr]
theorem opW_clear {E : Env} {f : Fr} {σ σ' : St} {t : Nat} {x : Operand} {v u : Value} {c : Call} (hc : c.callee = .builtin .clear) (ha : c.args.toList = [x]) (ht : c.argTypes.toList = [t]) (hx : opd f x = some v) (hr : clearQ E σ t v = some (u, σ')) : opW E f σ (.call c) = some (some u, σ') := by
  obtain ⟨callee, args, at_⟩ := c
  simp only at hc ha ht
  subst hc
  simp only [opW, ha, ht, hx, hr]

theorem repl_length (l : List Value) : ∀ k, (repl k l).length = k * l.length
  | 0 => by simp [repl]
  | k + 1 => by simp [repl, repl_length l k, Nat.add_mul]; omega

theorem clear_mid {E : Env} {σ : St} {t e : Nat} {i j : TyI} (ht : E.ty t = some i) (hd : i.desc = .slice e) (hj : E.ty e = some j) {b p k m c : Nat} {cs : List Value} {row : Bool} (hk : k ≠ 0) (hg : σ.get b = arrR row c cs) (hl : p + (repl k j.zero.cells.toList).length ≤ cs.length) (h1 : (repl k j.zero.cells.toList).all Value.oneCell' = true) :
    clearQ E σ t (.slice (some ⟨b, p, none⟩) k m) = some (.tuple #[], σ.set b (arrR row c (putAt cs p (repl k j.zero.cells.toList)))) := by
  simp only [clearQ, ht, hd, hj]
  rw [if_neg hk, stCells_arr hg hl h1]

theorem repl_all (f : Value → Bool) (l : List Value) (h : l.all f = true) : ∀ k, (repl k l).all f = true
  | 0 => rfl
  | k + 1 => by simp only [repl, List.all_append, h, repl_all f l h k, Bool.and_self]

/-- Words that are free again are all 0. -/
theorem free74_m (s : HS) (p k : Nat) (h1 : 1 ≤ k) (hk : p + k ≤ s.n + 1) (hs0 : s.MOk) :
    WF M.toEnv 74 [.pointer (some ⟨2, 0, none⟩), .int .i64 p, .int .i64 k] (ms s) (fun r σ' => r = .int .i64 0 ∧ σ' = ms { s with bs := setR (.bool false) s.bs p k, ws := putAt s.ws p (repl k [.int .u64 0]) }) := by
  have hn := hs0.nl
  refine WF.of_VB (fn := Try.f74) Try.func74 rfl rfl (by show 3 ≤ 24; omega) ?_
  refine VB.seq ?_
  apply VB.region
  case hd => rfl
  apply WL.quiet
  case hw => rfl
  case hq => exact rfl
  apply WL.nil
  refine VB.seq ?_
  apply VB.region
  case hd => rfl
  iterate 3
    apply WL.quiet
    case hw => rfl
    case hq => exact rfl
  apply WL.call
  case ho => rfl
  case hw => rfl
  case hc => exact rfl
  refine (set_m s p k false h1 hk hs0).mono fun r σ' _ ⟨e1, e2⟩ => ?_
  subst e1; subst e2
  apply WL.quiet
  case hw => rfl
  case hq => exact rfl
  apply WL.nil
  refine VB.seq (VB.seq ?_)
  apply VB.region
  case hd => rfl
  iterate 2
    apply WL.quiet
    case hw => rfl
    case hq => exact rfl
  apply WL.nil
  apply VB.cond
  case hc => exact rfl
  apply VB.region
  case hd => rfl
  iterate 7
    apply WL.quiet
    case hw => rfl
    case hq => exact rfl
  have hadd : IntKind.i64.wrap ((p : Int) + (k : Int)) = ((p + k : Nat) : Int) := by rw [IntWalk.i64_in _ (by omega)]; omega
  apply WL.quiet
  case hw => rfl
  case hq => exact rfl
  refine WL.quiet (v := .slice (some ⟨5, p, none⟩) (p + k - p) (capR s.row s.n - p)) rfl (opQ_slice rfl rfl rfl rfl (by rw [hadd]; exact slice_arr (i := T87) (j := T89) (e := 89) (b := 5) (n := s.n) (p := p) (q := p + k) (c := 89) (cs := s.ws) (row := s.row) (by kernel_rfl) rfl (by kernel_rfl) rfl rfl hs0.wl (by omega) (by omega) (by omega) (by omega) (by show s.n + 1 < 4611686018427387904; omega))) ?_
  rw [show p + k - p = k by omega]
  apply WL.write
  case hw => rfl
  case hq => exact opW_clear rfl rfl rfl rfl (clear_mid (i := T87) (j := T89) (e := 89) (c := 89) (cs := s.ws) (row := s.row) (by kernel_rfl) rfl (by kernel_rfl) (by omega) rfl (by rw [repl_length]; show p + k * 1 ≤ s.ws.length; rw [hs0.wl]; omega) (repl_all _ _ rfl k))
  apply WL.nil
  refine VB.seq ?_
  apply VB.region
  case hd => rfl
  iterate 2
    apply WL.quiet
    case hw => rfl
    case hq => exact rfl
  apply WL.nil
  exact VB.ret (v := .int .i64 0) rfl Try.func74 rfl ⟨rfl, by kernel_rfl⟩
end
end Go.Proofs.Ytlnlopeodpamdaa.Hx
end

section
/-
  heap's room: the least place for so many words.
-/
set_option maxRecDepth 100000
set_option linter.unusedVariables false
namespace Go.Proofs.Ytlnlopeodpamdaa.Hx
open Go AH Go.Proofs
noncomputable section

/-- The heap's map and what was in it, as they are wanted. -/
structure HS.Good (s : HS) : Prop where
  ok : s.Ok
  st : Stamped s.es s.clock
  sh : Shaped1 s.es
  len : s.es.length ≤ 1048576
  dist : ((s.es.map bvOf).map (·.1)).Nodup
  was : s.wv = .slice none 0 0 ∨ ∃ k c, s.wv = .slice (some ⟨4, 0, none⟩) k c ∧ c ≤ unk

def HS.hv (s : HS) : HV := ⟨2, 1, 3, (match s.wv with | .slice (some _) _ _ => 4 | _ => 0), s.first, s.words, s.bad, s.wv, s.wv, s.es, s.clock⟩

theorem HS.Good.seen {s : HS} (h : s.Good) : Seen (hs s) 0 s.hv := by
  refine ⟨by rw [hs_get]; rfl, by rw [hs_get]; rfl, h.st, h.sh, h.len, h.dist, ?_, ?_, ?_⟩
  · show AH.ren (loc (piH 0 1 2 3 s.hv.r)) s.wv = s.wv
    rcases h.was with e | ⟨k, c, e, hc⟩
    · rw [e]; simp
    · have hr : s.hv.r = 4 := by unfold HS.hv; rw [e]
      rw [e, hr, ren_slice]
      simp only [renA, loc, piH]
      rw [renC_le hc]
      rfl
  · show Fix5 s.wv
    rcases h.was with e | ⟨k, c, e, hc⟩
    · rw [e]; exact ⟨Sc_nilslice _ _ _, fun ρ _ => by simp⟩
    · rw [e]
      refine ⟨Sc_slice (by show 4 < 5; omega), fun ρ hρ => ?_⟩
      rw [ren_slice]
      simp only [renA, hρ 4 (by omega)]
      rw [renC_le hc]
  · show (∃ n c, s.wv = .slice (some ⟨s.hv.r, 0, none⟩) n c) ∨ s.hv.r = 0
    rcases h.was with e | ⟨k, c, e, hc⟩
    · right; unfold HS.hv; rw [e]
    · left
      have hr : s.hv.r = 4 := by unfold HS.hv; rw [e]
      exact ⟨k, c, by rw [hr]; exact e⟩

/-- The blocks, rising. -/
def HS.blocks (s : HS) : List BV := sortB (s.es.map bvOf)

/-- Where the first gap of so many words is; else what is behind the last block. -/
def gap (w : Int) : List BV → Int → Int × Bool
  | [], at_ => (at_, false)
  | b :: r, at_ => if w ≤ b.1 - at_ then (at_, true) else gap w r (b.1 + b.2.1)

theorem encs_drop : ∀ (l : List BV) (j : Nat) (h : j < l.length), ((encs l).drop (j * 4)).take 4 = encB l[j]
  | [], j, h => by simp at h
  | x :: r, 0, h => by
    have e : (encs (x :: r)) = encB x ++ encs r := rfl
    rw [e, Nat.zero_mul, List.drop_zero]
    rfl
  | x :: r, j + 1, h => by
    have e : (encs (x :: r)) = encB x ++ encs r := rfl
    have hx : (encB x).length = 4 := rfl
    rw [e, show (j + 1) * 4 = 4 + j * 4 by omega, ← List.drop_drop, List.drop_left' hx]
    exact encs_drop r j (by simpa using h)

def hsR (s : HS) (l : List BV) : St := (⟨8, .leaf⟩ : St) |>.set 0 (.cells 83 [.pointer (some ⟨2, 0, none⟩), .int .i64 s.first, .int .i64 s.words, .map (some 1), .map (some 3), s.wv, .int .i64 s.bad]) |>.set 1 (.map s.es s.clock) |>.set 2 (.cells 107 (.slice (some ⟨5, 0, none⟩) (s.n + 1) (capR s.row s.n) :: .slice (some ⟨6, 0, none⟩) (s.n + 1) (capR s.row s.n) :: s.cs)) |>.set 3 (.map s.gs s.gclock) |>.set 4 s.wb |>.set 5 (arrR s.row 89 s.ws) |>.set 6 (arrR s.row 4 s.bs) |>.set 7 (.row 74 4 (encs l))
theorem hsR_get (s : HS) (l : List BV) (i : Nat) : (hsR s l).get i = if 7 = i then .row 74 4 (encs l) else (hs s).get i := by
  rw [hs_get]
  simp only [hsR, St.get_set]
  rfl

def hsA (s : HS) (l : List BV) (cs : List Value) : St := (⟨9, .leaf⟩ : St) |>.set 0 (.cells 83 [.pointer (some ⟨2, 0, none⟩), .int .i64 s.first, .int .i64 s.words, .map (some 1), .map (some 3), s.wv, .int .i64 s.bad]) |>.set 1 (.map s.es s.clock) |>.set 2 (.cells 107 (.slice (some ⟨5, 0, none⟩) (s.n + 1) (capR s.row s.n) :: .slice (some ⟨6, 0, none⟩) (s.n + 1) (capR s.row s.n) :: s.cs)) |>.set 3 (.map s.gs s.gclock) |>.set 4 s.wb |>.set 5 (arrR s.row 89 s.ws) |>.set 6 (arrR s.row 4 s.bs) |>.set 7 (.row 74 4 (encs l)) |>.set 8 (.cells 74 cs)
theorem hsA_get (s : HS) (l : List BV) (cs : List Value) (i : Nat) : (hsA s l cs).get i = if 8 = i then .cells 74 cs else (hsR s l).get i := by
  rw [hsR_get, hs_get]
  simp only [hsA, St.get_set]
  rfl
theorem hsR_wf {s : HS} (h : s.Ok) (l : List BV) {w a : Int} {j : Nat} : Wf (frL [(0, .pointer (some ⟨0, 0, none⟩)), (1, .int .i64 w), (6, .int .i64 a), (14, .slice (some ⟨7, 0, none⟩) l.length unk), (15, .int .i64 (l.length : Nat)), (16, .int .i64 (j : Nat))]) (hsR s l) := by
  refine ⟨fun i => ?_, fun i hi => ?_, fun t v ht => ?_⟩
  · rw [hsR_get]
    split
    · exact encs_sc l _
    · exact hs_sc h i _ (by show 7 ≤ 8; omega)
  · rw [hsR_get] at hi
    show i < 8
    by_cases h7 : 7 = i
    · omega
    · rw [if_neg h7] at hi; have := hs_live hi; omega
  · have := frL_mem ht
    simp only [List.mem_cons, Prod.mk.injEq, List.not_mem_nil, or_false] at this
    rcases this with ⟨_, rfl⟩ | ⟨_, rfl⟩ | ⟨_, rfl⟩ | ⟨_, rfl⟩ | ⟨_, rfl⟩ | ⟨_, rfl⟩
    · exact Sc_ptr (by show 0 < 8; omega)
    · exact Sc_int _ _ _
    · exact Sc_int _ _ _
    · exact Sc_slice (by show 7 < 8; omega)
    · exact Sc_int _ _ _
    · exact Sc_int _ _ _

theorem indexA_ok {E : Env} {f : Fr} {σ : St} {t e b len c k : Nat} {x y : Operand} {i j : TyI} (hx : opd f x = some (.slice (some ⟨b, 0, none⟩) len c)) (hy : opd f y = some (.int .i64 (k : Nat))) (ht : E.ty t = some i) (hd : i.desc = .slice e) (hj : E.ty e = some j) (hk : k < len) : opQ E f σ (.indexAddr t x y) = some (.pointer (some ⟨b, k * j.size, none⟩)) := by
  simp only [opQ, hx, hy, indexAddrQ, ht, hd, hj]
  rw [if_pos ⟨by omega, by omega⟩, Int.toNat_natCast]
  unfold addA
  split
  · rename_i h0; rw [h0]
  · simp

theorem ld_row {σ : St} {b : Nat} {l : List BV} {j : Nat} (hg : σ.get b = .row 74 4 (encs l)) (hj : j < l.length) : ldVar T74 σ ⟨b, j * 4, none⟩ = some (.agg (encB l[j]).toArray) := by
  have hk : (σ.get b).known = some (encs l) := by rw [hg]; rfl
  have hle : Nat.ble (j * 4 + 4) (encs l).length = true := Nat.ble_eq_true_of_le (by rw [encs_length]; omega)
  have hc : ldCells σ ⟨b, j * 4, none⟩ 4 = some (encB l[j]) := by
    simp only [ldCells, hk]
    rw [hle]
    show some (((encs l).drop (j * 4)).take 4) = _
    rw [encs_drop l j hj]
  show (match ldCells σ ⟨b, j * 4, none⟩ 4 with | some l => some (Value.agg l.toArray) | none => none) = _
  rw [hc]

/-- All sums that are reckoned fit. -/
structure Fits (s : HS) (w : Int) : Prop where
  first : 0 ≤ s.first ∧ s.first ≤ 2305843009213693951
  words : 0 ≤ s.words ∧ s.words ≤ 2305843009213693951
  w : 0 ≤ w ∧ w ≤ 4611686018427387904
  blk : ∀ b ∈ s.blocks, 0 ≤ b.1 ∧ b.1 ≤ 2305843009213693951 ∧ 0 ≤ b.2.1 ∧ b.2.1 ≤ 2305843009213693951

theorem room_raw (s : HS) (w : Int) (hg : s.Good) (hf : Fits s w) :
    WF M.toEnv 73 [.pointer (some ⟨0, 0, none⟩), .int .i64 w] (hs s) (fun r σ' => (r = .tuple #[.int .i64 (gap w s.blocks s.first).1, .bool ((gap w s.blocks s.first).2 || decide (w ≤ s.first + s.words - (gap w s.blocks s.first).1))] ∧ Sc 7 r) ∧ ∀ i, i < 7 → σ'.get i = (hs s).get i) := by
  refine WF.of_VB (fn := Try.f73) Try.func73 rfl rfl (by show 2 ≤ 47; omega) ?_
  refine VB.seq ?_
  apply VB.region
  case hd => rfl
  iterate 2
    apply WL.quiet
    case hw => rfl
    case hq => exact rfl
  apply WL.nil
  refine VB.seq ?_
  apply VB.region
  case hd => rfl
  iterate 5
    apply WL.quiet
    case hw => rfl
    case hq => exact rfl
  apply WL.nil
  refine VB.seq (VB.seq ?_)
  apply VB.region
  case hd => rfl
  apply WL.quiet
  case hw => rfl
  case hq => exact rfl
  apply WL.call
  case ho => rfl
  case hw => rfl
  case hc => exact rfl
  refine (blocksG hg.seen).mono fun r σ' _ ⟨e1, e2⟩ => ?_
  subst e1; subst e2
  have hfit1 : IntKind.i64.wrap (s.first + s.words) = s.first + s.words := IntWalk.i64_in _ (by have := hf.first; have := hf.words; omega)
  show WL M _ _ _ _ (blocksV (hs s) s.blocks).2 _
  have hv1 : (blocksV (hs s) (sortB (s.hv.es.map bvOf))).1 = (blocksV (hs s) s.blocks).1 := rfl
  rw [hv1]
  cases hl : s.blocks with
  | nil =>
    apply WL.quiet
    case hw => rfl
    case hq => exact rfl
    apply WL.quiet
    case hw => rfl
    case hq => exact rfl
    apply WL.nil
    refine VB.of_VM (((runKO_sound ev0_ok (ov := fun _ => none) (n := 200) (p := True) (p' := True) (r := .tuple #[.int .i64 s.first, .bool (leI w (IntKind.i64.wrap (IntKind.i64.wrap (s.first + s.words) - s.first)))]) (σ' := hs s) Try.func73 (by kernel_rfl)).2 trivial).mono fun r σ' _ ⟨e1, e2⟩ => ?_)
    subst e1; subst e2
    refine ⟨⟨?_, Sc_tuple.2 fun v hv => ?_⟩, fun i _ => rfl⟩
    · simp only [gap, Bool.false_or]
      rw [hfit1, IntWalk.i64_in _ (by have := hf.words; omega), leI_eq]
      rfl
    · simp only [List.mem_cons, List.not_mem_nil, or_false] at hv
      rcases hv with rfl | rfl <;> first | exact Sc_int _ _ _ | exact Sc_bool _ _
  | cons x t =>
    generalize hL : x :: t = l at *
    have hbv : blocksV (hs s) l = (.slice (some ⟨7, 0, none⟩) l.length unk, (hs s).push (.row 74 4 (encs l))) := by subst hL; rfl
    rw [hbv]
    apply WL.quiet
    case hw => rfl
    case hq => exact rfl
    apply WL.quiet
    case hw => rfl
    case hq => exact rfl
    apply WL.nil
    refine VB.block ?_
    refine vs_cast (σ' := hsR s l) (by kernel_rfl) ?_
    refine VB.trim [(0, .pointer (some ⟨0, 0, none⟩)), (1, .int .i64 w), (6, .int .i64 s.first), (14, .slice (some ⟨7, 0, none⟩) l.length unk), (15, .int .i64 (l.length : Nat)), (16, .int .i64 (0 : Nat))] (by
      intro p hp
      simp only [List.mem_cons, List.not_mem_nil, or_false] at hp
      rcases hp with rfl | rfl | rfl | rfl | rfl | rfl <;> (dsimp only; exact rfl)) rfl ?_
    refine VB.loop (fun f σ => ∃ (j : Nat) (a : Int), j ≤ l.length ∧ f = frL [(0, .pointer (some ⟨0, 0, none⟩)), (1, .int .i64 w), (6, .int .i64 a), (14, .slice (some ⟨7, 0, none⟩) l.length unk), (15, .int .i64 (l.length : Nat)), (16, .int .i64 (j : Nat))] ∧ σ = hsR s l ∧ gap w (l.drop j) a = gap w l s.first ∧ 0 ≤ a ∧ a ≤ 4611686018427387904)
      (fun f σ => l.length - (match f.get 16 with | some (.int _ i) => i.toNat | _ => 0)) ⟨0, s.first, by omega, rfl, rfl, rfl, by have := hf.first; omega, by have := hf.first; omega⟩ ?_
    intro f σ ⟨j, a, hj, hfr, hσ, hgap, ha0, ha1⟩ ih
    subst hfr; subst hσ
    refine VB.seq ?_
    apply VB.region
    case hd => rfl
    apply WL.quiet
    case hw => rfl
    case hq => exact rfl
    apply WL.nil
    refine VB.seq ?_
    refine VB.cond_split (t := ltI ((j : Nat) : Int) ((l.length : Nat) : Int)) rfl (fun ht => ?_) (fun ht => ?_)
    · rw [ltI_eq, decide_eq_true_eq] at ht
      have hjl : j < l.length := by omega
      have hb := hf.blk l[j] (by rw [hl]; exact List.getElem_mem hjl)
      have hdrop : l.drop j = l[j] :: l.drop (j + 1) := List.drop_eq_getElem_cons hjl
      rw [hdrop] at hgap
      refine VB.skip (VB.seq (VB.block (VB.seq ?_)))
      apply VB.region
      case hd => rfl
      refine WL.quiet (v := .pointer (some ⟨7, j * 4, none⟩)) rfl (indexA_ok (i := T68) (j := T74) (e := 74) (k := j) rfl rfl (by kernel_rfl) rfl (by kernel_rfl) hjl) ?_
      refine WL.quiet (v := .agg (encB l[j]).toArray) rfl (opQ_load (i := T74) (ad := ⟨7, j * 4, none⟩) rfl (by kernel_rfl) (ld_row (l := l) (by rw [hsR_get, if_pos rfl]) hjl)) ?_
      refine WL.write (r := some (.pointer (some ⟨8, 0, none⟩))) (σ' := hsA s l [.int .i64 0, .int .i64 0, .int .i64 0, .bool false]) rfl (by kernel_rfl) ?_
      refine WL.write (r := none) (σ' := hsA s l (encB l[j])) rfl (by kernel_rfl) ?_
      apply WL.nil
      refine VB.seq (VB.seq ?_)
      apply VB.region
      case hd => rfl
      iterate 6
        apply WL.quiet
        case hw => rfl
        case hq => exact rfl
      apply WL.nil
      have hsub : IntKind.i64.wrap (l[j].1 - a) = l[j].1 - a := IntWalk.i64_in _ (by omega)
      refine VB.cond_split (t := leI w (IntKind.i64.wrap (l[j].1 - a))) rfl (fun ht2 => ?_) (fun ht2 => ?_)
      · rw [hsub, leI_eq, decide_eq_true_eq] at ht2
        rw [gap, if_pos ht2] at hgap
        refine VB.seq ?_
        apply VB.region
        case hd => rfl
        iterate 3
          apply WL.quiet
          case hw => rfl
          case hq => exact rfl
        apply WL.nil
        refine VB.ret (v := .tuple #[.int .i64 a, .bool true]) rfl Try.func73 rfl ⟨⟨?_, Sc_tuple.2 fun v hv => ?_⟩, fun i hi => ?_⟩
        · rw [← hgap]; rfl
        · simp only [List.mem_cons, List.not_mem_nil, or_false] at hv
          rcases hv with rfl | rfl <;> first | exact Sc_int _ _ _ | exact Sc_bool _ _
        · rw [hsA_get, if_neg (by omega), hsR_get, if_neg (by omega)]
      · rw [hsub, leI_eq, decide_eq_false_iff_not] at ht2
        rw [gap, if_neg ht2] at hgap
        refine VB.skip ?_
        apply VB.region
        case hd => rfl
        iterate 6
          apply WL.quiet
          case hw => rfl
          case hq => exact rfl
        apply WL.nil
        refine VB.inBlock ?_
        apply VB.region
        case hd => rfl
        iterate 2
          apply WL.quiet
          case hw => rfl
          case hq => exact rfl
        apply WL.nil
        have hadd : IntKind.i64.wrap (l[j].1 + l[j].2.1) = l[j].1 + l[j].2.1 := IntWalk.i64_in _ (by omega)
        have hll : l.length ≤ 1048576 := by
          rw [← hl]
          show (sortB (s.es.map bvOf)).length ≤ _
          rw [(sortB_perm _).length_eq, List.length_map]
          exact hg.len
        have hinc : IntKind.i64.wrap ((j : Int) + 1) = ((j + 1 : Nat) : Int) := by rw [IntWalk.i64_in _ (by omega)]; omega
        refine VB.cut [(0, .pointer (some ⟨0, 0, none⟩)), (1, .int .i64 w), (6, .int .i64 (l[j].1 + l[j].2.1)), (14, .slice (some ⟨7, 0, none⟩) l.length unk), (15, .int .i64 (l.length : Nat)), (16, .int .i64 (j + 1 : Nat))] (hsR s l) (by
          intro p hp
          simp only [List.mem_cons, List.not_mem_nil, or_false] at hp
          rcases hp with rfl | rfl | rfl | rfl | rfl | rfl
          · dsimp only; exact rfl
          · dsimp only; exact rfl
          · dsimp only
            refine Eq.trans (b := some (Value.int .i64 (IntKind.i64.wrap (l[j].1 + l[j].2.1)))) ?_ (by rw [hadd])
            exact rfl
          · dsimp only; exact rfl
          · dsimp only; exact rfl
          · dsimp only; rw [← hinc]; exact rfl) rfl (hsR_wf hg.ok l) (by show 7 ≤ 8; omega) (fun i => ?_) (ih _ _ ⟨j + 1, _, by omega, rfl, rfl, hgap, by omega, by omega⟩ ?_)
        · rw [hsA_get]
          by_cases h8 : 8 = i
          · subst h8; exact .inr rfl
          · rw [if_neg h8]; exact .inl rfl
        · show l.length - (((j + 1 : Nat) : Int)).toNat < l.length - ((j : Nat) : Int).toNat
          omega
    · rw [ltI_eq, decide_eq_false_iff_not] at ht
      have hjl : j = l.length := by omega
      subst hjl
      rw [List.drop_length] at hgap
      apply VB.exit
      case hx => exact rfl
      refine VB.of_VM (((runKO_sound ev0_ok (ov := fun _ => none) (n := 200) (p := True) (p' := True) (r := .tuple #[.int .i64 a, .bool (leI w (IntKind.i64.wrap (IntKind.i64.wrap (s.first + s.words) - a)))]) (σ' := hsR s l) Try.func73 (by kernel_rfl)).2 trivial).mono fun r σ' _ ⟨e1, e2⟩ => ?_)
      subst e1; subst e2
      refine ⟨⟨?_, Sc_tuple.2 fun v hv => ?_⟩, fun i hi => by rw [hsR_get, if_neg (by omega)]⟩
      · rw [← hgap]
        simp only [gap, Bool.false_or]
        rw [hfit1, IntWalk.i64_in _ (by have := hf.words; have := hf.first; omega), leI_eq]
        rfl
      · simp only [List.mem_cons, List.not_mem_nil, or_false] at hv
        rcases hv with rfl | rfl <;> first | exact Sc_int _ _ _ | exact Sc_bool _ _

theorem room_ok (s : HS) (w : Int) (hg : s.Good) (hf : Fits s w) :
    WF M.toEnv 73 [.pointer (some ⟨0, 0, none⟩), .int .i64 w] (hs s) (fun r σ' => r = .tuple #[.int .i64 (gap w s.blocks s.first).1, .bool ((gap w s.blocks s.first).2 || decide (w ≤ s.first + s.words - (gap w s.blocks s.first).1))] ∧ σ' = hs s) :=
  WF.gc (room_raw s w hg hf)
end
end Go.Proofs.Ytlnlopeodpamdaa.Hx
end

section
/-
  mem's Bar and Free in any state that has the memory.
-/
set_option maxRecDepth 100000
set_option linter.unusedVariables false
namespace Go.Proofs.Ytlnlopeodpamdaa.Hx
open Go AH Go.Proofs
noncomputable section

theorem setR_sc {n : Nat} {v : Value} {l : List Value} (hl : Scs n l) (hv : Sc n v) (p : Nat) : ∀ k, Scs n (setR v l p k)
  | 0 => hl
  | k + 1 => putAt_sc (setR_sc hl hv p k) fun u hu => by simp only [List.mem_singleton] at hu; rw [hu]; exact hv
theorem setR_len (v : Value) (l : List Value) (p : Nat) : ∀ k, (setR v l p k).length = l.length
  | 0 => rfl
  | k + 1 => by rw [setR, putAt_length, setR_len v l p k]
theorem setR_map {v : Value} {l : List Value} {ρ : Nat → AH.Loc} (hl : l.map (AH.ren ρ) = l) (hv : AH.ren ρ v = v) (p : Nat) : ∀ k, (setR v l p k).map (AH.ren ρ) = setR v l p k
  | 0 => hl
  | k + 1 => by rw [setR, putAt_map, setR_map hl hv p k, List.map_cons, List.map_nil, hv]
theorem repl_map {v : Value} {ρ : Nat → AH.Loc} (hv : AH.ren ρ v = v) : ∀ k, (repl k [v]).map (AH.ren ρ) = repl k [v]
  | 0 => rfl
  | k + 1 => by rw [repl, List.map_append, repl_map hv k, List.map_cons, List.map_nil, hv]
theorem repl_sc {v : Value} {n : Nat} (hv : Sc n v) : ∀ k, Scs n (repl k [v])
  | 0 => fun u hu => by simp [repl] at hu
  | k + 1 => fun u hu => by
    rcases List.mem_append.1 hu with hu | hu
    · simp only [List.mem_singleton] at hu; rw [hu]; exact hv
    · exact repl_sc hv k u hu

def barS (s : HS) (p k : Nat) : HS := { s with bs := setR (.bool true) s.bs p k }
def freeS (s : HS) (p k : Nat) : HS := { s with bs := setR (.bool false) s.bs p k, ws := putAt s.ws p (repl k [.int .u64 0]) }
theorem barS_ok {s : HS} (h : s.MOk) (p k : Nat) : (barS s p k).MOk := ⟨h.cs, h.ws, setR_sc h.bs (Sc_bool _ _) p k, h.cl, h.wl, (setR_len _ _ _ _).trans h.bl, h.nl⟩
theorem freeS_ok {s : HS} (h : s.MOk) (p k : Nat) : (freeS s p k).MOk := ⟨h.cs, putAt_sc h.ws (repl_sc (Sc_int _ _ _) k), setR_sc h.bs (Sc_bool _ _) p k, h.cl, (putAt_length _ _ _).trans h.wl, (setR_len _ _ _ _).trans h.bl, h.nl⟩
theorem barS_flat {s : HS} (h : s.MFlat) (p k : Nat) : (barS s p k).MFlat := ⟨h.cs, h.ws, setR_map h.bs (by simp) p k, h.n⟩
theorem freeS_flat {s : HS} (h : s.MFlat) (p k : Nat) : (freeS s p k).MFlat := ⟨h.cs, (putAt_map _ _ _ _).trans (by rw [h.ws, repl_map (by simp)]; rfl), setR_map h.bs (by simp) p k, h.n⟩

theorem args3 (a k : Int) : Scs 7 [.pointer (some ⟨2, 0, none⟩), .int .i64 a, .int .i64 k] := fun u hu => by
  simp only [List.mem_cons, List.not_mem_nil, or_false] at hu
  rcases hu with rfl | rfl | rfl
  · exact Sc_ptr (by show 2 < 7; omega)
  · exact Sc_int _ _ _
  · exact Sc_int _ _ _
theorem ren3 (a k : Int) : ([.pointer (some ⟨2, 0, none⟩), .int .i64 a, .int .i64 k] : List Value).map (AH.ren (loc id)) = [.pointer (some ⟨2, 0, none⟩), .int .i64 a, .int .i64 k] := by simp [renA, loc]

/-- Bars are set. -/
theorem bar_m (s : HS) (p k : Nat) (h1 : 1 ≤ k) (hk : p + k ≤ s.n + 1) (hs0 : s.MOk) :
    WF M.toEnv 71 [.pointer (some ⟨2, 0, none⟩), .int .i64 p, .int .i64 k] (ms s) (fun r σ' => r = .int .i64 0 ∧ σ' = ms (barS s p k)) :=
  WF.run ev0_ok (giv := givL [(10, .c (.int .i64 0) (ms (barS s p k)))]) (n := 100) (fn := Try.f71)
    (p' := True ∧ WF M.toEnv 100 [.pointer (some ⟨2, 0, none⟩), .int .i64 p, .int .i64 k, .bool true] (ms s) (fun r σ' => r = .int .i64 0 ∧ σ' = ms (barS s p k))) Try.func71 rfl (by kernel_rfl) ⟨trivial, set_m s p k true h1 hk hs0⟩

theorem bar_any {s : HS} {σ : St} (p k : Nat) (h1 : 1 ≤ k) (hk : p + k ≤ s.n + 1) (h0 : s.MOk) (f0 : s.MFlat) (h7 : 7 ≤ σ.next) (g2 : σ.get 2 = (ms s).get 2) (g5 : σ.get 5 = (ms s).get 5) (g6 : σ.get 6 = (ms s).get 6) :
    WF M.toEnv 71 [.pointer (some ⟨2, 0, none⟩), .int .i64 p, .int .i64 k] σ (fun r σ' => r = .int .i64 0 ∧ σ' = putM (barS s p k) σ) :=
  liftM h0 f0 (barS_ok h0 p k) (barS_flat f0 p k) h7 g2 g5 g6 (args3 _ _) (ren3 _ _) (fun ρ => by simp) (bar_m s p k h1 hk h0)
theorem free_any {s : HS} {σ : St} (p k : Nat) (h1 : 1 ≤ k) (hk : p + k ≤ s.n + 1) (h0 : s.MOk) (f0 : s.MFlat) (h7 : 7 ≤ σ.next) (g2 : σ.get 2 = (ms s).get 2) (g5 : σ.get 5 = (ms s).get 5) (g6 : σ.get 6 = (ms s).get 6) :
    WF M.toEnv 74 [.pointer (some ⟨2, 0, none⟩), .int .i64 p, .int .i64 k] σ (fun r σ' => r = .int .i64 0 ∧ σ' = putM (freeS s p k) σ) :=
  liftM h0 f0 (freeS_ok h0 p k) (freeS_flat f0 p k) h7 g2 g5 g6 (args3 _ _) (ren3 _ _) (fun ρ => by simp) (free74_m s p k h1 hk h0)
theorem free_hs {s : HS} (p k : Nat) (h1 : 1 ≤ k) (hk : p + k ≤ s.n + 1) (h0 : s.MOk) (f0 : s.MFlat) :
    WF M.toEnv 74 [.pointer (some ⟨2, 0, none⟩), .int .i64 p, .int .i64 k] (hs s) (fun r σ' => r = .int .i64 0 ∧ σ' = hs { s with bs := setR (.bool false) s.bs p k, ws := putAt s.ws p (repl k [.int .u64 0]) }) :=
  (free_any (s := s) (σ := hs s) p k h1 hk h0 f0 (by show 7 ≤ 7; omega) rfl rfl rfl).mono fun r σ' _ ⟨e1, e2⟩ => ⟨e1, e2.trans (by kernel_rfl)⟩
end
end Go.Proofs.Ytlnlopeodpamdaa.Hx
end

section
/-
  heap's Take, where there is room.
-/
set_option maxRecDepth 100000
set_option linter.unusedVariables false
namespace Go.Proofs.Ytlnlopeodpamdaa.Hx
open Go AH Go.Proofs
noncomputable section

/-- An entry's place in a map from whole numbers. -/
def findI (a : Int) : List MapEntry → Nat → Option (Nat × Value)
  | [], _ => none
  | e :: es, i => match e.key with
    | .int _ z => if a = z then some (i, e.val) else findI a es (i + 1)
    | _ => findI a es (i + 1)
theorem findQ_int {es : List MapEntry} (a : Int) (h : ∀ e ∈ es, ∃ z, e.key = .int .i64 z) : ∀ i, findQ (.int .i64) (.int .i64 a) es i = some (findI a es i) := by
  induction es with
  | nil => intro i; rfl
  | cons e r ih =>
    intro i
    obtain ⟨z, hz⟩ := h e (by simp)
    have := ih (fun e he => h e (by simp [he])) (i + 1)
    have hs : Instr.sameNow (.int .i64) (.int .i64 a) (.int .i64 z) = some (decide (a = z)) := rfl
    simp only [findQ, findI, hz, hs]
    by_cases haz : a = z
    · rw [decide_eq_true haz, if_pos haz]
    · rw [decide_eq_false haz, if_neg haz]
      exact this
def ShapedG (gs : List MapEntry) : Prop := ∀ e ∈ gs, ∃ a n, e.key = .int .i64 a ∧ e.val = .int .i64 n ∧ 0 ≤ n ∧ n ≤ 1152921504606846976
/-- How often a block began there. -/
def genOf (gs : List MapEntry) (a : Int) : Int := match findI a gs 0 with
  | some (_, .int _ n) => n
  | _ => 0
def gensUp (gs : List MapEntry) (c : Nat) (a : Int) : List MapEntry × Nat := match findI a gs 0 with
  | some (j, _) => (gs.modify j fun e => { e with key := .int .i64 a, val := .int .i64 (genOf gs a + 1) }, c)
  | none => (gs ++ [{ key := .int .i64 a, val := .int .i64 1, born := c }], c + 1)
theorem findI_val {gs : List MapEntry} (h : ShapedG gs) (a : Int) : ∀ i j v, findI a gs i = some (j, v) → ∃ n, v = .int .i64 n ∧ 0 ≤ n ∧ n ≤ 1152921504606846976 := by
  induction gs with
  | nil => intro i j v h; cases h
  | cons e r ih =>
    intro i j v hf
    obtain ⟨z, n, hz, hv, h0, h1⟩ := h e (by simp)
    simp only [findI, hz] at hf
    split at hf
    · simp only [Option.some.injEq, Prod.mk.injEq] at hf
      exact ⟨n, by rw [← hf.2, hv], h0, h1⟩
    · exact ih (fun e he => h e (by simp [he])) _ _ _ hf

/-- The heap behind a Take of k words at p. -/
def takeS (s : HS) (p k : Nat) : HS := { s with
  es := s.es ++ [{ key := .int .i64 p, val := blkV p k (genOf s.gs p) true, born := s.clock }], clock := s.clock + 1
  gs := (gensUp s.gs s.gclock p).1, gclock := (gensUp s.gs s.gclock p).2
  bs := setR (.bool false) s.bs p k, ws := putAt s.ws p (repl k [.int .u64 0]) }

def T80 : TyI := { desc := .map 3 74, size := 1, bytes := 8, zero := .map none, eqok := true }
theorem shaped_keys {es : List MapEntry} (h : Shaped1 es) : ∀ e ∈ es, ∃ z, e.key = .int .i64 z := fun e he => by
  obtain ⟨a, _, _, _, _, hk, _⟩ := h e he
  exact ⟨a, hk⟩
theorem shapedG_keys {es : List MapEntry} (h : ShapedG es) : ∀ e ∈ es, ∃ z, e.key = .int .i64 z := fun e he => by
  obtain ⟨a, _, hk, _⟩ := h e he
  exact ⟨a, hk⟩

theorem opQ_lookup {E : Env} {f : Fr} {σ : St} {t : Nat} {x k : Operand} {ok : Bool} {m v r : Value} (hx : opd f x = some m) (hk : opd f k = some v) (hr : lookupQ E σ t m v ok = some r) : opQ E f σ (.lookup t x k ok) = some r := by
  simp only [opQ, hx, hk, hr]
theorem opW_mapUpdate {E : Env} {f : Fr} {σ σ' : St} {t : Nat} {m k x : Operand} {vm vk vx : Value} (hm : opd f m = some vm) (hk : opd f k = some vk) (hx : opd f x = some vx) (hr : mapUpdQ E σ t vm vk vx = some σ') : opW E f σ (.mapUpdate t m k x) = some (none, σ') := by
  simp only [opW, hm, hk, hx, hr]
def T81 : TyI := { desc := .map 3 3, size := 1, bytes := 8, zero := .map none, eqok := true }
def T3 : TyI := { desc := .int .i64, size := 1, bytes := 8, zero := .int .i64 0, eqok := true }
theorem ty3 : M.toEnv.ty 3 = some T3 := by kernel_rfl
theorem ty74 : M.toEnv.ty 74 = some T74 := by kernel_rfl
theorem ty80 : M.toEnv.ty 80 = some T80 := by kernel_rfl
theorem ty81 : M.toEnv.ty 81 = some T81 := by kernel_rfl
theorem keyOk3 (a : Int) : keyOk M.toEnv 3 (.int .i64 a) = true := by
  simp only [keyOk, ty3]
  rfl
theorem lookupG {σ : St} {r c : Nat} {gs : List MapEntry} {a : Int} (hg : σ.get r = .map gs c) (hG : ShapedG gs) : lookupQ M.toEnv σ 81 (.map (some r)) (.int .i64 a) false = some (.int .i64 (genOf gs a)) := by
  have hd : T81.desc = .map 3 3 := rfl
  simp only [lookupQ, ty81, hd, ty3, keyOk3, hg]
  have hq := findQ_int a (shapedG_keys hG) 0
  rw [show T3.desc = .int .i64 from rfl, hq]
  cases hf : findI a gs 0 with
  | none => simp only [genOf, hf]; rfl
  | some p =>
    obtain ⟨j, v⟩ := p
    obtain ⟨n, rfl, _⟩ := findI_val hG a _ _ _ hf
    simp only [genOf, hf]
    rfl
theorem mapUpd_new {σ : St} {r c : Nat} {es : List MapEntry} {a : Int} {v : Value} (hg : σ.get r = .map es c) (hk : ∀ e ∈ es, ∃ z, e.key = .int .i64 z) (hf : findI a es 0 = none) : mapUpdQ M.toEnv σ 80 (.map (some r)) (.int .i64 a) v = some (σ.set r (.map (es ++ [{ key := .int .i64 a, val := v, born := c }]) (c + 1))) := by
  have hd : T80.desc = .map 3 74 := rfl
  simp only [mapUpdQ, ty80, hd, ty3, keyOk3, hg]
  have hq := findQ_int a hk 0
  rw [show T3.desc = .int .i64 from rfl, hq, hf]

theorem mapUpd_gens {σ : St} {r c : Nat} {gs : List MapEntry} {a : Int} (hg : σ.get r = .map gs c) (hG : ShapedG gs) : mapUpdQ M.toEnv σ 81 (.map (some r)) (.int .i64 a) (.int .i64 (genOf gs a + 1)) = some (σ.set r (.map (gensUp gs c a).1 (gensUp gs c a).2)) := by
  have hd : T81.desc = .map 3 3 := rfl
  simp only [mapUpdQ, ty81, hd, ty3, keyOk3, hg]
  have hq := findQ_int a (shapedG_keys hG) 0
  rw [show T3.desc = .int .i64 from rfl, hq]
  cases hf : findI a gs 0 with
  | none =>
    have h0 : genOf gs a = 0 := by simp only [genOf, hf]
    simp only [gensUp, hf, h0]
    rfl
  | some p =>
    obtain ⟨j, v⟩ := p
    simp only [gensUp, hf]
theorem genOf_le {gs : List MapEntry} (hG : ShapedG gs) (a : Int) : 0 ≤ genOf gs a ∧ genOf gs a ≤ 1152921504606846976 := by
  unfold genOf
  cases hf : findI a gs 0 with
  | none => exact ⟨by simp, by simp⟩
  | some p =>
    obtain ⟨j, v⟩ := p
    obtain ⟨n, rfl, h0, h1⟩ := findI_val hG a _ _ _ hf
    exact ⟨h0, h1⟩

theorem take_ok (s : HS) (w : Int) (p k : Nat) (h1 : 1 ≤ w) (h2 : w ≤ 65536) (hk : w + w.tmod 2 = k) (hg : s.Good) (hG : ShapedG s.gs) (hf : Fits s k) (hp : (gap k s.blocks s.first).1 = p) (hroom : ((gap k s.blocks s.first).2 || decide ((k : Int) ≤ s.first + s.words - p)) = true) (hin : p + k ≤ s.n + 1) (hc : s.es.length < 1024) (hfl : s.MFlat) (habs : findI p s.es 0 = none) :
    WF M.toEnv 27 [.pointer (some ⟨0, 0, none⟩), .int .i64 w] (hs s) (fun r σ' => r = .tuple #[.int .i64 p, .int .i64 0] ∧ σ' = hs (takeS s p k)) := by
  refine WF.of_VB (fn := Try.f27) Try.func27 rfl rfl (by show 2 ≤ 67; omega) ?_
  refine VB.seq ?_
  apply VB.region
  case hd => rfl
  iterate 2
    apply WL.quiet
    case hw => rfl
    case hq => exact rfl
  apply WL.nil
  refine VB.seq (VB.block (VB.seq ?_))
  apply VB.region
  case hd => rfl
  apply WL.quiet
  case hw => rfl
  case hq => exact rfl
  apply WL.call
  case ho => rfl
  case hw => rfl
  case hc => exact rfl
  refine (ev0_ok _ _ _ (.bool false) (hs s) (by kernel_rfl)).mono fun r σ' _ ⟨e1, e2⟩ => ?_
  subst e1; subst e2
  apply WL.quiet
  case hw => rfl
  case hq => exact rfl
  apply WL.nil
  apply VB.cond
  case hc => exact rfl
  refine VB.seq ?_
  apply VB.region
  case hd => rfl
  apply WL.quiet
  case hw => rfl
  case hq => exact rfl
  refine WL.quiet (v := .bool false) rfl (by show some (Value.bool (ltI w 1)) = _; rw [ltI_eq, decide_eq_false (by omega)]) ?_
  apply WL.quiet
  case hw => rfl
  case hq => exact rfl
  apply WL.quiet
  case hw => rfl
  case hq => exact rfl
  refine WL.quiet (v := .bool false) rfl (by show some (Value.bool (ltI 65536 w)) = _; rw [ltI_eq, decide_eq_false (by omega)]) ?_
  iterate 2
    apply WL.quiet
    case hw => rfl
    case hq => exact rfl
  apply WL.nil
  apply VB.cond
  case hc => exact rfl
  refine VB.skip (VB.inBlock ?_)
  refine VB.seq ?_
  apply VB.region
  case hd => rfl
  iterate 3
    apply WL.quiet
    case hw => rfl
    case hq => exact rfl
  have hwk : IntKind.i64.wrap (w + w.tmod 2) = (k : Int) := by
    rw [hk]; exact IntWalk.i64_in _ (by have := hf.w; omega)
  refine WL.quiet (v := .int .i64 (k : Int)) rfl (by rw [← hwk]; exact rfl) ?_
  apply WL.quiet
  case hw => rfl
  case hq => exact rfl
  apply WL.nil
  refine VB.seq ?_
  apply VB.region
  case hd => rfl
  iterate 2
    apply WL.quiet
    case hw => rfl
    case hq => exact rfl
  apply WL.call
  case ho => rfl
  case hw => rfl
  case hc => exact rfl
  refine (room_ok s k hg hf).mono fun r σ' _ ⟨e1, e2⟩ => ?_
  subst e1; subst e2
  rw [hp, hroom]
  iterate 5
    apply WL.quiet
    case hw => rfl
    case hq => exact rfl
  apply WL.nil
  refine VB.seq (VB.seq ?_)
  apply VB.region
  case hd => rfl
  iterate 8
    apply WL.quiet
    case hw => rfl
    case hq => exact rfl
  refine WL.quiet (v := .bool false) rfl (by show some (Value.bool (leI 1024 (s.es.length : Nat))) = _; rw [leI_eq, decide_eq_false (by omega)]) ?_
  apply WL.quiet
  case hw => rfl
  case hq => exact rfl
  apply WL.nil
  apply VB.cond
  case hc => exact rfl
  refine VB.skip (VB.seq ?_)
  apply VB.region
  case hd => rfl
  iterate 6
    apply WL.quiet
    case hw => rfl
    case hq => exact rfl
  apply WL.call
  case ho => rfl
  case hw => rfl
  case hc => exact rfl
  have hk1 : 1 ≤ k := by have : 0 ≤ w.tmod 2 := Int.tmod_nonneg _ (by omega); omega
  refine (free_hs (s := s) p k hk1 hin hg.ok.m hfl).mono fun r σ' _ ⟨e1, e2⟩ => ?_
  subst e1; subst e2
  apply WL.nil
  refine VB.seq ?_
  refine VB.draw [.q 0 [], .q 1 [], .q 2 [], .q 4 [], .q 5 [], .q 6 [], .q 7 [], .q 8 [], .q 9 [], .q 11 [], .q 3 [14], .e 10, .e 12, .q 13 [], .e 14] (by kernel_rfl) ?_
  apply DP.quiet
  case hop => rfl
  case hw => rfl
  case hq => exact rfl
  case hi => (show ∀ x ∈ ([] : List HE), x.1.contains 0 = false); intro x hx; cases hx
  apply DP.quiet
  case hop => rfl
  case hw => rfl
  case hq => exact rfl
  case hi => (show ∀ x ∈ ([] : List HE), x.1.contains 1 = false); intro x hx; cases hx
  apply DP.quiet
  case hop => rfl
  case hw => rfl
  case hq => exact rfl
  case hi => (show ∀ x ∈ ([] : List HE), x.1.contains 2 = false); intro x hx; cases hx
  apply DP.quiet
  case hop => rfl
  case hw => rfl
  case hq => exact rfl
  case hi => (show ∀ x ∈ ([] : List HE), x.1.contains 4 = false); intro x hx; cases hx
  apply DP.quiet
  case hop => rfl
  case hw => rfl
  case hq => exact rfl
  case hi => (show ∀ x ∈ ([] : List HE), x.1.contains 5 = false); intro x hx; cases hx
  apply DP.quiet
  case hop => rfl
  case hw => rfl
  case hq => exact rfl
  case hi => (show ∀ x ∈ ([] : List HE), x.1.contains 6 = false); intro x hx; cases hx
  apply DP.quiet
  case hop => rfl
  case hw => rfl
  case hq => exact rfl
  case hi => (show ∀ x ∈ ([] : List HE), x.1.contains 7 = false); intro x hx; cases hx
  apply DP.quiet
  case hop => rfl
  case hw => rfl
  case hq => exact rfl
  case hi => (show ∀ x ∈ ([] : List HE), x.1.contains 8 = false); intro x hx; cases hx
  apply DP.quiet
  case hop => rfl
  case hw => rfl
  case hq => exact rfl
  case hi => (show ∀ x ∈ ([] : List HE), x.1.contains 9 = false); intro x hx; cases hx
  apply DP.quiet
  case hop => rfl
  case hw => rfl
  case hq => exact rfl
  case hi => (show ∀ x ∈ ([] : List HE), x.1.contains 11 = false); intro x hx; cases hx
  apply DP.quiet
  case hop => rfl
  case hw => rfl
  case hq => exact rfl
  case hi => (show ∀ x ∈ ([] : List HE), x.1.contains 3 = false); intro x hx; cases hx
  apply DP.quietE
  case hop => rfl
  case hw => rfl
  case hq => exact rfl
  refine DP.quietE (v := .int .i64 (genOf s.gs p)) rfl rfl (opQ_lookup rfl rfl (lookupG (c := s.gclock) rfl hG)) ?_
  apply DP.quiet
  case hop => rfl
  case hw => rfl
  case hq => exact rfl
  case hi =>
    intro x hx
    have : x.1 = [14] := by
      change x ∈ ([([14], _)] : List HE) at hx
      simp only [List.mem_singleton] at hx
      rw [hx]
    rw [this]; rfl
  refine DP.write (res := none) (σ' := hs { s with es := s.es ++ [{ key := .int .i64 p, val := blkV p k (genOf s.gs p) true, born := s.clock }], clock := s.clock + 1, bs := setR (.bool false) s.bs p k, ws := putAt s.ws p (repl k [.int .u64 0]) }) rfl rfl ?_ (fun h hh => absurd hh ?_) ?_
  · refine opW_mapUpdate rfl rfl rfl (mapUpd_new (es := s.es) (c := s.clock) (a := p) rfl (shaped_keys hg.sh) habs) |>.trans ?_
    kernel_rfl
  · show ¬ h ∈ ([] : List HE)
    simp
  apply DP.nil
  refine VB.seq ?_
  apply VB.region
  case hd => rfl
  iterate 5
    apply WL.quiet
    case hw => rfl
    case hq => exact rfl
  refine WL.quiet (v := .int .i64 (genOf s.gs p)) rfl (opQ_lookup rfl rfl (lookupG (c := s.gclock) rfl hG)) ?_
  have hgen := genOf_le hG p
  refine WL.quiet (v := .int .i64 (genOf s.gs p + 1)) rfl (by rw [show (genOf s.gs p + 1 : Int) = IntKind.i64.wrap (genOf s.gs p + 1) from (IntWalk.i64_in _ (by omega)).symm]; exact rfl) ?_
  refine WL.write (r := none) (σ' := hs (takeS s p k)) rfl ((opW_mapUpdate rfl rfl rfl (mapUpd_gens (c := s.gclock) (gs := s.gs) (a := p) rfl hG)).trans (by kernel_rfl)) ?_
  apply WL.nil
  refine VB.seq ?_
  apply VB.region
  case hd => rfl
  iterate 3
    apply WL.quiet
    case hw => rfl
    case hq => exact rfl
  apply WL.nil
  exact VB.ret (v := .tuple #[.int .i64 p, .int .i64 0]) rfl Try.func27 rfl ⟨rfl, rfl⟩

/-- Where there is no room. -/
theorem take_full (s : HS) (w : Int) (k : Nat) (h1 : 1 ≤ w) (h2 : w ≤ 65536) (hk : w + w.tmod 2 = k) (hg : s.Good) (hf : Fits s k) (hroom : ((gap k s.blocks s.first).2 || decide ((k : Int) ≤ s.first + s.words - (gap k s.blocks s.first).1)) = false) :
    WF M.toEnv 27 [.pointer (some ⟨0, 0, none⟩), .int .i64 w] (hs s) (fun r σ' => r = .tuple #[.int .i64 0, .int .i64 15] ∧ σ' = hs s) := by
  refine WF.run ev0_ok (giv := givL [(13, .q (.bool false)), (16, .q (.bool false)), (21, .q (.int .i64 k)), (25, .c (.tuple #[.int .i64 (gap k s.blocks s.first).1, .bool false]) (hs s))]) (n := 100) (fn := Try.f27)
    (p' := (((True ∧ some (Value.bool (ltI w 1)) = some (.bool false)) ∧ some (Value.bool (ltI 65536 w)) = some (.bool false)) ∧ some (Value.int .i64 (IntKind.i64.wrap (w + w.tmod 2))) = some (.int .i64 k)) ∧ WF M.toEnv 73 [.pointer (some ⟨0, 0, none⟩), .int .i64 k] (hs s) (fun r σ' => r = .tuple #[.int .i64 (gap k s.blocks s.first).1, .bool false] ∧ σ' = hs s)) Try.func27 rfl (by kernel_rfl) ⟨⟨⟨⟨trivial, ?_⟩, ?_⟩, ?_⟩, ?_⟩
  · rw [ltI_eq, decide_eq_false (by omega)]
  · rw [ltI_eq, decide_eq_false (by omega)]
  · rw [hk, IntWalk.i64_in _ (by have := hf.w; omega)]
  · have := room_ok s k hg hf
    rw [hroom] at this
    exact this
end
end Go.Proofs.Ytlnlopeodpamdaa.Hx
end

section
/-
  Contracts of a heap's small state in a greater one, in which the heap's blocks are 0 to 6.
-/
set_option maxRecDepth 100000
set_option linter.unusedVariables false
namespace Go.Proofs.Ytlnlopeodpamdaa.Hx
open Go AH Go.Proofs
noncomputable section

/-- A heap's blocks in a state. -/
def mix (s : HS) (X : St) : St := X |>.set 0 (.cells 83 [.pointer (some ⟨2, 0, none⟩), .int .i64 s.first, .int .i64 s.words, .map (some 1), .map (some 3), s.wv, .int .i64 s.bad]) |>.set 1 (.map s.es s.clock) |>.set 2 (.cells 107 (.slice (some ⟨5, 0, none⟩) (s.n + 1) (capR s.row s.n) :: .slice (some ⟨6, 0, none⟩) (s.n + 1) (capR s.row s.n) :: s.cs)) |>.set 3 (.map s.gs s.gclock) |>.set 4 s.wb |>.set 5 (arrR s.row 89 s.ws) |>.set 6 (arrR s.row 4 s.bs)

theorem hs_mix (s : HS) : hs s = mix s ⟨7, .leaf⟩ := rfl
theorem mix_get (s : HS) (X : St) (i : Nat) : (mix s X).get i = if i < 7 then (hs s).get i else X.get i := by
  rw [hs_get]
  simp only [mix, St.get_set]
  repeat' split
  all_goals first | rfl | omega
theorem mix_next (s : HS) (X : St) : (mix s X).next = X.next := rfl

/-- Numbers that name blocks stand alone. -/
structure HS.Flat (s : HS) : Prop where
  es : s.es.map (renE (loc id)) = s.es
  gs : s.gs.map (renE (loc id)) = s.gs
  wv : AH.ren (loc id) s.wv = s.wv
  wb : renB (loc id) s.wb = s.wb
  cs : s.cs.map (AH.ren (loc id)) = s.cs
  ws : s.ws.map (AH.ren (loc id)) = s.ws
  bs : s.bs.map (AH.ren (loc id)) = s.bs
  n : s.n < unk

theorem flat_get {s : HS} (h : s.Flat) (i : Nat) : renB (loc id) ((hs s).get i) = (hs s).get i := by
  have hn := h.n
  rw [hs_get]
  split
  · exact arrR_ren h.bs
  split
  · exact arrR_ren h.ws
  split
  · exact h.wb
  split
  · rw [renB, h.gs]
  split
  · simp only [renB, List.map_cons, ren_slice, renA, loc, id, h.cs]
    rw [renC_le (capR_le _ hn)]
  split
  · rw [renB, h.es]
  split
  · simp only [renB, List.map_cons, List.map_nil, ren_ptr, ren_int, ren_map, renA, loc, id, h.wv]
  · rfl

theorem mix_small {s : HS} (h0 : s.Ok) (f0 : s.Flat) {X : St} (hX : 7 ≤ X.next) : Small id (hs s) (mix s X) := by
  refine ⟨fun i hi => ?_, fun i j _ _ e => e, fun i hi => ?_, fun i => hs_sc h0 i _ (Nat.le_refl _), fun i hi => hs_live hi⟩
  · have hi' : i < 7 := hi
    show i < X.next
    omega
  · show (mix s X).get i = _
    rw [mix_get, if_pos (hs_live hi), flat_get f0]

theorem exN_id {n : Nat} {i : Nat} (h : i < 7) : exN id 7 n i = i := exN_lt h

/-- What is said of a heap alone holds where there is more. -/
theorem lift {K : FuncId} {args : List Value} {v : Value} {s s' : HS} {X : St} (h0 : s.Ok) (f0 : s.Flat) (h1 : s'.Ok) (f1 : s'.Flat) (hX : 7 ≤ X.next) (ha : Scs 7 args) (har : args.map (AH.ren (loc id)) = args) (hv : ∀ ρ, AH.ren ρ v = v)
    (hwb : s'.wb = s.wb ∨ s.wb.live = true) (h : WF M.toEnv K args (hs s) (fun r σ' => r = v ∧ σ' = hs s')) : WF M.toEnv K args (mix s X) (fun r σ' => r = v ∧ σ' = mix s' X) := by
  refine WF.know h.1 fun hout hsc => ?_
  have hs := mix_small h0 f0 hX
  rw [← har]
  refine WF.frame hs ha h fun r σ₀' _ ⟨e1, e2⟩ => ?_
  subst e1; subst e2
  refine ⟨mix s' X, ⟨rfl, fun i hi _ => ?_, fun j hj hno => ?_, fun j hj => ?_⟩, hv _, rfl⟩
  · have hi' : i < 7 := hi
    show (mix s' X).get (exN id 7 X.next i) = renB (loc (exN id 7 X.next)) _
    rw [exN_id hi', mix_get, if_pos hi', renB_exN (hs_sc h1 i 7 (Nat.le_refl _)), flat_get f1]
  · rw [mix_get, mix_get]
    split
    · rename_i hj7
      by_cases hj4 : j = 4
      · subst hj4
        rcases hwb with e | e
        · rw [hs_get, hs_get]
          show s'.wb = s.wb
          exact e
        · exact absurd rfl (hno 4 (by rw [hs_get]; exact e))
      · exfalso
        refine hno j ?_ rfl
        rw [hs_get]
        repeat' split
        all_goals first | rfl | exact arrR_live _ _ _ | omega
    · rfl
  · have := hout j
    cases hl : ((mix s' X).get j).live with
    | false => rfl
    | true =>
      have hj' : X.next ≤ j := hj
      rw [mix_get, if_neg (by omega)] at hl this
      exact absurd (this hl) (by show ¬ j < X.next; omega)

/-- The same, where a block is made. -/
theorem liftP {K : FuncId} {args : List Value} {v v' : Value} {s s' : HS} {b : Blk} {X : St} (h0 : s.Ok) (f0 : s.Flat) (h1 : s'.Ok) (f1 : s'.Flat) (hX : 7 ≤ X.next) (ha : Scs 7 args) (har : args.map (AH.ren (loc id)) = args) (hv : AH.ren (loc (exN id 7 X.next)) v = v') (hb : ∀ ρ, renB ρ b = b)
    (hwb : s'.wb = s.wb ∨ s.wb.live = true) (h : WF M.toEnv K args (hs s) (fun r σ' => r = v ∧ σ' = (hs s').push b)) : WF M.toEnv K args (mix s X) (fun r σ' => r = v' ∧ σ' = (mix s' X).push b) := by
  refine WF.know h.1 fun hout hsc => ?_
  have hs := mix_small h0 f0 hX
  rw [← har]
  refine WF.frame hs ha h fun r σ₀' _ ⟨e1, e2⟩ => ?_
  subst e1; subst e2
  refine ⟨(mix s' X).push b, ⟨rfl, fun i hi _ => ?_, fun j hj hno => ?_, fun j hj => ?_⟩, hv, rfl⟩
  · have hi' : i < 8 := hi
    show ((mix s' X).push b).get (exN id 7 X.next i) = renB (loc (exN id 7 X.next)) _
    by_cases h7 : i = 7
    · subst h7
      rw [show exN id 7 X.next 7 = X.next from exN_new, St.get_push, St.get_push]
      show (if X.next = X.next then b else _) = renB _ (if 7 = 7 then b else _)
      rw [if_pos rfl]
      show b = renB _ b
      rw [hb]
    · have hi6 : i < 7 := by omega
      rw [exN_id hi6, St.get_push, St.get_push]
      show (if X.next = i then b else _) = renB _ (if 7 = i then b else _)
      rw [if_neg (by omega), if_neg (by omega), mix_get, if_pos hi6, renB_exN (hs_sc h1 i 7 (Nat.le_refl _)), flat_get f1]
  · have hj' : j < X.next := hj
    rw [St.get_push]
    show (if X.next = j then b else _) = _
    rw [if_neg (by omega), mix_get, mix_get]
    split
    · rename_i hj7
      by_cases hj4 : j = 4
      · subst hj4
        rcases hwb with e | e
        · rw [hs_get, hs_get]
          show s'.wb = s.wb
          exact e
        · exact absurd rfl (hno 4 (by rw [hs_get]; exact e))
      · exfalso
        refine hno j ?_ rfl
        rw [hs_get]
        repeat' split
        all_goals first | rfl | exact arrR_live _ _ _ | omega
    · rfl
  · have := hout j
    have hj' : X.next + 1 ≤ j := hj
    rw [St.get_push]
    show (if X.next = j then b else _).live = false
    rw [if_neg (by omega)]
    cases hl : ((mix s' X).get j).live with
    | false => rfl
    | true =>
      rw [mix_get, if_neg (by omega)] at hl this
      exact absurd (this hl) (by show ¬ j < X.next; omega)
end
end Go.Proofs.Ytlnlopeodpamdaa.Hx
end
