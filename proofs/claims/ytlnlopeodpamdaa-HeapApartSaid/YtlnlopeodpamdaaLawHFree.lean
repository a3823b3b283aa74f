/-
  heap.Free: what is free, whatever order the blocks come in.
-/
import Derived.Test.YtlnlopeodpamdaaAh37
import Derived.Test.YtlnlopeodpamdaaRows
set_option maxRecDepth 100000
set_option linter.unusedVariables false
namespace Go.Proofs.Ytlnlopeodpamdaa.Hx
open Go AH Go.Proofs
noncomputable section
theorem mixed : Try.prog.follows .mixedOrders = true := Try.checked.mixed
noncomputable def M : EnvM := envOf Try.prog mixed
def hp (first words bad : Int) (vg vw : Value) (es : List MapEntry) (clock : Nat) : St :=
  (⟨5, .leaf⟩ : St) |>.set 0 (.cells 83 [.pointer (some ⟨2, 0, none⟩), .int .i64 first, .int .i64 words, .map (some 1), vg, vw, .int .i64 bad]) |>.set 1 (.map es clock)
def hpI (first words bad : Int) (vg vw : Value) (es : List MapEntry) (clock : Nat) (seen : List Nat) : St :=
  (⟨6, .leaf⟩ : St) |>.set 0 (.cells 83 [.pointer (some ⟨2, 0, none⟩), .int .i64 first, .int .i64 words, .map (some 1), vg, vw, .int .i64 bad]) |>.set 1 (.map es clock) |>.set 5 (.miter (some 1) clock seen clock)
def hpJ (first words bad : Int) (vg vw : Value) (es : List MapEntry) (clock : Nat) (seen : List Nat) (cs : List Value) : St :=
  (⟨7, .leaf⟩ : St) |>.set 0 (.cells 83 [.pointer (some ⟨2, 0, none⟩), .int .i64 first, .int .i64 words, .map (some 1), vg, vw, .int .i64 bad]) |>.set 1 (.map es clock) |>.set 5 (.miter (some 1) clock seen clock) |>.set 6 (.cells 74 cs)
/-- How long a block is. -/
def lenOf (e : MapEntry) : Int := match e.val with | .agg cs => (match cs.toList with | [_, .int _ n, _, _] => n | _ => 0) | _ => 0
def sumLen (l : List MapEntry) : Int := (l.map lenOf).sum
def blkV (a l g : Int) (v : Bool) : Value := .agg #[.int .i64 a, .int .i64 l, .int .i64 g, .bool v]
def Shaped1 (es : List MapEntry) : Prop := ∀ e ∈ es, ∃ a l g v, e.val = blkV a l g v ∧ e.key = .int .i64 a ∧ 0 ≤ l
theorem opW_entry {E : Env} {f : Fr} {σ : St} {x : Operand} {r m since : Nat} {seen : List Nat} {stepped : Nat} {es : List MapEntry} {e : MapEntry} (hx : opd f x = some (.pointer (some ⟨r, 0, none⟩))) (hr : σ.get r = .miter (some m) since seen stepped) (hm : σ.get m = .map es stepped)
    (hl : seen.getLast? = some e.born) (hf : es.find? (fun x => x.born == e.born) = some e) : opW E f σ (.entry x) = some (some (.tuple #[e.key, e.val]), σ) := by
  simp only [opW, hx, entryQ, hr, hl, hm, if_true, hf]
theorem nodup_snoc {α : Type} {l : List α} {x : α} (h : l.Nodup) (hx : x ∉ l) : (l ++ [x]).Nodup := by
  rw [List.nodup_append]
  refine ⟨h, by simp, fun a ha b hb => ?_⟩
  simp only [List.mem_singleton] at hb
  subst hb
  exact fun e => hx (e ▸ ha)
theorem length_le_of_sub {α : Type} : ∀ {l m : List α}, l.Nodup → (∀ x ∈ l, x ∈ m) → l.length ≤ m.length
  | [], _, _, _ => by simp
  | x :: r, m, h, hs => by
    obtain ⟨s, t, rfl⟩ := List.append_of_mem (hs x (by simp))
    obtain ⟨h1, h2⟩ := List.nodup_cons.1 h
    have := length_le_of_sub (l := r) (m := s ++ t) h2 fun y hy => by
      have h3 := hs y (by simp [hy])
      simp only [List.mem_append, List.mem_cons] at h3 ⊢
      rcases h3 with h3 | h3 | h3
      · exact .inl h3
      · subst h3; exact absurd hy h1
      · exact .inr h3
    simp only [List.length_append, List.length_cons] at *
    omega
theorem sumLen_append (l m : List MapEntry) : sumLen (l ++ m) = sumLen l + sumLen m := by simp [sumLen, List.sum_append]
theorem sumLen_cons (x : MapEntry) (m : List MapEntry) : sumLen (x :: m) = lenOf x + sumLen m := by simp [sumLen]
theorem sumLen_perm {l m : List MapEntry} (h : l.Perm m) : sumLen l = sumLen m := by
  induction h with
  | nil => rfl
  | cons x _ ih => rw [sumLen_cons, sumLen_cons, ih]
  | swap x y l => simp only [sumLen_cons]; omega
  | trans _ _ h1 h2 => rw [h1, h2]
theorem lenOf_nonneg {es : List MapEntry} (h : Shaped1 es) {e : MapEntry} (he : e ∈ es) : 0 ≤ lenOf e := by
  obtain ⟨a, l, g, v, hv, _, hl⟩ := h e he
  have : lenOf e = l := by rw [lenOf, hv]; rfl
  omega
theorem sumLen_nonneg : ∀ {l : List MapEntry}, (∀ e ∈ l, 0 ≤ lenOf e) → 0 ≤ sumLen l
  | [], _ => by simp [sumLen]
  | x :: r, h => by
    have h1 := h x (by simp)
    have h2 := sumLen_nonneg (l := r) fun e he => h e (by simp [he])
    simp only [sumLen, List.map_cons, List.sum_cons] at *
    omega
theorem sumLen_sub : ∀ {l es : List MapEntry}, l.Nodup → (∀ x ∈ l, x ∈ es) → (∀ e ∈ es, 0 ≤ lenOf e) → sumLen l ≤ sumLen es
  | [], es, _, _, hp => sumLen_nonneg hp
  | x :: r, es, h, hs, hp => by
    obtain ⟨s, t, rfl⟩ := List.append_of_mem (hs x (by simp))
    obtain ⟨h1, h2⟩ := List.nodup_cons.1 h
    have := sumLen_sub (l := r) (es := s ++ t) h2 (fun y hy => by
      have h3 := hs y (by simp [hy])
      simp only [List.mem_append, List.mem_cons] at h3 ⊢
      rcases h3 with h3 | h3 | h3
      · exact .inl h3
      · subst h3; exact absurd hy h1
      · exact .inr h3) (fun e he => hp e (by simp only [List.mem_append, List.mem_cons] at he ⊢; rcases he with he | he; exact .inl he; exact .inr (.inr he)))
    rw [sumLen_append, sumLen_cons]
    rw [sumLen_append] at this
    rw [sumLen_cons]
    omega
theorem sumLen_le {es l : List MapEntry} (h : Shaped1 es) (hn : l.Nodup) (hs : ∀ x ∈ l, x ∈ es) : sumLen l ≤ sumLen es ∧ 0 ≤ sumLen l :=
  ⟨sumLen_sub hn hs fun e he => lenOf_nonneg h he, sumLen_nonneg fun e he => lenOf_nonneg h (hs e he)⟩
theorem hpI_get (first words bad : Int) (vg vw : Value) (es : List MapEntry) (clock : Nat) (seen : List Nat) (i : Nat) : (hpI first words bad vg vw es clock seen).get i = if 5 = i then .miter (some 1) clock seen clock else if 1 = i then .map es clock else if 0 = i then .cells 83 [.pointer (some ⟨2, 0, none⟩), .int .i64 first, .int .i64 words, .map (some 1), vg, vw, .int .i64 bad] else .dead := by
  simp only [hpI, St.get_set]
  rfl
theorem hpJ_get (first words bad : Int) (vg vw : Value) (es : List MapEntry) (clock : Nat) (seen : List Nat) (cs : List Value) (i : Nat) : (hpJ first words bad vg vw es clock seen cs).get i = if 6 = i then .cells 74 cs else if 5 = i then .miter (some 1) clock seen clock else if 1 = i then .map es clock else if 0 = i then .cells 83 [.pointer (some ⟨2, 0, none⟩), .int .i64 first, .int .i64 words, .map (some 1), vg, vw, .int .i64 bad] else .dead := by
  simp only [hpJ, St.get_set]
  rfl
theorem hpI_wf {first words bad : Int} {vg vw : Value} {es : List MapEntry} {clock : Nat} {seen seen' : List Nat} {f : Fr} {n : Int} (h : Wf f (hpI first words bad vg vw es clock seen)) :
    Wf (frL [(0, .pointer (some ⟨0, 0, none⟩)), (16, .pointer (some ⟨5, 0, none⟩)), (3, .int .i64 n)]) (hpI first words bad vg vw es clock seen') := by
  refine ⟨fun i => ?_, fun i hi => ?_, fun t v ht => ?_⟩
  · have := h.sc i
    rw [hpI_get] at this ⊢
    by_cases h5 : 5 = i
    · rw [if_pos h5]; show 1 < 6; omega
    · rw [if_neg h5] at this ⊢; exact this
  · have := h.lt i
    rw [hpI_get] at this hi
    by_cases h5 : 5 = i
    · subst h5; show 5 < 6; omega
    · rw [if_neg h5] at this hi; exact this hi
  · have := frL_mem ht
    simp only [List.mem_cons, Prod.mk.injEq, List.not_mem_nil, or_false] at this
    rcases this with ⟨_, rfl⟩ | ⟨_, rfl⟩ | ⟨_, rfl⟩
    · exact Sc_ptr (by show 0 < 6; omega)
    · exact Sc_ptr (by show 5 < 6; omega)
    · exact Sc_int _ _ _
theorem free_small (first words bad : Int) (vg vw : Value) (es : List MapEntry) (clock : Nat) (hst : Stamped es clock) (hsh : Shaped1 es) (hb : sumLen es ≤ 4611686018427387904) (hw1 : 0 ≤ words) (hw2 : words ≤ 4611686018427387904) : WF M.toEnv 28 [.pointer (some ⟨0, 0, none⟩)] (hp first words bad vg vw es clock) (fun r σ' => (r = .int .i64 (words - sumLen es) ∧ Sc 5 r) ∧ ∀ i, i < 5 → σ'.get i = (hp first words bad vg vw es clock).get i) := by
  refine WF.of_VB (fn := Try.f28) Try.func28 rfl rfl (by decide) ?_
  refine VB.seq ?_
  apply VB.region
  case hd => rfl
  apply WL.quiet
  case hw => rfl
  case hq => exact rfl
  apply WL.nil
  refine VB.seq (VB.seq ?_)
  apply VB.region
  case hd => rfl
  apply WL.quiet
  case hw => rfl
  case hq => exact rfl
  apply WL.call
  case ho => rfl
  case hw => rfl
  case hc => exact rfl
  refine ((ev2_sound (noOrc_ok M) 1000 20) _ _ _ (.bool false) (hp first words bad vg vw es clock) (by kernel_rfl)).mono fun r σ' _ ⟨e1, e2⟩ => ?_
  subst e1; subst e2
  apply WL.nil
  apply VB.cond
  case hc => exact rfl
  refine VB.skip ?_
  refine VB.seq ?_
  apply VB.region
  case hd => rfl
  iterate 5
    apply WL.quiet
    case hw => rfl
    case hq => exact rfl
  apply WL.nil
  refine VB.seq (VB.seq ?_)
  apply VB.region
  case hd => rfl
  iterate 4
    apply WL.quiet
    case hw => rfl
    case hq => exact rfl
  refine WL.write (r := some (.pointer (some ⟨5, 0, none⟩))) (σ' := hpI first words bad vg vw es clock []) rfl (by kernel_rfl) ?_
  apply WL.nil
  refine VB.block ?_
  refine VB.trim [(0, .pointer (some ⟨0, 0, none⟩)), (16, .pointer (some ⟨5, 0, none⟩)), (3, .int .i64 words)] (by
    intro p hp
    simp only [List.mem_cons, List.not_mem_nil, or_false] at hp
    rcases hp with rfl | rfl | rfl <;> (dsimp only; exact rfl)) rfl ?_
  refine VB.loop (fun f σ => ∃ vis : List MapEntry, f = frL [(0, .pointer (some ⟨0, 0, none⟩)), (16, .pointer (some ⟨5, 0, none⟩)), (3, .int .i64 (words - sumLen vis))] ∧ σ = hpI first words bad vg vw es clock (vis.map (·.born)) ∧ vis.Nodup ∧ ∀ e ∈ vis, e ∈ es)
    (fun f σ => es.length - (match σ.get 5 with | .miter _ _ seen _ => seen.length | _ => 0)) ⟨[], by simp [sumLen], rfl, List.nodup_nil, by simp⟩ ?_
  intro f σ ⟨vis, hf, hσ, hnd, hsub⟩ ih
  subst hf; subst hσ
  refine VB.know fun hwf => ?_
  refine VB.seq ?_
  apply VB.region
  case hd => rfl
  apply WL.next
  case ho => rfl
  case hw => rfl
  case hx => exact rfl
  case hr => exact rfl
  case hm => exact rfl
  case hok => exact not_cleared hst
  intro c hc
  rcases cands_old hst hsub hc with ⟨rfl, hall⟩ | ⟨e, rfl, he, hnv⟩
  · apply WL.quiet
    case hw => rfl
    case hq => exact rfl
    apply WL.nil
    refine VB.seq ?_
    apply VB.cond
    case hc => exact rfl
    apply VB.exit
    case hx => exact rfl
    refine VB.seq ?_
    apply VB.region
    case hd => rfl
    iterate 2
      apply WL.quiet
      case hw => rfl
      case hq => exact rfl
    apply WL.nil
    refine VB.ret (v := .int .i64 (words - sumLen vis)) rfl Try.func28 rfl ⟨⟨?_, Sc_int _ _ _⟩, fun i hi => ?_⟩
    · rw [sumLen_perm (perm_of_all hnd hst.nodup hsub hall)]
    · show (hpI first words bad vg vw es clock (vis.map (·.born))).get i = _
      rw [hpI_get, if_neg (by omega)]
      simp only [hp, St.get_set]
      rfl
  · apply WL.quiet
    case hw => rfl
    case hq => exact rfl
    apply WL.nil
    refine VB.seq ?_
    apply VB.cond
    case hc => exact rfl
    refine VB.skip (VB.block (VB.seq ?_))
    apply VB.region
    case hd => rfl
    apply WL.write
    case hw => rfl
    case hq => exact opW_entry rfl rfl rfl (e := e) (by simp) (entry_last hst he)
    obtain ⟨a, l, g, v, hv, hk, hl⟩ := hsh e he
    rw [hk, hv]
    apply WL.quiet
    case hw => rfl
    case hq => exact rfl
    refine WL.write (r := some (.pointer (some ⟨6, 0, none⟩))) (σ' := hpJ first words bad vg vw es clock (vis.map (·.born) ++ [e.born]) [.int .i64 0, .int .i64 0, .int .i64 0, .bool false]) rfl (by kernel_rfl) ?_
    refine WL.write (r := none) (σ' := hpJ first words bad vg vw es clock (vis.map (·.born) ++ [e.born]) [.int .i64 a, .int .i64 l, .int .i64 g, .bool v]) rfl (by kernel_rfl) ?_
    apply WL.nil
    apply VB.region
    case hd => rfl
    iterate 5
      apply WL.quiet
      case hw => rfl
      case hq => exact rfl
    apply WL.nil
    refine VB.inBlock ?_
    have hlen : lenOf e = l := by rw [lenOf, hv]; rfl
    have hsum : sumLen (vis ++ [e]) = sumLen vis + l := by simp [sumLen, hlen]
    have hsl : sumLen (vis ++ [e]) ≤ sumLen es ∧ 0 ≤ sumLen (vis ++ [e]) := sumLen_le hsh (nodup_snoc hnd hnv) (fun x hx => by
      rcases List.mem_append.1 hx with hx | hx
      · exact hsub x hx
      · simp only [List.mem_singleton] at hx; subst hx; exact he)
    refine VB.cut [(0, .pointer (some ⟨0, 0, none⟩)), (16, .pointer (some ⟨5, 0, none⟩)), (3, .int .i64 (words - sumLen (vis ++ [e])))] (hpI first words bad vg vw es clock ((vis ++ [e]).map (·.born))) ?_ rfl ?_ (by show 5 ≤ 6; omega) ?_ (ih _ _ ⟨vis ++ [e], rfl, rfl, nodup_snoc hnd hnv, ?_⟩ ?_)
    · intro p hp
      simp only [List.mem_cons, List.not_mem_nil, or_false] at hp
      rcases hp with rfl | rfl | rfl
      · exact rfl
      · exact rfl
      · have : words - sumLen (vis ++ [e]) = IntKind.i64.wrap (words - sumLen vis - l) := by
          rw [IntWalk.i64_in _ (by omega)]; omega
        dsimp only
        rw [this]
        exact rfl
    · exact hpI_wf hwf
    · intro i
      rw [hpI_get, hpJ_get]
      by_cases h6 : i = 6
      · subst h6; exact .inr rfl
      · rw [if_neg (Ne.symm h6)]; left; simp
    · intro x hx
      rcases List.mem_append.1 hx with hx | hx
      · exact hsub x hx
      · simp only [List.mem_singleton] at hx; subst hx; exact he
    · have h1 : vis.length + 1 ≤ es.length := by
        have := length_le_of_sub (nodup_snoc hnd hnv) (fun x hx => by
          rcases List.mem_append.1 hx with hx | hx
          · exact hsub x hx
          · simp only [List.mem_singleton] at hx; subst hx; exact he : ∀ x ∈ vis ++ [e], x ∈ es)
        simpa using this
      show es.length - ((vis ++ [e]).map (·.born)).length < es.length - (vis.map (·.born)).length
      simp only [List.length_map, List.length_append, List.length_singleton]
      omega

theorem free_clean (first words bad : Int) (vg vw : Value) (es : List MapEntry) (clock : Nat) (hst : Stamped es clock) (hsh : Shaped1 es) (hb : sumLen es ≤ 4611686018427387904) (hw1 : 0 ≤ words) (hw2 : words ≤ 4611686018427387904) :
    WF M.toEnv 28 [.pointer (some ⟨0, 0, none⟩)] (hp first words bad vg vw es clock) (fun r σ' => r = .int .i64 (words - sumLen es) ∧ σ' = hp first words bad vg vw es clock) :=
  WF.gc (free_small first words bad vg vw es clock hst hsh hb hw1 hw2)
end
end Go.Proofs.Ytlnlopeodpamdaa.Hx
