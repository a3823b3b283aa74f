/-
  heap.Blocks: all blocks that are taken, rising, whatever order the map has.
-/
import Derived.Test.YtlnlopeodpamdaaAh37
import Derived.Test.YtlnlopeodpamdaaLawHSort
set_option maxRecDepth 100000
set_option linter.unusedVariables false
namespace Go.Proofs.Ytlnlopeodpamdaa.Hx
open Go AH Go.Proofs
noncomputable section

/-- An entry's block. -/
def bvOf (e : MapEntry) : BV := match e.val with
  | .agg cs => (match cs.toList with
    | [.int _ a, .int _ l, .int _ g, .bool v] => (a, l, g, v)
    | _ => (0, 0, 0, false))
  | _ => (0, 0, 0, false)
theorem vals_encs {l : List MapEntry} (h : Shaped1 l) : valsOf l = encs (l.map bvOf) := by
  induction l with
  | nil => rfl
  | cons x r ih =>
    obtain ⟨a, n, g, v, hv, _⟩ := h x (by simp)
    have := ih fun e he => h e (by simp [he])
    have e1 : valsOf (x :: r) = x.val.cells.toList ++ valsOf r := rfl
    have e2 : encs ((x :: r).map bvOf) = encB (bvOf x) ++ encs (r.map bvOf) := rfl
    rw [e1, e2, this]
    have : x.val.cells.toList = encB (bvOf x) := by
      unfold bvOf
      rw [hv]
      rfl
    rw [this]

/-- What AppendSeq leaves. -/
theorem collectN (es : List MapEntry) (clock : Nat) (hst : Stamped es clock) (hsh : Shaped1 es) (hlen : es.length ≤ 1048576) :
    WF M.toEnv 124 [.slice none 0 0, .func (.func 103) #[] #[.pointer (some ⟨0, 0, none⟩)]] (seq0 es clock) (fun r σ' => ∃ vis : List MapEntry, vis.Perm es ∧ ((vis = [] ∧ r = .slice none 0 0 ∧ σ' = seq0 es clock) ∨ (vis ≠ [] ∧ r = .slice (some ⟨2, 0, none⟩) vis.length unk ∧ σ' = (seq0 es clock).push (.row 74 4 (valsOf vis))))) := by
  refine (collect es clock hst hsh hlen).renum fun r σ' hn ⟨vis, hp, hr, h0, h1, h6⟩ => ?_
  have hsv : Shaped1 vis := fun e he => hsh e (hp.subset he)
  have hn2 : 2 ≤ σ'.next := hn
  have hg0 : (seq0 es clock).get 0 = .cells 80 [.map (some 1)] := rfl
  have hg1 : (seq0 es clock).get 1 = .map es clock := rfl
  have hgg : ∀ i, (seq0 es clock).get i = if 1 = i then .map es clock else if 0 = i then .cells 80 [.map (some 1)] else .dead := fun i => by
    simp only [seq0, St.get_set]
    rfl
  have hcl : ∀ ρ : Nat → AH.Loc, renB ρ (.map es clock) = .map es clock := fun ρ => by rw [renB, hsh.map_eq]
  cases vis with
  | nil =>
    refine ⟨.slice none 0 0, seq0 es clock, id, ⟨fun i _ => rfl, fun i j _ _ h => h, fun i hi => ?_, fun i => ?_, fun i hi => ?_, Nat.le_refl _⟩, by rw [hr]; simp [accV], Sc_nilslice _ _ _, [], hp, .inl ⟨rfl, rfl, rfl⟩⟩
    · rw [hgg] at hi ⊢
      by_cases e1 : 1 = i
      · subst e1; rw [if_pos rfl, hcl]; exact h1
      · rw [if_neg e1] at hi ⊢
        by_cases e0 : 0 = i
        · subst e0; rw [if_pos rfl]; exact h0.trans (by simp [renB, loc])
        · rw [if_neg e0] at hi; cases hi
    · rw [hgg]
      split
      · exact fun e he => ⟨((NoBlk.of_shaped hsh e he).1).mono (Nat.zero_le _), ((NoBlk.of_shaped hsh e he).2).mono (Nat.zero_le _)⟩
      split
      · intro v hv
        simp only [List.mem_singleton] at hv
        subst hv
        exact Sc_map (by show 1 < 2; omega)
      · trivial
    · rw [hgg] at hi
      show i < 2
      by_cases h : i < 2
      · exact h
      · rw [if_neg (by omega), if_neg (by omega)] at hi; cases hi
  | cons x t =>
    have hgp : ∀ i, ((seq0 es clock).push (.row 74 4 (valsOf (x :: t)))).get i = if 2 = i then .row 74 4 (valsOf (x :: t)) else (seq0 es clock).get i := fun i => St.get_push _ _ _
    refine ⟨.slice (some ⟨2, 0, none⟩) (x :: t).length unk, (seq0 es clock).push (.row 74 4 (valsOf (x :: t))), fun i => if i = 2 then 6 else i, ⟨fun i hi => if_neg (by have : i < 2 := hi; omega), fun i j hi hj h => ?_, fun i hi => ?_, fun i => ?_, fun i hi => ?_, by show 2 ≤ 3; omega⟩, ?_, Sc_slice (by show 2 < 3; omega), x :: t, hp, .inr ⟨by simp, rfl, rfl⟩⟩
    · rw [hgp] at hi hj
      by_cases hi3 : i < 3
      · by_cases hj3 : j < 3
        · split at h <;> split at h <;> omega
        · rw [if_neg (by omega), hgg, if_neg (by omega), if_neg (by omega)] at hj; cases hj
      · rw [if_neg (by omega), hgg, if_neg (by omega), if_neg (by omega)] at hi; cases hi
    · rw [hgp] at hi ⊢
      by_cases e2 : 2 = i
      · subst e2
        rw [if_pos rfl, if_pos rfl, h6]
        show rowV (x :: t) = _
        rw [renB, vals_map hsv]
        rfl
      · rw [if_neg e2] at hi ⊢
        rw [if_neg (fun h => e2 h.symm)]
        rw [hgg] at hi ⊢
        by_cases e1 : 1 = i
        · subst e1; rw [if_pos rfl, hcl]; exact h1
        · rw [if_neg e1] at hi ⊢
          by_cases e0 : 0 = i
          · subst e0; rw [if_pos rfl]; exact h0.trans (by simp [renB, loc])
          · rw [if_neg e0] at hi; cases hi
    · rw [hgp]
      split
      · exact vals_sc (NoBlk.of_shaped hsv) _
      rw [hgg]
      split
      · exact fun e he => ⟨((NoBlk.of_shaped hsh e he).1).mono (Nat.zero_le _), ((NoBlk.of_shaped hsh e he).2).mono (Nat.zero_le _)⟩
      split
      · intro v hv
        simp only [List.mem_singleton] at hv
        subst hv
        exact Sc_map (by show 1 < 3; omega)
      · trivial
    · rw [hgp] at hi
      show i < 3
      by_cases h : i < 3
      · exact h
      · rw [if_neg (by omega), hgg, if_neg (by omega), if_neg (by omega)] at hi; cases hi
    · rw [hr]
      show Value.slice (some ⟨6, 0, none⟩) (x :: t).length unk = _
      rw [ren_slice]
      exact rfl

/-- The same in any state. -/
theorem collectG (σ : St) (b m : Nat) (es : List MapEntry) (clock : Nat) (hb : σ.get b = .cells 80 [.map (some m)]) (hm : σ.get m = .map es clock) (hst : Stamped es clock) (hsh : Shaped1 es) (hlen : es.length ≤ 1048576) :
    WF M.toEnv 124 [.slice none 0 0, .func (.func 103) #[] #[.pointer (some ⟨b, 0, none⟩)]] σ (fun r σ' => ∃ vis : List MapEntry, vis.Perm es ∧ ((vis = [] ∧ r = .slice none 0 0 ∧ σ' = σ) ∨ (vis ≠ [] ∧ r = .slice (some ⟨σ.next, 0, none⟩) vis.length unk ∧ σ' = σ.push (.row 74 4 (valsOf vis))))) := by
  refine WF.know (collectN es clock hst hsh hlen).1 fun hout hsc => ?_
  have hgg : ∀ i, (seq0 es clock).get i = if 1 = i then .map es clock else if 0 = i then .cells 80 [.map (some 1)] else .dead := fun i => by
    simp only [seq0, St.get_set]
    rfl
  have hbm : b ≠ m := fun e => by rw [e, hm] at hb; cases hb
  have hlive : ∀ i, ((seq0 es clock).get i).live = true → i = 0 ∨ i = 1 := fun i hi => by
    rw [hgg] at hi
    split at hi
    · omega
    split at hi
    · omega
    · cases hi
  have hs : Small (fun i => if i = 0 then b else m) (seq0 es clock) σ := by
    refine ⟨fun i hi => ?_, fun i j hi hj h => ?_, fun i hi => ?_, fun i => ?_, fun i hi => ?_⟩
    · split
      · exact hout b (by rw [hb]; rfl)
      · exact hout m (by rw [hm]; rfl)
    · rcases hlive i hi with rfl | rfl <;> rcases hlive j hj with rfl | rfl
      · rfl
      · exact absurd h hbm
      · exact absurd h.symm hbm
      · rfl
    · rcases hlive i hi with rfl | rfl
      · show σ.get b = _
        rw [hb, hgg]
        simp [renB, loc]
      · show σ.get m = _
        rw [hm, hgg, if_pos rfl, renB, hsh.map_eq]
    · rw [hgg]
      split
      · exact fun e he => ⟨((NoBlk.of_shaped hsh e he).1).mono (Nat.zero_le _), ((NoBlk.of_shaped hsh e he).2).mono (Nat.zero_le _)⟩
      split
      · intro v hv
        simp only [List.mem_singleton] at hv
        subst hv
        exact Sc_map (by show 1 < 2; omega)
      · trivial
    · rcases hlive i hi with rfl | rfl
      · show 0 < 2; omega
      · show 1 < 2; omega
  have hargs : ([.slice none 0 0, .func (.func 103) #[] #[.pointer (some ⟨0, 0, none⟩)]] : List Value).map (ren (loc fun i => if i = 0 then b else m)) = [.slice none 0 0, .func (.func 103) #[] #[.pointer (some ⟨b, 0, none⟩)]] := by
    simp [renA, renFn, loc]
  rw [← hargs]
  refine WF.frame hs (fun v hv => ?_) (collectN es clock hst hsh hlen) fun r σ₀' _ ⟨vis, hp, hcase⟩ => ?_
  · simp only [List.mem_cons, List.not_mem_nil, or_false] at hv
    rcases hv with rfl | rfl
    · exact Sc_nilslice _ _ _
    · exact Sc_func.2 ⟨trivial, fun v hv => by simp at hv, fun v hv => by simp at hv; subst hv; exact Sc_ptr (by show 0 < 2; omega)⟩
  · have hsv : Shaped1 vis := fun e he => hsh e (hp.subset he)
    rcases hcase with ⟨h1, rfl, rfl⟩ | ⟨h1, rfl, rfl⟩
    · exact ⟨σ, Big.same hs hout, vis, hp, .inl ⟨h1, by simp, rfl⟩⟩
    · refine ⟨_, Big.push hs hout _, vis, hp, .inr ⟨h1, ?_, ?_⟩⟩
      · rw [ren_slice]
        have : exN (fun i => if i = 0 then b else m) (seq0 es clock).next σ.next 2 = σ.next := by
          show exN _ 2 σ.next 2 = _
          exact exN_new
        simp only [renA, loc, this]
        rfl
      · rw [renB, vals_map hsv]

def hpB (first words bad : Int) (vg vw : Value) (es : List MapEntry) (clock : Nat) : St :=
  (⟨6, .leaf⟩ : St) |>.set 0 (.cells 83 [.pointer (some ⟨2, 0, none⟩), .int .i64 first, .int .i64 words, .map (some 1), vg, vw, .int .i64 bad]) |>.set 1 (.map es clock) |>.set 5 (.cells 80 [.map (some 1)])
theorem collect101 (first words bad : Int) (vg vw : Value) (es : List MapEntry) (clock : Nat) (hst : Stamped es clock) (hsh : Shaped1 es) (hlen : es.length ≤ 1048576) :
    WF M.toEnv 101 [.func (.func 103) #[] #[.pointer (some ⟨5, 0, none⟩)]] (hpB first words bad vg vw es clock) (fun r σ' => ∃ vis : List MapEntry, vis.Perm es ∧ ((vis = [] ∧ r = .slice none 0 0 ∧ σ' = hpB first words bad vg vw es clock) ∨ (vis ≠ [] ∧ r = .slice (some ⟨6, 0, none⟩) vis.length unk ∧ σ' = (hpB first words bad vg vw es clock).push (.row 74 4 (valsOf vis))))) := by
  refine WF.of_VB (fn := Try.f101) Try.func101 rfl rfl (by decide) ?_
  refine VB.seq ?_
  apply VB.region
  case hd => rfl
  apply WL.quiet
  case hw => rfl
  case hq => exact rfl
  apply WL.nil
  refine VB.seq ?_
  apply VB.region
  case hd => rfl
  apply WL.quiet
  case hw => rfl
  case hq => exact rfl
  apply WL.call
  case ho => rfl
  case hw => rfl
  case hc => exact rfl
  refine (collectG (hpB first words bad vg vw es clock) 5 1 es clock rfl rfl hst hsh hlen).mono fun r σ' _ ⟨vis, hp, hcase⟩ => ?_
  apply WL.quiet
  case hw => rfl
  case hq => exact rfl
  apply WL.nil
  exact VB.ret (v := r) rfl Try.func101 rfl ⟨vis, hp, hcase⟩
def hpBR (first words bad : Int) (vg vw : Value) (es : List MapEntry) (clock : Nat) (l : List BV) : St :=
  (⟨7, .leaf⟩ : St) |>.set 0 (.cells 83 [.pointer (some ⟨2, 0, none⟩), .int .i64 first, .int .i64 words, .map (some 1), vg, vw, .int .i64 bad]) |>.set 1 (.map es clock) |>.set 5 (.cells 80 [.map (some 1)]) |>.set 6 (.row 74 4 (encs l))
theorem sorted76 (first words bad : Int) (vg vw : Value) (es : List MapEntry) (clock : Nat) (hst : Stamped es clock) (hsh : Shaped1 es) (hlen : es.length ≤ 1048576) :
    WF M.toEnv 76 [.func (.func 103) #[] #[.pointer (some ⟨5, 0, none⟩)], .func (.func 78) #[] #[]] (hpB first words bad vg vw es clock) (fun r σ' => ∃ l : List BV, l.Perm (es.map bvOf) ∧ l.Pairwise (fun x y => x.1 ≤ y.1) ∧ ((l = [] ∧ r = .slice none 0 0 ∧ ∀ i, i < 6 → σ'.get i = (hpB first words bad vg vw es clock).get i) ∨ (l ≠ [] ∧ r = .slice (some ⟨6, 0, none⟩) l.length unk ∧ σ' = (hpBR first words bad vg vw es clock l)))) := by
  refine WF.of_VB (fn := Try.f76) Try.func76 rfl rfl (by decide) ?_
  refine VB.seq ?_
  apply VB.region
  case hd => rfl
  apply WL.quiet
  case hw => rfl
  case hq => exact rfl
  apply WL.nil
  refine VB.seq ?_
  apply VB.region
  case hd => rfl
  apply WL.quiet
  case hw => rfl
  case hq => exact rfl
  apply WL.call
  case ho => rfl
  case hw => rfl
  case hc => exact rfl
  refine (collect101 first words bad vg vw es clock hst hsh hlen).mono fun r σ' _ ⟨vis, hp, hcase⟩ => ?_
  have hsv : Shaped1 vis := fun e he => hsh e (hp.subset he)
  apply WL.quiet
  case hw => rfl
  case hq => exact rfl
  apply WL.nil
  refine VB.seq ?_
  apply VB.region
  case hd => rfl
  apply WL.quiet
  case hw => rfl
  case hq => exact rfl
  apply WL.quiet
  case hw => rfl
  case hq => exact rfl
  apply WL.call
  case ho => rfl
  case hw => rfl
  case hc => exact rfl
  rcases hcase with ⟨h1, rfl, rfl⟩ | ⟨h1, rfl, rfl⟩
  · subst h1
    have he : es = [] := hp.symm.eq_nil
    subst he
    refine ((ev2_sound (noOrc_ok M) 1000 20) _ _ _ (.tuple #[]) (hpB first words bad vg vw [] clock) (by kernel_rfl)).mono fun r σ' _ ⟨e1, e2⟩ => ?_
    subst e1; subst e2
    apply WL.nil
    refine VB.seq ?_
    apply VB.region
    case hd => rfl
    apply WL.quiet
    case hw => rfl
    case hq => exact rfl
    apply WL.quiet
    case hw => rfl
    case hq => exact rfl
    apply WL.nil
    exact VB.ret (v := .slice none 0 0) rfl Try.func76 rfl ⟨[], by simp, List.Pairwise.nil, .inl ⟨rfl, rfl, fun i _ => rfl⟩⟩
  · have hlv : (vis.map bvOf).length = vis.length := by simp
    rw [vals_encs hsv, ← hlv]
    have hle := hp.length_eq
    refine (sortFunc ((hpB first words bad vg vw es clock).push (.row 74 4 (encs (vis.map bvOf)))) 6 (vis.map bvOf) unk (by rw [St.get_push]; exact if_pos rfl) (by simp; omega)).mono fun r σ' _ ⟨e1, l, hpl, hso, e2⟩ => ?_
    subst e1; subst e2
    apply WL.nil
    refine VB.seq ?_
    apply VB.region
    case hd => rfl
    apply WL.quiet
    case hw => rfl
    case hq => exact rfl
    apply WL.quiet
    case hw => rfl
    case hq => exact rfl
    apply WL.nil
    refine VB.ret (v := .slice (some ⟨6, 0, none⟩) (vis.map bvOf).length unk) rfl Try.func76 rfl ⟨l, hpl.trans (hp.map bvOf), hso, .inr ⟨?_, ?_, ?_⟩⟩
    · intro e; subst e
      have := hpl.length_eq
      have h2 : vis.length ≠ 0 := fun h => h1 (List.length_eq_zero_iff.1 h)
      simp at this
      exact h2 this.symm
    · rw [hpl.length_eq]
    · kernel_rfl

theorem hpB_get (first words bad : Int) (vg vw : Value) (es : List MapEntry) (clock : Nat) (i : Nat) (hi : i < 5) : (hpB first words bad vg vw es clock).get i = (hp first words bad vg vw es clock).get i := by
  simp only [hpB, hp, St.get_set]
  rw [if_neg (by omega)]
  rfl
theorem hpBR_get (first words bad : Int) (vg vw : Value) (es : List MapEntry) (clock : Nat) (l : List BV) (i : Nat) (hi : i < 5) : (hpBR first words bad vg vw es clock l).get i = (hp first words bad vg vw es clock).get i := by
  simp only [hpBR, hp, St.get_set]
  rw [if_neg (by omega), if_neg (by omega)]
  rfl
/-- heap.Blocks, as it leaves its state. -/
theorem blocks_raw (first words bad : Int) (vg vw : Value) (es : List MapEntry) (clock : Nat) (hst : Stamped es clock) (hsh : Shaped1 es) (hlen : es.length ≤ 1048576) :
    WF M.toEnv 35 [.pointer (some ⟨0, 0, none⟩)] (hp first words bad vg vw es clock) (fun r σ' => ∃ l : List BV, l.Perm (es.map bvOf) ∧ l.Pairwise (fun x y => x.1 ≤ y.1) ∧ ((l = [] ∧ r = .slice none 0 0 ∧ ∀ i, i < 5 → σ'.get i = (hp first words bad vg vw es clock).get i) ∨ (l ≠ [] ∧ r = .slice (some ⟨6, 0, none⟩) l.length unk ∧ σ' = (hpBR first words bad vg vw es clock l)))) := by
  refine WF.of_VB (fn := Try.f35) Try.func35 rfl rfl (by decide) ?_
  refine VB.seq ?_
  apply VB.region
  case hd => rfl
  apply WL.quiet
  case hw => rfl
  case hq => exact rfl
  apply WL.nil
  refine VB.seq (VB.seq ?_)
  apply VB.region
  case hd => rfl
  apply WL.quiet
  case hw => rfl
  case hq => exact rfl
  apply WL.call
  case ho => rfl
  case hw => rfl
  case hc => exact rfl
  refine ((ev2_sound (noOrc_ok M) 1000 20) _ _ _ (.bool false) (hp first words bad vg vw es clock) (by kernel_rfl)).mono fun r σ' _ ⟨e1, e2⟩ => ?_
  subst e1; subst e2
  apply WL.nil
  apply VB.cond
  case hc => exact rfl
  refine VB.skip ?_
  refine VB.seq ?_
  apply VB.region
  case hd => rfl
  iterate 4
    apply WL.quiet
    case hw => rfl
    case hq => exact rfl
  apply WL.call
  case ho => rfl
  case hw => rfl
  case hc => exact rfl
  refine ((ev2_sound (noOrc_ok M) 1000 20) _ _ _ (.func (.func 103) #[] #[.pointer (some ⟨5, 0, none⟩)]) (hpB first words bad vg vw es clock) (by kernel_rfl)).mono fun r σ' _ ⟨e1, e2⟩ => ?_
  subst e1; subst e2
  apply WL.call
  case ho => rfl
  case hw => rfl
  case hc => exact rfl
  refine (sorted76 first words bad vg vw es clock hst hsh hlen).mono fun r σ' _ ⟨l, hp1, hso, hcase⟩ => ?_
  apply WL.quiet
  case hw => rfl
  case hq => exact rfl
  apply WL.nil
  refine VB.ret (v := r) rfl Try.func35 rfl ⟨l, hp1, hso, ?_⟩
  rcases hcase with ⟨h1, h2, h3⟩ | ⟨h1, h2, h3⟩
  · exact .inl ⟨h1, h2, fun i hi => by rw [h3 i (by omega), hpB_get _ _ _ _ _ _ _ _ hi]⟩
  · exact .inr ⟨h1, h2, h3⟩

theorem hp_get (first words bad : Int) (vg vw : Value) (es : List MapEntry) (clock : Nat) (i : Nat) : (hp first words bad vg vw es clock).get i = if 1 = i then .map es clock else if 0 = i then .cells 83 [.pointer (some ⟨2, 0, none⟩), .int .i64 first, .int .i64 words, .map (some 1), vg, vw, .int .i64 bad] else .dead := by
  simp only [hp, St.get_set]
  rfl

/-- A value that the first five numbers, as they are, leave as it is. -/
def Fix5 (v : Value) : Prop := Sc 5 v ∧ ∀ ρ : Nat → AH.Loc, (∀ i, i < 5 → ρ i = ⟨i, 0, unk⟩) → ren ρ v = v
theorem hp_live {first words bad : Int} {vg vw : Value} {es : List MapEntry} {clock i : Nat} (hi : ((hp first words bad vg vw es clock).get i).live = true) : i < 2 := by
  rw [hp_get] at hi
  split at hi
  · omega
  split at hi
  · omega
  · cases hi
theorem hp_sc (first words bad : Int) {vg vw : Value} {es : List MapEntry} (clock : Nat) (hg : Sc 5 vg) (hw : Sc 5 vw) (hsh : Shaped1 es) (i : Nat) {k : Nat} (hk : 5 ≤ k) : ((hp first words bad vg vw es clock).get i).sc k := by
  rw [hp_get]
  split
  · exact fun e he => ⟨((NoBlk.of_shaped hsh e he).1).mono (Nat.zero_le _), ((NoBlk.of_shaped hsh e he).2).mono (Nat.zero_le _)⟩
  split
  · intro v hv
    simp only [List.mem_cons, List.not_mem_nil, or_false] at hv
    rcases hv with e | e | e | e | e | e | e
    · rw [e]; exact Sc_ptr (by show 2 < k; omega)
    · rw [e]; exact Sc_int _ _ _
    · rw [e]; exact Sc_int _ _ _
    · rw [e]; exact Sc_map (by omega)
    · rw [e]; exact hg.mono hk
    · rw [e]; exact hw.mono hk
    · rw [e]; exact Sc_int _ _ _
  · trivial
theorem hp_fix {first words bad : Int} {vg vw : Value} {es : List MapEntry} {clock : Nat} (hg : Fix5 vg) (hw : Fix5 vw) (hsh : Shaped1 es) (π : Nat → Nat) (hπ : ∀ j, j < 5 → π j = j) (i : Nat) : renB (loc π) ((hp first words bad vg vw es clock).get i) = (hp first words bad vg vw es clock).get i := by
  have hρ : ∀ i, i < 5 → loc π i = ⟨i, 0, unk⟩ := fun i hi => by simp [loc, hπ i hi]
  rw [hp_get]
  split
  · rw [renB, hsh.map_eq]
  split
  · simp only [renB, List.map_cons, List.map_nil, ren_ptr, ren_int, ren_map, renA, hρ 2 (by omega), hρ 1 (by omega), hg.2 _ hρ, hw.2 _ hρ]
  · rfl
/-- The same, under small numbers. -/
theorem blocks_small (first words bad : Int) (vg vw : Value) (es : List MapEntry) (clock : Nat) (hg : Fix5 vg) (hw : Fix5 vw) (hst : Stamped es clock) (hsh : Shaped1 es) (hlen : es.length ≤ 1048576) :
    WF M.toEnv 35 [.pointer (some ⟨0, 0, none⟩)] (hp first words bad vg vw es clock) (fun r σ' => ∃ l : List BV, l.Perm (es.map bvOf) ∧ l.Pairwise (fun x y => x.1 ≤ y.1) ∧ ((l = [] ∧ r = .slice none 0 0 ∧ σ' = hp first words bad vg vw es clock) ∨ (l ≠ [] ∧ r = .slice (some ⟨5, 0, none⟩) l.length unk ∧ σ' = (hp first words bad vg vw es clock).push (.row 74 4 (encs l))))) := by
  refine (blocks_raw first words bad vg vw es clock hst hsh hlen).renum fun r σ' hn ⟨l, hp1, hso, hcase⟩ => ?_
  have hn5 : 5 ≤ σ'.next := hn
  rcases hcase with ⟨h1, h2, h3⟩ | ⟨h1, h2, h3⟩
  · refine ⟨r, hp first words bad vg vw es clock, id, ⟨fun _ _ => rfl, fun _ _ _ _ h => h, fun i hi => ?_, fun i => hp_sc _ _ _ _ hg.1 hw.1 hsh i (Nat.le_refl _), fun i hi => ?_, Nat.le_refl _⟩, ?_, ?_, l, hp1, hso, .inl ⟨h1, h2, rfl⟩⟩
    · have := hp_live hi
      rw [hp_fix hg hw hsh id (fun _ _ => rfl)]
      exact h3 i (by omega)
    · have := hp_live hi
      show i < 5; omega
    · rw [h2]; simp
    · rw [h2]; exact Sc_nilslice _ _ _
  · subst h3
    have hgp : ∀ i, ((hp first words bad vg vw es clock).push (.row 74 4 (encs l))).get i = if 5 = i then .row 74 4 (encs l) else (hp first words bad vg vw es clock).get i := fun i => St.get_push _ _ _
    have hlv : ∀ i, (((hp first words bad vg vw es clock).push (.row 74 4 (encs l))).get i).live = true → i = 5 ∨ i < 2 := fun i hi => by
      rw [hgp] at hi
      by_cases h5 : 5 = i
      · exact .inl h5.symm
      · rw [if_neg h5] at hi; exact .inr (hp_live hi)
    refine ⟨.slice (some ⟨5, 0, none⟩) l.length unk, (hp first words bad vg vw es clock).push (.row 74 4 (encs l)), fun i => if i = 5 then 6 else i, ⟨fun i hi => if_neg (by have : i < 5 := hi; omega), fun i j hi hj h => ?_, fun i hi => ?_, fun i => ?_, fun i hi => ?_, by show 5 ≤ 6; omega⟩, ?_, Sc_slice (by show 5 < 6; omega), l, hp1, hso, .inr ⟨h1, rfl, rfl⟩⟩
    · have := hlv i hi
      have := hlv j hj
      split at h <;> split at h <;> omega
    · rcases hlv i hi with rfl | h2'
      · rw [hgp, if_pos rfl, if_pos rfl, renB, encs_closed]
        exact rfl
      · rw [if_neg (by omega), hgp, if_neg (by omega), hp_fix hg hw hsh _ (fun j hj => if_neg (by omega)), hpBR_get _ _ _ _ _ _ _ _ _ (by omega)]
    · rw [hgp]
      split
      · exact encs_sc _ _
      · exact hp_sc _ _ _ _ hg.1 hw.1 hsh i (by show 5 ≤ 6; omega)
    · have := hlv i hi
      show i < 6; omega
    · rw [h2, ren_slice]
      exact rfl

end
end Go.Proofs.Ytlnlopeodpamdaa.Hx
