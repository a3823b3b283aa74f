/-
  heap.Free and heap.Blocks as answers of an evaluator.
-/
import Derived.Test.YtlnlopeodpamdaaLawHBlk
set_option maxRecDepth 100000
set_option linter.unusedVariables false
namespace Go.Proofs.Ytlnlopeodpamdaa.Hx
open Go AH Go.Proofs
noncomputable section

structure HV where
  mm : Nat
  m : Nat
  g : Nat
  r : Nat
  first : Int
  words : Int
  bad : Int
  vw : Value
  vw0 : Value
  es : List MapEntry
  clock : Nat

def slotB (h : Nat) : Value → Option (Nat × Value)
  | .slice none 0 0 => some (h, .slice none 0 0)
  | .slice (some ⟨r, 0, none⟩) n c => bif Nat.ble c unk then some (r, .slice (some ⟨4, 0, none⟩) n c) else none
  | _ => none

def nodupN : List Nat → Bool
  | [] => true
  | x :: r => !(r.any fun y => Nat.beq x y) && nodupN r
def nodupI : List BV → Bool
  | [] => true
  | x :: r => !(r.any fun y => leI x.1 y.1 && leI y.1 x.1) && nodupI r
def shapeB (e : MapEntry) : Bool := match e.key with
  | .int .i64 k => (match e.val with
    | .agg cs => (match cs.toList with
      | [.int .i64 a, .int .i64 l, .int .i64 _, .bool _] => leI a k && leI k a && leI 0 l
      | _ => false)
    | _ => false)
  | _ => false
def goodB (es : List MapEntry) (clock : Nat) : Bool := nodupN (es.map (·.born)) && es.all (fun e => Nat.blt e.born clock) && es.all shapeB && Nat.ble es.length 1048576 && nodupI (es.map bvOf)

def seeHeap (σ : St) (h : Nat) : Option HV := match σ.get h with
  | .cells 83 [.pointer (some ⟨mm, 0, none⟩), .int .i64 first, .int .i64 words, .map (some m), .map (some g), vw, .int .i64 bad] =>
    (match slotB h vw with
    | some (r, vw0) => (match σ.get m with
      | .map es clock => bif goodB es clock then some ⟨mm, m, g, r, first, words, bad, vw, vw0, es, clock⟩ else none
      | _ => none)
    | none => none)
  | _ => none

theorem nodupN_ok : ∀ {l : List Nat}, nodupN l = true → l.Nodup
  | [], _ => List.nodup_nil
  | x :: r, h => by
    simp only [nodupN, Bool.and_eq_true, Bool.not_eq_true', List.any_eq_false] at h
    refine List.nodup_cons.2 ⟨fun hx => ?_, nodupN_ok h.2⟩
    have := h.1 x hx
    simp at this
theorem nodupI_ok : ∀ {l : List BV}, nodupI l = true → (l.map (·.1)).Nodup
  | [], _ => List.nodup_nil
  | x :: r, h => by
    simp only [nodupI, Bool.and_eq_true, Bool.not_eq_true', List.any_eq_false] at h
    rw [List.map_cons]
    refine List.nodup_cons.2 ⟨fun hx => ?_, nodupI_ok h.2⟩
    obtain ⟨y, hy, he⟩ := List.mem_map.1 hx
    have := h.1 y hy
    rw [leI_eq, leI_eq, he] at this
    simp at this
theorem shapeB_ok {e : MapEntry} (h : shapeB e = true) : ∃ a l g v, e.val = blkV a l g v ∧ e.key = .int .i64 a ∧ 0 ≤ l := by
  unfold shapeB at h
  split at h
  · rename_i k hk
    split at h
    · rename_i cs hcs
      split at h
      · rename_i a l g v hl
        simp only [Bool.and_eq_true, leI_eq, decide_eq_true_eq] at h
        have : a = k := by omega
        refine ⟨a, l, g, v, ?_, by rw [hk, this], h.2⟩
        rw [hcs]
        unfold blkV
        congr 1
        apply Array.ext'
        rw [hl]
      · cases h
    · cases h
  · cases h
theorem goodB_ok {es : List MapEntry} {clock : Nat} (h : goodB es clock = true) : Stamped es clock ∧ Shaped1 es ∧ es.length ≤ 1048576 ∧ ((es.map bvOf).map (·.1)).Nodup := by
  simp only [goodB, Bool.and_eq_true, List.all_eq_true] at h
  obtain ⟨⟨⟨⟨h1, h2⟩, h3⟩, h4⟩, h5⟩ := h
  exact ⟨⟨nodupN_ok h1, fun e he => by simpa [Nat.blt_eq] using h2 e he⟩, fun e he => shapeB_ok (h3 e he), by simpa using h4, nodupI_ok h5⟩

def piH (h m mm g r : Nat) : Nat → Nat := fun i => if i = 0 then h else if i = 1 then m else if i = 2 then mm else if i = 3 then g else r

structure Seen (σ : St) (h : Nat) (v : HV) : Prop where
  cell : σ.get h = .cells 83 [.pointer (some ⟨v.mm, 0, none⟩), .int .i64 v.first, .int .i64 v.words, .map (some v.m), .map (some v.g), v.vw, .int .i64 v.bad]
  map : σ.get v.m = .map v.es v.clock
  st : Stamped v.es v.clock
  sh : Shaped1 v.es
  len : v.es.length ≤ 1048576
  dist : ((v.es.map bvOf).map (·.1)).Nodup
  rn : AH.ren (loc (piH h v.m v.mm v.g v.r)) v.vw0 = v.vw
  fix : Fix5 v.vw0
  lt : (∃ n c, v.vw = .slice (some ⟨v.r, 0, none⟩) n c) ∨ v.r = h

theorem renC_le {c : Nat} (h : c ≤ unk) : renC unk c = c := by
  unfold renC
  split
  · rfl
  · omega
theorem slotB_ok {h : Nat} {vw : Value} {r : Nat} {vw0 : Value} (hs : slotB h vw = some (r, vw0)) (m mm g : Nat) : AH.ren (loc (piH h m mm g r)) vw0 = vw ∧ Fix5 vw0 ∧ ((∃ n c, vw = .slice (some ⟨r, 0, none⟩) n c) ∨ r = h) := by
  unfold slotB at hs
  split at hs
  · simp only [Option.some.injEq, Prod.mk.injEq] at hs
    obtain ⟨rfl, rfl⟩ := hs
    exact ⟨by simp, ⟨Sc_nilslice _ _ _, fun ρ _ => by simp⟩, .inr rfl⟩
  · rename_i r' n c
    cases hc : Nat.ble c unk with
    | false => rw [hc] at hs; cases hs
    | true =>
      rw [hc] at hs
      simp only [cond_true, Option.some.injEq, Prod.mk.injEq] at hs
      obtain ⟨rfl, rfl⟩ := hs
      have hle : c ≤ unk := by simpa using hc
      refine ⟨?_, ⟨Sc_slice (by show 4 < 5; omega), fun ρ hρ => ?_⟩, .inl ⟨n, c, rfl⟩⟩
      · rw [ren_slice]
        simp only [renA, loc, piH]
        rw [renC_le hle]
        rfl
      · rw [ren_slice]
        simp only [renA, hρ 4 (by omega)]
        rw [renC_le hle]
  · cases hs
theorem seeHeap_ok {σ : St} {h : Nat} {v : HV} (hs : seeHeap σ h = some v) : Seen σ h v := by
  unfold seeHeap at hs
  split at hs
  · rename_i mm first words m g vw bad hc
    split at hs
    · rename_i r vw0 hsl
      split at hs
      · rename_i es clock hm
        cases hg : goodB es clock with
        | false => rw [hg] at hs; cases hs
        | true =>
          rw [hg] at hs
          simp only [cond_true, Option.some.injEq] at hs
          subst hs
          obtain ⟨h1, h2, h3, h4⟩ := goodB_ok hg
          obtain ⟨h5, h6, h7⟩ := slotB_ok hsl m mm g
          exact ⟨hc, hm, h1, h2, h3, h4, h5, h6, h7⟩
      · cases hs
    · cases hs
  · cases hs

theorem Seen.small {σ : St} {h : Nat} {v : HV} (s : Seen σ h v) (hout : ∀ i, (σ.get i).live = true → i < σ.next) (hsc : ∀ i, (σ.get i).sc σ.next) : Small (piH h v.m v.mm v.g v.r) (hp v.first v.words v.bad (.map (some 3)) v.vw0 v.es v.clock) σ := by
  have hh : h < σ.next := hout h (by rw [s.cell]; rfl)
  have hm : v.m < σ.next := hout v.m (by rw [s.map]; rfl)
  have hcs := hsc h
  rw [s.cell] at hcs
  have hmm : v.mm < σ.next := Sc_ptr_lt (hcs (.pointer (some ⟨v.mm, 0, none⟩)) (by simp))
  have hg : v.g < σ.next := Sc_map_lt (hcs (.map (some v.g)) (by simp))
  have hr : v.r < σ.next := by
    rcases s.lt with ⟨n, c, e⟩ | e
    · have := hcs v.vw (by simp)
      rw [e] at this
      exact Sc_slice_lt this
    · rw [e]; exact hh
  have hne : h ≠ v.m := fun e => by
    have := s.cell
    rw [e, s.map] at this
    cases this
  have hf3 : Fix5 (.map (some 3)) := ⟨Sc_map (by omega), fun ρ hρ => by rw [ren_map, hρ 3 (by omega)]⟩
  refine ⟨fun i hi => ?_, fun i j hi hj e => ?_, fun i hi => ?_, fun i => hp_sc _ _ _ _ hf3.1 s.fix.1 s.sh i (Nat.le_refl _), fun i hi => ?_⟩
  · unfold piH
    split
    · exact hh
    split
    · exact hm
    split
    · exact hmm
    split
    · exact hg
    · exact hr
  · have h1 := hp_live hi
    have h2 := hp_live hj
    by_cases e1 : i = 0 <;> by_cases e2 : j = 0
    · omega
    · have : j = 1 := by omega
      subst e1; subst this
      exact absurd e hne
    · have : i = 1 := by omega
      subst e2; subst this
      exact absurd e.symm hne
    · omega
  · have h1 := hp_live hi
    by_cases e1 : i = 0
    · subst e1
      show σ.get h = _
      rw [s.cell, hp_get, if_neg (by omega), if_pos rfl]
      simp only [renB, List.map_cons, List.map_nil, ren_ptr, ren_int, ren_map, renA, s.rn]
      rfl
    · have : i = 1 := by omega
      subst this
      show σ.get v.m = _
      rw [s.map, hp_get, if_pos rfl, renB, s.sh.map_eq]
  · have := hp_live hi
    show i < 5; omega

/-- heap.Free in any state. -/
theorem freeG {σ : St} {h : Nat} {v : HV} (s : Seen σ h v) (hb : sumLen v.es ≤ 4611686018427387904) (hw1 : 0 ≤ v.words) (hw2 : v.words ≤ 4611686018427387904) :
    WF M.toEnv 28 [.pointer (some ⟨h, 0, none⟩)] σ (fun r σ' => r = .int .i64 (v.words - sumLen v.es) ∧ σ' = σ) := by
  have hc := free_clean v.first v.words v.bad (.map (some 3)) v.vw0 v.es v.clock s.st s.sh hb hw1 hw2
  refine WF.know hc.1 fun hout hsc => ?_
  have hs := s.small hout hsc
  have hargs : ([.pointer (some ⟨0, 0, none⟩)] : List Value).map (ren (loc (piH h v.m v.mm v.g v.r))) = [.pointer (some ⟨h, 0, none⟩)] := by
    simp [renA, loc, piH]
  rw [← hargs]
  refine WF.frame hs (fun u hu => ?_) hc fun r σ₀' _ ⟨e1, e2⟩ => ?_
  · simp only [List.mem_singleton] at hu
    subst hu
    exact Sc_ptr (by show 0 < 5; omega)
  · subst e1; subst e2
    exact ⟨σ, Big.same hs hout, by simp, rfl⟩

/-- The blocks, rising. -/
def insB (x : BV) : List BV → List BV
  | [] => [x]
  | y :: r => bif leI x.1 y.1 then x :: y :: r else y :: insB x r
def sortB : List BV → List BV
  | [] => []
  | x :: r => insB x (sortB r)
theorem insB_perm (x : BV) : ∀ l : List BV, (insB x l).Perm (x :: l)
  | [] => List.Perm.refl _
  | y :: r => by
    unfold insB
    cases leI x.1 y.1 with
    | true => exact List.Perm.refl _
    | false => exact ((insB_perm x r).cons y).trans (List.Perm.swap x y r)
theorem sortB_perm : ∀ l : List BV, (sortB l).Perm l
  | [] => List.Perm.refl _
  | x :: r => (insB_perm x (sortB r)).trans ((sortB_perm r).cons x)
theorem insB_sorted (x : BV) : ∀ {l : List BV}, l.Pairwise (fun x y => x.1 ≤ y.1) → (insB x l).Pairwise (fun x y => x.1 ≤ y.1)
  | [], _ => by simp [insB]
  | y :: r, h => by
    unfold insB
    cases hc : leI x.1 y.1 with
    | true =>
      rw [leI_eq, decide_eq_true_eq] at hc
      refine List.pairwise_cons.2 ⟨fun z hz => ?_, h⟩
      rcases List.mem_cons.1 hz with rfl | hz
      · exact hc
      · have := (List.pairwise_cons.1 h).1 z hz; omega
    | false =>
      rw [leI_eq, decide_eq_false_iff_not] at hc
      obtain ⟨h1, h2⟩ := List.pairwise_cons.1 h
      refine List.pairwise_cons.2 ⟨fun z hz => ?_, insB_sorted x h2⟩
      have := (insB_perm x r).subset hz
      rcases List.mem_cons.1 this with rfl | hz
      · omega
      · exact h1 z hz
theorem sortB_sorted : ∀ l : List BV, (sortB l).Pairwise (fun x y => x.1 ≤ y.1)
  | [] => List.Pairwise.nil
  | x :: r => insB_sorted x (sortB_sorted r)
theorem sortB_unique {l l' : List BV} (hn : (l.map (·.1)).Nodup) (hp : l'.Perm l) (hs : l'.Pairwise (fun x y => x.1 ≤ y.1)) : l' = sortB l := by
  refine List.Perm.eq_of_pairwise (le := fun x y => x.1 ≤ y.1) (fun a b ha hb h1 h2 => ?_) hs (sortB_sorted l) (hp.trans (sortB_perm l).symm)
  have ha' := hp.subset ha
  have hb' := (sortB_perm l).subset hb
  have hab : a.1 = b.1 := by omega
  clear hp hs ha hb h1 h2
  induction l with
  | nil => cases ha'
  | cons x r ih =>
    simp only [List.map_cons, List.nodup_cons, List.mem_map, not_exists, not_and] at hn
    rcases List.mem_cons.1 ha' with ea | ha''
    · rcases List.mem_cons.1 hb' with eb | hb''
      · rw [ea, eb]
      · exact absurd (by rw [← hab, ea]) (hn.1 b hb'')
    · rcases List.mem_cons.1 hb' with eb | hb''
      · exact absurd (by rw [hab, eb]) (hn.1 a ha'')
      · exact ih hn.2 ha'' hb''

/-- What heap.Blocks answers. -/
def blocksV (σ : St) (l : List BV) : Value × St := match l with
  | [] => (.slice none 0 0, σ)
  | x :: r => (.slice (some ⟨σ.next, 0, none⟩) (x :: r).length unk, σ.push (.row 74 4 (encs (x :: r))))
theorem blocksG {σ : St} {h : Nat} {v : HV} (s : Seen σ h v) :
    WF M.toEnv 35 [.pointer (some ⟨h, 0, none⟩)] σ (fun r σ' => r = (blocksV σ (sortB (v.es.map bvOf))).1 ∧ σ' = (blocksV σ (sortB (v.es.map bvOf))).2) := by
  have hf3 : Fix5 (.map (some 3)) := ⟨Sc_map (by omega), fun ρ hρ => by rw [ren_map, hρ 3 (by omega)]⟩
  have hc := blocks_small v.first v.words v.bad (.map (some 3)) v.vw0 v.es v.clock hf3 s.fix s.st s.sh s.len
  refine WF.know hc.1 fun hout hsc => ?_
  have hs := s.small hout hsc
  have hargs : ([.pointer (some ⟨0, 0, none⟩)] : List Value).map (ren (loc (piH h v.m v.mm v.g v.r))) = [.pointer (some ⟨h, 0, none⟩)] := by
    simp [renA, loc, piH]
  rw [← hargs]
  refine WF.frame hs (fun u hu => ?_) hc fun r σ₀' _ ⟨l, hp1, hso, hcase⟩ => ?_
  · simp only [List.mem_singleton] at hu
    subst hu
    exact Sc_ptr (by show 0 < 5; omega)
  · have hl := sortB_unique s.dist hp1 hso
    rw [← hl]
    rcases hcase with ⟨rfl, rfl, rfl⟩ | ⟨h1, rfl, rfl⟩
    · exact ⟨σ, Big.same hs hout, by simp [blocksV], rfl⟩
    · cases l with
      | nil => exact absurd rfl h1
      | cons x t =>
        refine ⟨_, Big.push hs hout _, ?_, ?_⟩
        · rw [ren_slice]
          have : exN (piH h v.m v.mm v.g v.r) (hp v.first v.words v.bad (.map (some 3)) v.vw0 v.es v.clock).next σ.next 5 = σ.next := by
            show exN _ 5 σ.next 5 = _
            exact exN_new
          simp only [renA, loc, this]
          rfl
        · rw [renB, encs_closed]
          rfl

/-- The answers of heap.Free and heap.Blocks. -/
def orc : CallF := fun g args σ =>
  bif Nat.beq g 35 then
    (match args with
    | [.pointer (some ⟨h, 0, none⟩)] => (match seeHeap σ h with
      | some v => some (blocksV σ (sortB (v.es.map bvOf)))
      | none => none)
    | _ => none)
  else bif Nat.beq g 28 then
    (match args with
    | [.pointer (some ⟨h, 0, none⟩)] => (match seeHeap σ h with
      | some v => bif leI (sumLen v.es) 4611686018427387904 && leI 0 v.words && leI v.words 4611686018427387904 then some (.int .i64 (v.words - sumLen v.es), σ) else none
      | none => none)
    | _ => none)
  else none

theorem orc_ok : CallOk M orc := by
  intro g args σ r σ' h
  unfold orc at h
  cases h35 : Nat.beq g 35 with
  | true =>
    have hg : g = 35 := Nat.eq_of_beq_eq_true h35
    subst hg
    rw [h35] at h
    simp only [cond_true] at h
    split at h
    · rename_i hh
      split at h
      · rename_i v hv
        simp only [Option.some.injEq] at h
        have := blocksG (seeHeap_ok hv)
        rw [h] at this
        exact this
      · cases h
    · cases h
  | false =>
    rw [h35] at h
    simp only [cond_false] at h
    cases h28 : Nat.beq g 28 with
    | false => rw [h28] at h; cases h
    | true =>
      have hg : g = 28 := Nat.eq_of_beq_eq_true h28
      subst hg
      rw [h28] at h
      simp only [cond_true] at h
      split at h
      · rename_i hh
        split at h
        · rename_i v hv
          cases hc : (leI (sumLen v.es) 4611686018427387904 && leI 0 v.words && leI v.words 4611686018427387904) with
          | false => rw [hc] at h; cases h
          | true =>
            rw [hc] at h
            simp only [cond_true, Option.some.injEq, Prod.mk.injEq] at h
            simp only [Bool.and_eq_true, leI_eq, decide_eq_true_eq] at hc
            obtain ⟨rfl, rfl⟩ := h
            exact freeG (seeHeap_ok hv) hc.1.1 hc.1.2 hc.2
        · cases h
      · cases h
end
end Go.Proofs.Ytlnlopeodpamdaa.Hx
