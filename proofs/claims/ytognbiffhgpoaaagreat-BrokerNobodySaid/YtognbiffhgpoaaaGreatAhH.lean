/-
  AH H: an operation and some that only make memory, that come up in any order.
-/
import Derived.Test.YtognbiffhgpoaaaGreatAh20
set_option linter.unusedSimpArgs false
set_option linter.unusedVariables false
set_option linter.unusedSectionVars false
namespace AH
open Go
noncomputable section

def delO (f : Fr) (d : Option Tmp) : Fr := match d with | some t => f.del t | none => f

def dstOf (ops : Array Oper) (x : Nat) : Option Tmp := match ops.toList[x]? with | some o => o.dst | none => none

/-- The frame without what is going to be put. -/
def bare (ops : Array Oper) (f : Fr) : List Nat → Fr
  | [] => f
  | x :: r => bare ops (delO f (dstOf ops x)) r

/-- What is made is known, one behind the other. -/
def adopt (E : Env) (ops : Array Oper) (fe : Fr) : List Nat → Fr → St → Option (Fr × St)
  | [], f, σ => some (f, σ)
  | x :: r, f, σ => match ops.toList[x]? with
    | some o => (match wantedA ops fe o with
      | some true => (match allocQ E fe o.op with
        | some N => adopt E ops fe r (putF f o.dst (N.val σ.next)) (σ.push N.blk)
        | none => none)
      | _ => none)
    | none => none

def grpOk (ops : Array Oper) (G : List Nat) : Bool :=
  G.all fun x => G.all fun y => x == y || (match dstOf ops x, dstOf ops y with | some t, some u => t != u | _, _ => true)

def nodupB : List Nat → Bool
  | [] => true
  | x :: r => !r.contains x && nodupB r

theorem nodupB_spec : ∀ {l : List Nat}, nodupB l = true → l.Nodup
  | [], _ => List.nodup_nil
  | x :: r, h => by
    simp only [nodupB, Bool.and_eq_true, Bool.not_eq_true'] at h
    refine List.nodup_cons.2 ⟨fun hm => ?_, nodupB_spec h.2⟩
    have := List.contains_iff_mem.2 hm
    rw [h.1] at this; cases this

theorem delO_get (f : Fr) (d : Option Tmp) (t : Tmp) : (delO f d).get t = if d = some t then none else f.get t := by
  cases d with
  | none => simp [delO]
  | some u => simp [delO, Fr.get_del]

theorem bare_some {ops : Array Oper} : ∀ {l : List Nat} {f : Fr} {t : Tmp} {v : Value}, (bare ops f l).get t = some v → f.get t = some v
  | [], f, t, v, h => h
  | x :: r, f, t, v, h => by
    have := bare_some (l := r) h
    rw [delO_get] at this
    split at this
    · cases this
    · exact this

theorem bare_none {ops : Array Oper} : ∀ {l : List Nat} {f : Fr} {x : Nat} {t : Tmp}, x ∈ l → dstOf ops x = some t → (bare ops f l).get t = none
  | y :: r, f, x, t, hx, hd => by
    rcases List.mem_cons.1 hx with rfl | hx
    · cases hg : (bare ops f (x :: r)).get t with
      | none => rfl
      | some v =>
        have := bare_some (l := r) (show (bare ops (delO f (dstOf ops x)) r).get t = some v from hg)
        rw [delO_get, hd, if_pos rfl] at this
        cases this
    · exact bare_none (l := r) hx hd

theorem bare_df {ops : Array Oper} : ∀ {l : List Nat} {f : Fr}, (bare ops f l).df = f.df
  | [], f => rfl
  | x :: r, f => by
    have := bare_df (ops := ops) (l := r) (f := delO f (dstOf ops x))
    refine Eq.trans this ?_
    unfold delO; split <;> rfl

theorem FrRel.bare {ρ : Nat → Loc} {f : Fr} {n : Nat} {a : Act} (h : FrRel ρ f n a) (ops : Array Oper) (l : List Nat) : FrRel ρ (bare ops f l) n a :=
  ⟨fun t v hv => h.slot t v (bare_some hv), fun t v hv => h.sc t v (bare_some hv), by rw [bare_df]; exact h.defers, by rw [bare_df]; exact h.dsc⟩

/-- What is put where the frame knows nothing. -/
theorem FrRel.put_out {ρ : Nat → Loc} {f : Fr} {n : Nat} {a : Act} (h : FrRel ρ f n a) {d : Option Tmp} (hd : ∀ t, d = some t → f.get t = none) (v : Value) : FrRel ρ f n (a.put d v) := by
  cases d with
  | none => exact h
  | some t =>
    refine ⟨fun s u hu => ?_, h.sc, h.defers, h.dsc⟩
    have : t ≠ s := fun e => by subst e; rw [hd t rfl] at hu; cases hu
    simp only [Act.put, Array.getElem?_setIfInBounds, if_neg this]
    exact h.slot s u hu

theorem put_get {a : Act} {d : Option Tmp} {v : Value} {t : Tmp} (hd : d ≠ some t) : (a.put d v).tmps[t]? = a.tmps[t]? := by
  cases d with
  | none => rfl
  | some u =>
    have : u ≠ t := fun e => hd (by rw [e])
    simp only [Act.put, Array.getElem?_setIfInBounds, if_neg this]

theorem put_got {a : Act} {t : Tmp} {v : Value} (h : t < a.tmps.size) : (a.put (some t) v).tmps[t]? = some v := by
  simp [Act.put, h]

/-- What the slot holds is known. -/
theorem FrRel.know {ρ : Nat → Loc} {f : Fr} {n : Nat} {a : Act} (h : FrRel ρ f n a) {d : Option Tmp} {v : Value} (hd : ∀ t, d = some t → a.tmps[t]? = some (ren ρ v)) (hv : Sc n v) : FrRel ρ (putF f d v) n a := by
  cases d with
  | none => exact h
  | some t =>
    refine ⟨fun s u hu => ?_, fun s u hu => ?_, h.defers, h.dsc⟩
    · simp only [putF, Fr.get_set] at hu
      split at hu
      · rename_i e; subst e
        simp only [Option.some.injEq] at hu
        subst hu
        exact hd t rfl
      · exact h.slot s u hu
    · simp only [putF, Fr.get_set] at hu
      split at hu
      · simp only [Option.some.injEq] at hu; subst hu; exact hv
      · exact h.sc s u hu

section
variable {M : EnvM} {nt : Nat} {ops : Array Oper} {i : Nat} {A : List Nat} {fe : Fr} {ρ₀ : Nat → Loc} {σ₀ : St} {w₀ : World} {Km : Value → St → Prop}

/-- A block that was made, and that nothing knows of. -/
def Made1 (M : EnvM) (ops : Array Oper) (fe : Fr) (ρ₀ : Nat → Loc) (w₀ : World) (ρ : Nat → Loc) (σ : St) (w : World) (a : Act) (x b : Nat) : Prop :=
  ∃ o N, ops.toList[x]? = some o ∧ allocQ M.toEnv fe o.op = some N ∧ w.heap[b]? = some (N.obj ρ₀) ∧ w₀.heap.size ≤ b ∧ (∀ j, (σ.get j).live = true → (ρ j).b ≠ b) ∧ (∀ t, o.dst = some t → a.tmps[t]? = some (N.val b))

structure Mid (M : EnvM) (nt : Nat) (ops : Array Oper) (i : Nat) (A : List Nat) (fe : Fr) (ρ₀ : Nat → Loc) (σ₀ : St) (w₀ : World) (Km : Value → St → Prop) (B : Nat → Option Nat) (todo : List Nat) (ρ : Nat → Loc) (σ : St) (w : World) (a : Act) : Prop where
  evo : Evo ρ₀ σ₀ w₀ ρ σ w
  fr : FrRel ρ fe σ.next a
  size : a.tmps.size = nt
  nod : todo.Nodup
  sub : ∀ x ∈ todo, x ∈ i :: A
  all : ∀ x ∈ A, x ∈ todo ∨ (B x).isSome = true
  al : ∀ x b, B x = some b → x ∈ A ∧ x ∉ todo ∧ Made1 M ops fe ρ₀ w₀ ρ σ w a x b
  inj : ∀ x y b, B x = some b → B y = some b → x = y
  main : (i ∈ todo ∧ σ = σ₀ ∧ ρ = ρ₀) ∨ (i ∉ todo ∧ ∃ v, (∀ t, dstOf ops i = some t → a.tmps[t]? = some (ren ρ v)) ∧ Sc σ.next v ∧ Km v σ)

theorem grp_ne {G : List Nat} (h : grpOk ops G = true) {x y : Nat} (hx : x ∈ G) (hy : y ∈ G) (hxy : x ≠ y) {t : Tmp} (ht : dstOf ops x = some t) : dstOf ops y ≠ some t := by
  intro hu
  have := List.all_eq_true.1 (List.all_eq_true.1 h x hx) y hy
  simp only [ht, hu, Bool.or_eq_true, beq_iff_eq, bne_iff_ne, ne_eq, not_true_eq_false, or_false] at this
  exact hxy this

theorem getElem?_toList_eq (l : Array Oper) (x : Nat) : l.toList[x]? = l[x]? := by simp

theorem Mid.run {F : Exit → Act → World → Prop} {S : Array Bool → World → Prop} {fin : Array Bool} {n' : Nat}
    (hd : ∀ o ∈ ops.toList, dstOk nt o = true) (hi : i ∉ A) (hg : grpOk ops (i :: A) = true) (hb : ∀ x t, x ∈ i :: A → dstOf ops x = some t → fe.get t = none)
    (hA : ∀ x ∈ A, ∃ o N, ops.toList[x]? = some o ∧ wantedA ops fe o = some true ∧ allocQ M.toEnv fe o.op = some N)
    {a₀ : Act} (hF0 : FrRel ρ₀ fe σ₀.next a₀)
    (hmain : ∀ w a, Rel ρ₀ σ₀ w → FrRel ρ₀ fe σ₀.next a → a.tmps.size = nt → wpOp M.P ops F i (fun a' w' => ∃ ρ' σ' v, a' = a.put (dstOf ops i) (ren ρ' v) ∧ Evo ρ₀ σ₀ w ρ' σ' w' ∧ Sc σ'.next v ∧ Km v σ') a w)
    (hS : ∀ B todo ρ σ w a (l : Array Bool), Mid M nt ops i A fe ρ₀ σ₀ w₀ Km B todo ρ σ w a → (i ∉ todo → l.getD i false = true) → S l w)
    (hend : ∀ B ρ σ w a, Mid M nt ops i A fe ρ₀ σ₀ w₀ Km B [] ρ σ w a → fin.getD i false = true → wpAnyL M.P .any ops F S n' fin a w) :
    ∀ (n : Nat) (todo : List Nat) (listed : Array Bool) (B : Nat → Option Nat) (ρ : Nat → Loc) (σ : St) (w : World) (a : Act), chk ops fin n listed todo = true → Mid M nt ops i A fe ρ₀ σ₀ w₀ Km B todo ρ σ w a → (i ∉ todo → listed.getD i false = true) →
      wpAnyL M.P .any ops F S (n' + todo.length) listed a w := by
  intro n
  induction n with
  | zero =>
    intro todo listed B ρ σ w a hc hm hlst
    cases todo with
    | nil =>
      simp only [chk, beq_iff_eq] at hc
      subst hc
      exact hend B ρ σ w a hm (hlst (by simp))
    | cons x r => simp [chk] at hc
  | succ n ih =>
    intro todo listed B ρ σ w a hc hm hlst
    cases todo with
    | nil =>
      simp only [chk, beq_iff_eq] at hc
      subst hc
      exact hend B ρ σ w a hm (hlst (by simp))
    | cons x₀ r =>
      have hlen : ∀ j ∈ x₀ :: r, n' + (x₀ :: r).length = (n' + ((x₀ :: r).erase j).length) + 1 := fun j hj => by
        rw [List.length_erase_of_mem hj]; simp only [List.length_cons]; omega
      generalize htd : x₀ :: r = todo at *
      have hc' : (!(Region.ready .any ops listed).isEmpty && (Region.ready .any ops listed).all (fun j => todo.contains j && chk ops fin n (listed.setIfInBounds j true) (todo.erase j))) = true := by
        subst htd; exact hc
      simp only [Bool.and_eq_true, Bool.not_eq_true', List.all_eq_true, List.contains_iff_mem] at hc'
      obtain ⟨hne, hall⟩ := hc'
      have hlen' : ∃ m, n' + todo.length = m + 1 := ⟨n' + r.length, by subst htd; simp; omega⟩
      obtain ⟨m, hmm⟩ := hlen'
      rw [hmm]
      refine wpAnyL_all rfl (fun h0 => by rw [h0] at hne; simp at hne) fun j hj => ?_
      obtain ⟨hjt, hck⟩ := hall j hj
      have hm' : m = n' + (todo.erase j).length := by have := hlen j hjt; omega
      rw [hm']
      have hnod' : (todo.erase j).Nodup := hm.nod.erase j
      have hmem : ∀ y, y ∈ todo.erase j ↔ y ≠ j ∧ y ∈ todo := fun y => hm.nod.mem_erase_iff
      have hjG := hm.sub j hjt
      by_cases hji : j = i
      · -- the one that does something
        subst hji
        have hst : σ = σ₀ ∧ ρ = ρ₀ := by
          rcases hm.main with ⟨_, hσ, hρ⟩ | ⟨hno, _⟩
          · exact ⟨hσ, hρ⟩
          · exact absurd hjt hno
        obtain ⟨hσ, hρ⟩ := hst
        subst hσ; subst hρ
        refine wpOp_monoQ (Q := F) (fun _ _ _ h => h) (fun a' w' hh => ?_) (hmain w a hm.evo.rel hm.fr hm.size)
        obtain ⟨ρ', σ', v, ha', hev, hv, hk⟩ := hh
        have hmid : Mid M nt ops j A fe ρ σ w₀ Km B (todo.erase j) ρ' σ' w' a' := by
          refine ⟨hm.evo.trans hev, ?_, ?_, hnod', fun x hx => hm.sub x ((hmem x).1 hx).2, fun x hx => ?_, fun x b hxb => ?_, hm.inj, .inr ⟨fun hh => ((hmem j).1 hh).1 rfl, v, fun t ht => ?_, hv, hk⟩⟩
          · rw [ha']; exact (hm.fr.evo hev.ext hev.next).put_out (fun t ht => hb j t (by simp) ht) _
          · rw [ha', put_size]; exact hm.size
          · rcases hm.all x hx with h | h
            · exact .inl ((hmem x).2 ⟨fun e => hi (e ▸ hx), h⟩)
            · exact .inr h
          · obtain ⟨h1, h2, o, N, h3, h4, h5, h6, h7, h8⟩ := hm.al x b hxb
            refine ⟨h1, fun hh => h2 ((hmem x).1 hh).2, o, N, h3, h4, ?_, h6, fun k hk' hkb => ?_, fun t ht => ?_⟩
            · rw [← h5]
              have hbs : b < w.heap.size := by
                rcases Nat.lt_or_ge b w.heap.size with h | h
                · exact h
                · rw [Array.getElem?_eq_none h] at h5; cases h5
              exact hev.fra b hbs fun k hk' => h7 k (Blk.live_of_wr hk')
            · have hbs : b < w.heap.size := by
                rcases Nat.lt_or_ge b w.heap.size with h | h
                · exact h
                · rw [Array.getElem?_eq_none h] at h5; cases h5
              rcases hev.liv k hk' with ⟨k', hk1, hk2⟩ | hge
              · exact h7 k' hk1 (hk2.trans hkb)
              · omega
            · rw [ha', put_get]
              · exact h8 t ht
              · refine grp_ne hg (x := x) (y := j) (by simp [h1]) (by simp) (fun e => hi (e ▸ h1)) ?_
                simp only [dstOf, h3, ht]
          · subst ha'
            rw [ht, put_got]
            rw [hm.size]
            simp only [dstOf] at ht
            split at ht
            · rename_i o ho
              have := hd o (List.mem_of_getElem? ho)
              simp only [dstOk, ht] at this
              exact Nat.le_of_ble_eq_true this
            · cases ht
        have hls : j ∉ todo.erase j → (listed.setIfInBounds j true).getD j false = true := fun _ => getD_set_self (mem_ready.1 hj).1
        exact ⟨hS _ _ _ _ _ _ _ hmid hls, ih _ _ _ _ _ _ _ hck hmid hls⟩
      · have hjA : j ∈ A := by
          rcases List.mem_cons.1 hjG with h | h
          · exact absurd h hji
          · exact h
        obtain ⟨o, N, ho, hwant, hN⟩ := hA j hjA
        have hscN := (allocQ_sound M.toEnv hm.fr o hN)
        -- with the first numbering
        have hev2 := Evo.more hm.evo.rel (N.obj ρ)
        have hdst : dstOf ops j = o.dst := by simp only [dstOf, ho]
        have hmid : Mid M nt ops i A fe ρ₀ σ₀ w₀ Km (fun y => if y = j then some w.heap.size else B y) (todo.erase j) ρ σ (w.alloc (N.obj ρ)) (a.put o.dst (N.val w.heap.size)) := by
          have hold : ∀ y b, B y = some b → b < w.heap.size := fun y b hyb => by
            obtain ⟨_, _, _, _, _, _, h5, _⟩ := hm.al y b hyb
            rcases Nat.lt_or_ge b w.heap.size with h | h
            · exact h
            · rw [Array.getElem?_eq_none h] at h5; cases h5
          refine ⟨hm.evo.trans hev2, hm.fr.put_out (fun t ht => hb j t hjG (by rw [hdst]; exact ht)) _, by rw [put_size]; exact hm.size, hnod', fun x hx => hm.sub x ((hmem x).1 hx).2, fun x hx => ?_, fun x b hxb => ?_, fun x y b hx hy => ?_, ?_⟩
          · by_cases e : x = j
            · exact .inr (by simp [e])
            · rcases hm.all x hx with h | h
              · exact .inl ((hmem x).2 ⟨e, h⟩)
              · exact .inr (by simp [e, h])
          · by_cases e : x = j
            · subst e
              simp only [if_true, Option.some.injEq] at hxb
              subst hxb
              refine ⟨hjA, fun hh => ((hmem x).1 hh).1 rfl, o, N, ho, hN, ?_, hm.evo.size, fun k hk hkb => ?_, fun t ht => ?_⟩
              · rw [get_new]
                have hfe0 : N.sc σ₀.next := (allocQ_sound M.toEnv hF0 o hN).1
                exact congrArg some (New.obj_congr hfe0 fun k hk => hm.evo.ext k hk)
              · have := hm.evo.rel.size hk; omega
              · rw [ht, put_got]
                rw [hm.size]
                have := hd o (List.mem_of_getElem? ho)
                simp only [dstOk, ht] at this
                exact Nat.le_of_ble_eq_true this
            · simp only [if_neg e] at hxb
              obtain ⟨h1, h2, o', N', h3, h4, h5, h6, h7, h8⟩ := hm.al x b hxb
              refine ⟨h1, fun hh => h2 ((hmem x).1 hh).2, o', N', h3, h4, ?_, h6, h7, fun t ht => ?_⟩
              · rw [Go.RowKit.Below.heap_alloc w _ b (hold x b hxb)]; exact h5
              · rw [put_get]
                · exact h8 t ht
                · rw [← hdst]
                  refine grp_ne hg (x := x) (y := j) (by simp [h1]) hjG e ?_
                  simp only [dstOf, h3, ht]
          · by_cases e : x = j
            · by_cases e' : y = j
              · rw [e, e']
              · simp only [if_pos e, if_neg e', Option.some.injEq] at hx hy
                have := hold y b hy; omega
            · by_cases e' : y = j
              · simp only [if_neg e, if_pos e', Option.some.injEq] at hx hy
                have := hold x b hx; omega
              · simp only [if_neg e, if_neg e'] at hx hy
                exact hm.inj x y b hx hy
          · rcases hm.main with ⟨h1, h2, h3⟩ | ⟨h1, v, h2, h3, h4⟩
            · exact .inl ⟨(hmem i).2 ⟨Ne.symm hji, h1⟩, h2, h3⟩
            · refine .inr ⟨fun hh => h1 ((hmem i).1 hh).2, v, fun t ht => ?_, h3, h4⟩
              rw [put_get]
              · exact h2 t ht
              · rw [← hdst]
                exact grp_ne hg (x := i) (y := j) (by simp) hjG (Ne.symm hji) ht
        unfold wpOp
        have hop : ops[j]? = some o := by rw [← getElem?_toList_eq]; exact ho
        simp only [hop, wantedA_sound hm.fr hwant, if_true, Oper.wp, hscN.2 w, Oper.upon]
        have hls : i ∉ todo.erase j → (listed.setIfInBounds j true).getD i false = true := fun hno => getD_set_true (hlst fun hh => hno ((hmem i).2 ⟨Ne.symm hji, hh⟩))
        exact .inl ⟨hS _ _ _ _ _ _ _ hmid hls, ih _ _ _ _ _ _ _ hck hmid hls⟩


theorem adopt_sound : ∀ {A' : List Nat} {f : Fr} {ρ : Nat → Loc} {σ : St} {w : World} {a : Act} {f'' : Fr} {σ'' : St} {B : Nat → Option Nat}, adopt M.toEnv ops fe A' f σ = some (f'', σ'') → Evo ρ₀ σ₀ w₀ ρ σ w → FrRel ρ f σ.next a → A'.Nodup →
    (∀ x ∈ A', ∃ b, B x = some b ∧ Made1 M ops fe ρ₀ w₀ ρ σ w a x b) → (∀ x y b, B x = some b → B y = some b → x = y) → {a₀ : Act} → FrRel ρ₀ fe σ₀.next a₀ → ∃ ρ'', Evo ρ₀ σ₀ w₀ ρ'' σ'' w ∧ FrRel ρ'' f'' σ''.next a
  | [], f, ρ, σ, w, a, f'', σ'', B, h, hev, hF, _, _, _, _, _ => by
    simp only [adopt, Option.some.injEq, Prod.mk.injEq] at h
    obtain ⟨rfl, rfl⟩ := h
    exact ⟨ρ, hev, hF⟩
  | x :: r, f, ρ, σ, w, a, f'', σ'', B, h, hev, hF, hnd, hB, hinj, a₀, hF0 => by
    obtain ⟨b, hxb, o, N, ho, hN, hw, hlo, hno, hslot⟩ := hB x (by simp)
    have hwt : wantedA ops fe o = some true := by
      cases hq : wantedA ops fe o with
      | none => simp [adopt, ho, hq] at h
      | some t => cases t with
        | true => rfl
        | false => simp [adopt, ho, hq] at h
    simp only [adopt, ho, hN, hwt] at h
    have hNs : N.sc σ₀.next := (allocQ_sound M.toEnv hF0 o hN).1
    have hev' := Evo.adopt hev hNs hw hlo hno
    have hF' : FrRel (upd ρ σ.next ⟨b, 0, 0⟩) (putF f o.dst (N.val σ.next)) (σ.push N.blk).next a := by
      refine FrRel.know (hF.evo (fun i hi => upd_lt ρ _ hi) (by simp)) (fun t ht => ?_) (New.val_sc N (by simp))
      rw [New.val_ren hNs, hslot t ht]
    obtain ⟨hx1, hx2⟩ := List.nodup_cons.1 hnd
    refine adopt_sound h hev' hF' hx2 (fun y hy => ?_) hinj hF0
    obtain ⟨b', hyb, o', N', h1, h2, h3, h4, h5, h6⟩ := hB y (by simp [hy])
    refine ⟨b', hyb, o', N', h1, h2, h3, h4, fun j hj => ?_, h6⟩
    rw [St.get_push] at hj
    split at hj
    · rename_i e; subst e
      rw [upd_same]
      intro e
      simp only at e
      subst e
      have := hinj x y b hxb hyb
      subst this
      exact hx1 hy
    · rename_i e
      rw [upd_ne _ _ (Ne.symm e)]
      exact h5 j hj

theorem adopt_all : ∀ {A' : List Nat} {f : Fr} {σ : St} {f'' : Fr} {σ'' : St}, adopt M.toEnv ops fe A' f σ = some (f'', σ'') → ∀ x ∈ A', ∃ o N, ops.toList[x]? = some o ∧ wantedA ops fe o = some true ∧ allocQ M.toEnv fe o.op = some N
  | x :: r, f, σ, f'', σ'', h, y, hy => by
    unfold adopt at h
    split at h
    · rename_i o ho
      split at h
      · rename_i hw
        split at h
        · rename_i N hN
          rcases List.mem_cons.1 hy with rfl | hy
          · exact ⟨o, N, ho, hw, hN⟩
          · exact adopt_all h y hy
        · cases h
      · cases h
    · cases h

/-- What is left behind the one that does something, and behind them all. -/
def Grp (M : EnvM) (nt : Nat) (ops : Array Oper) (i : Nat) (A : List Nat) (fe : Fr) (H : List HE) (r : List Ent) (K : Fr → St → Prop) (v : Value) (σ' : St) : Prop :=
  (∀ h ∈ rls i H, h.2.in σ') ∧ ∃ f'' σ'', adopt M.toEnv ops fe A (putF fe (dstOf ops i) v) σ' = some (f'', σ'') ∧ (∀ h ∈ rls i H, h.2.in σ'') ∧ DP M nt ops r (rls i H) f'' σ'' K

theorem DP.group {r : List Ent} {H : List HE} {f : Fr} {σ : St} {K : Fr → St → Prop} (hgo : grpOk ops (i :: A) = true) (hnd : nodupB (i :: A) = true) (hA : ∀ x ∈ A, ∃ o N, ops.toList[x]? = some o ∧ wantedA ops (bare ops f (i :: A)) o = some true ∧ allocQ M.toEnv (bare ops f (i :: A)) o.op = some N)
    (hmain : ∀ F ρ w a, Rel ρ σ w → FrRel ρ (bare ops f (i :: A)) σ.next a → a.tmps.size = nt → wpOp M.P ops F i (fun a' w' => ∃ ρ' σ' v, a' = a.put (dstOf ops i) (ren ρ' v) ∧ Evo ρ σ w ρ' σ' w' ∧ Sc σ'.next v ∧ Grp M nt ops i A (bare ops f (i :: A)) H r K v σ') a w) :
    DP M nt ops (.g i A :: r) H f σ K := by
  intro fuel listed hp hsel hd ρ w a hR hF hn hH
  simp only [planOk, Bool.and_eq_true, Nat.ble_eq] at hp
  obtain ⟨⟨hp1, hp2⟩, hp3⟩ := hp
  have hfuel : fuel = (fuel - (A.length + 1)) + (i :: A).length := by simp only [List.length_cons]; omega
  have hnod := nodupB_spec hnd
  obtain ⟨hi, hnA⟩ := List.nodup_cons.1 hnod
  have hF0 := hF.bare ops (i :: A)
  rw [hfuel]
  refine Mid.run (Km := Grp M nt ops i A (bare ops f (i :: A)) H r K) (ρ₀ := ρ) (σ₀ := σ) (w₀ := w) hd hi hgo (fun x t hx ht => bare_none hx ht) hA hF0 (fun w a h1 h2 h3 => hmain _ ρ w a h1 h2 h3) (fun B todo ρ' σ' w' a' l hm hl => ?_) (fun B ρ' σ' w' a' hm hl => ?_)
    (A.length + 1) (i :: A) listed (fun _ => none) ρ σ w a hp2 ⟨Evo.refl hR, hF0, hn, hnod, fun x hx => hx, fun x hx => .inl (by simp [hx]), fun x b h => (by cases h), fun x y b h => (by cases h), .inl ⟨by simp, rfl, rfl⟩⟩ (fun h => absurd (by simp) h)
  · rcases hm.main with ⟨_, hσ, hρ⟩ | ⟨h0, v, _, _, hk⟩
    · subst hσ; subst hρ; exact HS.of_in hm.evo.rel hH _
    · exact HS.of_rls hR hm.evo.ext hH (hl h0) (HS.of_in hm.evo.rel hk.1 _)
  · rcases hm.main with ⟨h0, _⟩ | ⟨_, v, h1, h2, h3, f'', σ'', h4, h5, h6⟩
    · simp at h0
    obtain ⟨ρ'', h7, h8⟩ := adopt_sound h4 hm.evo (hm.fr.know h1 h2) hnA (fun x hx => by
      rcases hm.all x hx with h | h
      · simp at h
      · obtain ⟨b, hb⟩ := Option.isSome_iff_exists.1 h
        exact ⟨b, hb, (hm.al x b hb).2.2⟩) hm.inj hF0
    exact wpAnyL_mono (fun e a₂ w₂ ⟨he, hk⟩ => ⟨he, After.evo h7 hk⟩) _ _ _ _ (fun l w₂ hl' hw => HS.of_rls hR h7.ext hH (hl' i hl) hw) (h6 _ _ hp3 hsel hd ρ'' w' a' h7.rel h8 hm.size h5)

/-- The one that does something writes, or makes memory. -/
theorem DP.groupW {r : List Ent} {H : List HE} {f : Fr} {σ : St} {K : Fr → St → Prop} {o : Oper} {res : Option Value} {σ' : St} {f'' : Fr} {σ'' : St} (hgo : grpOk ops (i :: A) = true) (hnd : nodupB (i :: A) = true) (hop : ops.toList[i]? = some o)
    (hw : wantedA ops (bare ops f (i :: A)) o = some true) (hq : opW M.toEnv (bare ops f (i :: A)) σ o.op = some (res, σ')) (hH' : ∀ h ∈ rls i H, h.2.in σ')
    (ha : adopt M.toEnv ops (bare ops f (i :: A)) A (putF (bare ops f (i :: A)) o.dst (res.getD undef)) σ' = some (f'', σ'')) (hH'' : ∀ h ∈ rls i H, h.2.in σ'') (h : DP M nt ops r (rls i H) f'' σ'' K) : DP M nt ops (.g i A :: r) H f σ K := by
  have hdst : dstOf ops i = o.dst := by simp only [dstOf, hop]
  refine DP.group hgo hnd (adopt_all ha) fun F ρ w a hR hF hn => ?_
  obtain ⟨w', ρ', h1, h2, h3⟩ := opW_sound M.toEnv hR hF o hq
  unfold wpOp
  have hop' : ops[i]? = some o := by rw [← getElem?_toList_eq]; exact hop
  simp only [hop', wantedA_sound hF hw, if_true, Oper.wp, h1]
  refine .inl ?_
  cases res with
  | some v =>
    simp only [nxt, Oper.upon]
    exact ⟨ρ', σ', v, by rw [hdst], h2, h3 v rfl, hH', f'', σ'', by rw [hdst]; exact ha, hH'', h⟩
  | none =>
    simp only [nxt, Oper.upon]
    exact ⟨ρ', σ', undef, by rw [hdst, ren_undef], h2, Sc_undef _, hH', f'', σ'', by rw [hdst]; exact ha, hH'', h⟩

theorem DP.groupC {r : List Ent} {H : List HE} {f : Fr} {σ : St} {K : Fr → St → Prop} {o : Oper} {c : Call} {g : FuncId} {args : List Value} (hgo : grpOk ops (i :: A) = true) (hnd : nodupB (i :: A) = true) (hop : ops.toList[i]? = some o) (ho : o.op = .call c)
    (hw : wantedA ops (bare ops f (i :: A)) o = some true) (hc : callQ M (bare ops f (i :: A)) c = some (g, args)) (hA : ∀ x ∈ A, ∃ o N, ops.toList[x]? = some o ∧ wantedA ops (bare ops f (i :: A)) o = some true ∧ allocQ M.toEnv (bare ops f (i :: A)) o.op = some N)
    (h : WF M.toEnv g args σ (Grp M nt ops i A (bare ops f (i :: A)) H r K)) : DP M nt ops (.g i A :: r) H f σ K := by
  have hdst : dstOf ops i = o.dst := by simp only [dstOf, hop]
  refine DP.group hgo hnd hA fun F ρ w a hR hF hn => ?_
  obtain ⟨h1, h2⟩ := callQ_sound M hF hc h.1 o.type w
  have hex : (execOp a.eval o).run M.P w = .ok (.enter g (args.map (ren ρ)).toArray) w := by
    simp only [execOp, ho]; exact h1
  unfold wpOp
  have hop' : ops[i]? = some o := by rw [← getElem?_toList_eq]; exact hop
  simp only [hop', wantedA_sound hF hw, if_true, Oper.wp, hex, Oper.upon]
  refine .inl ?_
  refine Calls.mono (h.2 ρ w hR h2) fun e w' ⟨v, he, res, σ', ρ', h3, h4, h5, h6⟩ => ?_
  subst he
  subst h3
  exact ⟨ρ', σ', res, by rw [hdst], h4, h5, h6⟩

end
end
end AH
