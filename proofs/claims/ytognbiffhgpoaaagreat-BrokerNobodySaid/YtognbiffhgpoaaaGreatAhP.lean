/-
  AH P: some operations that only make memory wait, in a region, while others come up one behind the other.
-/
import Derived.Test.YtognbiffhgpoaaaGreatAhH
set_option linter.unusedSimpArgs false
set_option linter.unusedVariables false
set_option linter.unusedSectionVars false
namespace AH
open Go
noncomputable section

theorem getD_set_ne' {l : Array Bool} {x k : Nat} {b d : Bool} (h : x ≠ k) : (l.setIfInBounds x b).getD k d = l.getD k d := by
  simp [Array.getElem?_setIfInBounds, h, Array.getD_eq_getD_getElem?]

theorem finOf_size : ∀ (A : List Nat) (l : Array Bool), (finOf l A).size = l.size
  | [], l => rfl
  | x :: r, l => by rw [finOf, finOf_size r]; simp

theorem finOf_get {d : Bool} : ∀ (A : List Nat) (l : Array Bool) (k : Nat), k < l.size → (finOf l A).getD k d = (if k ∈ A then true else l.getD k d)
  | [], l, k, h => by simp [finOf]
  | x :: r, l, k, h => by
    rw [finOf, finOf_get r _ k (by simpa using h)]
    by_cases hk : k ∈ r
    · simp [hk]
    · by_cases hx : x = k
      · subst hx; simp [hk, h]
      · simp [hk, Ne.symm hx, getD_set_ne d hx]

/-- How many of these have not come up. -/
def left (listed : Array Bool) (A : List Nat) : Nat := (A.filter fun x => !listed.getD x false).length

structure Lst (ops : Array Oper) (A : List Nat) (l0 listed : Array Bool) : Prop where
  size : listed.size = l0.size
  same : ∀ k d, k ∉ A → listed.getD k d = l0.getD k d
  nod : A.Nodup
  un : ∀ x ∈ A, x ∈ Region.ready .any ops l0

theorem ready_lt {ops : Array Oper} {l : Array Bool} {i : Nat} (h : i ∈ Region.ready .any ops l) : i < l.size := by
  have := (mem_ready.1 h).1
  rcases Nat.lt_or_ge i l.size with h' | h'
  · exact h'
  · simp [Array.getElem?_eq_none h'] at this

theorem getD_lt {l : Array Bool} {i : Nat} {d d' : Bool} (h : i < l.size) : l.getD i d = l.getD i d' := by simp [h]

theorem ready_up {ops : Array Oper} {l l' : Array Bool} {i : Nat} (hs : l'.size = l.size) (hup : ∀ k, l.getD k false = true → l'.getD k false = true) (hi : l'.getD i true = false) (h : i ∈ Region.ready .any ops l) : i ∈ Region.ready .any ops l' := by
  obtain ⟨h1, o, ho, hall⟩ := mem_ready.1 h
  refine mem_ready.2 ⟨hi, o, ho, fun e he hb => ?_⟩
  exact hup _ (hall e he hb)

section
variable {ops : Array Oper} {A : List Nat} {l0 listed : Array Bool}

theorem Lst.up (h : Lst ops A l0 listed) : ∀ k, l0.getD k false = true → listed.getD k false = true := fun k hk => by
  by_cases hA : k ∈ A
  · have h1 := (mem_ready.1 (h.un k hA)).1
    have hlt := ready_lt (h.un k hA)
    rw [getD_lt (d' := true) hlt, h1] at hk; cases hk
  · rw [h.same k false hA]; exact hk

theorem Lst.fin (h : Lst ops A l0 listed) : ∀ k, listed.getD k false = true → (finOf l0 A).getD k false = true := fun k hk => by
  have hlt : k < l0.size := by
    rcases Nat.lt_or_ge k l0.size with h' | h'
    · exact h'
    · simp [Array.getElem?_eq_none (show listed.size ≤ k by rw [h.size]; exact h')] at hk
  rw [finOf_get _ _ _ hlt]
  by_cases hA : k ∈ A
  · simp [hA]
  · rw [if_neg hA, ← h.same k false hA]; exact hk

theorem Lst.ready_A (h : Lst ops A l0 listed) {x : Nat} (hx : x ∈ A) (hl : listed.getD x true = false) : x ∈ Region.ready .any ops listed :=
  ready_up h.size h.up hl (h.un x hx)

theorem Lst.ready_out (h : Lst ops A l0 listed) {i : Nat} (hA : i ∉ A) (hi : i ∈ Region.ready .any ops l0) : i ∈ Region.ready .any ops listed :=
  ready_up h.size h.up (by rw [h.same i true hA]; exact (mem_ready.1 hi).1) hi

/-- What may come up, and does not wait, may come up where all of those have. -/
theorem Lst.ready_fin (h : Lst ops A l0 listed) {j : Nat} (hj : j ∈ Region.ready .any ops listed) (hA : j ∉ A) : j ∈ Region.ready .any ops (finOf l0 A) := by
  have hlt := ready_lt hj
  refine ready_up (by rw [finOf_size, h.size]) h.fin ?_ hj
  rw [finOf_get _ _ _ (by rw [← h.size]; exact hlt), if_neg hA, ← h.same j true hA]
  exact (mem_ready.1 hj).1

theorem Lst.setA (h : Lst ops A l0 listed) {x : Nat} (hx : x ∈ A) : Lst ops A l0 (listed.setIfInBounds x true) :=
  ⟨by simp [h.size], fun k d hk => by rw [getD_set_ne d (show x ≠ k from fun e => hk (e ▸ hx)), h.same k d hk], h.nod, h.un⟩

theorem Lst.setO (h : Lst ops A l0 listed) {i : Nat} (hi : i ∉ A) : Lst ops A (l0.setIfInBounds i true) (listed.setIfInBounds i true) := by
  refine ⟨by simp [h.size], fun k d hk => ?_, h.nod, fun x hx => ready_mono (h.un x hx) (fun e => hi (e ▸ hx))⟩
  by_cases hik : i = k
  · subst hik
    by_cases hlt : i < l0.size
    · rw [← h.size] at hlt; simp [hlt, h.size ▸ hlt]
    · have h2 : ¬ i < listed.size := by rw [h.size]; exact hlt
      simp [hlt, h2]
  · rw [getD_set_ne d hik, getD_set_ne d hik, h.same k d hk]

theorem left_setA (h : Lst ops A l0 listed) {x : Nat} (hx : x ∈ A) (hl : listed.getD x true = false) : left listed A = left (listed.setIfInBounds x true) A + 1 := by
  have hlt : x < listed.size := by
    rcases Nat.lt_or_ge x listed.size with h' | h'
    · exact h'
    · simp [Array.getElem?_eq_none h'] at hl
  have hnd := h.nod
  unfold left
  clear h
  induction A with
  | nil => cases hx
  | cons y r ih =>
    obtain ⟨hy, hr⟩ := List.nodup_cons.1 hnd
    by_cases hxy : y = x
    · subst hxy
      have h1 : listed.getD y false = false := by rw [getD_lt (d' := true) hlt]; exact hl
      have h2 : (listed.setIfInBounds y true).getD y false = true := getD_set_self hl
      have h3 : (r.filter fun z => !(listed.setIfInBounds y true).getD z false) = (r.filter fun z => !listed.getD z false) := List.filter_congr fun z hz => by
        rw [getD_set_ne false (show y ≠ z from fun e => hy (e ▸ hz))]
      rw [List.filter_cons, List.filter_cons, h1, h2, h3]
      simp
    · have hxr : x ∈ r := by
        rcases List.mem_cons.1 hx with h | h
        · exact absurd h.symm hxy
        · exact h
      have := ih hxr hr
      rw [List.filter_cons, List.filter_cons, getD_set_ne false (show x ≠ y from fun e => hxy e.symm)]
      split
      · simp only [List.length_cons]; omega
      · exact this

theorem left_setO (h : Lst ops A l0 listed) {i : Nat} (hi : i ∉ A) : left (listed.setIfInBounds i true) A = left listed A := by
  unfold left
  rw [List.filter_congr fun z hz => by rw [getD_set_ne false (show i ≠ z from fun e => hi (e ▸ hz))]]

theorem left_zero (h : Lst ops A l0 listed) (h0 : left listed A = 0) : listed = finOf l0 A := by
  have hall : ∀ x ∈ A, listed.getD x false = true := fun x hx => by
    have := List.filter_eq_nil_iff.1 (List.length_eq_zero_iff.1 h0) x hx
    simpa using this
  have hsz : listed.size = (finOf l0 A).size := by rw [finOf_size, h.size]
  refine Array.ext hsz fun k h1 h2 => ?_
  have e1 : listed.getD k false = (finOf l0 A).getD k false := by
    rw [finOf_get _ _ _ (by rw [← h.size]; exact h1)]
    by_cases hA : k ∈ A
    · rw [if_pos hA, hall k hA]
    · rw [if_neg hA, h.same k false hA]
  simpa [h1, h2] using e1
end

section
variable {M : EnvM} {nt : Nat} {ops : Array Oper} {A : List Nat} {fe : Fr} {r : List Ent}

/-- Those of A that have come up have made their blocks; nothing knows of them yet. -/
structure Wait (M : EnvM) (nt : Nat) (ops : Array Oper) (A : List Nat) (fe : Fr) (ρ₀ : Nat → Loc) (σ₀ : St) (w₀ : World) (listed : Array Bool) (B : Nat → Option Nat) (f : Fr) (ρ : Nat → Loc) (σ : St) (w : World) (a : Act) : Prop where
  evo : Evo ρ₀ σ₀ w₀ ρ σ w
  fr : FrRel ρ f σ.next a
  frE : FrRel ρ fe σ.next a
  size : a.tmps.size = nt
  bare : ∀ x ∈ A, ∀ t, dstOf ops x = some t → f.get t = none
  lis : ∀ x ∈ A, listed.getD x false = true → (B x).isSome = true
  al : ∀ x b, B x = some b → x ∈ A ∧ listed.getD x false = true ∧ Made1 M ops fe ρ₀ w₀ ρ σ w a x b
  inj : ∀ x y b, B x = some b → B y = some b → x = y

def DPP (M : EnvM) (nt : Nat) (ops : Array Oper) (A : List Nat) (fe : Fr) (r : List Ent) (plan : List Ent0) (H : List HE) (f : Fr) (σ : St) (K : Fr → St → Prop) : Prop :=
  ∀ k l0 listed, planP ops A (fun n l => planOk ops n l r) k l0 plan = true → Lst ops A l0 listed → Region.noSelect ops = true → (∀ o ∈ ops.toList, dstOk nt o = true) → ∀ ρ₀ σ₀ w₀ a₀ ρ w a B, FrRel ρ₀ fe σ₀.next a₀ → Wait M nt ops A fe ρ₀ σ₀ w₀ listed B f ρ σ w a → (∀ h ∈ H, h.2.in σ) →
    wpAnyL M.P .any ops (fun e a' w' => e = .normal ∧ After nt ρ₀ σ₀ w₀ K a' w') (HS ρ H) (k + left listed A) listed a w

/-- What is asked of those that wait. -/
structure Ok (M : EnvM) (ops : Array Oper) (A : List Nat) (fe : Fr) : Prop where
  grp : grpOk ops A = true
  bare : ∀ x t, x ∈ A → dstOf ops x = some t → fe.get t = none
  all : ∀ x ∈ A, ∃ o N, ops.toList[x]? = some o ∧ wantedA ops fe o = some true ∧ allocQ M.toEnv fe o.op = some N

theorem Made1.lt {ρ₀ ρ : Nat → Loc} {w₀ : World} {σ : St} {w : World} {a : Act} {x b : Nat} (h : Made1 M ops fe ρ₀ w₀ ρ σ w a x b) : b < w.heap.size := by
  obtain ⟨_, _, _, _, h5, _⟩ := h
  rcases Nat.lt_or_ge b w.heap.size with h | h
  · exact h
  · rw [Array.getElem?_eq_none h] at h5; cases h5

/-- One of those that wait comes up. -/
theorem Wait.made {ρ₀ : Nat → Loc} {σ₀ : St} {w₀ : World} {listed : Array Bool} {B : Nat → Option Nat} {f : Fr} {ρ : Nat → Loc} {σ : St} {w : World} {a : Act} {a₀ : Act} (hd : ∀ o ∈ ops.toList, dstOk nt o = true) (hk : Ok M ops A fe) (hF0 : FrRel ρ₀ fe σ₀.next a₀) (hm : Wait M nt ops A fe ρ₀ σ₀ w₀ listed B f ρ σ w a) {o : Oper} {N : New} {j : Nat} (hjA : j ∈ A) (ho : ops.toList[j]? = some o)
    (hN : allocQ M.toEnv fe o.op = some N) (hnot : listed.getD j true = false) : Wait M nt ops A fe ρ₀ σ₀ w₀ (listed.setIfInBounds j true) (fun y => if y = j then some w.heap.size else B y) f ρ σ (w.alloc (N.obj ρ₀)) (a.put o.dst (N.val w.heap.size)) := by
  have hdst : dstOf ops j = o.dst := by simp only [dstOf, ho]
  have hold : ∀ y b, B y = some b → b < w.heap.size := fun y b hyb => (hm.al y b hyb).2.2.lt
  have hBj : ∀ y b, B y = some b → y ≠ j := fun y b hyb e => by
    have := (hm.al y b hyb).2.1
    subst e
    rw [getD_lt (d' := true) (by
      rcases Nat.lt_or_ge y listed.size with h' | h'
      · exact h'
      · simp [Array.getElem?_eq_none h'] at hnot), hnot] at this
    cases this
  refine ⟨hm.evo.trans (Evo.more hm.evo.rel _), hm.fr.put_out (fun t ht => hm.bare j hjA t (by rw [hdst]; exact ht)) _, hm.frE.put_out (fun t ht => hk.bare j t hjA (by rw [hdst]; exact ht)) _, by rw [put_size]; exact hm.size, hm.bare, fun x hx hl => ?_, fun x b hxb => ?_, fun x y b hx hy => ?_⟩
  · by_cases e : x = j
    · simp [e]
    · rw [getD_set_ne false (Ne.symm e)] at hl
      simp only [if_neg e]
      exact hm.lis x hx hl
  · by_cases e : x = j
    · subst e
      simp only [if_true, Option.some.injEq] at hxb
      subst hxb
      refine ⟨hjA, getD_set_self hnot, o, N, ho, hN, get_new w _, hm.evo.size, fun k hk hkb => ?_, fun t ht => ?_⟩
      · have := hm.evo.rel.size hk; omega
      · rw [ht, put_got]
        rw [hm.size]
        have := hd o (List.mem_of_getElem? ho)
        simp only [dstOk, ht] at this
        exact Nat.le_of_ble_eq_true this
    · simp only [if_neg e] at hxb
      obtain ⟨h1, h2, o', N', h3, h4, h5, h6, h7, h8⟩ := hm.al x b hxb
      refine ⟨h1, by rw [getD_set_ne false (Ne.symm e)]; exact h2, o', N', h3, h4, ?_, h6, h7, fun t ht => ?_⟩
      · rw [Go.RowKit.Below.heap_alloc w _ b (hold x b hxb)]; exact h5
      · rw [put_get]
        · exact h8 t ht
        · rw [← hdst]
          refine grp_ne hk.grp (x := x) (y := j) h1 hjA e ?_
          simp only [dstOf, h3, ht]
  · by_cases e : x = j
    · by_cases e' : y = j
      · rw [e, e']
      · simp only [if_pos e, if_neg e', Option.some.injEq] at hx hy
        have := hold y b hy; omega
    · by_cases e' : y = j
      · simp only [if_neg e, if_pos e', Option.some.injEq] at hx hy
        have := hold x b hx; omega
      · simp only [if_neg e, if_neg e'] at hx hy
        exact hm.inj x y b hx hy

/-- Another one comes up. -/
theorem Wait.step {ρ₀ : Nat → Loc} {σ₀ : St} {w₀ : World} {listed : Array Bool} {B : Nat → Option Nat} {f f' : Fr} {ρ ρ' : Nat → Loc} {σ σ' : St} {w w' : World} {a : Act} {i : Nat} {v : Value} (hm : Wait M nt ops A fe ρ₀ σ₀ w₀ listed B f ρ σ w a) (hi : i ∉ A) (hev : Evo ρ σ w ρ' σ' w')
    (hd : ∀ x t, x ∈ A → dstOf ops x = some t → dstOf ops i ≠ some t) (hbi : ∀ t, dstOf ops i = some t → fe.get t = none) (hF : FrRel ρ' f' σ'.next (a.put (dstOf ops i) v)) (hb : ∀ x ∈ A, ∀ t, dstOf ops x = some t → f'.get t = none) : Wait M nt ops A fe ρ₀ σ₀ w₀ (listed.setIfInBounds i true) B f' ρ' σ' w' (a.put (dstOf ops i) v) := by
  refine ⟨hm.evo.trans hev, hF, (hm.frE.evo hev.ext hev.next).put_out hbi _, by rw [put_size]; exact hm.size, hb, fun x hx hl => ?_, fun x b hxb => ?_, hm.inj⟩
  · rw [getD_set_ne false (show i ≠ x from fun e => hi (e ▸ hx))] at hl
    exact hm.lis x hx hl
  · obtain ⟨h1, h2, hmade⟩ := hm.al x b hxb
    have hbs := hmade.lt
    obtain ⟨o, N, h3, h4, h5, h6, h7, h8⟩ := hmade
    refine ⟨h1, by rw [getD_set_ne false (show i ≠ x from fun e => hi (e ▸ h1))]; exact h2, o, N, h3, h4, ?_, h6, fun k hk' hkb => ?_, fun t ht => ?_⟩
    · rw [← h5]
      exact hev.fra b hbs fun k hk' => h7 k (Blk.live_of_wr hk')
    · rcases hev.liv k hk' with ⟨k', hk1, hk2⟩ | hge
      · exact h7 k' hk1 (hk2.trans hkb)
      · omega
    · rw [put_get]
      · exact h8 t ht
      · exact hd x t h1 (by simp only [dstOf, h3, ht])

/-- Of those that wait one comes up, and then it goes on. -/
theorem DPP.one {ρ₀ : Nat → Loc} {σ₀ : St} {w₀ : World} {listed : Array Bool} {B : Nat → Option Nat} {f : Fr} {ρ : Nat → Loc} {σ : St} {w : World} {a a₀ : Act} {l0 : Array Bool} {H : List HE} {F : Exit → Act → World → Prop} {m j : Nat} (hL : Lst ops A l0 listed) (hd : ∀ o ∈ ops.toList, dstOk nt o = true) (hk : Ok M ops A fe) (hF0 : FrRel ρ₀ fe σ₀.next a₀) (hm : Wait M nt ops A fe ρ₀ σ₀ w₀ listed B f ρ σ w a)
    (hH : ∀ h ∈ H, h.2.in σ) (hjA : j ∈ A) (hj : j ∈ Region.ready .any ops listed) (h : ∀ B' w' a', Wait M nt ops A fe ρ₀ σ₀ w₀ (listed.setIfInBounds j true) B' f ρ σ w' a' → wpAnyL M.P .any ops F (HS ρ H) m (listed.setIfInBounds j true) a' w') :
    wpOp M.P ops F j (fun a' w' => HS ρ H (listed.setIfInBounds j true) w' ∧ wpAnyL M.P .any ops F (HS ρ H) m (listed.setIfInBounds j true) a' w') a w := by
  obtain ⟨o, N, ho, hwant, hN⟩ := hk.all j hjA
  have hop : ops[j]? = some o := by rw [← getElem?_toList_eq]; exact ho
  obtain ⟨h1, h2⟩ := mem_ready.1 hj
  unfold wpOp
  have hrun := (allocQ_sound M.toEnv hm.frE o hN).2 w
  have hobj : N.obj ρ = N.obj ρ₀ := New.obj_congr (allocQ_sound M.toEnv hF0 o hN).1 fun k hk => hm.evo.ext k hk
  simp only [hop, wantedA_sound hm.frE hwant, if_true, Oper.wp, hrun, Oper.upon]
  rw [hobj]
  have hw := hm.made hd hk hF0 hjA ho hN h1
  exact .inl ⟨HS.of_in hw.evo.rel hH _, h _ _ _ hw⟩

section
variable {ρ₀ : Nat → Loc} {σ₀ : St} {w₀ : World}
theorem adopt_ext : ∀ {A' : List Nat} {f : Fr} {ρ : Nat → Loc} {σ : St} {w : World} {a : Act} {f'' : Fr} {σ'' : St} {B : Nat → Option Nat}, adopt M.toEnv ops fe A' f σ = some (f'', σ'') → Evo ρ₀ σ₀ w₀ ρ σ w → FrRel ρ f σ.next a → A'.Nodup →
    (∀ x ∈ A', ∃ b, B x = some b ∧ Made1 M ops fe ρ₀ w₀ ρ σ w a x b) → (∀ x y b, B x = some b → B y = some b → x = y) → {a₀ : Act} → FrRel ρ₀ fe σ₀.next a₀ → ∃ ρ'', Evo ρ₀ σ₀ w₀ ρ'' σ'' w ∧ FrRel ρ'' f'' σ''.next a ∧ ∀ i, i < σ.next → ρ'' i = ρ i
  | [], f, ρ, σ, w, a, f'', σ'', B, h, hev, hF, _, _, _, _, _ => by
    simp only [adopt, Option.some.injEq, Prod.mk.injEq] at h
    obtain ⟨rfl, rfl⟩ := h
    exact ⟨ρ, hev, hF, fun _ _ => rfl⟩
  | x :: r, f, ρ, σ, w, a, f'', σ'', B, h, hev, hF, hnd, hB, hinj, a₀, hF0 => by
    obtain ⟨b, hxb, o, N, ho, hN, hw, hlo, hno, hslot⟩ := hB x (by simp)
    have hwt : wantedA ops fe o = some true := by
      cases hq : wantedA ops fe o with
      | none => simp [adopt, ho, hq] at h
      | some t => cases t with
        | true => rfl
        | false => simp [adopt, ho, hq] at h
    simp only [adopt, ho, hN, hwt] at h
    have hNs : N.sc σ₀.next := (allocQ_sound M.toEnv hF0 o hN).1
    have hev' := Evo.adopt hev hNs hw hlo hno
    have hF' : FrRel (upd ρ σ.next ⟨b, 0, 0⟩) (putF f o.dst (N.val σ.next)) (σ.push N.blk).next a := by
      refine FrRel.know (hF.evo (fun i hi => upd_lt ρ _ hi) (by simp)) (fun t ht => ?_) (New.val_sc N (by simp))
      rw [New.val_ren hNs, hslot t ht]
    obtain ⟨hx1, hx2⟩ := List.nodup_cons.1 hnd
    refine (fun ⟨ρ₂, q1, q2, q3⟩ => ⟨ρ₂, q1, q2, fun i hi => (q3 i (by simp; omega)).trans (upd_lt ρ _ hi)⟩ : (∃ ρ'', Evo ρ₀ σ₀ w₀ ρ'' σ'' w ∧ FrRel ρ'' f'' σ''.next a ∧ ∀ i, i < (σ.push N.blk).next → ρ'' i = upd ρ σ.next ⟨b, 0, 0⟩ i) → _) (adopt_ext h hev' hF' hx2 (fun y hy => ?_) hinj hF0)
    obtain ⟨b', hyb, o', N', h1, h2, h3, h4, h5, h6⟩ := hB y (by simp [hy])
    refine ⟨b', hyb, o', N', h1, h2, h3, h4, fun j hj => ?_, h6⟩
    rw [St.get_push] at hj
    split at hj
    · rename_i e; subst e
      rw [upd_same]
      intro e
      simp only at e
      subst e
      have := hinj x y b hxb hyb
      subst this
      exact hx1 hy
    · rename_i e
      rw [upd_ne _ _ (Ne.symm e)]
      exact h5 j hj

end

/-- All of those that wait come up. -/
theorem DPP.end {H : List HE} {f f'' : Fr} {σ σ'' : St} {K : Fr → St → Prop} (hk : Ok M ops A fe) (ha : adopt M.toEnv ops fe A f σ = some (f'', σ'')) (hH' : ∀ h ∈ H, h.2.in σ'') (h : DP M nt ops r H f'' σ'' K) : DPP M nt ops A fe r [] H f σ K := by
  intro k l0 listed hp hL hsel hd ρ₀ σ₀ w₀ a₀ ρ w a B hF0 hm hH
  simp only [planP, Bool.and_eq_true, List.all_eq_true, beq_iff_eq] at hp
  obtain ⟨hp1, hp2⟩ := hp
  generalize hu : left listed A = u
  induction u generalizing listed w a B with
  | zero =>
    have hfin := left_zero hL hu
    subst hfin
    have hall : ∀ x ∈ A, (finOf l0 A).getD x false = true := fun x hx => by
      rw [finOf_get _ _ _ (ready_lt (hL.un x hx)), if_pos hx]
    obtain ⟨ρ'', h7, h8, h9⟩ := adopt_ext ha hm.evo hm.fr hL.nod (fun x hx => by
      obtain ⟨b, hb⟩ := Option.isSome_iff_exists.1 (hm.lis x hx (hall x hx))
      exact ⟨b, hb, (hm.al x b hb).2.2⟩) hm.inj hF0
    rw [Nat.add_zero]
    exact wpAnyL_mono (fun e a₂ w₂ ⟨he, hk⟩ => ⟨he, After.evo h7 hk⟩) _ _ _ _ (fun l w₂ hl' hw x hx hno => Hold.at_ext hm.evo.rel h9 (hH x hx) (hw x hx hno)) (h k _ hp2 hsel hd ρ'' w a h7.rel h8 hm.size hH')
  | succ u ih =>
    obtain ⟨x, hxA, hxl⟩ : ∃ x, x ∈ A ∧ listed.getD x false = false := by
      have hne : (A.filter fun x => !listed.getD x false) ≠ [] := fun e => by
        have : left listed A = 0 := by unfold left; rw [e]; rfl
        omega
      obtain ⟨x, hx⟩ := List.exists_mem_of_ne_nil _ hne
      obtain ⟨h1, h2⟩ := List.mem_filter.1 hx
      exact ⟨x, h1, by simpa using h2⟩
    have hxt : listed.getD x true = false := by
      rw [getD_lt (d' := false) (by rw [hL.size]; exact ready_lt (hL.un x hxA))]; exact hxl
    have hsub : ∀ j ∈ Region.ready .any ops listed, j ∈ A := fun j hj => by
      by_cases hjA : j ∈ A
      · exact hjA
      · have hjx : x ≠ j := fun e => hjA (e ▸ hxA)
        have := ready_up (l' := (finOf l0 A).setIfInBounds x false) (by simp [finOf_size, hL.size]) (fun k hk => by
          have hkx : x ≠ k := fun e => by subst e; rw [hxl] at hk; cases hk
          rw [getD_set_ne' hkx]; exact hL.fin k hk) (by rw [getD_set_ne' hjx]; exact (mem_ready.1 (hL.ready_fin hj hjA)).1) hj
        rw [hp1 x hxA, List.mem_singleton] at this
        exact absurd this.symm hjx
    have hrx := hL.ready_A hxA hxt
    show wpAnyL _ _ _ _ _ ((k + u) + 1) listed a w
    refine wpAnyL_all rfl (fun h0 => by rw [h0] at hrx; cases hrx) fun j hj => ?_
    have hjA := hsub j hj
    have hlt := left_setA hL hjA (mem_ready.1 hj).1
    exact DPP.one hL hd hk hF0 hm hH hjA hj fun B' w' a' hm' => ih _ (hL.setA hjA) _ _ _ hm' (by omega)

theorem Region_free_up {l0 listed : Array Bool} {i : Nat} {o : Oper} (hop : ops[i]? = some o) (hL : Lst ops A l0 listed) (hf : Region.free .any ops l0 i = true) : ∀ j oj, ops[j]? = some oj → j ≠ i → listed.getD j true = false → (∀ e ∈ oj.after, Region.binds .any e = true → e.on ≠ i) → o.apart ops oj = true := fun j oj hj hji hl hno => by
  refine Region.free_spec hop hf j oj hj hji ?_ hno
  have hlt : j < listed.size := by
    rcases Nat.lt_or_ge j listed.size with h' | h'
    · exact h'
    · simp [Array.getElem?_eq_none h'] at hl
  cases h0 : l0.getD j true with
  | false => rfl
  | true =>
    have h1 : l0.getD j false = true := by rw [getD_lt (d' := true) (by rw [← hL.size]; exact hlt)]; exact h0
    have h2 := hL.up j h1
    rw [getD_lt (d' := true) hlt, hl] at h2; cases h2

/-- A quiet one, taken first. -/
theorem DPP.takeQ {s : List Ent0} {H : List HE} {f : Fr} {σ : St} {K : Fr → St → Prop} {i : Nat} {o : Oper} {js : List Nat} {v : Value} {H' : List Hold} (hop : ops[i]? = some o) (hy : ∀ ρ w₀ a, Rel ρ σ w₀ → FrRel ρ f σ.next a → YieldsIf M.P ops (fun w => ∀ x ∈ H', x.at ρ w) o (ren ρ v) a) (hH' : ∀ x ∈ H', x.in σ) (hs : ∀ ρ w a, Rel ρ σ w → FrRel ρ f σ.next a → Sc σ.next v)
    (hi : ∀ x ∈ H, x.1.contains i = false) (hdA : ∀ x t, x ∈ A → dstOf ops x = some t → o.dst ≠ some t) (hbi : ∀ t, o.dst = some t → fe.get t = none) (h : DPP M nt ops A fe r s (H'.map (fun x => (js, x)) ++ H) (putF f o.dst v) σ K) : DPP M nt ops A fe r (.q i js :: s) H f σ K := by
  intro k l0 listed hp hL hsel hd ρ₀ σ₀ w₀ a₀ ρ w a B hF0 hm hH
  have hin : ∀ x ∈ H'.map (fun x => (js, x)) ++ H, x.2.in σ := fun x hx => by
    rcases List.mem_append.1 hx with hx | hx
    · obtain ⟨y, hy, rfl⟩ := List.mem_map.1 hx; exact hH' y hy
    · exact hH x hx
  simp only [planP, Bool.and_eq_true, Nat.blt_eq, Bool.not_eq_true', List.contains_iff_mem] at hp
  obtain ⟨⟨⟨⟨⟨⟨hn0, hiA⟩, hp0⟩, hp1⟩, hcl⟩, hjs⟩, hp2⟩ := hp
  have hiA' : i ∉ A := fun hh => by rw [List.contains_iff_mem.2 hh] at hiA; cases hiA
  obtain ⟨n, rfl⟩ : ∃ n, k = n + 1 := ⟨k - 1, by omega⟩
  have hR := hm.evo.rel
  have hdst : dstOf ops i = o.dst := by simp only [dstOf, getElem?_toList_eq, hop]
  have hF' := hm.fr.put (dst_lt hm.size (hd o (mem_ops hop))) (hs ρ w a hR hm.fr)
  have hw : Wait M nt ops A fe ρ₀ σ₀ w₀ (listed.setIfInBounds i true) B (putF f o.dst v) ρ σ w (a.put o.dst (ren ρ v)) := by
    have := hm.step (f' := putF f o.dst v) (v := ren ρ v) hiA' (Evo.refl hR) (fun x t hx ht => by rw [hdst]; exact hdA x t hx ht) (fun t ht => hbi t (by rw [← hdst]; exact ht)) (by rw [hdst]; exact hF') (fun x hx t ht => by
      have hne := hdA x t hx ht
      cases ho : o.dst with
      | none => exact hm.bare x hx t ht
      | some u =>
        simp only [putF, Fr.get_set]
        rw [if_neg (fun e => hne (by rw [ho, e]))]
        exact hm.bare x hx t ht)
    rwa [hdst] at this
  have hk := h n _ _ hp2 (hL.setO hiA') hsel hd ρ₀ σ₀ w₀ a₀ ρ w _ B hF0 hw hin
  rw [left_setO hL hiA'] at hk
  have hjs' : ∀ j ∈ js, waitsB ops j i = true ∧ j ≠ i := fun j hj => by
    have := List.all_eq_true.1 hjs j hj
    simpa using this
  rw [show n + 1 + left listed A = (n + left listed A) + 1 by omega]
  refine wpAnyL_mono (S := HS ρ (H'.map (fun x => (js, x)) ++ H)) (fun _ _ _ h => h) _ _ _ _ (fun l w' _ hw' x hx => hw' x (List.mem_append.2 (.inr hx))) ?_
  have hdown : ∀ (l : Array Bool) w', HS ρ (H'.map (fun x => (js, x)) ++ H) (l.setIfInBounds i true) w' → HS ρ (H'.map (fun x => (js, x)) ++ H) l w' := fun l w' hw' x hx hno => hw' x hx fun j hj => by
    have hji : i ≠ j := by
      rcases List.mem_append.1 hx with hx | hx
      · obtain ⟨y, _, rfl⟩ := List.mem_map.1 hx
        exact (hjs' j hj).2.symm
      · intro e; subst e
        have := hi x hx
        rw [List.contains_iff_mem.2 hj] at this; cases this
    rw [getD_set_ne false hji]; exact hno j hj
  have hT : ∀ (l : Array Bool) w', l.getD i true = false → (∀ j oj, ops[j]? = some oj → l.getD j false = true → ∀ e ∈ oj.after, Region.binds .any e = true → e.on ≠ i) → HS ρ (H'.map (fun x => (js, x)) ++ H) (l.setIfInBounds i true) w' → ∀ x ∈ H', x.at ρ w' := fun l w' hl hcl' hw' x hx => by
    refine hw' (js, x) (List.mem_append.2 (.inl (List.mem_map.2 ⟨x, hx, rfl⟩))) fun j hj => ?_
    obtain ⟨h1, h2⟩ := hjs' j hj
    rw [getD_set_ne false h2.symm]
    obtain ⟨oj, hoj, e, he, hb, heq⟩ := waitsB_true h1
    cases hlj : l.getD j false with
    | false => rfl
    | true => exact absurd heq (hcl' j oj hoj hlj e he hb)
  have hcl0 : ∀ j oj, ops[j]? = some oj → listed.getD j false = true → ∀ e ∈ oj.after, Region.binds .any e = true → e.on ≠ i := fun j oj hj hl => by
    have hjlt : j < ops.size := (Array.getElem?_eq_some_iff.1 hj).1
    have := List.all_eq_true.1 hcl j (List.mem_range.2 hjlt)
    simp only [hL.fin j hl, Bool.not_true, Bool.false_or, Bool.not_eq_true'] at this
    exact waitsB_false this hj
  exact wpAnyL_first (T := fun w => ∀ x ∈ H', x.at ρ w) hop (Region.noSelect_spec hsel) (fun c a₂ w₂ hq => by simp at hq) hdown hT _ listed a w
    (Region_free_up hop hL hp0) hcl0 (hL.ready_out hiA' hp1) (hy ρ w a hR hm.fr) (HS.of_in hR hin _) hk

/-- One that does something. -/
theorem DPP.eff {s : List Ent0} {H : List HE} {f : Fr} {σ : St} {K : Fr → St → Prop} {i : Nat} (hk : Ok M ops A fe) (hdA : ∀ x t, x ∈ A → dstOf ops x = some t → dstOf ops i ≠ some t) (hbi : ∀ t, dstOf ops i = some t → fe.get t = none)
    (hmain : ∀ F ρ w a, Rel ρ σ w → FrRel ρ f σ.next a → a.tmps.size = nt → wpOp M.P ops F i (fun a' w' => ∃ ρ' σ' v, a' = a.put (dstOf ops i) (ren ρ' v) ∧ Evo ρ σ w ρ' σ' w' ∧ Sc σ'.next v ∧ (∀ h ∈ rls i H, h.2.in σ') ∧ DPP M nt ops A fe r s (rls i H) (putF f (dstOf ops i) v) σ' K) a w) : DPP M nt ops A fe r (.e i :: s) H f σ K := by
  intro k l0 listed hp hL hsel hd ρ₀ σ₀ w₀ a₀ ρ w a B hF0 hm hH
  simp only [planP, Bool.and_eq_true, Nat.blt_eq, Bool.not_eq_true', List.contains_iff_mem, beq_iff_eq] at hp
  obtain ⟨⟨⟨⟨hn0, hiA⟩, hp1⟩, hp3⟩, hp2⟩ := hp
  have hiA' : i ∉ A := fun hh => by rw [List.contains_iff_mem.2 hh] at hiA; cases hiA
  obtain ⟨n, rfl⟩ : ∃ n, k = n + 1 := ⟨k - 1, by omega⟩
  generalize hu : left listed A = u
  have hdst : ∀ o, ops[i]? = some o → dstOf ops i = o.dst := fun o hop => by simp only [dstOf, getElem?_toList_eq, hop]
  -- the one that does something comes up
  have core : ∀ (u : Nat) (listed : Array Bool) (w : World) (a : Act) (B : Nat → Option Nat), Lst ops A l0 listed → Wait M nt ops A fe ρ₀ σ₀ w₀ listed B f ρ σ w a → left listed A = u → i ∈ Region.ready .any ops listed →
      wpOp M.P ops (fun e a' w' => e = .normal ∧ After nt ρ₀ σ₀ w₀ K a' w') i (fun a' w' => HS ρ H (listed.setIfInBounds i true) w' ∧ wpAnyL M.P .any ops (fun e a' w' => e = .normal ∧ After nt ρ₀ σ₀ w₀ K a' w') (HS ρ H) (n + u) (listed.setIfInBounds i true) a' w') a w := by
    intro u listed w a B hL hm hu hri
    refine wpOp_monoQ (Q := fun e a' w' => e = .normal ∧ After nt ρ₀ σ₀ w₀ K a' w') (fun _ _ _ h => h) (fun a' w' hh => ?_) (hmain _ ρ w a hm.evo.rel hm.fr hm.size)
    obtain ⟨ρ', σ', v, ha', hev, hv, hH', hdp⟩ := hh
    subst ha'
    have hlself : (listed.setIfInBounds i true).getD i false = true := getD_set_self (mem_ready.1 hri).1
    have hlt : ∀ t, dstOf ops i = some t → t < a.tmps.size := fun t ht => by
      rw [hm.size]
      simp only [dstOf] at ht
      split at ht
      · rename_i o ho
        have := hd o (List.mem_of_getElem? ho)
        simp only [dstOk, ht] at this
        exact Nat.le_of_ble_eq_true this
      · cases ht
    have hF' := (hm.fr.evo hev.ext hev.next).put hlt hv
    have hw := hm.step (f' := putF f (dstOf ops i) v) (v := ren ρ' v) hiA' hev hdA hbi hF' (fun x hx t ht => by
      have hne := hdA x t hx ht
      cases ho : dstOf ops i with
      | none => exact hm.bare x hx t ht
      | some u =>
        simp only [putF, Fr.get_set]
        rw [if_neg (fun e => hne (by rw [ho, e]))]
        exact hm.bare x hx t ht)
    have hgo := hdp n _ _ hp2 (hL.setO hiA') hsel hd ρ₀ σ₀ w₀ a₀ ρ' w' _ B hF0 hw hH'
    rw [left_setO hL hiA', hu] at hgo
    exact ⟨HS.of_rls hm.evo.rel hev.ext hH hlself (HS.of_in hev.rel hH' _), wpAnyL_mono (fun e a₂ w₂ h => h) _ _ _ _ (fun l w₂ hl' hw => HS.of_rls hm.evo.rel hev.ext hH (hl' i hlself) hw) hgo⟩
  induction u generalizing listed w a B with
  | zero =>
    have hri := hL.ready_out hiA' hp1
    show wpAnyL _ _ _ _ _ ((n + 0) + 1) listed a w
    refine wpAnyL_all rfl (fun h0 => by rw [h0] at hri; cases hri) fun j hj => ?_
    by_cases hjA : j ∈ A
    · have := left_setA hL hjA (mem_ready.1 hj).1; omega
    · have hjf := hL.ready_fin hj hjA
      rw [hp3, List.mem_singleton] at hjf
      subst hjf
      exact core 0 listed w a B hL hm hu hri
  | succ u ih =>
    have hri := hL.ready_out hiA' hp1
    rw [show n + 1 + (u + 1) = (n + (u + 1)) + 1 by omega]
    refine wpAnyL_all rfl (fun h0 => by rw [h0] at hri; cases hri) fun j hj => ?_
    by_cases hjA : j ∈ A
    · have hlf := left_setA hL hjA (mem_ready.1 hj).1
      rw [show n + (u + 1) = n + 1 + u by omega]
      exact DPP.one hL hd hk hF0 hm hH hjA hj fun B' w' a' hm' => ih _ (hL.setA hjA) _ _ _ hm' (by omega)
    · have hjf := hL.ready_fin hj hjA
      rw [hp3, List.mem_singleton] at hjf
      subst hjf
      exact core (u + 1) listed w a B hL hm hu hri

theorem DPP.quiet {s : List Ent0} {H : List HE} {f : Fr} {σ : St} {K : Fr → St → Prop} {i : Nat} {o : Oper} {js : List Nat} {v : Value} (hop : ops[i]? = some o) (hw : wantedA ops f o = some true) (hq : opQ M.toEnv f σ o.op = some v) (hi : ∀ x ∈ H, x.1.contains i = false) (hdA : ∀ x t, x ∈ A → dstOf ops x = some t → o.dst ≠ some t) (hbi : ∀ t, o.dst = some t → fe.get t = none)
    (h : DPP M nt ops A fe r s ((opHolds M.toEnv f σ o.op).map (fun x => (js, x)) ++ H) (putF f o.dst v) σ K) : DPP M nt ops A fe r (.q i js :: s) H f σ K :=
  DPP.takeQ hop (yields_quiet hw hq) (opHolds_in M.toEnv) (sc_quiet hq) hi hdA hbi h

theorem DPP.skip {s : List Ent0} {H : List HE} {f : Fr} {σ : St} {K : Fr → St → Prop} {i : Nat} {o : Oper} {js : List Nat} (hop : ops[i]? = some o) (hw : wantedA ops f o = some false) (hi : ∀ x ∈ H, x.1.contains i = false) (hdA : ∀ x t, x ∈ A → dstOf ops x = some t → o.dst ≠ some t) (hbi : ∀ t, o.dst = some t → fe.get t = none)
    (h : DPP M nt ops A fe r s H (putF f o.dst undef) σ K) : DPP M nt ops A fe r (.q i js :: s) H f σ K :=
  DPP.takeQ (H' := []) hop (yields_skip hw) (by simp) (fun _ _ _ _ _ => Sc_undef _) hi hdA hbi h

theorem DPP.write {s : List Ent0} {H : List HE} {f : Fr} {σ : St} {K : Fr → St → Prop} {i : Nat} {o : Oper} {res : Option Value} {σ' : St} (hk : Ok M ops A fe) (hdA : ∀ x t, x ∈ A → dstOf ops x = some t → o.dst ≠ some t) (hbi : ∀ t, o.dst = some t → fe.get t = none) (hop : ops[i]? = some o) (hw : wantedA ops f o = some true)
    (hq : opW M.toEnv f σ o.op = some (res, σ')) (hH' : ∀ h ∈ rls i H, h.2.in σ') (h : DPP M nt ops A fe r s (rls i H) (putF f o.dst (res.getD undef)) σ' K) : DPP M nt ops A fe r (.e i :: s) H f σ K := by
  have hdst : dstOf ops i = o.dst := by simp only [dstOf, getElem?_toList_eq, hop]
  refine DPP.eff hk (by rw [hdst]; exact hdA) (by rw [hdst]; exact hbi) fun F ρ w a hR hF hn => ?_
  obtain ⟨w', ρ', h1, h2, h3⟩ := opW_sound M.toEnv hR hF o hq
  unfold wpOp
  simp only [hop, wantedA_sound hF hw, if_true, Oper.wp, h1]
  refine .inl ?_
  cases res with
  | some v =>
    simp only [nxt, Oper.upon]
    exact ⟨ρ', σ', v, by rw [hdst], h2, h3 v rfl, hH', by rw [hdst]; exact h⟩
  | none =>
    simp only [nxt, Oper.upon]
    exact ⟨ρ', σ', undef, by rw [hdst, ren_undef], h2, Sc_undef _, hH', by rw [hdst]; exact h⟩

theorem DPP.call {s : List Ent0} {H : List HE} {f : Fr} {σ : St} {K : Fr → St → Prop} {i : Nat} {o : Oper} {c : Call} {g : FuncId} {args : List Value} (hk : Ok M ops A fe) (hdA : ∀ x t, x ∈ A → dstOf ops x = some t → o.dst ≠ some t) (hbi : ∀ t, o.dst = some t → fe.get t = none) (hop : ops[i]? = some o) (ho : o.op = .call c) (hw : wantedA ops f o = some true) (hc : callQ M f c = some (g, args))
    (h : WF M.toEnv g args σ (fun res σ' => (∀ h ∈ rls i H, h.2.in σ') ∧ DPP M nt ops A fe r s (rls i H) (putF f o.dst res) σ' K)) : DPP M nt ops A fe r (.e i :: s) H f σ K := by
  have hdst : dstOf ops i = o.dst := by simp only [dstOf, getElem?_toList_eq, hop]
  refine DPP.eff hk (by rw [hdst]; exact hdA) (by rw [hdst]; exact hbi) fun F ρ w a hR hF hn => ?_
  obtain ⟨h1, h2⟩ := callQ_sound M hF hc h.1 o.type w
  have hex : (execOp a.eval o).run M.P w = .ok (.enter g (args.map (ren ρ)).toArray) w := by
    simp only [execOp, ho]; exact h1
  unfold wpOp
  simp only [hop, wantedA_sound hF hw, if_true, Oper.wp, hex, Oper.upon]
  refine .inl ?_
  refine Calls.mono (h.2 ρ w hR h2) fun e w' ⟨v, he, res, σ', ρ', h3, h4, h5, h6, h7⟩ => ?_
  subst he
  subst h3
  exact ⟨ρ', σ', res, by rw [hdst], h4, h5, h6, by rw [hdst]; exact h7⟩

theorem DP.pend {sub : List Ent0} {H : List HE} {f : Fr} {σ : St} {K : Fr → St → Prop} {X : List Nat} (hk : Ok M ops A fe) (hnd : nodupB A = true) (hfe : fe = AH.bare ops f X) (h : DPP M nt ops A fe r sub H (AH.bare ops f A) σ K) : DP M nt ops (.p A sub :: r) H f σ K := by
  intro fuel listed hp hsel hd ρ w a hR hF hn hH
  simp only [planOk, Bool.and_eq_true, Nat.ble_eq, List.all_eq_true, List.contains_iff_mem] at hp
  obtain ⟨⟨hp1, hp2⟩, hp3⟩ := hp
  have hun : ∀ x ∈ A, listed.getD x false = false := fun x hx => by
    rw [getD_lt (d' := true) (ready_lt (hp2 x hx))]; exact (mem_ready.1 (hp2 x hx)).1
  have hL : Lst ops A listed listed := ⟨rfl, fun _ _ _ => rfl, nodupB_spec hnd, hp2⟩
  have hleft : left listed A = A.length := by
    unfold left
    rw [List.filter_eq_self.2 (fun x hx => by rw [hun x hx]; rfl)]
  have := h (fuel - A.length) listed listed hp3 hL hsel hd ρ σ w a ρ w a (fun _ => none) (by rw [hfe]; exact hF.bare ops X)
    ⟨Evo.refl hR, hF.bare ops A, by rw [hfe]; exact hF.bare ops X, hn, fun x hx t ht => bare_none hx ht, fun x hx hl => (by rw [hun x hx] at hl; cases hl), fun x b h => (by cases h), fun x y b h => (by cases h)⟩ hH
  rw [hleft] at this
  rwa [show fuel - A.length + A.length = fuel by omega] at this
end
end
end AH
