/-
  AH 20: a region whose order is open: by a plan that the region's edges bear out.
-/
import Derived.Test.YtognbiffhgpoaaaGreatAhL
set_option linter.unusedSimpArgs false
set_option linter.unusedVariables false
set_option linter.unusedSectionVars false
namespace AH
open Go
noncomputable section

theorem Sc_renE {n : Nat} {ρ ρ' : Nat → Loc} {es : List MapEntry} (h : ∀ e ∈ es, Sc n e.key ∧ Sc n e.val) (he : ∀ i, i < n → ρ i = ρ' i) : es.map (renE ρ) = es.map (renE ρ') :=
  List.map_congr_left fun e hm => renE_congr (h e hm) he

theorem Hold.at_ext {ρ ρ' : Nat → Loc} {σ : St} {w w₂ : World} (hR : Rel ρ σ w) (he : ∀ i, i < σ.next → ρ' i = ρ i) {h : Hold} (hi : h.in σ) (ha : h.at ρ' w₂) : h.at ρ w₂ := by
  cases h with
  | cell b off v =>
    obtain ⟨cs, h1, h2⟩ := hi
    have hb : b < σ.next := hR.lt b (by
      cases hg : σ.get b with
      | ro l =>
        rw [hg] at h1
        simp only [Blk.known, Option.some.injEq] at h1
        subst h1
        cases l with
        | nil => simp at h2
        | cons c cs => rfl
      | _ => first | rfl | (rw [hg] at h1; simp [Blk.known] at h1))
    have hv := known_sc hR h1 v (List.mem_of_getElem? h2)
    simp only [Hold.at] at ha ⊢
    rw [← he b hb, hv ρ ρ' (fun i hi => (he i hi).symm)]
    exact ha
  | map b es c =>
    simp only [Hold.in] at hi
    have hb : b < σ.next := hR.lt b (by rw [hi]; rfl)
    have hs : ∀ e ∈ es, Sc σ.next e.key ∧ Sc σ.next e.val := by have := hR.sc b; rw [hi] at this; exact this
    simp only [Hold.at] at ha ⊢
    rw [← he b hb, Sc_renE hs (fun i hi => (he i hi).symm)]
    exact ha

/-- A plan: which operation comes next: q: it is quiet, and may be taken first (behind it: some that wait for it, and turn memory); e: it alone may come up; g: it, and some that only make memory, come up in any order. -/
inductive Ent0 where
  | q (i : Nat) (js : List Nat)
  | e (i : Nat)

/-- As above; p: while some that only make memory may come up, the others come up one behind the other. -/
inductive Ent where
  | q (i : Nat) (js : List Nat)
  | e (i : Nat)
  | g (i : Nat) (A : List Nat)
  | p (A : List Nat) (sub : List Ent0)

/-- Whatever comes up is one of those that are to be done, until all are. -/
def chk (ops : Array Oper) (fin : Array Bool) : Nat → Array Bool → List Nat → Bool
  | _, listed, [] => listed == fin
  | 0, _, _ :: _ => false
  | n + 1, listed, x :: r =>
    let rs := Region.ready .any ops listed
    !rs.isEmpty && rs.all (fun j => (x :: r).contains j && chk ops fin n (listed.setIfInBounds j true) ((x :: r).erase j))

def finOf (listed : Array Bool) : List Nat → Array Bool
  | [] => listed
  | x :: r => finOf (listed.setIfInBounds x true) r

/-- What has come up does not wait for i. -/
def closedB (ops : Array Oper) (listed : Array Bool) (i : Nat) : Bool := (List.range ops.size).all fun j => !listed.getD j false || !waitsB ops j i

/-- What the edges say of operations that come up one behind the other (l0: what has come up, those that wait left out), while those of A may come up at any time. -/
def planP (ops : Array Oper) (A : List Nat) (fin : Nat → Array Bool → Bool) : Nat → Array Bool → List Ent0 → Bool
  | n, l0, [] => A.all (fun x => Region.ready .any ops ((finOf l0 A).setIfInBounds x false) == [x]) && fin n (finOf l0 A)
  | n, l0, .q i js :: s => Nat.blt 0 n && !A.contains i && Region.free .any ops l0 i && (Region.ready .any ops l0).contains i && closedB ops (finOf l0 A) i && js.all (fun j => waitsB ops j i && j != i) && planP ops A fin (n - 1) (l0.setIfInBounds i true) s
  | n, l0, .e i :: s => Nat.blt 0 n && !A.contains i && (Region.ready .any ops l0).contains i && (Region.ready .any ops (finOf l0 A) == [i]) && planP ops A fin (n - 1) (l0.setIfInBounds i true) s

def planOk (ops : Array Oper) : Nat → Array Bool → List Ent → Bool
  | _, listed, [] => (Region.ready .any ops listed).isEmpty
  | n, listed, .q i js :: r => Nat.blt 0 n && Region.free .any ops listed i && (Region.ready .any ops listed).contains i && closedB ops listed i && js.all (fun j => waitsB ops j i && j != i) && planOk ops (n - 1) (listed.setIfInBounds i true) r
  | n, listed, .e i :: r => Nat.blt 0 n && (Region.ready .any ops listed) == [i] && planOk ops (n - 1) (listed.setIfInBounds i true) r
  | n, listed, .g i A :: r => Nat.ble (A.length + 1) n && chk ops (finOf listed (i :: A)) (A.length + 1) listed (i :: A) && planOk ops (n - (A.length + 1)) (finOf listed (i :: A)) r
  | n, listed, .p A sub :: r => Nat.ble A.length n && A.all (fun x => (Region.ready .any ops listed).contains x) && planP ops A (fun n l => planOk ops n l r) (n - A.length) listed sub

/-- All that the edges say of a plan, asked once. -/
def planGood (nt : Nat) (ops : Array Oper) (plan : List Ent) : Bool :=
  Region.noSelect ops && ops.toList.all (dstOk nt) && planOk ops ops.size (Array.replicate ops.size false) plan

/-- What is to hold until one of these has come up. -/
abbrev HE := List Nat × Hold

def HS (ρ : Nat → Loc) (H : List HE) (listed : Array Bool) (w : World) : Prop := ∀ x ∈ H, (∀ j ∈ x.1, listed.getD j false = false) → x.2.at ρ w

/-- What is still to hold when i has come up. -/
def rls (i : Nat) (H : List HE) : List HE := H.filter fun x => !x.1.contains i

def DP (M : EnvM) (nt : Nat) (ops : Array Oper) (plan : List Ent) (H : List HE) (f : Fr) (σ : St) (K : Fr → St → Prop) : Prop :=
  ∀ fuel listed, planOk ops fuel listed plan = true → Region.noSelect ops = true → (∀ o ∈ ops.toList, dstOk nt o = true) → ∀ ρ w a, Rel ρ σ w → FrRel ρ f σ.next a → a.tmps.size = nt → (∀ h ∈ H, h.2.in σ) →
    wpAnyL M.P .any ops (fun e a' w' => e = .normal ∧ After nt ρ σ w K a' w') (HS ρ H) fuel listed a w

theorem getD_set_self {listed : Array Bool} {i : Nat} (h : listed.getD i true = false) : (listed.setIfInBounds i true).getD i false = true := by
  have hlt : i < listed.size := by
    rcases Nat.lt_or_ge i listed.size with h' | h'
    · exact h'
    · simp [Array.getElem?_eq_none h'] at h
  simp [hlt]

theorem HS.of_in {ρ : Nat → Loc} {σ : St} {w : World} (hR : Rel ρ σ w) {H : List HE} (hH : ∀ h ∈ H, h.2.in σ) (l : Array Bool) : HS ρ H l w := fun x hx _ => Hold.at_of_in hR (hH x hx)

section
variable {M : EnvM} {nt : Nat} {ops : Array Oper} {i : Nat} {o : Oper} {r : List Ent} {H : List HE} {f : Fr} {σ : St} {K : Fr → St → Prop}

theorem DP.nil (h : K f σ) : DP M nt ops [] H f σ K := by
  intro fuel listed hp _ _ ρ w a hR hF hn hH
  have hr : Region.ready .any ops listed = [] := by simpa [planOk] using hp
  exact wpAnyL_done hr ⟨rfl, ρ, σ, f, Evo.refl hR, hF, hn, h⟩ fuel

theorem mem_ops (hop : ops[i]? = some o) : o ∈ ops.toList := Array.mem_toList_iff.2 (Array.mem_of_getElem? hop)

/-- An operation that yields v in every world in which H' holds, taken first. -/
theorem DP.takeQ {js : List Nat} {v : Value} {H' : List Hold} (hop : ops[i]? = some o) (hy : ∀ ρ w₀ a, Rel ρ σ w₀ → FrRel ρ f σ.next a → YieldsIf M.P ops (fun w => ∀ x ∈ H', x.at ρ w) o (ren ρ v) a) (hH' : ∀ x ∈ H', x.in σ) (hs : ∀ ρ w a, Rel ρ σ w → FrRel ρ f σ.next a → Sc σ.next v)
    (hi : ∀ x ∈ H, x.1.contains i = false) (h : DP M nt ops r (H'.map (fun x => (js, x)) ++ H) (putF f o.dst v) σ K) : DP M nt ops (.q i js :: r) H f σ K := by
  intro fuel listed hp hsel hd ρ w a hR hF hn hH
  have hin : ∀ x ∈ H'.map (fun x => (js, x)) ++ H, x.2.in σ := fun x hx => by
    rcases List.mem_append.1 hx with hx | hx
    · obtain ⟨y, hy, rfl⟩ := List.mem_map.1 hx; exact hH' y hy
    · exact hH x hx
  simp only [planOk, Bool.and_eq_true, Nat.blt_eq] at hp
  obtain ⟨⟨⟨⟨⟨hn0, hp0⟩, hp1⟩, hcl⟩, hjs⟩, hp2⟩ := hp
  obtain ⟨n, rfl⟩ : ∃ n, fuel = n + 1 := ⟨fuel - 1, by omega⟩
  have hF' := hF.put (dst_lt hn (hd o (mem_ops hop))) (hs ρ w a hR hF)
  have hk := h n _ hp2 hsel hd ρ w _ hR hF' (by rw [put_size]; exact hn) hin
  have hjs' : ∀ j ∈ js, waitsB ops j i = true ∧ j ≠ i := fun j hj => by
    have := List.all_eq_true.1 hjs j hj
    simpa using this
  refine wpAnyL_mono (S := HS ρ (H'.map (fun x => (js, x)) ++ H)) (fun _ _ _ h => h) _ _ _ _ (fun l w' _ hw' x hx => hw' x (List.mem_append.2 (.inr hx))) ?_
  have hdown : ∀ (l : Array Bool) w', HS ρ (H'.map (fun x => (js, x)) ++ H) (l.setIfInBounds i true) w' → HS ρ (H'.map (fun x => (js, x)) ++ H) l w' := fun l w' hw' x hx hno => hw' x hx fun j hj => by
    have hji : i ≠ j := by
      rcases List.mem_append.1 hx with hx | hx
      · obtain ⟨y, _, rfl⟩ := List.mem_map.1 hx
        exact (hjs' j hj).2.symm
      · intro e; subst e
        have := hi x hx
        rw [List.contains_iff_mem.2 hj] at this; cases this
    rw [getD_set_ne false hji]; exact hno j hj
  have hT : ∀ (l : Array Bool) w', l.getD i true = false → (∀ j oj, ops[j]? = some oj → l.getD j false = true → ∀ e ∈ oj.after, Region.binds .any e = true → e.on ≠ i) → HS ρ (H'.map (fun x => (js, x)) ++ H) (l.setIfInBounds i true) w' → ∀ x ∈ H', x.at ρ w' := fun l w' hl hcl' hw' x hx => by
    refine hw' (js, x) (List.mem_append.2 (.inl (List.mem_map.2 ⟨x, hx, rfl⟩))) fun j hj => ?_
    obtain ⟨h1, h2⟩ := hjs' j hj
    rw [getD_set_ne false h2.symm]
    obtain ⟨oj, hoj, e, he, hb, heq⟩ := waitsB_true h1
    cases hlj : l.getD j false with
    | false => rfl
    | true => exact absurd heq (hcl' j oj hoj hlj e he hb)
  have hcl0 : ∀ j oj, ops[j]? = some oj → listed.getD j false = true → ∀ e ∈ oj.after, Region.binds .any e = true → e.on ≠ i := fun j oj hj hl => by
    have hjlt : j < ops.size := (Array.getElem?_eq_some_iff.1 hj).1
    have := List.all_eq_true.1 hcl j (List.mem_range.2 hjlt)
    simp only [hl, Bool.not_true, Bool.false_or, Bool.not_eq_true'] at this
    exact waitsB_false this hj
  exact wpAnyL_first (T := fun w => ∀ x ∈ H', x.at ρ w) hop (Region.noSelect_spec hsel) (fun c a₂ w₂ hq => by simp at hq) hdown hT n listed a w
    (Region.free_spec hop hp0) hcl0 (by simpa using hp1) (hy ρ w a hR hF) (HS.of_in hR hin _) hk

/-- An operation that alone may come up. -/
theorem DP.alone (hop : ops[i]? = some o)
    (h : ∀ n listed, planOk ops n listed r = true → Region.noSelect ops = true → (∀ o ∈ ops.toList, dstOk nt o = true) → listed.getD i false = true → ∀ ρ w a, Rel ρ σ w → FrRel ρ f σ.next a → a.tmps.size = nt → (∀ h ∈ H, h.2.in σ) →
      wpOp M.P ops (fun e a' w' => e = .normal ∧ After nt ρ σ w K a' w') i (fun a' w' => HS ρ H listed w' ∧ wpAnyL M.P .any ops (fun e a' w' => e = .normal ∧ After nt ρ σ w K a' w') (HS ρ H) n listed a' w') a w) :
    DP M nt ops (.e i :: r) H f σ K := by
  intro fuel listed hp hsel hd ρ w a hR hF hn hH
  simp only [planOk, Bool.and_eq_true, Nat.blt_eq, beq_iff_eq] at hp
  obtain ⟨⟨hn0, hp1⟩, hp2⟩ := hp
  obtain ⟨n, rfl⟩ : ∃ n, fuel = n + 1 := ⟨fuel - 1, by omega⟩
  have hmem : i ∈ Region.ready .any ops listed := by rw [hp1]; simp
  refine wpAnyL_all hp1 (by simp) fun j hj => ?_
  simp only [List.mem_singleton] at hj
  subst hj
  exact h n _ hp2 hsel hd (getD_set_self (mem_ready.1 hmem).1) ρ w a hR hF hn hH

theorem DP.takeE {v : Value} {H' : List Hold} (hop : ops[i]? = some o) (hy : ∀ ρ w₀ a, Rel ρ σ w₀ → FrRel ρ f σ.next a → YieldsIf M.P ops (fun w => ∀ x ∈ H', x.at ρ w) o (ren ρ v) a) (hH' : ∀ x ∈ H', x.in σ) (hs : ∀ ρ w a, Rel ρ σ w → FrRel ρ f σ.next a → Sc σ.next v)
    (h : DP M nt ops r H (putF f o.dst v) σ K) : DP M nt ops (.e i :: r) H f σ K := by
  refine DP.alone hop fun n listed hp hsel hd hl ρ w a hR hF hn hH => ?_
  have hF' := hF.put (dst_lt hn (hd o (mem_ops hop))) (hs ρ w a hR hF)
  exact (hy ρ w a hR hF).wpOp hop (fun x hx => Hold.at_of_in hR (hH' x hx)) ⟨HS.of_in hR hH _, h n _ hp hsel hd ρ w _ hR hF' (by rw [put_size]; exact hn) hH⟩

theorem yields_skip (hw : wantedA ops f o = some false) (ρ : Nat → Loc) (w₀ : World) (a : Act) (hR : Rel ρ σ w₀) (hF : FrRel ρ f σ.next a) : YieldsIf M.P ops (fun w => ∀ x ∈ ([] : List Hold), x.at ρ w) o (ren ρ undef) a := .inr ⟨wantedA_sound hF hw, by simp⟩

theorem yields_quiet {v : Value} (hw : wantedA ops f o = some true) (hq : opQ M.toEnv f σ o.op = some v) (ρ : Nat → Loc) (w₀ : World) (a : Act) (hR : Rel ρ σ w₀) (hF : FrRel ρ f σ.next a) : YieldsIf M.P ops (fun w => ∀ x ∈ opHolds M.toEnv f σ o.op, x.at ρ w) o (ren ρ v) a :=
  .inl ⟨wantedA_sound hF hw, fun w hw' => (opQ_sound M.toEnv hR hF o hq w hw').1⟩

theorem sc_quiet {v : Value} (hq : opQ M.toEnv f σ o.op = some v) (ρ : Nat → Loc) (w : World) (a : Act) (hR : Rel ρ σ w) (hF : FrRel ρ f σ.next a) : Sc σ.next v := (opQ_sound M.toEnv hR hF o hq w (fun x hx => Hold.at_of_in hR (opHolds_in M.toEnv x hx))).2

theorem DP.skip {js : List Nat} (hop : ops[i]? = some o) (hw : wantedA ops f o = some false) (hi : ∀ x ∈ H, x.1.contains i = false) (h : DP M nt ops r H (putF f o.dst undef) σ K) : DP M nt ops (.q i js :: r) H f σ K :=
  DP.takeQ (H' := []) hop (yields_skip hw) (by simp) (fun _ _ _ _ _ => Sc_undef _) hi h

theorem DP.skipE (hop : ops[i]? = some o) (hw : wantedA ops f o = some false) (h : DP M nt ops r H (putF f o.dst undef) σ K) : DP M nt ops (.e i :: r) H f σ K :=
  DP.takeE (H' := []) hop (yields_skip hw) (by simp) (fun _ _ _ _ _ => Sc_undef _) h

theorem DP.quiet {js : List Nat} {v : Value} (hop : ops[i]? = some o) (hw : wantedA ops f o = some true) (hq : opQ M.toEnv f σ o.op = some v) (hi : ∀ x ∈ H, x.1.contains i = false) (h : DP M nt ops r ((opHolds M.toEnv f σ o.op).map (fun x => (js, x)) ++ H) (putF f o.dst v) σ K) : DP M nt ops (.q i js :: r) H f σ K :=
  DP.takeQ hop (yields_quiet hw hq) (opHolds_in M.toEnv) (sc_quiet hq) hi h

theorem DP.quietE {v : Value} (hop : ops[i]? = some o) (hw : wantedA ops f o = some true) (hq : opQ M.toEnv f σ o.op = some v) (h : DP M nt ops r H (putF f o.dst v) σ K) : DP M nt ops (.e i :: r) H f σ K :=
  DP.takeE hop (yields_quiet hw hq) (opHolds_in M.toEnv) (sc_quiet hq) h

/-- Going on behind a step. -/
theorem HS.of_rls {ρ ρ' : Nat → Loc} {σ : St} {w : World} (hR : Rel ρ σ w) (he : ∀ j, j < σ.next → ρ' j = ρ j) {H : List HE} (hH : ∀ h ∈ H, h.2.in σ) {l : Array Bool} (hl : l.getD i false = true) {w₂ : World} (hw : HS ρ' (rls i H) l w₂) : HS ρ H l w₂ := fun x hx hno => by
  refine Hold.at_ext hR he (hH x hx) (hw x (List.mem_filter.2 ⟨hx, ?_⟩) hno)
  cases hc : x.1.contains i with
  | false => rfl
  | true =>
    have := hno i (List.contains_iff_mem.1 hc)
    rw [hl] at this; cases this

theorem DP.on {ρ ρ' : Nat → Loc} {σ' : St} {w w' : World} {f' : Fr} {n : Nat} {listed : Array Bool} {a' : Act} (hR : Rel ρ σ w) (hev : Evo ρ σ w ρ' σ' w') (hF : FrRel ρ' f' σ'.next a') (hn : a'.tmps.size = nt) (hH : ∀ h ∈ H, h.2.in σ) (hH' : ∀ h ∈ rls i H, h.2.in σ') (hl : listed.getD i false = true)
    (hp : planOk ops n listed r = true) (hsel : Region.noSelect ops = true) (hd : ∀ o ∈ ops.toList, dstOk nt o = true) (h : DP M nt ops r (rls i H) f' σ' K) :
    HS ρ H listed w' ∧ wpAnyL M.P .any ops (fun e a' w' => e = .normal ∧ After nt ρ σ w K a' w') (HS ρ H) n listed a' w' :=
  ⟨HS.of_rls hR hev.ext hH hl (HS.of_in hev.rel hH' _), wpAnyL_mono (fun e a₂ w₂ ⟨he, hk⟩ => ⟨he, After.evo hev hk⟩) _ _ _ _ (fun l w₂ hl' hw => HS.of_rls hR hev.ext hH (hl' i hl) hw) (h n listed hp hsel hd ρ' w' a' hev.rel hF hn hH')⟩

theorem DP.write {res : Option Value} {σ' : St} (hop : ops[i]? = some o) (hw : wantedA ops f o = some true) (hq : opW M.toEnv f σ o.op = some (res, σ')) (hH' : ∀ h ∈ rls i H, h.2.in σ') (h : DP M nt ops r (rls i H) (putF f o.dst (res.getD undef)) σ' K) :
    DP M nt ops (.e i :: r) H f σ K := by
  refine DP.alone hop fun n listed hp hsel hd hl ρ w a hR hF hn hH => ?_
  obtain ⟨w', ρ', h1, h2, h3⟩ := opW_sound M.toEnv hR hF o hq
  unfold wpOp
  simp only [hop, wantedA_sound hF hw, if_true, Oper.wp, h1]
  refine .inl ?_
  have hF' := hF.evo h2.ext h2.next
  cases res with
  | some v =>
    simp only [nxt, Oper.upon]
    exact DP.on hR h2 (hF'.put (dst_lt hn (hd o (mem_ops hop))) (h3 v rfl)) (by rw [put_size]; exact hn) hH hH' hl hp hsel hd h
  | none =>
    simp only [nxt, Oper.upon]
    have := hF'.put (dst_lt hn (hd o (mem_ops hop))) (Sc_undef σ'.next)
    rw [ren_undef] at this
    exact DP.on hR h2 this (by rw [put_size]; exact hn) hH hH' hl hp hsel hd h

theorem DP.call {c : Call} {g : FuncId} {args : List Value} (hop : ops[i]? = some o) (ho : o.op = .call c) (hw : wantedA ops f o = some true) (hc : callQ M f c = some (g, args))
    (h : WF M.toEnv g args σ (fun res σ' => (∀ h ∈ rls i H, h.2.in σ') ∧ DP M nt ops r (rls i H) (putF f o.dst res) σ' K)) : DP M nt ops (.e i :: r) H f σ K := by
  refine DP.alone hop fun n listed hp hsel hd hl ρ w a hR hF hn hH => ?_
  obtain ⟨h1, h2⟩ := callQ_sound M hF hc h.1 o.type w
  have hex : (execOp a.eval o).run M.P w = .ok (.enter g (args.map (ren ρ)).toArray) w := by
    simp only [execOp, ho]; exact h1
  unfold wpOp
  simp only [hop, wantedA_sound hF hw, if_true, Oper.wp, hex, Oper.upon]
  refine .inl ?_
  refine Calls.mono (h.2 ρ w hR h2) fun e w' ⟨v, he, res, σ', ρ', h3, h4, h5, h6, h7⟩ => ?_
  subst he
  subst h3
  exact DP.on hR h4 ((hF.evo h4.ext h4.next).put (dst_lt hn (hd o (mem_ops hop))) h5) (by rw [put_size]; exact hn) hH h6 hl hp hsel hd h7

end

theorem VM.draw {M : EnvM} {K : FuncId} {nt : Nat} {k : List Item} {f : Fr} {σ : St} {R : Value → St → Prop} {id : Nat} {ops : Array Oper} (plan : List Ent) (hp : planGood nt ops plan = true) (h : DP M nt ops plan [] f σ (fun f' σ' => VM M K nt k f' σ' R)) :
    VM M K nt (.code (.region id ops true) :: k) f σ R := by
  intro ρ w a cs hR hF hn
  simp only [planGood, Bool.and_eq_true] at hp
  obtain ⟨⟨hp1, hp2⟩, hp3⟩ := hp
  have hlike := Like.drew w
  have hw := wp_region_L (id := id) (a := a) M.mixed (h ops.size _ hp3 hp1 (List.all_eq_true.1 hp2) ρ { w with drawn := w.drawn + 1 } a (hR.like hlike) hF hn (by simp))
  obtain ⟨e, a', w', ⟨he, ρ', σ', f', h1, h2, h3, h4⟩, harr⟩ := hw (base K) k cs
  subst he
  have hev := (Evo.like hR hlike).trans h1
  exact .of_steps harr ((h4 ρ' w' a' cs hev.rel h2 h3).mono fun v w₂ => Lift.evo hev)

end
end AH
