/-
  AH 18: functions: what a call comes to, said of the abstract state.
-/
import Derived.Test.YtognbiffhgpoaaaGreatAh17
set_option linter.unusedSimpArgs false
set_option linter.unusedVariables false
set_option linter.unusedSectionVars false
namespace AH
open Go
noncomputable section

/-- A function that a call enters. -/
def Enter (P : Program) (K : FuncId) : Prop := ∃ fn, P.funcs[K]? = some fn ∧ (fn.name == "runtime.NumGoroutine") = false ∧ fn.body.isNone = false

/-- What is left behind a call. -/
def Lift (ρ : Nat → Loc) (σ : St) (w : World) (R : Value → St → Prop) (v : Value) (w' : World) : Prop :=
  ∃ r σ' ρ', v = ren ρ' r ∧ Evo ρ σ w ρ' σ' w' ∧ Sc σ'.next r ∧ R r σ'

/-- The call of K with these arguments, in a world of which σ is known, returns; and R holds of what it returns and of what is known then. -/
def WF (E : Env) (K : FuncId) (args : List Value) (σ : St) (R : Value → St → Prop) : Prop :=
  Enter E.P K ∧ ∀ ρ w, Rel ρ σ w → Scs σ.next args → Calls E.P K (args.map (ren ρ)).toArray w (fun e w' => ∃ v, e = .returned v ∧ Lift ρ σ w R v w')

theorem WF.mono {E : Env} {K : FuncId} {args : List Value} {σ : St} {R R' : Value → St → Prop} (h : WF E K args σ R) (hr : ∀ r σ', σ.next ≤ σ'.next → R r σ' → R' r σ') : WF E K args σ R' :=
  ⟨h.1, fun ρ w hR hs => (h.2 ρ w hR hs).mono fun e w' ⟨v, he, r, σ', ρ', h1, h2, h3, h4⟩ => ⟨v, he, r, σ', ρ', h1, h2, h3, hr r σ' h2.next h4⟩⟩

def putF (f : Fr) (d : Option Tmp) (v : Value) : Fr := match d with | some t => f.set t v | none => f

def dstOk (nt : Nat) (o : Oper) : Bool := match o.dst with | some d => Nat.blt d nt | none => true

theorem FrRel.put {ρ : Nat → Loc} {f : Fr} {n : Nat} {a : Act} (h : FrRel ρ f n a) {d : Option Tmp} (hd : ∀ t, d = some t → t < a.tmps.size) {v : Value} (hv : Sc n v) : FrRel ρ (putF f d v) n (a.put d (ren ρ v)) := by
  cases d with
  | none => exact h
  | some t =>
    have ht := hd t rfl
    refine ⟨fun s u hu => ?_, fun s u hu => ?_, h.defers, h.dsc⟩
    · simp only [putF, Fr.get_set] at hu
      simp only [Act.put, Array.getElem?_setIfInBounds]
      split at hu
      · rename_i e; subst e
        simp only [Option.some.injEq] at hu
        subst hu
        simp [ht]
      · rename_i e
        rw [if_neg e]
        exact h.slot s u hu
    · simp only [putF, Fr.get_set] at hu
      split at hu
      · simp only [Option.some.injEq] at hu; subst hu; exact hv
      · exact h.sc s u hu

theorem FrRel.evo {ρ ρ' : Nat → Loc} {f : Fr} {n n' : Nat} {a : Act} (h : FrRel ρ f n a) (he : ∀ i, i < n → ρ' i = ρ i) (hn : n ≤ n') : FrRel ρ' f n' a :=
  ⟨fun t v hv => by rw [h.slot t v hv, h.sc t v hv ρ ρ' (fun i hi => (he i hi).symm)], fun t v hv => (h.sc t v hv).mono hn,
    by rw [h.defers]; exact List.map_congr_left fun i hi => by rw [he i (h.dsc i hi)], fun i hi => Nat.lt_of_lt_of_le (h.dsc i hi) hn⟩

/-- Is an operation carried out? -/
def wantedA (all : Array Oper) (f : Fr) (o : Oper) : Option Bool :=
  match o.guard with
  | none => some true
  | some (j, want) =>
    match (all[j]?).bind (·.dst) with
    | none => some false
    | some d => match f.get d with
      | some (.bool b) => some (b == want)
      | some (.tuple _) => some false
      | _ => none

theorem wantedA_sound {ρ : Nat → Loc} {f : Fr} {n : Nat} {a : Act} (hF : FrRel ρ f n a) {all : Array Oper} {o : Oper} {b : Bool} (h : wantedA all f o = some b) : Region.wanted o (yielded all a.tmps) = b := by
  unfold wantedA at h
  unfold Region.wanted
  cases hg : o.guard with
  | none => simp only [hg, Option.some.injEq] at h; exact h
  | some jw =>
    obtain ⟨j, want⟩ := jw
    simp only [hg] at h
    simp only [yielded]
    cases hd : (all[j]?).bind (·.dst) with
    | none => simp only [hd, Option.some.injEq] at h; subst h; simp
    | some d =>
      simp only [hd] at h
      split at h
      · rename_i c hc
        simp only [Option.some.injEq] at h; subst h
        have := hF.slot d _ hc
        simp only [Option.bind_some, this, ren_bool]
        cases c <;> cases want <;> rfl
      · rename_i vs hc
        simp only [Option.some.injEq] at h; subst h
        have := hF.slot d _ hc
        simp only [Option.bind_some, this, ren_tuple]
        rfl
      · cases h

/-- Which function a call comes to, and with which arguments. -/
structure EnvM extends Env where
  mth : Nat → String → Option Nat
  mthOk : ∀ t name g, mth t name = some g → ∀ v w, (Go.method (P.types.size + Made.depth) t v name).run P w = .ok (g, v) w

def callQ (M : EnvM) (f : Fr) (c : Call) : Option (FuncId × List Value) :=
  match c.callee, opds f c.args.toList with
  | .value x, some args => (match opd f x with
    | some (.func (.func g) first cap) => some (g, first.toList ++ args ++ cap.toList)
    | _ => none)
  | .invoke x name, some args => (match opd f x with
    | some (.iface t v) => (match M.mth t name with
      | some g => some (g, v :: args)
      | none => none)
    | _ => none)
  | _, _ => none

theorem callQ_sound (M : EnvM) {ρ : Nat → Loc} {f : Fr} {n : Nat} {a : Act} (hF : FrRel ρ f n a) {c : Call} {g : FuncId} {args : List Value} (h : callQ M f c = some (g, args)) (hE : Enter M.P g) (type : TypeId) (w : World) :
    ((do let d ← resolve a.eval c type; invoke d.target d.args : Sem Next)).run M.P w = .ok (.enter g (args.map (ren ρ)).toArray) w ∧ Scs n args := by
  obtain ⟨fn, hfn, hname, hbody⟩ := hE
  have hcall : ∀ as w, (callFunc g as).run M.P w = .ok (.enter g as) w := fun as w => by
    simp only [callFunc, Sem.run_bind, run_program, Result.andThen_ok, hfn, hname, hbody, Bool.false_eq_true, if_false, Sem.run_pure]
  obtain ⟨callee, cargs, at_⟩ := c
  unfold callQ at h
  split at h
  · rename_i x l hc hl
    simp only at hc
    subst hc
    obtain ⟨h1, h1s⟩ := opds_sound hF hl
    have e1 : cargs.map a.eval = (l.map (ren ρ)).toArray := Array.ext' (by simpa using h1)
    split at h
    · rename_i g' first cap hx
      simp only [Option.some.injEq, Prod.mk.injEq] at h
      obtain ⟨rfl, rfl⟩ := h
      obtain ⟨h2, h2s⟩ := opd_sound hF hx
      obtain ⟨_, h3, h4⟩ := Sc_func.1 h2s
      refine ⟨?_, fun v hv => by
        rcases List.mem_append.1 hv with hv | hv
        · rcases List.mem_append.1 hv with hv | hv
          · exact h3 v hv
          · exact h1s v hv
        · exact h4 v hv⟩
      simp only [resolve, Deferred.ofValue, h2, ren_func, renFn_func, e1, Sem.run_bind, Sem.run_pure, Result.andThen_ok, invoke, hcall]
      congr 2
      apply Array.ext'
      simp
    · cases h
  · rename_i x name l hc hl
    simp only at hc
    subst hc
    obtain ⟨h1, h1s⟩ := opds_sound hF hl
    have e1 : cargs.map a.eval = (l.map (ren ρ)).toArray := Array.ext' (by simpa using h1)
    split at h
    · rename_i t v hx
      split at h
      · rename_i g' hm
        simp only [Option.some.injEq, Prod.mk.injEq] at h
        obtain ⟨rfl, rfl⟩ := h
        obtain ⟨h2, h2s⟩ := opd_sound hF hx
        refine ⟨?_, fun u hu => by
          rcases List.mem_cons.1 hu with rfl | hu
          · exact Sc_iface.1 h2s
          · exact h1s u hu⟩
        simp only [resolve, h2, ren_iface, e1, Sem.run_pure, Sem.run_bind, Result.andThen_ok, invoke]
        have e2 : (#[Value.iface t (ren ρ v)] ++ (l.map (ren ρ)).toArray)[0]? = some (.iface t (ren ρ v)) := by simp
        have e3 : ((#[Value.iface t (ren ρ v)] ++ (l.map (ren ρ)).toArray).extract 1 (#[Value.iface t (ren ρ v)] ++ (l.map (ren ρ)).toArray).size) = (l.map (ren ρ)).toArray := by
          apply Array.ext'; simp [List.extract]; rw [List.take_of_length_le (by simp)]
        simp only [e2, e3, callMethod, Sem.run_bind, run_program, Result.andThen_ok, M.mthOk t name g' hm, hcall]
        congr 2
        apply Array.ext'
        simp
      · cases h
    · cases h
  · cases h

/-! ### A list of operations -/

/-- What is left behind some operations. -/
def After (nt : Nat) (ρ : Nat → Loc) (σ : St) (w : World) (K : Fr → St → Prop) (a' : Act) (w' : World) : Prop :=
  ∃ ρ' σ' f', Evo ρ σ w ρ' σ' w' ∧ FrRel ρ' f' σ'.next a' ∧ a'.tmps.size = nt ∧ K f' σ'

def WL (M : EnvM) (nt : Nat) (all : Array Oper) (rest : List Oper) (f : Fr) (σ : St) (K : Fr → St → Prop) : Prop :=
  (∀ o ∈ rest, dstOk nt o = true) → ∀ ρ w a, Rel ρ σ w → FrRel ρ f σ.next a → a.tmps.size = nt → wpList M.P all (fun e a' w' => e = .normal ∧ After nt ρ σ w K a' w') rest a w

theorem wpList_mono {P : Program} {all : Array Oper} {Q Q' : Exit → Act → World → Prop} (hQ : ∀ e a w, Q e a w → Q' e a w) : ∀ (l : List Oper) (a : Act) (w : World), wpList P all Q l a w → wpList P all Q' l a w
  | [], a, w, h => hQ _ _ _ h
  | o :: r, a, w, h => by
    unfold wpList at h ⊢
    split
    · rename_i hw
      rw [if_pos hw] at h
      rcases h with h | ⟨h1, a₀, w₀, h2⟩
      · refine .inl ?_
        unfold Oper.wp at *
        generalize (execOp a.eval o).run P w = res at *
        cases res with
        | ok n w' =>
          cases n <;> simp only [Oper.upon] at h ⊢ <;>
            first
              | exact wpList_mono hQ r _ _ h
              | exact Calls.mono h (fun e w'' he => by
                  cases e
                  · exact wpList_mono hQ r _ _ he
                  · exact hQ _ _ _ he
                  · obtain ⟨a₁, w₁, h1⟩ := he; exact ⟨a₁, w₁, hQ _ _ _ h1⟩)
              | exact Rows.mono h (fun _ _ he => wpList_mono hQ r _ _ he)
        | halt x w' =>
          cases x <;> simp only [Oper.upon] at h ⊢ <;> first | exact hQ _ _ _ h | exact h
      · exact .inr ⟨h1, a₀, w₀, hQ _ _ _ h2⟩
    · rename_i hw
      rw [if_neg hw] at h
      exact wpList_mono hQ r _ _ h

theorem After.evo {nt : Nat} {ρ ρ' : Nat → Loc} {σ σ' : St} {w w' : World} {K : Fr → St → Prop} {a : Act} {w₂ : World} (h : Evo ρ σ w ρ' σ' w') (k : After nt ρ' σ' w' K a w₂) : After nt ρ σ w K a w₂ := by
  obtain ⟨ρ₂, σ₂, f₂, h1, h2⟩ := k
  exact ⟨ρ₂, σ₂, f₂, h.trans h1, h2⟩

section
variable {M : EnvM} {nt : Nat} {all : Array Oper} {o : Oper} {rest : List Oper} {f : Fr} {σ : St} {K : Fr → St → Prop}

theorem WL.nil (h : K f σ) : WL M nt all [] f σ K := fun _ ρ w a hR hF hn => ⟨rfl, ρ, σ, f, Evo.refl hR, hF, hn, h⟩

theorem put_size (a : Act) (d : Option Tmp) (v : Value) : (a.put d v).tmps.size = a.tmps.size := by cases d <;> simp [Act.put]

theorem dst_lt {a : Act} (hn : a.tmps.size = nt) (h : dstOk nt o = true) : ∀ t, o.dst = some t → t < a.tmps.size := fun t ht => by
  simp only [dstOk, ht] at h
  rw [hn]
  exact Nat.le_of_ble_eq_true h

/-- An operation that is passed over. -/
theorem WL.skip (hw : wantedA all f o = some false) (h : WL M nt all rest (putF f o.dst undef) σ K) : WL M nt all (o :: rest) f σ K := by
  intro hd ρ w a hR hF hn
  unfold wpList
  rw [wantedA_sound hF hw]
  simp only [Bool.false_eq_true, if_false]
  have := hF.put (dst_lt hn (hd o (by simp))) (Sc_undef σ.next)
  rw [ren_undef] at this
  exact h (fun o' ho' => hd o' (by simp [ho'])) ρ w _ hR this (by rw [put_size]; exact hn)

theorem WL.quiet {v : Value} (hw : wantedA all f o = some true) (hq : opQ M.toEnv f σ o.op = some v) (h : WL M nt all rest (putF f o.dst v) σ K) : WL M nt all (o :: rest) f σ K := by
  intro hd ρ w a hR hF hn
  unfold wpList
  rw [wantedA_sound hF hw]
  simp only [if_true]
  obtain ⟨h1, h2⟩ := opQ_sound M.toEnv hR hF o hq w (fun x hx => Hold.at_of_in hR (opHolds_in M.toEnv x hx))
  refine .inl ?_
  simp only [Oper.wp, h1, Oper.upon]
  exact h (fun o' ho' => hd o' (by simp [ho'])) ρ w _ hR (hF.put (dst_lt hn (hd o (by simp))) h2) (by rw [put_size]; exact hn)

theorem WL.write {r : Option Value} {σ' : St} (hw : wantedA all f o = some true) (hq : opW M.toEnv f σ o.op = some (r, σ')) (h : WL M nt all rest (putF f o.dst (r.getD undef)) σ' K) : WL M nt all (o :: rest) f σ K := by
  intro hd ρ w a hR hF hn
  unfold wpList
  rw [wantedA_sound hF hw]
  simp only [if_true]
  obtain ⟨w', ρ', h1, h2, h3⟩ := opW_sound M.toEnv hR hF o hq
  refine .inl ?_
  simp only [Oper.wp, h1]
  have hF' := hF.evo h2.ext h2.next
  have hk := h (fun o' ho' => hd o' (by simp [ho'])) ρ' w'
  cases r with
  | some v =>
    simp only [nxt, Oper.upon]
    exact wpList_mono (fun e a₂ w₂ ⟨he, hk⟩ => ⟨he, After.evo h2 hk⟩) rest _ _ (hk _ h2.rel (hF'.put (dst_lt hn (hd o (by simp))) (h3 v rfl)) (by rw [put_size]; exact hn))
  | none =>
    simp only [nxt, Oper.upon]
    have := hF'.put (dst_lt hn (hd o (by simp))) (Sc_undef σ'.next)
    rw [ren_undef] at this
    exact wpList_mono (fun e a₂ w₂ ⟨he, hk⟩ => ⟨he, After.evo h2 hk⟩) rest _ _ (hk _ h2.rel this (by rw [put_size]; exact hn))

theorem WL.call {c : Call} {g : FuncId} {args : List Value} (ho : o.op = .call c) (hw : wantedA all f o = some true) (hc : callQ M f c = some (g, args))
    (h : WF M.toEnv g args σ (fun r σ' => WL M nt all rest (putF f o.dst r) σ' K)) : WL M nt all (o :: rest) f σ K := by
  intro hd ρ w a hR hF hn
  unfold wpList
  rw [wantedA_sound hF hw]
  simp only [if_true]
  obtain ⟨h1, h2⟩ := callQ_sound M hF hc h.1 o.type w
  refine .inl ?_
  have hex : (execOp a.eval o).run M.P w = .ok (.enter g (args.map (ren ρ)).toArray) w := by
    simp only [execOp, ho]; exact h1
  simp only [Oper.wp, hex, Oper.upon]
  refine Calls.mono (h.2 ρ w hR h2) fun e w' ⟨v, he, r, σ', ρ', h3, h4, h5, h6⟩ => ?_
  subst he
  subst h3
  exact wpList_mono (fun e a₂ w₂ ⟨he, hk⟩ => ⟨he, After.evo h4 hk⟩) rest _ _
    (h6 (fun o' ho' => hd o' (by simp [ho'])) ρ' w' _ h4.rel ((hF.evo h4.ext h4.next).put (dst_lt hn (hd o (by simp))) h5) (by rw [put_size]; exact hn))

/-- A step of a map's iterator, whichever entry it comes to. -/
theorem WL.next {x : Operand} {r m since : Nat} {seen : List Nat} {last : Nat} {es : List MapEntry} {clock : Nat} (ho : o.op = .next x false) (hw : wantedA all f o = some true) (hx : opd f x = some (.pointer (some ⟨r, 0, none⟩)))
    (hr : σ.get r = .miter (some m) since seen last) (hm : σ.get m = .map es clock) (hok : (!seen.isEmpty && !es.isEmpty && es.all (fun e => decide (e.born ≥ last))) = false)
    (h : ∀ c ∈ cands es since seen, WL M nt all rest (putF f o.dst (nextDone r σ m since seen clock c).1) (nextDone r σ m since seen clock c).2 K) : WL M nt all (o :: rest) f σ K := by
  intro hd ρ w a hR hF hn
  unfold wpList
  rw [wantedA_sound hF hw]
  simp only [if_true]
  obtain ⟨h1, _⟩ := opd_sound hF hx
  obtain ⟨c, w', hc, h2, h3, h4⟩ := next_any M.P hR hr hm hok o.type
  refine .inl ?_
  have hex : (execOp a.eval o).run M.P w = .ok (.value (ren ρ (nextDone r σ m since seen clock c).1)) w' := by
    simp only [execOp, ho, h1]
    exact run_v' h2
  simp only [Oper.wp, hex, Oper.upon]
  exact wpList_mono (fun e a₂ w₂ ⟨he, hk⟩ => ⟨he, After.evo h3 hk⟩) rest _ _
    (h c hc (fun o' ho' => hd o' (by simp [ho'])) ρ w' _ h3.rel ((hF.evo h3.ext h3.next).put (dst_lt hn (hd o (by simp))) (h4.mono h3.next)) (by rw [put_size]; exact hn))
end

end
end AH
