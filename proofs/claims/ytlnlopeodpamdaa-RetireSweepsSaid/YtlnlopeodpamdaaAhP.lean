/-
  The AH texts Ah18 to AhP, joined.
-/
import Derived.Test.YtlnlopeodpamdaaAh17
section
/-
  AH 18: functions: what a call comes to, said of the abstract state.
-/
set_option linter.unusedSimpArgs false
set_option linter.unusedVariables false
set_option linter.unusedSectionVars false
namespace AH
open Go
noncomputable section

/-- A function that a call enters. -/
def Enter (P : Program) (K : FuncId) : Prop := ∃ fn, P.funcs[K]? = some fn ∧ (fn.name == "runtime.NumGoroutine") = false ∧ fn.body.isNone = false

/-- What is left behind a call. -/
def Lift (ρ : Nat → Loc) (σ : St) (w : World) (R : Value → St → Prop) (v : Value) (w' : World) : Prop :=
  ∃ r σ' ρ', v = ren ρ' r ∧ Evo ρ σ w ρ' σ' w' ∧ Sc σ'.next r ∧ R r σ'

/-- The call of K with these arguments, in a world of which σ is known, returns; and R holds of what it returns and of what is known then. -/
def WF (E : Env) (K : FuncId) (args : List Value) (σ : St) (R : Value → St → Prop) : Prop :=
  Enter E.P K ∧ ∀ ρ w, Rel ρ σ w → Scs σ.next args → Calls E.P K (args.map (ren ρ)).toArray w (fun e w' => ∃ v, e = .returned v ∧ Lift ρ σ w R v w')

theorem WF.mono {E : Env} {K : FuncId} {args : List Value} {σ : St} {R R' : Value → St → Prop} (h : WF E K args σ R) (hr : ∀ r σ', σ.next ≤ σ'.next → R r σ' → R' r σ') : WF E K args σ R' :=
  ⟨h.1, fun ρ w hR hs => (h.2 ρ w hR hs).mono fun e w' ⟨v, he, r, σ', ρ', h1, h2, h3, h4⟩ => ⟨v, he, r, σ', ρ', h1, h2, h3, hr r σ' h2.next h4⟩⟩

def putF (f : Fr) (d : Option Tmp) (v : Value) : Fr := match d with | some t => f.set t v | none => f

def dstOk (nt : Nat) (o : Oper) : Bool := match o.dst with | some d => Nat.blt d nt | none => true

theorem FrRel.put {ρ : Nat → Loc} {f : Fr} {n : Nat} {a : Act} (h : FrRel ρ f n a) {d : Option Tmp} (hd : ∀ t, d = some t → t < a.tmps.size) {v : Value} (hv : Sc n v) : FrRel ρ (putF f d v) n (a.put d (ren ρ v)) := by
  cases d with
  | none => exact h
  | some t =>
    have ht := hd t rfl
    refine ⟨fun s u hu => ?_, fun s u hu => ?_, h.defers, h.dsc⟩
    · simp only [putF, Fr.get_set] at hu
      simp only [Act.put, Array.getElem?_setIfInBounds]
      split at hu
      · rename_i e; subst e
        simp only [Option.some.injEq] at hu
        subst hu
        simp [ht]
      · rename_i e
        rw [if_neg e]
        exact h.slot s u hu
    · simp only [putF, Fr.get_set] at hu
      split at hu
      · simp only [Option.some.injEq] at hu; subst hu; exact hv
      · exact h.sc s u hu

theorem FrRel.evo {ρ ρ' : Nat → Loc} {f : Fr} {n n' : Nat} {a : Act} (h : FrRel ρ f n a) (he : ∀ i, i < n → ρ' i = ρ i) (hn : n ≤ n') : FrRel ρ' f n' a :=
  ⟨fun t v hv => by rw [h.slot t v hv, h.sc t v hv ρ ρ' (fun i hi => (he i hi).symm)], fun t v hv => (h.sc t v hv).mono hn,
    by rw [h.defers]; exact List.map_congr_left fun i hi => by rw [he i (h.dsc i hi)], fun i hi => Nat.lt_of_lt_of_le (h.dsc i hi) hn⟩

/-- Is an operation carried out? -/
def wantedA (all : Array Oper) (f : Fr) (o : Oper) : Option Bool :=
  match o.guard with
  | none => some true
  | some (j, want) =>
    match (all[j]?).bind (·.dst) with
    | none => some false
    | some d => match f.get d with
      | some (.bool b) => some (b == want)
      | some (.tuple _) => some false
      | _ => none

theorem wantedA_sound {ρ : Nat → Loc} {f : Fr} {n : Nat} {a : Act} (hF : FrRel ρ f n a) {all : Array Oper} {o : Oper} {b : Bool} (h : wantedA all f o = some b) : Region.wanted o (yielded all a.tmps) = b := by
  unfold wantedA at h
  unfold Region.wanted
  cases hg : o.guard with
  | none => simp only [hg, Option.some.injEq] at h; exact h
  | some jw =>
    obtain ⟨j, want⟩ := jw
    simp only [hg] at h
    simp only [yielded]
    cases hd : (all[j]?).bind (·.dst) with
    | none => simp only [hd, Option.some.injEq] at h; subst h; simp
    | some d =>
      simp only [hd] at h
      split at h
      · rename_i c hc
        simp only [Option.some.injEq] at h; subst h
        have := hF.slot d _ hc
        simp only [Option.bind_some, this, ren_bool]
        cases c <;> cases want <;> rfl
      · rename_i vs hc
        simp only [Option.some.injEq] at h; subst h
        have := hF.slot d _ hc
        simp only [Option.bind_some, this, ren_tuple]
        rfl
      · cases h

/-- Which function a call comes to, and with which arguments. -/
structure EnvM extends Env where
  mth : Nat → String → Option Nat
  mthOk : ∀ t name g, mth t name = some g → ∀ v w, (Go.method (P.types.size + Made.depth) t v name).run P w = .ok (g, v) w

def callQ (M : EnvM) (f : Fr) (c : Call) : Option (FuncId × List Value) :=
  match c.callee, opds f c.args.toList with
  | .value x, some args => (match opd f x with
    | some (.func (.func g) first cap) => some (g, first.toList ++ args ++ cap.toList)
    | _ => none)
  | .invoke x name, some args => (match opd f x with
    | some (.iface t v) => (match M.mth t name with
      | some g => some (g, v :: args)
      | none => none)
    | _ => none)
  | _, _ => none

theorem callQ_sound (M : EnvM) {ρ : Nat → Loc} {f : Fr} {n : Nat} {a : Act} (hF : FrRel ρ f n a) {c : Call} {g : FuncId} {args : List Value} (h : callQ M f c = some (g, args)) (hE : Enter M.P g) (type : TypeId) (w : World) :
    ((do let d ← resolve a.eval c type; invoke d.target d.args : Sem Next)).run M.P w = .ok (.enter g (args.map (ren ρ)).toArray) w ∧ Scs n args := by
  obtain ⟨fn, hfn, hname, hbody⟩ := hE
  have hcall : ∀ as w, (callFunc g as).run M.P w = .ok (.enter g as) w := fun as w => by
    simp only [callFunc, Sem.run_bind, run_program, Result.andThen_ok, hfn, hname, hbody, Bool.false_eq_true, if_false, Sem.run_pure]
  obtain ⟨callee, cargs, at_⟩ := c
  unfold callQ at h
  split at h
  · rename_i x l hc hl
    simp only at hc
    subst hc
    obtain ⟨h1, h1s⟩ := opds_sound hF hl
    have e1 : cargs.map a.eval = (l.map (ren ρ)).toArray := Array.ext' (by simpa using h1)
    split at h
    · rename_i g' first cap hx
      simp only [Option.some.injEq, Prod.mk.injEq] at h
      obtain ⟨rfl, rfl⟩ := h
      obtain ⟨h2, h2s⟩ := opd_sound hF hx
      obtain ⟨_, h3, h4⟩ := Sc_func.1 h2s
      refine ⟨?_, fun v hv => by
        rcases List.mem_append.1 hv with hv | hv
        · rcases List.mem_append.1 hv with hv | hv
          · exact h3 v hv
          · exact h1s v hv
        · exact h4 v hv⟩
      simp only [resolve, Deferred.ofValue, h2, ren_func, renFn_func, e1, Sem.run_bind, Sem.run_pure, Result.andThen_ok, invoke, hcall]
      congr 2
      apply Array.ext'
      simp
    · cases h
  · rename_i x name l hc hl
    simp only at hc
    subst hc
    obtain ⟨h1, h1s⟩ := opds_sound hF hl
    have e1 : cargs.map a.eval = (l.map (ren ρ)).toArray := Array.ext' (by simpa using h1)
    split at h
    · rename_i t v hx
      split at h
      · rename_i g' hm
        simp only [Option.some.injEq, Prod.mk.injEq] at h
        obtain ⟨rfl, rfl⟩ := h
        obtain ⟨h2, h2s⟩ := opd_sound hF hx
        refine ⟨?_, fun u hu => by
          rcases List.mem_cons.1 hu with rfl | hu
          · exact Sc_iface.1 h2s
          · exact h1s u hu⟩
        simp only [resolve, h2, ren_iface, e1, Sem.run_pure, Sem.run_bind, Result.andThen_ok, invoke]
        have e2 : (#[Value.iface t (ren ρ v)] ++ (l.map (ren ρ)).toArray)[0]? = some (.iface t (ren ρ v)) := by simp
        have e3 : ((#[Value.iface t (ren ρ v)] ++ (l.map (ren ρ)).toArray).extract 1 (#[Value.iface t (ren ρ v)] ++ (l.map (ren ρ)).toArray).size) = (l.map (ren ρ)).toArray := by
          apply Array.ext'; simp [List.extract]; rw [List.take_of_length_le (by simp)]
        simp only [e2, e3, callMethod, Sem.run_bind, run_program, Result.andThen_ok, M.mthOk t name g' hm, hcall]
        congr 2
        apply Array.ext'
        simp
      · cases h
    · cases h
  · cases h

/-! ### A list of operations -/

/-- What is left behind some operations. -/
def After (nt : Nat) (ρ : Nat → Loc) (σ : St) (w : World) (K : Fr → St → Prop) (a' : Act) (w' : World) : Prop :=
  ∃ ρ' σ' f', Evo ρ σ w ρ' σ' w' ∧ FrRel ρ' f' σ'.next a' ∧ a'.tmps.size = nt ∧ K f' σ'

def WL (M : EnvM) (nt : Nat) (all : Array Oper) (rest : List Oper) (f : Fr) (σ : St) (K : Fr → St → Prop) : Prop :=
  (∀ o ∈ rest, dstOk nt o = true) → ∀ ρ w a, Rel ρ σ w → FrRel ρ f σ.next a → a.tmps.size = nt → wpList M.P all (fun e a' w' => e = .normal ∧ After nt ρ σ w K a' w') rest a w

theorem wpList_mono {P : Program} {all : Array Oper} {Q Q' : Exit → Act → World → Prop} (hQ : ∀ e a w, Q e a w → Q' e a w) : ∀ (l : List Oper) (a : Act) (w : World), wpList P all Q l a w → wpList P all Q' l a w
  | [], a, w, h => hQ _ _ _ h
  | o :: r, a, w, h => by
    unfold wpList at h ⊢
    split
    · rename_i hw
      rw [if_pos hw] at h
      rcases h with h | ⟨h1, a₀, w₀, h2⟩
      · refine .inl ?_
        unfold Oper.wp at *
        generalize (execOp a.eval o).run P w = res at *
        cases res with
        | ok n w' =>
          cases n <;> simp only [Oper.upon] at h ⊢ <;>
            first
              | exact wpList_mono hQ r _ _ h
              | exact Calls.mono h (fun e w'' he => by
                  cases e
                  · exact wpList_mono hQ r _ _ he
                  · exact hQ _ _ _ he
                  · obtain ⟨a₁, w₁, h1⟩ := he; exact ⟨a₁, w₁, hQ _ _ _ h1⟩)
              | exact Rows.mono h (fun _ _ he => wpList_mono hQ r _ _ he)
        | halt x w' =>
          cases x <;> simp only [Oper.upon] at h ⊢ <;> first | exact hQ _ _ _ h | exact h
      · exact .inr ⟨h1, a₀, w₀, hQ _ _ _ h2⟩
    · rename_i hw
      rw [if_neg hw] at h
      exact wpList_mono hQ r _ _ h

theorem After.evo {nt : Nat} {ρ ρ' : Nat → Loc} {σ σ' : St} {w w' : World} {K : Fr → St → Prop} {a : Act} {w₂ : World} (h : Evo ρ σ w ρ' σ' w') (k : After nt ρ' σ' w' K a w₂) : After nt ρ σ w K a w₂ := by
  obtain ⟨ρ₂, σ₂, f₂, h1, h2⟩ := k
  exact ⟨ρ₂, σ₂, f₂, h.trans h1, h2⟩

section
variable {M : EnvM} {nt : Nat} {all : Array Oper} {o : Oper} {rest : List Oper} {f : Fr} {σ : St} {K : Fr → St → Prop}

theorem WL.nil (h : K f σ) : WL M nt all [] f σ K := fun _ ρ w a hR hF hn => ⟨rfl, ρ, σ, f, Evo.refl hR, hF, hn, h⟩

theorem put_size (a : Act) (d : Option Tmp) (v : Value) : (a.put d v).tmps.size = a.tmps.size := by cases d <;> simp [Act.put]

theorem dst_lt {a : Act} (hn : a.tmps.size = nt) (h : dstOk nt o = true) : ∀ t, o.dst = some t → t < a.tmps.size := fun t ht => by
  simp only [dstOk, ht] at h
  rw [hn]
  exact Nat.le_of_ble_eq_true h

/-- An operation that is passed over. -/
theorem WL.skip (hw : wantedA all f o = some false) (h : WL M nt all rest (putF f o.dst undef) σ K) : WL M nt all (o :: rest) f σ K := by
  intro hd ρ w a hR hF hn
  unfold wpList
  rw [wantedA_sound hF hw]
  simp only [Bool.false_eq_true, if_false]
  have := hF.put (dst_lt hn (hd o (by simp))) (Sc_undef σ.next)
  rw [ren_undef] at this
  exact h (fun o' ho' => hd o' (by simp [ho'])) ρ w _ hR this (by rw [put_size]; exact hn)

theorem WL.quiet {v : Value} (hw : wantedA all f o = some true) (hq : opQ M.toEnv f σ o.op = some v) (h : WL M nt all rest (putF f o.dst v) σ K) : WL M nt all (o :: rest) f σ K := by
  intro hd ρ w a hR hF hn
  unfold wpList
  rw [wantedA_sound hF hw]
  simp only [if_true]
  obtain ⟨h1, h2⟩ := opQ_sound M.toEnv hR hF o hq w (fun x hx => Hold.at_of_in hR (opHolds_in M.toEnv x hx))
  refine .inl ?_
  simp only [Oper.wp, h1, Oper.upon]
  exact h (fun o' ho' => hd o' (by simp [ho'])) ρ w _ hR (hF.put (dst_lt hn (hd o (by simp))) h2) (by rw [put_size]; exact hn)

theorem WL.write {r : Option Value} {σ' : St} (hw : wantedA all f o = some true) (hq : opW M.toEnv f σ o.op = some (r, σ')) (h : WL M nt all rest (putF f o.dst (r.getD undef)) σ' K) : WL M nt all (o :: rest) f σ K := by
  intro hd ρ w a hR hF hn
  unfold wpList
  rw [wantedA_sound hF hw]
  simp only [if_true]
  obtain ⟨w', ρ', h1, h2, h3⟩ := opW_sound M.toEnv hR hF o hq
  refine .inl ?_
  simp only [Oper.wp, h1]
  have hF' := hF.evo h2.ext h2.next
  have hk := h (fun o' ho' => hd o' (by simp [ho'])) ρ' w'
  cases r with
  | some v =>
    simp only [nxt, Oper.upon]
    exact wpList_mono (fun e a₂ w₂ ⟨he, hk⟩ => ⟨he, After.evo h2 hk⟩) rest _ _ (hk _ h2.rel (hF'.put (dst_lt hn (hd o (by simp))) (h3 v rfl)) (by rw [put_size]; exact hn))
  | none =>
    simp only [nxt, Oper.upon]
    have := hF'.put (dst_lt hn (hd o (by simp))) (Sc_undef σ'.next)
    rw [ren_undef] at this
    exact wpList_mono (fun e a₂ w₂ ⟨he, hk⟩ => ⟨he, After.evo h2 hk⟩) rest _ _ (hk _ h2.rel this (by rw [put_size]; exact hn))

theorem WL.call {c : Call} {g : FuncId} {args : List Value} (ho : o.op = .call c) (hw : wantedA all f o = some true) (hc : callQ M f c = some (g, args))
    (h : WF M.toEnv g args σ (fun r σ' => WL M nt all rest (putF f o.dst r) σ' K)) : WL M nt all (o :: rest) f σ K := by
  intro hd ρ w a hR hF hn
  unfold wpList
  rw [wantedA_sound hF hw]
  simp only [if_true]
  obtain ⟨h1, h2⟩ := callQ_sound M hF hc h.1 o.type w
  refine .inl ?_
  have hex : (execOp a.eval o).run M.P w = .ok (.enter g (args.map (ren ρ)).toArray) w := by
    simp only [execOp, ho]; exact h1
  simp only [Oper.wp, hex, Oper.upon]
  refine Calls.mono (h.2 ρ w hR h2) fun e w' ⟨v, he, r, σ', ρ', h3, h4, h5, h6⟩ => ?_
  subst he
  subst h3
  exact wpList_mono (fun e a₂ w₂ ⟨he, hk⟩ => ⟨he, After.evo h4 hk⟩) rest _ _
    (h6 (fun o' ho' => hd o' (by simp [ho'])) ρ' w' _ h4.rel ((hF.evo h4.ext h4.next).put (dst_lt hn (hd o (by simp))) h5) (by rw [put_size]; exact hn))

/-- A step of a map's iterator, whichever entry it comes to. -/
theorem WL.next {x : Operand} {r m since : Nat} {seen : List Nat} {last : Nat} {es : List MapEntry} {clock : Nat} (ho : o.op = .next x false) (hw : wantedA all f o = some true) (hx : opd f x = some (.pointer (some ⟨r, 0, none⟩)))
    (hr : σ.get r = .miter (some m) since seen last) (hm : σ.get m = .map es clock) (hok : (!seen.isEmpty && !es.isEmpty && es.all (fun e => decide (e.born ≥ last))) = false)
    (h : ∀ c ∈ cands es since seen, WL M nt all rest (putF f o.dst (nextDone r σ m since seen clock c).1) (nextDone r σ m since seen clock c).2 K) : WL M nt all (o :: rest) f σ K := by
  intro hd ρ w a hR hF hn
  unfold wpList
  rw [wantedA_sound hF hw]
  simp only [if_true]
  obtain ⟨h1, _⟩ := opd_sound hF hx
  obtain ⟨c, w', hc, h2, h3, h4⟩ := next_any M.P hR hr hm hok o.type
  refine .inl ?_
  have hex : (execOp a.eval o).run M.P w = .ok (.value (ren ρ (nextDone r σ m since seen clock c).1)) w' := by
    simp only [execOp, ho, h1]
    exact run_v' h2
  simp only [Oper.wp, hex, Oper.upon]
  exact wpList_mono (fun e a₂ w₂ ⟨he, hk⟩ => ⟨he, After.evo h3 hk⟩) rest _ _
    (h c hc (fun o' ho' => hd o' (by simp [ho'])) ρ w' _ h3.rel ((hF.evo h3.ext h3.next).put (dst_lt hn (hd o (by simp))) (h4.mono h3.next)) (by rw [put_size]; exact hn))
end

end
end AH
end

section
/-
  AH 19: code, step by step, as a stack of what is left to do.
-/
set_option linter.unusedSimpArgs false
set_option linter.unusedVariables false
set_option linter.unusedSectionVars false
namespace AH
open Go
noncomputable section

def Fin (P : Program) (m : Machine) (K : FuncId) (cs : List Frame) (R : Value → World → Prop) : Prop :=
  ∃ v w' fr, R v w' ∧ Steps P m (lone fr cs w') ∧ fr.fn = K ∧ fr.leaving P w' (.returned v)

theorem Fin.of_steps {P : Program} {m m' : Machine} {K : FuncId} {cs : List Frame} {R : Value → World → Prop} (h : Steps P m m') (k : Fin P m' K cs R) : Fin P m K cs R := by
  obtain ⟨v, w', fr, h1, h2, h3⟩ := k
  exact ⟨v, w', fr, h1, h.trans h2, h3⟩

theorem Fin.mono {P : Program} {m : Machine} {K : FuncId} {cs : List Frame} {R R' : Value → World → Prop} (k : Fin P m K cs R) (h : ∀ v w, R v w → R' v w) : Fin P m K cs R' := by
  obtain ⟨v, w', fr, h1, h2⟩ := k
  exact ⟨v, w', fr, h _ _ h1, h2⟩

def base (K : FuncId) : Frame := { (default : Frame) with fn := K, kind := .normal }

/-- From these things to do on, in the frame of the function K (of nt slots), the call returns. -/
def VM (M : EnvM) (K : FuncId) (nt : Nat) (k : List Item) (f : Fr) (σ : St) (R : Value → St → Prop) : Prop :=
  ∀ ρ w a cs, Rel ρ σ w → FrRel ρ f σ.next a → a.tmps.size = nt → Fin M.P (lone ((base K).at a k) cs w) K cs (Lift ρ σ w R)

theorem Lift.evo {ρ ρ' : Nat → Loc} {σ σ' : St} {w w' : World} {R : Value → St → Prop} {v : Value} {w₂ : World} (h : Evo ρ σ w ρ' σ' w') (k : Lift ρ' σ' w' R v w₂) : Lift ρ σ w R v w₂ := by
  obtain ⟨r, σ₂, ρ₂, h1, h2, h3⟩ := k
  exact ⟨r, σ₂, ρ₂, h1, h.trans h2, h3⟩

section
variable {M : EnvM} {K : FuncId} {nt : Nat} {k : List Item} {f : Fr} {σ : St} {R : Value → St → Prop}

theorem VM.step {k k' : List Item} (hs : ∀ (a : Act) cs w, step M.P (lone ((base K).at a k) cs w) = .next (lone ((base K).at a k') cs w)) (h : VM M K nt k' f σ R) : VM M K nt k f σ R :=
  fun ρ w a cs hR hF hn => .of_steps (.one (hs a cs w)) (h ρ w a cs hR hF hn)

theorem VM.skip (h : VM M K nt k f σ R) : VM M K nt (.code .skip :: k) f σ R := VM.step (fun _ _ _ => step_skip) h
theorem VM.inBlock {id : Nat} (h : VM M K nt k f σ R) : VM M K nt (.inBlock id :: k) f σ R := VM.step (fun _ _ _ => step_inBlock) h
theorem VM.seq {x y : Code} (h : VM M K nt (.code x :: .code y :: k) f σ R) : VM M K nt (.code (.seq x y) :: k) f σ R := VM.step (fun _ _ _ => step_seq) h
theorem VM.block {id : Nat} {c : Code} (h : VM M K nt (.code c :: .inBlock id :: k) f σ R) : VM M K nt (.code (.block id c) :: k) f σ R := VM.step (fun _ _ _ => step_block) h
theorem VM.loop1 {c : Code} (h : VM M K nt (.code c :: .inLoop c :: k) f σ R) : VM M K nt (.code (.loop c) :: k) f σ R := VM.step (fun _ _ _ => step_loop) h
theorem VM.inLoop {c : Code} (h : VM M K nt (.code c :: .inLoop c :: k) f σ R) : VM M K nt (.inLoop c :: k) f σ R := VM.step (fun _ _ _ => step_inLoop) h
theorem VM.exit {id : Nat} {k' : List Item} (hx : exitTo id k = some k') (h : VM M K nt k' f σ R) : VM M K nt (.code (.exit id) :: k) f σ R := VM.step (fun _ _ _ => step_exit hx) h
theorem VM.cond {c : Operand} {x y : Code} {t : Bool} (hc : opd f c = some (.bool t)) (h : VM M K nt (.code (bif t then x else y) :: k) f σ R) : VM M K nt (.code (.cond c x y) :: k) f σ R := by
  intro ρ w a cs hR hF hn
  have hv : a.eval c = .bool t := by have := (opd_sound hF hc).1; simpa using this
  have hs := step_cond (P := M.P) (b := base K) (a := a) (k := k) (cs := cs) (w := w) (x := x) (y := y) hv
  refine .of_steps (.one hs) ?_
  cases t
  · exact h ρ w a cs hR hF hn
  · exact h ρ w a cs hR hF hn

theorem VM.cond_split {c : Operand} {x y : Code} {t : Bool} (hc : opd f c = some (.bool t)) (h1 : t = true → VM M K nt (.code x :: k) f σ R) (h2 : t = false → VM M K nt (.code y :: k) f σ R) : VM M K nt (.code (.cond c x y) :: k) f σ R := by
  refine VM.cond hc ?_
  cases t
  · exact h2 rfl
  · exact h1 rfl

/-- What a frame that knows less comes to, one that knows more comes to. -/
theorem VM.weaken {f' : Fr} (hf : ∀ t v, f'.get t = some v → f.get t = some v) (hd : f'.df = f.df) (h : VM M K nt k f' σ R) : VM M K nt k f σ R :=
  fun ρ w a cs hR hF hn => h ρ w a cs hR ⟨fun t v ht => hF.slot t v (hf t v ht), fun t v ht => hF.sc t v (hf t v ht), by rw [hd]; exact hF.defers, by rw [hd]; exact hF.dsc⟩ hn

theorem VM.mono {R' : Value → St → Prop} (h : VM M K nt k f σ R) (hr : ∀ r σ', σ.next ≤ σ'.next → R r σ' → R' r σ') : VM M K nt k f σ R' :=
  fun ρ w a cs hR hF hn => (h ρ w a cs hR hF hn).mono fun v w' ⟨r, σ', ρ', h1, h2, h3, h4⟩ => ⟨r, σ', ρ', h1, h2, h3, hr r σ' h2.next h4⟩

/-- A loop, by a relation and a measure. -/
theorem VM.loop {c : Code} (I : Fr → St → Prop) (μ : Fr → St → Nat) (h0 : I f σ)
    (round : ∀ f σ, I f σ → (∀ f' σ', I f' σ' → μ f' σ' < μ f σ → VM M K nt (.inLoop c :: k) f' σ' R) → VM M K nt (.code c :: .inLoop c :: k) f σ R) : VM M K nt (.code (.loop c) :: k) f σ R := by
  have key : ∀ n f σ, μ f σ = n → I f σ → VM M K nt (.code c :: .inLoop c :: k) f σ R := by
    intro n
    induction n using Nat.strongRecOn with
    | _ n ih =>
      intro f σ hn hI
      exact round f σ hI fun f' σ' hI' hlt => VM.inLoop (ih (μ f' σ') (hn ▸ hlt) f' σ' rfl hI')
  exact VM.loop1 (key _ f σ rfl h0)

theorem VM.region {id : Nat} {ops : Array Oper} (hd : ops.toList.all (dstOk nt) = true) (h : WL M nt ops ops.toList f σ (fun f' σ' => VM M K nt k f' σ' R)) : VM M K nt (.code (.region id ops false) :: k) f σ R := by
  intro ρ w a cs hR hF hn
  have hw := h (List.all_eq_true.1 hd) ρ w a hR hF hn
  obtain ⟨e, a', w', ⟨he, ρ', σ', f', h1, h2, h3, h4⟩, harr⟩ := wp_region_list (id := id) hw (base K) k cs
  subst he
  exact .of_steps harr ((h4 ρ' w' a' cs h1.rel h2 h3).mono fun v w₂ => Lift.evo h1)

/-! ### Results -/

def resOne (E : Env) (f : Fr) (σ : St) : ResultVar → Option Value
  | .tmp t => f.get t
  | .cell t ty => match f.get t, E.ty ty with
    | some (.pointer (some ad)), some i => ldVar i σ ad
    | _, _ => none

def resAll (E : Env) (f : Fr) (σ : St) : List ResultVar → Option (List Value)
  | [] => some []
  | x :: r => match resOne E f σ x with
    | some v => (match resAll E f σ r with | some l => some (v :: l) | none => none)
    | none => none

def resQ (E : Env) (f : Fr) (σ : St) (rs : List ResultVar) : Option Value :=
  match resAll E f σ rs with
  | some [v] => some v
  | some vs => some (.tuple vs.toArray)
  | none => none

theorem ldVar_cells {i : TyI} {σ : St} {ad : Addr} {v : Value} (h : ldVar i σ ad = some v) : ∃ l, ldCells σ ad (bif i.agg then i.size else 1) = some l := by
  unfold ldVar at h
  cases hA : i.agg with
  | true => simp only [hA, cond_true] at h ⊢; split at h; exact ⟨_, ‹_›⟩; cases h
  | false => simp only [hA, cond_false] at h ⊢; split at h; exact ⟨_, ‹_›⟩; cases h

theorem ldVar_sc {ρ : Nat → Loc} {σ : St} {w : World} (hR : Rel ρ σ w) {i : TyI} {ad : Addr} {v : Value} (h : ldVar i σ ad = some v) : Sc σ.next v := by
  obtain ⟨l, hl⟩ := ldVar_cells h
  have hsc := ldCells_sc hR hl
  unfold ldVar at h
  cases hA : i.agg with
  | true =>
    simp only [hA, cond_true] at h hl
    rw [hl] at h
    simp only [Option.some.injEq] at h; subst h
    exact Sc_agg.2 (by simpa using hsc)
  | false =>
    simp only [hA, cond_false] at h hl
    rw [hl] at h
    split at h
    · rename_i u e
      simp only [Option.some.injEq] at h e; subst h; subst e
      exact hsc _ (by simp)
    · cases h

theorem run_ldVar' (E : Env) {ρ : Nat → Loc} {σ : St} {w : World} (hR : Rel ρ σ w) {t : Nat} {i : TyI} (ht : E.ty t = some i) {ad : Addr} {v : Value} (h : ldVar i σ ad = some v) : (loadVar t (renA ρ ad)).run E.P w = .ok (ren ρ v) w := by
  obtain ⟨l, hl⟩ := ldVar_cells h
  exact run_ldVar E (ρ := ρ) (w := w) ht h hl fun x hx => by
    obtain ⟨k, u, h1, rfl⟩ := mem_cellHolds hx
    exact Hold.at_of_in hR (ldCells_get hl h1)

theorem resAll_sound (E : Env) {ρ : Nat → Loc} {w : World} (hR : Rel ρ σ w) {a : Act} (hF : FrRel ρ f σ.next a) : ∀ {rs : List ResultVar} {vs : List Value}, resAll E f σ rs = some vs →
    (rs.mapM (fun | .tmp t => pure (a.tmps.getD t undef) | .cell t ty => do loadVar ty (← asAddr (a.tmps.getD t undef)) : ResultVar → Sem Value)).run E.P w = .ok (vs.map (ren ρ)) w ∧ Scs σ.next vs
  | [], vs, h => by simp only [resAll, Option.some.injEq] at h; subst h; exact ⟨by simp, fun v hv => by simp at hv⟩
  | x :: r, vs, h => by
    simp only [resAll] at h
    split at h
    · rename_i v hv
      split at h
      · rename_i l hl
        simp only [Option.some.injEq] at h; subst h
        obtain ⟨h1, h2⟩ := resAll_sound E hR hF hl
        have key : ((match x with | .tmp t => pure (a.tmps.getD t undef) | .cell t ty => do loadVar ty (← asAddr (a.tmps.getD t undef)) : Sem Value)).run E.P w = .ok (ren ρ v) w ∧ Sc σ.next v := by
          cases x with
          | tmp t =>
            simp only [resOne] at hv
            have := hF.slot t v hv
            exact ⟨by simp [Array.getD_eq_getD_getElem?, this], hF.sc t v hv⟩
          | cell t ty =>
            simp only [resOne] at hv
            split at hv
            · rename_i ad i hg ht
              have := hF.slot t _ hg
              refine ⟨?_, ldVar_sc hR hv⟩
              have e1 : a.tmps.getD t undef = .pointer (some (renA ρ ad)) := by simp [Array.getD_eq_getD_getElem?, this]
              simp only [e1, asAddr, Sem.run_bind, Sem.run_pure, Result.andThen_ok]
              exact run_ldVar' E hR ht hv
            · cases hv
        refine ⟨?_, fun u hu => by rcases List.mem_cons.1 hu with rfl | hu; exact key.2; exact h2 u hu⟩
        rw [List.mapM_cons]
        simp only [Sem.run_bind, h1, Sem.run_pure]
        have k1 := key.1
        cases x <;> simp only [Sem.run_bind] at k1 ⊢ <;> rw [k1] <;> simp only [Result.andThen_ok, h1, List.map_cons]
      · cases h
    · cases h

theorem resQ_sound (E : Env) {ρ : Nat → Loc} {w : World} (hR : Rel ρ σ w) {a : Act} (hF : FrRel ρ f σ.next a) {fn : Func} {v : Value} (h : resQ E f σ fn.results.toList = some v) : (results fn a.tmps).run E.P w = .ok (ren ρ v) w ∧ Sc σ.next v := by
  unfold resQ at h
  have main : ∀ vs, resAll E f σ fn.results.toList = some vs → (results fn a.tmps).run E.P w = .ok (if h : vs.length = 1 then ren ρ (vs[0]) else .tuple (vs.map (ren ρ)).toArray) w ∧ Scs σ.next vs := by
    intro vs hvs
    obtain ⟨h1, h2⟩ := resAll_sound E hR hF hvs
    refine ⟨?_, h2⟩
    unfold results
    rw [Array.mapM_eq_mapM_toList]
    simp only [Sem.run_bind, Sem.run_map]
    refine Eq.trans (congrArg (fun (x : Result (List Value)) => ((x.andThen fun a w' => Result.ok a.toArray w').andThen fun a_1 w' => (pure (if h : a_1.size = 1 then a_1[0] else Value.tuple a_1) : Sem Value).run E.P w')) (Eq.trans ?_ h1)) ?_
    · congr 1
    · simp only [Result.andThen_ok, Sem.run_pure, List.size_toArray, List.length_map]
      split
      · rename_i hl; simp
      · rfl
  split at h
  · rename_i u hu
    simp only [Option.some.injEq] at h; subst h
    obtain ⟨h1, h2⟩ := main _ hu
    exact ⟨by rw [h1]; simp, h2 _ (by simp)⟩
  · rename_i vs hne hu
    simp only [Option.some.injEq] at h; subst h
    obtain ⟨h1, h2⟩ := main _ hu
    refine ⟨?_, Sc_tuple.2 (by simpa using h2)⟩
    rw [h1]
    have : vs.length ≠ 1 := fun hl => by
      match vs, hl, hne with
      | [x], _, hne => exact hne x rfl
    simp [this]
  · cases h

theorem leaving_of {a : Act} {todo : List Item} {w : World} {fn : Func} {v : Value} (hf : M.P.funcs[K]? = some fn) (hd : a.defers = []) (hr : (results fn a.tmps).run M.P w = .ok v w) : ({ (base K).at a todo with mode := .returning } : Frame).leaving M.P w (.returned v) :=
  ⟨rfl, hd, rfl, fn, hf, hr⟩

theorem VM.ret {fn : Func} {v : Value} (hdf : f.df = []) (hf : M.P.funcs[K]? = some fn) (hv : resQ M.toEnv f σ fn.results.toList = some v) (h : R v σ) : VM M K nt (.code .ret :: k) f σ R := by
  intro ρ w a cs hR hF hn
  obtain ⟨h1, h2⟩ := resQ_sound M.toEnv hR hF hv
  exact ⟨ren ρ v, w, _, ⟨v, σ, ρ, rfl, Evo.refl hR, h2, h⟩, .one step_ret, rfl, leaving_of hf (by rw [hF.defers, hdf]; rfl) h1⟩

theorem VM.done {fn : Func} {v : Value} (hdf : f.df = []) (hf : M.P.funcs[K]? = some fn) (hv : resQ M.toEnv f σ fn.results.toList = some v) (h : R v σ) : VM M K nt [] f σ R := by
  intro ρ w a cs hR hF hn
  obtain ⟨h1, h2⟩ := resQ_sound M.toEnv hR hF hv
  exact ⟨ren ρ v, w, _, ⟨v, σ, ρ, rfl, Evo.refl hR, h2, h⟩, .one step_end, rfl, leaving_of hf (by rw [hF.defers, hdf]; rfl) h1⟩

/-! ### Calls -/

def initF : Nat → List Value → Fr → Fr
  | _, [], f => f
  | i, v :: r, f => initF (i + 1) r (f.set i v)

theorem initF_get : ∀ (l : List Value) (i : Nat) (f : Fr) (t : Nat) (v : Value), (initF i l f).get t = some v → (i ≤ t ∧ l[t - i]? = some v) ∨ f.get t = some v
  | [], i, f, t, v, h => .inr h
  | u :: r, i, f, t, v, h => by
    simp only [initF] at h
    rcases initF_get r (i + 1) (f.set i u) t v h with ⟨h1, h2⟩ | h2
    · refine .inl ⟨by omega, ?_⟩
      rw [show t - i = (t - (i + 1)) + 1 by omega]
      simpa using h2
    · rw [Fr.get_set] at h2
      split at h2
      · rename_i e; subst e
        simp only [Option.some.injEq] at h2; subst h2
        exact .inl ⟨Nat.le_refl _, by simp⟩
      · exact .inr h2

theorem initF_df : ∀ (l : List Value) (i : Nat) (f : Fr), (initF i l f).df = f.df
  | [], _, _ => rfl
  | u :: r, i, f => (initF_df r (i + 1) (f.set i u)).trans rfl

theorem WF.of_VM {fn : Func} {c : Code} {args : List Value} (hf : M.P.funcs[K]? = some fn) (hname : (fn.name == "runtime.NumGoroutine") = false) (hb : fn.body = some c) (hl : args.length ≤ fn.ntmps)
    (h : VM M K fn.ntmps [.code c] (initF 0 args .nil) σ R) : WF M.toEnv K args σ R := by
  refine ⟨⟨fn, hf, hname, by rw [hb]; rfl⟩, fun ρ w hR hs cs => ?_⟩
  have hlen : (args.map (ren ρ)).toArray.size = args.length := by simp
  have henter : Frame.enter M.P K (args.map (ren ρ)).toArray .normal =
      (base K).at { tmps := (args.map (ren ρ)).toArray ++ Array.replicate (fn.ntmps - (args.map (ren ρ)).toArray.size) undef, defers := [] } [.code c] := by
    simp [Frame.enter, Frame.at, hf, hb, base]
  obtain ⟨v, w', fr, h1, h2, h3, h4⟩ := h ρ w { tmps := (args.map (ren ρ)).toArray ++ Array.replicate (fn.ntmps - (args.map (ren ρ)).toArray.size) undef, defers := [] } cs hR
    ⟨fun t v ht => by
      rcases initF_get args 0 .nil t v ht with ⟨_, h5⟩ | h5
      · have hlt : t < args.length := by
          rcases Nat.lt_or_ge t args.length with h' | h'
          · exact h'
          · rw [Nat.sub_zero, List.getElem?_eq_none h'] at h5; cases h5
        rw [Array.getElem?_append_left (by simpa using hlt)]
        simp only [Nat.sub_zero] at h5
        simp [h5]
      · simp at h5, fun t v ht => by
      rcases initF_get args 0 .nil t v ht with ⟨_, h5⟩ | h5
      · exact hs v (List.mem_of_getElem? h5)
      · simp at h5, by rw [initF_df]; rfl, by rw [initF_df]; intro i hi; simp at hi⟩ (by simp; omega)
  rw [← henter] at h2
  exact ⟨.returned v, w', fr, ⟨v, rfl, h1⟩, h2, h3, h4⟩

end
end
end AH
end

section
/-
  AH G: operations that make memory, and read none: what they make, whatever the world is.
-/
set_option linter.unusedSimpArgs false
set_option linter.unusedVariables false
set_option linter.unusedSectionVars false
namespace AH
open Go
noncomputable section

namespace Tr
variable {α : Type}
def del (t : Tr α) : Nat → Tr α :=
  Tr.rec (motive := fun _ => Nat → Tr α) (fun _ => .leaf) (fun l v r dl dr k => Bool.rec (Bool.rec (.node l v (dr (k / 2 - 1))) (.node (dl (k / 2)) v r) (Nat.beq (k % 2) 1)) (.node l none r) (Nat.beq k 0)) t

theorem del_node (l r : Tr α) (v : Option α) (k : Nat) : (Tr.node l v r).del k = if k = 0 then .node l none r else if k % 2 = 1 then .node (l.del (k / 2)) v r else .node l v (r.del (k / 2 - 1)) := by
  show Bool.rec (motive := fun _ => Tr α) (Bool.rec (motive := fun _ => Tr α) (.node l v (r.del (k / 2 - 1))) (.node (l.del (k / 2)) v r) (Nat.beq (k % 2) 1)) (.node l none r) (Nat.beq k 0) = _
  rw [beq0, beq1, recB, recB]
  simp only [decide_eq_true_eq]

theorem get_del (t : Tr α) (k j : Nat) : (t.del k).get j = if k = j then none else t.get j := by
  induction t generalizing k j with
  | leaf => show (Tr.leaf : Tr α).get j = _; rw [get_leaf]; split <;> rfl
  | node l o r ihl ihr =>
    rw [del_node]
    by_cases hk : k = 0
    · subst hk
      rw [if_pos rfl, get_node, get_node]
      by_cases hj : j = 0
      · subst hj; simp
      · rw [if_neg hj, if_neg hj, if_neg (fun e : 0 = j => hj e.symm)]
    · rw [if_neg hk]
      by_cases h1 : k % 2 = 1
      · rw [if_pos h1, get_node, get_node]
        by_cases hj : j = 0
        · rw [if_pos hj, if_neg (by omega), if_pos hj]
        · rw [if_neg hj, if_neg hj]
          by_cases hj1 : j % 2 = 1
          · rw [if_pos hj1, if_pos hj1, ihl]
            by_cases e : k = j
            · subst e; simp
            · rw [if_neg e, if_neg (by omega)]
          · rw [if_neg hj1, if_neg hj1, if_neg (by omega)]
      · rw [if_neg h1, get_node, get_node]
        by_cases hj : j = 0
        · rw [if_pos hj, if_neg (by omega), if_pos hj]
        · rw [if_neg hj, if_neg hj]
          by_cases hj1 : j % 2 = 1
          · rw [if_pos hj1, if_pos hj1, if_neg (by omega)]
          · rw [if_neg hj1, if_neg hj1, ihr]
            by_cases e : k = j
            · subst e; simp
            · rw [if_neg e, if_neg (by omega)]
end Tr

def Fr.del (f : Fr) (k : Nat) : Fr := ⟨f.tr.del k, f.df⟩
theorem Fr.get_del (f : Fr) (k j : Nat) : (f.del k).get j = if k = j then none else f.get j := Tr.get_del f.tr k j

/-- What is made. -/
inductive New where
  | ptr (e : TypeId) (cs : List Value)
  | sl (e : TypeId) (cs : List Value) (len cap : Nat)
  | map

namespace New
def val : New → Nat → Value
  | .ptr _ _, n => .pointer (some ⟨n, 0, none⟩)
  | .sl _ _ l c, n => .slice (some ⟨n, 0, none⟩) l c
  | .map, n => .map (some n)
def blk : New → Blk
  | .ptr e cs | .sl e cs _ _ => .cells e cs
  | .map => .map [] 0
def obj (ρ : Nat → Loc) : New → Obj
  | .ptr e cs | .sl e cs _ _ => .cells (cs.map (ren ρ)).toArray e
  | .map => .map #[] 0
def sc (n : Nat) : New → Prop
  | .ptr _ cs => Scs n cs
  | .sl _ cs _ c => Scs n cs ∧ c < half
  | .map => True

theorem sc_mono {n m : Nat} {N : New} (h : N.sc n) (hm : n ≤ m) : N.sc m := by
  cases N with
  | ptr e cs => exact Scs.mono h hm
  | sl e cs l c => exact ⟨Scs.mono h.1 hm, h.2⟩
  | map => trivial

theorem blk_sc {n : Nat} {N : New} (h : N.sc n) : N.blk.sc n := by
  cases N with
  | ptr e cs => exact h
  | sl e cs l c => exact h.1
  | map => exact fun e he => by simp at he

theorem blk_live (N : New) : N.blk.live = true := by cases N <;> rfl

theorem val_sc {n m : Nat} (N : New) (h : n < m) : Sc m (N.val n) := by
  cases N with
  | ptr e cs => exact Sc_ptr h
  | sl e cs l c => exact Sc_slice h
  | map => exact Sc_map h

theorem val_ren {n m b C : Nat} {N : New} (h : N.sc n) (ρ : Nat → Loc) : ren (upd ρ m ⟨b, 0, C⟩) (N.val m) = N.val b := by
  cases N with
  | ptr e cs => simp only [val]; rw [ren_new _ _ _ rfl]
  | sl e cs l c => simp only [val]; rw [ren_new_slice _ _ _ rfl _ _ h.2]
  | map => simp [val, upd_same]

theorem obj_congr {n : Nat} {N : New} (h : N.sc n) {ρ ρ' : Nat → Loc} (he : ∀ i, i < n → ρ i = ρ' i) : N.obj ρ = N.obj ρ' := by
  cases N with
  | ptr e cs => simp only [obj]; rw [Scs.map_eq h he]
  | sl e cs l c => simp only [obj]; rw [Scs.map_eq h.1 he]
  | map => rfl

theorem blkRel (N : New) {ρ : Nat → Loc} {b : Nat} {w : World} (h : w.heap[b]? = some (N.obj ρ)) : BlkRel ρ ⟨b, 0, 0⟩ w N.blk := by
  cases N with
  | ptr e cs => exact ⟨rfl, (0, 0), Unfz_zero _, h⟩
  | sl e cs l c => exact ⟨rfl, (0, 0), Unfz_zero _, h⟩
  | map => exact ⟨rfl, h⟩
end New

/-- Operations that make memory, and read none. -/
def allocQ (E : Env) (f : Fr) : Op → Option New
  | .alloc e => match E.ty e with
    | some i => some (.ptr e i.zero.cells.toList)
    | none => none
  | .box e x => match opd f x with
    | some v => some (.ptr e v.cells.toList)
    | none => none
  | .buildSlice t len parts => match E.ty t, partsQ f parts.toList with
    | some i, some ps => (match i.desc with
      | .slice e => (match E.ty e with
        | some j => if len * j.size ≤ 16777216 ∧ len < half then
            (match fillQ (fun k => some (k * j.size, j.size)) (repl len j.zero.cells.toList) ps with
             | some cs => some (.sl e cs len len)
             | none => none)
          else none
        | none => none)
      | _ => none)
    | _, _ => none
  | .makeMap t none => some .map
  | .makeMap t (some x) => match E.ty t, opd f x with
    | some i, some (.int _ _) => (match i.desc with
      | .map _ _ => some .map
      | _ => none)
    | _, _ => none
  | .makeSlice t l c => match E.ty t, opd f l, opd f c with
    | some i, some (.int _ x), some (.int _ y) => (match i.desc with
      | .slice e => (match E.ty e with
        | some j => if 0 ≤ x ∧ x ≤ y ∧ y < 4611686018427387904 ∧ (j.bytes : Int) * y ≤ 281474976710656 then some (.sl e (repl y.toNat j.zero.cells.toList) x.toNat y.toNat) else none
        | none => none)
      | _ => none)
    | _, _, _ => none
  | _ => none

section
variable (E : Env) {ρ : Nat → Loc} {n : Nat} {f : Fr} {a : Act} (hF : FrRel ρ f n a)
include hF

theorem allocQ_sound (o : Oper) {N : New} (h : allocQ E f o.op = some N) : N.sc n ∧ ∀ w, (execOp a.eval o).run E.P w = .ok (.value (N.val w.heap.size)) (w.alloc (N.obj ρ)) := by
  obtain ⟨dst, op, type, pos, after, guard⟩ := o
  dsimp only at h
  cases op with
  | alloc e =>
    simp only [allocQ] at h
    split at h
    · rename_i i he
      simp only [Option.some.injEq] at h
      subst h
      refine ⟨zero_scs E he _, fun w => ?_⟩
      simp only [execOp]
      refine run_v' ?_
      simp [Instr.alloc, run_zero E he, newVar, newRow, zero_ren E he, New.val, New.obj]
    · cases h
  | box e x =>
    simp only [allocQ] at h
    split at h
    · rename_i v hx
      simp only [Option.some.injEq] at h
      subst h
      obtain ⟨h1, h2⟩ := opd_sound hF hx
      refine ⟨Sc_cells h2, fun w => ?_⟩
      simp only [execOp]
      refine run_v' ?_
      have : (ren ρ v).cells = (v.cells.toList.map (ren ρ)).toArray := by rw [ren_cells]; apply Array.ext'; simp
      simp [Instr.box, newVar, newRow, h1, this, New.val, New.obj]
    · cases h
  | buildSlice t len parts =>
    simp only [allocQ] at h
    split at h
    · rename_i i ps ht hps
      split at h
      · rename_i e hd
        split at h
        · rename_i j he
          split at h
          · rename_i hc
            split at h
            · rename_i cs hf
              simp only [Option.some.injEq] at h
              subst h
              obtain ⟨h1, h2⟩ := partsQ_sound hF hps
              have hfs := fillQ_sound ρ hf
              rw [repl_ren E he] at hfs
              refine ⟨⟨fillQ_sc hf (repl_sc (zero_scs E he _) _) h2, hc.2⟩, fun w => ?_⟩
              simp only [execOp]
              refine run_v' ?_
              rw [parts_arr h1]
              have hle : ¬ (len * j.size > 2 ^ 24) := by omega
              unfold Instr.buildSlice
              by_cases h0 : len * j.size = 0
              · simp only [Sem.run_bind, run_und E ht, hd, Result.andThen_ok, run_sz E he, if_neg hle, if_pos h0, Sem.run_pure, zeros_nil E he len h0, hfs, newRow, run_newObj]
                rfl
              · simp only [Sem.run_bind, run_und E ht, hd, Result.andThen_ok, run_sz E he, if_neg hle, if_neg h0, run_zero E he, Sem.run_pure, zeros_arr E he len h0, hfs, newRow, run_newObj]
                rfl
            · cases h
          · cases h
        · cases h
      · cases h
    · cases h
  | makeMap t r' =>
    cases r' with
    | none =>
      simp only [allocQ, Option.some.injEq] at h
      subst h
      refine ⟨trivial, fun w => ?_⟩
      simp only [execOp]
      refine run_v' ?_
      simp [Instr.makeMap, New.val, New.obj]
    | some x =>
      simp only [allocQ] at h
      split at h
      · rename_i i k z ht hx
        split at h
        · rename_i kt et hd
          simp only [Option.some.injEq] at h
          subst h
          obtain ⟨h1, _⟩ := opd_sound hF hx
          refine ⟨trivial, fun w => ?_⟩
          simp only [execOp]
          refine run_v' ?_
          simp [Instr.makeMap, h1, run_und E ht, hd, asInt, asIntOf, New.val, New.obj]
        · cases h
      · cases h
  | makeSlice t l c =>
    simp only [allocQ] at h
    split at h
    · rename_i i k1 x k2 y ht hl hc
      split at h
      · rename_i e hd
        split at h
        · rename_i j he
          split at h
          · rename_i hxy
            obtain ⟨q1, q2, q3, q4⟩ := hxy
            simp only [Option.some.injEq] at h
            subst h
            obtain ⟨h1, _⟩ := opd_sound hF hl
            obtain ⟨h2, _⟩ := opd_sound hF hc
            have hyc : y.toNat < half := by unfold half; omega
            refine ⟨⟨repl_sc (zero_scs E he _) _, hyc⟩, fun w => ?_⟩
            simp only [execOp]
            refine run_v' ?_
            have wx : IntKind.i64.wrap x = x := IntWalk.i64_in _ (by omega)
            have wy : IntKind.i64.wrap y = y := IntWalk.i64_in _ (by omega)
            obtain ⟨info, hi1, _, hi3, _⟩ := run_info E he w
            have hcond : ((decide (y < 0) || decide ((info.bytes : Int) * y > 2 ^ 48) || decide (x < 0) || decide (x > y)) = true) = False := by
              rw [hi3]; simp; omega
            rw [h1, h2, ren_int, ren_int]
            simp only [New.obj, New.val, repl_ren E he]
            unfold Instr.makeSlice
            simp only [Sem.run_bind, run_und E ht, hd, Result.andThen_ok, asInt, asIntOf, Sem.run_pure, hi1, wx, wy, hcond, if_false, run_askRoom, run_sz E he]
            by_cases h0 : y.toNat * j.size = 0
            · simp only [if_pos h0, Sem.run_bind, Sem.run_pure, Result.andThen_ok, zeros_nil E he _ h0, newRow, run_newObj]
              rfl
            · simp only [if_neg h0, Sem.run_bind, run_zero E he, Sem.run_pure, Result.andThen_ok, zeros_arr E he _ h0, newRow, run_newObj]
              rfl
          · cases h
        · cases h
      · cases h
    · cases h
  | _ => simp [allocQ] at h
end

/-! ### Blocks of the world that nothing knows of yet -/

theorem Evo.more {ρ : Nat → Loc} {σ : St} {w : World} (h : Rel ρ σ w) (o : Obj) : Evo ρ σ w ρ σ (w.alloc o) := by
  have hs : (w.alloc o).heap.size = w.heap.size + 1 := by simp
  have hh : ∀ j, j < w.heap.size → (w.alloc o).heap[j]? = w.heap[j]? := fun j hj => Go.RowKit.Below.heap_alloc w o j hj
  exact ⟨⟨fun i => (h.blk i).same (fun hl => hh _ (h.size hl)) (by omega), h.sc, h.lt, h.inj⟩, fun _ _ => rfl, Nat.le_refl _, by omega, rfl, rfl, rfl, fun i hi => .inl ⟨i, hi, rfl⟩, fun b hb _ => hh b hb, fun i hi => .inl ⟨i, hi, rfl⟩⟩

/-- A block of the world that nothing knew of is known from here on. -/
theorem Evo.adopt {ρ₀ ρ : Nat → Loc} {σ₀ σ : St} {w₀ w : World} (h : Evo ρ₀ σ₀ w₀ ρ σ w) {N : New} {b : Nat} (hN : N.sc σ₀.next) (hb : w.heap[b]? = some (N.obj ρ₀)) (hlo : w₀.heap.size ≤ b) (hno : ∀ j, (σ.get j).live = true → (ρ j).b ≠ b) :
    Evo ρ₀ σ₀ w₀ (upd ρ σ.next ⟨b, 0, 0⟩) (σ.push N.blk) w := by
  have hR := h.rel
  have hN' : N.sc σ.next := New.sc_mono hN h.next
  have hobj : w.heap[b]? = some (N.obj (upd ρ σ.next ⟨b, 0, 0⟩)) := by
    rw [hb]; congr 1
    exact New.obj_congr hN fun i hi => by rw [upd_lt _ _ (Nat.lt_of_lt_of_le hi h.next), h.ext i hi]
  have hold : ∀ i, i ≠ σ.next → BlkRel (upd ρ σ.next ⟨b, 0, 0⟩) (upd ρ σ.next ⟨b, 0, 0⟩ i) w (σ.get i) := fun i hi => by
    rw [upd_ne _ _ hi]
    exact (hR.blk i).reno (hR.sc i) (fun j hj => (upd_lt ρ _ hj).symm)
  refine ⟨⟨fun i => ?_, fun i => ?_, fun i hi => ?_, fun i j hij hi hj => ?_⟩, fun i hi => ?_, by simp; exact Nat.le_succ_of_le h.next, h.size, h.os, h.tape, h.output, fun i hi => ?_, h.fra, fun i hi => ?_⟩
  · rw [St.get_push]
    split
    · rename_i e; subst e
      rw [upd_same]
      exact New.blkRel N hobj
    · rename_i e; exact hold i (Ne.symm e)
  · rw [St.get_push]
    split
    · exact Blk.sc_mono (New.blk_sc hN') (by simp)
    · exact Blk.sc_mono (hR.sc i) (by simp)
  · rw [St.get_push] at hi
    split at hi
    · rename_i e; rw [St.next_push]; omega
    · have := hR.lt i hi; rw [St.next_push]; omega
  · rw [St.get_push] at hi hj
    split at hi
    · rename_i e; subst e
      rw [if_neg hij] at hj
      rw [upd_same, upd_ne _ _ (Ne.symm hij)]
      exact (hno j hj).symm
    · rename_i e
      split at hj
      · rename_i e'; subst e'
        rw [upd_same, upd_ne _ _ hij]
        exact hno i (Blk.live_of_wr hi)
      · rename_i e'
        rw [upd_ne _ _ (Ne.symm e), upd_ne _ _ (Ne.symm e')]
        exact hR.inj i j hij hi hj
  · rw [upd_lt _ _ (Nat.lt_of_lt_of_le hi h.next)]; exact h.ext i hi
  · rw [St.get_push] at hi
    split at hi
    · rename_i e; subst e; rw [upd_same]; exact .inr hlo
    · rename_i e; rw [upd_ne _ _ (Ne.symm e)]; exact h.own i hi
  · rw [St.get_push] at hi
    split at hi
    · rename_i e; subst e; rw [upd_same]; exact .inr hlo
    · rename_i e; rw [upd_ne _ _ (Ne.symm e)]; exact h.liv i hi

end
end AH
end

section
/-
  AH L: operations of a region, in any order; what is to hold of the world may hang on what has come up.
-/
set_option linter.unusedSimpArgs false
set_option linter.unusedVariables false
set_option linter.unusedSectionVars false
namespace AH
open Go
noncomputable section

section
variable {P : Program} {ops : Array Oper} {md : Region.Mode} {Q Q' : Exit → Act → World → Prop} {S S' : Array Bool → World → Prop}

theorem wpOp_monoQ {Q Q' : Exit → Act → World → Prop} (hQ : ∀ e a w, Q e a w → Q' e a w) {i : Nat} {K K' : Act → World → Prop} (hK : ∀ a w, K a w → K' a w) {a : Act} {w : World} (h : wpOp P ops Q i K a w) : wpOp P ops Q' i K' a w := by
  unfold wpOp at *
  split
  · rename_i ho; simp only [ho] at h; exact hK _ _ h
  · rename_i o ho
    simp only [ho] at h
    split
    · rename_i hw
      simp only [hw, if_true] at h
      rcases h with h | ⟨h1, a₀, w₀, h2⟩
      · refine .inl ?_
        unfold Oper.wp at *
        generalize (execOp a.eval o).run P w = res at *
        cases res with
        | ok n w' =>
          cases n <;> simp only [Oper.upon] at h ⊢ <;>
            first
              | exact hK _ _ h
              | exact Calls.mono h (fun e w'' he => by
                  cases e
                  · exact hK _ _ he
                  · exact hQ _ _ _ he
                  · obtain ⟨a₁, w₁, h1⟩ := he; exact ⟨a₁, w₁, hQ _ _ _ h1⟩)
              | exact Rows.mono h (fun _ _ he => hK _ _ he)
        | halt x w' =>
          cases x <;> simp only [Oper.upon] at h ⊢ <;> first | exact hQ _ _ _ h | exact h
      · exact .inr ⟨h1, a₀, w₀, hQ _ _ _ h2⟩
    · rename_i hw
      simp only [hw] at h
      exact hK _ _ h

/-- Whatever order is picked from here on; and S holds behind every operation that is carried out. -/
def wpAnyL (P : Program) (md : Region.Mode) (ops : Array Oper) (Q : Exit → Act → World → Prop) (S : Array Bool → World → Prop) : Nat → Array Bool → Act → World → Prop
  | 0, listed, a, w => Region.ready md ops listed = [] ∧ Q .normal a w
  | fuel + 1, listed, a, w =>
    (Region.ready md ops listed = [] → Q .normal a w) ∧
    ∀ i ∈ Region.ready md ops listed, wpOp P ops Q i (fun a' w' => S (listed.setIfInBounds i true) w' ∧ wpAnyL P md ops Q S fuel (listed.setIfInBounds i true) a' w') a w

theorem wpAny_of_L : ∀ (fuel : Nat) (listed : Array Bool) (a : Act) (w : World), wpAnyL P md ops Q S fuel listed a w → wpAny P md ops Q fuel listed a w
  | 0, _, _, _, h => h
  | fuel + 1, _, _, _, h => ⟨h.1, fun i hi => wpOp_mono (fun a' w' h' => wpAny_of_L fuel _ a' w' h'.2) (h.2 i hi)⟩

theorem wpAnyL_mono (hQ : ∀ e a w, Q e a w → Q' e a w) : ∀ (fuel : Nat) (listed : Array Bool) (a : Act) (w : World), (∀ (l : Array Bool) w, (∀ k, listed.getD k false = true → l.getD k false = true) → S l w → S' l w) → wpAnyL P md ops Q S fuel listed a w → wpAnyL P md ops Q' S' fuel listed a w
  | 0, listed, a, w, hS, h => ⟨h.1, hQ _ _ _ h.2⟩
  | fuel + 1, listed, a, w, hS, h => ⟨fun h0 => hQ _ _ _ (h.1 h0), fun i hi => wpOp_monoQ hQ (fun a' w' ⟨h1, h2⟩ => ⟨hS _ _ (fun k hk => getD_set_true hk) h1, wpAnyL_mono hQ fuel _ a' w' (fun l w hl => hS l w fun k hk => hl k (getD_set_true hk)) h2⟩) (h.2 i hi)⟩

theorem wpAnyL_first {T : World → Prop} {i : Nat} {oi : Oper} {v : Value} (hi : ops[i]? = some oi) (hsel : ∀ (j : Nat) (o : Oper) cs b, ops[j]? = some o → o.op ≠ .select cs b)
    (hQ : ∀ c a w, Q (.panic c) (a.put oi.dst v) w → Q (.panic c) a w)
    (hdown : ∀ (l : Array Bool) w, S (l.setIfInBounds i true) w → S l w)
    (hT : ∀ (l : Array Bool) w, l.getD i true = false → (∀ j oj, ops[j]? = some oj → l.getD j false = true → ∀ e ∈ oj.after, Region.binds md e = true → e.on ≠ i) → S (l.setIfInBounds i true) w → T w) :
    ∀ (fuel : Nat) (listed : Array Bool) (a : Act) (w : World),
      (∀ j oj, ops[j]? = some oj → j ≠ i → listed.getD j true = false → (∀ e ∈ oj.after, Region.binds md e = true → e.on ≠ i) → oi.apart ops oj = true) →
      (∀ j oj, ops[j]? = some oj → listed.getD j false = true → ∀ e ∈ oj.after, Region.binds md e = true → e.on ≠ i) →
      i ∈ Region.ready md ops listed → YieldsIf P ops T oi v a → S (listed.setIfInBounds i true) w →
      wpAnyL P md ops Q S fuel (listed.setIfInBounds i true) (a.put oi.dst v) w → wpAnyL P md ops Q S (fuel + 1) listed a w := by
  intro fuel
  induction fuel with
  | zero =>
    intro listed a w _ hcl hr hy hS H
    refine ⟨fun h => (by rw [h] at hr; cases hr), fun j hj => ?_⟩
    by_cases hji : j = i
    · subst hji; exact hy.wpOp hi (hT _ _ (mem_ready.1 hr).1 hcl hS) ⟨hS, H⟩
    · have := ready_mono hj hji
      rw [H.1] at this
      cases this
  | succ fuel ih =>
    intro listed a w hfree hcl hr hy hS H
    refine ⟨fun h => (by rw [h] at hr; cases hr), fun j hj => ?_⟩
    by_cases hji : j = i
    · subst hji; exact hy.wpOp hi (hT _ _ (mem_ready.1 hr).1 hcl hS) ⟨hS, H⟩
    · have h1 := H.2 j (ready_mono hj hji)
      obtain ⟨hjun, oj, hoj, hall⟩ := mem_ready.1 hj
      have hnot : ∀ e ∈ oj.after, Region.binds md e = true → e.on ≠ i := fun e he hb heq => by
        have h1 := hall e he hb
        have h0 := (mem_ready.1 hr).1
        rw [heq] at h1
        rcases Nat.lt_or_ge i listed.size with h' | h'
        · simp [h'] at h0 h1; rw [h0] at h1; cases h1
        · simp [Array.getElem?_eq_none h'] at h1
      have h2 := wpOp_putIf hoj (hfree j oj hoj hji hjun hnot) (fun cs b => hsel i oi cs b hi) (fun cs b => hsel j oj cs b hoj) hQ hy h1
      have hfree' : ∀ k ok, ops[k]? = some ok → k ≠ i → (listed.setIfInBounds j true).getD k true = false →
          (∀ e ∈ ok.after, Region.binds md e = true → e.on ≠ i) → oi.apart ops ok = true := fun k ok hk hki hun hno => by
        refine hfree k ok hk hki ?_ hno
        by_cases hjk : j = k
        · subst hjk; exact hjun
        · rw [getD_set_ne true hjk] at hun; exact hun
      have hcl' : ∀ k ok, ops[k]? = some ok → (listed.setIfInBounds j true).getD k false = true → ∀ e ∈ ok.after, Region.binds md e = true → e.on ≠ i := fun k ok hk hl => by
        by_cases hjk : j = k
        · subst hjk; rw [hoj] at hk; cases hk; exact hnot
        · rw [getD_set_ne false hjk] at hl; exact hcl k ok hk hl
      refine wpOp_mono (fun a' w' h3 => ?_) h2
      have hcm := Array.setIfInBounds_comm true true (xs := listed) hji
      obtain ⟨h4, h5, h6⟩ := h3
      rw [← hcm] at h5 h6
      exact ⟨hdown _ _ h5, ih (listed.setIfInBounds j true) a' w' hfree' hcl' (ready_mono hr (Ne.symm hji)) h4 h5 h6⟩

theorem wpAnyL_all {rs : List Nat} {fuel : Nat} {listed : Array Bool} {a : Act} {w : World} (hr : Region.ready md ops listed = rs) (hne : rs ≠ [])
    (h : ∀ i ∈ rs, wpOp P ops Q i (fun a' w' => S (listed.setIfInBounds i true) w' ∧ wpAnyL P md ops Q S fuel (listed.setIfInBounds i true) a' w') a w) : wpAnyL P md ops Q S (fuel + 1) listed a w :=
  ⟨fun h0 => absurd (hr ▸ h0) hne, hr ▸ h⟩

theorem wpAnyL_done {listed : Array Bool} {a : Act} {w : World} (hr : Region.ready md ops listed = []) (h : Q .normal a w) :
    ∀ fuel, wpAnyL P md ops Q S fuel listed a w
  | 0 => ⟨hr, h⟩
  | _ + 1 => ⟨fun _ => h, by rw [hr]; simp⟩

theorem wp_region_L {id : Nat} {a : Act} {w : World} (hm : P.follows .mixedOrders = true)
    (h : wpAnyL P .any ops Q S ops.size (Array.replicate ops.size false) a { w with drawn := w.drawn + 1 }) : (Code.region id ops true).wp P Q a w :=
  wp_region_any hm (wpAny_of_L _ _ _ _ h)

end

/-- Does j wait for i? -/
def waitsB (ops : Array Oper) (j i : Nat) : Bool := match ops[j]? with
  | some o => o.after.toList.any fun e => Region.binds .any e && e.on == i
  | none => false

theorem waitsB_false {ops : Array Oper} {i j : Nat} (h : waitsB ops j i = false) {o : Oper} (ho : ops[j]? = some o) : ∀ e ∈ o.after, Region.binds .any e = true → e.on ≠ i := by
  intro e he hb heq
  simp only [waitsB, ho, List.any_eq_false, Bool.and_eq_true, beq_iff_eq, not_and] at h
  exact h e (Array.mem_toList_iff.2 he) hb heq

theorem waitsB_true {ops : Array Oper} {i j : Nat} (h : waitsB ops j i = true) : ∃ o, ops[j]? = some o ∧ ∃ e ∈ o.after, Region.binds .any e = true ∧ e.on = i := by
  unfold waitsB at h
  split at h
  · rename_i o ho
    obtain ⟨e, he, hb⟩ := List.any_eq_true.1 h
    simp only [Bool.and_eq_true, beq_iff_eq] at hb
    exact ⟨o, ho, e, Array.mem_toList_iff.1 he, hb.1, hb.2⟩
  · cases h

end
end AH
end

section
/-
  AH 20: a region whose order is open: by a plan that the region's edges bear out.
-/
set_option linter.unusedSimpArgs false
set_option linter.unusedVariables false
set_option linter.unusedSectionVars false
namespace AH
open Go
noncomputable section

theorem Sc_renE {n : Nat} {ρ ρ' : Nat → Loc} {es : List MapEntry} (h : ∀ e ∈ es, Sc n e.key ∧ Sc n e.val) (he : ∀ i, i < n → ρ i = ρ' i) : es.map (renE ρ) = es.map (renE ρ') :=
  List.map_congr_left fun e hm => renE_congr (h e hm) he

theorem Hold.at_ext {ρ ρ' : Nat → Loc} {σ : St} {w w₂ : World} (hR : Rel ρ σ w) (he : ∀ i, i < σ.next → ρ' i = ρ i) {h : Hold} (hi : h.in σ) (ha : h.at ρ' w₂) : h.at ρ w₂ := by
  cases h with
  | cell b off v =>
    obtain ⟨cs, h1, h2⟩ := hi
    have hb : b < σ.next := hR.lt b (by
      cases hg : σ.get b with
      | ro l =>
        rw [hg] at h1
        simp only [Blk.known, Option.some.injEq] at h1
        subst h1
        cases l with
        | nil => simp at h2
        | cons c cs => rfl
      | _ => first | rfl | (rw [hg] at h1; simp [Blk.known] at h1))
    have hv := known_sc hR h1 v (List.mem_of_getElem? h2)
    simp only [Hold.at] at ha ⊢
    rw [← he b hb, hv ρ ρ' (fun i hi => (he i hi).symm)]
    exact ha
  | map b es c =>
    simp only [Hold.in] at hi
    have hb : b < σ.next := hR.lt b (by rw [hi]; rfl)
    have hs : ∀ e ∈ es, Sc σ.next e.key ∧ Sc σ.next e.val := by have := hR.sc b; rw [hi] at this; exact this
    simp only [Hold.at] at ha ⊢
    rw [← he b hb, Sc_renE hs (fun i hi => (he i hi).symm)]
    exact ha

/-- A plan: which operation comes next: q: it is quiet, and may be taken first (behind it: some that wait for it, and turn memory); e: it alone may come up; g: it, and some that only make memory, come up in any order. -/
inductive Ent0 where
  | q (i : Nat) (js : List Nat)
  | e (i : Nat)

/-- As above; p: while some that only make memory may come up, the others come up one behind the other. -/
inductive Ent where
  | q (i : Nat) (js : List Nat)
  | e (i : Nat)
  | g (i : Nat) (A : List Nat)
  | p (A : List Nat) (sub : List Ent0)

/-- Whatever comes up is one of those that are to be done, until all are. -/
def chk (ops : Array Oper) (fin : Array Bool) : Nat → Array Bool → List Nat → Bool
  | _, listed, [] => listed == fin
  | 0, _, _ :: _ => false
  | n + 1, listed, x :: r =>
    let rs := Region.ready .any ops listed
    !rs.isEmpty && rs.all (fun j => (x :: r).contains j && chk ops fin n (listed.setIfInBounds j true) ((x :: r).erase j))

def finOf (listed : Array Bool) : List Nat → Array Bool
  | [] => listed
  | x :: r => finOf (listed.setIfInBounds x true) r

/-- What has come up does not wait for i. -/
def closedB (ops : Array Oper) (listed : Array Bool) (i : Nat) : Bool := (List.range ops.size).all fun j => !listed.getD j false || !waitsB ops j i

/-- What the edges say of operations that come up one behind the other (l0: what has come up, those that wait left out), while those of A may come up at any time. -/
def planP (ops : Array Oper) (A : List Nat) (fin : Nat → Array Bool → Bool) : Nat → Array Bool → List Ent0 → Bool
  | n, l0, [] => A.all (fun x => Region.ready .any ops ((finOf l0 A).setIfInBounds x false) == [x]) && fin n (finOf l0 A)
  | n, l0, .q i js :: s => Nat.blt 0 n && !A.contains i && Region.free .any ops l0 i && (Region.ready .any ops l0).contains i && closedB ops (finOf l0 A) i && js.all (fun j => waitsB ops j i && j != i) && planP ops A fin (n - 1) (l0.setIfInBounds i true) s
  | n, l0, .e i :: s => Nat.blt 0 n && !A.contains i && (Region.ready .any ops l0).contains i && (Region.ready .any ops (finOf l0 A) == [i]) && planP ops A fin (n - 1) (l0.setIfInBounds i true) s

def planOk (ops : Array Oper) : Nat → Array Bool → List Ent → Bool
  | _, listed, [] => (Region.ready .any ops listed).isEmpty
  | n, listed, .q i js :: r => Nat.blt 0 n && Region.free .any ops listed i && (Region.ready .any ops listed).contains i && closedB ops listed i && js.all (fun j => waitsB ops j i && j != i) && planOk ops (n - 1) (listed.setIfInBounds i true) r
  | n, listed, .e i :: r => Nat.blt 0 n && (Region.ready .any ops listed) == [i] && planOk ops (n - 1) (listed.setIfInBounds i true) r
  | n, listed, .g i A :: r => Nat.ble (A.length + 1) n && chk ops (finOf listed (i :: A)) (A.length + 1) listed (i :: A) && planOk ops (n - (A.length + 1)) (finOf listed (i :: A)) r
  | n, listed, .p A sub :: r => Nat.ble A.length n && A.all (fun x => (Region.ready .any ops listed).contains x) && planP ops A (fun n l => planOk ops n l r) (n - A.length) listed sub

/-- All that the edges say of a plan, asked once. -/
def planGood (nt : Nat) (ops : Array Oper) (plan : List Ent) : Bool :=
  Region.noSelect ops && ops.toList.all (dstOk nt) && planOk ops ops.size (Array.replicate ops.size false) plan

/-- What is to hold until one of these has come up. -/
abbrev HE := List Nat × Hold

def HS (ρ : Nat → Loc) (H : List HE) (listed : Array Bool) (w : World) : Prop := ∀ x ∈ H, (∀ j ∈ x.1, listed.getD j false = false) → x.2.at ρ w

/-- What is still to hold when i has come up. -/
def rls (i : Nat) (H : List HE) : List HE := H.filter fun x => !x.1.contains i

def DP (M : EnvM) (nt : Nat) (ops : Array Oper) (plan : List Ent) (H : List HE) (f : Fr) (σ : St) (K : Fr → St → Prop) : Prop :=
  ∀ fuel listed, planOk ops fuel listed plan = true → Region.noSelect ops = true → (∀ o ∈ ops.toList, dstOk nt o = true) → ∀ ρ w a, Rel ρ σ w → FrRel ρ f σ.next a → a.tmps.size = nt → (∀ h ∈ H, h.2.in σ) →
    wpAnyL M.P .any ops (fun e a' w' => e = .normal ∧ After nt ρ σ w K a' w') (HS ρ H) fuel listed a w

theorem getD_set_self {listed : Array Bool} {i : Nat} (h : listed.getD i true = false) : (listed.setIfInBounds i true).getD i false = true := by
  have hlt : i < listed.size := by
    rcases Nat.lt_or_ge i listed.size with h' | h'
    · exact h'
    · simp [Array.getElem?_eq_none h'] at h
  simp [hlt]

theorem HS.of_in {ρ : Nat → Loc} {σ : St} {w : World} (hR : Rel ρ σ w) {H : List HE} (hH : ∀ h ∈ H, h.2.in σ) (l : Array Bool) : HS ρ H l w := fun x hx _ => Hold.at_of_in hR (hH x hx)

section
variable {M : EnvM} {nt : Nat} {ops : Array Oper} {i : Nat} {o : Oper} {r : List Ent} {H : List HE} {f : Fr} {σ : St} {K : Fr → St → Prop}

theorem DP.nil (h : K f σ) : DP M nt ops [] H f σ K := by
  intro fuel listed hp _ _ ρ w a hR hF hn hH
  have hr : Region.ready .any ops listed = [] := by simpa [planOk] using hp
  exact wpAnyL_done hr ⟨rfl, ρ, σ, f, Evo.refl hR, hF, hn, h⟩ fuel

theorem mem_ops (hop : ops[i]? = some o) : o ∈ ops.toList := Array.mem_toList_iff.2 (Array.mem_of_getElem? hop)

/-- An operation that yields v in every world in which H' holds, taken first. -/
theorem DP.takeQ {js : List Nat} {v : Value} {H' : List Hold} (hop : ops[i]? = some o) (hy : ∀ ρ w₀ a, Rel ρ σ w₀ → FrRel ρ f σ.next a → YieldsIf M.P ops (fun w => ∀ x ∈ H', x.at ρ w) o (ren ρ v) a) (hH' : ∀ x ∈ H', x.in σ) (hs : ∀ ρ w a, Rel ρ σ w → FrRel ρ f σ.next a → Sc σ.next v)
    (hi : ∀ x ∈ H, x.1.contains i = false) (h : DP M nt ops r (H'.map (fun x => (js, x)) ++ H) (putF f o.dst v) σ K) : DP M nt ops (.q i js :: r) H f σ K := by
  intro fuel listed hp hsel hd ρ w a hR hF hn hH
  have hin : ∀ x ∈ H'.map (fun x => (js, x)) ++ H, x.2.in σ := fun x hx => by
    rcases List.mem_append.1 hx with hx | hx
    · obtain ⟨y, hy, rfl⟩ := List.mem_map.1 hx; exact hH' y hy
    · exact hH x hx
  simp only [planOk, Bool.and_eq_true, Nat.blt_eq] at hp
  obtain ⟨⟨⟨⟨⟨hn0, hp0⟩, hp1⟩, hcl⟩, hjs⟩, hp2⟩ := hp
  obtain ⟨n, rfl⟩ : ∃ n, fuel = n + 1 := ⟨fuel - 1, by omega⟩
  have hF' := hF.put (dst_lt hn (hd o (mem_ops hop))) (hs ρ w a hR hF)
  have hk := h n _ hp2 hsel hd ρ w _ hR hF' (by rw [put_size]; exact hn) hin
  have hjs' : ∀ j ∈ js, waitsB ops j i = true ∧ j ≠ i := fun j hj => by
    have := List.all_eq_true.1 hjs j hj
    simpa using this
  refine wpAnyL_mono (S := HS ρ (H'.map (fun x => (js, x)) ++ H)) (fun _ _ _ h => h) _ _ _ _ (fun l w' _ hw' x hx => hw' x (List.mem_append.2 (.inr hx))) ?_
  have hdown : ∀ (l : Array Bool) w', HS ρ (H'.map (fun x => (js, x)) ++ H) (l.setIfInBounds i true) w' → HS ρ (H'.map (fun x => (js, x)) ++ H) l w' := fun l w' hw' x hx hno => hw' x hx fun j hj => by
    have hji : i ≠ j := by
      rcases List.mem_append.1 hx with hx | hx
      · obtain ⟨y, _, rfl⟩ := List.mem_map.1 hx
        exact (hjs' j hj).2.symm
      · intro e; subst e
        have := hi x hx
        rw [List.contains_iff_mem.2 hj] at this; cases this
    rw [getD_set_ne false hji]; exact hno j hj
  have hT : ∀ (l : Array Bool) w', l.getD i true = false → (∀ j oj, ops[j]? = some oj → l.getD j false = true → ∀ e ∈ oj.after, Region.binds .any e = true → e.on ≠ i) → HS ρ (H'.map (fun x => (js, x)) ++ H) (l.setIfInBounds i true) w' → ∀ x ∈ H', x.at ρ w' := fun l w' hl hcl' hw' x hx => by
    refine hw' (js, x) (List.mem_append.2 (.inl (List.mem_map.2 ⟨x, hx, rfl⟩))) fun j hj => ?_
    obtain ⟨h1, h2⟩ := hjs' j hj
    rw [getD_set_ne false h2.symm]
    obtain ⟨oj, hoj, e, he, hb, heq⟩ := waitsB_true h1
    cases hlj : l.getD j false with
    | false => rfl
    | true => exact absurd heq (hcl' j oj hoj hlj e he hb)
  have hcl0 : ∀ j oj, ops[j]? = some oj → listed.getD j false = true → ∀ e ∈ oj.after, Region.binds .any e = true → e.on ≠ i := fun j oj hj hl => by
    have hjlt : j < ops.size := (Array.getElem?_eq_some_iff.1 hj).1
    have := List.all_eq_true.1 hcl j (List.mem_range.2 hjlt)
    simp only [hl, Bool.not_true, Bool.false_or, Bool.not_eq_true'] at this
    exact waitsB_false this hj
  exact wpAnyL_first (T := fun w => ∀ x ∈ H', x.at ρ w) hop (Region.noSelect_spec hsel) (fun c a₂ w₂ hq => by simp at hq) hdown hT n listed a w
    (Region.free_spec hop hp0) hcl0 (by simpa using hp1) (hy ρ w a hR hF) (HS.of_in hR hin _) hk

/-- An operation that alone may come up. -/
theorem DP.alone (hop : ops[i]? = some o)
    (h : ∀ n listed, planOk ops n listed r = true → Region.noSelect ops = true → (∀ o ∈ ops.toList, dstOk nt o = true) → listed.getD i false = true → ∀ ρ w a, Rel ρ σ w → FrRel ρ f σ.next a → a.tmps.size = nt → (∀ h ∈ H, h.2.in σ) →
      wpOp M.P ops (fun e a' w' => e = .normal ∧ After nt ρ σ w K a' w') i (fun a' w' => HS ρ H listed w' ∧ wpAnyL M.P .any ops (fun e a' w' => e = .normal ∧ After nt ρ σ w K a' w') (HS ρ H) n listed a' w') a w) :
    DP M nt ops (.e i :: r) H f σ K := by
  intro fuel listed hp hsel hd ρ w a hR hF hn hH
  simp only [planOk, Bool.and_eq_true, Nat.blt_eq, beq_iff_eq] at hp
  obtain ⟨⟨hn0, hp1⟩, hp2⟩ := hp
  obtain ⟨n, rfl⟩ : ∃ n, fuel = n + 1 := ⟨fuel - 1, by omega⟩
  have hmem : i ∈ Region.ready .any ops listed := by rw [hp1]; simp
  refine wpAnyL_all hp1 (by simp) fun j hj => ?_
  simp only [List.mem_singleton] at hj
  subst hj
  exact h n _ hp2 hsel hd (getD_set_self (mem_ready.1 hmem).1) ρ w a hR hF hn hH

theorem DP.takeE {v : Value} {H' : List Hold} (hop : ops[i]? = some o) (hy : ∀ ρ w₀ a, Rel ρ σ w₀ → FrRel ρ f σ.next a → YieldsIf M.P ops (fun w => ∀ x ∈ H', x.at ρ w) o (ren ρ v) a) (hH' : ∀ x ∈ H', x.in σ) (hs : ∀ ρ w a, Rel ρ σ w → FrRel ρ f σ.next a → Sc σ.next v)
    (h : DP M nt ops r H (putF f o.dst v) σ K) : DP M nt ops (.e i :: r) H f σ K := by
  refine DP.alone hop fun n listed hp hsel hd hl ρ w a hR hF hn hH => ?_
  have hF' := hF.put (dst_lt hn (hd o (mem_ops hop))) (hs ρ w a hR hF)
  exact (hy ρ w a hR hF).wpOp hop (fun x hx => Hold.at_of_in hR (hH' x hx)) ⟨HS.of_in hR hH _, h n _ hp hsel hd ρ w _ hR hF' (by rw [put_size]; exact hn) hH⟩

theorem yields_skip (hw : wantedA ops f o = some false) (ρ : Nat → Loc) (w₀ : World) (a : Act) (hR : Rel ρ σ w₀) (hF : FrRel ρ f σ.next a) : YieldsIf M.P ops (fun w => ∀ x ∈ ([] : List Hold), x.at ρ w) o (ren ρ undef) a := .inr ⟨wantedA_sound hF hw, by simp⟩

theorem yields_quiet {v : Value} (hw : wantedA ops f o = some true) (hq : opQ M.toEnv f σ o.op = some v) (ρ : Nat → Loc) (w₀ : World) (a : Act) (hR : Rel ρ σ w₀) (hF : FrRel ρ f σ.next a) : YieldsIf M.P ops (fun w => ∀ x ∈ opHolds M.toEnv f σ o.op, x.at ρ w) o (ren ρ v) a :=
  .inl ⟨wantedA_sound hF hw, fun w hw' => (opQ_sound M.toEnv hR hF o hq w hw').1⟩

theorem sc_quiet {v : Value} (hq : opQ M.toEnv f σ o.op = some v) (ρ : Nat → Loc) (w : World) (a : Act) (hR : Rel ρ σ w) (hF : FrRel ρ f σ.next a) : Sc σ.next v := (opQ_sound M.toEnv hR hF o hq w (fun x hx => Hold.at_of_in hR (opHolds_in M.toEnv x hx))).2

theorem DP.skip {js : List Nat} (hop : ops[i]? = some o) (hw : wantedA ops f o = some false) (hi : ∀ x ∈ H, x.1.contains i = false) (h : DP M nt ops r H (putF f o.dst undef) σ K) : DP M nt ops (.q i js :: r) H f σ K :=
  DP.takeQ (H' := []) hop (yields_skip hw) (by simp) (fun _ _ _ _ _ => Sc_undef _) hi h

theorem DP.skipE (hop : ops[i]? = some o) (hw : wantedA ops f o = some false) (h : DP M nt ops r H (putF f o.dst undef) σ K) : DP M nt ops (.e i :: r) H f σ K :=
  DP.takeE (H' := []) hop (yields_skip hw) (by simp) (fun _ _ _ _ _ => Sc_undef _) h

theorem DP.quiet {js : List Nat} {v : Value} (hop : ops[i]? = some o) (hw : wantedA ops f o = some true) (hq : opQ M.toEnv f σ o.op = some v) (hi : ∀ x ∈ H, x.1.contains i = false) (h : DP M nt ops r ((opHolds M.toEnv f σ o.op).map (fun x => (js, x)) ++ H) (putF f o.dst v) σ K) : DP M nt ops (.q i js :: r) H f σ K :=
  DP.takeQ hop (yields_quiet hw hq) (opHolds_in M.toEnv) (sc_quiet hq) hi h

theorem DP.quietE {v : Value} (hop : ops[i]? = some o) (hw : wantedA ops f o = some true) (hq : opQ M.toEnv f σ o.op = some v) (h : DP M nt ops r H (putF f o.dst v) σ K) : DP M nt ops (.e i :: r) H f σ K :=
  DP.takeE hop (yields_quiet hw hq) (opHolds_in M.toEnv) (sc_quiet hq) h

/-- Going on behind a step. -/
theorem HS.of_rls {ρ ρ' : Nat → Loc} {σ : St} {w : World} (hR : Rel ρ σ w) (he : ∀ j, j < σ.next → ρ' j = ρ j) {H : List HE} (hH : ∀ h ∈ H, h.2.in σ) {l : Array Bool} (hl : l.getD i false = true) {w₂ : World} (hw : HS ρ' (rls i H) l w₂) : HS ρ H l w₂ := fun x hx hno => by
  refine Hold.at_ext hR he (hH x hx) (hw x (List.mem_filter.2 ⟨hx, ?_⟩) hno)
  cases hc : x.1.contains i with
  | false => rfl
  | true =>
    have := hno i (List.contains_iff_mem.1 hc)
    rw [hl] at this; cases this

theorem DP.on {ρ ρ' : Nat → Loc} {σ' : St} {w w' : World} {f' : Fr} {n : Nat} {listed : Array Bool} {a' : Act} (hR : Rel ρ σ w) (hev : Evo ρ σ w ρ' σ' w') (hF : FrRel ρ' f' σ'.next a') (hn : a'.tmps.size = nt) (hH : ∀ h ∈ H, h.2.in σ) (hH' : ∀ h ∈ rls i H, h.2.in σ') (hl : listed.getD i false = true)
    (hp : planOk ops n listed r = true) (hsel : Region.noSelect ops = true) (hd : ∀ o ∈ ops.toList, dstOk nt o = true) (h : DP M nt ops r (rls i H) f' σ' K) :
    HS ρ H listed w' ∧ wpAnyL M.P .any ops (fun e a' w' => e = .normal ∧ After nt ρ σ w K a' w') (HS ρ H) n listed a' w' :=
  ⟨HS.of_rls hR hev.ext hH hl (HS.of_in hev.rel hH' _), wpAnyL_mono (fun e a₂ w₂ ⟨he, hk⟩ => ⟨he, After.evo hev hk⟩) _ _ _ _ (fun l w₂ hl' hw => HS.of_rls hR hev.ext hH (hl' i hl) hw) (h n listed hp hsel hd ρ' w' a' hev.rel hF hn hH')⟩

theorem DP.write {res : Option Value} {σ' : St} (hop : ops[i]? = some o) (hw : wantedA ops f o = some true) (hq : opW M.toEnv f σ o.op = some (res, σ')) (hH' : ∀ h ∈ rls i H, h.2.in σ') (h : DP M nt ops r (rls i H) (putF f o.dst (res.getD undef)) σ' K) :
    DP M nt ops (.e i :: r) H f σ K := by
  refine DP.alone hop fun n listed hp hsel hd hl ρ w a hR hF hn hH => ?_
  obtain ⟨w', ρ', h1, h2, h3⟩ := opW_sound M.toEnv hR hF o hq
  unfold wpOp
  simp only [hop, wantedA_sound hF hw, if_true, Oper.wp, h1]
  refine .inl ?_
  have hF' := hF.evo h2.ext h2.next
  cases res with
  | some v =>
    simp only [nxt, Oper.upon]
    exact DP.on hR h2 (hF'.put (dst_lt hn (hd o (mem_ops hop))) (h3 v rfl)) (by rw [put_size]; exact hn) hH hH' hl hp hsel hd h
  | none =>
    simp only [nxt, Oper.upon]
    have := hF'.put (dst_lt hn (hd o (mem_ops hop))) (Sc_undef σ'.next)
    rw [ren_undef] at this
    exact DP.on hR h2 this (by rw [put_size]; exact hn) hH hH' hl hp hsel hd h

theorem DP.call {c : Call} {g : FuncId} {args : List Value} (hop : ops[i]? = some o) (ho : o.op = .call c) (hw : wantedA ops f o = some true) (hc : callQ M f c = some (g, args))
    (h : WF M.toEnv g args σ (fun res σ' => (∀ h ∈ rls i H, h.2.in σ') ∧ DP M nt ops r (rls i H) (putF f o.dst res) σ' K)) : DP M nt ops (.e i :: r) H f σ K := by
  refine DP.alone hop fun n listed hp hsel hd hl ρ w a hR hF hn hH => ?_
  obtain ⟨h1, h2⟩ := callQ_sound M hF hc h.1 o.type w
  have hex : (execOp a.eval o).run M.P w = .ok (.enter g (args.map (ren ρ)).toArray) w := by
    simp only [execOp, ho]; exact h1
  unfold wpOp
  simp only [hop, wantedA_sound hF hw, if_true, Oper.wp, hex, Oper.upon]
  refine .inl ?_
  refine Calls.mono (h.2 ρ w hR h2) fun e w' ⟨v, he, res, σ', ρ', h3, h4, h5, h6, h7⟩ => ?_
  subst he
  subst h3
  exact DP.on hR h4 ((hF.evo h4.ext h4.next).put (dst_lt hn (hd o (mem_ops hop))) h5) (by rw [put_size]; exact hn) hH h6 hl hp hsel hd h7

end

theorem VM.draw {M : EnvM} {K : FuncId} {nt : Nat} {k : List Item} {f : Fr} {σ : St} {R : Value → St → Prop} {id : Nat} {ops : Array Oper} (plan : List Ent) (hp : planGood nt ops plan = true) (h : DP M nt ops plan [] f σ (fun f' σ' => VM M K nt k f' σ' R)) :
    VM M K nt (.code (.region id ops true) :: k) f σ R := by
  intro ρ w a cs hR hF hn
  simp only [planGood, Bool.and_eq_true] at hp
  obtain ⟨⟨hp1, hp2⟩, hp3⟩ := hp
  have hlike := Like.drew w
  have hw := wp_region_L (id := id) (a := a) M.mixed (h ops.size _ hp3 hp1 (List.all_eq_true.1 hp2) ρ { w with drawn := w.drawn + 1 } a (hR.like hlike) hF hn (by simp))
  obtain ⟨e, a', w', ⟨he, ρ', σ', f', h1, h2, h3, h4⟩, harr⟩ := hw (base K) k cs
  subst he
  have hev := (Evo.like hR hlike).trans h1
  exact .of_steps harr ((h4 ρ' w' a' cs hev.rel h2 h3).mono fun v w₂ => Lift.evo hev)

end
end AH
end

section
/-
  AH H: an operation and some that only make memory, that come up in any order.
-/
set_option linter.unusedSimpArgs false
set_option linter.unusedVariables false
set_option linter.unusedSectionVars false
namespace AH
open Go
noncomputable section

def delO (f : Fr) (d : Option Tmp) : Fr := match d with | some t => f.del t | none => f

def dstOf (ops : Array Oper) (x : Nat) : Option Tmp := match ops.toList[x]? with | some o => o.dst | none => none

/-- The frame without what is going to be put. -/
def bare (ops : Array Oper) (f : Fr) : List Nat → Fr
  | [] => f
  | x :: r => bare ops (delO f (dstOf ops x)) r

/-- What is made is known, one behind the other. -/
def adopt (E : Env) (ops : Array Oper) (fe : Fr) : List Nat → Fr → St → Option (Fr × St)
  | [], f, σ => some (f, σ)
  | x :: r, f, σ => match ops.toList[x]? with
    | some o => (match wantedA ops fe o with
      | some true => (match allocQ E fe o.op with
        | some N => adopt E ops fe r (putF f o.dst (N.val σ.next)) (σ.push N.blk)
        | none => none)
      | _ => none)
    | none => none

def grpOk (ops : Array Oper) (G : List Nat) : Bool :=
  G.all fun x => G.all fun y => x == y || (match dstOf ops x, dstOf ops y with | some t, some u => t != u | _, _ => true)

def nodupB : List Nat → Bool
  | [] => true
  | x :: r => !r.contains x && nodupB r

theorem nodupB_spec : ∀ {l : List Nat}, nodupB l = true → l.Nodup
  | [], _ => List.nodup_nil
  | x :: r, h => by
    simp only [nodupB, Bool.and_eq_true, Bool.not_eq_true'] at h
    refine List.nodup_cons.2 ⟨fun hm => ?_, nodupB_spec h.2⟩
    have := List.contains_iff_mem.2 hm
    rw [h.1] at this; cases this

theorem delO_get (f : Fr) (d : Option Tmp) (t : Tmp) : (delO f d).get t = if d = some t then none else f.get t := by
  cases d with
  | none => simp [delO]
  | some u => simp [delO, Fr.get_del]

theorem bare_some {ops : Array Oper} : ∀ {l : List Nat} {f : Fr} {t : Tmp} {v : Value}, (bare ops f l).get t = some v → f.get t = some v
  | [], f, t, v, h => h
  | x :: r, f, t, v, h => by
    have := bare_some (l := r) h
    rw [delO_get] at this
    split at this
    · cases this
    · exact this

theorem bare_none {ops : Array Oper} : ∀ {l : List Nat} {f : Fr} {x : Nat} {t : Tmp}, x ∈ l → dstOf ops x = some t → (bare ops f l).get t = none
  | y :: r, f, x, t, hx, hd => by
    rcases List.mem_cons.1 hx with rfl | hx
    · cases hg : (bare ops f (x :: r)).get t with
      | none => rfl
      | some v =>
        have := bare_some (l := r) (show (bare ops (delO f (dstOf ops x)) r).get t = some v from hg)
        rw [delO_get, hd, if_pos rfl] at this
        cases this
    · exact bare_none (l := r) hx hd

theorem bare_df {ops : Array Oper} : ∀ {l : List Nat} {f : Fr}, (bare ops f l).df = f.df
  | [], f => rfl
  | x :: r, f => by
    have := bare_df (ops := ops) (l := r) (f := delO f (dstOf ops x))
    refine Eq.trans this ?_
    unfold delO; split <;> rfl

theorem FrRel.bare {ρ : Nat → Loc} {f : Fr} {n : Nat} {a : Act} (h : FrRel ρ f n a) (ops : Array Oper) (l : List Nat) : FrRel ρ (bare ops f l) n a :=
  ⟨fun t v hv => h.slot t v (bare_some hv), fun t v hv => h.sc t v (bare_some hv), by rw [bare_df]; exact h.defers, by rw [bare_df]; exact h.dsc⟩

/-- What is put where the frame knows nothing. -/
theorem FrRel.put_out {ρ : Nat → Loc} {f : Fr} {n : Nat} {a : Act} (h : FrRel ρ f n a) {d : Option Tmp} (hd : ∀ t, d = some t → f.get t = none) (v : Value) : FrRel ρ f n (a.put d v) := by
  cases d with
  | none => exact h
  | some t =>
    refine ⟨fun s u hu => ?_, h.sc, h.defers, h.dsc⟩
    have : t ≠ s := fun e => by subst e; rw [hd t rfl] at hu; cases hu
    simp only [Act.put, Array.getElem?_setIfInBounds, if_neg this]
    exact h.slot s u hu

theorem put_get {a : Act} {d : Option Tmp} {v : Value} {t : Tmp} (hd : d ≠ some t) : (a.put d v).tmps[t]? = a.tmps[t]? := by
  cases d with
  | none => rfl
  | some u =>
    have : u ≠ t := fun e => hd (by rw [e])
    simp only [Act.put, Array.getElem?_setIfInBounds, if_neg this]

theorem put_got {a : Act} {t : Tmp} {v : Value} (h : t < a.tmps.size) : (a.put (some t) v).tmps[t]? = some v := by
  simp [Act.put, h]

/-- What the slot holds is known. -/
theorem FrRel.know {ρ : Nat → Loc} {f : Fr} {n : Nat} {a : Act} (h : FrRel ρ f n a) {d : Option Tmp} {v : Value} (hd : ∀ t, d = some t → a.tmps[t]? = some (ren ρ v)) (hv : Sc n v) : FrRel ρ (putF f d v) n a := by
  cases d with
  | none => exact h
  | some t =>
    refine ⟨fun s u hu => ?_, fun s u hu => ?_, h.defers, h.dsc⟩
    · simp only [putF, Fr.get_set] at hu
      split at hu
      · rename_i e; subst e
        simp only [Option.some.injEq] at hu
        subst hu
        exact hd t rfl
      · exact h.slot s u hu
    · simp only [putF, Fr.get_set] at hu
      split at hu
      · simp only [Option.some.injEq] at hu; subst hu; exact hv
      · exact h.sc s u hu

section
variable {M : EnvM} {nt : Nat} {ops : Array Oper} {i : Nat} {A : List Nat} {fe : Fr} {ρ₀ : Nat → Loc} {σ₀ : St} {w₀ : World} {Km : Value → St → Prop}

/-- A block that was made, and that nothing knows of. -/
def Made1 (M : EnvM) (ops : Array Oper) (fe : Fr) (ρ₀ : Nat → Loc) (w₀ : World) (ρ : Nat → Loc) (σ : St) (w : World) (a : Act) (x b : Nat) : Prop :=
  ∃ o N, ops.toList[x]? = some o ∧ allocQ M.toEnv fe o.op = some N ∧ w.heap[b]? = some (N.obj ρ₀) ∧ w₀.heap.size ≤ b ∧ (∀ j, (σ.get j).live = true → (ρ j).b ≠ b) ∧ (∀ t, o.dst = some t → a.tmps[t]? = some (N.val b))

structure Mid (M : EnvM) (nt : Nat) (ops : Array Oper) (i : Nat) (A : List Nat) (fe : Fr) (ρ₀ : Nat → Loc) (σ₀ : St) (w₀ : World) (Km : Value → St → Prop) (B : Nat → Option Nat) (todo : List Nat) (ρ : Nat → Loc) (σ : St) (w : World) (a : Act) : Prop where
  evo : Evo ρ₀ σ₀ w₀ ρ σ w
  fr : FrRel ρ fe σ.next a
  size : a.tmps.size = nt
  nod : todo.Nodup
  sub : ∀ x ∈ todo, x ∈ i :: A
  all : ∀ x ∈ A, x ∈ todo ∨ (B x).isSome = true
  al : ∀ x b, B x = some b → x ∈ A ∧ x ∉ todo ∧ Made1 M ops fe ρ₀ w₀ ρ σ w a x b
  inj : ∀ x y b, B x = some b → B y = some b → x = y
  main : (i ∈ todo ∧ σ = σ₀ ∧ ρ = ρ₀) ∨ (i ∉ todo ∧ ∃ v, (∀ t, dstOf ops i = some t → a.tmps[t]? = some (ren ρ v)) ∧ Sc σ.next v ∧ Km v σ)

theorem grp_ne {G : List Nat} (h : grpOk ops G = true) {x y : Nat} (hx : x ∈ G) (hy : y ∈ G) (hxy : x ≠ y) {t : Tmp} (ht : dstOf ops x = some t) : dstOf ops y ≠ some t := by
  intro hu
  have := List.all_eq_true.1 (List.all_eq_true.1 h x hx) y hy
  simp only [ht, hu, Bool.or_eq_true, beq_iff_eq, bne_iff_ne, ne_eq, not_true_eq_false, or_false] at this
  exact hxy this

theorem getElem?_toList_eq (l : Array Oper) (x : Nat) : l.toList[x]? = l[x]? := by simp

theorem Mid.run {F : Exit → Act → World → Prop} {S : Array Bool → World → Prop} {fin : Array Bool} {n' : Nat}
    (hd : ∀ o ∈ ops.toList, dstOk nt o = true) (hi : i ∉ A) (hg : grpOk ops (i :: A) = true) (hb : ∀ x t, x ∈ i :: A → dstOf ops x = some t → fe.get t = none)
    (hA : ∀ x ∈ A, ∃ o N, ops.toList[x]? = some o ∧ wantedA ops fe o = some true ∧ allocQ M.toEnv fe o.op = some N)
    {a₀ : Act} (hF0 : FrRel ρ₀ fe σ₀.next a₀)
    (hmain : ∀ w a, Rel ρ₀ σ₀ w → FrRel ρ₀ fe σ₀.next a → a.tmps.size = nt → wpOp M.P ops F i (fun a' w' => ∃ ρ' σ' v, a' = a.put (dstOf ops i) (ren ρ' v) ∧ Evo ρ₀ σ₀ w ρ' σ' w' ∧ Sc σ'.next v ∧ Km v σ') a w)
    (hS : ∀ B todo ρ σ w a (l : Array Bool), Mid M nt ops i A fe ρ₀ σ₀ w₀ Km B todo ρ σ w a → (i ∉ todo → l.getD i false = true) → S l w)
    (hend : ∀ B ρ σ w a, Mid M nt ops i A fe ρ₀ σ₀ w₀ Km B [] ρ σ w a → fin.getD i false = true → wpAnyL M.P .any ops F S n' fin a w) :
    ∀ (n : Nat) (todo : List Nat) (listed : Array Bool) (B : Nat → Option Nat) (ρ : Nat → Loc) (σ : St) (w : World) (a : Act), chk ops fin n listed todo = true → Mid M nt ops i A fe ρ₀ σ₀ w₀ Km B todo ρ σ w a → (i ∉ todo → listed.getD i false = true) →
      wpAnyL M.P .any ops F S (n' + todo.length) listed a w := by
  intro n
  induction n with
  | zero =>
    intro todo listed B ρ σ w a hc hm hlst
    cases todo with
    | nil =>
      simp only [chk, beq_iff_eq] at hc
      subst hc
      exact hend B ρ σ w a hm (hlst (by simp))
    | cons x r => simp [chk] at hc
  | succ n ih =>
    intro todo listed B ρ σ w a hc hm hlst
    cases todo with
    | nil =>
      simp only [chk, beq_iff_eq] at hc
      subst hc
      exact hend B ρ σ w a hm (hlst (by simp))
    | cons x₀ r =>
      have hlen : ∀ j ∈ x₀ :: r, n' + (x₀ :: r).length = (n' + ((x₀ :: r).erase j).length) + 1 := fun j hj => by
        rw [List.length_erase_of_mem hj]; simp only [List.length_cons]; omega
      generalize htd : x₀ :: r = todo at *
      have hc' : (!(Region.ready .any ops listed).isEmpty && (Region.ready .any ops listed).all (fun j => todo.contains j && chk ops fin n (listed.setIfInBounds j true) (todo.erase j))) = true := by
        subst htd; exact hc
      simp only [Bool.and_eq_true, Bool.not_eq_true', List.all_eq_true, List.contains_iff_mem] at hc'
      obtain ⟨hne, hall⟩ := hc'
      have hlen' : ∃ m, n' + todo.length = m + 1 := ⟨n' + r.length, by subst htd; simp; omega⟩
      obtain ⟨m, hmm⟩ := hlen'
      rw [hmm]
      refine wpAnyL_all rfl (fun h0 => by rw [h0] at hne; simp at hne) fun j hj => ?_
      obtain ⟨hjt, hck⟩ := hall j hj
      have hm' : m = n' + (todo.erase j).length := by have := hlen j hjt; omega
      rw [hm']
      have hnod' : (todo.erase j).Nodup := hm.nod.erase j
      have hmem : ∀ y, y ∈ todo.erase j ↔ y ≠ j ∧ y ∈ todo := fun y => hm.nod.mem_erase_iff
      have hjG := hm.sub j hjt
      by_cases hji : j = i
      · -- the one that does something
        subst hji
        have hst : σ = σ₀ ∧ ρ = ρ₀ := by
          rcases hm.main with ⟨_, hσ, hρ⟩ | ⟨hno, _⟩
          · exact ⟨hσ, hρ⟩
          · exact absurd hjt hno
        obtain ⟨hσ, hρ⟩ := hst
        subst hσ; subst hρ
        refine wpOp_monoQ (Q := F) (fun _ _ _ h => h) (fun a' w' hh => ?_) (hmain w a hm.evo.rel hm.fr hm.size)
        obtain ⟨ρ', σ', v, ha', hev, hv, hk⟩ := hh
        have hmid : Mid M nt ops j A fe ρ σ w₀ Km B (todo.erase j) ρ' σ' w' a' := by
          refine ⟨hm.evo.trans hev, ?_, ?_, hnod', fun x hx => hm.sub x ((hmem x).1 hx).2, fun x hx => ?_, fun x b hxb => ?_, hm.inj, .inr ⟨fun hh => ((hmem j).1 hh).1 rfl, v, fun t ht => ?_, hv, hk⟩⟩
          · rw [ha']; exact (hm.fr.evo hev.ext hev.next).put_out (fun t ht => hb j t (by simp) ht) _
          · rw [ha', put_size]; exact hm.size
          · rcases hm.all x hx with h | h
            · exact .inl ((hmem x).2 ⟨fun e => hi (e ▸ hx), h⟩)
            · exact .inr h
          · obtain ⟨h1, h2, o, N, h3, h4, h5, h6, h7, h8⟩ := hm.al x b hxb
            refine ⟨h1, fun hh => h2 ((hmem x).1 hh).2, o, N, h3, h4, ?_, h6, fun k hk' hkb => ?_, fun t ht => ?_⟩
            · rw [← h5]
              have hbs : b < w.heap.size := by
                rcases Nat.lt_or_ge b w.heap.size with h | h
                · exact h
                · rw [Array.getElem?_eq_none h] at h5; cases h5
              exact hev.fra b hbs fun k hk' => h7 k (Blk.live_of_wr hk')
            · have hbs : b < w.heap.size := by
                rcases Nat.lt_or_ge b w.heap.size with h | h
                · exact h
                · rw [Array.getElem?_eq_none h] at h5; cases h5
              rcases hev.liv k hk' with ⟨k', hk1, hk2⟩ | hge
              · exact h7 k' hk1 (hk2.trans hkb)
              · omega
            · rw [ha', put_get]
              · exact h8 t ht
              · refine grp_ne hg (x := x) (y := j) (by simp [h1]) (by simp) (fun e => hi (e ▸ h1)) ?_
                simp only [dstOf, h3, ht]
          · subst ha'
            rw [ht, put_got]
            rw [hm.size]
            simp only [dstOf] at ht
            split at ht
            · rename_i o ho
              have := hd o (List.mem_of_getElem? ho)
              simp only [dstOk, ht] at this
              exact Nat.le_of_ble_eq_true this
            · cases ht
        have hls : j ∉ todo.erase j → (listed.setIfInBounds j true).getD j false = true := fun _ => getD_set_self (mem_ready.1 hj).1
        exact ⟨hS _ _ _ _ _ _ _ hmid hls, ih _ _ _ _ _ _ _ hck hmid hls⟩
      · have hjA : j ∈ A := by
          rcases List.mem_cons.1 hjG with h | h
          · exact absurd h hji
          · exact h
        obtain ⟨o, N, ho, hwant, hN⟩ := hA j hjA
        have hscN := (allocQ_sound M.toEnv hm.fr o hN)
        -- with the first numbering
        have hev2 := Evo.more hm.evo.rel (N.obj ρ)
        have hdst : dstOf ops j = o.dst := by simp only [dstOf, ho]
        have hmid : Mid M nt ops i A fe ρ₀ σ₀ w₀ Km (fun y => if y = j then some w.heap.size else B y) (todo.erase j) ρ σ (w.alloc (N.obj ρ)) (a.put o.dst (N.val w.heap.size)) := by
          have hold : ∀ y b, B y = some b → b < w.heap.size := fun y b hyb => by
            obtain ⟨_, _, _, _, _, _, h5, _⟩ := hm.al y b hyb
            rcases Nat.lt_or_ge b w.heap.size with h | h
            · exact h
            · rw [Array.getElem?_eq_none h] at h5; cases h5
          refine ⟨hm.evo.trans hev2, hm.fr.put_out (fun t ht => hb j t hjG (by rw [hdst]; exact ht)) _, by rw [put_size]; exact hm.size, hnod', fun x hx => hm.sub x ((hmem x).1 hx).2, fun x hx => ?_, fun x b hxb => ?_, fun x y b hx hy => ?_, ?_⟩
          · by_cases e : x = j
            · exact .inr (by simp [e])
            · rcases hm.all x hx with h | h
              · exact .inl ((hmem x).2 ⟨e, h⟩)
              · exact .inr (by simp [e, h])
          · by_cases e : x = j
            · subst e
              simp only [if_true, Option.some.injEq] at hxb
              subst hxb
              refine ⟨hjA, fun hh => ((hmem x).1 hh).1 rfl, o, N, ho, hN, ?_, hm.evo.size, fun k hk hkb => ?_, fun t ht => ?_⟩
              · rw [get_new]
                have hfe0 : N.sc σ₀.next := (allocQ_sound M.toEnv hF0 o hN).1
                exact congrArg some (New.obj_congr hfe0 fun k hk => hm.evo.ext k hk)
              · have := hm.evo.rel.size hk; omega
              · rw [ht, put_got]
                rw [hm.size]
                have := hd o (List.mem_of_getElem? ho)
                simp only [dstOk, ht] at this
                exact Nat.le_of_ble_eq_true this
            · simp only [if_neg e] at hxb
              obtain ⟨h1, h2, o', N', h3, h4, h5, h6, h7, h8⟩ := hm.al x b hxb
              refine ⟨h1, fun hh => h2 ((hmem x).1 hh).2, o', N', h3, h4, ?_, h6, h7, fun t ht => ?_⟩
              · rw [Go.RowKit.Below.heap_alloc w _ b (hold x b hxb)]; exact h5
              · rw [put_get]
                · exact h8 t ht
                · rw [← hdst]
                  refine grp_ne hg (x := x) (y := j) (by simp [h1]) hjG e ?_
                  simp only [dstOf, h3, ht]
          · by_cases e : x = j
            · by_cases e' : y = j
              · rw [e, e']
              · simp only [if_pos e, if_neg e', Option.some.injEq] at hx hy
                have := hold y b hy; omega
            · by_cases e' : y = j
              · simp only [if_neg e, if_pos e', Option.some.injEq] at hx hy
                have := hold x b hx; omega
              · simp only [if_neg e, if_neg e'] at hx hy
                exact hm.inj x y b hx hy
          · rcases hm.main with ⟨h1, h2, h3⟩ | ⟨h1, v, h2, h3, h4⟩
            · exact .inl ⟨(hmem i).2 ⟨Ne.symm hji, h1⟩, h2, h3⟩
            · refine .inr ⟨fun hh => h1 ((hmem i).1 hh).2, v, fun t ht => ?_, h3, h4⟩
              rw [put_get]
              · exact h2 t ht
              · rw [← hdst]
                exact grp_ne hg (x := i) (y := j) (by simp) hjG (Ne.symm hji) ht
        unfold wpOp
        have hop : ops[j]? = some o := by rw [← getElem?_toList_eq]; exact ho
        simp only [hop, wantedA_sound hm.fr hwant, if_true, Oper.wp, hscN.2 w, Oper.upon]
        have hls : i ∉ todo.erase j → (listed.setIfInBounds j true).getD i false = true := fun hno => getD_set_true (hlst fun hh => hno ((hmem i).2 ⟨Ne.symm hji, hh⟩))
        exact .inl ⟨hS _ _ _ _ _ _ _ hmid hls, ih _ _ _ _ _ _ _ hck hmid hls⟩


theorem adopt_sound : ∀ {A' : List Nat} {f : Fr} {ρ : Nat → Loc} {σ : St} {w : World} {a : Act} {f'' : Fr} {σ'' : St} {B : Nat → Option Nat}, adopt M.toEnv ops fe A' f σ = some (f'', σ'') → Evo ρ₀ σ₀ w₀ ρ σ w → FrRel ρ f σ.next a → A'.Nodup →
    (∀ x ∈ A', ∃ b, B x = some b ∧ Made1 M ops fe ρ₀ w₀ ρ σ w a x b) → (∀ x y b, B x = some b → B y = some b → x = y) → {a₀ : Act} → FrRel ρ₀ fe σ₀.next a₀ → ∃ ρ'', Evo ρ₀ σ₀ w₀ ρ'' σ'' w ∧ FrRel ρ'' f'' σ''.next a
  | [], f, ρ, σ, w, a, f'', σ'', B, h, hev, hF, _, _, _, _, _ => by
    simp only [adopt, Option.some.injEq, Prod.mk.injEq] at h
    obtain ⟨rfl, rfl⟩ := h
    exact ⟨ρ, hev, hF⟩
  | x :: r, f, ρ, σ, w, a, f'', σ'', B, h, hev, hF, hnd, hB, hinj, a₀, hF0 => by
    obtain ⟨b, hxb, o, N, ho, hN, hw, hlo, hno, hslot⟩ := hB x (by simp)
    have hwt : wantedA ops fe o = some true := by
      cases hq : wantedA ops fe o with
      | none => simp [adopt, ho, hq] at h
      | some t => cases t with
        | true => rfl
        | false => simp [adopt, ho, hq] at h
    simp only [adopt, ho, hN, hwt] at h
    have hNs : N.sc σ₀.next := (allocQ_sound M.toEnv hF0 o hN).1
    have hev' := Evo.adopt hev hNs hw hlo hno
    have hF' : FrRel (upd ρ σ.next ⟨b, 0, 0⟩) (putF f o.dst (N.val σ.next)) (σ.push N.blk).next a := by
      refine FrRel.know (hF.evo (fun i hi => upd_lt ρ _ hi) (by simp)) (fun t ht => ?_) (New.val_sc N (by simp))
      rw [New.val_ren hNs, hslot t ht]
    obtain ⟨hx1, hx2⟩ := List.nodup_cons.1 hnd
    refine adopt_sound h hev' hF' hx2 (fun y hy => ?_) hinj hF0
    obtain ⟨b', hyb, o', N', h1, h2, h3, h4, h5, h6⟩ := hB y (by simp [hy])
    refine ⟨b', hyb, o', N', h1, h2, h3, h4, fun j hj => ?_, h6⟩
    rw [St.get_push] at hj
    split at hj
    · rename_i e; subst e
      rw [upd_same]
      intro e
      simp only at e
      subst e
      have := hinj x y b hxb hyb
      subst this
      exact hx1 hy
    · rename_i e
      rw [upd_ne _ _ (Ne.symm e)]
      exact h5 j hj

theorem adopt_all : ∀ {A' : List Nat} {f : Fr} {σ : St} {f'' : Fr} {σ'' : St}, adopt M.toEnv ops fe A' f σ = some (f'', σ'') → ∀ x ∈ A', ∃ o N, ops.toList[x]? = some o ∧ wantedA ops fe o = some true ∧ allocQ M.toEnv fe o.op = some N
  | x :: r, f, σ, f'', σ'', h, y, hy => by
    unfold adopt at h
    split at h
    · rename_i o ho
      split at h
      · rename_i hw
        split at h
        · rename_i N hN
          rcases List.mem_cons.1 hy with rfl | hy
          · exact ⟨o, N, ho, hw, hN⟩
          · exact adopt_all h y hy
        · cases h
      · cases h
    · cases h

/-- What is left behind the one that does something, and behind them all. -/
def Grp (M : EnvM) (nt : Nat) (ops : Array Oper) (i : Nat) (A : List Nat) (fe : Fr) (H : List HE) (r : List Ent) (K : Fr → St → Prop) (v : Value) (σ' : St) : Prop :=
  (∀ h ∈ rls i H, h.2.in σ') ∧ ∃ f'' σ'', adopt M.toEnv ops fe A (putF fe (dstOf ops i) v) σ' = some (f'', σ'') ∧ (∀ h ∈ rls i H, h.2.in σ'') ∧ DP M nt ops r (rls i H) f'' σ'' K

theorem DP.group {r : List Ent} {H : List HE} {f : Fr} {σ : St} {K : Fr → St → Prop} (hgo : grpOk ops (i :: A) = true) (hnd : nodupB (i :: A) = true) (hA : ∀ x ∈ A, ∃ o N, ops.toList[x]? = some o ∧ wantedA ops (bare ops f (i :: A)) o = some true ∧ allocQ M.toEnv (bare ops f (i :: A)) o.op = some N)
    (hmain : ∀ F ρ w a, Rel ρ σ w → FrRel ρ (bare ops f (i :: A)) σ.next a → a.tmps.size = nt → wpOp M.P ops F i (fun a' w' => ∃ ρ' σ' v, a' = a.put (dstOf ops i) (ren ρ' v) ∧ Evo ρ σ w ρ' σ' w' ∧ Sc σ'.next v ∧ Grp M nt ops i A (bare ops f (i :: A)) H r K v σ') a w) :
    DP M nt ops (.g i A :: r) H f σ K := by
  intro fuel listed hp hsel hd ρ w a hR hF hn hH
  simp only [planOk, Bool.and_eq_true, Nat.ble_eq] at hp
  obtain ⟨⟨hp1, hp2⟩, hp3⟩ := hp
  have hfuel : fuel = (fuel - (A.length + 1)) + (i :: A).length := by simp only [List.length_cons]; omega
  have hnod := nodupB_spec hnd
  obtain ⟨hi, hnA⟩ := List.nodup_cons.1 hnod
  have hF0 := hF.bare ops (i :: A)
  rw [hfuel]
  refine Mid.run (Km := Grp M nt ops i A (bare ops f (i :: A)) H r K) (ρ₀ := ρ) (σ₀ := σ) (w₀ := w) hd hi hgo (fun x t hx ht => bare_none hx ht) hA hF0 (fun w a h1 h2 h3 => hmain _ ρ w a h1 h2 h3) (fun B todo ρ' σ' w' a' l hm hl => ?_) (fun B ρ' σ' w' a' hm hl => ?_)
    (A.length + 1) (i :: A) listed (fun _ => none) ρ σ w a hp2 ⟨Evo.refl hR, hF0, hn, hnod, fun x hx => hx, fun x hx => .inl (by simp [hx]), fun x b h => (by cases h), fun x y b h => (by cases h), .inl ⟨by simp, rfl, rfl⟩⟩ (fun h => absurd (by simp) h)
  · rcases hm.main with ⟨_, hσ, hρ⟩ | ⟨h0, v, _, _, hk⟩
    · subst hσ; subst hρ; exact HS.of_in hm.evo.rel hH _
    · exact HS.of_rls hR hm.evo.ext hH (hl h0) (HS.of_in hm.evo.rel hk.1 _)
  · rcases hm.main with ⟨h0, _⟩ | ⟨_, v, h1, h2, h3, f'', σ'', h4, h5, h6⟩
    · simp at h0
    obtain ⟨ρ'', h7, h8⟩ := adopt_sound h4 hm.evo (hm.fr.know h1 h2) hnA (fun x hx => by
      rcases hm.all x hx with h | h
      · simp at h
      · obtain ⟨b, hb⟩ := Option.isSome_iff_exists.1 h
        exact ⟨b, hb, (hm.al x b hb).2.2⟩) hm.inj hF0
    exact wpAnyL_mono (fun e a₂ w₂ ⟨he, hk⟩ => ⟨he, After.evo h7 hk⟩) _ _ _ _ (fun l w₂ hl' hw => HS.of_rls hR h7.ext hH (hl' i hl) hw) (h6 _ _ hp3 hsel hd ρ'' w' a' h7.rel h8 hm.size h5)

/-- The one that does something writes, or makes memory. -/
theorem DP.groupW {r : List Ent} {H : List HE} {f : Fr} {σ : St} {K : Fr → St → Prop} {o : Oper} {res : Option Value} {σ' : St} {f'' : Fr} {σ'' : St} (hgo : grpOk ops (i :: A) = true) (hnd : nodupB (i :: A) = true) (hop : ops.toList[i]? = some o)
    (hw : wantedA ops (bare ops f (i :: A)) o = some true) (hq : opW M.toEnv (bare ops f (i :: A)) σ o.op = some (res, σ')) (hH' : ∀ h ∈ rls i H, h.2.in σ')
    (ha : adopt M.toEnv ops (bare ops f (i :: A)) A (putF (bare ops f (i :: A)) o.dst (res.getD undef)) σ' = some (f'', σ'')) (hH'' : ∀ h ∈ rls i H, h.2.in σ'') (h : DP M nt ops r (rls i H) f'' σ'' K) : DP M nt ops (.g i A :: r) H f σ K := by
  have hdst : dstOf ops i = o.dst := by simp only [dstOf, hop]
  refine DP.group hgo hnd (adopt_all ha) fun F ρ w a hR hF hn => ?_
  obtain ⟨w', ρ', h1, h2, h3⟩ := opW_sound M.toEnv hR hF o hq
  unfold wpOp
  have hop' : ops[i]? = some o := by rw [← getElem?_toList_eq]; exact hop
  simp only [hop', wantedA_sound hF hw, if_true, Oper.wp, h1]
  refine .inl ?_
  cases res with
  | some v =>
    simp only [nxt, Oper.upon]
    exact ⟨ρ', σ', v, by rw [hdst], h2, h3 v rfl, hH', f'', σ'', by rw [hdst]; exact ha, hH'', h⟩
  | none =>
    simp only [nxt, Oper.upon]
    exact ⟨ρ', σ', undef, by rw [hdst, ren_undef], h2, Sc_undef _, hH', f'', σ'', by rw [hdst]; exact ha, hH'', h⟩

theorem DP.groupC {r : List Ent} {H : List HE} {f : Fr} {σ : St} {K : Fr → St → Prop} {o : Oper} {c : Call} {g : FuncId} {args : List Value} (hgo : grpOk ops (i :: A) = true) (hnd : nodupB (i :: A) = true) (hop : ops.toList[i]? = some o) (ho : o.op = .call c)
    (hw : wantedA ops (bare ops f (i :: A)) o = some true) (hc : callQ M (bare ops f (i :: A)) c = some (g, args)) (hA : ∀ x ∈ A, ∃ o N, ops.toList[x]? = some o ∧ wantedA ops (bare ops f (i :: A)) o = some true ∧ allocQ M.toEnv (bare ops f (i :: A)) o.op = some N)
    (h : WF M.toEnv g args σ (Grp M nt ops i A (bare ops f (i :: A)) H r K)) : DP M nt ops (.g i A :: r) H f σ K := by
  have hdst : dstOf ops i = o.dst := by simp only [dstOf, hop]
  refine DP.group hgo hnd hA fun F ρ w a hR hF hn => ?_
  obtain ⟨h1, h2⟩ := callQ_sound M hF hc h.1 o.type w
  have hex : (execOp a.eval o).run M.P w = .ok (.enter g (args.map (ren ρ)).toArray) w := by
    simp only [execOp, ho]; exact h1
  unfold wpOp
  have hop' : ops[i]? = some o := by rw [← getElem?_toList_eq]; exact hop
  simp only [hop', wantedA_sound hF hw, if_true, Oper.wp, hex, Oper.upon]
  refine .inl ?_
  refine Calls.mono (h.2 ρ w hR h2) fun e w' ⟨v, he, res, σ', ρ', h3, h4, h5, h6⟩ => ?_
  subst he
  subst h3
  exact ⟨ρ', σ', res, by rw [hdst], h4, h5, h6⟩

end
end
end AH
end

section
/-
  AH P: some operations that only make memory wait, in a region, while others come up one behind the other.
-/
set_option linter.unusedSimpArgs false
set_option linter.unusedVariables false
set_option linter.unusedSectionVars false
namespace AH
open Go
noncomputable section

theorem getD_set_ne' {l : Array Bool} {x k : Nat} {b d : Bool} (h : x ≠ k) : (l.setIfInBounds x b).getD k d = l.getD k d := by
  simp [Array.getElem?_setIfInBounds, h, Array.getD_eq_getD_getElem?]

theorem finOf_size : ∀ (A : List Nat) (l : Array Bool), (finOf l A).size = l.size
  | [], l => rfl
  | x :: r, l => by rw [finOf, finOf_size r]; simp

theorem finOf_get {d : Bool} : ∀ (A : List Nat) (l : Array Bool) (k : Nat), k < l.size → (finOf l A).getD k d = (if k ∈ A then true else l.getD k d)
  | [], l, k, h => by simp [finOf]
  | x :: r, l, k, h => by
    rw [finOf, finOf_get r _ k (by simpa using h)]
    by_cases hk : k ∈ r
    · simp [hk]
    · by_cases hx : x = k
      · subst hx; simp [hk, h]
      · simp [hk, Ne.symm hx, getD_set_ne d hx]

/-- How many of these have not come up. -/
def left (listed : Array Bool) (A : List Nat) : Nat := (A.filter fun x => !listed.getD x false).length

structure Lst (ops : Array Oper) (A : List Nat) (l0 listed : Array Bool) : Prop where
  size : listed.size = l0.size
  same : ∀ k d, k ∉ A → listed.getD k d = l0.getD k d
  nod : A.Nodup
  un : ∀ x ∈ A, x ∈ Region.ready .any ops l0

theorem ready_lt {ops : Array Oper} {l : Array Bool} {i : Nat} (h : i ∈ Region.ready .any ops l) : i < l.size := by
  have := (mem_ready.1 h).1
  rcases Nat.lt_or_ge i l.size with h' | h'
  · exact h'
  · simp [Array.getElem?_eq_none h'] at this

theorem getD_lt {l : Array Bool} {i : Nat} {d d' : Bool} (h : i < l.size) : l.getD i d = l.getD i d' := by simp [h]

theorem ready_up {ops : Array Oper} {l l' : Array Bool} {i : Nat} (hs : l'.size = l.size) (hup : ∀ k, l.getD k false = true → l'.getD k false = true) (hi : l'.getD i true = false) (h : i ∈ Region.ready .any ops l) : i ∈ Region.ready .any ops l' := by
  obtain ⟨h1, o, ho, hall⟩ := mem_ready.1 h
  refine mem_ready.2 ⟨hi, o, ho, fun e he hb => ?_⟩
  exact hup _ (hall e he hb)

section
variable {ops : Array Oper} {A : List Nat} {l0 listed : Array Bool}

theorem Lst.up (h : Lst ops A l0 listed) : ∀ k, l0.getD k false = true → listed.getD k false = true := fun k hk => by
  by_cases hA : k ∈ A
  · have h1 := (mem_ready.1 (h.un k hA)).1
    have hlt := ready_lt (h.un k hA)
    rw [getD_lt (d' := true) hlt, h1] at hk; cases hk
  · rw [h.same k false hA]; exact hk

theorem Lst.fin (h : Lst ops A l0 listed) : ∀ k, listed.getD k false = true → (finOf l0 A).getD k false = true := fun k hk => by
  have hlt : k < l0.size := by
    rcases Nat.lt_or_ge k l0.size with h' | h'
    · exact h'
    · simp [Array.getElem?_eq_none (show listed.size ≤ k by rw [h.size]; exact h')] at hk
  rw [finOf_get _ _ _ hlt]
  by_cases hA : k ∈ A
  · simp [hA]
  · rw [if_neg hA, ← h.same k false hA]; exact hk

theorem Lst.ready_A (h : Lst ops A l0 listed) {x : Nat} (hx : x ∈ A) (hl : listed.getD x true = false) : x ∈ Region.ready .any ops listed :=
  ready_up h.size h.up hl (h.un x hx)

theorem Lst.ready_out (h : Lst ops A l0 listed) {i : Nat} (hA : i ∉ A) (hi : i ∈ Region.ready .any ops l0) : i ∈ Region.ready .any ops listed :=
  ready_up h.size h.up (by rw [h.same i true hA]; exact (mem_ready.1 hi).1) hi

/-- What may come up, and does not wait, may come up where all of those have. -/
theorem Lst.ready_fin (h : Lst ops A l0 listed) {j : Nat} (hj : j ∈ Region.ready .any ops listed) (hA : j ∉ A) : j ∈ Region.ready .any ops (finOf l0 A) := by
  have hlt := ready_lt hj
  refine ready_up (by rw [finOf_size, h.size]) h.fin ?_ hj
  rw [finOf_get _ _ _ (by rw [← h.size]; exact hlt), if_neg hA, ← h.same j true hA]
  exact (mem_ready.1 hj).1

theorem Lst.setA (h : Lst ops A l0 listed) {x : Nat} (hx : x ∈ A) : Lst ops A l0 (listed.setIfInBounds x true) :=
  ⟨by simp [h.size], fun k d hk => by rw [getD_set_ne d (show x ≠ k from fun e => hk (e ▸ hx)), h.same k d hk], h.nod, h.un⟩

theorem Lst.setO (h : Lst ops A l0 listed) {i : Nat} (hi : i ∉ A) : Lst ops A (l0.setIfInBounds i true) (listed.setIfInBounds i true) := by
  refine ⟨by simp [h.size], fun k d hk => ?_, h.nod, fun x hx => ready_mono (h.un x hx) (fun e => hi (e ▸ hx))⟩
  by_cases hik : i = k
  · subst hik
    by_cases hlt : i < l0.size
    · rw [← h.size] at hlt; simp [hlt, h.size ▸ hlt]
    · have h2 : ¬ i < listed.size := by rw [h.size]; exact hlt
      simp [hlt, h2]
  · rw [getD_set_ne d hik, getD_set_ne d hik, h.same k d hk]

theorem left_setA (h : Lst ops A l0 listed) {x : Nat} (hx : x ∈ A) (hl : listed.getD x true = false) : left listed A = left (listed.setIfInBounds x true) A + 1 := by
  have hlt : x < listed.size := by
    rcases Nat.lt_or_ge x listed.size with h' | h'
    · exact h'
    · simp [Array.getElem?_eq_none h'] at hl
  have hnd := h.nod
  unfold left
  clear h
  induction A with
  | nil => cases hx
  | cons y r ih =>
    obtain ⟨hy, hr⟩ := List.nodup_cons.1 hnd
    by_cases hxy : y = x
    · subst hxy
      have h1 : listed.getD y false = false := by rw [getD_lt (d' := true) hlt]; exact hl
      have h2 : (listed.setIfInBounds y true).getD y false = true := getD_set_self hl
      have h3 : (r.filter fun z => !(listed.setIfInBounds y true).getD z false) = (r.filter fun z => !listed.getD z false) := List.filter_congr fun z hz => by
        rw [getD_set_ne false (show y ≠ z from fun e => hy (e ▸ hz))]
      rw [List.filter_cons, List.filter_cons, h1, h2, h3]
      simp
    · have hxr : x ∈ r := by
        rcases List.mem_cons.1 hx with h | h
        · exact absurd h.symm hxy
        · exact h
      have := ih hxr hr
      rw [List.filter_cons, List.filter_cons, getD_set_ne false (show x ≠ y from fun e => hxy e.symm)]
      split
      · simp only [List.length_cons]; omega
      · exact this

theorem left_setO (h : Lst ops A l0 listed) {i : Nat} (hi : i ∉ A) : left (listed.setIfInBounds i true) A = left listed A := by
  unfold left
  rw [List.filter_congr fun z hz => by rw [getD_set_ne false (show i ≠ z from fun e => hi (e ▸ hz))]]

theorem left_zero (h : Lst ops A l0 listed) (h0 : left listed A = 0) : listed = finOf l0 A := by
  have hall : ∀ x ∈ A, listed.getD x false = true := fun x hx => by
    have := List.filter_eq_nil_iff.1 (List.length_eq_zero_iff.1 h0) x hx
    simpa using this
  have hsz : listed.size = (finOf l0 A).size := by rw [finOf_size, h.size]
  refine Array.ext hsz fun k h1 h2 => ?_
  have e1 : listed.getD k false = (finOf l0 A).getD k false := by
    rw [finOf_get _ _ _ (by rw [← h.size]; exact h1)]
    by_cases hA : k ∈ A
    · rw [if_pos hA, hall k hA]
    · rw [if_neg hA, h.same k false hA]
  simpa [h1, h2] using e1
end

section
variable {M : EnvM} {nt : Nat} {ops : Array Oper} {A : List Nat} {fe : Fr} {r : List Ent}

/-- Those of A that have come up have made their blocks; nothing knows of them yet. -/
structure Wait (M : EnvM) (nt : Nat) (ops : Array Oper) (A : List Nat) (fe : Fr) (ρ₀ : Nat → Loc) (σ₀ : St) (w₀ : World) (listed : Array Bool) (B : Nat → Option Nat) (f : Fr) (ρ : Nat → Loc) (σ : St) (w : World) (a : Act) : Prop where
  evo : Evo ρ₀ σ₀ w₀ ρ σ w
  fr : FrRel ρ f σ.next a
  frE : FrRel ρ fe σ.next a
  size : a.tmps.size = nt
  bare : ∀ x ∈ A, ∀ t, dstOf ops x = some t → f.get t = none
  lis : ∀ x ∈ A, listed.getD x false = true → (B x).isSome = true
  al : ∀ x b, B x = some b → x ∈ A ∧ listed.getD x false = true ∧ Made1 M ops fe ρ₀ w₀ ρ σ w a x b
  inj : ∀ x y b, B x = some b → B y = some b → x = y

def DPP (M : EnvM) (nt : Nat) (ops : Array Oper) (A : List Nat) (fe : Fr) (r : List Ent) (plan : List Ent0) (H : List HE) (f : Fr) (σ : St) (K : Fr → St → Prop) : Prop :=
  ∀ k l0 listed, planP ops A (fun n l => planOk ops n l r) k l0 plan = true → Lst ops A l0 listed → Region.noSelect ops = true → (∀ o ∈ ops.toList, dstOk nt o = true) → ∀ ρ₀ σ₀ w₀ a₀ ρ w a B, FrRel ρ₀ fe σ₀.next a₀ → Wait M nt ops A fe ρ₀ σ₀ w₀ listed B f ρ σ w a → (∀ h ∈ H, h.2.in σ) →
    wpAnyL M.P .any ops (fun e a' w' => e = .normal ∧ After nt ρ₀ σ₀ w₀ K a' w') (HS ρ H) (k + left listed A) listed a w

/-- What is asked of those that wait. -/
structure Ok (M : EnvM) (ops : Array Oper) (A : List Nat) (fe : Fr) : Prop where
  grp : grpOk ops A = true
  bare : ∀ x t, x ∈ A → dstOf ops x = some t → fe.get t = none
  all : ∀ x ∈ A, ∃ o N, ops.toList[x]? = some o ∧ wantedA ops fe o = some true ∧ allocQ M.toEnv fe o.op = some N

theorem Made1.lt {ρ₀ ρ : Nat → Loc} {w₀ : World} {σ : St} {w : World} {a : Act} {x b : Nat} (h : Made1 M ops fe ρ₀ w₀ ρ σ w a x b) : b < w.heap.size := by
  obtain ⟨_, _, _, _, h5, _⟩ := h
  rcases Nat.lt_or_ge b w.heap.size with h | h
  · exact h
  · rw [Array.getElem?_eq_none h] at h5; cases h5

/-- One of those that wait comes up. -/
theorem Wait.made {ρ₀ : Nat → Loc} {σ₀ : St} {w₀ : World} {listed : Array Bool} {B : Nat → Option Nat} {f : Fr} {ρ : Nat → Loc} {σ : St} {w : World} {a : Act} {a₀ : Act} (hd : ∀ o ∈ ops.toList, dstOk nt o = true) (hk : Ok M ops A fe) (hF0 : FrRel ρ₀ fe σ₀.next a₀) (hm : Wait M nt ops A fe ρ₀ σ₀ w₀ listed B f ρ σ w a) {o : Oper} {N : New} {j : Nat} (hjA : j ∈ A) (ho : ops.toList[j]? = some o)
    (hN : allocQ M.toEnv fe o.op = some N) (hnot : listed.getD j true = false) : Wait M nt ops A fe ρ₀ σ₀ w₀ (listed.setIfInBounds j true) (fun y => if y = j then some w.heap.size else B y) f ρ σ (w.alloc (N.obj ρ₀)) (a.put o.dst (N.val w.heap.size)) := by
  have hdst : dstOf ops j = o.dst := by simp only [dstOf, ho]
  have hold : ∀ y b, B y = some b → b < w.heap.size := fun y b hyb => (hm.al y b hyb).2.2.lt
  have hBj : ∀ y b, B y = some b → y ≠ j := fun y b hyb e => by
    have := (hm.al y b hyb).2.1
    subst e
    rw [getD_lt (d' := true) (by
      rcases Nat.lt_or_ge y listed.size with h' | h'
      · exact h'
      · simp [Array.getElem?_eq_none h'] at hnot), hnot] at this
    cases this
  refine ⟨hm.evo.trans (Evo.more hm.evo.rel _), hm.fr.put_out (fun t ht => hm.bare j hjA t (by rw [hdst]; exact ht)) _, hm.frE.put_out (fun t ht => hk.bare j t hjA (by rw [hdst]; exact ht)) _, by rw [put_size]; exact hm.size, hm.bare, fun x hx hl => ?_, fun x b hxb => ?_, fun x y b hx hy => ?_⟩
  · by_cases e : x = j
    · simp [e]
    · rw [getD_set_ne false (Ne.symm e)] at hl
      simp only [if_neg e]
      exact hm.lis x hx hl
  · by_cases e : x = j
    · subst e
      simp only [if_true, Option.some.injEq] at hxb
      subst hxb
      refine ⟨hjA, getD_set_self hnot, o, N, ho, hN, get_new w _, hm.evo.size, fun k hk hkb => ?_, fun t ht => ?_⟩
      · have := hm.evo.rel.size hk; omega
      · rw [ht, put_got]
        rw [hm.size]
        have := hd o (List.mem_of_getElem? ho)
        simp only [dstOk, ht] at this
        exact Nat.le_of_ble_eq_true this
    · simp only [if_neg e] at hxb
      obtain ⟨h1, h2, o', N', h3, h4, h5, h6, h7, h8⟩ := hm.al x b hxb
      refine ⟨h1, by rw [getD_set_ne false (Ne.symm e)]; exact h2, o', N', h3, h4, ?_, h6, h7, fun t ht => ?_⟩
      · rw [Go.RowKit.Below.heap_alloc w _ b (hold x b hxb)]; exact h5
      · rw [put_get]
        · exact h8 t ht
        · rw [← hdst]
          refine grp_ne hk.grp (x := x) (y := j) h1 hjA e ?_
          simp only [dstOf, h3, ht]
  · by_cases e : x = j
    · by_cases e' : y = j
      · rw [e, e']
      · simp only [if_pos e, if_neg e', Option.some.injEq] at hx hy
        have := hold y b hy; omega
    · by_cases e' : y = j
      · simp only [if_neg e, if_pos e', Option.some.injEq] at hx hy
        have := hold x b hx; omega
      · simp only [if_neg e, if_neg e'] at hx hy
        exact hm.inj x y b hx hy

/-- Another one comes up. -/
theorem Wait.step {ρ₀ : Nat → Loc} {σ₀ : St} {w₀ : World} {listed : Array Bool} {B : Nat → Option Nat} {f f' : Fr} {ρ ρ' : Nat → Loc} {σ σ' : St} {w w' : World} {a : Act} {i : Nat} {v : Value} (hm : Wait M nt ops A fe ρ₀ σ₀ w₀ listed B f ρ σ w a) (hi : i ∉ A) (hev : Evo ρ σ w ρ' σ' w')
    (hd : ∀ x t, x ∈ A → dstOf ops x = some t → dstOf ops i ≠ some t) (hbi : ∀ t, dstOf ops i = some t → fe.get t = none) (hF : FrRel ρ' f' σ'.next (a.put (dstOf ops i) v)) (hb : ∀ x ∈ A, ∀ t, dstOf ops x = some t → f'.get t = none) : Wait M nt ops A fe ρ₀ σ₀ w₀ (listed.setIfInBounds i true) B f' ρ' σ' w' (a.put (dstOf ops i) v) := by
  refine ⟨hm.evo.trans hev, hF, (hm.frE.evo hev.ext hev.next).put_out hbi _, by rw [put_size]; exact hm.size, hb, fun x hx hl => ?_, fun x b hxb => ?_, hm.inj⟩
  · rw [getD_set_ne false (show i ≠ x from fun e => hi (e ▸ hx))] at hl
    exact hm.lis x hx hl
  · obtain ⟨h1, h2, hmade⟩ := hm.al x b hxb
    have hbs := hmade.lt
    obtain ⟨o, N, h3, h4, h5, h6, h7, h8⟩ := hmade
    refine ⟨h1, by rw [getD_set_ne false (show i ≠ x from fun e => hi (e ▸ h1))]; exact h2, o, N, h3, h4, ?_, h6, fun k hk' hkb => ?_, fun t ht => ?_⟩
    · rw [← h5]
      exact hev.fra b hbs fun k hk' => h7 k (Blk.live_of_wr hk')
    · rcases hev.liv k hk' with ⟨k', hk1, hk2⟩ | hge
      · exact h7 k' hk1 (hk2.trans hkb)
      · omega
    · rw [put_get]
      · exact h8 t ht
      · exact hd x t h1 (by simp only [dstOf, h3, ht])

/-- Of those that wait one comes up, and then it goes on. -/
theorem DPP.one {ρ₀ : Nat → Loc} {σ₀ : St} {w₀ : World} {listed : Array Bool} {B : Nat → Option Nat} {f : Fr} {ρ : Nat → Loc} {σ : St} {w : World} {a a₀ : Act} {l0 : Array Bool} {H : List HE} {F : Exit → Act → World → Prop} {m j : Nat} (hL : Lst ops A l0 listed) (hd : ∀ o ∈ ops.toList, dstOk nt o = true) (hk : Ok M ops A fe) (hF0 : FrRel ρ₀ fe σ₀.next a₀) (hm : Wait M nt ops A fe ρ₀ σ₀ w₀ listed B f ρ σ w a)
    (hH : ∀ h ∈ H, h.2.in σ) (hjA : j ∈ A) (hj : j ∈ Region.ready .any ops listed) (h : ∀ B' w' a', Wait M nt ops A fe ρ₀ σ₀ w₀ (listed.setIfInBounds j true) B' f ρ σ w' a' → wpAnyL M.P .any ops F (HS ρ H) m (listed.setIfInBounds j true) a' w') :
    wpOp M.P ops F j (fun a' w' => HS ρ H (listed.setIfInBounds j true) w' ∧ wpAnyL M.P .any ops F (HS ρ H) m (listed.setIfInBounds j true) a' w') a w := by
  obtain ⟨o, N, ho, hwant, hN⟩ := hk.all j hjA
  have hop : ops[j]? = some o := by rw [← getElem?_toList_eq]; exact ho
  obtain ⟨h1, h2⟩ := mem_ready.1 hj
  unfold wpOp
  have hrun := (allocQ_sound M.toEnv hm.frE o hN).2 w
  have hobj : N.obj ρ = N.obj ρ₀ := New.obj_congr (allocQ_sound M.toEnv hF0 o hN).1 fun k hk => hm.evo.ext k hk
  simp only [hop, wantedA_sound hm.frE hwant, if_true, Oper.wp, hrun, Oper.upon]
  rw [hobj]
  have hw := hm.made hd hk hF0 hjA ho hN h1
  exact .inl ⟨HS.of_in hw.evo.rel hH _, h _ _ _ hw⟩

section
variable {ρ₀ : Nat → Loc} {σ₀ : St} {w₀ : World}
theorem adopt_ext : ∀ {A' : List Nat} {f : Fr} {ρ : Nat → Loc} {σ : St} {w : World} {a : Act} {f'' : Fr} {σ'' : St} {B : Nat → Option Nat}, adopt M.toEnv ops fe A' f σ = some (f'', σ'') → Evo ρ₀ σ₀ w₀ ρ σ w → FrRel ρ f σ.next a → A'.Nodup →
    (∀ x ∈ A', ∃ b, B x = some b ∧ Made1 M ops fe ρ₀ w₀ ρ σ w a x b) → (∀ x y b, B x = some b → B y = some b → x = y) → {a₀ : Act} → FrRel ρ₀ fe σ₀.next a₀ → ∃ ρ'', Evo ρ₀ σ₀ w₀ ρ'' σ'' w ∧ FrRel ρ'' f'' σ''.next a ∧ ∀ i, i < σ.next → ρ'' i = ρ i
  | [], f, ρ, σ, w, a, f'', σ'', B, h, hev, hF, _, _, _, _, _ => by
    simp only [adopt, Option.some.injEq, Prod.mk.injEq] at h
    obtain ⟨rfl, rfl⟩ := h
    exact ⟨ρ, hev, hF, fun _ _ => rfl⟩
  | x :: r, f, ρ, σ, w, a, f'', σ'', B, h, hev, hF, hnd, hB, hinj, a₀, hF0 => by
    obtain ⟨b, hxb, o, N, ho, hN, hw, hlo, hno, hslot⟩ := hB x (by simp)
    have hwt : wantedA ops fe o = some true := by
      cases hq : wantedA ops fe o with
      | none => simp [adopt, ho, hq] at h
      | some t => cases t with
        | true => rfl
        | false => simp [adopt, ho, hq] at h
    simp only [adopt, ho, hN, hwt] at h
    have hNs : N.sc σ₀.next := (allocQ_sound M.toEnv hF0 o hN).1
    have hev' := Evo.adopt hev hNs hw hlo hno
    have hF' : FrRel (upd ρ σ.next ⟨b, 0, 0⟩) (putF f o.dst (N.val σ.next)) (σ.push N.blk).next a := by
      refine FrRel.know (hF.evo (fun i hi => upd_lt ρ _ hi) (by simp)) (fun t ht => ?_) (New.val_sc N (by simp))
      rw [New.val_ren hNs, hslot t ht]
    obtain ⟨hx1, hx2⟩ := List.nodup_cons.1 hnd
    refine (fun ⟨ρ₂, q1, q2, q3⟩ => ⟨ρ₂, q1, q2, fun i hi => (q3 i (by simp; omega)).trans (upd_lt ρ _ hi)⟩ : (∃ ρ'', Evo ρ₀ σ₀ w₀ ρ'' σ'' w ∧ FrRel ρ'' f'' σ''.next a ∧ ∀ i, i < (σ.push N.blk).next → ρ'' i = upd ρ σ.next ⟨b, 0, 0⟩ i) → _) (adopt_ext h hev' hF' hx2 (fun y hy => ?_) hinj hF0)
    obtain ⟨b', hyb, o', N', h1, h2, h3, h4, h5, h6⟩ := hB y (by simp [hy])
    refine ⟨b', hyb, o', N', h1, h2, h3, h4, fun j hj => ?_, h6⟩
    rw [St.get_push] at hj
    split at hj
    · rename_i e; subst e
      rw [upd_same]
      intro e
      simp only at e
      subst e
      have := hinj x y b hxb hyb
      subst this
      exact hx1 hy
    · rename_i e
      rw [upd_ne _ _ (Ne.symm e)]
      exact h5 j hj

end

/-- All of those that wait come up. -/
theorem DPP.end {H : List HE} {f f'' : Fr} {σ σ'' : St} {K : Fr → St → Prop} (hk : Ok M ops A fe) (ha : adopt M.toEnv ops fe A f σ = some (f'', σ'')) (hH' : ∀ h ∈ H, h.2.in σ'') (h : DP M nt ops r H f'' σ'' K) : DPP M nt ops A fe r [] H f σ K := by
  intro k l0 listed hp hL hsel hd ρ₀ σ₀ w₀ a₀ ρ w a B hF0 hm hH
  simp only [planP, Bool.and_eq_true, List.all_eq_true, beq_iff_eq] at hp
  obtain ⟨hp1, hp2⟩ := hp
  generalize hu : left listed A = u
  induction u generalizing listed w a B with
  | zero =>
    have hfin := left_zero hL hu
    subst hfin
    have hall : ∀ x ∈ A, (finOf l0 A).getD x false = true := fun x hx => by
      rw [finOf_get _ _ _ (ready_lt (hL.un x hx)), if_pos hx]
    obtain ⟨ρ'', h7, h8, h9⟩ := adopt_ext ha hm.evo hm.fr hL.nod (fun x hx => by
      obtain ⟨b, hb⟩ := Option.isSome_iff_exists.1 (hm.lis x hx (hall x hx))
      exact ⟨b, hb, (hm.al x b hb).2.2⟩) hm.inj hF0
    rw [Nat.add_zero]
    exact wpAnyL_mono (fun e a₂ w₂ ⟨he, hk⟩ => ⟨he, After.evo h7 hk⟩) _ _ _ _ (fun l w₂ hl' hw x hx hno => Hold.at_ext hm.evo.rel h9 (hH x hx) (hw x hx hno)) (h k _ hp2 hsel hd ρ'' w a h7.rel h8 hm.size hH')
  | succ u ih =>
    obtain ⟨x, hxA, hxl⟩ : ∃ x, x ∈ A ∧ listed.getD x false = false := by
      have hne : (A.filter fun x => !listed.getD x false) ≠ [] := fun e => by
        have : left listed A = 0 := by unfold left; rw [e]; rfl
        omega
      obtain ⟨x, hx⟩ := List.exists_mem_of_ne_nil _ hne
      obtain ⟨h1, h2⟩ := List.mem_filter.1 hx
      exact ⟨x, h1, by simpa using h2⟩
    have hxt : listed.getD x true = false := by
      rw [getD_lt (d' := false) (by rw [hL.size]; exact ready_lt (hL.un x hxA))]; exact hxl
    have hsub : ∀ j ∈ Region.ready .any ops listed, j ∈ A := fun j hj => by
      by_cases hjA : j ∈ A
      · exact hjA
      · have hjx : x ≠ j := fun e => hjA (e ▸ hxA)
        have := ready_up (l' := (finOf l0 A).setIfInBounds x false) (by simp [finOf_size, hL.size]) (fun k hk => by
          have hkx : x ≠ k := fun e => by subst e; rw [hxl] at hk; cases hk
          rw [getD_set_ne' hkx]; exact hL.fin k hk) (by rw [getD_set_ne' hjx]; exact (mem_ready.1 (hL.ready_fin hj hjA)).1) hj
        rw [hp1 x hxA, List.mem_singleton] at this
        exact absurd this.symm hjx
    have hrx := hL.ready_A hxA hxt
    show wpAnyL _ _ _ _ _ ((k + u) + 1) listed a w
    refine wpAnyL_all rfl (fun h0 => by rw [h0] at hrx; cases hrx) fun j hj => ?_
    have hjA := hsub j hj
    have hlt := left_setA hL hjA (mem_ready.1 hj).1
    exact DPP.one hL hd hk hF0 hm hH hjA hj fun B' w' a' hm' => ih _ (hL.setA hjA) _ _ _ hm' (by omega)

theorem Region_free_up {l0 listed : Array Bool} {i : Nat} {o : Oper} (hop : ops[i]? = some o) (hL : Lst ops A l0 listed) (hf : Region.free .any ops l0 i = true) : ∀ j oj, ops[j]? = some oj → j ≠ i → listed.getD j true = false → (∀ e ∈ oj.after, Region.binds .any e = true → e.on ≠ i) → o.apart ops oj = true := fun j oj hj hji hl hno => by
  refine Region.free_spec hop hf j oj hj hji ?_ hno
  have hlt : j < listed.size := by
    rcases Nat.lt_or_ge j listed.size with h' | h'
    · exact h'
    · simp [Array.getElem?_eq_none h'] at hl
  cases h0 : l0.getD j true with
  | false => rfl
  | true =>
    have h1 : l0.getD j false = true := by rw [getD_lt (d' := true) (by rw [← hL.size]; exact hlt)]; exact h0
    have h2 := hL.up j h1
    rw [getD_lt (d' := true) hlt, hl] at h2; cases h2

/-- A quiet one, taken first. -/
theorem DPP.takeQ {s : List Ent0} {H : List HE} {f : Fr} {σ : St} {K : Fr → St → Prop} {i : Nat} {o : Oper} {js : List Nat} {v : Value} {H' : List Hold} (hop : ops[i]? = some o) (hy : ∀ ρ w₀ a, Rel ρ σ w₀ → FrRel ρ f σ.next a → YieldsIf M.P ops (fun w => ∀ x ∈ H', x.at ρ w) o (ren ρ v) a) (hH' : ∀ x ∈ H', x.in σ) (hs : ∀ ρ w a, Rel ρ σ w → FrRel ρ f σ.next a → Sc σ.next v)
    (hi : ∀ x ∈ H, x.1.contains i = false) (hdA : ∀ x t, x ∈ A → dstOf ops x = some t → o.dst ≠ some t) (hbi : ∀ t, o.dst = some t → fe.get t = none) (h : DPP M nt ops A fe r s (H'.map (fun x => (js, x)) ++ H) (putF f o.dst v) σ K) : DPP M nt ops A fe r (.q i js :: s) H f σ K := by
  intro k l0 listed hp hL hsel hd ρ₀ σ₀ w₀ a₀ ρ w a B hF0 hm hH
  have hin : ∀ x ∈ H'.map (fun x => (js, x)) ++ H, x.2.in σ := fun x hx => by
    rcases List.mem_append.1 hx with hx | hx
    · obtain ⟨y, hy, rfl⟩ := List.mem_map.1 hx; exact hH' y hy
    · exact hH x hx
  simp only [planP, Bool.and_eq_true, Nat.blt_eq, Bool.not_eq_true', List.contains_iff_mem] at hp
  obtain ⟨⟨⟨⟨⟨⟨hn0, hiA⟩, hp0⟩, hp1⟩, hcl⟩, hjs⟩, hp2⟩ := hp
  have hiA' : i ∉ A := fun hh => by rw [List.contains_iff_mem.2 hh] at hiA; cases hiA
  obtain ⟨n, rfl⟩ : ∃ n, k = n + 1 := ⟨k - 1, by omega⟩
  have hR := hm.evo.rel
  have hdst : dstOf ops i = o.dst := by simp only [dstOf, getElem?_toList_eq, hop]
  have hF' := hm.fr.put (dst_lt hm.size (hd o (mem_ops hop))) (hs ρ w a hR hm.fr)
  have hw : Wait M nt ops A fe ρ₀ σ₀ w₀ (listed.setIfInBounds i true) B (putF f o.dst v) ρ σ w (a.put o.dst (ren ρ v)) := by
    have := hm.step (f' := putF f o.dst v) (v := ren ρ v) hiA' (Evo.refl hR) (fun x t hx ht => by rw [hdst]; exact hdA x t hx ht) (fun t ht => hbi t (by rw [← hdst]; exact ht)) (by rw [hdst]; exact hF') (fun x hx t ht => by
      have hne := hdA x t hx ht
      cases ho : o.dst with
      | none => exact hm.bare x hx t ht
      | some u =>
        simp only [putF, Fr.get_set]
        rw [if_neg (fun e => hne (by rw [ho, e]))]
        exact hm.bare x hx t ht)
    rwa [hdst] at this
  have hk := h n _ _ hp2 (hL.setO hiA') hsel hd ρ₀ σ₀ w₀ a₀ ρ w _ B hF0 hw hin
  rw [left_setO hL hiA'] at hk
  have hjs' : ∀ j ∈ js, waitsB ops j i = true ∧ j ≠ i := fun j hj => by
    have := List.all_eq_true.1 hjs j hj
    simpa using this
  rw [show n + 1 + left listed A = (n + left listed A) + 1 by omega]
  refine wpAnyL_mono (S := HS ρ (H'.map (fun x => (js, x)) ++ H)) (fun _ _ _ h => h) _ _ _ _ (fun l w' _ hw' x hx => hw' x (List.mem_append.2 (.inr hx))) ?_
  have hdown : ∀ (l : Array Bool) w', HS ρ (H'.map (fun x => (js, x)) ++ H) (l.setIfInBounds i true) w' → HS ρ (H'.map (fun x => (js, x)) ++ H) l w' := fun l w' hw' x hx hno => hw' x hx fun j hj => by
    have hji : i ≠ j := by
      rcases List.mem_append.1 hx with hx | hx
      · obtain ⟨y, _, rfl⟩ := List.mem_map.1 hx
        exact (hjs' j hj).2.symm
      · intro e; subst e
        have := hi x hx
        rw [List.contains_iff_mem.2 hj] at this; cases this
    rw [getD_set_ne false hji]; exact hno j hj
  have hT : ∀ (l : Array Bool) w', l.getD i true = false → (∀ j oj, ops[j]? = some oj → l.getD j false = true → ∀ e ∈ oj.after, Region.binds .any e = true → e.on ≠ i) → HS ρ (H'.map (fun x => (js, x)) ++ H) (l.setIfInBounds i true) w' → ∀ x ∈ H', x.at ρ w' := fun l w' hl hcl' hw' x hx => by
    refine hw' (js, x) (List.mem_append.2 (.inl (List.mem_map.2 ⟨x, hx, rfl⟩))) fun j hj => ?_
    obtain ⟨h1, h2⟩ := hjs' j hj
    rw [getD_set_ne false h2.symm]
    obtain ⟨oj, hoj, e, he, hb, heq⟩ := waitsB_true h1
    cases hlj : l.getD j false with
    | false => rfl
    | true => exact absurd heq (hcl' j oj hoj hlj e he hb)
  have hcl0 : ∀ j oj, ops[j]? = some oj → listed.getD j false = true → ∀ e ∈ oj.after, Region.binds .any e = true → e.on ≠ i := fun j oj hj hl => by
    have hjlt : j < ops.size := (Array.getElem?_eq_some_iff.1 hj).1
    have := List.all_eq_true.1 hcl j (List.mem_range.2 hjlt)
    simp only [hL.fin j hl, Bool.not_true, Bool.false_or, Bool.not_eq_true'] at this
    exact waitsB_false this hj
  exact wpAnyL_first (T := fun w => ∀ x ∈ H', x.at ρ w) hop (Region.noSelect_spec hsel) (fun c a₂ w₂ hq => by simp at hq) hdown hT _ listed a w
    (Region_free_up hop hL hp0) hcl0 (hL.ready_out hiA' hp1) (hy ρ w a hR hm.fr) (HS.of_in hR hin _) hk

/-- One that does something. -/
theorem DPP.eff {s : List Ent0} {H : List HE} {f : Fr} {σ : St} {K : Fr → St → Prop} {i : Nat} (hk : Ok M ops A fe) (hdA : ∀ x t, x ∈ A → dstOf ops x = some t → dstOf ops i ≠ some t) (hbi : ∀ t, dstOf ops i = some t → fe.get t = none)
    (hmain : ∀ F ρ w a, Rel ρ σ w → FrRel ρ f σ.next a → a.tmps.size = nt → wpOp M.P ops F i (fun a' w' => ∃ ρ' σ' v, a' = a.put (dstOf ops i) (ren ρ' v) ∧ Evo ρ σ w ρ' σ' w' ∧ Sc σ'.next v ∧ (∀ h ∈ rls i H, h.2.in σ') ∧ DPP M nt ops A fe r s (rls i H) (putF f (dstOf ops i) v) σ' K) a w) : DPP M nt ops A fe r (.e i :: s) H f σ K := by
  intro k l0 listed hp hL hsel hd ρ₀ σ₀ w₀ a₀ ρ w a B hF0 hm hH
  simp only [planP, Bool.and_eq_true, Nat.blt_eq, Bool.not_eq_true', List.contains_iff_mem, beq_iff_eq] at hp
  obtain ⟨⟨⟨⟨hn0, hiA⟩, hp1⟩, hp3⟩, hp2⟩ := hp
  have hiA' : i ∉ A := fun hh => by rw [List.contains_iff_mem.2 hh] at hiA; cases hiA
  obtain ⟨n, rfl⟩ : ∃ n, k = n + 1 := ⟨k - 1, by omega⟩
  generalize hu : left listed A = u
  have hdst : ∀ o, ops[i]? = some o → dstOf ops i = o.dst := fun o hop => by simp only [dstOf, getElem?_toList_eq, hop]
  -- the one that does something comes up
  have core : ∀ (u : Nat) (listed : Array Bool) (w : World) (a : Act) (B : Nat → Option Nat), Lst ops A l0 listed → Wait M nt ops A fe ρ₀ σ₀ w₀ listed B f ρ σ w a → left listed A = u → i ∈ Region.ready .any ops listed →
      wpOp M.P ops (fun e a' w' => e = .normal ∧ After nt ρ₀ σ₀ w₀ K a' w') i (fun a' w' => HS ρ H (listed.setIfInBounds i true) w' ∧ wpAnyL M.P .any ops (fun e a' w' => e = .normal ∧ After nt ρ₀ σ₀ w₀ K a' w') (HS ρ H) (n + u) (listed.setIfInBounds i true) a' w') a w := by
    intro u listed w a B hL hm hu hri
    refine wpOp_monoQ (Q := fun e a' w' => e = .normal ∧ After nt ρ₀ σ₀ w₀ K a' w') (fun _ _ _ h => h) (fun a' w' hh => ?_) (hmain _ ρ w a hm.evo.rel hm.fr hm.size)
    obtain ⟨ρ', σ', v, ha', hev, hv, hH', hdp⟩ := hh
    subst ha'
    have hlself : (listed.setIfInBounds i true).getD i false = true := getD_set_self (mem_ready.1 hri).1
    have hlt : ∀ t, dstOf ops i = some t → t < a.tmps.size := fun t ht => by
      rw [hm.size]
      simp only [dstOf] at ht
      split at ht
      · rename_i o ho
        have := hd o (List.mem_of_getElem? ho)
        simp only [dstOk, ht] at this
        exact Nat.le_of_ble_eq_true this
      · cases ht
    have hF' := (hm.fr.evo hev.ext hev.next).put hlt hv
    have hw := hm.step (f' := putF f (dstOf ops i) v) (v := ren ρ' v) hiA' hev hdA hbi hF' (fun x hx t ht => by
      have hne := hdA x t hx ht
      cases ho : dstOf ops i with
      | none => exact hm.bare x hx t ht
      | some u =>
        simp only [putF, Fr.get_set]
        rw [if_neg (fun e => hne (by rw [ho, e]))]
        exact hm.bare x hx t ht)
    have hgo := hdp n _ _ hp2 (hL.setO hiA') hsel hd ρ₀ σ₀ w₀ a₀ ρ' w' _ B hF0 hw hH'
    rw [left_setO hL hiA', hu] at hgo
    exact ⟨HS.of_rls hm.evo.rel hev.ext hH hlself (HS.of_in hev.rel hH' _), wpAnyL_mono (fun e a₂ w₂ h => h) _ _ _ _ (fun l w₂ hl' hw => HS.of_rls hm.evo.rel hev.ext hH (hl' i hlself) hw) hgo⟩
  induction u generalizing listed w a B with
  | zero =>
    have hri := hL.ready_out hiA' hp1
    show wpAnyL _ _ _ _ _ ((n + 0) + 1) listed a w
    refine wpAnyL_all rfl (fun h0 => by rw [h0] at hri; cases hri) fun j hj => ?_
    by_cases hjA : j ∈ A
    · have := left_setA hL hjA (mem_ready.1 hj).1; omega
    · have hjf := hL.ready_fin hj hjA
      rw [hp3, List.mem_singleton] at hjf
      subst hjf
      exact core 0 listed w a B hL hm hu hri
  | succ u ih =>
    have hri := hL.ready_out hiA' hp1
    rw [show n + 1 + (u + 1) = (n + (u + 1)) + 1 by omega]
    refine wpAnyL_all rfl (fun h0 => by rw [h0] at hri; cases hri) fun j hj => ?_
    by_cases hjA : j ∈ A
    · have hlf := left_setA hL hjA (mem_ready.1 hj).1
      rw [show n + (u + 1) = n + 1 + u by omega]
      exact DPP.one hL hd hk hF0 hm hH hjA hj fun B' w' a' hm' => ih _ (hL.setA hjA) _ _ _ hm' (by omega)
    · have hjf := hL.ready_fin hj hjA
      rw [hp3, List.mem_singleton] at hjf
      subst hjf
      exact core (u + 1) listed w a B hL hm hu hri

theorem DPP.quiet {s : List Ent0} {H : List HE} {f : Fr} {σ : St} {K : Fr → St → Prop} {i : Nat} {o : Oper} {js : List Nat} {v : Value} (hop : ops[i]? = some o) (hw : wantedA ops f o = some true) (hq : opQ M.toEnv f σ o.op = some v) (hi : ∀ x ∈ H, x.1.contains i = false) (hdA : ∀ x t, x ∈ A → dstOf ops x = some t → o.dst ≠ some t) (hbi : ∀ t, o.dst = some t → fe.get t = none)
    (h : DPP M nt ops A fe r s ((opHolds M.toEnv f σ o.op).map (fun x => (js, x)) ++ H) (putF f o.dst v) σ K) : DPP M nt ops A fe r (.q i js :: s) H f σ K :=
  DPP.takeQ hop (yields_quiet hw hq) (opHolds_in M.toEnv) (sc_quiet hq) hi hdA hbi h

theorem DPP.skip {s : List Ent0} {H : List HE} {f : Fr} {σ : St} {K : Fr → St → Prop} {i : Nat} {o : Oper} {js : List Nat} (hop : ops[i]? = some o) (hw : wantedA ops f o = some false) (hi : ∀ x ∈ H, x.1.contains i = false) (hdA : ∀ x t, x ∈ A → dstOf ops x = some t → o.dst ≠ some t) (hbi : ∀ t, o.dst = some t → fe.get t = none)
    (h : DPP M nt ops A fe r s H (putF f o.dst undef) σ K) : DPP M nt ops A fe r (.q i js :: s) H f σ K :=
  DPP.takeQ (H' := []) hop (yields_skip hw) (by simp) (fun _ _ _ _ _ => Sc_undef _) hi hdA hbi h

theorem DPP.write {s : List Ent0} {H : List HE} {f : Fr} {σ : St} {K : Fr → St → Prop} {i : Nat} {o : Oper} {res : Option Value} {σ' : St} (hk : Ok M ops A fe) (hdA : ∀ x t, x ∈ A → dstOf ops x = some t → o.dst ≠ some t) (hbi : ∀ t, o.dst = some t → fe.get t = none) (hop : ops[i]? = some o) (hw : wantedA ops f o = some true)
    (hq : opW M.toEnv f σ o.op = some (res, σ')) (hH' : ∀ h ∈ rls i H, h.2.in σ') (h : DPP M nt ops A fe r s (rls i H) (putF f o.dst (res.getD undef)) σ' K) : DPP M nt ops A fe r (.e i :: s) H f σ K := by
  have hdst : dstOf ops i = o.dst := by simp only [dstOf, getElem?_toList_eq, hop]
  refine DPP.eff hk (by rw [hdst]; exact hdA) (by rw [hdst]; exact hbi) fun F ρ w a hR hF hn => ?_
  obtain ⟨w', ρ', h1, h2, h3⟩ := opW_sound M.toEnv hR hF o hq
  unfold wpOp
  simp only [hop, wantedA_sound hF hw, if_true, Oper.wp, h1]
  refine .inl ?_
  cases res with
  | some v =>
    simp only [nxt, Oper.upon]
    exact ⟨ρ', σ', v, by rw [hdst], h2, h3 v rfl, hH', by rw [hdst]; exact h⟩
  | none =>
    simp only [nxt, Oper.upon]
    exact ⟨ρ', σ', undef, by rw [hdst, ren_undef], h2, Sc_undef _, hH', by rw [hdst]; exact h⟩

theorem DPP.call {s : List Ent0} {H : List HE} {f : Fr} {σ : St} {K : Fr → St → Prop} {i : Nat} {o : Oper} {c : Call} {g : FuncId} {args : List Value} (hk : Ok M ops A fe) (hdA : ∀ x t, x ∈ A → dstOf ops x = some t → o.dst ≠ some t) (hbi : ∀ t, o.dst = some t → fe.get t = none) (hop : ops[i]? = some o) (ho : o.op = .call c) (hw : wantedA ops f o = some true) (hc : callQ M f c = some (g, args))
    (h : WF M.toEnv g args σ (fun res σ' => (∀ h ∈ rls i H, h.2.in σ') ∧ DPP M nt ops A fe r s (rls i H) (putF f o.dst res) σ' K)) : DPP M nt ops A fe r (.e i :: s) H f σ K := by
  have hdst : dstOf ops i = o.dst := by simp only [dstOf, getElem?_toList_eq, hop]
  refine DPP.eff hk (by rw [hdst]; exact hdA) (by rw [hdst]; exact hbi) fun F ρ w a hR hF hn => ?_
  obtain ⟨h1, h2⟩ := callQ_sound M hF hc h.1 o.type w
  have hex : (execOp a.eval o).run M.P w = .ok (.enter g (args.map (ren ρ)).toArray) w := by
    simp only [execOp, ho]; exact h1
  unfold wpOp
  simp only [hop, wantedA_sound hF hw, if_true, Oper.wp, hex, Oper.upon]
  refine .inl ?_
  refine Calls.mono (h.2 ρ w hR h2) fun e w' ⟨v, he, res, σ', ρ', h3, h4, h5, h6, h7⟩ => ?_
  subst he
  subst h3
  exact ⟨ρ', σ', res, by rw [hdst], h4, h5, h6, by rw [hdst]; exact h7⟩

theorem DP.pend {sub : List Ent0} {H : List HE} {f : Fr} {σ : St} {K : Fr → St → Prop} {X : List Nat} (hk : Ok M ops A fe) (hnd : nodupB A = true) (hfe : fe = AH.bare ops f X) (h : DPP M nt ops A fe r sub H (AH.bare ops f A) σ K) : DP M nt ops (.p A sub :: r) H f σ K := by
  intro fuel listed hp hsel hd ρ w a hR hF hn hH
  simp only [planOk, Bool.and_eq_true, Nat.ble_eq, List.all_eq_true, List.contains_iff_mem] at hp
  obtain ⟨⟨hp1, hp2⟩, hp3⟩ := hp
  have hun : ∀ x ∈ A, listed.getD x false = false := fun x hx => by
    rw [getD_lt (d' := true) (ready_lt (hp2 x hx))]; exact (mem_ready.1 (hp2 x hx)).1
  have hL : Lst ops A listed listed := ⟨rfl, fun _ _ _ => rfl, nodupB_spec hnd, hp2⟩
  have hleft : left listed A = A.length := by
    unfold left
    rw [List.filter_eq_self.2 (fun x hx => by rw [hun x hx]; rfl)]
  have := h (fuel - A.length) listed listed hp3 hL hsel hd ρ σ w a ρ w a (fun _ => none) (by rw [hfe]; exact hF.bare ops X)
    ⟨Evo.refl hR, hF.bare ops A, by rw [hfe]; exact hF.bare ops X, hn, fun x hx t ht => bare_none hx ht, fun x hx hl => (by rw [hun x hx] at hl; cases hl), fun x b h => (by cases h), fun x y b h => (by cases h)⟩ hH
  rw [hleft] at this
  rwa [show fuel - A.length + A.length = fuel by omega] at this
end
end
end AH
end
