/-
  AH 19: code, step by step, as a stack of what is left to do.
-/
import Derived.Test.YtognbiffhgpoaaaGreatAh18
set_option linter.unusedSimpArgs false
set_option linter.unusedVariables false
set_option linter.unusedSectionVars false
namespace AH
open Go
noncomputable section

def Fin (P : Program) (m : Machine) (K : FuncId) (cs : List Frame) (R : Value → World → Prop) : Prop :=
  ∃ v w' fr, R v w' ∧ Steps P m (lone fr cs w') ∧ fr.fn = K ∧ fr.leaving P w' (.returned v)

theorem Fin.of_steps {P : Program} {m m' : Machine} {K : FuncId} {cs : List Frame} {R : Value → World → Prop} (h : Steps P m m') (k : Fin P m' K cs R) : Fin P m K cs R := by
  obtain ⟨v, w', fr, h1, h2, h3⟩ := k
  exact ⟨v, w', fr, h1, h.trans h2, h3⟩

theorem Fin.mono {P : Program} {m : Machine} {K : FuncId} {cs : List Frame} {R R' : Value → World → Prop} (k : Fin P m K cs R) (h : ∀ v w, R v w → R' v w) : Fin P m K cs R' := by
  obtain ⟨v, w', fr, h1, h2⟩ := k
  exact ⟨v, w', fr, h _ _ h1, h2⟩

def base (K : FuncId) : Frame := { (default : Frame) with fn := K, kind := .normal }

/-- From these things to do on, in the frame of the function K (of nt slots), the call returns. -/
def VM (M : EnvM) (K : FuncId) (nt : Nat) (k : List Item) (f : Fr) (σ : St) (R : Value → St → Prop) : Prop :=
  ∀ ρ w a cs, Rel ρ σ w → FrRel ρ f σ.next a → a.tmps.size = nt → Fin M.P (lone ((base K).at a k) cs w) K cs (Lift ρ σ w R)

theorem Lift.evo {ρ ρ' : Nat → Loc} {σ σ' : St} {w w' : World} {R : Value → St → Prop} {v : Value} {w₂ : World} (h : Evo ρ σ w ρ' σ' w') (k : Lift ρ' σ' w' R v w₂) : Lift ρ σ w R v w₂ := by
  obtain ⟨r, σ₂, ρ₂, h1, h2, h3⟩ := k
  exact ⟨r, σ₂, ρ₂, h1, h.trans h2, h3⟩

section
variable {M : EnvM} {K : FuncId} {nt : Nat} {k : List Item} {f : Fr} {σ : St} {R : Value → St → Prop}

theorem VM.step {k k' : List Item} (hs : ∀ (a : Act) cs w, step M.P (lone ((base K).at a k) cs w) = .next (lone ((base K).at a k') cs w)) (h : VM M K nt k' f σ R) : VM M K nt k f σ R :=
  fun ρ w a cs hR hF hn => .of_steps (.one (hs a cs w)) (h ρ w a cs hR hF hn)

theorem VM.skip (h : VM M K nt k f σ R) : VM M K nt (.code .skip :: k) f σ R := VM.step (fun _ _ _ => step_skip) h
theorem VM.inBlock {id : Nat} (h : VM M K nt k f σ R) : VM M K nt (.inBlock id :: k) f σ R := VM.step (fun _ _ _ => step_inBlock) h
theorem VM.seq {x y : Code} (h : VM M K nt (.code x :: .code y :: k) f σ R) : VM M K nt (.code (.seq x y) :: k) f σ R := VM.step (fun _ _ _ => step_seq) h
theorem VM.block {id : Nat} {c : Code} (h : VM M K nt (.code c :: .inBlock id :: k) f σ R) : VM M K nt (.code (.block id c) :: k) f σ R := VM.step (fun _ _ _ => step_block) h
theorem VM.loop1 {c : Code} (h : VM M K nt (.code c :: .inLoop c :: k) f σ R) : VM M K nt (.code (.loop c) :: k) f σ R := VM.step (fun _ _ _ => step_loop) h
theorem VM.inLoop {c : Code} (h : VM M K nt (.code c :: .inLoop c :: k) f σ R) : VM M K nt (.inLoop c :: k) f σ R := VM.step (fun _ _ _ => step_inLoop) h
theorem VM.exit {id : Nat} {k' : List Item} (hx : exitTo id k = some k') (h : VM M K nt k' f σ R) : VM M K nt (.code (.exit id) :: k) f σ R := VM.step (fun _ _ _ => step_exit hx) h
theorem VM.cond {c : Operand} {x y : Code} {t : Bool} (hc : opd f c = some (.bool t)) (h : VM M K nt (.code (bif t then x else y) :: k) f σ R) : VM M K nt (.code (.cond c x y) :: k) f σ R := by
  intro ρ w a cs hR hF hn
  have hv : a.eval c = .bool t := by have := (opd_sound hF hc).1; simpa using this
  have hs := step_cond (P := M.P) (b := base K) (a := a) (k := k) (cs := cs) (w := w) (x := x) (y := y) hv
  refine .of_steps (.one hs) ?_
  cases t
  · exact h ρ w a cs hR hF hn
  · exact h ρ w a cs hR hF hn

theorem VM.cond_split {c : Operand} {x y : Code} {t : Bool} (hc : opd f c = some (.bool t)) (h1 : t = true → VM M K nt (.code x :: k) f σ R) (h2 : t = false → VM M K nt (.code y :: k) f σ R) : VM M K nt (.code (.cond c x y) :: k) f σ R := by
  refine VM.cond hc ?_
  cases t
  · exact h2 rfl
  · exact h1 rfl

/-- What a frame that knows less comes to, one that knows more comes to. -/
theorem VM.weaken {f' : Fr} (hf : ∀ t v, f'.get t = some v → f.get t = some v) (hd : f'.df = f.df) (h : VM M K nt k f' σ R) : VM M K nt k f σ R :=
  fun ρ w a cs hR hF hn => h ρ w a cs hR ⟨fun t v ht => hF.slot t v (hf t v ht), fun t v ht => hF.sc t v (hf t v ht), by rw [hd]; exact hF.defers, by rw [hd]; exact hF.dsc⟩ hn

theorem VM.mono {R' : Value → St → Prop} (h : VM M K nt k f σ R) (hr : ∀ r σ', σ.next ≤ σ'.next → R r σ' → R' r σ') : VM M K nt k f σ R' :=
  fun ρ w a cs hR hF hn => (h ρ w a cs hR hF hn).mono fun v w' ⟨r, σ', ρ', h1, h2, h3, h4⟩ => ⟨r, σ', ρ', h1, h2, h3, hr r σ' h2.next h4⟩

/-- A loop, by a relation and a measure. -/
theorem VM.loop {c : Code} (I : Fr → St → Prop) (μ : Fr → St → Nat) (h0 : I f σ)
    (round : ∀ f σ, I f σ → (∀ f' σ', I f' σ' → μ f' σ' < μ f σ → VM M K nt (.inLoop c :: k) f' σ' R) → VM M K nt (.code c :: .inLoop c :: k) f σ R) : VM M K nt (.code (.loop c) :: k) f σ R := by
  have key : ∀ n f σ, μ f σ = n → I f σ → VM M K nt (.code c :: .inLoop c :: k) f σ R := by
    intro n
    induction n using Nat.strongRecOn with
    | _ n ih =>
      intro f σ hn hI
      exact round f σ hI fun f' σ' hI' hlt => VM.inLoop (ih (μ f' σ') (hn ▸ hlt) f' σ' rfl hI')
  exact VM.loop1 (key _ f σ rfl h0)

theorem VM.region {id : Nat} {ops : Array Oper} (hd : ops.toList.all (dstOk nt) = true) (h : WL M nt ops ops.toList f σ (fun f' σ' => VM M K nt k f' σ' R)) : VM M K nt (.code (.region id ops false) :: k) f σ R := by
  intro ρ w a cs hR hF hn
  have hw := h (List.all_eq_true.1 hd) ρ w a hR hF hn
  obtain ⟨e, a', w', ⟨he, ρ', σ', f', h1, h2, h3, h4⟩, harr⟩ := wp_region_list (id := id) hw (base K) k cs
  subst he
  exact .of_steps harr ((h4 ρ' w' a' cs h1.rel h2 h3).mono fun v w₂ => Lift.evo h1)

/-! ### Results -/

def resOne (E : Env) (f : Fr) (σ : St) : ResultVar → Option Value
  | .tmp t => f.get t
  | .cell t ty => match f.get t, E.ty ty with
    | some (.pointer (some ad)), some i => ldVar i σ ad
    | _, _ => none

def resAll (E : Env) (f : Fr) (σ : St) : List ResultVar → Option (List Value)
  | [] => some []
  | x :: r => match resOne E f σ x with
    | some v => (match resAll E f σ r with | some l => some (v :: l) | none => none)
    | none => none

def resQ (E : Env) (f : Fr) (σ : St) (rs : List ResultVar) : Option Value :=
  match resAll E f σ rs with
  | some [v] => some v
  | some vs => some (.tuple vs.toArray)
  | none => none

theorem ldVar_cells {i : TyI} {σ : St} {ad : Addr} {v : Value} (h : ldVar i σ ad = some v) : ∃ l, ldCells σ ad (bif i.agg then i.size else 1) = some l := by
  unfold ldVar at h
  cases hA : i.agg with
  | true => simp only [hA, cond_true] at h ⊢; split at h; exact ⟨_, ‹_›⟩; cases h
  | false => simp only [hA, cond_false] at h ⊢; split at h; exact ⟨_, ‹_›⟩; cases h

theorem ldVar_sc {ρ : Nat → Loc} {σ : St} {w : World} (hR : Rel ρ σ w) {i : TyI} {ad : Addr} {v : Value} (h : ldVar i σ ad = some v) : Sc σ.next v := by
  obtain ⟨l, hl⟩ := ldVar_cells h
  have hsc := ldCells_sc hR hl
  unfold ldVar at h
  cases hA : i.agg with
  | true =>
    simp only [hA, cond_true] at h hl
    rw [hl] at h
    simp only [Option.some.injEq] at h; subst h
    exact Sc_agg.2 (by simpa using hsc)
  | false =>
    simp only [hA, cond_false] at h hl
    rw [hl] at h
    split at h
    · rename_i u e
      simp only [Option.some.injEq] at h e; subst h; subst e
      exact hsc _ (by simp)
    · cases h

theorem run_ldVar' (E : Env) {ρ : Nat → Loc} {σ : St} {w : World} (hR : Rel ρ σ w) {t : Nat} {i : TyI} (ht : E.ty t = some i) {ad : Addr} {v : Value} (h : ldVar i σ ad = some v) : (loadVar t (renA ρ ad)).run E.P w = .ok (ren ρ v) w := by
  obtain ⟨l, hl⟩ := ldVar_cells h
  exact run_ldVar E (ρ := ρ) (w := w) ht h hl fun x hx => by
    obtain ⟨k, u, h1, rfl⟩ := mem_cellHolds hx
    exact Hold.at_of_in hR (ldCells_get hl h1)

theorem resAll_sound (E : Env) {ρ : Nat → Loc} {w : World} (hR : Rel ρ σ w) {a : Act} (hF : FrRel ρ f σ.next a) : ∀ {rs : List ResultVar} {vs : List Value}, resAll E f σ rs = some vs →
    (rs.mapM (fun | .tmp t => pure (a.tmps.getD t undef) | .cell t ty => do loadVar ty (← asAddr (a.tmps.getD t undef)) : ResultVar → Sem Value)).run E.P w = .ok (vs.map (ren ρ)) w ∧ Scs σ.next vs
  | [], vs, h => by simp only [resAll, Option.some.injEq] at h; subst h; exact ⟨by simp, fun v hv => by simp at hv⟩
  | x :: r, vs, h => by
    simp only [resAll] at h
    split at h
    · rename_i v hv
      split at h
      · rename_i l hl
        simp only [Option.some.injEq] at h; subst h
        obtain ⟨h1, h2⟩ := resAll_sound E hR hF hl
        have key : ((match x with | .tmp t => pure (a.tmps.getD t undef) | .cell t ty => do loadVar ty (← asAddr (a.tmps.getD t undef)) : Sem Value)).run E.P w = .ok (ren ρ v) w ∧ Sc σ.next v := by
          cases x with
          | tmp t =>
            simp only [resOne] at hv
            have := hF.slot t v hv
            exact ⟨by simp [Array.getD_eq_getD_getElem?, this], hF.sc t v hv⟩
          | cell t ty =>
            simp only [resOne] at hv
            split at hv
            · rename_i ad i hg ht
              have := hF.slot t _ hg
              refine ⟨?_, ldVar_sc hR hv⟩
              have e1 : a.tmps.getD t undef = .pointer (some (renA ρ ad)) := by simp [Array.getD_eq_getD_getElem?, this]
              simp only [e1, asAddr, Sem.run_bind, Sem.run_pure, Result.andThen_ok]
              exact run_ldVar' E hR ht hv
            · cases hv
        refine ⟨?_, fun u hu => by rcases List.mem_cons.1 hu with rfl | hu; exact key.2; exact h2 u hu⟩
        rw [List.mapM_cons]
        simp only [Sem.run_bind, h1, Sem.run_pure]
        have k1 := key.1
        cases x <;> simp only [Sem.run_bind] at k1 ⊢ <;> rw [k1] <;> simp only [Result.andThen_ok, h1, List.map_cons]
      · cases h
    · cases h

theorem resQ_sound (E : Env) {ρ : Nat → Loc} {w : World} (hR : Rel ρ σ w) {a : Act} (hF : FrRel ρ f σ.next a) {fn : Func} {v : Value} (h : resQ E f σ fn.results.toList = some v) : (results fn a.tmps).run E.P w = .ok (ren ρ v) w ∧ Sc σ.next v := by
  unfold resQ at h
  have main : ∀ vs, resAll E f σ fn.results.toList = some vs → (results fn a.tmps).run E.P w = .ok (if h : vs.length = 1 then ren ρ (vs[0]) else .tuple (vs.map (ren ρ)).toArray) w ∧ Scs σ.next vs := by
    intro vs hvs
    obtain ⟨h1, h2⟩ := resAll_sound E hR hF hvs
    refine ⟨?_, h2⟩
    unfold results
    rw [Array.mapM_eq_mapM_toList]
    simp only [Sem.run_bind, Sem.run_map]
    refine Eq.trans (congrArg (fun (x : Result (List Value)) => ((x.andThen fun a w' => Result.ok a.toArray w').andThen fun a_1 w' => (pure (if h : a_1.size = 1 then a_1[0] else Value.tuple a_1) : Sem Value).run E.P w')) (Eq.trans ?_ h1)) ?_
    · congr 1
    · simp only [Result.andThen_ok, Sem.run_pure, List.size_toArray, List.length_map]
      split
      · rename_i hl; simp
      · rfl
  split at h
  · rename_i u hu
    simp only [Option.some.injEq] at h; subst h
    obtain ⟨h1, h2⟩ := main _ hu
    exact ⟨by rw [h1]; simp, h2 _ (by simp)⟩
  · rename_i vs hne hu
    simp only [Option.some.injEq] at h; subst h
    obtain ⟨h1, h2⟩ := main _ hu
    refine ⟨?_, Sc_tuple.2 (by simpa using h2)⟩
    rw [h1]
    have : vs.length ≠ 1 := fun hl => by
      match vs, hl, hne with
      | [x], _, hne => exact hne x rfl
    simp [this]
  · cases h

theorem leaving_of {a : Act} {todo : List Item} {w : World} {fn : Func} {v : Value} (hf : M.P.funcs[K]? = some fn) (hd : a.defers = []) (hr : (results fn a.tmps).run M.P w = .ok v w) : ({ (base K).at a todo with mode := .returning } : Frame).leaving M.P w (.returned v) :=
  ⟨rfl, hd, rfl, fn, hf, hr⟩

theorem VM.ret {fn : Func} {v : Value} (hdf : f.df = []) (hf : M.P.funcs[K]? = some fn) (hv : resQ M.toEnv f σ fn.results.toList = some v) (h : R v σ) : VM M K nt (.code .ret :: k) f σ R := by
  intro ρ w a cs hR hF hn
  obtain ⟨h1, h2⟩ := resQ_sound M.toEnv hR hF hv
  exact ⟨ren ρ v, w, _, ⟨v, σ, ρ, rfl, Evo.refl hR, h2, h⟩, .one step_ret, rfl, leaving_of hf (by rw [hF.defers, hdf]; rfl) h1⟩

theorem VM.done {fn : Func} {v : Value} (hdf : f.df = []) (hf : M.P.funcs[K]? = some fn) (hv : resQ M.toEnv f σ fn.results.toList = some v) (h : R v σ) : VM M K nt [] f σ R := by
  intro ρ w a cs hR hF hn
  obtain ⟨h1, h2⟩ := resQ_sound M.toEnv hR hF hv
  exact ⟨ren ρ v, w, _, ⟨v, σ, ρ, rfl, Evo.refl hR, h2, h⟩, .one step_end, rfl, leaving_of hf (by rw [hF.defers, hdf]; rfl) h1⟩

/-! ### Calls -/

def initF : Nat → List Value → Fr → Fr
  | _, [], f => f
  | i, v :: r, f => initF (i + 1) r (f.set i v)

theorem initF_get : ∀ (l : List Value) (i : Nat) (f : Fr) (t : Nat) (v : Value), (initF i l f).get t = some v → (i ≤ t ∧ l[t - i]? = some v) ∨ f.get t = some v
  | [], i, f, t, v, h => .inr h
  | u :: r, i, f, t, v, h => by
    simp only [initF] at h
    rcases initF_get r (i + 1) (f.set i u) t v h with ⟨h1, h2⟩ | h2
    · refine .inl ⟨by omega, ?_⟩
      rw [show t - i = (t - (i + 1)) + 1 by omega]
      simpa using h2
    · rw [Fr.get_set] at h2
      split at h2
      · rename_i e; subst e
        simp only [Option.some.injEq] at h2; subst h2
        exact .inl ⟨Nat.le_refl _, by simp⟩
      · exact .inr h2

theorem initF_df : ∀ (l : List Value) (i : Nat) (f : Fr), (initF i l f).df = f.df
  | [], _, _ => rfl
  | u :: r, i, f => (initF_df r (i + 1) (f.set i u)).trans rfl

theorem WF.of_VM {fn : Func} {c : Code} {args : List Value} (hf : M.P.funcs[K]? = some fn) (hname : (fn.name == "runtime.NumGoroutine") = false) (hb : fn.body = some c) (hl : args.length ≤ fn.ntmps)
    (h : VM M K fn.ntmps [.code c] (initF 0 args .nil) σ R) : WF M.toEnv K args σ R := by
  refine ⟨⟨fn, hf, hname, by rw [hb]; rfl⟩, fun ρ w hR hs cs => ?_⟩
  have hlen : (args.map (ren ρ)).toArray.size = args.length := by simp
  have henter : Frame.enter M.P K (args.map (ren ρ)).toArray .normal =
      (base K).at { tmps := (args.map (ren ρ)).toArray ++ Array.replicate (fn.ntmps - (args.map (ren ρ)).toArray.size) undef, defers := [] } [.code c] := by
    simp [Frame.enter, Frame.at, hf, hb, base]
  obtain ⟨v, w', fr, h1, h2, h3, h4⟩ := h ρ w { tmps := (args.map (ren ρ)).toArray ++ Array.replicate (fn.ntmps - (args.map (ren ρ)).toArray.size) undef, defers := [] } cs hR
    ⟨fun t v ht => by
      rcases initF_get args 0 .nil t v ht with ⟨_, h5⟩ | h5
      · have hlt : t < args.length := by
          rcases Nat.lt_or_ge t args.length with h' | h'
          · exact h'
          · rw [Nat.sub_zero, List.getElem?_eq_none h'] at h5; cases h5
        rw [Array.getElem?_append_left (by simpa using hlt)]
        simp only [Nat.sub_zero] at h5
        simp [h5]
      · simp at h5, fun t v ht => by
      rcases initF_get args 0 .nil t v ht with ⟨_, h5⟩ | h5
      · exact hs v (List.mem_of_getElem? h5)
      · simp at h5, by rw [initF_df]; rfl, by rw [initF_df]; intro i hi; simp at hi⟩ (by simp; omega)
  rw [← henter] at h2
  exact ⟨.returned v, w', fr, ⟨v, rfl, h1⟩, h2, h3, h4⟩

end
end
end AH
