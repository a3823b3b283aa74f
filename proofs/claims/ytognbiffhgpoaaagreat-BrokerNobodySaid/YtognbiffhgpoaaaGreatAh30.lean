/-
  AH 30: a function's run that may forget what it has made: judged against what was known at its beginning.
-/
import Derived.Test.YtognbiffhgpoaaaGreatAh29
set_option linter.unusedSimpArgs false
set_option linter.unusedVariables false
set_option linter.unusedSectionVars false
namespace AH
open Go
noncomputable section

/-- As Evo, but only numbers below nB go on meaning what they meant. -/
structure EvoB (nB : Nat) (ρ : Nat → Loc) (σ : St) (w : World) (ρ' : Nat → Loc) (σ' : St) (w' : World) : Prop where
  rel : Rel ρ' σ' w'
  ext : ∀ i, i < nB → ρ' i = ρ i
  next : nB ≤ σ'.next
  size : w.heap.size ≤ w'.heap.size
  os : w'.os = w.os
  tape : w'.tape = w.tape
  output : w'.output = w.output
  own : ∀ i, (σ'.get i).wr = true → (∃ j, (σ.get j).wr = true ∧ (ρ j).b = (ρ' i).b) ∨ w.heap.size ≤ (ρ' i).b
  fra : ∀ b, b < w.heap.size → (∀ i, (σ.get i).wr = true → (ρ i).b ≠ b) → w'.heap[b]? = w.heap[b]?
  liv : ∀ i, (σ'.get i).live = true → (∃ j, (σ.get j).live = true ∧ (ρ j).b = (ρ' i).b) ∨ w.heap.size ≤ (ρ' i).b

theorem Evo.toB {nB : Nat} {ρ ρ' : Nat → Loc} {σ σ' : St} {w w' : World} (h : Evo ρ σ w ρ' σ' w') (hn : nB ≤ σ.next) : EvoB nB ρ σ w ρ' σ' w' :=
  ⟨h.rel, fun i hi => h.ext i (Nat.lt_of_lt_of_le hi hn), Nat.le_trans hn h.next, h.size, h.os, h.tape, h.output, h.own, h.fra, h.liv⟩

theorem EvoB.toEvo {ρ ρ' : Nat → Loc} {σ σ' : St} {w w' : World} (h : EvoB σ.next ρ σ w ρ' σ' w') : Evo ρ σ w ρ' σ' w' :=
  ⟨h.rel, h.ext, h.next, h.size, h.os, h.tape, h.output, h.own, h.fra, h.liv⟩

theorem EvoB.trans {nB : Nat} {ρ ρ' ρ'' : Nat → Loc} {σ σ' σ'' : St} {w w' w'' : World} (h : EvoB nB ρ σ w ρ' σ' w') (k : EvoB nB ρ' σ' w' ρ'' σ'' w'') : EvoB nB ρ σ w ρ'' σ'' w'' := by
  refine ⟨k.rel, fun i hi => (k.ext i hi).trans (h.ext i hi), k.next, Nat.le_trans h.size k.size, k.os.trans h.os, k.tape.trans h.tape, k.output.trans h.output, fun i hi => ?_, fun b hb hi => ?_, fun i hi => ?_⟩
  · rcases k.own i hi with ⟨j, hj, e⟩ | hge
    · rcases h.own j hj with ⟨j', hj', e'⟩ | hge'
      · exact .inl ⟨j', hj', e'.trans e⟩
      · exact .inr (e ▸ hge')
    · exact .inr (Nat.le_trans h.size hge)
  · refine (k.fra b (Nat.lt_of_lt_of_le hb h.size) fun i hi' e => ?_).trans (h.fra b hb hi)
    rcases h.own i hi' with ⟨j, hj, e'⟩ | hge
    · exact hi j hj (e'.trans e)
    · omega
  · rcases k.liv i hi with ⟨j, hj, e⟩ | hge
    · rcases h.liv j hj with ⟨j', hj', e'⟩ | hge'
      · exact .inl ⟨j', hj', e'.trans e⟩
      · exact .inr (e ▸ hge')
    · exact .inr (Nat.le_trans h.size hge)

def LiftB (nB : Nat) (ρ : Nat → Loc) (σ : St) (w : World) (R : Value → St → Prop) (v : Value) (w' : World) : Prop :=
  ∃ r σ' ρ', v = ren ρ' r ∧ EvoB nB ρ σ w ρ' σ' w' ∧ Sc σ'.next r ∧ R r σ'

theorem LiftB.evo {nB : Nat} {ρ ρ' : Nat → Loc} {σ σ' : St} {w w' : World} {R : Value → St → Prop} {v : Value} {w₂ : World} (h : EvoB nB ρ σ w ρ' σ' w') (k : LiftB nB ρ' σ' w' R v w₂) : LiftB nB ρ σ w R v w₂ := by
  obtain ⟨r, σ₂, ρ₂, h1, h2, h3⟩ := k
  exact ⟨r, σ₂, ρ₂, h1, h.trans h2, h3⟩

/-- From these things to do on the call returns; what it leaves is told against the numbers below nB. -/
def VB (nB : Nat) (M : EnvM) (K : FuncId) (nt : Nat) (k : List Item) (f : Fr) (σ : St) (R : Value → St → Prop) : Prop :=
  nB ≤ σ.next → ∀ ρ w a cs, Rel ρ σ w → FrRel ρ f σ.next a → a.tmps.size = nt → Fin M.P (lone ((base K).at a k) cs w) K cs (LiftB nB ρ σ w R)

section
variable {nB : Nat} {M : EnvM} {K : FuncId} {nt : Nat} {k : List Item} {f : Fr} {σ : St} {R : Value → St → Prop}

theorem VB.of_VM (h : VM M K nt k f σ R) : VB nB M K nt k f σ R := fun hn ρ w a cs hR hF hs =>
  (h ρ w a cs hR hF hs).mono fun v w' ⟨r, σ', ρ', h1, h2, h3⟩ => ⟨r, σ', ρ', h1, h2.toB hn, h3⟩

theorem VB.toVM (h : VB σ.next M K nt k f σ R) : VM M K nt k f σ R := fun ρ w a cs hR hF hs =>
  (h (Nat.le_refl _) ρ w a cs hR hF hs).mono fun v w' ⟨r, σ', ρ', h1, h2, h3⟩ => ⟨r, σ', ρ', h1, h2.toEvo, h3⟩

theorem VB.step {k k' : List Item} (hs : ∀ (a : Act) cs w, step M.P (lone ((base K).at a k) cs w) = .next (lone ((base K).at a k') cs w)) (h : VB nB M K nt k' f σ R) : VB nB M K nt k f σ R :=
  fun hb ρ w a cs hR hF hn => .of_steps (.one (hs a cs w)) (h hb ρ w a cs hR hF hn)

theorem VB.skip (h : VB nB M K nt k f σ R) : VB nB M K nt (.code .skip :: k) f σ R := VB.step (fun _ _ _ => step_skip) h
theorem VB.inBlock {id : Nat} (h : VB nB M K nt k f σ R) : VB nB M K nt (.inBlock id :: k) f σ R := VB.step (fun _ _ _ => step_inBlock) h
theorem VB.seq {x y : Code} (h : VB nB M K nt (.code x :: .code y :: k) f σ R) : VB nB M K nt (.code (.seq x y) :: k) f σ R := VB.step (fun _ _ _ => step_seq) h
theorem VB.block {id : Nat} {c : Code} (h : VB nB M K nt (.code c :: .inBlock id :: k) f σ R) : VB nB M K nt (.code (.block id c) :: k) f σ R := VB.step (fun _ _ _ => step_block) h
theorem VB.loop1 {c : Code} (h : VB nB M K nt (.code c :: .inLoop c :: k) f σ R) : VB nB M K nt (.code (.loop c) :: k) f σ R := VB.step (fun _ _ _ => step_loop) h
theorem VB.inLoop {c : Code} (h : VB nB M K nt (.code c :: .inLoop c :: k) f σ R) : VB nB M K nt (.inLoop c :: k) f σ R := VB.step (fun _ _ _ => step_inLoop) h
theorem VB.exit {id : Nat} {k' : List Item} (hx : exitTo id k = some k') (h : VB nB M K nt k' f σ R) : VB nB M K nt (.code (.exit id) :: k) f σ R := VB.step (fun _ _ _ => step_exit hx) h

theorem VB.cond {c : Operand} {x y : Code} {t : Bool} (hc : opd f c = some (.bool t)) (h : VB nB M K nt (.code (bif t then x else y) :: k) f σ R) : VB nB M K nt (.code (.cond c x y) :: k) f σ R := by
  intro hb ρ w a cs hR hF hn
  have hv : a.eval c = .bool t := by have := (opd_sound hF hc).1; simpa using this
  have hs := step_cond (P := M.P) (b := base K) (a := a) (k := k) (cs := cs) (w := w) (x := x) (y := y) hv
  refine .of_steps (.one hs) ?_
  cases t
  · exact h hb ρ w a cs hR hF hn
  · exact h hb ρ w a cs hR hF hn

theorem VB.cond_split {c : Operand} {x y : Code} {t : Bool} (hc : opd f c = some (.bool t)) (h1 : t = true → VB nB M K nt (.code x :: k) f σ R) (h2 : t = false → VB nB M K nt (.code y :: k) f σ R) : VB nB M K nt (.code (.cond c x y) :: k) f σ R := by
  refine VB.cond hc ?_
  cases t
  · exact h2 rfl
  · exact h1 rfl

theorem VB.mono {R' : Value → St → Prop} (h : VB nB M K nt k f σ R) (hr : ∀ r σ', nB ≤ σ'.next → R r σ' → R' r σ') : VB nB M K nt k f σ R' :=
  fun hb ρ w a cs hR hF hn => (h hb ρ w a cs hR hF hn).mono fun v w' ⟨r, σ', ρ', h1, h2, h3, h4⟩ => ⟨r, σ', ρ', h1, h2, h3, hr r σ' h2.next h4⟩

theorem VB.loop {c : Code} (I : Fr → St → Prop) (μ : Fr → St → Nat) (h0 : I f σ)
    (round : ∀ f σ, I f σ → (∀ f' σ', I f' σ' → μ f' σ' < μ f σ → VB nB M K nt (.inLoop c :: k) f' σ' R) → VB nB M K nt (.code c :: .inLoop c :: k) f σ R) : VB nB M K nt (.code (.loop c) :: k) f σ R := by
  have key : ∀ n f σ, μ f σ = n → I f σ → VB nB M K nt (.code c :: .inLoop c :: k) f σ R := by
    intro n
    induction n using Nat.strongRecOn with
    | _ n ih =>
      intro f σ hn hI
      exact round f σ hI fun f' σ' hI' hlt => VB.inLoop (ih (μ f' σ') (hn ▸ hlt) f' σ' rfl hI')
  exact VB.loop1 (key _ f σ rfl h0)

theorem VB.region {id : Nat} {ops : Array Oper} (hd : ops.toList.all (dstOk nt) = true) (h : WL M nt ops ops.toList f σ (fun f' σ' => VB nB M K nt k f' σ' R)) : VB nB M K nt (.code (.region id ops false) :: k) f σ R := by
  intro hb ρ w a cs hR hF hn
  have hw := h (List.all_eq_true.1 hd) ρ w a hR hF hn
  obtain ⟨e, a', w', ⟨he, ρ', σ', f', h1, h2, h3, h4⟩, harr⟩ := wp_region_list (id := id) hw (base K) k cs
  subst he
  exact .of_steps harr ((h4 (Nat.le_trans hb h1.next) ρ' w' a' cs h1.rel h2 h3).mono fun v w₂ => LiftB.evo (h1.toB hb))

theorem VB.draw {id : Nat} {ops : Array Oper} (plan : List Ent) (hp : planGood nt ops plan = true) (h : DP M nt ops plan [] f σ (fun f' σ' => VB nB M K nt k f' σ' R)) : VB nB M K nt (.code (.region id ops true) :: k) f σ R := by
  intro hb ρ w a cs hR hF hn
  simp only [planGood, Bool.and_eq_true] at hp
  obtain ⟨⟨hp1, hp2⟩, hp3⟩ := hp
  have hlike := Like.drew w
  have hw := wp_region_L (id := id) (a := a) M.mixed (h ops.size _ hp3 hp1 (List.all_eq_true.1 hp2) ρ { w with drawn := w.drawn + 1 } a (hR.like hlike) hF hn (by simp))
  obtain ⟨e, a', w', ⟨he, ρ', σ', f', h1, h2, h3, h4⟩, harr⟩ := hw (base K) k cs
  subst he
  have hev := (Evo.like hR hlike).trans h1
  exact .of_steps harr ((h4 (Nat.le_trans hb hev.next) ρ' w' a' cs hev.rel h2 h3).mono fun v w₂ => LiftB.evo (hev.toB hb))

theorem VB.ret {fn : Func} {v : Value} (hdf : f.df = []) (hf : M.P.funcs[K]? = some fn) (hv : resQ M.toEnv f σ fn.results.toList = some v) (h : R v σ) : VB nB M K nt (.code .ret :: k) f σ R := VB.of_VM (VM.ret hdf hf hv h)
theorem VB.done {fn : Func} {v : Value} (hdf : f.df = []) (hf : M.P.funcs[K]? = some fn) (hv : resQ M.toEnv f σ fn.results.toList = some v) (h : R v σ) : VB nB M K nt [] f σ R := VB.of_VM (VM.done hdf hf hv h)

/-- What has been made may be forgotten; its numbers are given anew. -/
theorem VB.forget {f' : Fr} {σ' : St} (hn : nB ≤ σ'.next) (hg : ∀ i, σ'.get i = σ.get i ∨ σ'.get i = .dead) (hsc : ∀ i, (σ'.get i).sc σ'.next) (hlt : ∀ i, (σ'.get i).live = true → i < σ'.next)
    (hf : ∀ t v, f'.get t = some v → f.get t = some v ∧ Sc σ'.next v) (hd : f'.df = f.df) (hdn : ∀ i ∈ f.df, i < σ'.next) (h : VB nB M K nt k f' σ' R) : VB nB M K nt k f σ R := by
  intro hb ρ w a cs hR hF hs
  have hlive : ∀ i, (σ'.get i).live = true → σ'.get i = σ.get i := fun i hi => by
    rcases hg i with h | h
    · exact h
    · rw [h] at hi; simp [Blk.live] at hi
  have hR' : Rel ρ σ' w := ⟨fun i => by
      rcases hg i with h | h
      · rw [h]; exact hR.blk i
      · rw [h]; trivial, hsc, hlt, fun i j hij hi hj => hR.inj i j hij (by rw [← hlive i (Blk.live_of_wr hi)]; exact hi) (by rw [← hlive j hj]; exact hj)⟩
  have hF' : FrRel ρ f' σ'.next a := ⟨fun t v ht => hF.slot t v (hf t v ht).1, fun t v ht => (hf t v ht).2, by rw [hd]; exact hF.defers, by rw [hd]; exact hdn⟩
  refine (h hn ρ w a cs hR' hF' hs).mono fun v w' ⟨r, σ₂, ρ₂, h1, h2, h3⟩ => ⟨r, σ₂, ρ₂, h1, ⟨h2.rel, h2.ext, h2.next, h2.size, h2.os, h2.tape, h2.output, fun i hi => ?_, fun b hb hno => ?_, fun i hi => ?_⟩, h3⟩
  · rcases h2.own i hi with ⟨j, hj, e⟩ | hge
    · exact .inl ⟨j, by rw [← hlive j (Blk.live_of_wr hj)]; exact hj, e⟩
    · exact .inr hge
  · exact h2.fra b hb fun i hi => hno i (by rw [← hlive i (Blk.live_of_wr hi)]; exact hi)
  · rcases h2.liv i hi with ⟨j, hj, e⟩ | hge
    · exact .inl ⟨j, by rw [← hlive j hj]; exact hj, e⟩
    · exact .inr hge

theorem WF.of_VB {fn : Func} {c : Code} {args : List Value} (hf : M.P.funcs[K]? = some fn) (hname : (fn.name == "runtime.NumGoroutine") = false) (hb : fn.body = some c) (hl : args.length ≤ fn.ntmps)
    (h : VB σ.next M K fn.ntmps [.code c] (initF 0 args .nil) σ R) : WF M.toEnv K args σ R := WF.of_VM hf hname hb hl h.toVM
end
end
end AH
