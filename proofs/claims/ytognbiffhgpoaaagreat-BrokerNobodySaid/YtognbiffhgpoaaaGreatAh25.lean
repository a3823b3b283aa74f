/-
  AH 25: a range over a function: its rounds, its yields, its end.
-/
import Derived.Test.YtognbiffhgpoaaaGreatAh24
import Derived.RangeFuncRecord
set_option linter.unusedSimpArgs false
set_option linter.unusedVariables false
set_option linter.unusedSectionVars false
namespace AH
open Go
noncomputable section

/-- In a round, or not. -/
abbrev FR (rd : Option Nat) : Fence := { Fence.wide with round := rd }

theorem stepsIn_FR {rd : Option Nat} {P : Program} {m m' : Machine} : StepsIn (Machine.fenced P (FR rd)) P m m' ↔ Steps P m m' := stepsIn_wide (P := P)

theorem room_FR (rd : Option Nat) (n : Nat) : (FR rd).room n := fun d hd => by simp [FR, Fence.wide] at hd

theorem callsIn_FR {rd : Option Nat} {n : Nat} {P : Program} {f : FuncId} {args : Array Value} {w : World} {R : Ending → World → Prop} (h : Calls P f args w R) : CallsIn (FR rd) n P f args w R :=
  ⟨trivial, fun cs _ => let ⟨e, w', fr, r, s, x⟩ := h cs; ⟨e, w', fr, r, comesIn_wide.2 s, x⟩⟩

theorem uponIn_of_upon {rd : Option Nat} {n : Nat} {P : Program} {o : Oper} {a : Act} {next : Act → World → Prop} {Q : Exit → Act → World → Prop} {r : Result Next} (h : o.upon P a next Q r) : o.uponIn (FR rd) n P a next Q r := by
  have hd : (FR rd).depth.isSome = true → 1 ≤ n := fun h => by simp [FR, Fence.wide] at h
  cases r with
  | ok x w' =>
    cases x <;> simp only [Oper.upon] at h <;> first
      | exact h
      | exact ⟨hd, callsIn_FR h⟩
      | exact ⟨hd, fun c cs _ => let ⟨v, w', r, s⟩ := h c cs; ⟨v, w', r, stepsIn_FR.2 s⟩⟩
      | exact h.elim
  | halt x w' => cases x <;> simp only [Oper.upon] at h <;> first | exact h | exact h.elim

def notDefer : Op → Bool
  | .defer _ => false
  | _ => true

theorem wpListIn_mono' {F : Fence} {n : Nat} {P : Program} {all : Array Oper} {Q Q' : Exit → Act → World → Prop} (hQ : ∀ e a w, Q e a w → Q' e a w) : ∀ (l : List Oper) (a : Act) (w : World), wpListIn F n P all Q l a w → wpListIn F n P all Q' l a w
  | [], a, w, h => hQ _ _ _ h
  | o :: r, a, w, h => by
    unfold wpListIn at h ⊢
    have ih := wpListIn_mono' (F := F) (n := n) (P := P) (all := all) hQ r
    have hL : LetsOut Q → LetsOut Q' := fun ⟨a₁, w₁, h⟩ => ⟨a₁, w₁, hQ _ _ _ h⟩
    split
    · rename_i hw
      rw [if_pos hw] at h
      refine ⟨h.1, ?_⟩
      have h2 := h.2
      generalize (o.semAt F.round a.eval).run P w = res at *
      cases res with
      | ok x w' =>
        cases x <;> simp only [Oper.uponIn] at h2 ⊢ <;> first
          | exact ih _ _ h2
          | exact ⟨h2.1, CallsIn.mono h2.2 (fun e w'' he => by
              cases e
              · exact ih _ _ he
              · exact hQ _ _ _ he
              · exact hL he)⟩
          | exact ⟨h2.1, RowsIn.mono h2.2 fun _ _ he => ih _ _ he⟩
          | exact ⟨h2.1, RoundIn.mono h2.2 (fun e w'' he => by
              cases e
              · exact ih _ _ he
              · exact hQ _ _ _ he
              · exact hL he)⟩
          | exact h2.elim
      | halt x w' => cases x <;> simp only [Oper.uponIn] at h2 ⊢ <;> first | exact hQ _ _ _ h2 | exact h2.elim
    · rename_i hw
      rw [if_neg hw] at h
      exact ⟨h.1, ih _ _ h.2⟩

def WR (M : EnvM) (rd : Option Nat) (nt : Nat) (all : Array Oper) (rest : List Oper) (f : Fr) (σ : St) (K : Fr → St → Prop) : Prop :=
  (∀ o ∈ rest, dstOk nt o = true) → ∀ ρ w a, Rel ρ σ w → FrRel ρ f σ.next a → a.tmps.size = nt → wpListIn (FR (rd.map fun l => (ρ l).b)) 0 M.P all (fun e a' w' => e = .normal ∧ After nt ρ σ w K a' w') rest a w

section
variable {M : EnvM} {rd : Option Nat} {nt : Nat} {all : Array Oper} {o : Oper} {rest : List Oper} {f : Fr} {σ : St} {K : Fr → St → Prop}

theorem WR.nil (h : K f σ) : WR M rd nt all [] f σ K := fun _ ρ w a hR hF hn => ⟨rfl, ρ, σ, f, Evo.refl hR, hF, hn, h⟩

theorem rd_ext {ρ ρ' : Nat → Loc} (hrd : ∀ l, rd = some l → l < σ.next) (he : ∀ i, i < σ.next → ρ' i = ρ i) : (rd.map fun l => (ρ' l).b) = rd.map fun l => (ρ l).b := by
  cases rd with
  | none => rfl
  | some l => simp [he l (hrd l rfl)]

/-- One operation that is no yield. -/
theorem WR.op (hnd : notDefer o.op = true) (hrd : ∀ l, rd = some l → l < σ.next) (h : WL M nt all [o] f σ (fun f' σ' => WR M rd nt all rest f' σ' K)) : WR M rd nt all (o :: rest) f σ K := by
  intro hd ρ w a hR hF hn
  have h1 := h (fun o' ho' => hd o' (by simp at ho'; simp [ho'])) ρ w a hR hF hn
  have hnd' : ∀ c, o.op ≠ .defer c := fun c e => by rw [e] at hnd; simp [notDefer] at hnd
  have hon : ∀ a' w', (Exit.normal = .normal ∧ After nt ρ σ w (fun f' σ' => WR M rd nt all rest f' σ' K) a' w') → wpListIn (FR (rd.map fun l => (ρ l).b)) 0 M.P all (fun e a' w' => e = .normal ∧ After nt ρ σ w K a' w') rest a' w' := fun a' w' ⟨_, ρ', σ', f', he, hF', hn', hk⟩ => by
    have := hk (fun o' ho' => hd o' (by simp [ho'])) ρ' w' a' he.rel hF' hn'
    rw [rd_ext hrd he.ext] at this
    exact wpListIn_mono' (fun e a₂ w₂ ⟨e1, e2⟩ => ⟨e1, After.evo he e2⟩) rest _ _ this
  unfold wpListIn
  unfold wpList at h1
  split
  · rename_i hw
    rw [if_pos hw] at h1
    rcases h1 with h1 | ⟨_, a₀, w₀, h2, _⟩
    · refine ⟨fun _ _ => trivial, ?_⟩
      rw [Oper.semAt_eq _ _ _ hnd']
      unfold Oper.wp at h1
      have h2 := uponIn_of_upon (rd := rd.map fun l => (ρ l).b) (n := 0) h1
      generalize (execOp a.eval o).run M.P w = res at *
      cases res with
      | ok x w' =>
        cases x <;> simp only [Oper.uponIn] at h2 ⊢ <;> first
          | exact hon _ _ h2
          | exact ⟨h2.1, CallsIn.mono h2.2 (fun e w'' he => by
              cases e
              · exact hon _ _ he
              · exact absurd he.1 (by simp)
              · obtain ⟨_, _, h3, _⟩ := he; cases h3)⟩
          | exact ⟨h2.1, RowsIn.mono h2.2 fun _ _ he => hon _ _ he⟩
          | exact ⟨h2.1, RoundIn.mono h2.2 (fun e w'' he => by
              cases e
              · exact hon _ _ he
              · exact absurd he.1 (by simp)
              · obtain ⟨_, _, h3, _⟩ := he; cases h3)⟩
          | exact h2.elim
      | halt x w' => cases x <;> simp only [Oper.uponIn] at h2 ⊢ <;> first | exact absurd h2.1 (by simp) | exact h2.elim
    · cases h2
  · rename_i hw
    rw [if_neg hw] at h1
    exact ⟨fun _ _ => trivial, hon _ _ h1⟩
end

def baseR (K l : Nat) : Frame := { (default : Frame) with fn := K, kind := .normal, roundOf := some l }

/-- From these things to do on, in a round of the loop li in the function K, the round ends. -/
def VR (M : EnvM) (K li nt : Nat) (k : List Item) (f : Fr) (σ : St) (R : Value → St → Prop) : Prop :=
  ∀ ρ w a c cs, Rel ρ σ w → FrRel ρ f σ.next a → a.tmps.size = nt → ∃ v w', Lift ρ σ w R v w' ∧ Steps M.P (lone ((baseR K (ρ li).b).atR a k) (c :: cs) w) (lone (c.finish v) cs w')

section
variable {M : EnvM} {K li nt : Nat} {k : List Item} {f : Fr} {σ : St} {R : Value → St → Prop}

theorem VR.step {k k' : List Item} (hs : ∀ l (a : Act) cs w, step M.P (lone ((baseR K l).atR a k) cs w) = .next (lone ((baseR K l).atR a k') cs w)) (h : VR M K li nt k' f σ R) : VR M K li nt k f σ R :=
  fun ρ w a c cs hR hF hn => let ⟨v, w', h1, h2⟩ := h ρ w a c cs hR hF hn; ⟨v, w', h1, (Steps.one (hs _ a (c :: cs) w)).trans h2⟩

theorem VR.skip (h : VR M K li nt k f σ R) : VR M K li nt (.code .skip :: k) f σ R := VR.step (fun _ _ _ _ => stepR_skip) h
theorem VR.inBlock {id : Nat} (h : VR M K li nt k f σ R) : VR M K li nt (.inBlock id :: k) f σ R := VR.step (fun _ _ _ _ => stepR_inBlock) h
theorem VR.seq {x y : Code} (h : VR M K li nt (.code x :: .code y :: k) f σ R) : VR M K li nt (.code (.seq x y) :: k) f σ R := VR.step (fun _ _ _ _ => stepR_seq) h
theorem VR.block {id : Nat} {c : Code} (h : VR M K li nt (.code c :: .inBlock id :: k) f σ R) : VR M K li nt (.code (.block id c) :: k) f σ R := VR.step (fun _ _ _ _ => stepR_block) h
theorem VR.exit {id : Nat} {k' : List Item} (hx : exitTo id k = some k') (h : VR M K li nt k' f σ R) : VR M K li nt (.code (.exit id) :: k) f σ R := VR.step (fun _ _ _ _ => stepR_exit hx) h
theorem VR.cond {c : Operand} {x y : Code} {t : Bool} (hc : opd f c = some (.bool t)) (h : VR M K li nt (.code (bif t then x else y) :: k) f σ R) : VR M K li nt (.code (.cond c x y) :: k) f σ R := by
  intro ρ w a cc cs hR hF hn
  have hv : a.eval c = .bool t := by have := (opd_sound hF hc).1; simpa using this
  have hs := stepR_cond (P := M.P) (b := baseR K (ρ li).b) (a := a) (k := k) (cs := cc :: cs) (w := w) (x := x) (y := y) hv
  obtain ⟨v, w', h1, h2⟩ := h ρ w a cc cs hR hF hn
  refine ⟨v, w', h1, (Steps.one hs).trans ?_⟩
  cases t
  · exact h2
  · exact h2

theorem VR.cond_split {c : Operand} {x y : Code} {t : Bool} (hc : opd f c = some (.bool t)) (h1 : t = true → VR M K li nt (.code x :: k) f σ R) (h2 : t = false → VR M K li nt (.code y :: k) f σ R) : VR M K li nt (.code (.cond c x y) :: k) f σ R := by
  refine VR.cond hc ?_
  cases t
  · exact h2 rfl
  · exact h1 rfl

theorem VR.mono {R' : Value → St → Prop} (h : VR M K li nt k f σ R) (hr : ∀ r σ', σ.next ≤ σ'.next → R r σ' → R' r σ') : VR M K li nt k f σ R' :=
  fun ρ w a c cs hR hF hn => let ⟨v, w', ⟨r, σ', ρ', h1, h2, h3, h4⟩, hs⟩ := h ρ w a c cs hR hF hn; ⟨v, w', ⟨r, σ', ρ', h1, h2, h3, hr r σ' h2.next h4⟩, hs⟩

theorem VR.region {id : Nat} {ops : Array Oper} (hli : li < σ.next) (hd : ops.toList.all (dstOk nt) = true) (h : WR M (some li) nt ops ops.toList f σ (fun f' σ' => VR M K li nt k f' σ' R)) : VR M K li nt (.code (.region id ops false) :: k) f σ R := by
  intro ρ w a c cs hR hF hn
  have hw := h (List.all_eq_true.1 hd) ρ w a hR hF hn
  obtain ⟨e, a', w', ⟨he, ρ', σ', f', h1, h2, h3, h4⟩, harr⟩ := wpIn_region_list (id := id) hw (baseR K (ρ li).b) k (c :: cs) rfl trivial (room_FR _ _)
  subst he
  obtain ⟨v, w₂, h5, h6⟩ := h4 ρ' w' a' c cs h1.rel h2 h3
  rw [h1.ext li hli] at h6
  exact ⟨v, w₂, Lift.evo h1 h5, (stepsIn_FR.1 harr).trans h6⟩

/-- The record of a loop turns. -/
theorem loop_put {ρ : Nat → Loc} {σ : St} {w : World} (hR : Rel ρ σ w) {st st' : LoopState} {p p' : Option Code} {fn nt : Nat} {fl : Tr Value} {ps : Array Tmp} {x y : Code} (hl : σ.get li = .loop st p fn nt fl ps x y) :
    ∃ r : Loop, w.heap[(ρ li).b]? = some (.loop r) ∧ r.state = st ∧ r.pending = p ∧ r.fn = fn ∧ r.tmps.size = nt ∧ (∀ t v, fl.get t = some v → r.tmps[t]? = some (ren ρ v)) ∧ r.params = ps ∧ r.assign = x ∧ r.body = y ∧
      Evo ρ σ w ρ (σ.set li (.loop st' p' fn nt fl ps x y)) (w.putObj (ρ li).b (.loop { r with state := st', pending := p' })) := by
  have hb := hR.blk li
  rw [hl] at hb
  obtain ⟨h0, tmps, d, h1, h2, h3⟩ := hb
  have hlt : (ρ li).b < w.heap.size := heap_lt h3
  refine ⟨_, h3, rfl, rfl, rfl, h1, h2, rfl, rfl, rfl, ?_⟩
  refine Evo.write hR (i := li) (by rw [hl]; rfl) ⟨by simp, rfl, rfl, rfl, fun j hj => World.putObj_heap_other hj⟩ ⟨h0, tmps, d, h1, h2, World.putObj_heap_same hlt⟩ ?_
  have := hR.sc li
  rw [hl] at this
  exact this

/-- A round begins. -/
theorem VR.begin {p : Option Code} {fn n' : Nat} {fl : Tr Value} {ps : Array Tmp} {x y : Code} (hl : σ.get li = .loop .ready p fn n' fl ps x y) (h : VR M K li nt k f (σ.set li (.loop .busy p fn n' fl ps x y)) R) : VR M K li nt (.beginRound :: k) f σ R := by
  intro ρ w a c cs hR hF hn
  obtain ⟨r, h1, h2, h3, h4, h5, h6, h7, h8, h9, hev⟩ := loop_put (st' := .busy) (p' := p) hR hl
  obtain ⟨v, w', h10, h11⟩ := h ρ _ a c cs hev.rel (hF.evo hev.ext hev.next) hn
  have hs := stepR_beginRound (P := M.P) (b := baseR K (ρ li).b) (a := a) (k := k) (cs := c :: cs) rfl (run_beginRound h1 h2)
  have e1 : ({ r with state := .busy, pending := p } : Loop) = { r with state := .busy } := by rw [← h3]
  rw [e1] at h11 h10 hev
  exact ⟨v, w', Lift.evo hev h10, (Steps.one hs).trans h11⟩

theorem VR.out {jump : Option Code} {p : Option Code} {fn n' : Nat} {fl : Tr Value} {ps : Array Tmp} {x y : Code} (hl : σ.get li = .loop .busy p fn n' fl ps x y)
    (hs : ∀ l v (a : Act) c cs w w', (Instr.endRound l jump).run M.P w = .ok v w' → Go.step M.P (lone ((baseR K l).atR a k) (c :: cs) w) = Stepped.next (lone (c.finish v) cs w'))
    (h : R (.bool jump.isNone) (σ.set li (.loop (if jump.isNone then .ready else .done) jump fn n' fl ps x y))) : VR M K li nt k f σ R := by
  intro ρ w a c cs hR hF hn
  obtain ⟨r, h1, h2, h3, h4, h5, h6, h7, h8, h9, hev⟩ := loop_put (st' := if jump.isNone then .ready else .done) (p' := jump) hR hl
  exact ⟨_, _, ⟨.bool jump.isNone, _, ρ, by simp, hev, Sc_bool _ _, h⟩, Steps.one (hs _ _ a c cs w _ (run_endRound jump h1))⟩

theorem VR.done {p : Option Code} {fn n' : Nat} {fl : Tr Value} {ps : Array Tmp} {x y : Code} (hl : σ.get li = .loop .busy p fn n' fl ps x y) (h : R (.bool true) (σ.set li (.loop .ready none fn n' fl ps x y))) : VR M K li nt [] f σ R :=
  VR.out (jump := none) hl (fun l v a c cs w w' hr => stepR_round_end rfl rfl hr) h
theorem VR.ret {p : Option Code} {fn n' : Nat} {fl : Tr Value} {ps : Array Tmp} {x y : Code} (hl : σ.get li = .loop .busy p fn n' fl ps x y) (h : R (.bool false) (σ.set li (.loop .done (some .ret) fn n' fl ps x y))) : VR M K li nt (.code .ret :: k) f σ R :=
  VR.out (jump := some .ret) hl (fun l v a c cs w w' hr => stepR_round_ret rfl rfl hr) h
theorem VR.exitOut {id : Nat} (hx : exitTo id k = none) {p : Option Code} {fn n' : Nat} {fl : Tr Value} {ps : Array Tmp} {x y : Code} (hl : σ.get li = .loop .busy p fn n' fl ps x y) (h : R (.bool false) (σ.set li (.loop .done (some (.exit id)) fn n' fl ps x y))) : VR M K li nt (.code (.exit id) :: k) f σ R :=
  VR.out (jump := some (.exit id)) hl (fun l v a c cs w w' hr => stepR_round_exit rfl rfl hx hr) h
end
end
end AH
