/-
  AH 27: the evaluator, with ranges over functions.
-/
import Derived.Test.YtognbiffhgpoaaaGreatAh26
set_option linter.unusedSimpArgs false
set_option linter.unusedVariables false
set_option linter.unusedSectionVars false
namespace AH
open Go
noncomputable section

abbrev RoundF := Nat → List Value → St → Option (Value × St)

/-- A call of a loop's yield? -/
def yieldQ (f : Fr) (op : Op) : Option (Nat × List Value) :=
  match op with
  | .call c => (match c.callee with
    | .value x => (match opd f x with
      | some (.func (.yield li) first cap) => (match first.toList, cap.toList, opds f c.args.toList with
        | [], [], some vs => some (li, vs)
        | _, _, _ => none)
      | _ => none)
    | _ => none)
  | _ => none

section
variable (M : EnvM) (call : CallF) (rnd : RoundF)

noncomputable def runOpsR (all : Array Oper) (l : List Oper) : Fr → St → Option (Fr × St) :=
  List.rec (motive := fun _ => Fr → St → Option (Fr × St)) (fun f σ => some (f, σ))
    (fun o _ ih f σ => match runOp M call all o f σ with
      | some (f', σ') => bif notDefer o.op then ih f' σ' else none
      | none => match wantedA all f o, yieldQ f o.op with
        | some true, some (li, vs) => (match rnd li vs σ with
          | some (v, σ') => ih (putF f o.dst v) σ'
          | none => none)
        | _, _ => none) l

/-- One thing to do in a round. -/
noncomputable def stepR (li nt : Nat) (rec : List Item → Fr → St → Option (Value × St)) (k : List Item) (f : Fr) (σ : St) : Option (Value × St) :=
  match k with
  | [] => (match σ.get li with
    | .loop .busy _ fn n' fl ps x y => some (.bool true, σ.set li (.loop .ready none fn n' fl ps x y))
    | _ => none)
  | .beginRound :: k => (match σ.get li with
    | .loop .ready p fn n' fl ps x y => rec k f (σ.set li (.loop .busy p fn n' fl ps x y))
    | _ => none)
  | .code c :: k =>
    (match c with
     | .skip => rec k f σ
     | .seq x y => rec (.code x :: .code y :: k) f σ
     | .block id c => rec (.code c :: .inBlock id :: k) f σ
     | .cond c x y => (match opd f c with
       | some (.bool t) => rec (.code (bif t then x else y) :: k) f σ
       | _ => none)
     | .exit id => (match exitTo id k with
       | some k' => rec k' f σ
       | none => (match σ.get li with
         | .loop .busy _ fn n' fl ps x y => some (.bool false, σ.set li (.loop .done (some (.exit id)) fn n' fl ps x y))
         | _ => none))
     | .ret => (match σ.get li with
       | .loop .busy _ fn n' fl ps x y => some (.bool false, σ.set li (.loop .done (some .ret) fn n' fl ps x y))
       | _ => none)
     | .region _ ops draw =>
       (bif draw then none
        else bif ops.toList.all (dstOk nt) && Nat.blt li σ.next then
         (match runOpsR M call (fun _ _ _ => none) ops ops.toList f σ with | some (f', σ') => rec k f' σ' | none => none)
        else none)
     | _ => none)
  | .inBlock _ :: k => rec k f σ
  | _ => none

noncomputable def runR (li nt : Nat) (n : Nat) : List Item → Fr → St → Option (Value × St) :=
  Nat.rec (motive := fun _ => List Item → Fr → St → Option (Value × St)) (fun _ _ _ => none) (fun _ ih => stepR M call li nt ih) n

noncomputable def roundF (steps : Nat) : RoundF := fun li vs σ =>
  match σ.get li with
  | .loop .ready p K' nt' fl ps as bd => bif Nat.beq vs.length ps.size && ps.toList.all (fun t => Nat.blt t nt') then runR M call li nt' steps [.code as, .beginRound, .code bd] (putAll ⟨fl, []⟩ ps.toList vs) σ else none
  | _ => none

def dfrB (σ : St) (d : Nat) : Bool := match σ.get d with | .dfr => true | _ => false

noncomputable def outK (fn : Func) (f : Fr) (σ : St) : Option (Value × St) :=
  match f.df with
  | [] => (match resQ M.toEnv f σ fn.results.toList with | some v => some (v, σ) | none => none)
  | df => bif nodupB df && df.all (dfrB σ) then (match resQ M.toEnv f (shut σ df) fn.results.toList with | some v => some (v, shut σ df) | none => none) else none

def calmB : LoopState → Bool
  | .busy => false
  | _ => true

noncomputable def stepK2 (steps : Nat) (K : FuncId) (fn : Func) (rec : List Item → Fr → St → Option (Value × St)) (k : List Item) (f : Fr) (σ : St) : Option (Value × St) :=
  match k with
  | [] => outK M fn f σ
  | .code c :: k =>
    (match c with
     | .skip => rec k f σ
     | .seq x y => rec (.code x :: .code y :: k) f σ
     | .block id c => rec (.code c :: .inBlock id :: k) f σ
     | .loop c => rec (.code c :: .inLoop c :: k) f σ
     | .cond c x y => (match opd f c with
       | some (.bool t) => rec (.code (bif t then x else y) :: k) f σ
       | _ => none)
     | .exit id => (match exitTo id k with | some k' => rec k' f σ | none => none)
     | .ret => outK M fn f σ
     | .region _ ops draw =>
       (bif draw then
         (match planOf fn.ntmps ops with
          | some p => (match runDraw M call ops p [] f σ with | some (f', σ') => rec k f' σ' | none => none)
          | none => none)
        else bif ops.toList.all (dstOk fn.ntmps) then
         (match runOpsR M call (roundF M call steps) ops ops.toList f σ with | some (f', σ') => rec k f' σ' | none => none)
        else none)
     | .rangeFunc g ps as bd => (match opd f g with
       | some (.func (.func h) first cap) =>
         (match call h (first.toList ++ [.func (.yield (σ.next + 1)) #[] #[]] ++ cap.toList) ((σ.push .dfr).push (.loop .ready none K fn.ntmps f.tr ps as bd)) with
          | some (_, σ') => (match σ'.get (σ.next + 1) with
            | .loop st p K' nt' fl ps' as' bd' => bif calmB st then rec ((match p with | some c => [.code c] | none => []) ++ k) (f.mark σ.next) (σ'.set (σ.next + 1) (.loop .exhausted p K' nt' fl ps' as' bd')) else none
            | _ => none)
          | none => none)
       | _ => none)
     | _ => none)
  | .inBlock _ :: k => rec k f σ
  | .inLoop c :: k => rec (.code c :: .inLoop c :: k) f σ
  | _ => none

noncomputable def runK2 (steps : Nat) (K : FuncId) (fn : Func) (n : Nat) : List Item → Fr → St → Option (Value × St) :=
  Nat.rec (motive := fun _ => List Item → Fr → St → Option (Value × St)) (fun _ _ _ => none) (fun _ ih => stepK2 M call steps K fn ih) n

noncomputable def bodyF2 (steps : Nat) (g : FuncId) (args : List Value) (σ : St) : Option (Value × St) :=
  match M.P.funcs.toList[g]? with
  | some fn => (match fn.body with
    | some c => bif (fn.name != "runtime.NumGoroutine") && Nat.ble args.length fn.ntmps then runK2 M call steps g fn steps [.code c] (initF 0 args .nil) σ else none
    | none => none)
  | none => none
end

noncomputable def ev2 (M : EnvM) (orc : CallF) (steps : Nat) (n : Nat) : CallF :=
  Nat.rec (motive := fun _ => CallF) (fun _ _ _ => none) (fun _ ih g args σ => match orc g args σ with | some r => some r | none => bodyF2 M ih steps g args σ) n

/-! ### Soundness -/

def RoundOk (M : EnvM) (rnd : RoundF) : Prop := ∀ li vs σ v σ', rnd li vs σ = some (v, σ') →
  ∃ p K' nt' fl ps as bd, σ.get li = .loop .ready p K' nt' fl ps as bd ∧ vs.length = ps.size ∧ ps.toList.all (fun t => Nat.blt t nt') = true ∧ VR M K' li nt' [.code as, .beginRound, .code bd] (putAll ⟨fl, []⟩ ps.toList vs) σ (fun r σ'' => r = v ∧ σ'' = σ')

theorem RoundOk.none (M : EnvM) : RoundOk M (fun _ _ _ => none) := fun li vs σ v σ' h => by cases h

section
variable {M : EnvM} {call : CallF} (hc : CallOk M call) {rnd : RoundF}
include hc

theorem runOp_sound {nt : Nat} {all : Array Oper} {o : Oper} {f : Fr} {σ : St} {f' : Fr} {σ' : St} {K : Fr → St → Prop} (ho : runOp M call all o f σ = some (f', σ')) (hK : K f' σ') : WL M nt all [o] f σ K := by
  have h : runOps M call all [o] f σ = some (f', σ') := by simp only [runOps, ho]
  exact runOps_sound hc h hK

theorem runOpsR_sound (hr : RoundOk M rnd) {nt : Nat} {all : Array Oper} {K : Fr → St → Prop} {rd : Option Nat} : ∀ {l : List Oper} {f : Fr} {σ : St} {f' : Fr} {σ' : St}, runOpsR M call rnd all l f σ = some (f', σ') → (∀ li, rd = some li → li < σ.next) → (∀ σ₁ σ₂ : St, σ₁.next ≤ σ₂.next → True) → K f' σ' → WR M rd nt all l f σ K
  | [], f, σ, f', σ', h, hrd, _, hK => by
    simp only [runOpsR, Option.some.injEq, Prod.mk.injEq] at h
    obtain ⟨rfl, rfl⟩ := h
    exact WR.nil hK
  | o :: r, f, σ, f', σ', h, hrd, hx, hK => by
    have h' : (match runOp M call all o f σ with
      | some (f₁, σ₁) => bif notDefer o.op then runOpsR M call rnd all r f₁ σ₁ else none
      | none => match wantedA all f o, yieldQ f o.op with
        | some true, some (li, vs) => (match rnd li vs σ with
          | some (v, σ₁) => runOpsR M call rnd all r (putF f o.dst v) σ₁
          | none => none)
        | _, _ => none) = some (f', σ') := h
    clear h
    split at h'
    · rename_i f₁ σ₁ ho
      cases hnd : notDefer o.op with
      | false => simp [hnd] at h'
      | true =>
        simp only [hnd, cond_true] at h'
        -- what the next number is, behind the operation
        refine WR.op hnd hrd ?_
        have hmono : WL M nt all [o] f σ (fun f'' σ'' => (f'' = f₁ ∧ σ'' = σ₁)) := runOp_sound hc ho ⟨rfl, rfl⟩
        intro hd ρ w a hR hF hn
        refine wpList_mono (fun e a' w' ⟨he, ρ', σ'', f'', hev, hF', hn', hk⟩ => ⟨he, ρ', σ'', f'', hev, hF', hn', ?_⟩) _ _ _ (hmono hd ρ w a hR hF hn)
        obtain ⟨rfl, rfl⟩ := hk
        exact runOpsR_sound hr h' (fun li hli => Nat.lt_of_lt_of_le (hrd li hli) hev.next) hx hK
    · split at h'
      · rename_i li vs hw hy
        split at h'
        · rename_i v σ₁ hrn
          obtain ⟨p, K', nt', fl, ps, as, bd, g1, g2, g3, g4⟩ := hr _ _ _ _ _ hrn
          unfold yieldQ at hy
          split at hy
          · rename_i c hop
            split at hy
            · rename_i x hcal
              split at hy
              · rename_i li' first cap hx'
                split at hy
                · rename_i e1 e2 e3
                  simp only [Option.some.injEq, Prod.mk.injEq] at hy
                  obtain ⟨rfl, rfl⟩ := hy
                  have ef : first = #[] := by apply Array.ext'; simpa using e1
                  have ec : cap = #[] := by apply Array.ext'; simpa using e2
                  subst ef; subst ec
                  refine WR.yield hrd hop hcal hw hx' e3 g1 g2 g3 (VR.mono g4 fun r' σ'' hle ⟨h1, h2⟩ => ?_)
                  subst h1; subst h2
                  exact runOpsR_sound hr h' (fun li hli => Nat.lt_of_lt_of_le (hrd li hli) hle) hx hK
                · cases hy
              · cases hy
            · cases hy
          · cases hy
        · cases h'
      · cases h'

theorem runR_sound {K li nt : Nat} : ∀ {n : Nat} {k : List Item} {f : Fr} {σ : St} {r : Value} {σ' : St}, runR M call li nt n k f σ = some (r, σ') → VR M K li nt k f σ (fun r' σ'' => r' = r ∧ σ'' = σ')
  | 0, k, f, σ, r, σ', h => by simp [runR] at h
  | n + 1, k, f, σ, r, σ', h => by
    have h' : stepR M call li nt (runR M call li nt n) k f σ = some (r, σ') := h
    clear h
    unfold stepR at h'
    split at h'
    · split at h'
      · rename_i p fn n' fl ps x y hl
        simp only [Option.some.injEq, Prod.mk.injEq] at h'
        obtain ⟨rfl, rfl⟩ := h'
        exact VR.done hl ⟨rfl, rfl⟩
      · cases h'
    · split at h'
      · rename_i p fn n' fl ps x y hl
        exact VR.begin hl (runR_sound h')
      · cases h'
    · split at h'
      · exact VR.skip (runR_sound h')
      · exact VR.seq (runR_sound h')
      · exact VR.block (runR_sound h')
      · split at h'
        · rename_i t hcond
          exact VR.cond hcond (runR_sound h')
        · cases h'
      · split at h'
        · rename_i k' hx
          exact VR.exit hx (runR_sound h')
        · rename_i hx
          split at h'
          · rename_i p fn n' fl ps x y hl
            simp only [Option.some.injEq, Prod.mk.injEq] at h'
            obtain ⟨rfl, rfl⟩ := h'
            exact VR.exitOut hx hl ⟨rfl, rfl⟩
          · cases h'
      · split at h'
        · rename_i p fn n' fl ps x y hl
          simp only [Option.some.injEq, Prod.mk.injEq] at h'
          obtain ⟨rfl, rfl⟩ := h'
          exact VR.ret hl ⟨rfl, rfl⟩
        · cases h'
      · rename_i id ops draw
        cases draw with
        | true => simp at h'
        | false =>
          simp only [cond_false] at h'
          cases hb : (ops.toList.all (dstOk nt) && Nat.blt li σ.next) with
          | false => simp only [hb, cond_false] at h'; cases h'
          | true =>
            simp only [hb, cond_true] at h'
            simp only [Bool.and_eq_true, Nat.blt_eq] at hb
            split at h'
            · rename_i f₁ σ₁ hrun
              exact VR.region hb.2 hb.1 (runOpsR_sound hc (RoundOk.none M) hrun (fun l hl => by cases hl; exact hb.2) (fun _ _ _ => trivial) (runR_sound h'))
            · cases h'
      · cases h'
    · exact VR.inBlock (runR_sound h')
    · cases h'

theorem roundF_sound (steps : Nat) : RoundOk M (roundF M call steps) := fun li vs σ v σ' h => by
  unfold roundF at h
  split at h
  · rename_i p K' nt' fl ps as bd hl
    cases hb : (Nat.beq vs.length ps.size && ps.toList.all (fun t => Nat.blt t nt')) with
    | false => simp only [hb, cond_false] at h; cases h
    | true =>
      simp only [hb, cond_true] at h
      simp only [Bool.and_eq_true, Nat.beq_eq] at hb
      exact ⟨p, K', nt', fl, ps, as, bd, hl, hb.1, hb.2, runR_sound hc h⟩
  · cases h

theorem dfrB_sound {σ : St} {d : Nat} (h : dfrB σ d = true) : σ.get d = .dfr := by
  unfold dfrB at h
  split at h
  · assumption
  · cases h

theorem outK_sound {K : FuncId} {fn : Func} (hf : M.P.funcs[K]? = some fn) {nt : Nat} {k : List Item} {f : Fr} {σ : St} {r : Value} {σ' : St} (h : outK M fn f σ = some (r, σ')) (st : ∀ (a : Act) (cs : List Frame) (w : World), ∃ todo, Go.step M.P (lone ((base K).at a k) cs w) = Stepped.next (lone { (base K).at a todo with mode := .returning } cs w)) :
    VM M K nt k f σ (fun r' σ'' => r' = r ∧ σ'' = σ') := by
  unfold outK at h
  split at h
  · rename_i hdf
    split at h
    · rename_i v hv
      simp only [Option.some.injEq, Prod.mk.injEq] at h
      obtain ⟨rfl, rfl⟩ := h
      refine VM.outD (st := st) (by rw [hdf]; exact List.nodup_nil) (by rw [hdf]; intro d hd; simp at hd) hf (by rw [hdf]; exact hv) ?_
      rw [hdf]; exact ⟨rfl, rfl⟩
    · cases h
  · rename_i hne
    cases hb : (nodupB f.df && f.df.all (dfrB σ)) with
    | false => simp only [hb, cond_false] at h; cases h
    | true =>
      simp only [hb, cond_true] at h
      simp only [Bool.and_eq_true, List.all_eq_true] at hb
      split at h
      · rename_i v hv
        simp only [Option.some.injEq, Prod.mk.injEq] at h
        obtain ⟨rfl, rfl⟩ := h
        exact VM.outD (st := st) (nodupB_spec hb.1) (fun d hd => dfrB_sound hc (hb.2 d hd)) hf hv ⟨rfl, rfl⟩
      · cases h

theorem runK2_sound {steps : Nat} {K : FuncId} {fn : Func} (hf : M.P.funcs[K]? = some fn) : ∀ {n : Nat} {k : List Item} {f : Fr} {σ : St} {r : Value} {σ' : St}, runK2 M call steps K fn n k f σ = some (r, σ') → VM M K fn.ntmps k f σ (fun r' σ'' => r' = r ∧ σ'' = σ')
  | 0, k, f, σ, r, σ', h => by simp [runK2] at h
  | n + 1, k, f, σ, r, σ', h => by
    have h' : stepK2 M call steps K fn (runK2 M call steps K fn n) k f σ = some (r, σ') := h
    clear h
    unfold stepK2 at h'
    split at h'
    · exact outK_sound hc hf h' (fun a cs w => ⟨_, step_end⟩)
    · split at h'
      · exact VM.skip (runK2_sound hf h')
      · exact VM.seq (runK2_sound hf h')
      · exact VM.block (runK2_sound hf h')
      · exact VM.loop1 (runK2_sound hf h')
      · split at h'
        · rename_i t hcond
          exact VM.cond hcond (runK2_sound hf h')
        · cases h'
      · split at h'
        · rename_i k' hx
          exact VM.exit hx (runK2_sound hf h')
        · cases h'
      · exact outK_sound hc hf h' (fun a cs w => ⟨_, step_ret⟩)
      · rename_i id ops draw
        cases draw with
        | true =>
          simp only [cond_true] at h'
          split at h'
          · rename_i p hp
            split at h'
            · rename_i f₁ σ₁ hrun
              have hgood : planGood fn.ntmps ops p = true := by
                unfold planOf at hp
                split at hp
                · rename_i p' _
                  cases hb : planGood fn.ntmps ops p' with
                  | false => simp [hb] at hp
                  | true => simp only [hb, cond_true, Option.some.injEq] at hp; subst hp; exact hb
                · cases hp
              exact VM.draw p hgood (runDraw_sound hc hrun (runK2_sound hf h'))
            · cases h'
          · cases h'
        | false =>
          simp only [cond_false] at h'
          cases hb : ops.toList.all (dstOk fn.ntmps) with
          | false => simp [hb] at h'
          | true =>
            simp only [hb, cond_true] at h'
            split at h'
            · rename_i f₁ σ₁ hrun
              exact VM.regionR hb (runOpsR_sound hc (roundF_sound hc steps) hrun (fun l hl => by cases hl) (fun _ _ _ => trivial) (runK2_sound hf h'))
            · cases h'
      · rename_i g ps as bd
        split at h'
        · rename_i h0 first cap hg
          split at h'
          · rename_i v₀ σ₁ hcall
            split at h'
            · rename_i st p K' nt' fl ps' as' bd' hl
              cases hb : calmB st with
              | false => simp [hb] at h'
              | true =>
                simp only [hb, cond_true] at h'
                refine VM.rangeFunc hg ((hc _ _ _ _ _ hcall).mono fun r' σ'' _ ⟨e1, e2⟩ => ?_)
                subst e1; subst e2
                refine ⟨st, p, K', nt', fl, ps', as', bd', hl, fun e => by subst e; simp [calmB] at hb, ?_⟩
                cases p with
                | none => exact runK2_sound hf h'
                | some c => exact runK2_sound hf h'
            · cases h'
          · cases h'
        · cases h'
      · cases h'
    · exact VM.inBlock (runK2_sound hf h')
    · exact VM.inLoop (runK2_sound hf h')
    · cases h'

theorem bodyF2_sound {steps : Nat} {g : FuncId} {args : List Value} {σ : St} {r : Value} {σ' : St} (h : bodyF2 M call steps g args σ = some (r, σ')) : WF M.toEnv g args σ (fun r' σ'' => r' = r ∧ σ'' = σ') := by
  unfold bodyF2 at h
  split at h
  · rename_i fn hf
    have hf' : M.P.funcs[g]? = some fn := by rw [← hf]; simp
    split at h
    · rename_i c hb
      cases hq : ((fn.name != "runtime.NumGoroutine") && Nat.ble args.length fn.ntmps) with
      | false => simp [hq] at h
      | true =>
        simp only [hq, cond_true] at h
        simp only [Bool.and_eq_true, bne, Bool.not_eq_true', Nat.ble_eq] at hq
        exact WF.of_VM hf' hq.1 hb hq.2 (runK2_sound hc hf' h)
    · cases h
  · cases h

end

theorem ev2_sound {M : EnvM} {orc : CallF} (ho : CallOk M orc) (steps : Nat) : ∀ n, CallOk M (ev2 M orc steps n)
  | 0 => fun g args σ r σ' h => by simp [ev2] at h
  | n + 1 => fun g args σ r σ' h => by
    have h' : (match orc g args σ with | some r => some r | none => bodyF2 M (ev2 M orc steps n) steps g args σ) = some (r, σ') := h
    split at h'
    · rename_i rr hr
      simp only [Option.some.injEq] at h'
      subst h'
      exact ho g args σ r σ' hr
    · exact bodyF2_sound (ev2_sound ho steps n) h'

end
end AH
