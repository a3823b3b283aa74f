/-
  AH 37: as AH 24, in calls too: some values are given, by function and slot, and owed.
-/
import Derived.Test.YtognbiffhgpoaaaGreatAh36
set_option linter.unusedSimpArgs false
set_option linter.unusedVariables false
set_option linter.unusedSectionVars false
namespace AH
open Go
noncomputable section

abbrev CallP := FuncId → List Value → St → Prop → Option (Value × St × Prop)
def CallOkP (M : EnvM) (call : CallP) : Prop := ∀ g args σ p r σ' p', call g args σ p = some (r, σ', p') → (p' → p) ∧ (p' → WF M.toEnv g args σ (fun r' σ'' => r' = r ∧ σ'' = σ'))
def noCall : CallF := fun _ _ _ => none

section
variable (M : EnvM) (callP : CallP) (call : CallF) (ov : Tmp → Option Value)

def runOpsP (all : Array Oper) (l : List Oper) : Fr → St → Prop → Option (Fr × St × Prop) :=
  List.rec (motive := fun _ => Fr → St → Prop → Option (Fr × St × Prop)) (fun f σ p => some (f, σ, p))
    (fun o _ ih f σ p => match ovO ov o with
      | some u => (match wantedA all f o with
        | some true => ih (putF f o.dst u) σ (p ∧ opQ M.toEnv f σ o.op = some u)
        | some false => ih (putF f o.dst undef) σ p
        | none => none)
      | none => match runOp M noCall all o f σ with
        | some (f', σ') => ih f' σ' p
        | none => match wantedA all f o, o.op with
          | some true, .call c => (match callQ M f c with
            | some (g, args) => (match callP g args σ p with
              | some (v, σ', p') => ih (putF f o.dst v) σ' p'
              | none => none)
            | none => none)
          | _, _ => none) l

def stepKP (fn : Func) (rec : List Item → Fr → St → Prop → Option (Value × St × Prop)) (k : List Item) (f : Fr) (σ : St) (p : Prop) : Option (Value × St × Prop) :=
  match k with
  | [] => (match f.df with | [] => (match resQ M.toEnv f σ fn.results.toList with | some v => some (v, σ, p) | none => none) | _ => none)
  | .code c :: k =>
    (match c with
     | .skip => rec k f σ p
     | .seq x y => rec (.code x :: .code y :: k) f σ p
     | .block id c => rec (.code c :: .inBlock id :: k) f σ p
     | .loop c => rec (.code c :: .inLoop c :: k) f σ p
     | .cond c x y => (match opd f c with
       | some (.bool t) => rec (.code (bif t then x else y) :: k) f σ p
       | _ => none)
     | .exit id => (match exitTo id k with | some k' => rec k' f σ p | none => none)
     | .ret => (match f.df with | [] => (match resQ M.toEnv f σ fn.results.toList with | some v => some (v, σ, p) | none => none) | _ => none)
     | .region _ ops draw =>
       (bif draw then
         (match planOf fn.ntmps ops with
          | some pl => (match runDraw M call ops pl [] f σ with | some (f', σ') => rec k f' σ' p | none => none)
          | none => none)
        else bif ops.toList.all (dstOk fn.ntmps) then
         (match runOpsP M callP ov ops ops.toList f σ p with | some (f', σ', p') => rec k f' σ' p' | none => none)
        else none)
     | _ => none)
  | .inBlock _ :: k => rec k f σ p
  | .inLoop c :: k => rec (.code c :: .inLoop c :: k) f σ p
  | _ => none

def runKP (fn : Func) (n : Nat) : List Item → Fr → St → Prop → Option (Value × St × Prop) :=
  Nat.rec (motive := fun _ => List Item → Fr → St → Prop → Option (Value × St × Prop)) (fun _ _ _ _ => none) (fun _ ih => stepKP M callP call ov fn ih) n

def bodyP (steps : Nat) (g : FuncId) (args : List Value) (σ : St) (p : Prop) : Option (Value × St × Prop) :=
  match M.P.funcs.toList[g]? with
  | some fn => (match fn.body with
    | some c => bif (fn.name != "runtime.NumGoroutine") && Nat.ble args.length fn.ntmps then runKP M callP call ov fn steps [.code c] (initF 0 args .nil) σ p else none
    | none => none)
  | none => none
end

section
variable {M : EnvM} {callP : CallP} {call : CallF} (hcP : CallOkP M callP) (hc : CallOk M call) {ov : Tmp → Option Value}
include hcP hc

theorem runOpsP_sound {nt : Nat} {all : Array Oper} {K : Fr → St → Prop} : ∀ {l : List Oper} {f : Fr} {σ : St} {p : Prop} {f' : Fr} {σ' : St} {p' : Prop}, runOpsP M callP ov all l f σ p = some (f', σ', p') → (p' → p) ∧ (p' → K f' σ' → WL M nt all l f σ K)
  | [], f, σ, p, f', σ', p', h => by
    simp only [runOpsP, Option.some.injEq, Prod.mk.injEq] at h
    obtain ⟨rfl, rfl, rfl⟩ := h
    exact ⟨id, fun _ hK => WL.nil hK⟩
  | o :: r, f, σ, p, f', σ', p', h => by
    have h' : (match ovO ov o with
      | some u => (match wantedA all f o with
        | some true => runOpsP M callP ov all r (putF f o.dst u) σ (p ∧ opQ M.toEnv f σ o.op = some u)
        | some false => runOpsP M callP ov all r (putF f o.dst undef) σ p
        | none => none)
      | none => match runOp M noCall all o f σ with
        | some (f', σ') => runOpsP M callP ov all r f' σ' p
        | none => match wantedA all f o, o.op with
          | some true, .call c => (match callQ M f c with
            | some (g, args) => (match callP g args σ p with
              | some (v, σ', p') => runOpsP M callP ov all r (putF f o.dst v) σ' p'
              | none => none)
            | none => none)
          | _, _ => none) = some (f', σ', p') := h
    clear h
    split at h'
    · rename_i u hu
      split at h'
      · rename_i hw
        obtain ⟨h1, h2⟩ := runOpsP_sound (nt := nt) (K := K) h'
        exact ⟨fun hp => (h1 hp).1, fun hp hK => WL.quiet hw (h1 hp).2 (h2 hp hK)⟩
      · rename_i hw
        obtain ⟨h1, h2⟩ := runOpsP_sound (nt := nt) (K := K) h'
        exact ⟨h1, fun hp hK => WL.skip hw (h2 hp hK)⟩
      · cases h'
    · split at h'
      · rename_i f₁ σ₁ ho
        obtain ⟨h1, h2⟩ := runOpsP_sound (nt := nt) (K := K) h'
        refine ⟨h1, fun hp hK => ?_⟩
        have h3 := h2 hp hK
        unfold runOp at ho
        split at ho
        · rename_i hw
          simp only [Option.some.injEq, Prod.mk.injEq] at ho
          obtain ⟨rfl, rfl⟩ := ho
          exact WL.skip hw h3
        · rename_i hw
          split at ho
          · rename_i v hq
            simp only [Option.some.injEq, Prod.mk.injEq] at ho
            obtain ⟨rfl, rfl⟩ := ho
            exact WL.quiet hw hq h3
          · split at ho
            · rename_i res σ₂ hq
              simp only [Option.some.injEq, Prod.mk.injEq] at ho
              obtain ⟨rfl, rfl⟩ := ho
              refine WL.write hw hq ?_
              cases res <;> exact h3
            · split at ho
              · split at ho
                · simp [noCall] at ho
                · cases ho
              · cases ho
        · cases ho
      · split at h'
        · rename_i c hw hop
          split at h'
          · rename_i g args hcq
            split at h'
            · rename_i v σ₂ p₂ hcall
              obtain ⟨h1, h2⟩ := runOpsP_sound (nt := nt) (K := K) h'
              obtain ⟨h4, h5⟩ := hcP _ _ _ _ _ _ _ hcall
              refine ⟨fun hp => h4 (h1 hp), fun hp hK => ?_⟩
              refine WL.call hop hw hcq ((h5 (h1 hp)).mono fun r' σ'' _ ⟨e1, e2⟩ => ?_)
              subst e1; subst e2
              exact h2 hp hK
            · cases h'
          · cases h'
        · cases h'

theorem runKP_sound {K : FuncId} {fn : Func} (hf : M.P.funcs[K]? = some fn) : ∀ {n : Nat} {k : List Item} {f : Fr} {σ : St} {p : Prop} {r : Value} {σ' : St} {p' : Prop}, runKP M callP call ov fn n k f σ p = some (r, σ', p') → (p' → p) ∧ (p' → VM M K fn.ntmps k f σ (fun r' σ'' => r' = r ∧ σ'' = σ'))
  | 0, k, f, σ, p, r, σ', p', h => by simp [runKP] at h
  | n + 1, k, f, σ, p, r, σ', p', h => by
    have h' : stepKP M callP call ov fn (runKP M callP call ov fn n) k f σ p = some (r, σ', p') := h
    clear h
    unfold stepKP at h'
    split at h'
    · split at h'
      · rename_i hdf
        split at h'
        · rename_i v hv
          simp only [Option.some.injEq, Prod.mk.injEq] at h'
          obtain ⟨rfl, rfl, rfl⟩ := h'
          exact ⟨id, fun _ => VM.done hdf hf hv ⟨rfl, rfl⟩⟩
        · cases h'
      · cases h'
    · split at h'
      · exact ⟨(runKP_sound hf h').1, fun hp => VM.skip ((runKP_sound hf h').2 hp)⟩
      · exact ⟨(runKP_sound hf h').1, fun hp => VM.seq ((runKP_sound hf h').2 hp)⟩
      · exact ⟨(runKP_sound hf h').1, fun hp => VM.block ((runKP_sound hf h').2 hp)⟩
      · exact ⟨(runKP_sound hf h').1, fun hp => VM.loop1 ((runKP_sound hf h').2 hp)⟩
      · split at h'
        · rename_i t hcond
          exact ⟨(runKP_sound hf h').1, fun hp => VM.cond hcond ((runKP_sound hf h').2 hp)⟩
        · cases h'
      · split at h'
        · rename_i k' hx
          exact ⟨(runKP_sound hf h').1, fun hp => VM.exit hx ((runKP_sound hf h').2 hp)⟩
        · cases h'
      · split at h'
        · rename_i hdf
          split at h'
          · rename_i v hv
            simp only [Option.some.injEq, Prod.mk.injEq] at h'
            obtain ⟨rfl, rfl, rfl⟩ := h'
            exact ⟨id, fun _ => VM.ret hdf hf hv ⟨rfl, rfl⟩⟩
          · cases h'
        · cases h'
      · rename_i id ops draw
        cases draw with
        | true =>
          simp only [cond_true] at h'
          split at h'
          · rename_i pl hp
            split at h'
            · rename_i f₁ σ₁ hrun
              have hgood : planGood fn.ntmps ops pl = true := by
                unfold planOf at hp
                split at hp
                · rename_i p' _
                  cases hb : planGood fn.ntmps ops p' with
                  | false => simp [hb] at hp
                  | true => simp only [hb, cond_true, Option.some.injEq] at hp; subst hp; exact hb
                · cases hp
              exact ⟨(runKP_sound hf h').1, fun hp => VM.draw pl hgood (runDraw_sound hc hrun ((runKP_sound hf h').2 hp))⟩
            · cases h'
          · cases h'
        | false =>
          simp only [cond_false] at h'
          cases hb : ops.toList.all (dstOk fn.ntmps) with
          | false => simp [hb] at h'
          | true =>
            simp only [hb, cond_true] at h'
            split at h'
            · rename_i f₁ σ₁ p₁ hrun
              obtain ⟨h1, h2⟩ := runKP_sound hf h'
              exact ⟨fun hp => (runOpsP_sound hcP hc (nt := fn.ntmps) (K := fun _ _ => True) hrun).1 (h1 hp), fun hp => VM.region hb ((runOpsP_sound hcP hc hrun).2 (h1 hp) (h2 hp))⟩
            · cases h'
      · cases h'
    · exact ⟨(runKP_sound hf h').1, fun hp => VM.inBlock ((runKP_sound hf h').2 hp)⟩
    · exact ⟨(runKP_sound hf h').1, fun hp => VM.inLoop ((runKP_sound hf h').2 hp)⟩
    · cases h'


theorem bodyP_sound {steps : Nat} {g : FuncId} {args : List Value} {σ : St} {p : Prop} {r : Value} {σ' : St} {p' : Prop} (h : bodyP M callP call ov steps g args σ p = some (r, σ', p')) : (p' → p) ∧ (p' → WF M.toEnv g args σ (fun r' σ'' => r' = r ∧ σ'' = σ')) := by
  unfold bodyP at h
  split at h
  · rename_i fn hf
    have hf' : M.P.funcs[g]? = some fn := by rw [← hf]; simp
    split at h
    · rename_i c hb
      cases hq : ((fn.name != "runtime.NumGoroutine") && Nat.ble args.length fn.ntmps) with
      | false => simp [hq] at h
      | true =>
        simp only [hq, cond_true] at h
        simp only [Bool.and_eq_true, bne, Bool.not_eq_true', Nat.ble_eq] at hq
        obtain ⟨h1, h2⟩ := runKP_sound hcP hc hf' h
        exact ⟨h1, fun hp => WF.of_VM hf' hq.1 hb hq.2 (h2 hp)⟩
    · cases h
  · cases h
end

/-- Values given by function and slot. -/
def evP (M : EnvM) (orc call : CallF) (ov : FuncId → Tmp → Option Value) (steps : Nat) (n : Nat) : CallP :=
  Nat.rec (motive := fun _ => CallP) (fun _ _ _ _ => none) (fun _ ih g args σ p => match orc g args σ with | some (r, σ') => some (r, σ', p) | none => bodyP M ih call (ov g) steps g args σ p) n

theorem evP_sound {M : EnvM} {orc call : CallF} (ho : CallOk M orc) (hc : CallOk M call) {ov : FuncId → Tmp → Option Value} (steps : Nat) : ∀ n, CallOkP M (evP M orc call ov steps n)
  | 0 => fun g args σ p r σ' p' h => by simp [evP] at h
  | n + 1 => fun g args σ p r σ' p' h => by
    have h' : (match orc g args σ with | some (r, σ') => some (r, σ', p) | none => bodyP M (evP M orc call ov steps n) call (ov g) steps g args σ p) = some (r, σ', p') := h
    split at h'
    · rename_i r₁ σ₁ hr
      simp only [Option.some.injEq, Prod.mk.injEq] at h'
      obtain ⟨rfl, rfl, rfl⟩ := h'
      exact ⟨id, fun _ => ho g args σ _ _ hr⟩
    · exact bodyP_sound (evP_sound ho hc steps n) hc h'

theorem okP_true {M : EnvM} {call : CallP} (hc : CallOkP M call) {K : FuncId} {args : List Value} {p : Prop} (h : okO (call K args St.empty True) = some p) (hp : p) (hs : ∀ v ∈ args, ∀ ρ : Nat → Loc, ren ρ v = v) (w : World) :
    Calls M.P K args.toArray w (fun e w' => e = .returned (.bool true) ∧ Go.RowKit.Below w.heap.size w w') := by
  unfold okO at h
  split at h
  · rename_i σ' q hcall
    simp only [Option.some.injEq] at h
    subst h
    have hsc : Scs St.empty.next args := fun v hv ρ ρ' _ => by rw [hs v hv, hs v hv]
    have := WF.calls ((hc _ _ _ _ _ _ _ hcall).2 hp) (Rel.empty (fun _ => ⟨0, 0, 0⟩) w) hsc (fun i => rfl)
    have e0 : args.map (ren fun _ => ⟨0, 0, 0⟩) = args := by
      have := List.map_congr_left (f := ren fun _ => ⟨0, 0, 0⟩) (g := id) fun v hv => hs v hv _
      rw [this, List.map_id]
    rw [e0] at this
    refine this.mono fun e w' ⟨r, σ'', ρ', he, ⟨hr, _⟩, hb⟩ => ⟨?_, hb⟩
    subst hr
    rw [he, ren_bool]
  · cases h
end
end AH
