/-
  AH 24: a body reckoned where some values are given, and owed: what is owed is left as a proposition.
-/
import Derived.Test.YtognbiffhgpoaaaGreatAh23
set_option linter.unusedSimpArgs false
set_option linter.unusedVariables false
set_option linter.unusedSectionVars false
namespace AH
open Go
noncomputable section

section
variable (M : EnvM) (call : CallF) (ov : Tmp → Option Value)

def ovO (o : Oper) : Option Value := match o.dst with | some d => ov d | none => none

noncomputable def runOpsO (all : Array Oper) (l : List Oper) : Fr → St → Prop → Option (Fr × St × Prop) :=
  List.rec (motive := fun _ => Fr → St → Prop → Option (Fr × St × Prop)) (fun f σ p => some (f, σ, p))
    (fun o _ ih f σ p => match ovO ov o with
      | some u => (match wantedA all f o with
        | some true => ih (putF f o.dst u) σ (p ∧ opQ M.toEnv f σ o.op = some u)
        | some false => ih (putF f o.dst undef) σ p
        | none => none)
      | none => match runOp M call all o f σ with | some (f', σ') => ih f' σ' p | none => none) l

noncomputable def stepKO (fn : Func) (rec : List Item → Fr → St → Prop → Option (Value × St × Prop)) (k : List Item) (f : Fr) (σ : St) (p : Prop) : Option (Value × St × Prop) :=
  match k with
  | [] => (match f.df with | [] => (match resQ M.toEnv f σ fn.results.toList with | some v => some (v, σ, p) | none => none) | _ => none)
  | .code c :: k =>
    (match c with
     | .skip => rec k f σ p
     | .seq x y => rec (.code x :: .code y :: k) f σ p
     | .block id c => rec (.code c :: .inBlock id :: k) f σ p
     | .loop c => rec (.code c :: .inLoop c :: k) f σ p
     | .cond c x y => (match opd f c with
       | some (.bool t) => rec (.code (bif t then x else y) :: k) f σ p
       | _ => none)
     | .exit id => (match exitTo id k with | some k' => rec k' f σ p | none => none)
     | .ret => (match f.df with | [] => (match resQ M.toEnv f σ fn.results.toList with | some v => some (v, σ, p) | none => none) | _ => none)
     | .region _ ops draw =>
       (bif draw then
         (match planOf fn.ntmps ops with
          | some pl => (match runDraw M call ops pl [] f σ with | some (f', σ') => rec k f' σ' p | none => none)
          | none => none)
        else bif ops.toList.all (dstOk fn.ntmps) then
         (match runOpsO M call ov ops ops.toList f σ p with | some (f', σ', p') => rec k f' σ' p' | none => none)
        else none)
     | _ => none)
  | .inBlock _ :: k => rec k f σ p
  | .inLoop c :: k => rec (.code c :: .inLoop c :: k) f σ p
  | _ => none

noncomputable def runKO (fn : Func) (n : Nat) : List Item → Fr → St → Prop → Option (Value × St × Prop) :=
  Nat.rec (motive := fun _ => List Item → Fr → St → Prop → Option (Value × St × Prop)) (fun _ _ _ _ => none) (fun _ ih => stepKO M call ov fn ih) n

noncomputable def bodyO (steps : Nat) (g : FuncId) (args : List Value) (σ : St) : Option (Value × St × Prop) :=
  match M.P.funcs.toList[g]? with
  | some fn => (match fn.body with
    | some c => bif (fn.name != "runtime.NumGoroutine") && Nat.ble args.length fn.ntmps then runKO M call ov fn steps [.code c] (initF 0 args .nil) σ True else none
    | none => none)
  | none => none
end

section
variable {M : EnvM} {call : CallF} (hc : CallOk M call) {ov : Tmp → Option Value}
include hc

theorem runOpsO_sound {nt : Nat} {all : Array Oper} {K : Fr → St → Prop} : ∀ {l : List Oper} {f : Fr} {σ : St} {p : Prop} {f' : Fr} {σ' : St} {p' : Prop}, runOpsO M call ov all l f σ p = some (f', σ', p') → (p' → p) ∧ (p' → K f' σ' → WL M nt all l f σ K)
  | [], f, σ, p, f', σ', p', h => by
    simp only [runOpsO, Option.some.injEq, Prod.mk.injEq] at h
    obtain ⟨rfl, rfl, rfl⟩ := h
    exact ⟨id, fun _ hK => WL.nil hK⟩
  | o :: r, f, σ, p, f', σ', p', h => by
    have h' : (match ovO ov o with
      | some u => (match wantedA all f o with
        | some true => runOpsO M call ov all r (putF f o.dst u) σ (p ∧ opQ M.toEnv f σ o.op = some u)
        | some false => runOpsO M call ov all r (putF f o.dst undef) σ p
        | none => none)
      | none => match runOp M call all o f σ with | some (f₁, σ₁) => runOpsO M call ov all r f₁ σ₁ p | none => none) = some (f', σ', p') := h
    clear h
    split at h'
    · rename_i u hu
      split at h'
      · rename_i hw
        obtain ⟨h1, h2⟩ := runOpsO_sound (nt := nt) (K := K) h'
        exact ⟨fun hp => (h1 hp).1, fun hp hK => WL.quiet hw (h1 hp).2 (h2 hp hK)⟩
      · rename_i hw
        obtain ⟨h1, h2⟩ := runOpsO_sound (nt := nt) (K := K) h'
        exact ⟨h1, fun hp hK => WL.skip hw (h2 hp hK)⟩
      · cases h'
    · split at h'
      · rename_i f₁ σ₁ ho
        obtain ⟨h1, h2⟩ := runOpsO_sound (nt := nt) (K := K) h'
        refine ⟨h1, fun hp hK => ?_⟩
        have h3 := h2 hp hK
        have h4 : runOps M call all [o] f σ = some (f₁, σ₁) := by simp only [runOps, ho]
        unfold runOp at ho
        split at ho
        · rename_i hw
          simp only [Option.some.injEq, Prod.mk.injEq] at ho
          obtain ⟨rfl, rfl⟩ := ho
          exact WL.skip hw h3
        · rename_i hw
          split at ho
          · rename_i v hq
            simp only [Option.some.injEq, Prod.mk.injEq] at ho
            obtain ⟨rfl, rfl⟩ := ho
            exact WL.quiet hw hq h3
          · split at ho
            · rename_i res σ₂ hq
              simp only [Option.some.injEq, Prod.mk.injEq] at ho
              obtain ⟨rfl, rfl⟩ := ho
              refine WL.write hw hq ?_
              cases res <;> exact h3
            · split at ho
              · rename_i c hop
                split at ho
                · rename_i g args hcq
                  split at ho
                  · rename_i v σ₂ hcall
                    simp only [Option.some.injEq, Prod.mk.injEq] at ho
                    obtain ⟨rfl, rfl⟩ := ho
                    refine WL.call hop hw hcq ((hc _ _ _ _ _ hcall).mono fun r' σ'' _ ⟨e1, e2⟩ => ?_)
                    subst e1; subst e2
                    exact h3
                  · cases ho
                · cases ho
              · cases ho
        · cases ho
      · cases h'

theorem runKO_sound {K : FuncId} {fn : Func} (hf : M.P.funcs[K]? = some fn) : ∀ {n : Nat} {k : List Item} {f : Fr} {σ : St} {p : Prop} {r : Value} {σ' : St} {p' : Prop}, runKO M call ov fn n k f σ p = some (r, σ', p') → (p' → p) ∧ (p' → VM M K fn.ntmps k f σ (fun r' σ'' => r' = r ∧ σ'' = σ'))
  | 0, k, f, σ, p, r, σ', p', h => by simp [runKO] at h
  | n + 1, k, f, σ, p, r, σ', p', h => by
    have h' : stepKO M call ov fn (runKO M call ov fn n) k f σ p = some (r, σ', p') := h
    clear h
    unfold stepKO at h'
    split at h'
    · split at h'
      · rename_i hdf
        split at h'
        · rename_i v hv
          simp only [Option.some.injEq, Prod.mk.injEq] at h'
          obtain ⟨rfl, rfl, rfl⟩ := h'
          exact ⟨id, fun _ => VM.done hdf hf hv ⟨rfl, rfl⟩⟩
        · cases h'
      · cases h'
    · split at h'
      · exact ⟨(runKO_sound hf h').1, fun hp => VM.skip ((runKO_sound hf h').2 hp)⟩
      · exact ⟨(runKO_sound hf h').1, fun hp => VM.seq ((runKO_sound hf h').2 hp)⟩
      · exact ⟨(runKO_sound hf h').1, fun hp => VM.block ((runKO_sound hf h').2 hp)⟩
      · exact ⟨(runKO_sound hf h').1, fun hp => VM.loop1 ((runKO_sound hf h').2 hp)⟩
      · split at h'
        · rename_i t hcond
          exact ⟨(runKO_sound hf h').1, fun hp => VM.cond hcond ((runKO_sound hf h').2 hp)⟩
        · cases h'
      · split at h'
        · rename_i k' hx
          exact ⟨(runKO_sound hf h').1, fun hp => VM.exit hx ((runKO_sound hf h').2 hp)⟩
        · cases h'
      · split at h'
        · rename_i hdf
          split at h'
          · rename_i v hv
            simp only [Option.some.injEq, Prod.mk.injEq] at h'
            obtain ⟨rfl, rfl, rfl⟩ := h'
            exact ⟨id, fun _ => VM.ret hdf hf hv ⟨rfl, rfl⟩⟩
          · cases h'
        · cases h'
      · rename_i id ops draw
        cases draw with
        | true =>
          simp only [cond_true] at h'
          split at h'
          · rename_i pl hp
            split at h'
            · rename_i f₁ σ₁ hrun
              have hgood : planGood fn.ntmps ops pl = true := by
                unfold planOf at hp
                split at hp
                · rename_i p' _
                  cases hb : planGood fn.ntmps ops p' with
                  | false => simp [hb] at hp
                  | true => simp only [hb, cond_true, Option.some.injEq] at hp; subst hp; exact hb
                · cases hp
              exact ⟨(runKO_sound hf h').1, fun hp => VM.draw pl hgood (runDraw_sound hc hrun ((runKO_sound hf h').2 hp))⟩
            · cases h'
          · cases h'
        | false =>
          simp only [cond_false] at h'
          cases hb : ops.toList.all (dstOk fn.ntmps) with
          | false => simp [hb] at h'
          | true =>
            simp only [hb, cond_true] at h'
            split at h'
            · rename_i f₁ σ₁ p₁ hrun
              obtain ⟨h1, h2⟩ := runKO_sound hf h'
              exact ⟨fun hp => (runOpsO_sound hc (nt := fn.ntmps) (K := fun _ _ => True) hrun).1 (h1 hp), fun hp => VM.region hb ((runOpsO_sound hc hrun).2 (h1 hp) (h2 hp))⟩
            · cases h'
      · cases h'
    · exact ⟨(runKO_sound hf h').1, fun hp => VM.inBlock ((runKO_sound hf h').2 hp)⟩
    · exact ⟨(runKO_sound hf h').1, fun hp => VM.inLoop ((runKO_sound hf h').2 hp)⟩
    · cases h'

theorem bodyO_sound {steps : Nat} {g : FuncId} {args : List Value} {σ : St} {r : Value} {σ' : St} {p : Prop} (h : bodyO M call ov steps g args σ = some (r, σ', p)) (hp : p) : WF M.toEnv g args σ (fun r' σ'' => r' = r ∧ σ'' = σ') := by
  unfold bodyO at h
  split at h
  · rename_i fn hf
    have hf' : M.P.funcs[g]? = some fn := by rw [← hf]; simp
    split at h
    · rename_i c hb
      cases hq : ((fn.name != "runtime.NumGoroutine") && Nat.ble args.length fn.ntmps) with
      | false => simp [hq] at h
      | true =>
        simp only [hq, cond_true] at h
        simp only [Bool.and_eq_true, bne, Bool.not_eq_true', Nat.ble_eq] at hq
        exact WF.of_VM hf' hq.1 hb hq.2 ((runKO_sound hc hf' h).2 hp)
    · cases h
  · cases h
end

def isTO : Option (Value × St × Prop) → Bool
  | some (.bool b, _, _) => b
  | _ => false
def owed : Option (Value × St × Prop) → Prop
  | some (_, _, p) => p
  | _ => False

theorem bodyO_true {M : EnvM} {call : CallF} (hc : CallOk M call) {ov : Tmp → Option Value} {steps : Nat} {K : FuncId} {args : List Value} (h : isTO (bodyO M call ov steps K args St.empty) = true) (hp : owed (bodyO M call ov steps K args St.empty)) (hs : ∀ v ∈ args, ∀ ρ : Nat → Loc, ren ρ v = v) (w : World) :
    Calls M.P K args.toArray w (fun e w' => e = .returned (.bool true) ∧ Go.RowKit.Below w.heap.size w w') := by
  unfold isTO at h
  split at h
  · rename_i b' σ' p hcall
    subst h
    rw [hcall] at hp
    have hsc : Scs St.empty.next args := fun v hv ρ ρ' _ => by rw [hs v hv, hs v hv]
    have := WF.calls (bodyO_sound hc hcall hp) (Rel.empty (fun _ => ⟨0, 0, 0⟩) w) hsc (fun i => rfl)
    have e0 : args.map (ren fun _ => ⟨0, 0, 0⟩) = args := by
      have := List.map_congr_left (f := ren fun _ => ⟨0, 0, 0⟩) (g := id) fun v hv => hs v hv _
      rw [this, List.map_id]
    rw [e0] at this
    refine this.mono fun e w' ⟨r, σ'', ρ', he, ⟨hr, _⟩, hb⟩ => ⟨?_, hb⟩
    subst hr
    rw [he, ren_bool]
  · exact absurd h (by simp)

end
end AH
