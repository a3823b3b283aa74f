/-
  AH 22: an evaluator: what a call comes to, reckoned; and that the call comes to it.
-/
import Derived.Test.YtognbiffhgpoaaaGreatAh21
import Derived.Test.YtognbiffhgpoaaaGreatAhP
set_option linter.unusedSimpArgs false
set_option linter.unusedVariables false
set_option linter.unusedSectionVars false
namespace AH
open Go
noncomputable section

/-- Are two values the same? (as far as a small depth goes) -/
def eqV : Nat → Value → Value → Bool
  | 0, _, _ => false
  | n + 1, x, y => match x, y with
    | .bool a, .bool b => a == b
    | .int k a, .int j b => k == j && a == b
    | .string a, .string b => a.data.toList == b.data.toList
    | .pointer a, .pointer b => a == b
    | .slice a l c, .slice b m d => a == b && Nat.beq l m && Nat.beq c d
    | .map a, .map b => a == b
    | .nilFunc, .nilFunc => true
    | .nilIface, .nilIface => true
    | .iface t v, .iface u w => Nat.beq t u && eqV n v w
    | .func f a b, .func g c d => f == g && eqL n a.toList c.toList && eqL n b.toList d.toList
    | _, _ => false
where
  eqL (n : Nat) : List Value → List Value → Bool
    | [], [] => true
    | x :: r, y :: s => eqV n x y && eqL n r s
    | _, _ => false

theorem eqL_sound {n : Nat} (ih : ∀ x y, eqV n x y = true → x = y) : ∀ (l m : List Value), eqV.eqL n l m = true → l = m
  | [], [], _ => rfl
  | [], _ :: _, h => by simp [eqV.eqL] at h
  | _ :: _, [], h => by simp [eqV.eqL] at h
  | x :: r, y :: s, h => by
    simp only [eqV.eqL, Bool.and_eq_true] at h
    rw [ih x y h.1, eqL_sound ih r s h.2]

theorem eqV_sound : ∀ (n : Nat) (x y : Value), eqV n x y = true → x = y := by
  intro n
  induction n with
  | zero => intro x y h; simp [eqV] at h
  | succ n ih =>
    intro x y h
    unfold eqV at h
    split at h
    · simp only [beq_iff_eq] at h; rw [h]
    · simp only [Bool.and_eq_true, beq_iff_eq] at h; rw [h.1, h.2]
    · rename_i a b
      have := eq_of_beq h
      congr 1
      exact ByteArray.ext (Array.ext' this)
    · simp only [beq_iff_eq] at h; rw [h]
    · simp only [Bool.and_eq_true, beq_iff_eq, Nat.beq_eq] at h; rw [h.1.1, h.1.2, h.2]
    · simp only [beq_iff_eq] at h; rw [h]
    · rfl
    · rfl
    · simp only [Bool.and_eq_true, Nat.beq_eq] at h; rw [h.1, ih _ _ h.2]
    · simp only [Bool.and_eq_true, beq_iff_eq] at h
      rw [h.1.1, Array.ext' (eqL_sound ih _ _ h.1.2), Array.ext' (eqL_sound ih _ _ h.2)]
    · cases h

def entB (a b : MapEntry) : Bool := eqV 3 a.key b.key && eqV 3 a.val b.val && Nat.beq a.born b.born
def entsB : List MapEntry → List MapEntry → Bool
  | [], [] => true
  | x :: r, y :: s => entB x y && entsB r s
  | _, _ => false

theorem entsB_sound : ∀ {a b : List MapEntry}, entsB a b = true → a = b
  | [], [], _ => rfl
  | [], _ :: _, h => by simp [entsB] at h
  | _ :: _, [], h => by simp [entsB] at h
  | x :: r, y :: s, h => by
    simp only [entsB, entB, Bool.and_eq_true, Nat.beq_eq] at h
    obtain ⟨⟨⟨h1, h2⟩, h3⟩, h4⟩ := h
    rw [entsB_sound h4]
    congr 1
    cases x; cases y
    simp only at h1 h2 h3
    rw [eqV_sound _ _ _ h1, eqV_sound _ _ _ h2, h3]

/-- Does it still hold? -/
def holdB (σ : St) : Hold → Bool
  | .cell b off v => match (σ.get b).known with
    | some cs => (match cs[off]? with | some u => eqV 4 u v | none => false)
    | none => false
  | .map b es c => match σ.get b with
    | .map es' c' => entsB es' es && Nat.beq c' c
    | _ => false

theorem holdB_sound {σ : St} {h : Hold} (hb : holdB σ h = true) : h.in σ := by
  cases h with
  | cell b off v =>
    simp only [holdB] at hb
    split at hb
    · rename_i cs hk
      split at hb
      · rename_i u hu
        have := eqV_sound _ _ _ hb
        subst this
        exact ⟨cs, hk, hu⟩
      · cases hb
    · cases hb
  | map b es c =>
    simp only [holdB] at hb
    split at hb
    · rename_i es' c' hg
      simp only [Bool.and_eq_true, Nat.beq_eq] at hb
      rw [entsB_sound hb.1, hb.2] at hg
      exact hg
    · cases hb

abbrev CallF := FuncId → List Value → St → Option (Value × St)

section
variable (M : EnvM) (call : CallF)

/-- One operation. -/
def runOp (all : Array Oper) (o : Oper) (f : Fr) (σ : St) : Option (Fr × St) :=
  match wantedA all f o with
  | some false => some (putF f o.dst undef, σ)
  | some true =>
    (match opQ M.toEnv f σ o.op with
     | some v => some (putF f o.dst v, σ)
     | none => match opW M.toEnv f σ o.op with
       | some (r, σ') => some (putF f o.dst (match r with | some v => v | none => undef), σ')
       | none => match o.op with
         | .call c => (match callQ M f c with
           | some (g, args) => (match call g args σ with
             | some (v, σ') => some (putF f o.dst v, σ')
             | none => none)
           | none => none)
         | _ => none)
  | none => none

noncomputable def runOps (all : Array Oper) (l : List Oper) : Fr → St → Option (Fr × St) :=
  List.rec (motive := fun _ => Fr → St → Option (Fr × St)) (fun f σ => some (f, σ)) (fun o _ ih f σ => match runOp M call all o f σ with | some (f', σ') => ih f' σ' | none => none) l

def allB (σ : St) (H : List HE) : Bool := H.all fun x => holdB σ x.2

def idxOf : List Ent0 → List Nat
  | [] => []
  | .q i _ :: r => i :: idxOf r
  | .e i :: r => i :: idxOf r

/-- No slot in common. -/
def apartB (ops : Array Oper) (A : List Nat) (fe : Fr) (d : Option Tmp) : Bool := match d with
  | some t => A.all (fun x => match dstOf ops x with | some u => !Nat.beq u t | none => true) && (fe.get t).isNone
  | none => true

/-- Others come up one behind the other, while those of A may. -/
noncomputable def runPend (ops : Array Oper) (A : List Nat) (fe : Fr) (l : List Ent0) : List HE → Fr → St → Option (List HE × Fr × St) :=
  List.rec (motive := fun _ => List HE → Fr → St → Option (List HE × Fr × St)) (fun H f σ => some (H, f, σ))
    (fun p _ ih H f σ =>
      match p with
      | .q i js =>
        (match ops.toList[i]? with
        | none => none
        | some o =>
          bif H.all (fun x => !x.1.contains i) && apartB ops A fe o.dst then
            (match wantedA ops f o with
            | some false => ih H (putF f o.dst undef) σ
            | some true =>
              (match opQ M.toEnv f σ o.op with
               | some v => ih ((opHolds M.toEnv f σ o.op).map (fun x => (js, x)) ++ H) (putF f o.dst v) σ
               | none => none)
            | none => none)
          else none)
      | .e i =>
        (match ops.toList[i]? with
        | none => none
        | some o =>
          bif apartB ops A fe o.dst then
          (match wantedA ops f o with
          | some true =>
               (match opW M.toEnv f σ o.op with
                | some (r, σ') => bif allB σ' (rls i H) then ih (rls i H) (putF f o.dst (match r with | some v => v | none => undef)) σ' else none
                | none => match o.op with
                  | .call c => (match callQ M f c with
                    | some (g, args) => (match call g args σ with
                      | some (v, σ') => bif allB σ' (rls i H) then ih (rls i H) (putF f o.dst v) σ' else none
                      | none => none)
                    | none => none)
                  | _ => none)
          | _ => none)
          else none)) l

noncomputable def runDraw (ops : Array Oper) (l : List Ent) : List HE → Fr → St → Option (Fr × St) :=
  List.rec (motive := fun _ => List HE → Fr → St → Option (Fr × St)) (fun _ f σ => some (f, σ))
    (fun p _ ih H f σ =>
      match p with
      | .p A sub =>
        bif grpOk ops A && nodupB A then
          (match runPend M call ops A (bare ops f (A ++ idxOf sub)) sub H (bare ops f A) σ with
          | some (H', f', σ') => (match adopt M.toEnv ops (bare ops f (A ++ idxOf sub)) A f' σ' with
            | some (f'', σ'') => bif allB σ'' H' then ih H' f'' σ'' else none
            | none => none)
          | none => none)
        else none
      | .g i A =>
        bif grpOk ops (i :: A) && nodupB (i :: A) then
          (match ops.toList[i]? with
          | none => none
          | some o =>
            match wantedA ops (bare ops f (i :: A)) o with
            | some true =>
              (match opW M.toEnv (bare ops f (i :: A)) σ o.op with
               | some (r, σ') => (match adopt M.toEnv ops (bare ops f (i :: A)) A (putF (bare ops f (i :: A)) o.dst (match r with | some v => v | none => undef)) σ' with
                 | some (f'', σ'') => bif allB σ' (rls i H) && allB σ'' (rls i H) then ih (rls i H) f'' σ'' else none
                 | none => none)
               | none => match o.op with
                 | .call c => (match callQ M (bare ops f (i :: A)) c with
                   | some (g, args) => (match call g args σ with
                     | some (v, σ') => (match adopt M.toEnv ops (bare ops f (i :: A)) A (putF (bare ops f (i :: A)) o.dst v) σ' with
                       | some (f'', σ'') => bif allB σ' (rls i H) && allB σ'' (rls i H) then ih (rls i H) f'' σ'' else none
                       | none => none)
                     | none => none)
                   | none => none)
                 | _ => none)
            | _ => none)
        else none
      | .q i js =>
        (match ops.toList[i]? with
        | none => none
        | some o =>
          bif H.all (fun x => !x.1.contains i) then
            (match wantedA ops f o with
            | some false => ih H (putF f o.dst undef) σ
            | some true =>
              (match opQ M.toEnv f σ o.op with
               | some v => ih ((opHolds M.toEnv f σ o.op).map (fun x => (js, x)) ++ H) (putF f o.dst v) σ
               | none => none)
            | none => none)
          else none)
      | .e i =>
        (match ops.toList[i]? with
        | none => none
        | some o =>
          match wantedA ops f o with
          | some false => ih H (putF f o.dst undef) σ
          | some true =>
            (match opQ M.toEnv f σ o.op with
             | some v => ih H (putF f o.dst v) σ
             | none =>
               (match opW M.toEnv f σ o.op with
                | some (r, σ') => bif allB σ' (rls i H) then ih (rls i H) (putF f o.dst (match r with | some v => v | none => undef)) σ' else none
                | none => match o.op with
                  | .call c => (match callQ M f c with
                    | some (g, args) => (match call g args σ with
                      | some (v, σ') => bif allB σ' (rls i H) then ih (rls i H) (putF f o.dst v) σ' else none
                      | none => none)
                    | none => none)
                  | _ => none))
          | none => none)) l

/-- A plan for a region: what is quiet is taken first. -/
def quietOp : Op → Bool
  | .move _ | .assign _ | .pick .. | .load .. | .sliceToArrayPointer .. | .nilCheck _ | .binOp .. | .unOp .. | .makeInterface .. | .makeFunc .. | .slice .. | .fieldAddr .. | .field .. | .indexAddr .. | .index .. | .lookup .. | .typeAssert .. | .extract .. | .build .. | .convert .. => true
  | .call { callee := .builtin .len, .. } | .call { callee := .builtin .min, .. } | .call { callee := .builtin .max, .. } => true
  | _ => false

/-- What reads no memory. -/
def pureOp : Op → Bool
  | .move _ | .assign _ | .pick .. | .sliceToArrayPointer .. | .nilCheck _ | .binOp .. | .unOp .. | .makeInterface .. | .makeFunc .. | .slice .. | .fieldAddr .. | .field .. | .indexAddr .. | .typeAssert .. | .extract .. | .build .. => true
  | _ => false

def makes : Op → Bool
  | .alloc _ | .box .. | .buildSlice .. | .makeMap .. | .makeSlice .. => true
  | _ => false

def opAt (ops : Array Oper) (p : Op → Bool) (i : Nat) : Bool := match ops.toList[i]? with | some o => p o.op | none => false

/-- Those that wait for i, and may turn memory. -/
def relOf (ops : Array Oper) (i : Nat) : List Nat := (List.range ops.size).filter fun j => waitsB ops j i && !opAt ops quietOp j && j != i

/-- What may come up one behind the other while those of A may come up. -/
def subFrom (ops : Array Oper) (A : List Nat) : Nat → Array Bool → List Ent0 × Array Bool
  | 0, l0 => ([], l0)
  | n + 1, l0 =>
    match (Region.ready .any ops l0).filter (fun x => !A.contains x) with
    | [] => ([], l0)
    | j :: js =>
      match (j :: js).find? (fun i => opAt ops quietOp i && Region.free .any ops l0 i) with
      | some i => (match subFrom ops A n (l0.setIfInBounds i true) with | (r, l) => (.q i (bif opAt ops pureOp i then [] else relOf ops i) :: r, l))
      | none => match js with
        | [] => (match subFrom ops A n (l0.setIfInBounds j true) with | (r, l) => (.e j :: r, l))
        | _ => ([], l0)

def planFrom (ops : Array Oper) : Nat → Array Bool → Option (List Ent)
  | 0, listed => bif (Region.ready .any ops listed).isEmpty then some [] else none
  | n + 1, listed =>
    let rs := Region.ready .any ops listed
    match rs.find? (fun i => opAt ops pureOp i && Region.free .any ops listed i) with
    | some i => (match planFrom ops n (listed.setIfInBounds i true) with | some r => some (.q i [] :: r) | none => none)
    | none => match rs with
      | [] => some []
      | [i] => (match planFrom ops n (listed.setIfInBounds i true) with | some r => some (.e i :: r) | none => none)
      | j :: js =>
        match rs.find? (fun i => opAt ops quietOp i && Region.free .any ops listed i) with
        | some i => (match planFrom ops n (listed.setIfInBounds i true) with | some r => some (.q i (relOf ops i) :: r) | none => none)
        | none => match (match rs.find? (fun i => !opAt ops makes i) with | some i => (i, rs.erase i) | none => (j, js)) with
          | (i, A) =>
            bif chk ops (finOf listed (i :: A)) (A.length + 1) listed (i :: A) then (match planFrom ops n (finOf listed (i :: A)) with | some r => some (.g i A :: r) | none => none)
            else (match rs.filter (fun x => opAt ops makes x) with
              | A => (match subFrom ops A ops.size listed with
                | (sub, l0) => (match planFrom ops n (finOf l0 A) with | some r => some (.p A sub :: r) | none => none)))

def planOf (nt : Nat) (ops : Array Oper) : Option (List Ent) :=
  match planFrom ops ops.size (Array.replicate ops.size false) with
  | some p => bif planGood nt ops p then some p else none
  | none => none

/-- One thing to do. -/
noncomputable def stepK (fn : Func) (rec : List Item → Fr → St → Option (Value × St)) (k : List Item) (f : Fr) (σ : St) : Option (Value × St) :=
  match k with
  | [] => (match f.df with | [] => (match resQ M.toEnv f σ fn.results.toList with | some v => some (v, σ) | none => none) | _ => none)
  | .code c :: k =>
    (match c with
     | .skip => rec k f σ
     | .seq x y => rec (.code x :: .code y :: k) f σ
     | .block id c => rec (.code c :: .inBlock id :: k) f σ
     | .loop c => rec (.code c :: .inLoop c :: k) f σ
     | .cond c x y => (match opd f c with
       | some (.bool t) => rec (.code (bif t then x else y) :: k) f σ
       | _ => none)
     | .exit id => (match exitTo id k with | some k' => rec k' f σ | none => none)
     | .ret => (match f.df with | [] => (match resQ M.toEnv f σ fn.results.toList with | some v => some (v, σ) | none => none) | _ => none)
     | .region _ ops draw =>
       (bif draw then
         (match planOf fn.ntmps ops with
          | some p => (match runDraw M call ops p [] f σ with | some (f', σ') => rec k f' σ' | none => none)
          | none => none)
        else bif ops.toList.all (dstOk fn.ntmps) then
         (match runOps M call ops ops.toList f σ with | some (f', σ') => rec k f' σ' | none => none)
        else none)
     | _ => none)
  | .inBlock _ :: k => rec k f σ
  | .inLoop c :: k => rec (.code c :: .inLoop c :: k) f σ
  | _ => none

noncomputable def runK (fn : Func) (n : Nat) : List Item → Fr → St → Option (Value × St) :=
  Nat.rec (motive := fun _ => List Item → Fr → St → Option (Value × St)) (fun _ _ _ => none) (fun _ ih => stepK M call fn ih) n

/-- The body of a call. -/
noncomputable def bodyF (steps : Nat) (g : FuncId) (args : List Value) (σ : St) : Option (Value × St) :=
  match M.P.funcs.toList[g]? with
  | some fn => (match fn.body with
    | some c => bif (fn.name != "runtime.NumGoroutine") && Nat.ble args.length fn.ntmps then runK M call fn steps [.code c] (initF 0 args .nil) σ else none
    | none => none)
  | none => none
end

/-- A call: by what is known of some functions, else by its body. -/
noncomputable def evF (M : EnvM) (orc : CallF) (steps : Nat) (n : Nat) : CallF :=
  Nat.rec (motive := fun _ => CallF) (fun _ _ _ => none) (fun _ ih g args σ => match orc g args σ with | some r => some r | none => bodyF M ih steps g args σ) n

/-! ### Soundness -/

def CallOk (M : EnvM) (call : CallF) : Prop := ∀ g args σ r σ', call g args σ = some (r, σ') → WF M.toEnv g args σ (fun r' σ'' => r' = r ∧ σ'' = σ')

section
variable {M : EnvM} {call : CallF} (hc : CallOk M call)
include hc

theorem runOps_sound {nt : Nat} {all : Array Oper} {K : Fr → St → Prop} : ∀ {l : List Oper} {f : Fr} {σ : St} {f' : Fr} {σ' : St}, runOps M call all l f σ = some (f', σ') → K f' σ' → WL M nt all l f σ K
  | [], f, σ, f', σ', h, hK => by
    simp only [runOps, Option.some.injEq, Prod.mk.injEq] at h
    obtain ⟨rfl, rfl⟩ := h
    exact WL.nil hK
  | o :: r, f, σ, f', σ', h, hK => by
    have h' : (match runOp M call all o f σ with | some (f₁, σ₁) => runOps M call all r f₁ σ₁ | none => none) = some (f', σ') := h
    cases ho : runOp M call all o f σ with
    | none => simp [ho] at h'
    | some fs =>
      obtain ⟨f₁, σ₁⟩ := fs
      simp only [ho] at h'
      have ih := fun (nt : Nat) => runOps_sound (nt := nt) h' hK
      unfold runOp at ho
      split at ho
      · rename_i hw
        simp only [Option.some.injEq, Prod.mk.injEq] at ho
        obtain ⟨rfl, rfl⟩ := ho
        exact WL.skip hw (ih nt)
      · rename_i hw
        split at ho
        · rename_i v hq
          simp only [Option.some.injEq, Prod.mk.injEq] at ho
          obtain ⟨rfl, rfl⟩ := ho
          exact WL.quiet hw hq (ih nt)
        · split at ho
          · rename_i res σ₂ hq
            simp only [Option.some.injEq, Prod.mk.injEq] at ho
            obtain ⟨rfl, rfl⟩ := ho
            refine WL.write hw hq ?_
            cases res <;> exact ih nt
          · split at ho
            · rename_i c hop
              split at ho
              · rename_i g args hcq
                split at ho
                · rename_i v σ₂ hcall
                  simp only [Option.some.injEq, Prod.mk.injEq] at ho
                  obtain ⟨rfl, rfl⟩ := ho
                  refine WL.call hop hw hcq ((hc _ _ _ _ _ hcall).mono fun r' σ'' _ ⟨e1, e2⟩ => ?_)
                  subst e1; subst e2
                  exact ih nt
                · cases ho
              · cases ho
            · cases ho
      · cases ho

theorem apartB_sound {ops : Array Oper} {A : List Nat} {fe : Fr} {d : Option Tmp} (h : apartB ops A fe d = true) : (∀ x t, x ∈ A → dstOf ops x = some t → d ≠ some t) ∧ ∀ t, d = some t → fe.get t = none := by
  cases d with
  | none => exact ⟨fun _ _ _ _ e => (by cases e), fun t e => (by cases e)⟩
  | some u =>
    simp only [apartB, Bool.and_eq_true, List.all_eq_true] at h
    refine ⟨fun x t hx ht e => ?_, fun t e => ?_⟩
    · simp only [Option.some.injEq] at e
      subst e
      have := h.1 x hx
      rw [ht] at this
      simp at this
    · simp only [Option.some.injEq] at e
      subst e
      simpa using h.2

theorem runPend_sound {nt : Nat} {ops : Array Oper} {K : Fr → St → Prop} {A : List Nat} {fe : Fr} {r : List Ent} (hk : Ok M ops A fe) : ∀ {l : List Ent0} {H : List HE} {f : Fr} {σ : St} {H' : List HE} {f' : Fr} {σ' : St}, runPend M call ops A fe l H f σ = some (H', f', σ') → DPP M nt ops A fe r [] H' f' σ' K → DPP M nt ops A fe r l H f σ K
  | [], H, f, σ, H', f', σ', h, hK => by
    simp only [runPend, Option.some.injEq, Prod.mk.injEq] at h
    obtain ⟨rfl, rfl, rfl⟩ := h
    exact hK
  | .q i js :: s, H, f, σ, H', f', σ', h, hK => by
    have h' : (match ops.toList[i]? with
        | none => none
        | some o =>
          bif H.all (fun x => !x.1.contains i) && apartB ops A fe o.dst then
            (match wantedA ops f o with
            | some false => runPend M call ops A fe s H (putF f o.dst undef) σ
            | some true =>
              (match opQ M.toEnv f σ o.op with
               | some v => runPend M call ops A fe s ((opHolds M.toEnv f σ o.op).map (fun x => (js, x)) ++ H) (putF f o.dst v) σ
               | none => none)
            | none => none)
          else none) = some (H', f', σ') := h
    clear h
    split at h'
    · cases h'
    · rename_i o hop
      have hop' : ops[i]? = some o := by rw [← hop]; simp
      cases hb : (H.all (fun x => !x.1.contains i) && apartB ops A fe o.dst) with
      | false => simp only [hb, cond_false] at h'; cases h'
      | true =>
        simp only [hb, cond_true] at h'
        simp only [Bool.and_eq_true] at hb
        have hi : ∀ x ∈ H, x.1.contains i = false := fun x hx => by simpa using List.all_eq_true.1 hb.1 x hx
        obtain ⟨hdA, hbi⟩ := apartB_sound hc hb.2
        split at h'
        · rename_i hw
          exact DPP.skip hop' hw hi hdA hbi (runPend_sound hk h' hK)
        · rename_i hw
          split at h'
          · rename_i v hq
            exact DPP.quiet hop' hw hq hi hdA hbi (runPend_sound hk h' hK)
          · cases h'
        · cases h'
  | .e i :: s, H, f, σ, H', f', σ', h, hK => by
    have h' : (match ops.toList[i]? with
        | none => none
        | some o =>
          bif apartB ops A fe o.dst then
          (match wantedA ops f o with
          | some true =>
               (match opW M.toEnv f σ o.op with
                | some (r', σ') => bif allB σ' (rls i H) then runPend M call ops A fe s (rls i H) (putF f o.dst (match r' with | some v => v | none => undef)) σ' else none
                | none => match o.op with
                  | .call c => (match callQ M f c with
                    | some (g, args) => (match call g args σ with
                      | some (v, σ') => bif allB σ' (rls i H) then runPend M call ops A fe s (rls i H) (putF f o.dst v) σ' else none
                      | none => none)
                    | none => none)
                  | _ => none)
          | _ => none)
          else none) = some (H', f', σ') := h
    clear h
    split at h'
    · cases h'
    · rename_i o hop
      have hop' : ops[i]? = some o := by rw [← hop]; simp
      cases hb0 : apartB ops A fe o.dst with
      | false => simp only [hb0, cond_false] at h'; cases h'
      | true =>
        simp only [hb0, cond_true] at h'
        obtain ⟨hdA, hbi⟩ := apartB_sound hc hb0
        split at h'
        · rename_i hw
          split at h'
          · rename_i res σ₂ hq
            cases hb : allB σ₂ (rls i H) with
            | false => simp [hb] at h'
            | true =>
              simp only [hb, cond_true] at h'
              refine DPP.write (res := res) hk hdA hbi hop' hw hq (fun x hx => holdB_sound (List.all_eq_true.1 hb x hx)) ?_
              cases res <;> exact runPend_sound hk h' hK
          · split at h'
            · rename_i c hopc
              split at h'
              · rename_i g args hcq
                split at h'
                · rename_i v σ₂ hcall
                  cases hb : allB σ₂ (rls i H) with
                  | false => simp [hb] at h'
                  | true =>
                    simp only [hb, cond_true] at h'
                    refine DPP.call hk hdA hbi hop' hopc hw hcq ((hc _ _ _ _ _ hcall).mono fun r' σ'' _ ⟨e1, e2⟩ => ?_)
                    subst e1; subst e2
                    exact ⟨fun x hx => holdB_sound (List.all_eq_true.1 hb x hx), runPend_sound hk h' hK⟩
                · cases h'
              · cases h'
            · cases h'
        · cases h'

theorem runDraw_sound {nt : Nat} {ops : Array Oper} {K : Fr → St → Prop} : ∀ {l : List Ent} {H : List HE} {f : Fr} {σ : St} {f' : Fr} {σ' : St}, runDraw M call ops l H f σ = some (f', σ') → K f' σ' → DP M nt ops l H f σ K
  | [], H, f, σ, f', σ', h, hK => by
    simp only [runDraw, Option.some.injEq, Prod.mk.injEq] at h
    obtain ⟨rfl, rfl⟩ := h
    exact DP.nil hK
  | .p A sub :: r, H, f, σ, f', σ', h, hK => by
    have h' : (bif grpOk ops A && nodupB A then
          (match runPend M call ops A (bare ops f (A ++ idxOf sub)) sub H (bare ops f A) σ with
          | some (H', f', σ') => (match adopt M.toEnv ops (bare ops f (A ++ idxOf sub)) A f' σ' with
            | some (f'', σ'') => bif allB σ'' H' then runDraw M call ops r H' f'' σ'' else none
            | none => none)
          | none => none)
        else none) = some (f', σ') := h
    clear h
    cases hb0 : (grpOk ops A && nodupB A) with
    | false => simp [hb0] at h'
    | true =>
      simp only [hb0, cond_true] at h'
      simp only [Bool.and_eq_true] at hb0
      split at h'
      · rename_i H₁ f₁ σ₁ hrun
        split at h'
        · rename_i f₂ σ₂ ha
          cases hb : allB σ₂ H₁ with
          | false => simp [hb] at h'
          | true =>
            simp only [hb, cond_true] at h'
            have hok : Ok M ops A (bare ops f (A ++ idxOf sub)) := ⟨hb0.1, fun x t hx ht => bare_none (List.mem_append.2 (.inl hx)) ht, adopt_all ha⟩
            exact DP.pend hok hb0.2 rfl (runPend_sound hc hok hrun (DPP.end hok ha (fun x hx => holdB_sound (List.all_eq_true.1 hb x hx)) (runDraw_sound h' hK)))
        · cases h'
      · cases h'
  | .g i A :: r, H, f, σ, f', σ', h, hK => by
    have h' : (bif grpOk ops (i :: A) && nodupB (i :: A) then
          (match ops.toList[i]? with
          | none => none
          | some o =>
            match wantedA ops (bare ops f (i :: A)) o with
            | some true =>
              (match opW M.toEnv (bare ops f (i :: A)) σ o.op with
               | some (r', σ') => (match adopt M.toEnv ops (bare ops f (i :: A)) A (putF (bare ops f (i :: A)) o.dst (match r' with | some v => v | none => undef)) σ' with
                 | some (f'', σ'') => bif allB σ' (rls i H) && allB σ'' (rls i H) then runDraw M call ops r (rls i H) f'' σ'' else none
                 | none => none)
               | none => match o.op with
                 | .call c => (match callQ M (bare ops f (i :: A)) c with
                   | some (g, args) => (match call g args σ with
                     | some (v, σ') => (match adopt M.toEnv ops (bare ops f (i :: A)) A (putF (bare ops f (i :: A)) o.dst v) σ' with
                       | some (f'', σ'') => bif allB σ' (rls i H) && allB σ'' (rls i H) then runDraw M call ops r (rls i H) f'' σ'' else none
                       | none => none)
                     | none => none)
                   | none => none)
                 | _ => none)
            | _ => none)
        else none) = some (f', σ') := h
    clear h
    cases hb0 : (grpOk ops (i :: A) && nodupB (i :: A)) with
    | false => simp [hb0] at h'
    | true =>
      simp only [hb0, cond_true] at h'
      simp only [Bool.and_eq_true] at hb0
      split at h'
      · cases h'
      · rename_i o hop
        split at h'
        · rename_i hw
          split at h'
          · rename_i res σ₂ hq
            split at h'
            · rename_i f₃ σ₃ ha
              cases hb : (allB σ₂ (rls i H) && allB σ₃ (rls i H)) with
              | false => simp [hb] at h'
              | true =>
                simp only [hb, cond_true] at h'
                simp only [Bool.and_eq_true] at hb
                refine DP.groupW (res := res) (σ' := σ₂) (f'' := f₃) (σ'' := σ₃) hb0.1 hb0.2 hop hw hq (fun x hx => holdB_sound (List.all_eq_true.1 hb.1 x hx)) ?_ (fun x hx => holdB_sound (List.all_eq_true.1 hb.2 x hx)) (runDraw_sound h' hK)
                rw [← ha]; cases res <;> rfl
            · cases h'
          · split at h'
            · rename_i c hopc
              split at h'
              · rename_i g args hcq
                split at h'
                · rename_i v σ₂ hcall
                  split at h'
                  · rename_i f₃ σ₃ ha
                    cases hb : (allB σ₂ (rls i H) && allB σ₃ (rls i H)) with
                    | false => simp [hb] at h'
                    | true =>
                      simp only [hb, cond_true] at h'
                      simp only [Bool.and_eq_true] at hb
                      refine DP.groupC hb0.1 hb0.2 hop hopc hw hcq (adopt_all ha) ((hc _ _ _ _ _ hcall).mono fun r' σ'' _ ⟨e1, e2⟩ => ?_)
                      subst e1; subst e2
                      have hdst : dstOf ops i = o.dst := by simp only [dstOf, hop]
                      exact ⟨fun x hx => holdB_sound (List.all_eq_true.1 hb.1 x hx), f₃, σ₃, by rw [hdst]; exact ha, fun x hx => holdB_sound (List.all_eq_true.1 hb.2 x hx), runDraw_sound h' hK⟩
                  · cases h'
                · cases h'
              · cases h'
            · cases h'
        · cases h'
  | .q i js :: r, H, f, σ, f', σ', h, hK => by
    have h' : (match ops.toList[i]? with
        | none => none
        | some o =>
          bif H.all (fun x => !x.1.contains i) then
            (match wantedA ops f o with
            | some false => runDraw M call ops r H (putF f o.dst undef) σ
            | some true =>
              (match opQ M.toEnv f σ o.op with
               | some v => runDraw M call ops r ((opHolds M.toEnv f σ o.op).map (fun x => (js, x)) ++ H) (putF f o.dst v) σ
               | none => none)
            | none => none)
          else none) = some (f', σ') := h
    clear h
    split at h'
    · cases h'
    · rename_i o hop
      have hop' : ops[i]? = some o := by rw [← hop]; simp
      cases hb : H.all (fun x => !x.1.contains i) with
      | false => simp only [hb, cond_false] at h'; cases h'
      | true =>
        simp only [hb, cond_true] at h'
        have hi : ∀ x ∈ H, x.1.contains i = false := fun x hx => by simpa using List.all_eq_true.1 hb x hx
        split at h'
        · rename_i hw
          exact DP.skip hop' hw hi (runDraw_sound h' hK)
        · rename_i hw
          split at h'
          · rename_i v hq
            exact DP.quiet hop' hw hq hi (runDraw_sound h' hK)
          · cases h'
        · cases h'
  | .e i :: r, H, f, σ, f', σ', h, hK => by
    have h' : (match ops.toList[i]? with
        | none => none
        | some o =>
          match wantedA ops f o with
          | some false => runDraw M call ops r H (putF f o.dst undef) σ
          | some true =>
            (match opQ M.toEnv f σ o.op with
             | some v => runDraw M call ops r H (putF f o.dst v) σ
             | none =>
               (match opW M.toEnv f σ o.op with
                | some (r', σ') => bif allB σ' (rls i H) then runDraw M call ops r (rls i H) (putF f o.dst (match r' with | some v => v | none => undef)) σ' else none
                | none => match o.op with
                  | .call c => (match callQ M f c with
                    | some (g, args) => (match call g args σ with
                      | some (v, σ') => bif allB σ' (rls i H) then runDraw M call ops r (rls i H) (putF f o.dst v) σ' else none
                      | none => none)
                    | none => none)
                  | _ => none))
          | none => none) = some (f', σ') := h
    clear h
    split at h'
    · cases h'
    · rename_i o hop
      have hop' : ops[i]? = some o := by rw [← hop]; simp
      split at h'
      · rename_i hw
        exact DP.skipE hop' hw (runDraw_sound h' hK)
      · rename_i hw
        split at h'
        · rename_i v hq
          exact DP.quietE hop' hw hq (runDraw_sound h' hK)
        · split at h'
          · rename_i res σ₂ hq
            cases hb : allB σ₂ (rls i H) with
            | false => simp [hb] at h'
            | true =>
              simp only [hb, cond_true] at h'
              refine DP.write hop' hw hq (fun x hx => holdB_sound (List.all_eq_true.1 hb x hx)) ?_
              cases res <;> exact runDraw_sound h' hK
          · split at h'
            · rename_i c hopc
              split at h'
              · rename_i g args hcq
                split at h'
                · rename_i v σ₂ hcall
                  cases hb : allB σ₂ (rls i H) with
                  | false => simp [hb] at h'
                  | true =>
                    simp only [hb, cond_true] at h'
                    refine DP.call hop' hopc hw hcq ((hc _ _ _ _ _ hcall).mono fun r' σ'' _ ⟨e1, e2⟩ => ?_)
                    subst e1; subst e2
                    exact ⟨fun x hx => holdB_sound (List.all_eq_true.1 hb x hx), runDraw_sound h' hK⟩
                · cases h'
              · cases h'
            · cases h'
      · cases h'

theorem runK_sound {K : FuncId} {fn : Func} (hf : M.P.funcs[K]? = some fn) : ∀ {n : Nat} {k : List Item} {f : Fr} {σ : St} {r : Value} {σ' : St}, runK M call fn n k f σ = some (r, σ') → VM M K fn.ntmps k f σ (fun r' σ'' => r' = r ∧ σ'' = σ')
  | 0, k, f, σ, r, σ', h => by simp [runK] at h
  | n + 1, k, f, σ, r, σ', h => by
    have h' : stepK M call fn (runK M call fn n) k f σ = some (r, σ') := h
    clear h
    unfold stepK at h'
    split at h'
    · split at h'
      · rename_i hdf
        split at h'
        · rename_i v hv
          simp only [Option.some.injEq, Prod.mk.injEq] at h'
          obtain ⟨rfl, rfl⟩ := h'
          exact VM.done hdf hf hv ⟨rfl, rfl⟩
        · cases h'
      · cases h'
    · split at h'
      · exact VM.skip (runK_sound hf h')
      · exact VM.seq (runK_sound hf h')
      · exact VM.block (runK_sound hf h')
      · exact VM.loop1 (runK_sound hf h')
      · split at h'
        · rename_i t hcond
          exact VM.cond hcond (runK_sound hf h')
        · cases h'
      · split at h'
        · rename_i k' hx
          exact VM.exit hx (runK_sound hf h')
        · cases h'
      · split at h'
        · rename_i hdf
          split at h'
          · rename_i v hv
            simp only [Option.some.injEq, Prod.mk.injEq] at h'
            obtain ⟨rfl, rfl⟩ := h'
            exact VM.ret hdf hf hv ⟨rfl, rfl⟩
          · cases h'
        · cases h'
      · rename_i id ops draw
        cases draw with
        | true =>
          simp only [cond_true] at h'
          split at h'
          · rename_i p hp
            split at h'
            · rename_i f₁ σ₁ hrun
              have hgood : planGood fn.ntmps ops p = true := by
                unfold planOf at hp
                split at hp
                · rename_i p' _
                  cases hb : planGood fn.ntmps ops p' with
                  | false => simp [hb] at hp
                  | true => simp only [hb, cond_true, Option.some.injEq] at hp; subst hp; exact hb
                · cases hp
              exact VM.draw p hgood (runDraw_sound hc hrun (runK_sound hf h'))
            · cases h'
          · cases h'
        | false =>
          simp only [cond_false] at h'
          cases hb : ops.toList.all (dstOk fn.ntmps) with
          | false => simp [hb] at h'
          | true =>
            simp only [hb, cond_true] at h'
            split at h'
            · rename_i f₁ σ₁ hrun
              exact VM.region hb (runOps_sound hc hrun (runK_sound hf h'))
            · cases h'
      · cases h'
    · exact VM.inBlock (runK_sound hf h')
    · exact VM.inLoop (runK_sound hf h')
    · cases h'

theorem bodyF_sound {steps : Nat} {g : FuncId} {args : List Value} {σ : St} {r : Value} {σ' : St} (h : bodyF M call steps g args σ = some (r, σ')) : WF M.toEnv g args σ (fun r' σ'' => r' = r ∧ σ'' = σ') := by
  unfold bodyF at h
  split at h
  · rename_i fn hf
    have hf' : M.P.funcs[g]? = some fn := by rw [← hf]; simp
    split at h
    · rename_i c hb
      cases hq : ((fn.name != "runtime.NumGoroutine") && Nat.ble args.length fn.ntmps) with
      | false => simp [hq] at h
      | true =>
        simp only [hq, cond_true] at h
        simp only [Bool.and_eq_true, bne, Bool.not_eq_true', Nat.ble_eq] at hq
        exact WF.of_VM hf' hq.1 hb hq.2 (runK_sound hc hf' h)
    · cases h
  · cases h

end

theorem evF_sound {M : EnvM} {orc : CallF} (ho : CallOk M orc) (steps : Nat) : ∀ n, CallOk M (evF M orc steps n)
  | 0 => fun g args σ r σ' h => by simp [evF] at h
  | n + 1 => fun g args σ r σ' h => by
    have h' : (match orc g args σ with | some r => some r | none => bodyF M (evF M orc steps n) steps g args σ) = some (r, σ') := h
    split at h'
    · rename_i rr hr
      simp only [Option.some.injEq] at h'
      subst h'
      exact ho g args σ r σ' hr
    · exact bodyF_sound (evF_sound ho steps n) h'

def noOrc : CallF := fun _ _ _ => none
theorem noOrc_ok (M : EnvM) : CallOk M noOrc := fun g args σ r σ' h => by simp [noOrc] at h

end
end AH
