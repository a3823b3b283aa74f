/-
  The AH texts Ah21 to Ah39, joined.
-/
import Derived.Test.YtlnlopeodpamdaaAhP
import Derived.ProofKit
import Derived.RangeFuncRecord
import Derived.MapKept
section
/-
  AH 21: what is known of a program's types, reckoned from the program.
-/
set_option linter.unusedSimpArgs false
set_option linter.unusedVariables false
set_option linter.unusedSectionVars false
namespace AH
open Go
noncomputable section

def eqokB (P : Program) (t : Nat) : Bool := !(P.stoodInHeld t) && !(P.eqGuardType P.depth t)

def tyOf (P : Program) (t : Nat) : Option TyI :=
  match P.info? t, P.underlying t with
  | some info, some d =>
    (match info.zero with
     | some z => bif closedV 4 z && Nat.beq z.cells.toList.length info.size then some ⟨d, info.size, info.bytes, z, eqokB P t⟩ else none
     | none => none)
  | _, _ => none

theorem tyOf_ok (P : Program) (t : Nat) (i : TyI) (h : tyOf P t = some i) : P.underlying t = some i.desc ∧ closedV 4 i.zero = true ∧ i.zero.cells.size = i.size ∧
    ∃ info, P.info? t = some info ∧ info.size = i.size ∧ info.bytes = i.bytes ∧ info.zero = some i.zero := by
  unfold tyOf at h
  split at h
  · rename_i info d hi hd
    split at h
    · rename_i z hz
      cases hb : (closedV 4 z && Nat.beq z.cells.toList.length info.size) with
      | false => simp only [hb, cond_false, reduceCtorEq] at h
      | true =>
        simp only [hb, cond_true, Option.some.injEq] at h
        subst h
        simp only [Bool.and_eq_true, Nat.beq_eq, Array.length_toList] at hb
        exact ⟨hd, hb.1, hb.2, info, hi, rfl, rfl, hz⟩
    · cases h
  · cases h

theorem tyOf_eqOk (P : Program) (t : Nat) (i : TyI) (h : tyOf P t = some i) (he : i.eqok = true) : P.stoodInHeld t = false ∧ P.eqGuardType P.depth t = false := by
  unfold tyOf at h
  split at h
  · rename_i info d hi hd
    split at h
    · rename_i z hz
      cases hb : (closedV 4 z && Nat.beq z.cells.toList.length info.size) with
      | false => simp only [hb, cond_false, reduceCtorEq] at h
      | true =>
        simp only [hb, cond_true, Option.some.injEq] at h
        subst h
        simp only [eqokB, Bool.and_eq_true, Bool.not_eq_true'] at he
        exact he
    · cases h
  · cases h

def mthOf (P : Program) (t : Nat) (name : String) : Option Nat :=
  match P.info? t, P.underlying t with
  | some info, some (.pointer _) =>
    (match info.methods.find? (fun m => m.name == name) with
     | some m => (match m.path.toList, m.func with
       | [], some (f, true) => some f
       | _, _ => none)
     | none => none)
  | _, _ => none

theorem mthOf_ok (P : Program) (t : Nat) (name : String) (g : Nat) (h : mthOf P t name = some g) (v : Value) (w : World) : (Go.method (P.types.size + Made.depth) t v name).run P w = .ok (g, v) w := by
  unfold mthOf at h
  split at h
  · rename_i info e hi hd
    split at h
    · rename_i m hm
      split at h
      · rename_i f hp hf
        simp only [Option.some.injEq] at h
        subst h
        have hti : (typeInfo t).run P w = .ok info w := by simp [typeInfo, hi]
        show (Go.method (P.types.size + 99 + 1) t v name).run P w = _
        generalize P.types.size + 99 = N
        simp only [Go.method, Sem.run_bind, hti, Result.andThen_ok, hm, hp, follow, Sem.run_pure, hf, receiverAt, run_underlying hd, Place.get]
      · cases h
    · cases h
  · cases h

def envOf (P : Program) (hm : P.follows .mixedOrders = true) : EnvM where
  P := P
  ty := tyOf P
  tyOk := tyOf_ok P
  eqOk := tyOf_eqOk P
  mixed := hm
  mth := mthOf P
  mthOk := mthOf_ok P

end
end AH
end

section
/-
  AH 22: an evaluator: what a call comes to, reckoned; and that the call comes to it.
-/
set_option linter.unusedSimpArgs false
set_option linter.unusedVariables false
set_option linter.unusedSectionVars false
namespace AH
open Go
noncomputable section

/-- Are two values the same? (as far as a small depth goes) -/
def eqV : Nat → Value → Value → Bool
  | 0, _, _ => false
  | n + 1, x, y => match x, y with
    | .bool a, .bool b => a == b
    | .int k a, .int j b => k == j && a == b
    | .string a, .string b => a.data.toList == b.data.toList
    | .pointer a, .pointer b => a == b
    | .slice a l c, .slice b m d => a == b && Nat.beq l m && Nat.beq c d
    | .map a, .map b => a == b
    | .nilFunc, .nilFunc => true
    | .nilIface, .nilIface => true
    | .iface t v, .iface u w => Nat.beq t u && eqV n v w
    | .func f a b, .func g c d => f == g && eqL n a.toList c.toList && eqL n b.toList d.toList
    | _, _ => false
where
  eqL (n : Nat) : List Value → List Value → Bool
    | [], [] => true
    | x :: r, y :: s => eqV n x y && eqL n r s
    | _, _ => false

theorem eqL_sound {n : Nat} (ih : ∀ x y, eqV n x y = true → x = y) : ∀ (l m : List Value), eqV.eqL n l m = true → l = m
  | [], [], _ => rfl
  | [], _ :: _, h => by simp [eqV.eqL] at h
  | _ :: _, [], h => by simp [eqV.eqL] at h
  | x :: r, y :: s, h => by
    simp only [eqV.eqL, Bool.and_eq_true] at h
    rw [ih x y h.1, eqL_sound ih r s h.2]

theorem eqV_sound : ∀ (n : Nat) (x y : Value), eqV n x y = true → x = y := by
  intro n
  induction n with
  | zero => intro x y h; simp [eqV] at h
  | succ n ih =>
    intro x y h
    unfold eqV at h
    split at h
    · simp only [beq_iff_eq] at h; rw [h]
    · simp only [Bool.and_eq_true, beq_iff_eq] at h; rw [h.1, h.2]
    · rename_i a b
      have := eq_of_beq h
      congr 1
      exact ByteArray.ext (Array.ext' this)
    · simp only [beq_iff_eq] at h; rw [h]
    · simp only [Bool.and_eq_true, beq_iff_eq, Nat.beq_eq] at h; rw [h.1.1, h.1.2, h.2]
    · simp only [beq_iff_eq] at h; rw [h]
    · rfl
    · rfl
    · simp only [Bool.and_eq_true, Nat.beq_eq] at h; rw [h.1, ih _ _ h.2]
    · simp only [Bool.and_eq_true, beq_iff_eq] at h
      rw [h.1.1, Array.ext' (eqL_sound ih _ _ h.1.2), Array.ext' (eqL_sound ih _ _ h.2)]
    · cases h

def entB (a b : MapEntry) : Bool := eqV 3 a.key b.key && eqV 3 a.val b.val && Nat.beq a.born b.born
def entsB : List MapEntry → List MapEntry → Bool
  | [], [] => true
  | x :: r, y :: s => entB x y && entsB r s
  | _, _ => false

theorem entsB_sound : ∀ {a b : List MapEntry}, entsB a b = true → a = b
  | [], [], _ => rfl
  | [], _ :: _, h => by simp [entsB] at h
  | _ :: _, [], h => by simp [entsB] at h
  | x :: r, y :: s, h => by
    simp only [entsB, entB, Bool.and_eq_true, Nat.beq_eq] at h
    obtain ⟨⟨⟨h1, h2⟩, h3⟩, h4⟩ := h
    rw [entsB_sound h4]
    congr 1
    cases x; cases y
    simp only at h1 h2 h3
    rw [eqV_sound _ _ _ h1, eqV_sound _ _ _ h2, h3]

/-- Does it still hold? -/
def holdB (σ : St) : Hold → Bool
  | .cell b off v => match (σ.get b).known with
    | some cs => (match cs[off]? with | some u => eqV 4 u v | none => false)
    | none => false
  | .map b es c => match σ.get b with
    | .map es' c' => entsB es' es && Nat.beq c' c
    | _ => false

theorem holdB_sound {σ : St} {h : Hold} (hb : holdB σ h = true) : h.in σ := by
  cases h with
  | cell b off v =>
    simp only [holdB] at hb
    split at hb
    · rename_i cs hk
      split at hb
      · rename_i u hu
        have := eqV_sound _ _ _ hb
        subst this
        exact ⟨cs, hk, hu⟩
      · cases hb
    · cases hb
  | map b es c =>
    simp only [holdB] at hb
    split at hb
    · rename_i es' c' hg
      simp only [Bool.and_eq_true, Nat.beq_eq] at hb
      rw [entsB_sound hb.1, hb.2] at hg
      exact hg
    · cases hb

abbrev CallF := FuncId → List Value → St → Option (Value × St)

section
variable (M : EnvM) (call : CallF)

/-- One operation. -/
def runOp (all : Array Oper) (o : Oper) (f : Fr) (σ : St) : Option (Fr × St) :=
  match wantedA all f o with
  | some false => some (putF f o.dst undef, σ)
  | some true =>
    (match opQ M.toEnv f σ o.op with
     | some v => some (putF f o.dst v, σ)
     | none => match opW M.toEnv f σ o.op with
       | some (r, σ') => some (putF f o.dst (match r with | some v => v | none => undef), σ')
       | none => match o.op with
         | .call c => (match callQ M f c with
           | some (g, args) => (match call g args σ with
             | some (v, σ') => some (putF f o.dst v, σ')
             | none => none)
           | none => none)
         | _ => none)
  | none => none

noncomputable def runOps (all : Array Oper) (l : List Oper) : Fr → St → Option (Fr × St) :=
  List.rec (motive := fun _ => Fr → St → Option (Fr × St)) (fun f σ => some (f, σ)) (fun o _ ih f σ => match runOp M call all o f σ with | some (f', σ') => ih f' σ' | none => none) l

def allB (σ : St) (H : List HE) : Bool := H.all fun x => holdB σ x.2

def idxOf : List Ent0 → List Nat
  | [] => []
  | .q i _ :: r => i :: idxOf r
  | .e i :: r => i :: idxOf r

/-- No slot in common. -/
def apartB (ops : Array Oper) (A : List Nat) (fe : Fr) (d : Option Tmp) : Bool := match d with
  | some t => A.all (fun x => match dstOf ops x with | some u => !Nat.beq u t | none => true) && (fe.get t).isNone
  | none => true

/-- Others come up one behind the other, while those of A may. -/
noncomputable def runPend (ops : Array Oper) (A : List Nat) (fe : Fr) (l : List Ent0) : List HE → Fr → St → Option (List HE × Fr × St) :=
  List.rec (motive := fun _ => List HE → Fr → St → Option (List HE × Fr × St)) (fun H f σ => some (H, f, σ))
    (fun p _ ih H f σ =>
      match p with
      | .q i js =>
        (match ops.toList[i]? with
        | none => none
        | some o =>
          bif H.all (fun x => !x.1.contains i) && apartB ops A fe o.dst then
            (match wantedA ops f o with
            | some false => ih H (putF f o.dst undef) σ
            | some true =>
              (match opQ M.toEnv f σ o.op with
               | some v => ih ((opHolds M.toEnv f σ o.op).map (fun x => (js, x)) ++ H) (putF f o.dst v) σ
               | none => none)
            | none => none)
          else none)
      | .e i =>
        (match ops.toList[i]? with
        | none => none
        | some o =>
          bif apartB ops A fe o.dst then
          (match wantedA ops f o with
          | some true =>
               (match opW M.toEnv f σ o.op with
                | some (r, σ') => bif allB σ' (rls i H) then ih (rls i H) (putF f o.dst (match r with | some v => v | none => undef)) σ' else none
                | none => match o.op with
                  | .call c => (match callQ M f c with
                    | some (g, args) => (match call g args σ with
                      | some (v, σ') => bif allB σ' (rls i H) then ih (rls i H) (putF f o.dst v) σ' else none
                      | none => none)
                    | none => none)
                  | _ => none)
          | _ => none)
          else none)) l

noncomputable def runDraw (ops : Array Oper) (l : List Ent) : List HE → Fr → St → Option (Fr × St) :=
  List.rec (motive := fun _ => List HE → Fr → St → Option (Fr × St)) (fun _ f σ => some (f, σ))
    (fun p _ ih H f σ =>
      match p with
      | .p A sub =>
        bif grpOk ops A && nodupB A then
          (match runPend M call ops A (bare ops f (A ++ idxOf sub)) sub H (bare ops f A) σ with
          | some (H', f', σ') => (match adopt M.toEnv ops (bare ops f (A ++ idxOf sub)) A f' σ' with
            | some (f'', σ'') => bif allB σ'' H' then ih H' f'' σ'' else none
            | none => none)
          | none => none)
        else none
      | .g i A =>
        bif grpOk ops (i :: A) && nodupB (i :: A) then
          (match ops.toList[i]? with
          | none => none
          | some o =>
            match wantedA ops (bare ops f (i :: A)) o with
            | some true =>
              (match opW M.toEnv (bare ops f (i :: A)) σ o.op with
               | some (r, σ') => (match adopt M.toEnv ops (bare ops f (i :: A)) A (putF (bare ops f (i :: A)) o.dst (match r with | some v => v | none => undef)) σ' with
                 | some (f'', σ'') => bif allB σ' (rls i H) && allB σ'' (rls i H) then ih (rls i H) f'' σ'' else none
                 | none => none)
               | none => match o.op with
                 | .call c => (match callQ M (bare ops f (i :: A)) c with
                   | some (g, args) => (match call g args σ with
                     | some (v, σ') => (match adopt M.toEnv ops (bare ops f (i :: A)) A (putF (bare ops f (i :: A)) o.dst v) σ' with
                       | some (f'', σ'') => bif allB σ' (rls i H) && allB σ'' (rls i H) then ih (rls i H) f'' σ'' else none
                       | none => none)
                     | none => none)
                   | none => none)
                 | _ => none)
            | _ => none)
        else none
      | .q i js =>
        (match ops.toList[i]? with
        | none => none
        | some o =>
          bif H.all (fun x => !x.1.contains i) then
            (match wantedA ops f o with
            | some false => ih H (putF f o.dst undef) σ
            | some true =>
              (match opQ M.toEnv f σ o.op with
               | some v => ih ((opHolds M.toEnv f σ o.op).map (fun x => (js, x)) ++ H) (putF f o.dst v) σ
               | none => none)
            | none => none)
          else none)
      | .e i =>
        (match ops.toList[i]? with
        | none => none
        | some o =>
          match wantedA ops f o with
          | some false => ih H (putF f o.dst undef) σ
          | some true =>
            (match opQ M.toEnv f σ o.op with
             | some v => ih H (putF f o.dst v) σ
             | none =>
               (match opW M.toEnv f σ o.op with
                | some (r, σ') => bif allB σ' (rls i H) then ih (rls i H) (putF f o.dst (match r with | some v => v | none => undef)) σ' else none
                | none => match o.op with
                  | .call c => (match callQ M f c with
                    | some (g, args) => (match call g args σ with
                      | some (v, σ') => bif allB σ' (rls i H) then ih (rls i H) (putF f o.dst v) σ' else none
                      | none => none)
                    | none => none)
                  | _ => none))
          | none => none)) l

/-- A plan for a region: what is quiet is taken first. -/
def quietOp : Op → Bool
  | .move _ | .assign _ | .pick .. | .load .. | .sliceToArrayPointer .. | .nilCheck _ | .binOp .. | .unOp .. | .makeInterface .. | .makeFunc .. | .slice .. | .fieldAddr .. | .field .. | .indexAddr .. | .index .. | .lookup .. | .typeAssert .. | .extract .. | .build .. | .convert .. => true
  | .call { callee := .builtin .len, .. } | .call { callee := .builtin .min, .. } | .call { callee := .builtin .max, .. } => true
  | _ => false

/-- What reads no memory. -/
def pureOp : Op → Bool
  | .move _ | .assign _ | .pick .. | .sliceToArrayPointer .. | .nilCheck _ | .binOp .. | .unOp .. | .makeInterface .. | .makeFunc .. | .slice .. | .fieldAddr .. | .field .. | .indexAddr .. | .typeAssert .. | .extract .. | .build .. => true
  | _ => false

def makes : Op → Bool
  | .alloc _ | .box .. | .buildSlice .. | .makeMap .. | .makeSlice .. => true
  | _ => false

def opAt (ops : Array Oper) (p : Op → Bool) (i : Nat) : Bool := match ops.toList[i]? with | some o => p o.op | none => false

/-- Those that wait for i, and may turn memory. -/
def relOf (ops : Array Oper) (i : Nat) : List Nat := (List.range ops.size).filter fun j => waitsB ops j i && !opAt ops quietOp j && j != i

/-- What may come up one behind the other while those of A may come up. -/
def subFrom (ops : Array Oper) (A : List Nat) : Nat → Array Bool → List Ent0 × Array Bool
  | 0, l0 => ([], l0)
  | n + 1, l0 =>
    match (Region.ready .any ops l0).filter (fun x => !A.contains x) with
    | [] => ([], l0)
    | j :: js =>
      match (j :: js).find? (fun i => opAt ops quietOp i && Region.free .any ops l0 i) with
      | some i => (match subFrom ops A n (l0.setIfInBounds i true) with | (r, l) => (.q i (bif opAt ops pureOp i then [] else relOf ops i) :: r, l))
      | none => match js with
        | [] => (match subFrom ops A n (l0.setIfInBounds j true) with | (r, l) => (.e j :: r, l))
        | _ => ([], l0)

def planFrom (ops : Array Oper) : Nat → Array Bool → Option (List Ent)
  | 0, listed => bif (Region.ready .any ops listed).isEmpty then some [] else none
  | n + 1, listed =>
    let rs := Region.ready .any ops listed
    match rs.find? (fun i => opAt ops pureOp i && Region.free .any ops listed i) with
    | some i => (match planFrom ops n (listed.setIfInBounds i true) with | some r => some (.q i [] :: r) | none => none)
    | none => match rs with
      | [] => some []
      | [i] => (match planFrom ops n (listed.setIfInBounds i true) with | some r => some (.e i :: r) | none => none)
      | j :: js =>
        match rs.find? (fun i => opAt ops quietOp i && Region.free .any ops listed i) with
        | some i => (match planFrom ops n (listed.setIfInBounds i true) with | some r => some (.q i (relOf ops i) :: r) | none => none)
        | none => match (match rs.find? (fun i => !opAt ops makes i) with | some i => (i, rs.erase i) | none => (j, js)) with
          | (i, A) =>
            bif chk ops (finOf listed (i :: A)) (A.length + 1) listed (i :: A) then (match planFrom ops n (finOf listed (i :: A)) with | some r => some (.g i A :: r) | none => none)
            else (match rs.filter (fun x => opAt ops makes x) with
              | A => (match subFrom ops A ops.size listed with
                | (sub, l0) => (match planFrom ops n (finOf l0 A) with | some r => some (.p A sub :: r) | none => none)))

def planOf (nt : Nat) (ops : Array Oper) : Option (List Ent) :=
  match planFrom ops ops.size (Array.replicate ops.size false) with
  | some p => bif planGood nt ops p then some p else none
  | none => none

/-- One thing to do. -/
noncomputable def stepK (fn : Func) (rec : List Item → Fr → St → Option (Value × St)) (k : List Item) (f : Fr) (σ : St) : Option (Value × St) :=
  match k with
  | [] => (match f.df with | [] => (match resQ M.toEnv f σ fn.results.toList with | some v => some (v, σ) | none => none) | _ => none)
  | .code c :: k =>
    (match c with
     | .skip => rec k f σ
     | .seq x y => rec (.code x :: .code y :: k) f σ
     | .block id c => rec (.code c :: .inBlock id :: k) f σ
     | .loop c => rec (.code c :: .inLoop c :: k) f σ
     | .cond c x y => (match opd f c with
       | some (.bool t) => rec (.code (bif t then x else y) :: k) f σ
       | _ => none)
     | .exit id => (match exitTo id k with | some k' => rec k' f σ | none => none)
     | .ret => (match f.df with | [] => (match resQ M.toEnv f σ fn.results.toList with | some v => some (v, σ) | none => none) | _ => none)
     | .region _ ops draw =>
       (bif draw then
         (match planOf fn.ntmps ops with
          | some p => (match runDraw M call ops p [] f σ with | some (f', σ') => rec k f' σ' | none => none)
          | none => none)
        else bif ops.toList.all (dstOk fn.ntmps) then
         (match runOps M call ops ops.toList f σ with | some (f', σ') => rec k f' σ' | none => none)
        else none)
     | _ => none)
  | .inBlock _ :: k => rec k f σ
  | .inLoop c :: k => rec (.code c :: .inLoop c :: k) f σ
  | _ => none

noncomputable def runK (fn : Func) (n : Nat) : List Item → Fr → St → Option (Value × St) :=
  Nat.rec (motive := fun _ => List Item → Fr → St → Option (Value × St)) (fun _ _ _ => none) (fun _ ih => stepK M call fn ih) n

/-- The body of a call. -/
noncomputable def bodyF (steps : Nat) (g : FuncId) (args : List Value) (σ : St) : Option (Value × St) :=
  match M.P.funcs.toList[g]? with
  | some fn => (match fn.body with
    | some c => bif (fn.name != "runtime.NumGoroutine") && Nat.ble args.length fn.ntmps then runK M call fn steps [.code c] (initF 0 args .nil) σ else none
    | none => none)
  | none => none
end

/-- A call: by what is known of some functions, else by its body. -/
noncomputable def evF (M : EnvM) (orc : CallF) (steps : Nat) (n : Nat) : CallF :=
  Nat.rec (motive := fun _ => CallF) (fun _ _ _ => none) (fun _ ih g args σ => match orc g args σ with | some r => some r | none => bodyF M ih steps g args σ) n

/-! ### Soundness -/

def CallOk (M : EnvM) (call : CallF) : Prop := ∀ g args σ r σ', call g args σ = some (r, σ') → WF M.toEnv g args σ (fun r' σ'' => r' = r ∧ σ'' = σ')

section
variable {M : EnvM} {call : CallF} (hc : CallOk M call)
include hc

theorem runOps_sound {nt : Nat} {all : Array Oper} {K : Fr → St → Prop} : ∀ {l : List Oper} {f : Fr} {σ : St} {f' : Fr} {σ' : St}, runOps M call all l f σ = some (f', σ') → K f' σ' → WL M nt all l f σ K
  | [], f, σ, f', σ', h, hK => by
    simp only [runOps, Option.some.injEq, Prod.mk.injEq] at h
    obtain ⟨rfl, rfl⟩ := h
    exact WL.nil hK
  | o :: r, f, σ, f', σ', h, hK => by
    have h' : (match runOp M call all o f σ with | some (f₁, σ₁) => runOps M call all r f₁ σ₁ | none => none) = some (f', σ') := h
    cases ho : runOp M call all o f σ with
    | none => simp [ho] at h'
    | some fs =>
      obtain ⟨f₁, σ₁⟩ := fs
      simp only [ho] at h'
      have ih := fun (nt : Nat) => runOps_sound (nt := nt) h' hK
      unfold runOp at ho
      split at ho
      · rename_i hw
        simp only [Option.some.injEq, Prod.mk.injEq] at ho
        obtain ⟨rfl, rfl⟩ := ho
        exact WL.skip hw (ih nt)
      · rename_i hw
        split at ho
        · rename_i v hq
          simp only [Option.some.injEq, Prod.mk.injEq] at ho
          obtain ⟨rfl, rfl⟩ := ho
          exact WL.quiet hw hq (ih nt)
        · split at ho
          · rename_i res σ₂ hq
            simp only [Option.some.injEq, Prod.mk.injEq] at ho
            obtain ⟨rfl, rfl⟩ := ho
            refine WL.write hw hq ?_
            cases res <;> exact ih nt
          · split at ho
            · rename_i c hop
              split at ho
              · rename_i g args hcq
                split at ho
                · rename_i v σ₂ hcall
                  simp only [Option.some.injEq, Prod.mk.injEq] at ho
                  obtain ⟨rfl, rfl⟩ := ho
                  refine WL.call hop hw hcq ((hc _ _ _ _ _ hcall).mono fun r' σ'' _ ⟨e1, e2⟩ => ?_)
                  subst e1; subst e2
                  exact ih nt
                · cases ho
              · cases ho
            · cases ho
      · cases ho

theorem apartB_sound {ops : Array Oper} {A : List Nat} {fe : Fr} {d : Option Tmp} (h : apartB ops A fe d = true) : (∀ x t, x ∈ A → dstOf ops x = some t → d ≠ some t) ∧ ∀ t, d = some t → fe.get t = none := by
  cases d with
  | none => exact ⟨fun _ _ _ _ e => (by cases e), fun t e => (by cases e)⟩
  | some u =>
    simp only [apartB, Bool.and_eq_true, List.all_eq_true] at h
    refine ⟨fun x t hx ht e => ?_, fun t e => ?_⟩
    · simp only [Option.some.injEq] at e
      subst e
      have := h.1 x hx
      rw [ht] at this
      simp at this
    · simp only [Option.some.injEq] at e
      subst e
      simpa using h.2

theorem runPend_sound {nt : Nat} {ops : Array Oper} {K : Fr → St → Prop} {A : List Nat} {fe : Fr} {r : List Ent} (hk : Ok M ops A fe) : ∀ {l : List Ent0} {H : List HE} {f : Fr} {σ : St} {H' : List HE} {f' : Fr} {σ' : St}, runPend M call ops A fe l H f σ = some (H', f', σ') → DPP M nt ops A fe r [] H' f' σ' K → DPP M nt ops A fe r l H f σ K
  | [], H, f, σ, H', f', σ', h, hK => by
    simp only [runPend, Option.some.injEq, Prod.mk.injEq] at h
    obtain ⟨rfl, rfl, rfl⟩ := h
    exact hK
  | .q i js :: s, H, f, σ, H', f', σ', h, hK => by
    have h' : (match ops.toList[i]? with
        | none => none
        | some o =>
          bif H.all (fun x => !x.1.contains i) && apartB ops A fe o.dst then
            (match wantedA ops f o with
            | some false => runPend M call ops A fe s H (putF f o.dst undef) σ
            | some true =>
              (match opQ M.toEnv f σ o.op with
               | some v => runPend M call ops A fe s ((opHolds M.toEnv f σ o.op).map (fun x => (js, x)) ++ H) (putF f o.dst v) σ
               | none => none)
            | none => none)
          else none) = some (H', f', σ') := h
    clear h
    split at h'
    · cases h'
    · rename_i o hop
      have hop' : ops[i]? = some o := by rw [← hop]; simp
      cases hb : (H.all (fun x => !x.1.contains i) && apartB ops A fe o.dst) with
      | false => simp only [hb, cond_false] at h'; cases h'
      | true =>
        simp only [hb, cond_true] at h'
        simp only [Bool.and_eq_true] at hb
        have hi : ∀ x ∈ H, x.1.contains i = false := fun x hx => by simpa using List.all_eq_true.1 hb.1 x hx
        obtain ⟨hdA, hbi⟩ := apartB_sound hc hb.2
        split at h'
        · rename_i hw
          exact DPP.skip hop' hw hi hdA hbi (runPend_sound hk h' hK)
        · rename_i hw
          split at h'
          · rename_i v hq
            exact DPP.quiet hop' hw hq hi hdA hbi (runPend_sound hk h' hK)
          · cases h'
        · cases h'
  | .e i :: s, H, f, σ, H', f', σ', h, hK => by
    have h' : (match ops.toList[i]? with
        | none => none
        | some o =>
          bif apartB ops A fe o.dst then
          (match wantedA ops f o with
          | some true =>
               (match opW M.toEnv f σ o.op with
                | some (r', σ') => bif allB σ' (rls i H) then runPend M call ops A fe s (rls i H) (putF f o.dst (match r' with | some v => v | none => undef)) σ' else none
                | none => match o.op with
                  | .call c => (match callQ M f c with
                    | some (g, args) => (match call g args σ with
                      | some (v, σ') => bif allB σ' (rls i H) then runPend M call ops A fe s (rls i H) (putF f o.dst v) σ' else none
                      | none => none)
                    | none => none)
                  | _ => none)
          | _ => none)
          else none) = some (H', f', σ') := h
    clear h
    split at h'
    · cases h'
    · rename_i o hop
      have hop' : ops[i]? = some o := by rw [← hop]; simp
      cases hb0 : apartB ops A fe o.dst with
      | false => simp only [hb0, cond_false] at h'; cases h'
      | true =>
        simp only [hb0, cond_true] at h'
        obtain ⟨hdA, hbi⟩ := apartB_sound hc hb0
        split at h'
        · rename_i hw
          split at h'
          · rename_i res σ₂ hq
            cases hb : allB σ₂ (rls i H) with
            | false => simp [hb] at h'
            | true =>
              simp only [hb, cond_true] at h'
              refine DPP.write (res := res) hk hdA hbi hop' hw hq (fun x hx => holdB_sound (List.all_eq_true.1 hb x hx)) ?_
              cases res <;> exact runPend_sound hk h' hK
          · split at h'
            · rename_i c hopc
              split at h'
              · rename_i g args hcq
                split at h'
                · rename_i v σ₂ hcall
                  cases hb : allB σ₂ (rls i H) with
                  | false => simp [hb] at h'
                  | true =>
                    simp only [hb, cond_true] at h'
                    refine DPP.call hk hdA hbi hop' hopc hw hcq ((hc _ _ _ _ _ hcall).mono fun r' σ'' _ ⟨e1, e2⟩ => ?_)
                    subst e1; subst e2
                    exact ⟨fun x hx => holdB_sound (List.all_eq_true.1 hb x hx), runPend_sound hk h' hK⟩
                · cases h'
              · cases h'
            · cases h'
        · cases h'

theorem runDraw_sound {nt : Nat} {ops : Array Oper} {K : Fr → St → Prop} : ∀ {l : List Ent} {H : List HE} {f : Fr} {σ : St} {f' : Fr} {σ' : St}, runDraw M call ops l H f σ = some (f', σ') → K f' σ' → DP M nt ops l H f σ K
  | [], H, f, σ, f', σ', h, hK => by
    simp only [runDraw, Option.some.injEq, Prod.mk.injEq] at h
    obtain ⟨rfl, rfl⟩ := h
    exact DP.nil hK
  | .p A sub :: r, H, f, σ, f', σ', h, hK => by
    have h' : (bif grpOk ops A && nodupB A then
          (match runPend M call ops A (bare ops f (A ++ idxOf sub)) sub H (bare ops f A) σ with
          | some (H', f', σ') => (match adopt M.toEnv ops (bare ops f (A ++ idxOf sub)) A f' σ' with
            | some (f'', σ'') => bif allB σ'' H' then runDraw M call ops r H' f'' σ'' else none
            | none => none)
          | none => none)
        else none) = some (f', σ') := h
    clear h
    cases hb0 : (grpOk ops A && nodupB A) with
    | false => simp [hb0] at h'
    | true =>
      simp only [hb0, cond_true] at h'
      simp only [Bool.and_eq_true] at hb0
      split at h'
      · rename_i H₁ f₁ σ₁ hrun
        split at h'
        · rename_i f₂ σ₂ ha
          cases hb : allB σ₂ H₁ with
          | false => simp [hb] at h'
          | true =>
            simp only [hb, cond_true] at h'
            have hok : Ok M ops A (bare ops f (A ++ idxOf sub)) := ⟨hb0.1, fun x t hx ht => bare_none (List.mem_append.2 (.inl hx)) ht, adopt_all ha⟩
            exact DP.pend hok hb0.2 rfl (runPend_sound hc hok hrun (DPP.end hok ha (fun x hx => holdB_sound (List.all_eq_true.1 hb x hx)) (runDraw_sound h' hK)))
        · cases h'
      · cases h'
  | .g i A :: r, H, f, σ, f', σ', h, hK => by
    have h' : (bif grpOk ops (i :: A) && nodupB (i :: A) then
          (match ops.toList[i]? with
          | none => none
          | some o =>
            match wantedA ops (bare ops f (i :: A)) o with
            | some true =>
              (match opW M.toEnv (bare ops f (i :: A)) σ o.op with
               | some (r', σ') => (match adopt M.toEnv ops (bare ops f (i :: A)) A (putF (bare ops f (i :: A)) o.dst (match r' with | some v => v | none => undef)) σ' with
                 | some (f'', σ'') => bif allB σ' (rls i H) && allB σ'' (rls i H) then runDraw M call ops r (rls i H) f'' σ'' else none
                 | none => none)
               | none => match o.op with
                 | .call c => (match callQ M (bare ops f (i :: A)) c with
                   | some (g, args) => (match call g args σ with
                     | some (v, σ') => (match adopt M.toEnv ops (bare ops f (i :: A)) A (putF (bare ops f (i :: A)) o.dst v) σ' with
                       | some (f'', σ'') => bif allB σ' (rls i H) && allB σ'' (rls i H) then runDraw M call ops r (rls i H) f'' σ'' else none
                       | none => none)
                     | none => none)
                   | none => none)
                 | _ => none)
            | _ => none)
        else none) = some (f', σ') := h
    clear h
    cases hb0 : (grpOk ops (i :: A) && nodupB (i :: A)) with
    | false => simp [hb0] at h'
    | true =>
      simp only [hb0, cond_true] at h'
      simp only [Bool.and_eq_true] at hb0
      split at h'
      · cases h'
      · rename_i o hop
        split at h'
        · rename_i hw
          split at h'
          · rename_i res σ₂ hq
            split at h'
            · rename_i f₃ σ₃ ha
              cases hb : (allB σ₂ (rls i H) && allB σ₃ (rls i H)) with
              | false => simp [hb] at h'
              | true =>
                simp only [hb, cond_true] at h'
                simp only [Bool.and_eq_true] at hb
                refine DP.groupW (res := res) (σ' := σ₂) (f'' := f₃) (σ'' := σ₃) hb0.1 hb0.2 hop hw hq (fun x hx => holdB_sound (List.all_eq_true.1 hb.1 x hx)) ?_ (fun x hx => holdB_sound (List.all_eq_true.1 hb.2 x hx)) (runDraw_sound h' hK)
                rw [← ha]; cases res <;> rfl
            · cases h'
          · split at h'
            · rename_i c hopc
              split at h'
              · rename_i g args hcq
                split at h'
                · rename_i v σ₂ hcall
                  split at h'
                  · rename_i f₃ σ₃ ha
                    cases hb : (allB σ₂ (rls i H) && allB σ₃ (rls i H)) with
                    | false => simp [hb] at h'
                    | true =>
                      simp only [hb, cond_true] at h'
                      simp only [Bool.and_eq_true] at hb
                      refine DP.groupC hb0.1 hb0.2 hop hopc hw hcq (adopt_all ha) ((hc _ _ _ _ _ hcall).mono fun r' σ'' _ ⟨e1, e2⟩ => ?_)
                      subst e1; subst e2
                      have hdst : dstOf ops i = o.dst := by simp only [dstOf, hop]
                      exact ⟨fun x hx => holdB_sound (List.all_eq_true.1 hb.1 x hx), f₃, σ₃, by rw [hdst]; exact ha, fun x hx => holdB_sound (List.all_eq_true.1 hb.2 x hx), runDraw_sound h' hK⟩
                  · cases h'
                · cases h'
              · cases h'
            · cases h'
        · cases h'
  | .q i js :: r, H, f, σ, f', σ', h, hK => by
    have h' : (match ops.toList[i]? with
        | none => none
        | some o =>
          bif H.all (fun x => !x.1.contains i) then
            (match wantedA ops f o with
            | some false => runDraw M call ops r H (putF f o.dst undef) σ
            | some true =>
              (match opQ M.toEnv f σ o.op with
               | some v => runDraw M call ops r ((opHolds M.toEnv f σ o.op).map (fun x => (js, x)) ++ H) (putF f o.dst v) σ
               | none => none)
            | none => none)
          else none) = some (f', σ') := h
    clear h
    split at h'
    · cases h'
    · rename_i o hop
      have hop' : ops[i]? = some o := by rw [← hop]; simp
      cases hb : H.all (fun x => !x.1.contains i) with
      | false => simp only [hb, cond_false] at h'; cases h'
      | true =>
        simp only [hb, cond_true] at h'
        have hi : ∀ x ∈ H, x.1.contains i = false := fun x hx => by simpa using List.all_eq_true.1 hb x hx
        split at h'
        · rename_i hw
          exact DP.skip hop' hw hi (runDraw_sound h' hK)
        · rename_i hw
          split at h'
          · rename_i v hq
            exact DP.quiet hop' hw hq hi (runDraw_sound h' hK)
          · cases h'
        · cases h'
  | .e i :: r, H, f, σ, f', σ', h, hK => by
    have h' : (match ops.toList[i]? with
        | none => none
        | some o =>
          match wantedA ops f o with
          | some false => runDraw M call ops r H (putF f o.dst undef) σ
          | some true =>
            (match opQ M.toEnv f σ o.op with
             | some v => runDraw M call ops r H (putF f o.dst v) σ
             | none =>
               (match opW M.toEnv f σ o.op with
                | some (r', σ') => bif allB σ' (rls i H) then runDraw M call ops r (rls i H) (putF f o.dst (match r' with | some v => v | none => undef)) σ' else none
                | none => match o.op with
                  | .call c => (match callQ M f c with
                    | some (g, args) => (match call g args σ with
                      | some (v, σ') => bif allB σ' (rls i H) then runDraw M call ops r (rls i H) (putF f o.dst v) σ' else none
                      | none => none)
                    | none => none)
                  | _ => none))
          | none => none) = some (f', σ') := h
    clear h
    split at h'
    · cases h'
    · rename_i o hop
      have hop' : ops[i]? = some o := by rw [← hop]; simp
      split at h'
      · rename_i hw
        exact DP.skipE hop' hw (runDraw_sound h' hK)
      · rename_i hw
        split at h'
        · rename_i v hq
          exact DP.quietE hop' hw hq (runDraw_sound h' hK)
        · split at h'
          · rename_i res σ₂ hq
            cases hb : allB σ₂ (rls i H) with
            | false => simp [hb] at h'
            | true =>
              simp only [hb, cond_true] at h'
              refine DP.write hop' hw hq (fun x hx => holdB_sound (List.all_eq_true.1 hb x hx)) ?_
              cases res <;> exact runDraw_sound h' hK
          · split at h'
            · rename_i c hopc
              split at h'
              · rename_i g args hcq
                split at h'
                · rename_i v σ₂ hcall
                  cases hb : allB σ₂ (rls i H) with
                  | false => simp [hb] at h'
                  | true =>
                    simp only [hb, cond_true] at h'
                    refine DP.call hop' hopc hw hcq ((hc _ _ _ _ _ hcall).mono fun r' σ'' _ ⟨e1, e2⟩ => ?_)
                    subst e1; subst e2
                    exact ⟨fun x hx => holdB_sound (List.all_eq_true.1 hb x hx), runDraw_sound h' hK⟩
                · cases h'
              · cases h'
            · cases h'
      · cases h'

theorem runK_sound {K : FuncId} {fn : Func} (hf : M.P.funcs[K]? = some fn) : ∀ {n : Nat} {k : List Item} {f : Fr} {σ : St} {r : Value} {σ' : St}, runK M call fn n k f σ = some (r, σ') → VM M K fn.ntmps k f σ (fun r' σ'' => r' = r ∧ σ'' = σ')
  | 0, k, f, σ, r, σ', h => by simp [runK] at h
  | n + 1, k, f, σ, r, σ', h => by
    have h' : stepK M call fn (runK M call fn n) k f σ = some (r, σ') := h
    clear h
    unfold stepK at h'
    split at h'
    · split at h'
      · rename_i hdf
        split at h'
        · rename_i v hv
          simp only [Option.some.injEq, Prod.mk.injEq] at h'
          obtain ⟨rfl, rfl⟩ := h'
          exact VM.done hdf hf hv ⟨rfl, rfl⟩
        · cases h'
      · cases h'
    · split at h'
      · exact VM.skip (runK_sound hf h')
      · exact VM.seq (runK_sound hf h')
      · exact VM.block (runK_sound hf h')
      · exact VM.loop1 (runK_sound hf h')
      · split at h'
        · rename_i t hcond
          exact VM.cond hcond (runK_sound hf h')
        · cases h'
      · split at h'
        · rename_i k' hx
          exact VM.exit hx (runK_sound hf h')
        · cases h'
      · split at h'
        · rename_i hdf
          split at h'
          · rename_i v hv
            simp only [Option.some.injEq, Prod.mk.injEq] at h'
            obtain ⟨rfl, rfl⟩ := h'
            exact VM.ret hdf hf hv ⟨rfl, rfl⟩
          · cases h'
        · cases h'
      · rename_i id ops draw
        cases draw with
        | true =>
          simp only [cond_true] at h'
          split at h'
          · rename_i p hp
            split at h'
            · rename_i f₁ σ₁ hrun
              have hgood : planGood fn.ntmps ops p = true := by
                unfold planOf at hp
                split at hp
                · rename_i p' _
                  cases hb : planGood fn.ntmps ops p' with
                  | false => simp [hb] at hp
                  | true => simp only [hb, cond_true, Option.some.injEq] at hp; subst hp; exact hb
                · cases hp
              exact VM.draw p hgood (runDraw_sound hc hrun (runK_sound hf h'))
            · cases h'
          · cases h'
        | false =>
          simp only [cond_false] at h'
          cases hb : ops.toList.all (dstOk fn.ntmps) with
          | false => simp [hb] at h'
          | true =>
            simp only [hb, cond_true] at h'
            split at h'
            · rename_i f₁ σ₁ hrun
              exact VM.region hb (runOps_sound hc hrun (runK_sound hf h'))
            · cases h'
      · cases h'
    · exact VM.inBlock (runK_sound hf h')
    · exact VM.inLoop (runK_sound hf h')
    · cases h'

theorem bodyF_sound {steps : Nat} {g : FuncId} {args : List Value} {σ : St} {r : Value} {σ' : St} (h : bodyF M call steps g args σ = some (r, σ')) : WF M.toEnv g args σ (fun r' σ'' => r' = r ∧ σ'' = σ') := by
  unfold bodyF at h
  split at h
  · rename_i fn hf
    have hf' : M.P.funcs[g]? = some fn := by rw [← hf]; simp
    split at h
    · rename_i c hb
      cases hq : ((fn.name != "runtime.NumGoroutine") && Nat.ble args.length fn.ntmps) with
      | false => simp [hq] at h
      | true =>
        simp only [hq, cond_true] at h
        simp only [Bool.and_eq_true, bne, Bool.not_eq_true', Nat.ble_eq] at hq
        exact WF.of_VM hf' hq.1 hb hq.2 (runK_sound hc hf' h)
    · cases h
  · cases h

end

theorem evF_sound {M : EnvM} {orc : CallF} (ho : CallOk M orc) (steps : Nat) : ∀ n, CallOk M (evF M orc steps n)
  | 0 => fun g args σ r σ' h => by simp [evF] at h
  | n + 1 => fun g args σ r σ' h => by
    have h' : (match orc g args σ with | some r => some r | none => bodyF M (evF M orc steps n) steps g args σ) = some (r, σ') := h
    split at h'
    · rename_i rr hr
      simp only [Option.some.injEq] at h'
      subst h'
      exact ho g args σ r σ' hr
    · exact bodyF_sound (evF_sound ho steps n) h'

def noOrc : CallF := fun _ _ _ => none
theorem noOrc_ok (M : EnvM) : CallOk M noOrc := fun g args σ r σ' h => by simp [noOrc] at h

end
end AH
end

section
/-
  AH 23: from a call's abstract outcome to a row that says 'true, and the input reads as it did'.
-/
set_option linter.unusedSimpArgs false
set_option linter.unusedVariables false
set_option linter.unusedSectionVars false
namespace AH
open Go Go.ChangeShapes Go.WideShapes Go.ChangeAt Go.RowKit
noncomputable section

theorem below_of_evo {ρ ρ' : Nat → Loc} {σ σ' : St} {w w' : World} (h : Evo ρ σ w ρ' σ' w') (hro : ∀ i, (σ.get i).wr = false) : Below w.heap.size w w' :=
  ⟨h.os, h.tape, h.output, h.size, fun k hk => h.fra k hk fun i hi => by rw [hro i] at hi; cases hi⟩

theorem Rel.empty (ρ : Nat → Loc) (w : World) : Rel ρ St.empty w :=
  ⟨fun i => trivial, fun i => trivial, fun i hi => by simp [St.get_empty, Blk.live] at hi, fun i j _ hi _ => by simp [St.get_empty, Blk.wr] at hi⟩

/-- A call that begins with nothing known. -/
theorem WF.calls {E : Env} {K : FuncId} {args : List Value} {σ : St} {R : Value → St → Prop} (h : WF E K args σ R) {ρ : Nat → Loc} {w : World} (hR : Rel ρ σ w) (hs : Scs σ.next args) (hro : ∀ i, (σ.get i).wr = false) :
    Calls E.P K (args.map (ren ρ)).toArray w (fun e w' => ∃ r σ' ρ', e = .returned (ren ρ' r) ∧ R r σ' ∧ Below w.heap.size w w') :=
  (h.2 ρ w hR hs).mono fun e w' ⟨v, he, r, σ', ρ', h1, h2, h3, h4⟩ => ⟨r, σ', ρ', by rw [he, h1], h4, below_of_evo h2 hro⟩

def isT : Option (Value × St) → Bool
  | some (.bool b, _) => b
  | _ => false

/-- A call of closed values that comes to true. -/
theorem CallOk.true_of {M : EnvM} {call : CallF} (hc : CallOk M call) {K : FuncId} {args : List Value} (h : isT (call K args St.empty) = true) (hs : ∀ v ∈ args, ∀ ρ : Nat → Loc, ren ρ v = v) (w : World) :
    Calls M.P K args.toArray w (fun e w' => e = .returned (.bool true) ∧ Below w.heap.size w w') := by
  unfold isT at h
  split at h
  · rename_i b' σ' hcall
    subst h
    have hsc : Scs St.empty.next args := fun v hv ρ ρ' _ => by rw [hs v hv, hs v hv]
    have := WF.calls (hc _ _ _ _ _ hcall) (Rel.empty (fun _ => ⟨0, 0, 0⟩) w) hsc (fun i => rfl)
    have e0 : args.map (ren fun _ => ⟨0, 0, 0⟩) = args := by
      have := List.map_congr_left (f := ren fun _ => ⟨0, 0, 0⟩) (g := id) fun v hv => hs v hv _
      rw [this, List.map_id]
    rw [e0] at this
    refine this.mono fun e w' ⟨r, σ'', ρ', he, ⟨hr, _⟩, hb⟩ => ⟨?_, hb⟩
    subst hr
    rw [he, ren_bool]
  · exact absurd h (by simp)

section
variable {H : Type} {enc : TypeId × Value → H} {P : Program}

theorem trodAll_below (hl : laidOutB P = true) {W W' : World} (hb : Below W.heap.size W W') : ∀ {ts : List TypeId} {vs : List Value} {ds : List (DataW H)} {ps : List MemPlace}, (∀ t ∈ ts, P.readableRec t = true ∧ t < P.types.size) → (∀ p ∈ ps, p.block < W.heap.size) →
    DataW.TrodAll enc P W 0 (fun _ => true) true ts vs ds ps → DataW.TrodAll enc P W' 0 (fun b => decide (b < W.heap.size)) true ts vs ds ps
  | [], vs, ds, ps, _, _, h => by
    obtain ⟨rfl, rfl, rfl⟩ := trodAll_nil h
    exact trodAll_mk0
  | t :: ts, vs, ds, ps, hr, hlt, h => by
    obtain ⟨v, vs', d, ds', p, q, rfl, rfl, rfl, h1, h2⟩ := trodAll_cons h
    obtain ⟨r1, r2⟩ := hr t (by simp)
    exact ⟨p, q, Below.trod hl r1 r2 h1 hb (fun x hx => hlt x (by simp [hx])), trodAll_below hl hb (fun t ht => hr t (by simp [ht])) (fun x hx => hlt x (by simp [hx])) h2, rfl⟩

/-- The row's end: true, and the arguments read as they did. -/
theorem post_true {f : Func} {s : ChangeSpec} {fresh handsOn : Bool} {W W' : World} {args : Array Value} {ds gs : List (DataW H)} {before : List MemPlace} (hl : laidOutB P = true)
    (hW : DataW.Whole enc P f.params.toList s.vars false W args.toList ds gs before) (hv : s.vars = []) (hfn : s.fn H ds = { results := [.lit (.bool true)], args := ds })
    (hres : f.resultTypes.size = 1) (hbool : ∀ t ∈ f.resultTypes.toList, P.underlying t = some .bool)
    (hread : (f.params.toList.all fun t => P.readableRec t && decide (t < P.types.size)) = true) (hb : Below W.heap.size W W') : s.post enc P f false fresh handsOn false W args (.bool true) W' := by
  have hlt := hW.lt
  have hW' := hW
  obtain ⟨p, q, hA, hV, rfl, hfz, hnd⟩ := hW
  rw [hv] at hV
  obtain ⟨rfl, rfl⟩ := trodVars_none hV
  have hread' : ∀ t ∈ f.params.toList, P.readableRec t = true ∧ t < P.types.size := fun t ht => by
    have := List.all_eq_true.1 hread t ht
    simpa using this
  refine ⟨ds, [], p ++ [], [], p, [], hW', ?_, ?_, ?_, hb.frame _, fun h => by cases h⟩
  · rw [List.append_nil, hfn]
    obtain ⟨t, ht⟩ : ∃ t, f.resultTypes.toList = [t] := by
      have : f.resultTypes.toList.length = 1 := by simpa using hres
      match f.resultTypes.toList, this with
      | [t], _ => exact ⟨t, rfl⟩
    have hb1 : (Value.bool true).resultList f.resultTypes.size = [.bool true] := by rw [hres]; rfl
    rw [ht, hb1]
    refine trodAll_mk1 ?_
    exact shut_bool (hbool t (by rw [ht]; simp)) true
  · rw [List.append_nil, hfn]
    exact trodAll_below hl hb hread' (fun x hx => hlt x (by simp [hx])) hA
  · rw [List.append_nil, hfn, hv]
    rfl
end
end
end AH
end

section
/-
  AH 24: a body reckoned where some values are given, and owed: what is owed is left as a proposition.
-/
set_option linter.unusedSimpArgs false
set_option linter.unusedVariables false
set_option linter.unusedSectionVars false
namespace AH
open Go
noncomputable section

section
variable (M : EnvM) (call : CallF) (ov : Tmp → Option Value)

def ovO (o : Oper) : Option Value := match o.dst with | some d => ov d | none => none

noncomputable def runOpsO (all : Array Oper) (l : List Oper) : Fr → St → Prop → Option (Fr × St × Prop) :=
  List.rec (motive := fun _ => Fr → St → Prop → Option (Fr × St × Prop)) (fun f σ p => some (f, σ, p))
    (fun o _ ih f σ p => match ovO ov o with
      | some u => (match wantedA all f o with
        | some true => ih (putF f o.dst u) σ (p ∧ opQ M.toEnv f σ o.op = some u)
        | some false => ih (putF f o.dst undef) σ p
        | none => none)
      | none => match runOp M call all o f σ with | some (f', σ') => ih f' σ' p | none => none) l

noncomputable def stepKO (fn : Func) (rec : List Item → Fr → St → Prop → Option (Value × St × Prop)) (k : List Item) (f : Fr) (σ : St) (p : Prop) : Option (Value × St × Prop) :=
  match k with
  | [] => (match f.df with | [] => (match resQ M.toEnv f σ fn.results.toList with | some v => some (v, σ, p) | none => none) | _ => none)
  | .code c :: k =>
    (match c with
     | .skip => rec k f σ p
     | .seq x y => rec (.code x :: .code y :: k) f σ p
     | .block id c => rec (.code c :: .inBlock id :: k) f σ p
     | .loop c => rec (.code c :: .inLoop c :: k) f σ p
     | .cond c x y => (match opd f c with
       | some (.bool t) => rec (.code (bif t then x else y) :: k) f σ p
       | _ => none)
     | .exit id => (match exitTo id k with | some k' => rec k' f σ p | none => none)
     | .ret => (match f.df with | [] => (match resQ M.toEnv f σ fn.results.toList with | some v => some (v, σ, p) | none => none) | _ => none)
     | .region _ ops draw =>
       (bif draw then
         (match planOf fn.ntmps ops with
          | some pl => (match runDraw M call ops pl [] f σ with | some (f', σ') => rec k f' σ' p | none => none)
          | none => none)
        else bif ops.toList.all (dstOk fn.ntmps) then
         (match runOpsO M call ov ops ops.toList f σ p with | some (f', σ', p') => rec k f' σ' p' | none => none)
        else none)
     | _ => none)
  | .inBlock _ :: k => rec k f σ p
  | .inLoop c :: k => rec (.code c :: .inLoop c :: k) f σ p
  | _ => none

noncomputable def runKO (fn : Func) (n : Nat) : List Item → Fr → St → Prop → Option (Value × St × Prop) :=
  Nat.rec (motive := fun _ => List Item → Fr → St → Prop → Option (Value × St × Prop)) (fun _ _ _ _ => none) (fun _ ih => stepKO M call ov fn ih) n

noncomputable def bodyO (steps : Nat) (g : FuncId) (args : List Value) (σ : St) : Option (Value × St × Prop) :=
  match M.P.funcs.toList[g]? with
  | some fn => (match fn.body with
    | some c => bif (fn.name != "runtime.NumGoroutine") && Nat.ble args.length fn.ntmps then runKO M call ov fn steps [.code c] (initF 0 args .nil) σ True else none
    | none => none)
  | none => none
end

section
variable {M : EnvM} {call : CallF} (hc : CallOk M call) {ov : Tmp → Option Value}
include hc

theorem runOpsO_sound {nt : Nat} {all : Array Oper} {K : Fr → St → Prop} : ∀ {l : List Oper} {f : Fr} {σ : St} {p : Prop} {f' : Fr} {σ' : St} {p' : Prop}, runOpsO M call ov all l f σ p = some (f', σ', p') → (p' → p) ∧ (p' → K f' σ' → WL M nt all l f σ K)
  | [], f, σ, p, f', σ', p', h => by
    simp only [runOpsO, Option.some.injEq, Prod.mk.injEq] at h
    obtain ⟨rfl, rfl, rfl⟩ := h
    exact ⟨id, fun _ hK => WL.nil hK⟩
  | o :: r, f, σ, p, f', σ', p', h => by
    have h' : (match ovO ov o with
      | some u => (match wantedA all f o with
        | some true => runOpsO M call ov all r (putF f o.dst u) σ (p ∧ opQ M.toEnv f σ o.op = some u)
        | some false => runOpsO M call ov all r (putF f o.dst undef) σ p
        | none => none)
      | none => match runOp M call all o f σ with | some (f₁, σ₁) => runOpsO M call ov all r f₁ σ₁ p | none => none) = some (f', σ', p') := h
    clear h
    split at h'
    · rename_i u hu
      split at h'
      · rename_i hw
        obtain ⟨h1, h2⟩ := runOpsO_sound (nt := nt) (K := K) h'
        exact ⟨fun hp => (h1 hp).1, fun hp hK => WL.quiet hw (h1 hp).2 (h2 hp hK)⟩
      · rename_i hw
        obtain ⟨h1, h2⟩ := runOpsO_sound (nt := nt) (K := K) h'
        exact ⟨h1, fun hp hK => WL.skip hw (h2 hp hK)⟩
      · cases h'
    · split at h'
      · rename_i f₁ σ₁ ho
        obtain ⟨h1, h2⟩ := runOpsO_sound (nt := nt) (K := K) h'
        refine ⟨h1, fun hp hK => ?_⟩
        have h3 := h2 hp hK
        have h4 : runOps M call all [o] f σ = some (f₁, σ₁) := by simp only [runOps, ho]
        unfold runOp at ho
        split at ho
        · rename_i hw
          simp only [Option.some.injEq, Prod.mk.injEq] at ho
          obtain ⟨rfl, rfl⟩ := ho
          exact WL.skip hw h3
        · rename_i hw
          split at ho
          · rename_i v hq
            simp only [Option.some.injEq, Prod.mk.injEq] at ho
            obtain ⟨rfl, rfl⟩ := ho
            exact WL.quiet hw hq h3
          · split at ho
            · rename_i res σ₂ hq
              simp only [Option.some.injEq, Prod.mk.injEq] at ho
              obtain ⟨rfl, rfl⟩ := ho
              refine WL.write hw hq ?_
              cases res <;> exact h3
            · split at ho
              · rename_i c hop
                split at ho
                · rename_i g args hcq
                  split at ho
                  · rename_i v σ₂ hcall
                    simp only [Option.some.injEq, Prod.mk.injEq] at ho
                    obtain ⟨rfl, rfl⟩ := ho
                    refine WL.call hop hw hcq ((hc _ _ _ _ _ hcall).mono fun r' σ'' _ ⟨e1, e2⟩ => ?_)
                    subst e1; subst e2
                    exact h3
                  · cases ho
                · cases ho
              · cases ho
        · cases ho
      · cases h'

theorem runKO_sound {K : FuncId} {fn : Func} (hf : M.P.funcs[K]? = some fn) : ∀ {n : Nat} {k : List Item} {f : Fr} {σ : St} {p : Prop} {r : Value} {σ' : St} {p' : Prop}, runKO M call ov fn n k f σ p = some (r, σ', p') → (p' → p) ∧ (p' → VM M K fn.ntmps k f σ (fun r' σ'' => r' = r ∧ σ'' = σ'))
  | 0, k, f, σ, p, r, σ', p', h => by simp [runKO] at h
  | n + 1, k, f, σ, p, r, σ', p', h => by
    have h' : stepKO M call ov fn (runKO M call ov fn n) k f σ p = some (r, σ', p') := h
    clear h
    unfold stepKO at h'
    split at h'
    · split at h'
      · rename_i hdf
        split at h'
        · rename_i v hv
          simp only [Option.some.injEq, Prod.mk.injEq] at h'
          obtain ⟨rfl, rfl, rfl⟩ := h'
          exact ⟨id, fun _ => VM.done hdf hf hv ⟨rfl, rfl⟩⟩
        · cases h'
      · cases h'
    · split at h'
      · exact ⟨(runKO_sound hf h').1, fun hp => VM.skip ((runKO_sound hf h').2 hp)⟩
      · exact ⟨(runKO_sound hf h').1, fun hp => VM.seq ((runKO_sound hf h').2 hp)⟩
      · exact ⟨(runKO_sound hf h').1, fun hp => VM.block ((runKO_sound hf h').2 hp)⟩
      · exact ⟨(runKO_sound hf h').1, fun hp => VM.loop1 ((runKO_sound hf h').2 hp)⟩
      · split at h'
        · rename_i t hcond
          exact ⟨(runKO_sound hf h').1, fun hp => VM.cond hcond ((runKO_sound hf h').2 hp)⟩
        · cases h'
      · split at h'
        · rename_i k' hx
          exact ⟨(runKO_sound hf h').1, fun hp => VM.exit hx ((runKO_sound hf h').2 hp)⟩
        · cases h'
      · split at h'
        · rename_i hdf
          split at h'
          · rename_i v hv
            simp only [Option.some.injEq, Prod.mk.injEq] at h'
            obtain ⟨rfl, rfl, rfl⟩ := h'
            exact ⟨id, fun _ => VM.ret hdf hf hv ⟨rfl, rfl⟩⟩
          · cases h'
        · cases h'
      · rename_i id ops draw
        cases draw with
        | true =>
          simp only [cond_true] at h'
          split at h'
          · rename_i pl hp
            split at h'
            · rename_i f₁ σ₁ hrun
              have hgood : planGood fn.ntmps ops pl = true := by
                unfold planOf at hp
                split at hp
                · rename_i p' _
                  cases hb : planGood fn.ntmps ops p' with
                  | false => simp [hb] at hp
                  | true => simp only [hb, cond_true, Option.some.injEq] at hp; subst hp; exact hb
                · cases hp
              exact ⟨(runKO_sound hf h').1, fun hp => VM.draw pl hgood (runDraw_sound hc hrun ((runKO_sound hf h').2 hp))⟩
            · cases h'
          · cases h'
        | false =>
          simp only [cond_false] at h'
          cases hb : ops.toList.all (dstOk fn.ntmps) with
          | false => simp [hb] at h'
          | true =>
            simp only [hb, cond_true] at h'
            split at h'
            · rename_i f₁ σ₁ p₁ hrun
              obtain ⟨h1, h2⟩ := runKO_sound hf h'
              exact ⟨fun hp => (runOpsO_sound hc (nt := fn.ntmps) (K := fun _ _ => True) hrun).1 (h1 hp), fun hp => VM.region hb ((runOpsO_sound hc hrun).2 (h1 hp) (h2 hp))⟩
            · cases h'
      · cases h'
    · exact ⟨(runKO_sound hf h').1, fun hp => VM.inBlock ((runKO_sound hf h').2 hp)⟩
    · exact ⟨(runKO_sound hf h').1, fun hp => VM.inLoop ((runKO_sound hf h').2 hp)⟩
    · cases h'

theorem bodyO_sound {steps : Nat} {g : FuncId} {args : List Value} {σ : St} {r : Value} {σ' : St} {p : Prop} (h : bodyO M call ov steps g args σ = some (r, σ', p)) (hp : p) : WF M.toEnv g args σ (fun r' σ'' => r' = r ∧ σ'' = σ') := by
  unfold bodyO at h
  split at h
  · rename_i fn hf
    have hf' : M.P.funcs[g]? = some fn := by rw [← hf]; simp
    split at h
    · rename_i c hb
      cases hq : ((fn.name != "runtime.NumGoroutine") && Nat.ble args.length fn.ntmps) with
      | false => simp [hq] at h
      | true =>
        simp only [hq, cond_true] at h
        simp only [Bool.and_eq_true, bne, Bool.not_eq_true', Nat.ble_eq] at hq
        exact WF.of_VM hf' hq.1 hb hq.2 ((runKO_sound hc hf' h).2 hp)
    · cases h
  · cases h
end

def isTO : Option (Value × St × Prop) → Bool
  | some (.bool b, _, _) => b
  | _ => false
def owed : Option (Value × St × Prop) → Prop
  | some (_, _, p) => p
  | _ => False

theorem bodyO_true {M : EnvM} {call : CallF} (hc : CallOk M call) {ov : Tmp → Option Value} {steps : Nat} {K : FuncId} {args : List Value} (h : isTO (bodyO M call ov steps K args St.empty) = true) (hp : owed (bodyO M call ov steps K args St.empty)) (hs : ∀ v ∈ args, ∀ ρ : Nat → Loc, ren ρ v = v) (w : World) :
    Calls M.P K args.toArray w (fun e w' => e = .returned (.bool true) ∧ Go.RowKit.Below w.heap.size w w') := by
  unfold isTO at h
  split at h
  · rename_i b' σ' p hcall
    subst h
    rw [hcall] at hp
    have hsc : Scs St.empty.next args := fun v hv ρ ρ' _ => by rw [hs v hv, hs v hv]
    have := WF.calls (bodyO_sound hc hcall hp) (Rel.empty (fun _ => ⟨0, 0, 0⟩) w) hsc (fun i => rfl)
    have e0 : args.map (ren fun _ => ⟨0, 0, 0⟩) = args := by
      have := List.map_congr_left (f := ren fun _ => ⟨0, 0, 0⟩) (g := id) fun v hv => hs v hv _
      rw [this, List.map_id]
    rw [e0] at this
    refine this.mono fun e w' ⟨r, σ'', ρ', he, ⟨hr, _⟩, hb⟩ => ⟨?_, hb⟩
    subst hr
    rw [he, ren_bool]
  · exact absurd h (by simp)

end
end AH
end

section
/-
  AH 25: a range over a function: its rounds, its yields, its end.
-/
set_option linter.unusedSimpArgs false
set_option linter.unusedVariables false
set_option linter.unusedSectionVars false
namespace AH
open Go
noncomputable section

/-- In a round, or not. -/
abbrev FR (rd : Option Nat) : Fence := { Fence.wide with round := rd }

theorem stepsIn_FR {rd : Option Nat} {P : Program} {m m' : Machine} : StepsIn (Machine.fenced P (FR rd)) P m m' ↔ Steps P m m' := stepsIn_wide (P := P)

theorem room_FR (rd : Option Nat) (n : Nat) : (FR rd).room n := fun d hd => by simp [FR, Fence.wide] at hd

theorem callsIn_FR {rd : Option Nat} {n : Nat} {P : Program} {f : FuncId} {args : Array Value} {w : World} {R : Ending → World → Prop} (h : Calls P f args w R) : CallsIn (FR rd) n P f args w R :=
  ⟨trivial, fun cs _ => let ⟨e, w', fr, r, s, x⟩ := h cs; ⟨e, w', fr, r, comesIn_wide.2 s, x⟩⟩

theorem uponIn_of_upon {rd : Option Nat} {n : Nat} {P : Program} {o : Oper} {a : Act} {next : Act → World → Prop} {Q : Exit → Act → World → Prop} {r : Result Next} (h : o.upon P a next Q r) : o.uponIn (FR rd) n P a next Q r := by
  have hd : (FR rd).depth.isSome = true → 1 ≤ n := fun h => by simp [FR, Fence.wide] at h
  cases r with
  | ok x w' =>
    cases x <;> simp only [Oper.upon] at h <;> first
      | exact h
      | exact ⟨hd, callsIn_FR h⟩
      | exact ⟨hd, fun c cs _ => let ⟨v, w', r, s⟩ := h c cs; ⟨v, w', r, stepsIn_FR.2 s⟩⟩
      | exact h.elim
  | halt x w' => cases x <;> simp only [Oper.upon] at h <;> first | exact h | exact h.elim

def notDefer : Op → Bool
  | .defer _ => false
  | _ => true

theorem wpListIn_mono' {F : Fence} {n : Nat} {P : Program} {all : Array Oper} {Q Q' : Exit → Act → World → Prop} (hQ : ∀ e a w, Q e a w → Q' e a w) : ∀ (l : List Oper) (a : Act) (w : World), wpListIn F n P all Q l a w → wpListIn F n P all Q' l a w
  | [], a, w, h => hQ _ _ _ h
  | o :: r, a, w, h => by
    unfold wpListIn at h ⊢
    have ih := wpListIn_mono' (F := F) (n := n) (P := P) (all := all) hQ r
    have hL : LetsOut Q → LetsOut Q' := fun ⟨a₁, w₁, h⟩ => ⟨a₁, w₁, hQ _ _ _ h⟩
    split
    · rename_i hw
      rw [if_pos hw] at h
      refine ⟨h.1, ?_⟩
      have h2 := h.2
      generalize (o.semAt F.round a.eval).run P w = res at *
      cases res with
      | ok x w' =>
        cases x <;> simp only [Oper.uponIn] at h2 ⊢ <;> first
          | exact ih _ _ h2
          | exact ⟨h2.1, CallsIn.mono h2.2 (fun e w'' he => by
              cases e
              · exact ih _ _ he
              · exact hQ _ _ _ he
              · exact hL he)⟩
          | exact ⟨h2.1, RowsIn.mono h2.2 fun _ _ he => ih _ _ he⟩
          | exact ⟨h2.1, RoundIn.mono h2.2 (fun e w'' he => by
              cases e
              · exact ih _ _ he
              · exact hQ _ _ _ he
              · exact hL he)⟩
          | exact h2.elim
      | halt x w' => cases x <;> simp only [Oper.uponIn] at h2 ⊢ <;> first | exact hQ _ _ _ h2 | exact h2.elim
    · rename_i hw
      rw [if_neg hw] at h
      exact ⟨h.1, ih _ _ h.2⟩

def WR (M : EnvM) (rd : Option Nat) (nt : Nat) (all : Array Oper) (rest : List Oper) (f : Fr) (σ : St) (K : Fr → St → Prop) : Prop :=
  (∀ o ∈ rest, dstOk nt o = true) → ∀ ρ w a, Rel ρ σ w → FrRel ρ f σ.next a → a.tmps.size = nt → wpListIn (FR (rd.map fun l => (ρ l).b)) 0 M.P all (fun e a' w' => e = .normal ∧ After nt ρ σ w K a' w') rest a w

section
variable {M : EnvM} {rd : Option Nat} {nt : Nat} {all : Array Oper} {o : Oper} {rest : List Oper} {f : Fr} {σ : St} {K : Fr → St → Prop}

theorem WR.nil (h : K f σ) : WR M rd nt all [] f σ K := fun _ ρ w a hR hF hn => ⟨rfl, ρ, σ, f, Evo.refl hR, hF, hn, h⟩

theorem rd_ext {ρ ρ' : Nat → Loc} (hrd : ∀ l, rd = some l → l < σ.next) (he : ∀ i, i < σ.next → ρ' i = ρ i) : (rd.map fun l => (ρ' l).b) = rd.map fun l => (ρ l).b := by
  cases rd with
  | none => rfl
  | some l => simp [he l (hrd l rfl)]

/-- One operation that is no yield. -/
theorem WR.op (hnd : notDefer o.op = true) (hrd : ∀ l, rd = some l → l < σ.next) (h : WL M nt all [o] f σ (fun f' σ' => WR M rd nt all rest f' σ' K)) : WR M rd nt all (o :: rest) f σ K := by
  intro hd ρ w a hR hF hn
  have h1 := h (fun o' ho' => hd o' (by simp at ho'; simp [ho'])) ρ w a hR hF hn
  have hnd' : ∀ c, o.op ≠ .defer c := fun c e => by rw [e] at hnd; simp [notDefer] at hnd
  have hon : ∀ a' w', (Exit.normal = .normal ∧ After nt ρ σ w (fun f' σ' => WR M rd nt all rest f' σ' K) a' w') → wpListIn (FR (rd.map fun l => (ρ l).b)) 0 M.P all (fun e a' w' => e = .normal ∧ After nt ρ σ w K a' w') rest a' w' := fun a' w' ⟨_, ρ', σ', f', he, hF', hn', hk⟩ => by
    have := hk (fun o' ho' => hd o' (by simp [ho'])) ρ' w' a' he.rel hF' hn'
    rw [rd_ext hrd he.ext] at this
    exact wpListIn_mono' (fun e a₂ w₂ ⟨e1, e2⟩ => ⟨e1, After.evo he e2⟩) rest _ _ this
  unfold wpListIn
  unfold wpList at h1
  split
  · rename_i hw
    rw [if_pos hw] at h1
    rcases h1 with h1 | ⟨_, a₀, w₀, h2, _⟩
    · refine ⟨fun _ _ => trivial, ?_⟩
      rw [Oper.semAt_eq _ _ _ hnd']
      unfold Oper.wp at h1
      have h2 := uponIn_of_upon (rd := rd.map fun l => (ρ l).b) (n := 0) h1
      generalize (execOp a.eval o).run M.P w = res at *
      cases res with
      | ok x w' =>
        cases x <;> simp only [Oper.uponIn] at h2 ⊢ <;> first
          | exact hon _ _ h2
          | exact ⟨h2.1, CallsIn.mono h2.2 (fun e w'' he => by
              cases e
              · exact hon _ _ he
              · exact absurd he.1 (by simp)
              · obtain ⟨_, _, h3, _⟩ := he; cases h3)⟩
          | exact ⟨h2.1, RowsIn.mono h2.2 fun _ _ he => hon _ _ he⟩
          | exact ⟨h2.1, RoundIn.mono h2.2 (fun e w'' he => by
              cases e
              · exact hon _ _ he
              · exact absurd he.1 (by simp)
              · obtain ⟨_, _, h3, _⟩ := he; cases h3)⟩
          | exact h2.elim
      | halt x w' => cases x <;> simp only [Oper.uponIn] at h2 ⊢ <;> first | exact absurd h2.1 (by simp) | exact h2.elim
    · cases h2
  · rename_i hw
    rw [if_neg hw] at h1
    exact ⟨fun _ _ => trivial, hon _ _ h1⟩
end

def baseR (K l : Nat) : Frame := { (default : Frame) with fn := K, kind := .normal, roundOf := some l }

/-- From these things to do on, in a round of the loop li in the function K, the round ends. -/
def VR (M : EnvM) (K li nt : Nat) (k : List Item) (f : Fr) (σ : St) (R : Value → St → Prop) : Prop :=
  ∀ ρ w a c cs, Rel ρ σ w → FrRel ρ f σ.next a → a.tmps.size = nt → ∃ v w', Lift ρ σ w R v w' ∧ Steps M.P (lone ((baseR K (ρ li).b).atR a k) (c :: cs) w) (lone (c.finish v) cs w')

section
variable {M : EnvM} {K li nt : Nat} {k : List Item} {f : Fr} {σ : St} {R : Value → St → Prop}

theorem VR.step {k k' : List Item} (hs : ∀ l (a : Act) cs w, step M.P (lone ((baseR K l).atR a k) cs w) = .next (lone ((baseR K l).atR a k') cs w)) (h : VR M K li nt k' f σ R) : VR M K li nt k f σ R :=
  fun ρ w a c cs hR hF hn => let ⟨v, w', h1, h2⟩ := h ρ w a c cs hR hF hn; ⟨v, w', h1, (Steps.one (hs _ a (c :: cs) w)).trans h2⟩

theorem VR.skip (h : VR M K li nt k f σ R) : VR M K li nt (.code .skip :: k) f σ R := VR.step (fun _ _ _ _ => stepR_skip) h
theorem VR.inBlock {id : Nat} (h : VR M K li nt k f σ R) : VR M K li nt (.inBlock id :: k) f σ R := VR.step (fun _ _ _ _ => stepR_inBlock) h
theorem VR.seq {x y : Code} (h : VR M K li nt (.code x :: .code y :: k) f σ R) : VR M K li nt (.code (.seq x y) :: k) f σ R := VR.step (fun _ _ _ _ => stepR_seq) h
theorem VR.block {id : Nat} {c : Code} (h : VR M K li nt (.code c :: .inBlock id :: k) f σ R) : VR M K li nt (.code (.block id c) :: k) f σ R := VR.step (fun _ _ _ _ => stepR_block) h
theorem VR.exit {id : Nat} {k' : List Item} (hx : exitTo id k = some k') (h : VR M K li nt k' f σ R) : VR M K li nt (.code (.exit id) :: k) f σ R := VR.step (fun _ _ _ _ => stepR_exit hx) h
theorem VR.cond {c : Operand} {x y : Code} {t : Bool} (hc : opd f c = some (.bool t)) (h : VR M K li nt (.code (bif t then x else y) :: k) f σ R) : VR M K li nt (.code (.cond c x y) :: k) f σ R := by
  intro ρ w a cc cs hR hF hn
  have hv : a.eval c = .bool t := by have := (opd_sound hF hc).1; simpa using this
  have hs := stepR_cond (P := M.P) (b := baseR K (ρ li).b) (a := a) (k := k) (cs := cc :: cs) (w := w) (x := x) (y := y) hv
  obtain ⟨v, w', h1, h2⟩ := h ρ w a cc cs hR hF hn
  refine ⟨v, w', h1, (Steps.one hs).trans ?_⟩
  cases t
  · exact h2
  · exact h2

theorem VR.cond_split {c : Operand} {x y : Code} {t : Bool} (hc : opd f c = some (.bool t)) (h1 : t = true → VR M K li nt (.code x :: k) f σ R) (h2 : t = false → VR M K li nt (.code y :: k) f σ R) : VR M K li nt (.code (.cond c x y) :: k) f σ R := by
  refine VR.cond hc ?_
  cases t
  · exact h2 rfl
  · exact h1 rfl

theorem VR.mono {R' : Value → St → Prop} (h : VR M K li nt k f σ R) (hr : ∀ r σ', σ.next ≤ σ'.next → R r σ' → R' r σ') : VR M K li nt k f σ R' :=
  fun ρ w a c cs hR hF hn => let ⟨v, w', ⟨r, σ', ρ', h1, h2, h3, h4⟩, hs⟩ := h ρ w a c cs hR hF hn; ⟨v, w', ⟨r, σ', ρ', h1, h2, h3, hr r σ' h2.next h4⟩, hs⟩

theorem VR.region {id : Nat} {ops : Array Oper} (hli : li < σ.next) (hd : ops.toList.all (dstOk nt) = true) (h : WR M (some li) nt ops ops.toList f σ (fun f' σ' => VR M K li nt k f' σ' R)) : VR M K li nt (.code (.region id ops false) :: k) f σ R := by
  intro ρ w a c cs hR hF hn
  have hw := h (List.all_eq_true.1 hd) ρ w a hR hF hn
  obtain ⟨e, a', w', ⟨he, ρ', σ', f', h1, h2, h3, h4⟩, harr⟩ := wpIn_region_list (id := id) hw (baseR K (ρ li).b) k (c :: cs) rfl trivial (room_FR _ _)
  subst he
  obtain ⟨v, w₂, h5, h6⟩ := h4 ρ' w' a' c cs h1.rel h2 h3
  rw [h1.ext li hli] at h6
  exact ⟨v, w₂, Lift.evo h1 h5, (stepsIn_FR.1 harr).trans h6⟩

/-- The record of a loop turns. -/
theorem loop_put {ρ : Nat → Loc} {σ : St} {w : World} (hR : Rel ρ σ w) {st st' : LoopState} {p p' : Option Code} {fn nt : Nat} {fl : Tr Value} {ps : Array Tmp} {x y : Code} (hl : σ.get li = .loop st p fn nt fl ps x y) :
    ∃ r : Loop, w.heap[(ρ li).b]? = some (.loop r) ∧ r.state = st ∧ r.pending = p ∧ r.fn = fn ∧ r.tmps.size = nt ∧ (∀ t v, fl.get t = some v → r.tmps[t]? = some (ren ρ v)) ∧ r.params = ps ∧ r.assign = x ∧ r.body = y ∧
      Evo ρ σ w ρ (σ.set li (.loop st' p' fn nt fl ps x y)) (w.putObj (ρ li).b (.loop { r with state := st', pending := p' })) := by
  have hb := hR.blk li
  rw [hl] at hb
  obtain ⟨h0, tmps, d, h1, h2, h3⟩ := hb
  have hlt : (ρ li).b < w.heap.size := heap_lt h3
  refine ⟨_, h3, rfl, rfl, rfl, h1, h2, rfl, rfl, rfl, ?_⟩
  refine Evo.write hR (i := li) (by rw [hl]; rfl) ⟨by simp, rfl, rfl, rfl, fun j hj => World.putObj_heap_other hj⟩ ⟨h0, tmps, d, h1, h2, World.putObj_heap_same hlt⟩ ?_
  have := hR.sc li
  rw [hl] at this
  exact this

/-- A round begins. -/
theorem VR.begin {p : Option Code} {fn n' : Nat} {fl : Tr Value} {ps : Array Tmp} {x y : Code} (hl : σ.get li = .loop .ready p fn n' fl ps x y) (h : VR M K li nt k f (σ.set li (.loop .busy p fn n' fl ps x y)) R) : VR M K li nt (.beginRound :: k) f σ R := by
  intro ρ w a c cs hR hF hn
  obtain ⟨r, h1, h2, h3, h4, h5, h6, h7, h8, h9, hev⟩ := loop_put (st' := .busy) (p' := p) hR hl
  obtain ⟨v, w', h10, h11⟩ := h ρ _ a c cs hev.rel (hF.evo hev.ext hev.next) hn
  have hs := stepR_beginRound (P := M.P) (b := baseR K (ρ li).b) (a := a) (k := k) (cs := c :: cs) rfl (run_beginRound h1 h2)
  have e1 : ({ r with state := .busy, pending := p } : Loop) = { r with state := .busy } := by rw [← h3]
  rw [e1] at h11 h10 hev
  exact ⟨v, w', Lift.evo hev h10, (Steps.one hs).trans h11⟩

theorem VR.out {jump : Option Code} {p : Option Code} {fn n' : Nat} {fl : Tr Value} {ps : Array Tmp} {x y : Code} (hl : σ.get li = .loop .busy p fn n' fl ps x y)
    (hs : ∀ l v (a : Act) c cs w w', (Instr.endRound l jump).run M.P w = .ok v w' → Go.step M.P (lone ((baseR K l).atR a k) (c :: cs) w) = Stepped.next (lone (c.finish v) cs w'))
    (h : R (.bool jump.isNone) (σ.set li (.loop (if jump.isNone then .ready else .done) jump fn n' fl ps x y))) : VR M K li nt k f σ R := by
  intro ρ w a c cs hR hF hn
  obtain ⟨r, h1, h2, h3, h4, h5, h6, h7, h8, h9, hev⟩ := loop_put (st' := if jump.isNone then .ready else .done) (p' := jump) hR hl
  exact ⟨_, _, ⟨.bool jump.isNone, _, ρ, by simp, hev, Sc_bool _ _, h⟩, Steps.one (hs _ _ a c cs w _ (run_endRound jump h1))⟩

theorem VR.done {p : Option Code} {fn n' : Nat} {fl : Tr Value} {ps : Array Tmp} {x y : Code} (hl : σ.get li = .loop .busy p fn n' fl ps x y) (h : R (.bool true) (σ.set li (.loop .ready none fn n' fl ps x y))) : VR M K li nt [] f σ R :=
  VR.out (jump := none) hl (fun l v a c cs w w' hr => stepR_round_end rfl rfl hr) h
theorem VR.ret {p : Option Code} {fn n' : Nat} {fl : Tr Value} {ps : Array Tmp} {x y : Code} (hl : σ.get li = .loop .busy p fn n' fl ps x y) (h : R (.bool false) (σ.set li (.loop .done (some .ret) fn n' fl ps x y))) : VR M K li nt (.code .ret :: k) f σ R :=
  VR.out (jump := some .ret) hl (fun l v a c cs w w' hr => stepR_round_ret rfl rfl hr) h
theorem VR.exitOut {id : Nat} (hx : exitTo id k = none) {p : Option Code} {fn n' : Nat} {fl : Tr Value} {ps : Array Tmp} {x y : Code} (hl : σ.get li = .loop .busy p fn n' fl ps x y) (h : R (.bool false) (σ.set li (.loop .done (some (.exit id)) fn n' fl ps x y))) : VR M K li nt (.code (.exit id) :: k) f σ R :=
  VR.out (jump := some (.exit id)) hl (fun l v a c cs w w' hr => stepR_round_exit rfl rfl hx hr) h
end
end
end AH
end

section
/-
  AH 26: a range over a function: yields; the statement; the way out of the function.
-/
set_option linter.unusedSimpArgs false
set_option linter.unusedVariables false
set_option linter.unusedSectionVars false
namespace AH
open Go
noncomputable section

def putAll (f : Fr) : List Tmp → List Value → Fr
  | t :: ts, v :: vs => putAll (f.set t v) ts vs
  | _, _ => f

theorem putAll_rel {ρ : Nat → Loc} {n : Nat} : ∀ (ts : List Tmp) (vs : List Value) (f : Fr) (tmps : Array Value), FrRel ρ f n { tmps := tmps, defers := [] } → Scs n vs → (∀ t ∈ ts, t < tmps.size) →
    FrRel ρ (putAll f ts vs) n { tmps := (ts.zip (vs.map (ren ρ))).foldl (fun tmps (p : Tmp × Value) => tmps.setIfInBounds p.1 p.2) tmps, defers := [] } ∧ ((ts.zip (vs.map (ren ρ))).foldl (fun tmps (p : Tmp × Value) => tmps.setIfInBounds p.1 p.2) tmps).size = tmps.size
  | [], vs, f, tmps, h, _, _ => by exact ⟨h, rfl⟩
  | t :: ts, [], f, tmps, h, _, _ => by exact ⟨h, rfl⟩
  | t :: ts, v :: vs, f, tmps, h, hs, ht => by
    simp only [putAll, List.map_cons, List.zip_cons_cons, List.foldl_cons]
    have h1 := h.put (d := some t) (fun u hu => by cases hu; exact ht t (by simp)) (hs v (by simp))
    have h2 := putAll_rel ts vs (f.set t v) (tmps.setIfInBounds t (ren ρ v)) h1 (fun u hu => hs u (by simp [hu])) (fun u hu => by simp; exact ht u (by simp [hu]))
    exact ⟨h2.1, h2.2.trans (by simp)⟩

section
variable {M : EnvM} {rd : Option Nat} {nt : Nat} {all : Array Oper} {o : Oper} {rest : List Oper} {f : Fr} {σ : St} {K : Fr → St → Prop} {li : Nat}

/-- A call of a loop's yield: a round. -/
theorem WR.yield {c : Call} {x : Operand} {vs : List Value} {p : Option Code} {K' nt' : Nat} {fl : Tr Value} {ps : Array Tmp} {as bd : Code} (hrd : ∀ l, rd = some l → l < σ.next) (ho : o.op = .call c) (hc : c.callee = .value x) (hw : wantedA all f o = some true)
    (hx : opd f x = some (.func (.yield li) #[] #[])) (ha : opds f c.args.toList = some vs) (hl : σ.get li = .loop .ready p K' nt' fl ps as bd) (hlen : vs.length = ps.size) (hps : ps.toList.all (fun t => Nat.blt t nt') = true)
    (h : VR M K' li nt' [.code as, .beginRound, .code bd] (putAll ⟨fl, []⟩ ps.toList vs) σ (fun v σ' => WR M rd nt all rest (putF f o.dst v) σ' K)) : WR M rd nt all (o :: rest) f σ K := by
  intro hd ρ w a hR hF hn
  obtain ⟨r, h1, h2, h3, h4, h5, h6, h7, h8, h9, _⟩ := loop_put (st' := .ready) (p' := p) hR hl
  obtain ⟨e1, e1s⟩ := opd_sound hF hx
  obtain ⟨e2, e2s⟩ := opds_sound hF ha
  have hargs : c.args.map a.eval = (vs.map (ren ρ)).toArray := Array.ext' (by simpa using e2)
  have hsz : (c.args.map a.eval).size = r.params.size := by rw [hargs, h7]; simpa using hlen
  have hrun : (execOp a.eval o).run M.P w = .ok (.round (ρ li).b r.fn ((r.params.zip (c.args.map a.eval)).foldl (fun tmps (t, a) => tmps.setIfInBounds t a) r.tmps) r.assign r.body) w := by
    simp only [execOp, ho, resolve, hc, Deferred.ofValue, e1, ren_func, renFn_yield, Sem.run_bind, Sem.run_pure, Result.andThen_ok, invoke, List.map_toArray, List.map_nil]
    have := run_yield (P := M.P) (args := c.args.map a.eval) h1 hsz
    have e0 : (#[] : Array Value) ++ c.args.map a.eval = c.args.map a.eval := by simp
    rw [e0]
    exact this
  unfold wpListIn
  rw [wantedA_sound hF hw, if_pos rfl]
  refine ⟨fun _ _ => trivial, ?_⟩
  rw [Oper.semAt_eq _ _ _ (fun c e => by rw [ho] at e; cases e), hrun]
  refine ⟨fun h => by simp [FR, Fence.wide] at h, trivial, fun cc cs _ => ?_⟩
  have hfr0 : FrRel ρ ⟨fl, []⟩ σ.next { tmps := r.tmps, defers := [] } := ⟨h6, by have := hR.sc li; rw [hl] at this; exact this, rfl, fun i hi => by simp at hi⟩
  obtain ⟨hfr, hfs⟩ := putAll_rel ps.toList vs ⟨fl, []⟩ r.tmps hfr0 e2s (fun t ht => by
    have := List.all_eq_true.1 hps t ht
    rw [h5]; simpa using this)
  obtain ⟨v, w', hlift, hsteps⟩ := h ρ w _ cc cs hR hfr (hfs.trans h5)
  have efold : (r.params.zip (c.args.map a.eval)).foldl (fun tmps (t, a) => tmps.setIfInBounds t a) r.tmps = (ps.toList.zip (vs.map (ren ρ))).foldl (fun tmps (p : Tmp × Value) => tmps.setIfInBounds p.1 p.2) r.tmps := by
    rw [← Array.foldl_toList, Array.toList_zip, hargs, h7]
  rw [efold]
  have eround : Frame.round (ρ li).b r.fn ((ps.toList.zip (vs.map (ren ρ))).foldl (fun tmps (p : Tmp × Value) => tmps.setIfInBounds p.1 p.2) r.tmps) r.assign r.body .normal = (baseR K' (ρ li).b).atR { tmps := (ps.toList.zip (vs.map (ren ρ))).foldl (fun tmps (p : Tmp × Value) => tmps.setIfInBounds p.1 p.2) r.tmps, defers := [] } [.code as, .beginRound, .code bd] := by
    simp [Frame.round, Frame.atR, baseR, h4, h8, h9]
  rw [eround]
  obtain ⟨res, σ', ρ', g1, g2, g3, g4⟩ := hlift
  refine ⟨.returned v, w', ?_, stepsIn_FR.2 hsteps⟩
  show wpListIn _ _ _ _ _ rest (a.put o.dst v) w'
  subst g1
  have hk := g4 (fun o' ho' => hd o' (by simp [ho'])) ρ' w' _ g2.rel ((hF.evo g2.ext g2.next).put (dst_lt hn (hd o (by simp))) g3) (by rw [put_size]; exact hn)
  rw [rd_ext hrd g2.ext] at hk
  exact wpListIn_mono' (fun e a₂ w₂ ⟨e1, e2⟩ => ⟨e1, After.evo g2 e2⟩) rest _ _ hk

end

section
variable {M : EnvM} {K : FuncId} {nt : Nat} {k : List Item} {f : Fr} {σ : St} {R : Value → St → Prop}

/-- A region in which yields are called. -/
theorem VM.regionR {id : Nat} {ops : Array Oper} (hd : ops.toList.all (dstOk nt) = true) (h : WR M none nt ops ops.toList f σ (fun f' σ' => VM M K nt k f' σ' R)) : VM M K nt (.code (.region id ops false) :: k) f σ R := by
  intro ρ w a cs hR hF hn
  have hw := h (List.all_eq_true.1 hd) ρ w a hR hF hn
  obtain ⟨e, a', w', ⟨he, ρ', σ', f', h1, h2, h3, h4⟩, harr⟩ := wpIn_region_list (id := id) hw (base K) k cs rfl trivial (room_FR _ _)
  subst he
  exact .of_steps (stepsIn_FR.1 harr) ((h4 ρ' w' a' cs h1.rel h2 h3).mono fun v w₂ => Lift.evo h1)

/-- The statement 'for .. := range g { .. }'. -/
theorem VM.rangeFunc {g : Operand} {ps : Array Tmp} {as bd : Code} {h : FuncId} {first cap : Array Value} (hg : opd f g = some (.func (.func h) first cap))
    (hcall : WF M.toEnv h (first.toList ++ [Value.func (.yield (σ.next + 1)) #[] #[]] ++ cap.toList) ((σ.push .dfr).push (.loop .ready none K nt f.tr ps as bd))
      (fun _ σ' => ∃ st p K' nt' fl ps' as' bd', σ'.get (σ.next + 1) = .loop st p K' nt' fl ps' as' bd' ∧ st ≠ .busy ∧
        VM M K nt ((p.map Item.code).toList ++ k) (f.mark σ.next) (σ'.set (σ.next + 1) (.loop .exhausted p K' nt' fl ps' as' bd')) R)) : VM M K nt (.code (.rangeFunc g ps as bd) :: k) f σ R := by
  intro ρ w a cs hR hF hn
  -- the two blocks
  have ev1 : Evo ρ σ w (upd ρ σ.next ⟨w.heap.size, 0, 0⟩) (σ.push .dfr) (w.alloc (.deferred (some []))) := Evo.alloc hR (.deferred (some [])) .dfr 0 (Like.refl _) ⟨rfl, get_new w _⟩ trivial
  have hF1 := hF.evo ev1.ext ev1.next
  have ev2 := Evo.alloc ev1.rel (.loop { state := .ready, pending := none, fn := K, tmps := a.tmps, params := ps, assign := as, body := bd, defers := w.heap.size }) (.loop .ready none K nt f.tr ps as bd) 0 (Like.refl _)
    ⟨rfl, a.tmps, w.heap.size, hn, fun t v hv => by
      have h1 := hF1.slot t v hv
      rw [h1]
      congr 1
      exact hF1.sc t v hv _ _ fun i hi => (upd_lt _ _ hi).symm, get_new _ _⟩ (fun t v hv => (hF1.sc t v hv).mono (Nat.le_succ _))
  have ev := ev1.trans ev2
  have hsz1 : (w.alloc (.deferred (some []))).heap.size = w.heap.size + 1 := by simp
  obtain ⟨hge, hgs⟩ := opd_sound hF hg
  obtain ⟨_, hg1, hg2⟩ := Sc_func.1 hgs
  obtain ⟨⟨fn, hfn, hname, hbody⟩, hrun⟩ := hcall
  have hnext : (σ.push .dfr).next = σ.next + 1 := rfl
  have hl2 : (upd (upd ρ σ.next ⟨w.heap.size, 0, 0⟩) (σ.push .dfr).next ⟨(w.alloc (.deferred (some []))).heap.size, 0, 0⟩ (σ.next + 1)).b = w.heap.size + 1 := by rw [hnext, upd_same, hsz1]
  have hsc : Scs ((σ.push .dfr).push (.loop .ready none K nt f.tr ps as bd)).next (first.toList ++ [Value.func (.yield (σ.next + 1)) #[] #[]] ++ cap.toList) := fun v hv => by
    rcases List.mem_append.1 hv with hv | hv
    · rcases List.mem_append.1 hv with hv | hv
      · exact (hg1 v hv).mono (by simp; omega)
      · simp only [List.mem_singleton] at hv; subst hv
        exact Sc_func.2 ⟨by simp [scFn], fun v hv => by simp at hv, fun v hv => by simp at hv⟩
    · exact (hg2 v hv).mono (by simp; omega)
  have hc := hrun _ _ ev.rel hsc
  generalize hρ2 : upd (upd ρ σ.next ⟨w.heap.size, 0, 0⟩) (σ.push .dfr).next ⟨(w.alloc (.deferred (some []))).heap.size, 0, 0⟩ = ρ2 at *
  generalize hw2 : (w.alloc (.deferred (some []))).alloc (.loop { state := .ready, pending := none, fn := K, tmps := a.tmps, params := ps, assign := as, body := bd, defers := w.heap.size }) = w2 at *
  have hargs : ((first.toList ++ [Value.func (.yield (σ.next + 1)) #[] #[]] ++ cap.toList).map (ren ρ2)).toArray = first.map (ren ρ) ++ #[Value.func (.yield (w.heap.size + 1)) #[] #[]] ++ cap.map (ren ρ) := by
    have e1 : first.toList.map (ren ρ2) = first.toList.map (ren ρ) := hg1.map_eq fun i hi => ev.ext i hi
    have e2 : cap.toList.map (ren ρ2) = cap.toList.map (ren ρ) := hg2.map_eq fun i hi => ev.ext i hi
    apply Array.ext'
    simp only [List.map_append, List.map_cons, List.map_nil, e1, e2, ren_func, renFn_yield, hl2]
    simp
  rw [hargs] at hc
  have henter := stepR_rangeFunc (P := M.P) (b := base K) (a := a) (k := k) (cs := cs) (w := w) (g := g) (ps := ps) (assign := as) (body := bd)
    (l := w.heap.size + 1) (mark := [{ target := .collected w.heap.size, args := #[] }]) (w₁ := w2) (w₁' := w2) (w₂ := w2)
    (d := { target := .fn (.func h) (cap.map (ren ρ)), args := first.map (ren ρ) ++ #[Value.func (.yield (w.heap.size + 1)) #[] #[]] }) (f := h) (args := first.map (ren ρ) ++ #[Value.func (.yield (w.heap.size + 1)) #[] #[]] ++ cap.map (ren ρ))
    (by rw [← hw2]; exact run_enterLoop_outer K a.tmps ps as bd) (by
      have ea : (#[Operand.const (.func (.yield (w.heap.size + 1)) #[] #[])] : Array Operand).map a.eval = #[Value.func (.yield (w.heap.size + 1)) #[] #[]] := by simp [Act.eval]
      simp only [resolve, rangeCall, ea, hge, ren_func, renFn_func, Deferred.ofValue, Sem.run_pure])
    (by simp only [invoke, callFunc, Sem.run_bind, run_program, Result.andThen_ok, hfn, hname, hbody, Bool.false_eq_true, if_false, Sem.run_pure])
  obtain ⟨e, w3, fr, ⟨v, he, hlift⟩, hcomes, hfr, hleave⟩ := hc ((base K).atR { a with defers := [{ target := .collected w.heap.size, args := #[] }] ++ a.defers } (.inRangeFunc (w.heap.size + 1) :: k) :: cs)
  subst he
  obtain ⟨r, σ', ρ', q1, q2, q3, st, p, K', nt', fl, ps', as', bd', q4, q5, q6⟩ := hlift
  obtain ⟨rec, r1, r2, r3, r4, r5, r6, r7, r8, r9, hev⟩ := loop_put (st' := .exhausted) (p' := p) q2.rel q4
  have hl3 : (ρ' (σ.next + 1)).b = w.heap.size + 1 := by rw [q2.ext _ (by simp), hl2]
  rw [hl3] at r1 hev
  have hend := run_endLoop (P := M.P) r1 (by rw [r2]; exact q5)
  have hback := stepR_endRangeFunc (P := M.P) (b := base K) (a := { a with defers := [{ target := .collected w.heap.size, args := #[] }] ++ a.defers }) (k := k) (cs := cs) hend
  have hleft := step_leave_returned (c := (base K).atR { a with defers := [{ target := .collected w.heap.size, args := #[] }] ++ a.defers } (.inRangeFunc (w.heap.size + 1) :: k)) (cs := cs) hleave
  rw [finish_atR_inRangeFunc] at hleft
  have e1 : ({ rec with state := .exhausted, pending := p } : Loop) = { rec with state := .exhausted } := by rw [← r3]
  rw [e1] at hev
  have evAll := (ev.trans q2).trans hev
  have hld : ρ' σ.next = ⟨w.heap.size, 0, 0⟩ := by
    rw [q2.ext _ (by simp; omega), ← hρ2, upd_lt _ _ (by simp), upd_same]
  have hFm : FrRel ρ' (f.mark σ.next) (σ'.set (σ.next + 1) (.loop .exhausted p K' nt' fl ps' as' bd')).next { a with defers := [{ target := .collected w.heap.size, args := #[] }] ++ a.defers } := by
    have hF' := hF.evo evAll.ext evAll.next
    refine ⟨hF'.slot, hF'.sc, ?_, fun i hi => ?_⟩
    · show _ ++ a.defers = _
      rw [hF'.defers]
      simp [hld]
    · rcases List.mem_cons.1 hi with rfl | hi
      · have := q2.next; simp at this ⊢; omega
      · exact hF'.dsc i hi
  have hfin := q6 ρ' _ _ cs evAll.rel hFm hn
  have hs0 : Steps M.P (lone ((base K).at a (.code (.rangeFunc g ps as bd) :: k)) cs w) (lone ((base K).at { a with defers := [{ target := .collected w.heap.size, args := #[] }] ++ a.defers } ((p.map Item.code).toList ++ k)) cs (w3.putObj (w.heap.size + 1) (.loop { rec with state := .exhausted }))) := by
    rw [← r3]
    rw [← Frame.atR_of_none (b := base K) rfl, ← Frame.atR_of_none (b := base K) rfl]
    exact (Steps.one henter).trans (Steps.trans hcomes ((Steps.one hleft).trans (Steps.one hback)))
  exact .of_steps hs0 (hfin.mono fun v w₂ => Lift.evo evAll)

/-- The blocks of deferred calls are shut. -/
def shut (σ : St) : List Nat → St
  | [] => σ
  | d :: r => shut (σ.set d .dead) r

theorem shut_steps (P : Program) {ρ : Nat → Loc} {cs : List Frame} : ∀ (df : List Nat) (σ : St) (w : World) (fr : Frame), Rel ρ σ w → fr.mode = .returning → fr.defers = df.map (fun i => { target := .collected (ρ i).b, args := #[] }) → df.Nodup → (∀ d ∈ df, σ.get d = .dfr) →
    ∃ w', Steps P (lone fr cs w) (lone { fr with defers := [] } cs w') ∧ Evo ρ σ w ρ (shut σ df) w'
  | [], σ, w, fr, hR, hm, hd, _, _ => by
    have e : ({ fr with defers := [] } : Frame) = fr := by cases fr; simp at hd; simp [hd]
    exact ⟨w, by rw [e]; exact .refl _ _, Evo.refl hR⟩
  | d :: df, σ, w, fr, hR, hm, hd, hnd, hg => by
    obtain ⟨hd1, hd2⟩ := List.nodup_cons.1 hnd
    have hb := hR.blk d
    rw [hg d (by simp)] at hb
    obtain ⟨h0, h1⟩ := hb
    have hlt := heap_lt h1
    have hs := step_collected (P := P) (fr := fr) (cs := cs) (by rw [hm]; simp) hd rfl (run_takeDeferred h1)
    have hev : Evo ρ σ w ρ (σ.set d .dead) (w.putObj (ρ d).b (.deferred none)) := Evo.write hR (by rw [hg d (by simp)]; rfl) ⟨by simp, rfl, rfl, rfl, fun j hj => World.putObj_heap_other hj⟩ trivial trivial
    obtain ⟨w', h2, h3⟩ := shut_steps P df (σ.set d .dead) _ { fr with defers := [] ++ df.map (fun i => { target := .collected (ρ i).b, args := #[] }) } hev.rel hm rfl hd2 (fun x hx => by
      rw [St.get_set_ne]
      · exact hg x (by simp [hx])
      · intro e; subst e; exact hd1 hx)
    exact ⟨w', (Steps.one hs).trans h2, hev.trans h3⟩

theorem VM.outD {fn : Func} {v : Value} {st : ∀ (a : Act) (cs : List Frame) (w : World), ∃ todo, Go.step M.P (lone ((base K).at a k) cs w) = Stepped.next (lone { (base K).at a todo with mode := .returning } cs w)} (hnd : f.df.Nodup) (hdf : ∀ d ∈ f.df, σ.get d = .dfr) (hf : M.P.funcs[K]? = some fn)
    (hv : resQ M.toEnv f (shut σ f.df) fn.results.toList = some v) (h : R v (shut σ f.df)) : VM M K nt k f σ R := by
  intro ρ w a cs hR hF hn
  obtain ⟨todo, hst⟩ := st a cs w
  obtain ⟨w', h1, h2⟩ := shut_steps M.P (cs := cs) f.df σ w { (base K).at a todo with mode := .returning } hR rfl hF.defers hnd hdf
  obtain ⟨h3, h4⟩ := resQ_sound M.toEnv h2.rel (hF.evo h2.ext h2.next) hv
  exact ⟨ren ρ v, w', _, ⟨v, _, ρ, rfl, h2, h4, h⟩, (Steps.one hst).trans h1, rfl, rfl, rfl, rfl, fn, hf, h3⟩

theorem VM.retD {fn : Func} {v : Value} (hnd : f.df.Nodup) (hdf : ∀ d ∈ f.df, σ.get d = .dfr) (hf : M.P.funcs[K]? = some fn) (hv : resQ M.toEnv f (shut σ f.df) fn.results.toList = some v) (h : R v (shut σ f.df)) : VM M K nt (.code .ret :: k) f σ R :=
  VM.outD (st := fun a cs w => ⟨_, step_ret⟩) hnd hdf hf hv h

theorem VM.doneD {fn : Func} {v : Value} (hnd : f.df.Nodup) (hdf : ∀ d ∈ f.df, σ.get d = .dfr) (hf : M.P.funcs[K]? = some fn) (hv : resQ M.toEnv f (shut σ f.df) fn.results.toList = some v) (h : R v (shut σ f.df)) : VM M K nt [] f σ R :=
  VM.outD (st := fun a cs w => ⟨_, step_end⟩) hnd hdf hf hv h
end
end
end AH
end

section
/-
  AH 27: the evaluator, with ranges over functions.
-/
set_option linter.unusedSimpArgs false
set_option linter.unusedVariables false
set_option linter.unusedSectionVars false
namespace AH
open Go
noncomputable section

abbrev RoundF := Nat → List Value → St → Option (Value × St)

/-- A call of a loop's yield? -/
def yieldQ (f : Fr) (op : Op) : Option (Nat × List Value) :=
  match op with
  | .call c => (match c.callee with
    | .value x => (match opd f x with
      | some (.func (.yield li) first cap) => (match first.toList, cap.toList, opds f c.args.toList with
        | [], [], some vs => some (li, vs)
        | _, _, _ => none)
      | _ => none)
    | _ => none)
  | _ => none

section
variable (M : EnvM) (call : CallF) (rnd : RoundF)

noncomputable def runOpsR (all : Array Oper) (l : List Oper) : Fr → St → Option (Fr × St) :=
  List.rec (motive := fun _ => Fr → St → Option (Fr × St)) (fun f σ => some (f, σ))
    (fun o _ ih f σ => match runOp M call all o f σ with
      | some (f', σ') => bif notDefer o.op then ih f' σ' else none
      | none => match wantedA all f o, yieldQ f o.op with
        | some true, some (li, vs) => (match rnd li vs σ with
          | some (v, σ') => ih (putF f o.dst v) σ'
          | none => none)
        | _, _ => none) l

/-- One thing to do in a round. -/
noncomputable def stepR (li nt : Nat) (rec : List Item → Fr → St → Option (Value × St)) (k : List Item) (f : Fr) (σ : St) : Option (Value × St) :=
  match k with
  | [] => (match σ.get li with
    | .loop .busy _ fn n' fl ps x y => some (.bool true, σ.set li (.loop .ready none fn n' fl ps x y))
    | _ => none)
  | .beginRound :: k => (match σ.get li with
    | .loop .ready p fn n' fl ps x y => rec k f (σ.set li (.loop .busy p fn n' fl ps x y))
    | _ => none)
  | .code c :: k =>
    (match c with
     | .skip => rec k f σ
     | .seq x y => rec (.code x :: .code y :: k) f σ
     | .block id c => rec (.code c :: .inBlock id :: k) f σ
     | .cond c x y => (match opd f c with
       | some (.bool t) => rec (.code (bif t then x else y) :: k) f σ
       | _ => none)
     | .exit id => (match exitTo id k with
       | some k' => rec k' f σ
       | none => (match σ.get li with
         | .loop .busy _ fn n' fl ps x y => some (.bool false, σ.set li (.loop .done (some (.exit id)) fn n' fl ps x y))
         | _ => none))
     | .ret => (match σ.get li with
       | .loop .busy _ fn n' fl ps x y => some (.bool false, σ.set li (.loop .done (some .ret) fn n' fl ps x y))
       | _ => none)
     | .region _ ops draw =>
       (bif draw then none
        else bif ops.toList.all (dstOk nt) && Nat.blt li σ.next then
         (match runOpsR M call (fun _ _ _ => none) ops ops.toList f σ with | some (f', σ') => rec k f' σ' | none => none)
        else none)
     | _ => none)
  | .inBlock _ :: k => rec k f σ
  | _ => none

noncomputable def runR (li nt : Nat) (n : Nat) : List Item → Fr → St → Option (Value × St) :=
  Nat.rec (motive := fun _ => List Item → Fr → St → Option (Value × St)) (fun _ _ _ => none) (fun _ ih => stepR M call li nt ih) n

noncomputable def roundF (steps : Nat) : RoundF := fun li vs σ =>
  match σ.get li with
  | .loop .ready p K' nt' fl ps as bd => bif Nat.beq vs.length ps.size && ps.toList.all (fun t => Nat.blt t nt') then runR M call li nt' steps [.code as, .beginRound, .code bd] (putAll ⟨fl, []⟩ ps.toList vs) σ else none
  | _ => none

def dfrB (σ : St) (d : Nat) : Bool := match σ.get d with | .dfr => true | _ => false

noncomputable def outK (fn : Func) (f : Fr) (σ : St) : Option (Value × St) :=
  match f.df with
  | [] => (match resQ M.toEnv f σ fn.results.toList with | some v => some (v, σ) | none => none)
  | df => bif nodupB df && df.all (dfrB σ) then (match resQ M.toEnv f (shut σ df) fn.results.toList with | some v => some (v, shut σ df) | none => none) else none

def calmB : LoopState → Bool
  | .busy => false
  | _ => true

noncomputable def stepK2 (steps : Nat) (K : FuncId) (fn : Func) (rec : List Item → Fr → St → Option (Value × St)) (k : List Item) (f : Fr) (σ : St) : Option (Value × St) :=
  match k with
  | [] => outK M fn f σ
  | .code c :: k =>
    (match c with
     | .skip => rec k f σ
     | .seq x y => rec (.code x :: .code y :: k) f σ
     | .block id c => rec (.code c :: .inBlock id :: k) f σ
     | .loop c => rec (.code c :: .inLoop c :: k) f σ
     | .cond c x y => (match opd f c with
       | some (.bool t) => rec (.code (bif t then x else y) :: k) f σ
       | _ => none)
     | .exit id => (match exitTo id k with | some k' => rec k' f σ | none => none)
     | .ret => outK M fn f σ
     | .region _ ops draw =>
       (bif draw then
         (match planOf fn.ntmps ops with
          | some p => (match runDraw M call ops p [] f σ with | some (f', σ') => rec k f' σ' | none => none)
          | none => none)
        else bif ops.toList.all (dstOk fn.ntmps) then
         (match runOpsR M call (roundF M call steps) ops ops.toList f σ with | some (f', σ') => rec k f' σ' | none => none)
        else none)
     | .rangeFunc g ps as bd => (match opd f g with
       | some (.func (.func h) first cap) =>
         (match call h (first.toList ++ [.func (.yield (σ.next + 1)) #[] #[]] ++ cap.toList) ((σ.push .dfr).push (.loop .ready none K fn.ntmps f.tr ps as bd)) with
          | some (_, σ') => (match σ'.get (σ.next + 1) with
            | .loop st p K' nt' fl ps' as' bd' => bif calmB st then rec ((match p with | some c => [.code c] | none => []) ++ k) (f.mark σ.next) (σ'.set (σ.next + 1) (.loop .exhausted p K' nt' fl ps' as' bd')) else none
            | _ => none)
          | none => none)
       | _ => none)
     | _ => none)
  | .inBlock _ :: k => rec k f σ
  | .inLoop c :: k => rec (.code c :: .inLoop c :: k) f σ
  | _ => none

noncomputable def runK2 (steps : Nat) (K : FuncId) (fn : Func) (n : Nat) : List Item → Fr → St → Option (Value × St) :=
  Nat.rec (motive := fun _ => List Item → Fr → St → Option (Value × St)) (fun _ _ _ => none) (fun _ ih => stepK2 M call steps K fn ih) n

noncomputable def bodyF2 (steps : Nat) (g : FuncId) (args : List Value) (σ : St) : Option (Value × St) :=
  match M.P.funcs.toList[g]? with
  | some fn => (match fn.body with
    | some c => bif (fn.name != "runtime.NumGoroutine") && Nat.ble args.length fn.ntmps then runK2 M call steps g fn steps [.code c] (initF 0 args .nil) σ else none
    | none => none)
  | none => none
end

noncomputable def ev2 (M : EnvM) (orc : CallF) (steps : Nat) (n : Nat) : CallF :=
  Nat.rec (motive := fun _ => CallF) (fun _ _ _ => none) (fun _ ih g args σ => match orc g args σ with | some r => some r | none => bodyF2 M ih steps g args σ) n

/-! ### Soundness -/

def RoundOk (M : EnvM) (rnd : RoundF) : Prop := ∀ li vs σ v σ', rnd li vs σ = some (v, σ') →
  ∃ p K' nt' fl ps as bd, σ.get li = .loop .ready p K' nt' fl ps as bd ∧ vs.length = ps.size ∧ ps.toList.all (fun t => Nat.blt t nt') = true ∧ VR M K' li nt' [.code as, .beginRound, .code bd] (putAll ⟨fl, []⟩ ps.toList vs) σ (fun r σ'' => r = v ∧ σ'' = σ')

theorem RoundOk.none (M : EnvM) : RoundOk M (fun _ _ _ => none) := fun li vs σ v σ' h => by cases h

section
variable {M : EnvM} {call : CallF} (hc : CallOk M call) {rnd : RoundF}
include hc

theorem runOp_sound {nt : Nat} {all : Array Oper} {o : Oper} {f : Fr} {σ : St} {f' : Fr} {σ' : St} {K : Fr → St → Prop} (ho : runOp M call all o f σ = some (f', σ')) (hK : K f' σ') : WL M nt all [o] f σ K := by
  have h : runOps M call all [o] f σ = some (f', σ') := by simp only [runOps, ho]
  exact runOps_sound hc h hK

theorem runOpsR_sound (hr : RoundOk M rnd) {nt : Nat} {all : Array Oper} {K : Fr → St → Prop} {rd : Option Nat} : ∀ {l : List Oper} {f : Fr} {σ : St} {f' : Fr} {σ' : St}, runOpsR M call rnd all l f σ = some (f', σ') → (∀ li, rd = some li → li < σ.next) → (∀ σ₁ σ₂ : St, σ₁.next ≤ σ₂.next → True) → K f' σ' → WR M rd nt all l f σ K
  | [], f, σ, f', σ', h, hrd, _, hK => by
    simp only [runOpsR, Option.some.injEq, Prod.mk.injEq] at h
    obtain ⟨rfl, rfl⟩ := h
    exact WR.nil hK
  | o :: r, f, σ, f', σ', h, hrd, hx, hK => by
    have h' : (match runOp M call all o f σ with
      | some (f₁, σ₁) => bif notDefer o.op then runOpsR M call rnd all r f₁ σ₁ else none
      | none => match wantedA all f o, yieldQ f o.op with
        | some true, some (li, vs) => (match rnd li vs σ with
          | some (v, σ₁) => runOpsR M call rnd all r (putF f o.dst v) σ₁
          | none => none)
        | _, _ => none) = some (f', σ') := h
    clear h
    split at h'
    · rename_i f₁ σ₁ ho
      cases hnd : notDefer o.op with
      | false => simp [hnd] at h'
      | true =>
        simp only [hnd, cond_true] at h'
        -- what the next number is, behind the operation
        refine WR.op hnd hrd ?_
        have hmono : WL M nt all [o] f σ (fun f'' σ'' => (f'' = f₁ ∧ σ'' = σ₁)) := runOp_sound hc ho ⟨rfl, rfl⟩
        intro hd ρ w a hR hF hn
        refine wpList_mono (fun e a' w' ⟨he, ρ', σ'', f'', hev, hF', hn', hk⟩ => ⟨he, ρ', σ'', f'', hev, hF', hn', ?_⟩) _ _ _ (hmono hd ρ w a hR hF hn)
        obtain ⟨rfl, rfl⟩ := hk
        exact runOpsR_sound hr h' (fun li hli => Nat.lt_of_lt_of_le (hrd li hli) hev.next) hx hK
    · split at h'
      · rename_i li vs hw hy
        split at h'
        · rename_i v σ₁ hrn
          obtain ⟨p, K', nt', fl, ps, as, bd, g1, g2, g3, g4⟩ := hr _ _ _ _ _ hrn
          unfold yieldQ at hy
          split at hy
          · rename_i c hop
            split at hy
            · rename_i x hcal
              split at hy
              · rename_i li' first cap hx'
                split at hy
                · rename_i e1 e2 e3
                  simp only [Option.some.injEq, Prod.mk.injEq] at hy
                  obtain ⟨rfl, rfl⟩ := hy
                  have ef : first = #[] := by apply Array.ext'; simpa using e1
                  have ec : cap = #[] := by apply Array.ext'; simpa using e2
                  subst ef; subst ec
                  refine WR.yield hrd hop hcal hw hx' e3 g1 g2 g3 (VR.mono g4 fun r' σ'' hle ⟨h1, h2⟩ => ?_)
                  subst h1; subst h2
                  exact runOpsR_sound hr h' (fun li hli => Nat.lt_of_lt_of_le (hrd li hli) hle) hx hK
                · cases hy
              · cases hy
            · cases hy
          · cases hy
        · cases h'
      · cases h'

theorem runR_sound {K li nt : Nat} : ∀ {n : Nat} {k : List Item} {f : Fr} {σ : St} {r : Value} {σ' : St}, runR M call li nt n k f σ = some (r, σ') → VR M K li nt k f σ (fun r' σ'' => r' = r ∧ σ'' = σ')
  | 0, k, f, σ, r, σ', h => by simp [runR] at h
  | n + 1, k, f, σ, r, σ', h => by
    have h' : stepR M call li nt (runR M call li nt n) k f σ = some (r, σ') := h
    clear h
    unfold stepR at h'
    split at h'
    · split at h'
      · rename_i p fn n' fl ps x y hl
        simp only [Option.some.injEq, Prod.mk.injEq] at h'
        obtain ⟨rfl, rfl⟩ := h'
        exact VR.done hl ⟨rfl, rfl⟩
      · cases h'
    · split at h'
      · rename_i p fn n' fl ps x y hl
        exact VR.begin hl (runR_sound h')
      · cases h'
    · split at h'
      · exact VR.skip (runR_sound h')
      · exact VR.seq (runR_sound h')
      · exact VR.block (runR_sound h')
      · split at h'
        · rename_i t hcond
          exact VR.cond hcond (runR_sound h')
        · cases h'
      · split at h'
        · rename_i k' hx
          exact VR.exit hx (runR_sound h')
        · rename_i hx
          split at h'
          · rename_i p fn n' fl ps x y hl
            simp only [Option.some.injEq, Prod.mk.injEq] at h'
            obtain ⟨rfl, rfl⟩ := h'
            exact VR.exitOut hx hl ⟨rfl, rfl⟩
          · cases h'
      · split at h'
        · rename_i p fn n' fl ps x y hl
          simp only [Option.some.injEq, Prod.mk.injEq] at h'
          obtain ⟨rfl, rfl⟩ := h'
          exact VR.ret hl ⟨rfl, rfl⟩
        · cases h'
      · rename_i id ops draw
        cases draw with
        | true => simp at h'
        | false =>
          simp only [cond_false] at h'
          cases hb : (ops.toList.all (dstOk nt) && Nat.blt li σ.next) with
          | false => simp only [hb, cond_false] at h'; cases h'
          | true =>
            simp only [hb, cond_true] at h'
            simp only [Bool.and_eq_true, Nat.blt_eq] at hb
            split at h'
            · rename_i f₁ σ₁ hrun
              exact VR.region hb.2 hb.1 (runOpsR_sound hc (RoundOk.none M) hrun (fun l hl => by cases hl; exact hb.2) (fun _ _ _ => trivial) (runR_sound h'))
            · cases h'
      · cases h'
    · exact VR.inBlock (runR_sound h')
    · cases h'

theorem roundF_sound (steps : Nat) : RoundOk M (roundF M call steps) := fun li vs σ v σ' h => by
  unfold roundF at h
  split at h
  · rename_i p K' nt' fl ps as bd hl
    cases hb : (Nat.beq vs.length ps.size && ps.toList.all (fun t => Nat.blt t nt')) with
    | false => simp only [hb, cond_false] at h; cases h
    | true =>
      simp only [hb, cond_true] at h
      simp only [Bool.and_eq_true, Nat.beq_eq] at hb
      exact ⟨p, K', nt', fl, ps, as, bd, hl, hb.1, hb.2, runR_sound hc h⟩
  · cases h

theorem dfrB_sound {σ : St} {d : Nat} (h : dfrB σ d = true) : σ.get d = .dfr := by
  unfold dfrB at h
  split at h
  · assumption
  · cases h

theorem outK_sound {K : FuncId} {fn : Func} (hf : M.P.funcs[K]? = some fn) {nt : Nat} {k : List Item} {f : Fr} {σ : St} {r : Value} {σ' : St} (h : outK M fn f σ = some (r, σ')) (st : ∀ (a : Act) (cs : List Frame) (w : World), ∃ todo, Go.step M.P (lone ((base K).at a k) cs w) = Stepped.next (lone { (base K).at a todo with mode := .returning } cs w)) :
    VM M K nt k f σ (fun r' σ'' => r' = r ∧ σ'' = σ') := by
  unfold outK at h
  split at h
  · rename_i hdf
    split at h
    · rename_i v hv
      simp only [Option.some.injEq, Prod.mk.injEq] at h
      obtain ⟨rfl, rfl⟩ := h
      refine VM.outD (st := st) (by rw [hdf]; exact List.nodup_nil) (by rw [hdf]; intro d hd; simp at hd) hf (by rw [hdf]; exact hv) ?_
      rw [hdf]; exact ⟨rfl, rfl⟩
    · cases h
  · rename_i hne
    cases hb : (nodupB f.df && f.df.all (dfrB σ)) with
    | false => simp only [hb, cond_false] at h; cases h
    | true =>
      simp only [hb, cond_true] at h
      simp only [Bool.and_eq_true, List.all_eq_true] at hb
      split at h
      · rename_i v hv
        simp only [Option.some.injEq, Prod.mk.injEq] at h
        obtain ⟨rfl, rfl⟩ := h
        exact VM.outD (st := st) (nodupB_spec hb.1) (fun d hd => dfrB_sound hc (hb.2 d hd)) hf hv ⟨rfl, rfl⟩
      · cases h

theorem runK2_sound {steps : Nat} {K : FuncId} {fn : Func} (hf : M.P.funcs[K]? = some fn) : ∀ {n : Nat} {k : List Item} {f : Fr} {σ : St} {r : Value} {σ' : St}, runK2 M call steps K fn n k f σ = some (r, σ') → VM M K fn.ntmps k f σ (fun r' σ'' => r' = r ∧ σ'' = σ')
  | 0, k, f, σ, r, σ', h => by simp [runK2] at h
  | n + 1, k, f, σ, r, σ', h => by
    have h' : stepK2 M call steps K fn (runK2 M call steps K fn n) k f σ = some (r, σ') := h
    clear h
    unfold stepK2 at h'
    split at h'
    · exact outK_sound hc hf h' (fun a cs w => ⟨_, step_end⟩)
    · split at h'
      · exact VM.skip (runK2_sound hf h')
      · exact VM.seq (runK2_sound hf h')
      · exact VM.block (runK2_sound hf h')
      · exact VM.loop1 (runK2_sound hf h')
      · split at h'
        · rename_i t hcond
          exact VM.cond hcond (runK2_sound hf h')
        · cases h'
      · split at h'
        · rename_i k' hx
          exact VM.exit hx (runK2_sound hf h')
        · cases h'
      · exact outK_sound hc hf h' (fun a cs w => ⟨_, step_ret⟩)
      · rename_i id ops draw
        cases draw with
        | true =>
          simp only [cond_true] at h'
          split at h'
          · rename_i p hp
            split at h'
            · rename_i f₁ σ₁ hrun
              have hgood : planGood fn.ntmps ops p = true := by
                unfold planOf at hp
                split at hp
                · rename_i p' _
                  cases hb : planGood fn.ntmps ops p' with
                  | false => simp [hb] at hp
                  | true => simp only [hb, cond_true, Option.some.injEq] at hp; subst hp; exact hb
                · cases hp
              exact VM.draw p hgood (runDraw_sound hc hrun (runK2_sound hf h'))
            · cases h'
          · cases h'
        | false =>
          simp only [cond_false] at h'
          cases hb : ops.toList.all (dstOk fn.ntmps) with
          | false => simp [hb] at h'
          | true =>
            simp only [hb, cond_true] at h'
            split at h'
            · rename_i f₁ σ₁ hrun
              exact VM.regionR hb (runOpsR_sound hc (roundF_sound hc steps) hrun (fun l hl => by cases hl) (fun _ _ _ => trivial) (runK2_sound hf h'))
            · cases h'
      · rename_i g ps as bd
        split at h'
        · rename_i h0 first cap hg
          split at h'
          · rename_i v₀ σ₁ hcall
            split at h'
            · rename_i st p K' nt' fl ps' as' bd' hl
              cases hb : calmB st with
              | false => simp [hb] at h'
              | true =>
                simp only [hb, cond_true] at h'
                refine VM.rangeFunc hg ((hc _ _ _ _ _ hcall).mono fun r' σ'' _ ⟨e1, e2⟩ => ?_)
                subst e1; subst e2
                refine ⟨st, p, K', nt', fl, ps', as', bd', hl, fun e => by subst e; simp [calmB] at hb, ?_⟩
                cases p with
                | none => exact runK2_sound hf h'
                | some c => exact runK2_sound hf h'
            · cases h'
          · cases h'
        · cases h'
      · cases h'
    · exact VM.inBlock (runK2_sound hf h')
    · exact VM.inLoop (runK2_sound hf h')
    · cases h'

theorem bodyF2_sound {steps : Nat} {g : FuncId} {args : List Value} {σ : St} {r : Value} {σ' : St} (h : bodyF2 M call steps g args σ = some (r, σ')) : WF M.toEnv g args σ (fun r' σ'' => r' = r ∧ σ'' = σ') := by
  unfold bodyF2 at h
  split at h
  · rename_i fn hf
    have hf' : M.P.funcs[g]? = some fn := by rw [← hf]; simp
    split at h
    · rename_i c hb
      cases hq : ((fn.name != "runtime.NumGoroutine") && Nat.ble args.length fn.ntmps) with
      | false => simp [hq] at h
      | true =>
        simp only [hq, cond_true] at h
        simp only [Bool.and_eq_true, bne, Bool.not_eq_true', Nat.ble_eq] at hq
        exact WF.of_VM hf' hq.1 hb hq.2 (runK2_sound hc hf' h)
    · cases h
  · cases h

end

theorem ev2_sound {M : EnvM} {orc : CallF} (ho : CallOk M orc) (steps : Nat) : ∀ n, CallOk M (ev2 M orc steps n)
  | 0 => fun g args σ r σ' h => by simp [ev2] at h
  | n + 1 => fun g args σ r σ' h => by
    have h' : (match orc g args σ with | some r => some r | none => bodyF2 M (ev2 M orc steps n) steps g args σ) = some (r, σ') := h
    split at h'
    · rename_i rr hr
      simp only [Option.some.injEq] at h'
      subst h'
      exact ho g args σ r σ' hr
    · exact bodyF2_sound (ev2_sound ho steps n) h'

end
end AH
end

section
/-
  AH 28: helps for symbolic runs: loads and stores of known blocks; what is forgotten at a return; iterators.
-/
set_option linter.unusedSimpArgs false
set_option linter.unusedVariables false
set_option linter.unusedSectionVars false
namespace AH
open Go
noncomputable section

/-- A call that leaves what was known as it was may forget what it has made. -/
theorem WF.gc {E : Env} {K : FuncId} {args : List Value} {σ : St} {R : Value → Prop} (h : WF E K args σ (fun r σ' => (R r ∧ Sc σ.next r) ∧ ∀ i, i < σ.next → σ'.get i = σ.get i)) : WF E K args σ (fun r σ' => R r ∧ σ' = σ) := by
  refine ⟨h.1, fun ρ w hR hs => (h.2 ρ w hR hs).mono fun e w' ⟨v, he, r, σ', ρ', h1, h2, h3, ⟨h4, h5⟩, h6⟩ => ?_⟩
  have hdead : ∀ i, ¬ i < σ.next → (σ.get i).live = false := fun i hi => by
    cases hl : (σ.get i).live with
    | false => rfl
    | true => exact absurd (hR.lt i hl) hi
  have hwr : ∀ i, (σ.get i).wr = true → i < σ.next := fun i hi => hR.lt i (Blk.live_of_wr hi)
  refine ⟨v, he, r, σ, ρ', h1, ⟨⟨fun i => ?_, hR.sc, hR.lt, fun i j hij hi hj => ?_⟩, h2.ext, Nat.le_refl _, h2.size, h2.os, h2.tape, h2.output, fun i hi => .inl ⟨i, hi, by rw [h2.ext i (hwr i hi)]⟩, h2.fra, fun i hi => .inl ⟨i, hi, by rw [h2.ext i (hR.lt i hi)]⟩⟩, h5, h4, rfl⟩
  · by_cases hi : i < σ.next
    · have := h2.rel.blk i
      rw [h6 i hi] at this
      exact this
    · have := hdead i hi
      cases hb : σ.get i <;> rw [hb] at this <;> simp only [Blk.live, reduceCtorEq] at this
      · rename_i cs
        cases cs with
        | nil => exact ⟨fun h => absurd rfl h, fun k v hk => by simp at hk⟩
        | cons c cs => simp [Blk.live] at this
      · trivial
  · have h7 := hwr i hi
    have h8 := hR.lt j hj
    exact h2.rel.inj i j hij (by rw [h6 i h7]; exact hi) (by rw [h6 j h8]; exact hj)

section
variable {E : Env} {f : Fr} {σ : St}

theorem opQ_load {t : Nat} {x : Operand} {ad : Addr} {i : TyI} {v : Value} (hx : opd f x = some (.pointer (some ad))) (ht : E.ty t = some i) (hl : ldVar i σ ad = some v) : opQ E f σ (.load t x) = some v := by
  simp only [opQ, hx, ht, hl]

theorem opW_store {t : Nat} {a x : Operand} {ad : Addr} {v : Value} {i : TyI} {σ' : St} (ha : opd f a = some (.pointer (some ad))) (hx : opd f x = some v) (ht : E.ty t = some i) (hn : v.cells.toList.length = i.size) (hs : stCells σ ad v.cells.toList = some σ') : opW E f σ (.store t a x) = some (none, σ') := by
  simp only [opW, ha, hx, ht, hn, hs, if_true]
end

/-! ### A map's iterator -/

/-- The stamps of a map's entries: each once, all below n. -/
def Stamped (es : List MapEntry) (n : Nat) : Prop := (es.map (·.born)).Nodup ∧ ∀ e ∈ es, e.born < n

theorem cands_old {es : List MapEntry} {since : Nat} (h : Stamped es since) {vis : List MapEntry} (hv : ∀ e ∈ vis, e ∈ es) {c : Option MapEntry} (hc : c ∈ cands es since (vis.map (·.born))) :
    (c = none ∧ ∀ e ∈ es, e ∈ vis) ∨ ∃ e, c = some e ∧ e ∈ es ∧ e ∉ vis := by
  have hinj : ∀ a ∈ es, ∀ b ∈ es, a.born = b.born → a = b := fun a ha b hb hab => by
    have h1 := h.1
    clear hc hv h
    induction es with
    | nil => simp at ha
    | cons x r ih =>
      simp only [List.map_cons, List.nodup_cons, List.mem_map, not_exists, not_and] at h1
      rcases List.mem_cons.1 ha with ea | ha'
      · rcases List.mem_cons.1 hb with eb | hb'
        · rw [ea, eb]
        · exact absurd (ea ▸ hab.symm) (h1.1 b hb')
      · rcases List.mem_cons.1 hb with eb | hb'
        · exact absurd (eb ▸ hab) (h1.1 a ha')
        · exact ih ha' hb' h1.2
  have hmem : ∀ e ∈ es, (vis.map (·.born)).contains e.born = true ↔ e ∈ vis := fun e he => by
    rw [List.contains_iff_mem, List.mem_map]
    exact ⟨fun ⟨u, hu, hb⟩ => hinj u (hv u hu) e he hb ▸ hu, fun hv => ⟨e, hv, rfl⟩⟩
  unfold cands at hc
  simp only [List.mem_append, List.mem_map] at hc
  rcases hc with hc | ⟨e, hc, rfl⟩
  · split at hc
    · rename_i hemp
      simp only [List.mem_singleton] at hc
      refine .inl ⟨hc, fun e he => ?_⟩
      by_cases hin : e ∈ vis
      · exact hin
      · exfalso
        have : e ∈ (es.filter fun e => !(vis.map (·.born)).contains e.born).filter fun e => decide (e.born < since) := by
          rw [List.mem_filter, List.mem_filter]
          refine ⟨⟨he, ?_⟩, by simpa using h.2 e he⟩
          cases hq : (vis.map (·.born)).contains e.born with
          | false => rfl
          | true => exact absurd ((hmem e he).1 hq) hin
        rw [List.isEmpty_iff.1 hemp] at this
        simp at this
    · simp at hc
  · refine .inr ⟨e, rfl, ?_⟩
    have : e ∈ es.filter fun e => !(vis.map (·.born)).contains e.born := by
      rcases hc with hc | hc <;> exact (List.mem_filter.1 hc).1
    obtain ⟨h1, h2⟩ := List.mem_filter.1 this
    refine ⟨h1, fun hin => ?_⟩
    rw [(hmem e h1).2 hin] at h2
    simp at h2

/-- The iterator's word on a map that does not turn. -/
theorem not_cleared {es : List MapEntry} {n : Nat} (h : Stamped es n) {seen : List Nat} : (!seen.isEmpty && !es.isEmpty && es.all (fun e => decide (e.born ≥ n))) = false := by
  cases es with
  | nil => simp
  | cons e r =>
    have := h.2 e (by simp)
    have h2 : decide (e.born ≥ n) = false := by simp; omega
    simp [h2]

theorem entry_last {es : List MapEntry} {n : Nat} (h : Stamped es n) {e : MapEntry} (he : e ∈ es) : es.find? (fun x => x.born == e.born) = some e := by
  have h1 := h.1
  clear h
  induction es with
  | nil => simp at he
  | cons x r ih =>
    simp only [List.map_cons, List.nodup_cons, List.mem_map, not_exists, not_and] at h1
    rcases List.mem_cons.1 he with rfl | he
    · simp
    · have : (x.born == e.born) = false := by simpa using fun hh => h1.1 e he hh.symm
      rw [List.find?_cons, this]
      exact ih he h1.2

theorem perm_of_all {vis es : List MapEntry} (h1 : vis.Nodup) (h2 : es.Nodup) (h3 : ∀ e ∈ vis, e ∈ es) (h4 : ∀ e ∈ es, e ∈ vis) : vis.Perm es :=
  (List.perm_ext_iff_of_nodup h1 h2).2 fun e => ⟨h3 e, h4 e⟩

theorem nodup_of_map {α β : Type} (f : α → β) : ∀ {l : List α}, (l.map f).Nodup → l.Nodup
  | [], _ => List.nodup_nil
  | x :: r, h => by
    simp only [List.map_cons, List.nodup_cons, List.mem_map, not_exists, not_and] at h
    exact List.nodup_cons.2 ⟨fun hx => h.1 x hx rfl, nodup_of_map f h.2⟩

theorem Stamped.nodup {es : List MapEntry} {n : Nat} (h : Stamped es n) : es.Nodup := nodup_of_map _ h.1

end
end AH
end

section
/-
  AH 29: a contract over a small state holds in a greater one.
-/
set_option linter.unusedSimpArgs false
set_option linter.unusedVariables false
set_option linter.unusedSectionVars false
namespace AH
open Go
noncomputable section

/-- Blocks under other numbers. -/
def loc (π : Nat → Nat) : Nat → Loc := fun i => ⟨π i, 0, unk⟩

theorem renC_unk (C c : Nat) : renC C (renC unk c) = renC C c := by
  unfold renC
  by_cases h : c < half
  · rw [if_pos h, if_pos h]
  · simp only [if_neg h]
    by_cases h2 : unk - (unk - c) < half
    · exfalso; unfold unk half at *; omega
    · simp only [if_neg h2]
      have : unk - (unk - (unk - c)) = unk - c := by unfold unk; omega
      rw [this]

theorem ren_comp (ρ : Nat → Loc) (π : Nat → Nat) : ∀ v : Value, ren ρ (ren (loc π) v) = ren (fun i => ρ (π i)) v
  | .pointer none => by simp
  | .pointer (some a) => by simp [renA, loc]
  | .slice none n c => by simp
  | .slice (some a) n c => by simp [renA, loc, renC_unk]
  | .map none => by simp
  | .map (some r) => by simp [loc]
  | .func fn x y => by
    simp only [ren_func, Value.func.injEq]
    refine ⟨by cases fn <;> simp [renFn, loc], ?_, ?_⟩
    · rw [Array.map_map]
      apply Array.map_congr_left
      intro v hv
      exact ren_comp ρ π v
    · rw [Array.map_map]
      apply Array.map_congr_left
      intro v hv
      exact ren_comp ρ π v
  | .iface t v => by simp only [ren_iface]; rw [ren_comp ρ π v]
  | .agg cs => by
    simp only [ren_agg, Value.agg.injEq]
    rw [Array.map_map]
    apply Array.map_congr_left
    intro v hv
    exact ren_comp ρ π v
  | .tuple cs => by
    simp only [ren_tuple, Value.tuple.injEq]
    rw [Array.map_map]
    apply Array.map_congr_left
    intro v hv
    exact ren_comp ρ π v
  | .bool b => by simp
  | .int k n => by simp
  | .string s => by simp
  | .nilFunc => by simp
  | .nilIface => by simp
  | .float k b => by simp
  | .complex k b c => by simp
  | .chan r => by simp

def Tr.map {α : Type} (g : α → α) : Tr α → Tr α
  | .leaf => .leaf
  | .node l v r => .node (l.map g) (v.map g) (r.map g)

theorem Tr.get_map {α : Type} (g : α → α) : ∀ (t : Tr α) (k : Nat), (t.map g).get k = (t.get k).map g
  | .leaf, k => rfl
  | .node l v r, k => by
    simp only [Tr.map, Tr.get_node]
    by_cases h0 : k = 0
    · rw [if_pos h0, if_pos h0]
    · rw [if_neg h0, if_neg h0]
      by_cases h1 : k % 2 = 1
      · rw [if_pos h1, if_pos h1]; exact Tr.get_map g l _
      · rw [if_neg h1, if_neg h1]; exact Tr.get_map g r _

def renB (ρ : Nat → Loc) : Blk → Blk
  | .cells e cs => .cells e (cs.map (ren ρ))
  | .row e sz cs => .row e sz (cs.map (ren ρ))
  | .ro cs => .ro (cs.map (ren ρ))
  | .map es c => .map (es.map (renE ρ)) c
  | .miter m since seen st => .miter (m.map fun i => (ρ i).b) since seen st
  | .siter s p => .siter s p
  | .loop st p fn nt f ps x y => .loop st p fn nt (f.map (ren ρ)) ps x y
  | .dfr => .dfr
  | .dead => .dead

theorem renE_comp (ρ : Nat → Loc) (π : Nat → Nat) (e : MapEntry) : renE ρ (renE (loc π) e) = renE (fun i => ρ (π i)) e := by
  simp [renE, ren_comp]

/-- What holds of a block under new numbers holds of it under the old ones; and the other way round. -/
theorem BlkRel.comp {ρ : Nat → Loc} {π : Nat → Nat} {l : Loc} {w : World} {b : Blk} : BlkRel ρ l w (renB (loc π) b) ↔ BlkRel (fun i => ρ (π i)) l w b := by
  cases b with
  | cells e cs => simp only [renB, BlkRel, List.map_map, List.length_map, Function.comp_def, ren_comp]
  | row e sz cs => simp only [renB, BlkRel, List.map_map, List.length_map, Function.comp_def, ren_comp]
  | ro cs =>
    simp only [renB, BlkRel]
    constructor
    · rintro ⟨h1, h2⟩
      refine ⟨fun h => h1 (by simpa using h), fun k v hk => ?_⟩
      rw [h2 k (ren (loc π) v) (by simp [hk]), ren_comp]
    · rintro ⟨h1, h2⟩
      refine ⟨fun h => h1 (by simpa using h), fun k v hk => ?_⟩
      simp only [List.getElem?_map, Option.map_eq_some_iff] at hk
      obtain ⟨u, hu, rfl⟩ := hk
      rw [h2 k u hu, ren_comp]
  | map es c => simp only [renB, BlkRel, List.map_map, Function.comp_def, renE_comp]
  | miter m a b c => simp only [renB, BlkRel, Option.map_map, Function.comp_def, loc]
  | siter s p => exact Iff.rfl
  | loop st p fn nt f ps x y =>
    simp only [renB, BlkRel]
    constructor
    · rintro ⟨h0, tmps, d, h1, h2, h3⟩
      refine ⟨h0, tmps, d, h1, fun t v hv => ?_, h3⟩
      rw [h2 t (ren (loc π) v) (by rw [Tr.get_map, hv]; rfl), ren_comp]
    · rintro ⟨h0, tmps, d, h1, h2, h3⟩
      refine ⟨h0, tmps, d, h1, fun t v hv => ?_, h3⟩
      rw [Tr.get_map, Option.map_eq_some_iff] at hv
      obtain ⟨u, hu, rfl⟩ := hv
      rw [h2 t u hu, ren_comp]
  | dfr => exact Iff.rfl
  | dead => exact Iff.rfl

theorem renB_wr {ρ : Nat → Loc} {b : Blk} : (renB ρ b).wr = b.wr := by cases b <;> rfl
theorem renB_live {ρ : Nat → Loc} {b : Blk} : (renB ρ b).live = b.live := by
  cases b with
  | ro cs => cases cs <;> simp [renB, Blk.live]
  | _ => rfl

theorem BlkRel.of_idle {ρ : Nat → Loc} {l : Loc} {w : World} {b : Blk} (h : b.live = false) : BlkRel ρ l w b := by
  cases b <;> simp only [Blk.live, reduceCtorEq] at h
  · rename_i cs
    cases cs with
    | nil => exact ⟨fun h => absurd rfl h, fun k v hk => by simp at hk⟩
    | cons c cs => simp at h
  · trivial
theorem Blk.sc_of_idle {n : Nat} {b : Blk} (h : b.live = false) : b.sc n := by
  cases b <;> simp only [Blk.live, reduceCtorEq] at h
  · rename_i cs
    cases cs with
    | nil => intro v hv; simp at hv
    | cons c cs => simp at h
  · trivial

/-- A small state in a greater one: block i of the small one is block π i of the greater one. -/
structure Small (π : Nat → Nat) (σ₀ σ : St) : Prop where
  lt : ∀ i, i < σ₀.next → π i < σ.next
  inj : ∀ i j, (σ₀.get i).live = true → (σ₀.get j).live = true → π i = π j → i = j
  get : ∀ i, (σ₀.get i).live = true → σ.get (π i) = renB (loc π) (σ₀.get i)
  sc : ∀ i, (σ₀.get i).sc σ₀.next
  out : ∀ i, (σ₀.get i).live = true → i < σ₀.next

theorem Small.rel {π : Nat → Nat} {σ₀ σ : St} (h : Small π σ₀ σ) {ρ : Nat → Loc} {w : World} (hR : Rel ρ σ w) : Rel (fun i => ρ (π i)) σ₀ w := by
  refine ⟨fun i => ?_, h.sc, h.out, fun i j hij hi hj => ?_⟩
  · cases hl : (σ₀.get i).live with
    | true =>
      have := hR.blk (π i)
      rw [h.get i hl] at this
      exact BlkRel.comp.1 this
    | false =>
      cases hb : σ₀.get i <;> rw [hb] at hl <;> simp only [Blk.live, reduceCtorEq] at hl
      · rename_i cs
        cases cs with
        | nil => exact ⟨fun h => absurd rfl h, fun k v hk => by simp at hk⟩
        | cons c cs => simp [Blk.live] at hl
      · trivial
  · have h1 := h.out i (Blk.live_of_wr hi)
    have h2 := h.out j hj
    exact hR.inj (π i) (π j) (fun e => hij (h.inj i j (Blk.live_of_wr hi) hj e)) (by rw [h.get i (Blk.live_of_wr hi), renB_wr]; exact hi) (by rw [h.get j hj, renB_live]; exact hj)

def exN (π : Nat → Nat) (n₀ n : Nat) : Nat → Nat := fun i => if i < n₀ then π i else n + (i - n₀)

theorem Sc_loc {π : Nat → Nat} {n n' : Nat} {v : Value} (h : Sc n v) (hp : ∀ i, i < n → π i < n') : Sc n' (ren (loc π) v) := fun ρ ρ' he => by
  rw [ren_comp, ren_comp]
  exact h _ _ fun i hi => he _ (hp i hi)

theorem renB_sc {π : Nat → Nat} {n n' : Nat} {b : Blk} (h : b.sc n) (hp : ∀ i, i < n → π i < n') : (renB (loc π) b).sc n' := by
  cases b with
  | cells e cs => intro v hv; obtain ⟨u, hu, rfl⟩ := List.mem_map.1 hv; exact Sc_loc (h u hu) hp
  | row e sz cs => intro v hv; obtain ⟨u, hu, rfl⟩ := List.mem_map.1 hv; exact Sc_loc (h u hu) hp
  | ro cs => intro v hv; obtain ⟨u, hu, rfl⟩ := List.mem_map.1 hv; exact Sc_loc (h u hu) hp
  | map es c => intro e he; obtain ⟨u, hu, rfl⟩ := List.mem_map.1 he; exact ⟨Sc_loc (h u hu).1 hp, Sc_loc (h u hu).2 hp⟩
  | miter m a b c => cases m with
    | none => trivial
    | some m => exact hp m h
  | siter s p => trivial
  | loop st p fn nt f ps x y =>
    intro t v hv
    rw [Tr.get_map, Option.map_eq_some_iff] at hv
    obtain ⟨u, hu, rfl⟩ := hv
    exact Sc_loc (h t u hu) hp
  | dfr => trivial
  | dead => trivial

/-- What the greater state is behind the call. -/
structure Big (π : Nat → Nat) (σ₀ σ σ₀' σ' : St) : Prop where
  next : σ'.next = σ.next + (σ₀'.next - σ₀.next)
  get : ∀ i, i < σ₀'.next → (σ₀.next ≤ i ∨ (σ₀.get i).live = true) → σ'.get (exN π σ₀.next σ.next i) = renB (loc (exN π σ₀.next σ.next)) (σ₀'.get i)
  old : ∀ j, j < σ.next → (∀ i, (σ₀.get i).live = true → π i ≠ j) → σ'.get j = σ.get j
  rest : ∀ j, σ'.next ≤ j → (σ'.get j).live = false

theorem WF.frame {E : Env} {K : FuncId} {args₀ : List Value} {σ₀ σ : St} {π : Nat → Nat} {R₀ R : Value → St → Prop} (hs : Small π σ₀ σ) (ha : Scs σ₀.next args₀) (h : WF E K args₀ σ₀ R₀)
    (hR : ∀ r σ₀', σ₀.next ≤ σ₀'.next → R₀ r σ₀' → ∃ σ', Big π σ₀ σ σ₀' σ' ∧ R (ren (loc (exN π σ₀.next σ.next)) r) σ') :
    WF E K (args₀.map (ren (loc π))) σ R := by
  refine ⟨h.1, fun ρ w hRel _ => ?_⟩
  have hargs : (args₀.map (ren (loc π))).map (ren ρ) = args₀.map (ren fun i => ρ (π i)) := by
    rw [List.map_map]
    exact List.map_congr_left fun v _ => ren_comp ρ π v
  rw [hargs]
  refine (h.2 _ w (hs.rel hRel) ha).mono fun e w' ⟨v, he, r₀, σ₀', ρ₀, h1, hev, h3, h4⟩ => ?_
  obtain ⟨σ', hB, hR'⟩ := hR r₀ σ₀' hev.next h4
  have hle := hev.next
  generalize hπ' : exN π σ₀.next σ.next = π' at *
  have hp1 : ∀ i, i < σ₀.next → π' i = π i := fun i hi => by rw [← hπ']; simp [exN, hi]
  have hp2 : ∀ i, ¬ i < σ₀.next → π' i = σ.next + (i - σ₀.next) := fun i hi => by rw [← hπ']; simp [exN, hi]
  have hplt : ∀ i, i < σ₀'.next → π' i < σ'.next := fun i hi => by
    rw [hB.next]
    by_cases h0 : i < σ₀.next
    · rw [hp1 i h0]; have := hs.lt i h0; omega
    · rw [hp2 i h0]; omega
  let ρ' : Nat → Loc := fun j => if j < σ.next then ρ j else ρ₀ (σ₀.next + (j - σ.next))
  have hρo : ∀ j, j < σ.next → ρ' j = ρ j := fun j hj => by simp [ρ', hj]
  have hρ : ∀ i, i < σ₀'.next → ρ' (π' i) = ρ₀ i := fun i hi => by
    by_cases h0 : i < σ₀.next
    · rw [hp1 i h0, hρo _ (hs.lt i h0), hev.ext i h0]
    · rw [hp2 i h0]
      simp only [ρ']
      rw [if_neg (by omega)]
      congr 1
      omega
  have hcase : ∀ j, (∃ i, (i < σ₀'.next ∧ (σ₀.next ≤ i ∨ (σ₀.get i).live = true)) ∧ π' i = j) ∨ (j < σ.next ∧ (∀ i, (σ₀.get i).live = true → π i ≠ j)) ∨ (σ'.get j).live = false := fun j => by
    by_cases hj : j < σ.next
    · by_cases hx : ∃ i, (σ₀.get i).live = true ∧ π i = j
      · obtain ⟨i, hi, e⟩ := hx
        have hin := hs.out i hi
        exact .inl ⟨i, ⟨by omega, .inr hi⟩, by rw [hp1 i hin]; exact e⟩
      · exact .inr (.inl ⟨hj, fun i hi e => hx ⟨i, hi, e⟩⟩)
    · by_cases hj' : j < σ'.next
      · refine .inl ⟨σ₀.next + (j - σ.next), ⟨by rw [hB.next] at hj'; omega, .inl (by omega)⟩, ?_⟩
        rw [hp2 _ (by omega)]; omega
      · exact .inr (.inr (hB.rest j (by omega)))
  have hwr0 : ∀ i, (σ₀.get i).wr = true → (σ.get (π i)).wr = true := fun i hi => by
    rw [hs.get i (Blk.live_of_wr hi), renB_wr]; exact hi
  have hli0 : ∀ i, (σ₀.get i).live = true → (σ.get (π i)).live = true := fun i hi => by
    rw [hs.get i hi, renB_live]; exact hi
  -- an old block that the small state does not know
  have hkeep : ∀ j, j < σ.next → (∀ i, (σ₀.get i).live = true → π i ≠ j) → (σ.get j).live = true → w'.heap[(ρ j).b]? = w.heap[(ρ j).b]? := fun j hj hno hl =>
    hev.fra _ (hRel.size hl) fun i hi => hRel.inj (π i) j (hno i (Blk.live_of_wr hi)) (hwr0 i hi) hl
  have hfar : ∀ j i, j < σ.next → (∀ i, (σ₀.get i).live = true → π i ≠ j) → (σ.get j).live = true → (σ₀'.get i).live = true → ((σ.get j).wr = true ∨ (σ₀'.get i).wr = true) → (ρ j).b ≠ (ρ₀ i).b := fun j i hj hno hl hl' hw => by
    have hsz := hRel.size hl
    rcases hw with hw | hw
    · rcases hev.liv i hl' with ⟨k, hk, e⟩ | hge
      · rw [← e]; exact hRel.inj j (π k) (fun e => hno k hk e.symm) hw (hli0 k hk)
      · omega
    · rcases hev.own i hw with ⟨k, hk, e⟩ | hge
      · rw [← e]; exact (hRel.inj (π k) j (hno k (Blk.live_of_wr hk)) (hwr0 k hk) hl).symm
      · omega
  have hgetI : ∀ i, (i < σ₀'.next ∧ (σ₀.next ≤ i ∨ (σ₀.get i).live = true)) → (σ'.get (π' i)) = renB (loc π') (σ₀'.get i) := fun i hi => by rw [← hπ']; exact hB.get i hi.1 hi.2
  have hrel' : Rel ρ' σ' w' := by
    refine ⟨fun j => ?_, fun j => ?_, fun j hj => ?_, fun j k hjk hj hk => ?_⟩
    · rcases hcase j with ⟨i, hi, rfl⟩ | ⟨hj, hno⟩ | hd
      · rw [hgetI i hi, hρ i hi.1, BlkRel.comp]
        exact (hev.rel.blk i).reno (hev.rel.sc i) fun k hk => (hρ k hk).symm
      · rw [hB.old j hj hno, hρo j hj]
        exact ((hRel.blk j).same (hkeep j hj hno) hev.size).reno (hRel.sc j) fun k hk => (hρo k hk).symm
      · exact BlkRel.of_idle hd
    · rcases hcase j with ⟨i, hi, rfl⟩ | ⟨hj, hno⟩ | hd
      · rw [hgetI i hi]; exact renB_sc (hev.rel.sc i) hplt
      · rw [hB.old j hj hno]; exact Blk.sc_mono (hRel.sc j) (by rw [hB.next]; omega)
      · exact Blk.sc_of_idle hd
    · rcases hcase j with ⟨i, hi, rfl⟩ | ⟨hj', hno⟩ | hd
      · exact hplt i hi.1
      · rw [hB.next]; omega
      · rw [hd] at hj; cases hj
    · rcases hcase j with ⟨i, hi, rfl⟩ | ⟨hj', hno⟩ | hd
      · rw [hgetI i hi, renB_wr] at hj
        rcases hcase k with ⟨m, hm, rfl⟩ | ⟨hk', hno'⟩ | hd'
        · rw [hgetI m hm, renB_live] at hk
          rw [hρ i hi.1, hρ m hm.1]
          exact hev.rel.inj i m (fun e => hjk (by rw [e])) hj hk
        · rw [hB.old k hk' hno'] at hk
          rw [hρ i hi.1, hρo k hk']
          exact (hfar k i hk' hno' hk (Blk.live_of_wr hj) (.inr hj)).symm
        · rw [hd'] at hk; cases hk
      · rw [hB.old j hj' hno] at hj
        rcases hcase k with ⟨m, hm, rfl⟩ | ⟨hk', hno'⟩ | hd'
        · rw [hgetI m hm, renB_live] at hk
          rw [hρ m hm.1, hρo j hj']
          exact hfar j m hj' hno (Blk.live_of_wr hj) hk (.inl hj)
        · rw [hB.old k hk' hno'] at hk
          rw [hρo j hj', hρo k hk']
          exact hRel.inj j k hjk hj hk
        · rw [hd'] at hk; cases hk
      · rw [Blk.live_of_wr hj] at hd; cases hd
  refine ⟨v, he, ren (loc π') r₀, σ', ρ', ?_, ⟨hrel', hρo, by rw [hB.next]; omega, hev.size, hev.os, hev.tape, hev.output, fun j hj => ?_, fun b hb hno => ?_, fun j hj => ?_⟩, Sc_loc h3 hplt, hR'⟩
  · rw [h1, ren_comp]
    exact h3 _ _ fun i hi => (hρ i hi).symm
  · rcases hcase j with ⟨i, hi, rfl⟩ | ⟨hj', hno⟩ | hd
    · rw [hgetI i hi, renB_wr] at hj
      rw [hρ i hi.1]
      rcases hev.own i hj with ⟨k, hk, e⟩ | hge
      · exact .inl ⟨π k, hwr0 k hk, e⟩
      · exact .inr hge
    · rw [hB.old j hj' hno] at hj
      exact .inl ⟨j, hj, by rw [hρo j hj']⟩
    · rw [Blk.live_of_wr hj] at hd; cases hd
  · exact hev.fra b hb fun i hi => hno (π i) (hwr0 i hi)
  · rcases hcase j with ⟨i, hi, rfl⟩ | ⟨hj', hno⟩ | hd
    · rw [hgetI i hi, renB_live] at hj
      rw [hρ i hi.1]
      rcases hev.liv i hj with ⟨k, hk, e⟩ | hge
      · exact .inl ⟨π k, hli0 k hk, e⟩
      · exact .inr hge
    · rw [hB.old j hj' hno] at hj
      exact .inl ⟨j, hj, by rw [hρo j hj']⟩
    · rw [hd] at hj; cases hj

end
end AH
end

section
/-
  AH 30: a function's run that may forget what it has made: judged against what was known at its beginning.
-/
set_option linter.unusedSimpArgs false
set_option linter.unusedVariables false
set_option linter.unusedSectionVars false
namespace AH
open Go
noncomputable section

/-- As Evo, but only numbers below nB go on meaning what they meant. -/
structure EvoB (nB : Nat) (ρ : Nat → Loc) (σ : St) (w : World) (ρ' : Nat → Loc) (σ' : St) (w' : World) : Prop where
  rel : Rel ρ' σ' w'
  ext : ∀ i, i < nB → ρ' i = ρ i
  next : nB ≤ σ'.next
  size : w.heap.size ≤ w'.heap.size
  os : w'.os = w.os
  tape : w'.tape = w.tape
  output : w'.output = w.output
  own : ∀ i, (σ'.get i).wr = true → (∃ j, (σ.get j).wr = true ∧ (ρ j).b = (ρ' i).b) ∨ w.heap.size ≤ (ρ' i).b
  fra : ∀ b, b < w.heap.size → (∀ i, (σ.get i).wr = true → (ρ i).b ≠ b) → w'.heap[b]? = w.heap[b]?
  liv : ∀ i, (σ'.get i).live = true → (∃ j, (σ.get j).live = true ∧ (ρ j).b = (ρ' i).b) ∨ w.heap.size ≤ (ρ' i).b

theorem Evo.toB {nB : Nat} {ρ ρ' : Nat → Loc} {σ σ' : St} {w w' : World} (h : Evo ρ σ w ρ' σ' w') (hn : nB ≤ σ.next) : EvoB nB ρ σ w ρ' σ' w' :=
  ⟨h.rel, fun i hi => h.ext i (Nat.lt_of_lt_of_le hi hn), Nat.le_trans hn h.next, h.size, h.os, h.tape, h.output, h.own, h.fra, h.liv⟩

theorem EvoB.toEvo {ρ ρ' : Nat → Loc} {σ σ' : St} {w w' : World} (h : EvoB σ.next ρ σ w ρ' σ' w') : Evo ρ σ w ρ' σ' w' :=
  ⟨h.rel, h.ext, h.next, h.size, h.os, h.tape, h.output, h.own, h.fra, h.liv⟩

theorem EvoB.trans {nB : Nat} {ρ ρ' ρ'' : Nat → Loc} {σ σ' σ'' : St} {w w' w'' : World} (h : EvoB nB ρ σ w ρ' σ' w') (k : EvoB nB ρ' σ' w' ρ'' σ'' w'') : EvoB nB ρ σ w ρ'' σ'' w'' := by
  refine ⟨k.rel, fun i hi => (k.ext i hi).trans (h.ext i hi), k.next, Nat.le_trans h.size k.size, k.os.trans h.os, k.tape.trans h.tape, k.output.trans h.output, fun i hi => ?_, fun b hb hi => ?_, fun i hi => ?_⟩
  · rcases k.own i hi with ⟨j, hj, e⟩ | hge
    · rcases h.own j hj with ⟨j', hj', e'⟩ | hge'
      · exact .inl ⟨j', hj', e'.trans e⟩
      · exact .inr (e ▸ hge')
    · exact .inr (Nat.le_trans h.size hge)
  · refine (k.fra b (Nat.lt_of_lt_of_le hb h.size) fun i hi' e => ?_).trans (h.fra b hb hi)
    rcases h.own i hi' with ⟨j, hj, e'⟩ | hge
    · exact hi j hj (e'.trans e)
    · omega
  · rcases k.liv i hi with ⟨j, hj, e⟩ | hge
    · rcases h.liv j hj with ⟨j', hj', e'⟩ | hge'
      · exact .inl ⟨j', hj', e'.trans e⟩
      · exact .inr (e ▸ hge')
    · exact .inr (Nat.le_trans h.size hge)

def LiftB (nB : Nat) (ρ : Nat → Loc) (σ : St) (w : World) (R : Value → St → Prop) (v : Value) (w' : World) : Prop :=
  ∃ r σ' ρ', v = ren ρ' r ∧ EvoB nB ρ σ w ρ' σ' w' ∧ Sc σ'.next r ∧ R r σ'

theorem LiftB.evo {nB : Nat} {ρ ρ' : Nat → Loc} {σ σ' : St} {w w' : World} {R : Value → St → Prop} {v : Value} {w₂ : World} (h : EvoB nB ρ σ w ρ' σ' w') (k : LiftB nB ρ' σ' w' R v w₂) : LiftB nB ρ σ w R v w₂ := by
  obtain ⟨r, σ₂, ρ₂, h1, h2, h3⟩ := k
  exact ⟨r, σ₂, ρ₂, h1, h.trans h2, h3⟩

/-- From these things to do on the call returns; what it leaves is told against the numbers below nB. -/
def VB (nB : Nat) (M : EnvM) (K : FuncId) (nt : Nat) (k : List Item) (f : Fr) (σ : St) (R : Value → St → Prop) : Prop :=
  nB ≤ σ.next → ∀ ρ w a cs, Rel ρ σ w → FrRel ρ f σ.next a → a.tmps.size = nt → Fin M.P (lone ((base K).at a k) cs w) K cs (LiftB nB ρ σ w R)

section
variable {nB : Nat} {M : EnvM} {K : FuncId} {nt : Nat} {k : List Item} {f : Fr} {σ : St} {R : Value → St → Prop}

theorem VB.of_VM (h : VM M K nt k f σ R) : VB nB M K nt k f σ R := fun hn ρ w a cs hR hF hs =>
  (h ρ w a cs hR hF hs).mono fun v w' ⟨r, σ', ρ', h1, h2, h3⟩ => ⟨r, σ', ρ', h1, h2.toB hn, h3⟩

theorem VB.toVM (h : VB σ.next M K nt k f σ R) : VM M K nt k f σ R := fun ρ w a cs hR hF hs =>
  (h (Nat.le_refl _) ρ w a cs hR hF hs).mono fun v w' ⟨r, σ', ρ', h1, h2, h3⟩ => ⟨r, σ', ρ', h1, h2.toEvo, h3⟩

theorem VB.step {k k' : List Item} (hs : ∀ (a : Act) cs w, step M.P (lone ((base K).at a k) cs w) = .next (lone ((base K).at a k') cs w)) (h : VB nB M K nt k' f σ R) : VB nB M K nt k f σ R :=
  fun hb ρ w a cs hR hF hn => .of_steps (.one (hs a cs w)) (h hb ρ w a cs hR hF hn)

theorem VB.skip (h : VB nB M K nt k f σ R) : VB nB M K nt (.code .skip :: k) f σ R := VB.step (fun _ _ _ => step_skip) h
theorem VB.inBlock {id : Nat} (h : VB nB M K nt k f σ R) : VB nB M K nt (.inBlock id :: k) f σ R := VB.step (fun _ _ _ => step_inBlock) h
theorem VB.seq {x y : Code} (h : VB nB M K nt (.code x :: .code y :: k) f σ R) : VB nB M K nt (.code (.seq x y) :: k) f σ R := VB.step (fun _ _ _ => step_seq) h
theorem VB.block {id : Nat} {c : Code} (h : VB nB M K nt (.code c :: .inBlock id :: k) f σ R) : VB nB M K nt (.code (.block id c) :: k) f σ R := VB.step (fun _ _ _ => step_block) h
theorem VB.loop1 {c : Code} (h : VB nB M K nt (.code c :: .inLoop c :: k) f σ R) : VB nB M K nt (.code (.loop c) :: k) f σ R := VB.step (fun _ _ _ => step_loop) h
theorem VB.inLoop {c : Code} (h : VB nB M K nt (.code c :: .inLoop c :: k) f σ R) : VB nB M K nt (.inLoop c :: k) f σ R := VB.step (fun _ _ _ => step_inLoop) h
theorem VB.exit {id : Nat} {k' : List Item} (hx : exitTo id k = some k') (h : VB nB M K nt k' f σ R) : VB nB M K nt (.code (.exit id) :: k) f σ R := VB.step (fun _ _ _ => step_exit hx) h

theorem VB.cond {c : Operand} {x y : Code} {t : Bool} (hc : opd f c = some (.bool t)) (h : VB nB M K nt (.code (bif t then x else y) :: k) f σ R) : VB nB M K nt (.code (.cond c x y) :: k) f σ R := by
  intro hb ρ w a cs hR hF hn
  have hv : a.eval c = .bool t := by have := (opd_sound hF hc).1; simpa using this
  have hs := step_cond (P := M.P) (b := base K) (a := a) (k := k) (cs := cs) (w := w) (x := x) (y := y) hv
  refine .of_steps (.one hs) ?_
  cases t
  · exact h hb ρ w a cs hR hF hn
  · exact h hb ρ w a cs hR hF hn

theorem VB.cond_split {c : Operand} {x y : Code} {t : Bool} (hc : opd f c = some (.bool t)) (h1 : t = true → VB nB M K nt (.code x :: k) f σ R) (h2 : t = false → VB nB M K nt (.code y :: k) f σ R) : VB nB M K nt (.code (.cond c x y) :: k) f σ R := by
  refine VB.cond hc ?_
  cases t
  · exact h2 rfl
  · exact h1 rfl

theorem VB.mono {R' : Value → St → Prop} (h : VB nB M K nt k f σ R) (hr : ∀ r σ', nB ≤ σ'.next → R r σ' → R' r σ') : VB nB M K nt k f σ R' :=
  fun hb ρ w a cs hR hF hn => (h hb ρ w a cs hR hF hn).mono fun v w' ⟨r, σ', ρ', h1, h2, h3, h4⟩ => ⟨r, σ', ρ', h1, h2, h3, hr r σ' h2.next h4⟩

theorem VB.loop {c : Code} (I : Fr → St → Prop) (μ : Fr → St → Nat) (h0 : I f σ)
    (round : ∀ f σ, I f σ → (∀ f' σ', I f' σ' → μ f' σ' < μ f σ → VB nB M K nt (.inLoop c :: k) f' σ' R) → VB nB M K nt (.code c :: .inLoop c :: k) f σ R) : VB nB M K nt (.code (.loop c) :: k) f σ R := by
  have key : ∀ n f σ, μ f σ = n → I f σ → VB nB M K nt (.code c :: .inLoop c :: k) f σ R := by
    intro n
    induction n using Nat.strongRecOn with
    | _ n ih =>
      intro f σ hn hI
      exact round f σ hI fun f' σ' hI' hlt => VB.inLoop (ih (μ f' σ') (hn ▸ hlt) f' σ' rfl hI')
  exact VB.loop1 (key _ f σ rfl h0)

theorem VB.region {id : Nat} {ops : Array Oper} (hd : ops.toList.all (dstOk nt) = true) (h : WL M nt ops ops.toList f σ (fun f' σ' => VB nB M K nt k f' σ' R)) : VB nB M K nt (.code (.region id ops false) :: k) f σ R := by
  intro hb ρ w a cs hR hF hn
  have hw := h (List.all_eq_true.1 hd) ρ w a hR hF hn
  obtain ⟨e, a', w', ⟨he, ρ', σ', f', h1, h2, h3, h4⟩, harr⟩ := wp_region_list (id := id) hw (base K) k cs
  subst he
  exact .of_steps harr ((h4 (Nat.le_trans hb h1.next) ρ' w' a' cs h1.rel h2 h3).mono fun v w₂ => LiftB.evo (h1.toB hb))

theorem VB.draw {id : Nat} {ops : Array Oper} (plan : List Ent) (hp : planGood nt ops plan = true) (h : DP M nt ops plan [] f σ (fun f' σ' => VB nB M K nt k f' σ' R)) : VB nB M K nt (.code (.region id ops true) :: k) f σ R := by
  intro hb ρ w a cs hR hF hn
  simp only [planGood, Bool.and_eq_true] at hp
  obtain ⟨⟨hp1, hp2⟩, hp3⟩ := hp
  have hlike := Like.drew w
  have hw := wp_region_L (id := id) (a := a) M.mixed (h ops.size _ hp3 hp1 (List.all_eq_true.1 hp2) ρ { w with drawn := w.drawn + 1 } a (hR.like hlike) hF hn (by simp))
  obtain ⟨e, a', w', ⟨he, ρ', σ', f', h1, h2, h3, h4⟩, harr⟩ := hw (base K) k cs
  subst he
  have hev := (Evo.like hR hlike).trans h1
  exact .of_steps harr ((h4 (Nat.le_trans hb hev.next) ρ' w' a' cs hev.rel h2 h3).mono fun v w₂ => LiftB.evo (hev.toB hb))

theorem VB.ret {fn : Func} {v : Value} (hdf : f.df = []) (hf : M.P.funcs[K]? = some fn) (hv : resQ M.toEnv f σ fn.results.toList = some v) (h : R v σ) : VB nB M K nt (.code .ret :: k) f σ R := VB.of_VM (VM.ret hdf hf hv h)
theorem VB.done {fn : Func} {v : Value} (hdf : f.df = []) (hf : M.P.funcs[K]? = some fn) (hv : resQ M.toEnv f σ fn.results.toList = some v) (h : R v σ) : VB nB M K nt [] f σ R := VB.of_VM (VM.done hdf hf hv h)

/-- What has been made may be forgotten; its numbers are given anew. -/
theorem VB.forget {f' : Fr} {σ' : St} (hn : nB ≤ σ'.next) (hg : ∀ i, σ'.get i = σ.get i ∨ σ'.get i = .dead) (hsc : ∀ i, (σ'.get i).sc σ'.next) (hlt : ∀ i, (σ'.get i).live = true → i < σ'.next)
    (hf : ∀ t v, f'.get t = some v → f.get t = some v ∧ Sc σ'.next v) (hd : f'.df = f.df) (hdn : ∀ i ∈ f.df, i < σ'.next) (h : VB nB M K nt k f' σ' R) : VB nB M K nt k f σ R := by
  intro hb ρ w a cs hR hF hs
  have hlive : ∀ i, (σ'.get i).live = true → σ'.get i = σ.get i := fun i hi => by
    rcases hg i with h | h
    · exact h
    · rw [h] at hi; simp [Blk.live] at hi
  have hR' : Rel ρ σ' w := ⟨fun i => by
      rcases hg i with h | h
      · rw [h]; exact hR.blk i
      · rw [h]; trivial, hsc, hlt, fun i j hij hi hj => hR.inj i j hij (by rw [← hlive i (Blk.live_of_wr hi)]; exact hi) (by rw [← hlive j hj]; exact hj)⟩
  have hF' : FrRel ρ f' σ'.next a := ⟨fun t v ht => hF.slot t v (hf t v ht).1, fun t v ht => (hf t v ht).2, by rw [hd]; exact hF.defers, by rw [hd]; exact hdn⟩
  refine (h hn ρ w a cs hR' hF' hs).mono fun v w' ⟨r, σ₂, ρ₂, h1, h2, h3⟩ => ⟨r, σ₂, ρ₂, h1, ⟨h2.rel, h2.ext, h2.next, h2.size, h2.os, h2.tape, h2.output, fun i hi => ?_, fun b hb hno => ?_, fun i hi => ?_⟩, h3⟩
  · rcases h2.own i hi with ⟨j, hj, e⟩ | hge
    · exact .inl ⟨j, by rw [← hlive j (Blk.live_of_wr hj)]; exact hj, e⟩
    · exact .inr hge
  · exact h2.fra b hb fun i hi => hno i (by rw [← hlive i (Blk.live_of_wr hi)]; exact hi)
  · rcases h2.liv i hi with ⟨j, hj, e⟩ | hge
    · exact .inl ⟨j, by rw [← hlive j hj]; exact hj, e⟩
    · exact .inr hge

theorem WF.of_VB {fn : Func} {c : Code} {args : List Value} (hf : M.P.funcs[K]? = some fn) (hname : (fn.name == "runtime.NumGoroutine") = false) (hb : fn.body = some c) (hl : args.length ≤ fn.ntmps)
    (h : VB σ.next M K fn.ntmps [.code c] (initF 0 args .nil) σ R) : WF M.toEnv K args σ R := WF.of_VM hf hname hb hl h.toVM
end
end
end AH
end

section
/-
  AH 31: a short frame at a loop's head; what may be taken as known of a state's scope.
-/
set_option linter.unusedSimpArgs false
set_option linter.unusedVariables false
set_option linter.unusedSectionVars false
namespace AH
open Go
noncomputable section

def frL : List (Nat × Value) → Fr
  | [] => Fr.nil
  | (t, v) :: r => (frL r).set t v

theorem frL_mem : ∀ {l : List (Nat × Value)} {t : Nat} {v : Value}, (frL l).get t = some v → (t, v) ∈ l
  | [], t, v, h => by simp [frL] at h
  | (s, u) :: r, t, v, h => by
    have h' : ((frL r).set s u).get t = some v := h
    rw [Fr.get_set] at h'
    split at h'
    · rename_i e; subst e
      simp only [Option.some.injEq] at h'
      subst h'
      exact List.mem_cons_self ..
    · exact List.mem_cons_of_mem _ (frL_mem h')

theorem frL_df : ∀ l : List (Nat × Value), (frL l).df = []
  | [] => rfl
  | (s, u) :: r => frL_df r

/-- Each name means what it says. -/
structure Wf (f : Fr) (σ : St) : Prop where
  sc : ∀ i, (σ.get i).sc σ.next
  lt : ∀ i, (σ.get i).live = true → i < σ.next
  fr : ∀ t v, f.get t = some v → Sc σ.next v

section
variable {nB : Nat} {M : EnvM} {K : FuncId} {nt : Nat} {k : List Item} {f : Fr} {σ : St} {R : Value → St → Prop}

theorem VB.know (h : Wf f σ → VB nB M K nt k f σ R) : VB nB M K nt k f σ R :=
  fun hb ρ w a cs hR hF hn => h ⟨hR.sc, hR.lt, hF.sc⟩ hb ρ w a cs hR hF hn

theorem VB.trim (l : List (Nat × Value)) (hl : ∀ p ∈ l, f.get p.1 = some p.2) (hd : f.df = []) (h : VB nB M K nt k (frL l) σ R) : VB nB M K nt k f σ R := fun hb ρ w a cs hR hF hn =>
  h hb ρ w a cs hR ⟨fun t v ht => hF.slot t v (hl _ (frL_mem ht)), fun t v ht => hF.sc t v (hl _ (frL_mem ht)), by rw [frL_df, hF.defers, hd], by rw [frL_df]; intro i hi; simp at hi⟩ hn

/-- Back to a short frame and a state without what was made on the way. -/
theorem VB.cut (l : List (Nat × Value)) (σ' : St) (hl : ∀ p ∈ l, f.get p.1 = some p.2) (hd : f.df = []) (hw : Wf (frL l) σ') (hn : nB ≤ σ'.next) (hg : ∀ i, σ'.get i = σ.get i ∨ σ'.get i = .dead)
    (h : VB nB M K nt k (frL l) σ' R) : VB nB M K nt k f σ R :=
  VB.forget hn hg hw.sc hw.lt (fun t v ht => ⟨hl _ (frL_mem ht), hw.fr t v ht⟩) (by rw [frL_df, hd]) (by rw [hd]; intro i hi; simp at hi) h
end

/-- Blocks go by other numbers from here on. -/
theorem VB.renum {nB : Nat} {M : EnvM} {K : FuncId} {nt : Nat} {k : List Item} {f : Fr} {σ : St} {R : Value → St → Prop} {f' : Fr} {σ' : St} (π : Nat → Nat) (hn : nB ≤ σ'.next) (hfix : ∀ i, i < nB → π i = i) (hinj : ∀ i j, (σ'.get i).live = true → (σ'.get j).live = true → π i = π j → i = j)
    (hg : ∀ i, (σ'.get i).live = true → σ.get (π i) = renB (loc π) (σ'.get i)) (hw : Wf f' σ') (hf : ∀ t v, f'.get t = some v → f.get t = some (ren (loc π) v)) (hd : f.df = f'.df.map π) (hdn : ∀ i ∈ f'.df, i < σ'.next)
    (h : VB nB M K nt k f' σ' R) : VB nB M K nt k f σ R := by
  intro hb ρ w a cs hR hF hs
  have hwr : ∀ i, (σ'.get i).wr = true → (σ.get (π i)).wr = true := fun i hi => by rw [hg i (Blk.live_of_wr hi), renB_wr]; exact hi
  have hli : ∀ i, (σ'.get i).live = true → (σ.get (π i)).live = true := fun i hi => by rw [hg i hi, renB_live]; exact hi
  have hR' : Rel (fun i => ρ (π i)) σ' w := by
    refine ⟨fun i => ?_, hw.sc, hw.lt, fun i j hij hi hj => hR.inj (π i) (π j) (fun e => hij (hinj i j (Blk.live_of_wr hi) hj e)) (hwr i hi) (hli j hj)⟩
    cases hl : (σ'.get i).live with
    | true =>
      have := hR.blk (π i)
      rw [hg i hl] at this
      exact BlkRel.comp.1 this
    | false =>
      cases hb : σ'.get i <;> rw [hb] at hl <;> simp only [Blk.live, reduceCtorEq] at hl
      · rename_i cs
        cases cs with
        | nil => exact ⟨fun h => absurd rfl h, fun k v hk => by simp at hk⟩
        | cons c cs => simp [Blk.live] at hl
      · trivial
  have hF' : FrRel (fun i => ρ (π i)) f' σ'.next a := ⟨fun t v ht => by rw [hF.slot t _ (hf t v ht), ren_comp], hw.fr, by rw [hF.defers, hd, List.map_map]; rfl, hdn⟩
  refine (h hn _ w a cs hR' hF' hs).mono fun v w' ⟨r, σ₂, ρ₂, h1, h2, h3⟩ => ⟨r, σ₂, ρ₂, h1, ⟨h2.rel, fun i hi => by rw [h2.ext i hi, hfix i hi], h2.next, h2.size, h2.os, h2.tape, h2.output, fun i hi => ?_, fun b hb hno => ?_, fun i hi => ?_⟩, h3⟩
  · rcases h2.own i hi with ⟨j, hj, e⟩ | hge
    · exact .inl ⟨π j, hwr j hj, e⟩
    · exact .inr hge
  · exact h2.fra b hb fun i hi => hno (π i) (hwr i hi)
  · rcases h2.liv i hi with ⟨j, hj, e⟩ | hge
    · exact .inl ⟨π j, hli j hj, e⟩
    · exact .inr hge

/-- The statement 'for .. := range g { .. }'. -/
theorem VB.rangeFunc {nB : Nat} {M : EnvM} {K : FuncId} {nt : Nat} {k : List Item} {f : Fr} {σ : St} {R : Value → St → Prop} {g : Operand} {ps : Array Tmp} {as bd : Code} {h : FuncId} {first cap : Array Value} (hg : opd f g = some (.func (.func h) first cap))
    (hcall : WF M.toEnv h (first.toList ++ [Value.func (.yield (σ.next + 1)) #[] #[]] ++ cap.toList) ((σ.push .dfr).push (.loop .ready none K nt f.tr ps as bd))
      (fun _ σ' => ∃ st p K' nt' fl ps' as' bd', σ'.get (σ.next + 1) = .loop st p K' nt' fl ps' as' bd' ∧ st ≠ .busy ∧
        VB nB M K nt ((p.map Item.code).toList ++ k) (f.mark σ.next) (σ'.set (σ.next + 1) (.loop .exhausted p K' nt' fl ps' as' bd')) R)) : VB nB M K nt (.code (.rangeFunc g ps as bd) :: k) f σ R := by
  intro hnb ρ w a cs hR hF hn
  -- the two blocks
  have ev1 : Evo ρ σ w (upd ρ σ.next ⟨w.heap.size, 0, 0⟩) (σ.push .dfr) (w.alloc (.deferred (some []))) := Evo.alloc hR (.deferred (some [])) .dfr 0 (Like.refl _) ⟨rfl, get_new w _⟩ trivial
  have hF1 := hF.evo ev1.ext ev1.next
  have ev2 := Evo.alloc ev1.rel (.loop { state := .ready, pending := none, fn := K, tmps := a.tmps, params := ps, assign := as, body := bd, defers := w.heap.size }) (.loop .ready none K nt f.tr ps as bd) 0 (Like.refl _)
    ⟨rfl, a.tmps, w.heap.size, hn, fun t v hv => by
      have h1 := hF1.slot t v hv
      rw [h1]
      congr 1
      exact hF1.sc t v hv _ _ fun i hi => (upd_lt _ _ hi).symm, get_new _ _⟩ (fun t v hv => (hF1.sc t v hv).mono (Nat.le_succ _))
  have ev := ev1.trans ev2
  have hsz1 : (w.alloc (.deferred (some []))).heap.size = w.heap.size + 1 := by simp
  obtain ⟨hge, hgs⟩ := opd_sound hF hg
  obtain ⟨_, hg1, hg2⟩ := Sc_func.1 hgs
  obtain ⟨⟨fn, hfn, hname, hbody⟩, hrun⟩ := hcall
  have hnext : (σ.push .dfr).next = σ.next + 1 := rfl
  have hl2 : (upd (upd ρ σ.next ⟨w.heap.size, 0, 0⟩) (σ.push .dfr).next ⟨(w.alloc (.deferred (some []))).heap.size, 0, 0⟩ (σ.next + 1)).b = w.heap.size + 1 := by rw [hnext, upd_same, hsz1]
  have hsc : Scs ((σ.push .dfr).push (.loop .ready none K nt f.tr ps as bd)).next (first.toList ++ [Value.func (.yield (σ.next + 1)) #[] #[]] ++ cap.toList) := fun v hv => by
    rcases List.mem_append.1 hv with hv | hv
    · rcases List.mem_append.1 hv with hv | hv
      · exact (hg1 v hv).mono (by simp; omega)
      · simp only [List.mem_singleton] at hv; subst hv
        exact Sc_func.2 ⟨by simp [scFn], fun v hv => by simp at hv, fun v hv => by simp at hv⟩
    · exact (hg2 v hv).mono (by simp; omega)
  have hc := hrun _ _ ev.rel hsc
  generalize hρ2 : upd (upd ρ σ.next ⟨w.heap.size, 0, 0⟩) (σ.push .dfr).next ⟨(w.alloc (.deferred (some []))).heap.size, 0, 0⟩ = ρ2 at *
  generalize hw2 : (w.alloc (.deferred (some []))).alloc (.loop { state := .ready, pending := none, fn := K, tmps := a.tmps, params := ps, assign := as, body := bd, defers := w.heap.size }) = w2 at *
  have hargs : ((first.toList ++ [Value.func (.yield (σ.next + 1)) #[] #[]] ++ cap.toList).map (ren ρ2)).toArray = first.map (ren ρ) ++ #[Value.func (.yield (w.heap.size + 1)) #[] #[]] ++ cap.map (ren ρ) := by
    have e1 : first.toList.map (ren ρ2) = first.toList.map (ren ρ) := hg1.map_eq fun i hi => ev.ext i hi
    have e2 : cap.toList.map (ren ρ2) = cap.toList.map (ren ρ) := hg2.map_eq fun i hi => ev.ext i hi
    apply Array.ext'
    simp only [List.map_append, List.map_cons, List.map_nil, e1, e2, ren_func, renFn_yield, hl2]
    simp
  rw [hargs] at hc
  have henter := stepR_rangeFunc (P := M.P) (b := base K) (a := a) (k := k) (cs := cs) (w := w) (g := g) (ps := ps) (assign := as) (body := bd)
    (l := w.heap.size + 1) (mark := [{ target := .collected w.heap.size, args := #[] }]) (w₁ := w2) (w₁' := w2) (w₂ := w2)
    (d := { target := .fn (.func h) (cap.map (ren ρ)), args := first.map (ren ρ) ++ #[Value.func (.yield (w.heap.size + 1)) #[] #[]] }) (f := h) (args := first.map (ren ρ) ++ #[Value.func (.yield (w.heap.size + 1)) #[] #[]] ++ cap.map (ren ρ))
    (by rw [← hw2]; exact run_enterLoop_outer K a.tmps ps as bd) (by
      have ea : (#[Operand.const (.func (.yield (w.heap.size + 1)) #[] #[])] : Array Operand).map a.eval = #[Value.func (.yield (w.heap.size + 1)) #[] #[]] := by simp [Act.eval]
      simp only [resolve, rangeCall, ea, hge, ren_func, renFn_func, Deferred.ofValue, Sem.run_pure])
    (by simp only [invoke, callFunc, Sem.run_bind, run_program, Result.andThen_ok, hfn, hname, hbody, Bool.false_eq_true, if_false, Sem.run_pure])
  obtain ⟨e, w3, fr, ⟨v, he, hlift⟩, hcomes, hfr, hleave⟩ := hc ((base K).atR { a with defers := [{ target := .collected w.heap.size, args := #[] }] ++ a.defers } (.inRangeFunc (w.heap.size + 1) :: k) :: cs)
  subst he
  obtain ⟨r, σ', ρ', q1, q2, q3, st, p, K', nt', fl, ps', as', bd', q4, q5, q6⟩ := hlift
  obtain ⟨rec, r1, r2, r3, r4, r5, r6, r7, r8, r9, hev⟩ := loop_put (st' := .exhausted) (p' := p) q2.rel q4
  have hl3 : (ρ' (σ.next + 1)).b = w.heap.size + 1 := by rw [q2.ext _ (by simp), hl2]
  rw [hl3] at r1 hev
  have hend := run_endLoop (P := M.P) r1 (by rw [r2]; exact q5)
  have hback := stepR_endRangeFunc (P := M.P) (b := base K) (a := { a with defers := [{ target := .collected w.heap.size, args := #[] }] ++ a.defers }) (k := k) (cs := cs) hend
  have hleft := step_leave_returned (c := (base K).atR { a with defers := [{ target := .collected w.heap.size, args := #[] }] ++ a.defers } (.inRangeFunc (w.heap.size + 1) :: k)) (cs := cs) hleave
  rw [finish_atR_inRangeFunc] at hleft
  have e1 : ({ rec with state := .exhausted, pending := p } : Loop) = { rec with state := .exhausted } := by rw [← r3]
  rw [e1] at hev
  have evAll := (ev.trans q2).trans hev
  have hld : ρ' σ.next = ⟨w.heap.size, 0, 0⟩ := by
    rw [q2.ext _ (by simp; omega), ← hρ2, upd_lt _ _ (by simp), upd_same]
  have hFm : FrRel ρ' (f.mark σ.next) (σ'.set (σ.next + 1) (.loop .exhausted p K' nt' fl ps' as' bd')).next { a with defers := [{ target := .collected w.heap.size, args := #[] }] ++ a.defers } := by
    have hF' := hF.evo evAll.ext evAll.next
    refine ⟨hF'.slot, hF'.sc, ?_, fun i hi => ?_⟩
    · show _ ++ a.defers = _
      rw [hF'.defers]
      simp [hld]
    · rcases List.mem_cons.1 hi with rfl | hi
      · have := q2.next; simp at this ⊢; omega
      · exact hF'.dsc i hi
  have hfin := q6 (Nat.le_trans hnb evAll.next) ρ' _ _ cs evAll.rel hFm hn
  have hs0 : Steps M.P (lone ((base K).at a (.code (.rangeFunc g ps as bd) :: k)) cs w) (lone ((base K).at { a with defers := [{ target := .collected w.heap.size, args := #[] }] ++ a.defers } ((p.map Item.code).toList ++ k)) cs (w3.putObj (w.heap.size + 1) (.loop { rec with state := .exhausted }))) := by
    rw [← r3]
    rw [← Frame.atR_of_none (b := base K) rfl, ← Frame.atR_of_none (b := base K) rfl]
    exact (Steps.one henter).trans (Steps.trans hcomes ((Steps.one hleft).trans (Steps.one hback)))
  exact .of_steps hs0 (hfin.mono fun v w₂ => LiftB.evo (evAll.toB hnb))


theorem VB.regionR {nB : Nat} {M : EnvM} {K : FuncId} {nt : Nat} {k : List Item} {f : Fr} {σ : St} {R : Value → St → Prop} {id : Nat} {ops : Array Oper} (hd : ops.toList.all (dstOk nt) = true) (h : WR M none nt ops ops.toList f σ (fun f' σ' => VB nB M K nt k f' σ' R)) : VB nB M K nt (.code (.region id ops false) :: k) f σ R := by
  intro hb ρ w a cs hR hF hn
  have hw := h (List.all_eq_true.1 hd) ρ w a hR hF hn
  obtain ⟨e, a', w', ⟨he, ρ', σ', f', h1, h2, h3, h4⟩, harr⟩ := wpIn_region_list (id := id) hw (base K) k cs rfl trivial (room_FR _ _)
  subst he
  exact .of_steps (stepsIn_FR.1 harr) ((h4 (Nat.le_trans hb h1.next) ρ' w' a' cs h1.rel h2 h3).mono fun v w₂ => LiftB.evo (h1.toB hb))

theorem Wf.push {f f' : Fr} {σ : St} {b b' : Blk} (h : Wf f (σ.push b)) (hb : b'.sc (σ.next + 1)) (hl : ∀ i, (σ.get i).live = true → i < σ.next) (hf : ∀ t v, f'.get t = some v → Sc (σ.next + 1) v) : Wf f' (σ.push b') := by
  refine ⟨fun i => ?_, fun i hi => ?_, hf⟩
  · have := h.sc i
    rw [St.get_push] at this ⊢
    split
    · exact hb
    · rename_i e; rw [if_neg e] at this; exact this
  · rw [St.get_push] at hi
    split at hi
    · rename_i e; simp; omega
    · have := hl i hi; simp; omega
end
end AH
end

section
/-
  AH 32: appends to a row, symbolically.
-/
set_option linter.unusedSimpArgs false
set_option linter.unusedVariables false
set_option linter.unusedSectionVars false
namespace AH
open Go
noncomputable section

/-- To a row that is full as far as is known. -/
theorem appQ_row {E : Env} {σ : St} {t tx : Nat} {i ix : TyI} {e : TypeId} {j : TyI} {b len : Nat} {cs new : List Value} {n : Nat} {x : Value} (ht : E.ty t = some i) (hd : i.desc = .slice e) (htx : E.ty tx = some ix) {e2 : TypeId} (hdx : ix.desc = .slice e2)
    (he : E.ty e = some j) (hs : srcQ σ j.size x = some (n, new)) (hj : 0 < j.size) (hjb : 0 < j.bytes) (hb : σ.get b = .row e j.size cs) (hlen : len * j.size = cs.length) (hn : 0 < n) (hone : new.all Value.oneCell' = true) (hbd : (8 * (len + n) + 4096) * j.bytes ≤ 281474976710656) :
    appQ E σ t tx (.slice (some ⟨b, 0, none⟩) len unk) x = some (.slice (some ⟨σ.next, 0, none⟩) (len + n) unk, (σ.set b .dead).push (.row e j.size (cs ++ new))) := by
  have h1 : ¬ (j.size = 0 ∨ j.bytes = 0) := by omega
  have h2 : ¬ (unk < half) := by unfold unk half; omega
  have h3 : ¬ (0 + (len + n) * j.size ≤ cs.length) := by
    rw [← hlen, Nat.add_mul]
    have := Nat.mul_pos hn hj
    omega
  have h4 : j.size = j.size ∧ unk - unk < half ∧ unk ≤ unk ∧ (0 : Nat) = (unk - unk) * j.size ∧ (Option.isNone (none : Option Nat)) = true := ⟨rfl, by unfold half; omega, Nat.le_refl _, by simp, rfl⟩
  have h5 : (0 : Nat) = 0 ∧ len * j.size = cs.length ∧ e = e ∧ new.all Value.oneCell' = true ∧ (8 * (len + n) + 4096) * j.bytes ≤ 281474976710656 := ⟨rfl, hlen, rfl, hone, hbd⟩
  have hsz : srcZ σ (.slice e2) j x = some (n, new) := hs
  simp only [appQ, ht, htx, hd, hdx, he, hsz, if_neg h1, if_neg h2, hb, if_neg h3]
  rw [if_pos (by simpa using h4), if_pos (by simpa using h5)]

/-- To a slice that has no array. -/
theorem appQ_nil {E : Env} {σ : St} {t tx : Nat} {i ix : TyI} {e : TypeId} {j : TyI} {new : List Value} {n : Nat} {x : Value} (ht : E.ty t = some i) (hd : i.desc = .slice e) (htx : E.ty tx = some ix) {e2 : TypeId} (hdx : ix.desc = .slice e2)
    (he : E.ty e = some j) (hs : srcQ σ j.size x = some (n, new)) (hj : 0 < j.size) (hjb : 0 < j.bytes) (hn : 0 < n) (hbd : (8 * n + 4096) * j.bytes ≤ 281474976710656) :
    appQ E σ t tx (.slice none 0 0) x = some (.slice (some ⟨σ.next, 0, none⟩) n unk, σ.push (.row e j.size new)) := by
  have h1 : ¬ (j.size = 0 ∨ j.bytes = 0) := by omega
  have h2 : (0 : Nat) < half := by unfold half; omega
  have h3 : ¬ (n ≤ 0) := by omega
  have hsz : srcZ σ (.slice e2) j x = some (n, new) := hs
  simp only [appQ, ht, htx, hd, hdx, he, hsz, if_neg h1, if_pos h2, Nat.zero_add, if_neg h3, if_pos hbd, if_true]

theorem opW_append {E : Env} {f : Fr} {σ : St} {args : Array Operand} {tys : Array TypeId} {s x : Operand} {t tx : Nat} {vs vx u : Value} {σ' : St} (ha : args.toList = [s, x]) (ht : tys.toList = [t, tx]) (hs : opd f s = some vs) (hx : opd f x = some vx) (h : appQ E σ t tx vs vx = some (u, σ')) :
    opW E f σ (.call ⟨.builtin .append, args, tys⟩) = some (some u, σ') := by
  simp only [opW, ha, ht, hs, hx, h]

end
end AH
end

section
/-
  AH 33: what a call leaves, under other numbers, and without what is not needed.
-/
set_option linter.unusedSimpArgs false
set_option linter.unusedVariables false
set_option linter.unusedSectionVars false
namespace AH
open Go
noncomputable section

/-- σ' with blocks under other numbers, some left out: block i of it is block π i of σ. -/
structure Fold (n : Nat) (π : Nat → Nat) (σ' : St) (σ : St) : Prop where
  fix : ∀ i, i < n → π i = i
  inj : ∀ i j, (σ'.get i).live = true → (σ'.get j).live = true → π i = π j → i = j
  get : ∀ i, (σ'.get i).live = true → σ.get (π i) = renB (loc π) (σ'.get i)
  sc : ∀ i, (σ'.get i).sc σ'.next
  lt : ∀ i, (σ'.get i).live = true → i < σ'.next
  next : n ≤ σ'.next

theorem WF.renum {E : Env} {K : FuncId} {args : List Value} {σ : St} {R R' : Value → St → Prop} (h : WF E K args σ R)
    (hr : ∀ r σ', σ.next ≤ σ'.next → R r σ' → ∃ r' σ'' π, Fold σ.next π σ'' σ' ∧ r = ren (loc π) r' ∧ Sc σ''.next r' ∧ R' r' σ'') : WF E K args σ R' := by
  refine ⟨h.1, fun ρ w hR hs => (h.2 ρ w hR hs).mono fun e w' ⟨v, he, r, σ', ρ', h1, h2, h3, h4⟩ => ?_⟩
  obtain ⟨r', σ'', π, hf, hrr, hsc, hR'⟩ := hr r σ' h2.next h4
  have hwr : ∀ i, (σ''.get i).wr = true → (σ'.get (π i)).wr = true := fun i hi => by rw [hf.get i (Blk.live_of_wr hi), renB_wr]; exact hi
  have hli : ∀ i, (σ''.get i).live = true → (σ'.get (π i)).live = true := fun i hi => by rw [hf.get i hi, renB_live]; exact hi
  refine ⟨v, he, r', σ'', fun i => ρ' (π i), by rw [h1, hrr, ren_comp], ⟨⟨fun i => ?_, hf.sc, hf.lt, fun i j hij hi hj => h2.rel.inj (π i) (π j) (fun e => hij (hf.inj i j (Blk.live_of_wr hi) hj e)) (hwr i hi) (hli j hj)⟩,
    fun i hi => by rw [hf.fix i hi]; exact h2.ext i hi, hf.next, h2.size, h2.os, h2.tape, h2.output, fun i hi => ?_, h2.fra, fun i hi => ?_⟩, hsc, hR'⟩
  · cases hl : (σ''.get i).live with
    | true =>
      have := h2.rel.blk (π i)
      rw [hf.get i hl] at this
      exact BlkRel.comp.1 this
    | false =>
      cases hb : σ''.get i <;> rw [hb] at hl <;> simp only [Blk.live, reduceCtorEq] at hl
      · rename_i cs
        cases cs with
        | nil => exact ⟨fun h => absurd rfl h, fun k v hk => by simp at hk⟩
        | cons c cs => simp [Blk.live] at hl
      · trivial
  · exact h2.own (π i) (hwr i hi)
  · exact h2.liv (π i) (hli i hi)

end
end AH
end

section
/-
  AH 34: contracts of small states in greater ones: the usual ends.
-/
set_option linter.unusedSimpArgs false
set_option linter.unusedVariables false
set_option linter.unusedSectionVars false
namespace AH
open Go
noncomputable section

theorem WF.know {E : Env} {K : FuncId} {args : List Value} {σ : St} {R : Value → St → Prop} (he : Enter E.P K) (h : (∀ i, (σ.get i).live = true → i < σ.next) → (∀ i, (σ.get i).sc σ.next) → WF E K args σ R) : WF E K args σ R :=
  ⟨he, fun ρ w hR hs => (h hR.lt hR.sc).2 ρ w hR hs⟩

section
variable {π : Nat → Nat} {σ₀ σ : St}

theorem exN_lt {n₀ n i : Nat} (h : i < n₀) : exN π n₀ n i = π i := by simp [exN, h]
theorem exN_new {n₀ n : Nat} : exN π n₀ n n₀ = n := by simp [exN]

theorem renB_exN {b : Blk} {n₀ n : Nat} (h : b.sc n₀) : renB (loc (exN π n₀ n)) b = renB (loc π) b := by
  have hv : ∀ v, Sc n₀ v → ren (loc (exN π n₀ n)) v = ren (loc π) v := fun v hv => hv _ _ fun i hi => by simp [loc, exN_lt hi]
  cases b with
  | cells e cs => simp only [renB]; rw [List.map_congr_left fun v hm => hv v (h v hm)]
  | row e sz cs => simp only [renB]; rw [List.map_congr_left fun v hm => hv v (h v hm)]
  | ro cs => simp only [renB]; rw [List.map_congr_left fun v hm => hv v (h v hm)]
  | map es c =>
    simp only [renB]
    rw [List.map_congr_left (g := renE (loc π)) fun e hm => by simp only [renE]; rw [hv _ (h e hm).1, hv _ (h e hm).2]]
  | miter m a b c => cases m with
    | none => rfl
    | some m => simp only [renB, Option.map_some, loc]; rw [exN_lt h]
  | siter s p => rfl
  | loop st p fn nt f ps x y =>
    simp only [renB]
    have : f.map (ren (loc (exN π n₀ n))) = f.map (ren (loc π)) := by
      have h' : ∀ t v, f.get t = some v → Sc n₀ v := h
      clear h
      induction f with
      | leaf => rfl
      | node l v r ihl ihr =>
        simp only [Tr.map]
        rw [ihl fun t v ht => h' (2 * t + 1) v (by
          have : (2 * t + 1) % 2 = 1 := by omega
          have h2 : (2 * t + 1) / 2 = t := by omega
          simp [Tr.get_node, this, h2, ht]), ihr fun t v ht => h' (2 * t + 2) v (by
          have : (2 * t + 2) % 2 = 0 := by omega
          have h2 : (2 * t + 2) / 2 = t + 1 := by omega
          simp [Tr.get_node, this, h2, ht])]
        cases v with
        | none => rfl
        | some u => rw [Option.map_some, Option.map_some, hv u (h' 0 u rfl)]
    rw [this]
  | dfr => rfl
  | dead => rfl

theorem Big.same (hs : Small π σ₀ σ) (hout : ∀ i, (σ.get i).live = true → i < σ.next) : Big π σ₀ σ σ₀ σ := by
  refine ⟨by omega, fun i hi h => ?_, fun j _ _ => rfl, fun j hj => ?_⟩
  · rcases h with h | h
    · omega
    · rw [exN_lt hi, renB_exN (hs.sc i), hs.get i h]
  · cases hl : (σ.get j).live with
    | false => rfl
    | true => have := hout j hl; omega

theorem Big.push (hs : Small π σ₀ σ) (hout : ∀ i, (σ.get i).live = true → i < σ.next) (b : Blk) : Big π σ₀ σ (σ₀.push b) (σ.push (renB (loc (exN π σ₀.next σ.next)) b)) := by
  refine ⟨by simp, fun i hi h => ?_, fun j hj _ => ?_, fun j hj => ?_⟩
  · rw [St.get_push, St.get_push]
    by_cases he : i = σ₀.next
    · subst he
      simp [exN]
    · have hi' : i < σ₀.next := by simp at hi; omega
      have hlt := hs.lt i hi'
      rw [if_neg (Ne.symm he), exN_lt hi', if_neg (by omega)]
      rcases h with h | h
      · omega
      · rw [renB_exN (hs.sc i), hs.get i h]
  · rw [St.get_push, if_neg (by omega)]
  · rw [St.get_push, if_neg (by simp at hj; omega)]
    cases hl : (σ.get j).live with
    | false => rfl
    | true => have := hout j hl; simp at hj; omega

theorem Big.set (hs : Small π σ₀ σ) (hout : ∀ i, (σ.get i).live = true → i < σ.next) (i : Nat) (hi : (σ₀.get i).live = true) (b : Blk) (hb : b.sc σ₀.next) : Big π σ₀ σ (σ₀.set i b) (σ.set (π i) (renB (loc π) b)) := by
  have hil := hs.out i hi
  refine ⟨by simp, fun j hj h => ?_, fun j hj hno => ?_, fun j hj => ?_⟩
  · have hj' : j < σ₀.next := by simpa using hj
    have hlj : (σ₀.get j).live = true := by
      rcases h with h | h
      · omega
      · exact h
    rw [exN_lt hj', St.get_set, St.get_set]
    by_cases he : i = j
    · subst he; rw [if_pos rfl, if_pos rfl, renB_exN hb]
    · rw [if_neg he, if_neg (fun h => he (hs.inj i j hi hlj h)), renB_exN (hs.sc j), hs.get j hlj]
  · rw [St.get_set, if_neg (hno i hi)]
  · have := hs.lt i hil
    rw [St.get_set, if_neg (by simp at hj; omega)]
    cases hl : (σ.get j).live with
    | false => rfl
    | true => have := hout j hl; simp at hj; omega
end
end
end AH
end

section
/-
  AH 35: functions without arguments that come to true, as answers of an evaluator; runs with values given, once reckoned.
-/
set_option linter.unusedSimpArgs false
set_option linter.unusedVariables false
set_option linter.unusedSectionVars false
namespace AH
open Go
noncomputable section

theorem WF.forget_all {E : Env} {K : FuncId} {args : List Value} {v : Value} (hv : Sc 0 v) (hren : ∀ ρ, ren ρ v = v) (h : WF E K args St.empty (fun r _ => r = v)) : WF E K args St.empty (fun r σ' => r = v ∧ σ' = St.empty) :=
  h.renum fun r σ' _ hr => ⟨v, St.empty, id, ⟨fun _ _ => rfl, fun _ _ _ _ h => h, fun i hi => (by rw [St.get_empty] at hi; cases hi), fun i => (by rw [St.get_empty]; trivial), fun i hi => (by rw [St.get_empty] at hi; cases hi), Nat.zero_le _⟩, by rw [hr, hren], hv, rfl, rfl⟩

theorem WF.anywhere {E : Env} {K : FuncId} {v : Value} (hren : ∀ ρ, ren ρ v = v) (h : WF E K [] St.empty (fun r _ => r = v)) (σ : St) : WF E K [] σ (fun r σ' => r = v ∧ σ' = σ) := by
  have h0 := WF.forget_all (fun ρ ρ' _ => by rw [hren, hren]) hren h
  refine WF.know h0.1 fun hout _ => ?_
  have hs : Small id St.empty σ := ⟨fun i hi => absurd hi (Nat.not_lt_zero _), fun _ _ _ _ h => h, fun i hi => (by rw [St.get_empty] at hi; cases hi), fun i => (by rw [St.get_empty]; trivial), fun i hi => (by rw [St.get_empty] at hi; cases hi)⟩
  refine WF.frame (args₀ := []) hs (fun v hv => by simp at hv) h0 fun r σ₀' _ ⟨e1, e2⟩ => ?_
  subst e1; subst e2
  exact ⟨σ, Big.same hs hout, hren _, rfl⟩

/-- Function K, called without arguments, answers true. -/
def orcT (K : Nat) (orc : CallF) : CallF := fun g args σ => bif Nat.beq g K then (match args with | [] => some (.bool true, σ) | _ => orc g args σ) else orc g args σ

theorem orcT_ok {M : EnvM} {orc call : CallF} {K : Nat} (ho : CallOk M orc) (hc : CallOk M call) (h : isT (call K [] St.empty) = true) : CallOk M (orcT K orc) := by
  intro g args σ r σ' hq
  unfold orcT at hq
  cases hb : Nat.beq g K with
  | false => rw [hb] at hq; exact ho g args σ r σ' hq
  | true =>
    have hg : g = K := Nat.eq_of_beq_eq_true hb
    subst hg
    rw [hb] at hq
    simp only [cond_true] at hq
    split at hq
    · simp only [Option.some.injEq, Prod.mk.injEq] at hq
      obtain ⟨rfl, rfl⟩ := hq
      unfold isT at h
      split at h
      · rename_i b σ₁ hcall
        subst h
        exact WF.anywhere (by simp) ((hc _ _ _ _ _ hcall).mono fun r σ' _ e => e.1) σ
      · cases h
    · exact ho _ args σ r σ' hq

/-- What is owed, where a run with values given comes to true. -/
def okO : Option (Value × St × Prop) → Option Prop
  | some (.bool true, _, p) => some p
  | _ => none

theorem okO_true {M : EnvM} {call : CallF} (hc : CallOk M call) {ov : Tmp → Option Value} {steps : Nat} {K : FuncId} {args : List Value} {p : Prop} (h : okO (bodyO M call ov steps K args St.empty) = some p) (hp : p) (hs : ∀ v ∈ args, ∀ ρ : Nat → Loc, ren ρ v = v) (w : World) :
    Calls M.P K args.toArray w (fun e w' => e = .returned (.bool true) ∧ Go.RowKit.Below w.heap.size w w') := by
  refine bodyO_true hc (ov := ov) (steps := steps) ?_ ?_ hs w
  · unfold okO at h
    split at h
    · rename_i σ' q heq
      rw [heq]
      rfl
    · cases h
  · unfold okO at h
    split at h
    · rename_i σ' q heq
      rw [heq]
      simp only [Option.some.injEq] at h
      subst h
      exact hp
    · cases h
end
end AH
end

section
/-
  AH 36: the same evaluator, so written that the kernel takes fewer steps.
-/
set_option linter.unusedSimpArgs false
set_option linter.unusedVariables false
set_option linter.unusedSectionVars false
namespace AH
open Go
noncomputable section

/-! ### Numbers -/

def eqF : Int → Int → Bool
  | .ofNat m, .ofNat n => Nat.beq m n
  | .negSucc m, .negSucc n => Nat.beq m n
  | _, _ => false
theorem beq_dec (m n : Nat) : Nat.beq m n = decide (m = n) := by
  cases h : Nat.beq m n with
  | true => exact (decide_eq_true (Nat.eq_of_beq_eq_true h)).symm
  | false => exact (decide_eq_false (Nat.ne_of_beq_eq_false h)).symm
theorem eqF_eq (x y : Int) : eqF x y = (x == y) := by
  rw [show (x == y) = decide (x = y) from rfl]
  cases x <;> cases y <;> simp only [eqF, beq_dec]
  · exact decide_eq_decide.2 (by simp only [Int.ofNat_eq_natCast]; omega)
  · exact (decide_eq_false (fun e => by cases e)).symm
  · exact (decide_eq_false (fun e => by cases e)).symm
  · exact decide_eq_decide.2 (by simp only [Int.negSucc_eq]; omega)

def wrapF (k : IntKind) (n : Int) : Int :=
  match k with
  | .i64 => (match n with
    | .ofNat m => bif Nat.ble m 9223372036854775807 then .ofNat m else IntKind.i64.wrap (.ofNat m)
    | .negSucc m => bif Nat.ble m 9223372036854775807 then .negSucc m else IntKind.i64.wrap (.negSucc m))
  | .u64 => (match n with
    | .ofNat m => bif Nat.ble m 18446744073709551615 then .ofNat m else IntKind.u64.wrap (.ofNat m)
    | .negSucc m => IntKind.u64.wrap (.negSucc m))
  | k => k.wrap n
theorem wrapF_eq (k : IntKind) (n : Int) : wrapF k n = k.wrap n := by
  cases k with
  | i64 =>
    cases n with
    | ofNat m =>
      show (bif Nat.ble m 9223372036854775807 then Int.ofNat m else IntKind.i64.wrap (.ofNat m)) = _
      cases h : Nat.ble m 9223372036854775807 with
      | false => rw [cond_false]
      | true =>
        have hle := Nat.le_of_ble_eq_true h
        rw [IntWalk.i64_in _ (by rw [Int.ofNat_eq_natCast]; omega), cond_true]
    | negSucc m =>
      show (bif Nat.ble m 9223372036854775807 then Int.negSucc m else IntKind.i64.wrap (.negSucc m)) = _
      cases h : Nat.ble m 9223372036854775807 with
      | false => rw [cond_false]
      | true =>
        have hle := Nat.le_of_ble_eq_true h
        rw [IntWalk.i64_in _ (by rw [Int.negSucc_eq]; omega), cond_true]
  | u64 =>
    cases n with
    | ofNat m =>
      show (bif Nat.ble m 18446744073709551615 then Int.ofNat m else IntKind.u64.wrap (.ofNat m)) = _
      cases h : Nat.ble m 18446744073709551615 with
      | false => rw [cond_false]
      | true =>
        have hle := Nat.le_of_ble_eq_true h
        rw [IntWalk.u64_in _ (by rw [Int.ofNat_eq_natCast]; omega), cond_true]
    | negSucc m => rfl
  | i8 => rfl
  | u8 => rfl
  | i16 => rfl
  | u16 => rfl
  | i32 => rfl
  | u32 => rfl

def kEqF (k k' : IntKind) : Bool :=
  match k with
  | .i64 => (match k' with | .i64 => true | _ => false)
  | .u64 => (match k' with | .u64 => true | _ => false)
  | k => decide (k = k')
theorem kEqF_eq (k k' : IntKind) : kEqF k k' = decide (k = k') := by
  cases k <;> cases k' <;> rfl

structure IK where
  run : IntKind → Int → Int → Option Value
def intK (o : BinOp) : IK :=
  match o with
  | .add => ⟨fun k a b => some (.int k (wrapF k (Int.add a b)))⟩
  | .sub => ⟨fun k a b => some (.int k (wrapF k (Int.sub a b)))⟩
  | .eql => ⟨fun k a b => some (.bool (eqF a b))⟩
  | .neq => ⟨fun k a b => some (.bool (Bool.not (eqF a b)))⟩
  | .lss => ⟨fun k a b => some (.bool (ltI a b))⟩
  | .leq => ⟨fun k a b => some (.bool (leI a b))⟩
  | .gtr => ⟨fun k a b => some (.bool (ltI b a))⟩
  | .geq => ⟨fun k a b => some (.bool (leI b a))⟩
  | o => ⟨fun k a b => intOp o k a b⟩
theorem intK_eq (o : BinOp) (k : IntKind) (a b : Int) : (intK o).run k a b = intOp o k a b := by
  cases o <;> simp only [intK, intOp, wrapF_eq, eqF_eq] <;> rfl

/-! ### Operations -/

def qBin (E : Env) (o : BinOp) (t : Nat) (x y : Operand) (f : Fr) : Option Value :=
  match opd f x, opd f y with
  | some (.int k a), some (.int k' b) => bif kEqF k k' then (match intK o with | ⟨g⟩ => g k a b) else none
  | some a, some b => binQ E o t a b
  | _, _ => none
def shB : BinOp → Bool
  | .shl | .shr => true
  | _ => false
theorem qBin_eq (E : Env) (o : BinOp) (t u : Nat) (x y : Operand) (f : Fr) (σ : St) (hs : shB o = false) : qBin E o t x y f = opQ E f σ (.binOp o t x y u) := by
  show _ = (match opd f x, opd f y with | some a, some b => binQ E o t a b | _, _ => none)
  unfold qBin
  cases hx : opd f x with
  | none => cases opd f y <;> rfl
  | some v =>
    cases hy : opd f y with
    | none => cases v <;> rfl
    | some w =>
      have key : ∀ k a k' b, v = .int k a → w = .int k' b → (bif kEqF k k' then (match intK o with | ⟨g⟩ => g k a b) else none) = binQ E o t v w := fun k a k' b e1 e2 => by
        subst e1; subst e2
        have h2 : binQ E o t (.int k a) (.int k' b) = if k = k' then intOp o k a b else none := by
          cases o <;> first | rfl | (simp [shB] at hs)
        rw [h2, kEqF_eq, ← intK_eq]
        by_cases h : k = k' <;> simp [h]
      cases v <;> cases w <;> first | rfl | exact key _ _ _ _ rfl rfl

def qLoad (E : Env) (t : Nat) (a : Operand) (f : Fr) (σ : St) : Option Value :=
  match opd f a, E.ty t with
  | some (.pointer (some ad)), some i => ldVar i σ ad
  | _, _ => none
def qPick (c a b : Operand) (f : Fr) : Option Value :=
  match opd f c with
  | some (.bool t) => opd f (bif t then a else b)
  | _ => none
def qNil (E : Env) (x : Operand) (f : Fr) : Option Value :=
  match opd f x with
  | some (.pointer (some a)) => some (.pointer (some a))
  | some (.iface t v) => some (.iface t v)
  | some (.func (.func g) x y) => some (.func (.func g) x y)
  | some (.func (.method name) x y) => (match x.toList with
    | [.iface t _] => bif mthB E.P t name then some (.func (.method name) x y) else none
    | _ => none)
  | _ => none
def qUn (op : UnOp) (x : Operand) (f : Fr) : Option Value := match opd f x with
  | some a => unQ op a
  | none => none
def qFieldA (E : Env) (s : Nat) (x : Operand) (k : Nat) (f : Fr) : Option Value := match opd f x with
  | some v => fieldQ E s v k
  | none => none
def qField (E : Env) (s : Nat) (x : Operand) (k : Nat) (f : Fr) : Option Value := match opd f x with
  | some v => fieldV E s v k
  | none => none
def qIndexA (E : Env) (t : Nat) (x i : Operand) (f : Fr) : Option Value := match opd f x, opd f i with
  | some v, some k => indexAddrQ E t v k
  | _, _ => none
def qIndex (E : Env) (t : Nat) (x i : Operand) (f : Fr) : Option Value := match opd f x, opd f i with
  | some v, some k => indexQ E t v k
  | _, _ => none
def qSlice (E : Env) (t : Nat) (x : Operand) (lo hi mx : Option Operand) (f : Fr) (σ : St) : Option Value := match opd f x, opdO f lo, opdO f hi, opdO f mx with
  | some v, some l, some h, some m => sliceQ E σ t v l h m
  | _, _, _, _ => none
def qExtract (x : Operand) (i : Nat) (f : Fr) : Option Value := match opd f x with
  | some (.tuple vs) => vs.toList[i]?
  | _ => none
def qBuild (E : Env) (t : Nat) (l : List (Nat × Operand)) (f : Fr) : Option Value := match partsQ f l with
  | some ps => buildQ E t ps
  | none => none
def wStore (E : Env) (t : Nat) (a x : Operand) (f : Fr) (σ : St) : Option (Option Value × St) :=
  match opd f a, opd f x, E.ty t with
  | some (.pointer (some ad)), some v, some i => if v.cells.toList.length = i.size then (match stCells σ ad v.cells.toList with | some σ' => some (none, σ') | none => none) else none
  | _, _, _ => none
def wAlloc (E : Env) (e : Nat) (σ : St) : Option (Option Value × St) := match E.ty e with
  | some i => some (some (.pointer (some ⟨σ.next, 0, none⟩)), σ.push (.cells e i.zero.cells.toList))
  | none => none
def wBox (e : Nat) (x : Operand) (f : Fr) (σ : St) : Option (Option Value × St) := match opd f x with
  | some v => some (some (.pointer (some ⟨σ.next, 0, none⟩)), σ.push (.cells e v.cells.toList))
  | none => none

inductive KO where
  | q (g : Fr → St → Option Value)
  | w (g : Fr → St → Option (Option Value × St))
  | c (c : Call)
  | b

def kindOf (E : Env) (op : Op) : KO :=
  match op with
  | .move x => .q (fun f _ => opd f x)
  | .assign x => .q (fun f _ => opd f x)
  | .pick c a b => .q (fun f _ => qPick c a b f)
  | .load t a => .q (fun f σ => qLoad E t a f σ)
  | .nilCheck x => .q (fun f _ => qNil E x f)
  | .binOp o t x y _ => bif shB o then .b else .q (fun f _ => qBin E o t x y f)
  | .unOp o _ x => .q (fun f _ => qUn o x f)
  | .fieldAddr s x k => .q (fun f _ => qFieldA E s x k f)
  | .field s x k => .q (fun f _ => qField E s x k f)
  | .indexAddr t x i => .q (fun f _ => qIndexA E t x i f)
  | .index t x i => .q (fun f _ => qIndex E t x i f)
  | .slice t x lo hi mx => .q (fun f σ => qSlice E t x lo hi mx f σ)
  | .extract x i => .q (fun f _ => qExtract x i f)
  | .build t parts => (match parts.toList with | l => .q (fun f _ => qBuild E t l f))
  | .store t a x => .w (fun f σ => wStore E t a x f σ)
  | .alloc e => .w (fun _ σ => wAlloc E e σ)
  | .box e x => .w (fun f σ => wBox e x f σ)
  | .call c => (match c.callee with
    | .value _ => .c c
    | .invoke _ _ => .c c
    | .builtin _ => .b)
  | _ => .b

section
variable (M : EnvM) (call : CallF)

def runOpF (all : Array Oper) (o : Oper) (f : Fr) (σ : St) : Option (Fr × St) :=
  match wantedA all f o with
  | some false => some (putF f o.dst undef, σ)
  | some true => (match kindOf M.toEnv o.op with
    | .q g => (match g f σ with | some v => some (putF f o.dst v, σ) | none => none)
    | .w g => (match g f σ with | some (r, σ') => some (putF f o.dst (match r with | some v => v | none => undef), σ') | none => none)
    | .c c => (match callQ M f c with
      | some (g, args) => (match call g args σ with
        | some (v, σ') => some (putF f o.dst v, σ')
        | none => none)
      | none => none)
    | .b => runOp M call all o f σ)
  | none => none

theorem runOp_q {all : Array Oper} {o : Oper} {f : Fr} {σ : St} (hw : wantedA all f o = some true) (h1 : opW M.toEnv f σ o.op = none) (h2 : ∀ c, o.op ≠ .call c) : runOp M call all o f σ = (match opQ M.toEnv f σ o.op with | some v => some (putF f o.dst v, σ) | none => none) := by
  unfold runOp
  rw [hw]
  simp only
  cases hq : opQ M.toEnv f σ o.op with
  | some v => rfl
  | none =>
    simp only [h1]

theorem runOpF_eq (all : Array Oper) (o : Oper) (f : Fr) (σ : St) : runOpF M call all o f σ = runOp M call all o f σ := by
  unfold runOpF
  cases hw : wantedA all f o with
  | none => unfold runOp; rw [hw]
  | some t =>
    cases t with
    | false => unfold runOp; rw [hw]
    | true =>
      simp only
      obtain ⟨dst, op, type, pos, after, guard⟩ := o
      cases op with
      | move x => exact (runOp_q M call hw rfl (fun c e => by cases e)).symm
      | assign x => exact (runOp_q M call hw rfl (fun c e => by cases e)).symm
      | pick c a b => exact (runOp_q M call hw rfl (fun c e => by cases e)).symm
      | load t a => exact (runOp_q M call hw rfl (fun c e => by cases e)).symm
      | nilCheck x => exact (runOp_q M call hw rfl (fun c e => by cases e)).symm
      | unOp o t x => exact (runOp_q M call hw rfl (fun c e => by cases e)).symm
      | fieldAddr s x k => exact (runOp_q M call hw rfl (fun c e => by cases e)).symm
      | field s x k => exact (runOp_q M call hw rfl (fun c e => by cases e)).symm
      | indexAddr t x i => exact (runOp_q M call hw rfl (fun c e => by cases e)).symm
      | index t x i => exact (runOp_q M call hw rfl (fun c e => by cases e)).symm
      | slice t x lo hi mx => exact (runOp_q M call hw rfl (fun c e => by cases e)).symm
      | extract x i => exact (runOp_q M call hw rfl (fun c e => by cases e)).symm
      | build t parts => exact (runOp_q M call hw rfl (fun c e => by cases e)).symm
      | binOp o t x y u =>
        show (match (bif shB o then KO.b else .q (fun f _ => qBin M.toEnv o t x y f)) with
          | .q g => (match g f σ with | some v => some (putF f dst v, σ) | none => none)
          | .w g => (match g f σ with | some (r, σ') => some (putF f dst (match r with | some v => v | none => undef), σ') | none => none)
          | .c c => (match callQ M f c with
            | some (g, args) => (match call g args σ with
              | some (v, σ') => some (putF f dst v, σ')
              | none => none)
            | none => none)
          | .b => runOp M call all ⟨dst, .binOp o t x y u, type, pos, after, guard⟩ f σ) = _
        cases hs : shB o with
        | true => rfl
        | false =>
          simp only [cond_false]
          rw [qBin_eq M.toEnv o t u x y f σ hs]
          exact (runOp_q M call hw rfl (fun c e => by cases e)).symm
      | store t a x => unfold runOp; rw [hw]; rfl
      | alloc e => unfold runOp; rw [hw]; rfl
      | box e x => unfold runOp; rw [hw]; rfl
      | call c =>
        obtain ⟨callee, args, at_⟩ := c
        cases callee with
        | value x => unfold runOp; rw [hw]; rfl
        | invoke x n => unfold runOp; rw [hw]; rfl
        | builtin b => rfl
      | _ => rfl
end

/-! ### Code -/
section
variable (M : EnvM) (call : CallF) (rnd : RoundF)

/-- What an operation does to the frame and to the state. -/
structure PK where
  run : Fr → St → Option (Fr × St)
def opK (all : Array Oper) (o : Oper) : PK :=
  match o.guard with
  | some _ => ⟨fun f σ => runOpF M call all o f σ⟩
  | none => (match kindOf M.toEnv o.op with
    | .q g => (match o.dst with
      | some t => ⟨fun f σ => match g f σ with | some v => some (f.set t v, σ) | none => none⟩
      | none => ⟨fun f σ => match g f σ with | some v => some (f, σ) | none => none⟩)
    | .w g => (match o.dst with
      | some t => ⟨fun f σ => match g f σ with | some (r, σ') => some (f.set t (match r with | some v => v | none => undef), σ') | none => none⟩
      | none => ⟨fun f σ => match g f σ with | some (_, σ') => some (f, σ') | none => none⟩)
    | .c c => ⟨fun f σ => match callQ M f c with
      | some (g, args) => (match call g args σ with
        | some (v, σ') => some (putF f o.dst v, σ')
        | none => none)
      | none => none⟩
    | .b => ⟨fun f σ => runOp M call all o f σ⟩)

theorem opK_eq (all : Array Oper) (o : Oper) (f : Fr) (σ : St) : (opK M call all o).run f σ = runOp M call all o f σ := by
  rw [← runOpF_eq]
  unfold opK
  split
  · rfl
  · rename_i hg
    have hw : wantedA all f o = some true := by unfold wantedA; rw [hg]
    unfold runOpF
    rw [hw]
    simp only
    split
    · rename_i g hk
      split
      · rename_i t hd; simp only [hd]; rfl
      · rename_i hd; simp only [hd]; rfl
    · rename_i g hk
      split
      · rename_i t hd; simp only [hd]; rfl
      · rename_i hd
        simp only [hd]
        cases g f σ with
        | none => rfl
        | some p => rfl
    · rfl
    · rename_i hk
      rw [← runOpF_eq]
      unfold runOpF
      rw [hw, hk]

def runOpsF (all : Array Oper) (l : List Oper) : Fr → St → Option (Fr × St) :=
  List.rec (motive := fun _ => Fr → St → Option (Fr × St)) (fun f σ => some (f, σ))
    (fun o _ ih f σ => match opK M call all o with
      | ⟨g⟩ => (match g f σ with
        | some (f', σ') => bif notDefer o.op then ih f' σ' else none
        | none => match wantedA all f o, yieldQ f o.op with
          | some true, some (li, vs) => (match rnd li vs σ with
            | some (v, σ') => ih (putF f o.dst v) σ'
            | none => none)
          | _, _ => none)) l

theorem runOpsF_eq (all : Array Oper) : ∀ (l : List Oper) (f : Fr) (σ : St), runOpsF M call rnd all l f σ = runOpsR M call rnd all l f σ
  | [], f, σ => rfl
  | o :: r, f, σ => by
    have h1 : runOpsF M call rnd all (o :: r) f σ = (match (opK M call all o).run f σ with
        | some (f', σ') => bif notDefer o.op then runOpsF M call rnd all r f' σ' else none
        | none => match wantedA all f o, yieldQ f o.op with
          | some true, some (li, vs) => (match rnd li vs σ with
            | some (v, σ') => runOpsF M call rnd all r (putF f o.dst v) σ'
            | none => none)
          | _, _ => none) := rfl
    have h2 : runOpsR M call rnd all (o :: r) f σ = (match runOp M call all o f σ with
        | some (f', σ') => bif notDefer o.op then runOpsR M call rnd all r f' σ' else none
        | none => match wantedA all f o, yieldQ f o.op with
          | some true, some (li, vs) => (match rnd li vs σ with
            | some (v, σ') => runOpsR M call rnd all r (putF f o.dst v) σ'
            | none => none)
          | _, _ => none) := rfl
    have ih : runOpsF M call rnd all r = runOpsR M call rnd all r := funext fun f => funext fun σ => runOpsF_eq all r f σ
    rw [h1, h2, opK_eq, ih]

structure CK where
  run : (List Item → Fr → St → Option (Value × St)) → List Item → Fr → St → Option (Value × St)

def codeK (steps : Nat) (K : FuncId) (fn : Func) (c : Code) : CK :=
  match c with
  | .skip => ⟨fun rec k f σ => rec k f σ⟩
  | .seq x y => ⟨fun rec k f σ => rec (.code x :: .code y :: k) f σ⟩
  | .block id c => ⟨fun rec k f σ => rec (.code c :: .inBlock id :: k) f σ⟩
  | .loop c => ⟨fun rec k f σ => rec (.code c :: .inLoop c :: k) f σ⟩
  | .cond c x y => ⟨fun rec k f σ => match opd f c with
    | some (.bool t) => rec (.code (bif t then x else y) :: k) f σ
    | _ => none⟩
  | .exit id => ⟨fun rec k f σ => match exitTo id k with | some k' => rec k' f σ | none => none⟩
  | .region _ ops draw => bif draw then ⟨fun rec k f σ => stepK2 M call steps K fn rec (.code c :: k) f σ⟩
    else bif ops.toList.all (dstOk fn.ntmps) then (match ops.toList with | l => ⟨fun rec k f σ => match runOpsF M call (roundF M call steps) ops l f σ with | some (f', σ') => rec k f' σ' | none => none⟩)
    else ⟨fun _ _ _ _ => none⟩
  | c => ⟨fun rec k f σ => stepK2 M call steps K fn rec (.code c :: k) f σ⟩

def stepF (steps : Nat) (K : FuncId) (fn : Func) (rec : List Item → Fr → St → Option (Value × St)) (k : List Item) (f : Fr) (σ : St) : Option (Value × St) :=
  match k with
  | .code c :: k => (match codeK M call steps K fn c with | ⟨g⟩ => g rec k f σ)
  | .inBlock _ :: k => rec k f σ
  | .inLoop c :: k => rec (.code c :: .inLoop c :: k) f σ
  | k => stepK2 M call steps K fn rec k f σ

theorem stepF_eq (steps : Nat) (K : FuncId) (fn : Func) (rec : List Item → Fr → St → Option (Value × St)) (k : List Item) (f : Fr) (σ : St) : stepF M call steps K fn rec k f σ = stepK2 M call steps K fn rec k f σ := by
  unfold stepF
  split
  · rename_i c k
    show (codeK M call steps K fn c).run rec k f σ = _
    cases c with
    | region id ops draw =>
      cases draw with
      | true => rfl
      | false =>
        have h2 : stepK2 M call steps K fn rec (.code (.region id ops false) :: k) f σ = (bif ops.toList.all (dstOk fn.ntmps) then (match runOpsR M call (roundF M call steps) ops ops.toList f σ with | some (f', σ') => rec k f' σ' | none => none) else none) := rfl
        have h3 : codeK M call steps K fn (.region id ops false) = (bif ops.toList.all (dstOk fn.ntmps) then ⟨fun rec k f σ => match runOpsF M call (roundF M call steps) ops ops.toList f σ with | some (f', σ') => rec k f' σ' | none => none⟩ else ⟨fun _ _ _ _ => none⟩) := rfl
        rw [h2, h3, ← runOpsF_eq]
        cases ops.toList.all (dstOk fn.ntmps) <;> rfl
    | _ => rfl
  · rfl
  · rfl
  · rfl

def runF3 (steps : Nat) (K : FuncId) (fn : Func) (n : Nat) : List Item → Fr → St → Option (Value × St) :=
  Nat.rec (motive := fun _ => List Item → Fr → St → Option (Value × St)) (fun _ _ _ => none) (fun _ ih => stepF M call steps K fn ih) n

theorem runF3_eq (steps : Nat) (K : FuncId) (fn : Func) : ∀ n, runF3 M call steps K fn n = runK2 M call steps K fn n
  | 0 => rfl
  | n + 1 => by
    funext k f σ
    show stepF M call steps K fn (runF3 M call steps K fn n) k f σ = stepK2 M call steps K fn (runK2 M call steps K fn n) k f σ
    rw [stepF_eq, runF3_eq steps K fn n]

/-- What is known of a function before it is called. -/
structure FK where
  run : List Value → St → Option (Value × St)
def funK (steps : Nat) (g : FuncId) : FK :=
  match M.P.funcs.toList[g]? with
  | some fn => (match fn.body with
    | some c => bif fn.name != "runtime.NumGoroutine" then ⟨fun args σ => bif Nat.ble args.length fn.ntmps then runF3 M call steps g fn steps [.code c] (initF 0 args .nil) σ else none⟩ else ⟨fun _ _ => none⟩
    | none => ⟨fun _ _ => none⟩)
  | none => ⟨fun _ _ => none⟩
theorem funK_eq (steps : Nat) (g : FuncId) (args : List Value) (σ : St) : (funK M call steps g).run args σ = bodyF2 M call steps g args σ := by
  unfold funK bodyF2
  cases hf : M.P.funcs.toList[g]? with
  | none => rfl
  | some fn =>
    simp only
    cases hc : fn.body with
    | none => rfl
    | some c =>
      simp only
      rw [← runF3_eq]
      cases h : (fn.name != "runtime.NumGoroutine") <;> simp only [cond_true, cond_false, Bool.true_and, Bool.false_and]
end

def ev3 (M : EnvM) (orc : CallF) (steps : Nat) (n : Nat) : CallF :=
  Nat.rec (motive := fun _ => CallF) (fun _ _ _ => none) (fun _ ih g args σ => match orc g args σ with | some r => some r | none => (match funK M ih steps g with | ⟨h⟩ => h args σ)) n

theorem ev3_eq (M : EnvM) (orc : CallF) (steps : Nat) : ∀ n, ev3 M orc steps n = ev2 M orc steps n
  | 0 => rfl
  | n + 1 => by
    funext g args σ
    have h1 : ev3 M orc steps (n + 1) g args σ = (match orc g args σ with | some r => some r | none => (funK M (ev3 M orc steps n) steps g).run args σ) := rfl
    have h2 : ev2 M orc steps (n + 1) g args σ = (match orc g args σ with | some r => some r | none => bodyF2 M (ev2 M orc steps n) steps g args σ) := rfl
    rw [h1, h2, funK_eq, ev3_eq M orc steps n]

theorem ev3_sound {M : EnvM} {orc : CallF} (ho : CallOk M orc) (steps n : Nat) : CallOk M (ev3 M orc steps n) := by
  rw [ev3_eq]
  exact ev2_sound ho steps n
end
end AH
end

section
/-
  AH 37: as AH 24, in calls too: some values are given, by function and slot, and owed.
-/
set_option linter.unusedSimpArgs false
set_option linter.unusedVariables false
set_option linter.unusedSectionVars false
namespace AH
open Go
noncomputable section

abbrev CallP := FuncId → List Value → St → Prop → Option (Value × St × Prop)
def CallOkP (M : EnvM) (call : CallP) : Prop := ∀ g args σ p r σ' p', call g args σ p = some (r, σ', p') → (p' → p) ∧ (p' → WF M.toEnv g args σ (fun r' σ'' => r' = r ∧ σ'' = σ'))
def noCall : CallF := fun _ _ _ => none

section
variable (M : EnvM) (callP : CallP) (call : CallF) (ov : Tmp → Option Value)

def runOpsP (all : Array Oper) (l : List Oper) : Fr → St → Prop → Option (Fr × St × Prop) :=
  List.rec (motive := fun _ => Fr → St → Prop → Option (Fr × St × Prop)) (fun f σ p => some (f, σ, p))
    (fun o _ ih f σ p => match ovO ov o with
      | some u => (match wantedA all f o with
        | some true => ih (putF f o.dst u) σ (p ∧ opQ M.toEnv f σ o.op = some u)
        | some false => ih (putF f o.dst undef) σ p
        | none => none)
      | none => match runOp M noCall all o f σ with
        | some (f', σ') => ih f' σ' p
        | none => match wantedA all f o, o.op with
          | some true, .call c => (match callQ M f c with
            | some (g, args) => (match callP g args σ p with
              | some (v, σ', p') => ih (putF f o.dst v) σ' p'
              | none => none)
            | none => none)
          | _, _ => none) l

def stepKP (fn : Func) (rec : List Item → Fr → St → Prop → Option (Value × St × Prop)) (k : List Item) (f : Fr) (σ : St) (p : Prop) : Option (Value × St × Prop) :=
  match k with
  | [] => (match f.df with | [] => (match resQ M.toEnv f σ fn.results.toList with | some v => some (v, σ, p) | none => none) | _ => none)
  | .code c :: k =>
    (match c with
     | .skip => rec k f σ p
     | .seq x y => rec (.code x :: .code y :: k) f σ p
     | .block id c => rec (.code c :: .inBlock id :: k) f σ p
     | .loop c => rec (.code c :: .inLoop c :: k) f σ p
     | .cond c x y => (match opd f c with
       | some (.bool t) => rec (.code (bif t then x else y) :: k) f σ p
       | _ => none)
     | .exit id => (match exitTo id k with | some k' => rec k' f σ p | none => none)
     | .ret => (match f.df with | [] => (match resQ M.toEnv f σ fn.results.toList with | some v => some (v, σ, p) | none => none) | _ => none)
     | .region _ ops draw =>
       (bif draw then
         (match planOf fn.ntmps ops with
          | some pl => (match runDraw M call ops pl [] f σ with | some (f', σ') => rec k f' σ' p | none => none)
          | none => none)
        else bif ops.toList.all (dstOk fn.ntmps) then
         (match runOpsP M callP ov ops ops.toList f σ p with | some (f', σ', p') => rec k f' σ' p' | none => none)
        else none)
     | _ => none)
  | .inBlock _ :: k => rec k f σ p
  | .inLoop c :: k => rec (.code c :: .inLoop c :: k) f σ p
  | _ => none

def runKP (fn : Func) (n : Nat) : List Item → Fr → St → Prop → Option (Value × St × Prop) :=
  Nat.rec (motive := fun _ => List Item → Fr → St → Prop → Option (Value × St × Prop)) (fun _ _ _ _ => none) (fun _ ih => stepKP M callP call ov fn ih) n

def bodyP (steps : Nat) (g : FuncId) (args : List Value) (σ : St) (p : Prop) : Option (Value × St × Prop) :=
  match M.P.funcs.toList[g]? with
  | some fn => (match fn.body with
    | some c => bif (fn.name != "runtime.NumGoroutine") && Nat.ble args.length fn.ntmps then runKP M callP call ov fn steps [.code c] (initF 0 args .nil) σ p else none
    | none => none)
  | none => none
end

section
variable {M : EnvM} {callP : CallP} {call : CallF} (hcP : CallOkP M callP) (hc : CallOk M call) {ov : Tmp → Option Value}
include hcP hc

theorem runOpsP_sound {nt : Nat} {all : Array Oper} {K : Fr → St → Prop} : ∀ {l : List Oper} {f : Fr} {σ : St} {p : Prop} {f' : Fr} {σ' : St} {p' : Prop}, runOpsP M callP ov all l f σ p = some (f', σ', p') → (p' → p) ∧ (p' → K f' σ' → WL M nt all l f σ K)
  | [], f, σ, p, f', σ', p', h => by
    simp only [runOpsP, Option.some.injEq, Prod.mk.injEq] at h
    obtain ⟨rfl, rfl, rfl⟩ := h
    exact ⟨id, fun _ hK => WL.nil hK⟩
  | o :: r, f, σ, p, f', σ', p', h => by
    have h' : (match ovO ov o with
      | some u => (match wantedA all f o with
        | some true => runOpsP M callP ov all r (putF f o.dst u) σ (p ∧ opQ M.toEnv f σ o.op = some u)
        | some false => runOpsP M callP ov all r (putF f o.dst undef) σ p
        | none => none)
      | none => match runOp M noCall all o f σ with
        | some (f', σ') => runOpsP M callP ov all r f' σ' p
        | none => match wantedA all f o, o.op with
          | some true, .call c => (match callQ M f c with
            | some (g, args) => (match callP g args σ p with
              | some (v, σ', p') => runOpsP M callP ov all r (putF f o.dst v) σ' p'
              | none => none)
            | none => none)
          | _, _ => none) = some (f', σ', p') := h
    clear h
    split at h'
    · rename_i u hu
      split at h'
      · rename_i hw
        obtain ⟨h1, h2⟩ := runOpsP_sound (nt := nt) (K := K) h'
        exact ⟨fun hp => (h1 hp).1, fun hp hK => WL.quiet hw (h1 hp).2 (h2 hp hK)⟩
      · rename_i hw
        obtain ⟨h1, h2⟩ := runOpsP_sound (nt := nt) (K := K) h'
        exact ⟨h1, fun hp hK => WL.skip hw (h2 hp hK)⟩
      · cases h'
    · split at h'
      · rename_i f₁ σ₁ ho
        obtain ⟨h1, h2⟩ := runOpsP_sound (nt := nt) (K := K) h'
        refine ⟨h1, fun hp hK => ?_⟩
        have h3 := h2 hp hK
        unfold runOp at ho
        split at ho
        · rename_i hw
          simp only [Option.some.injEq, Prod.mk.injEq] at ho
          obtain ⟨rfl, rfl⟩ := ho
          exact WL.skip hw h3
        · rename_i hw
          split at ho
          · rename_i v hq
            simp only [Option.some.injEq, Prod.mk.injEq] at ho
            obtain ⟨rfl, rfl⟩ := ho
            exact WL.quiet hw hq h3
          · split at ho
            · rename_i res σ₂ hq
              simp only [Option.some.injEq, Prod.mk.injEq] at ho
              obtain ⟨rfl, rfl⟩ := ho
              refine WL.write hw hq ?_
              cases res <;> exact h3
            · split at ho
              · split at ho
                · simp [noCall] at ho
                · cases ho
              · cases ho
        · cases ho
      · split at h'
        · rename_i c hw hop
          split at h'
          · rename_i g args hcq
            split at h'
            · rename_i v σ₂ p₂ hcall
              obtain ⟨h1, h2⟩ := runOpsP_sound (nt := nt) (K := K) h'
              obtain ⟨h4, h5⟩ := hcP _ _ _ _ _ _ _ hcall
              refine ⟨fun hp => h4 (h1 hp), fun hp hK => ?_⟩
              refine WL.call hop hw hcq ((h5 (h1 hp)).mono fun r' σ'' _ ⟨e1, e2⟩ => ?_)
              subst e1; subst e2
              exact h2 hp hK
            · cases h'
          · cases h'
        · cases h'

theorem runKP_sound {K : FuncId} {fn : Func} (hf : M.P.funcs[K]? = some fn) : ∀ {n : Nat} {k : List Item} {f : Fr} {σ : St} {p : Prop} {r : Value} {σ' : St} {p' : Prop}, runKP M callP call ov fn n k f σ p = some (r, σ', p') → (p' → p) ∧ (p' → VM M K fn.ntmps k f σ (fun r' σ'' => r' = r ∧ σ'' = σ'))
  | 0, k, f, σ, p, r, σ', p', h => by simp [runKP] at h
  | n + 1, k, f, σ, p, r, σ', p', h => by
    have h' : stepKP M callP call ov fn (runKP M callP call ov fn n) k f σ p = some (r, σ', p') := h
    clear h
    unfold stepKP at h'
    split at h'
    · split at h'
      · rename_i hdf
        split at h'
        · rename_i v hv
          simp only [Option.some.injEq, Prod.mk.injEq] at h'
          obtain ⟨rfl, rfl, rfl⟩ := h'
          exact ⟨id, fun _ => VM.done hdf hf hv ⟨rfl, rfl⟩⟩
        · cases h'
      · cases h'
    · split at h'
      · exact ⟨(runKP_sound hf h').1, fun hp => VM.skip ((runKP_sound hf h').2 hp)⟩
      · exact ⟨(runKP_sound hf h').1, fun hp => VM.seq ((runKP_sound hf h').2 hp)⟩
      · exact ⟨(runKP_sound hf h').1, fun hp => VM.block ((runKP_sound hf h').2 hp)⟩
      · exact ⟨(runKP_sound hf h').1, fun hp => VM.loop1 ((runKP_sound hf h').2 hp)⟩
      · split at h'
        · rename_i t hcond
          exact ⟨(runKP_sound hf h').1, fun hp => VM.cond hcond ((runKP_sound hf h').2 hp)⟩
        · cases h'
      · split at h'
        · rename_i k' hx
          exact ⟨(runKP_sound hf h').1, fun hp => VM.exit hx ((runKP_sound hf h').2 hp)⟩
        · cases h'
      · split at h'
        · rename_i hdf
          split at h'
          · rename_i v hv
            simp only [Option.some.injEq, Prod.mk.injEq] at h'
            obtain ⟨rfl, rfl, rfl⟩ := h'
            exact ⟨id, fun _ => VM.ret hdf hf hv ⟨rfl, rfl⟩⟩
          · cases h'
        · cases h'
      · rename_i id ops draw
        cases draw with
        | true =>
          simp only [cond_true] at h'
          split at h'
          · rename_i pl hp
            split at h'
            · rename_i f₁ σ₁ hrun
              have hgood : planGood fn.ntmps ops pl = true := by
                unfold planOf at hp
                split at hp
                · rename_i p' _
                  cases hb : planGood fn.ntmps ops p' with
                  | false => simp [hb] at hp
                  | true => simp only [hb, cond_true, Option.some.injEq] at hp; subst hp; exact hb
                · cases hp
              exact ⟨(runKP_sound hf h').1, fun hp => VM.draw pl hgood (runDraw_sound hc hrun ((runKP_sound hf h').2 hp))⟩
            · cases h'
          · cases h'
        | false =>
          simp only [cond_false] at h'
          cases hb : ops.toList.all (dstOk fn.ntmps) with
          | false => simp [hb] at h'
          | true =>
            simp only [hb, cond_true] at h'
            split at h'
            · rename_i f₁ σ₁ p₁ hrun
              obtain ⟨h1, h2⟩ := runKP_sound hf h'
              exact ⟨fun hp => (runOpsP_sound hcP hc (nt := fn.ntmps) (K := fun _ _ => True) hrun).1 (h1 hp), fun hp => VM.region hb ((runOpsP_sound hcP hc hrun).2 (h1 hp) (h2 hp))⟩
            · cases h'
      · cases h'
    · exact ⟨(runKP_sound hf h').1, fun hp => VM.inBlock ((runKP_sound hf h').2 hp)⟩
    · exact ⟨(runKP_sound hf h').1, fun hp => VM.inLoop ((runKP_sound hf h').2 hp)⟩
    · cases h'


theorem bodyP_sound {steps : Nat} {g : FuncId} {args : List Value} {σ : St} {p : Prop} {r : Value} {σ' : St} {p' : Prop} (h : bodyP M callP call ov steps g args σ p = some (r, σ', p')) : (p' → p) ∧ (p' → WF M.toEnv g args σ (fun r' σ'' => r' = r ∧ σ'' = σ')) := by
  unfold bodyP at h
  split at h
  · rename_i fn hf
    have hf' : M.P.funcs[g]? = some fn := by rw [← hf]; simp
    split at h
    · rename_i c hb
      cases hq : ((fn.name != "runtime.NumGoroutine") && Nat.ble args.length fn.ntmps) with
      | false => simp [hq] at h
      | true =>
        simp only [hq, cond_true] at h
        simp only [Bool.and_eq_true, bne, Bool.not_eq_true', Nat.ble_eq] at hq
        obtain ⟨h1, h2⟩ := runKP_sound hcP hc hf' h
        exact ⟨h1, fun hp => WF.of_VM hf' hq.1 hb hq.2 (h2 hp)⟩
    · cases h
  · cases h
end

/-- Values given by function and slot. -/
def evP (M : EnvM) (orc call : CallF) (ov : FuncId → Tmp → Option Value) (steps : Nat) (n : Nat) : CallP :=
  Nat.rec (motive := fun _ => CallP) (fun _ _ _ _ => none) (fun _ ih g args σ p => match orc g args σ with | some (r, σ') => some (r, σ', p) | none => bodyP M ih call (ov g) steps g args σ p) n

theorem evP_sound {M : EnvM} {orc call : CallF} (ho : CallOk M orc) (hc : CallOk M call) {ov : FuncId → Tmp → Option Value} (steps : Nat) : ∀ n, CallOkP M (evP M orc call ov steps n)
  | 0 => fun g args σ p r σ' p' h => by simp [evP] at h
  | n + 1 => fun g args σ p r σ' p' h => by
    have h' : (match orc g args σ with | some (r, σ') => some (r, σ', p) | none => bodyP M (evP M orc call ov steps n) call (ov g) steps g args σ p) = some (r, σ', p') := h
    split at h'
    · rename_i r₁ σ₁ hr
      simp only [Option.some.injEq, Prod.mk.injEq] at h'
      obtain ⟨rfl, rfl, rfl⟩ := h'
      exact ⟨id, fun _ => ho g args σ _ _ hr⟩
    · exact bodyP_sound (evP_sound ho hc steps n) hc h'

theorem okP_true {M : EnvM} {call : CallP} (hc : CallOkP M call) {K : FuncId} {args : List Value} {p : Prop} (h : okO (call K args St.empty True) = some p) (hp : p) (hs : ∀ v ∈ args, ∀ ρ : Nat → Loc, ren ρ v = v) (w : World) :
    Calls M.P K args.toArray w (fun e w' => e = .returned (.bool true) ∧ Go.RowKit.Below w.heap.size w w') := by
  unfold okO at h
  split at h
  · rename_i σ' q hcall
    simp only [Option.some.injEq] at h
    subst h
    have hsc : Scs St.empty.next args := fun v hv ρ ρ' _ => by rw [hs v hv, hs v hv]
    have := WF.calls ((hc _ _ _ _ _ _ _ hcall).2 hp) (Rel.empty (fun _ => ⟨0, 0, 0⟩) w) hsc (fun i => rfl)
    have e0 : args.map (ren fun _ => ⟨0, 0, 0⟩) = args := by
      have := List.map_congr_left (f := ren fun _ => ⟨0, 0, 0⟩) (g := id) fun v hv => hs v hv _
      rw [this, List.map_id]
    rw [e0] at this
    refine this.mono fun e w' ⟨r, σ'', ρ', he, ⟨hr, _⟩, hb⟩ => ⟨?_, hb⟩
    subst hr
    rw [he, ren_bool]
  · cases h
end
end AH
end

section
/-
  AH 38: a run in which some answers are given, and owed; it halts at loops.
-/
set_option linter.unusedSimpArgs false
set_option linter.unusedVariables false
set_option linter.unusedSectionVars false
namespace AH
open Go
noncomputable section

/-- An answer that is given: of a quiet operation; of one that writes; of a call. -/
inductive Giv
  | no
  | q (v : Value)
  | w (r : Option Value) (σ : St)
  | c (v : Value) (σ : St)

/-- A run's end, or the place where it halts; and what is owed. -/
inductive RS
  | fin (v : Value) (σ : St) (p : Prop)
  | stop (k : List Item) (f : Fr) (σ : St) (p : Prop)

def heldP (σ : St) : List HE → Prop
  | [] => True
  | x :: r => x.2.in σ ∧ heldP σ r
theorem heldP_in {σ : St} : ∀ {H : List HE}, heldP σ H → ∀ x ∈ H, x.2.in σ
  | [], _, x, hx => by simp at hx
  | y :: r, h, x, hx => by
    rcases List.mem_cons.1 hx with rfl | hx
    · exact h.1
    · exact heldP_in h.2 x hx
/-- Owed besides: that these hold. -/
def heldO (σ : St) (H : List HE) (p : Prop) : Prop := match H with
  | [] => p
  | H => p ∧ heldP σ H
theorem heldO_and {σ : St} {H : List HE} {p : Prop} (h : heldO σ H p) : p ∧ ∀ x ∈ H, x.2.in σ := by
  cases H with
  | nil => exact ⟨h, fun x hx => by simp at hx⟩
  | cons x r => exact ⟨h.1, heldP_in h.2⟩

/-- What a quiet operation reads that comes to this value. -/
def givHolds (E : Env) (f : Fr) (σ : St) (u : Value) : Op → List Hold
  | .load t a => match opd f a, E.ty t with
    | some (.pointer (some ad)), some i => cellHolds ad.block ad.off (bif i.agg then u.cells.toList else [u])
    | _, _ => []
  | op => opHolds E f σ op
theorem givHolds_eq {E : Env} {f : Fr} {σ : St} {u : Value} {op : Op} (h : opQ E f σ op = some u) : opHolds E f σ op = givHolds E f σ u op := by
  cases op with
  | load t a =>
    simp only [opQ] at h
    simp only [opHolds, givHolds]
    split at h
    · rename_i ad i ha ht
      simp only [ldVar] at h
      cases hA : i.agg with
      | true =>
        simp only [hA, cond_true] at h ⊢
        split at h
        · rename_i l hl
          simp only [Option.some.injEq] at h
          subst h
          simp only [ha, ht, hA, cond_true, hl]
          rfl
        · cases h
      | false =>
        simp only [hA, cond_false] at h ⊢
        split at h
        · rename_i v hl
          simp only [Option.some.injEq] at h
          subst h
          simp only [ha, ht, hA, cond_false, hl]
        · cases h
    · cases h
  | _ => rfl

section
variable (M : EnvM) (call : CallF) (giv : Oper → Giv)

def runOpS (all : Array Oper) (o : Oper) (f : Fr) (σ : St) (p : Prop) : Option (Fr × St × Prop) :=
  match giv o with
  | .no => (match runOp M call all o f σ with | some (f', σ') => some (f', σ', p) | none => none)
  | .q u => (match wantedA all f o with
    | some true => some (putF f o.dst u, σ, p ∧ opQ M.toEnv f σ o.op = some u)
    | some false => some (putF f o.dst undef, σ, p)
    | none => none)
  | .w r σ' => (match wantedA all f o with
    | some true => some (putF f o.dst (match r with | some v => v | none => undef), σ', p ∧ opW M.toEnv f σ o.op = some (r, σ'))
    | some false => some (putF f o.dst undef, σ, p)
    | none => none)
  | .c v σ' => (match wantedA all f o with
    | some true => (match o.op with
      | .call c => (match callQ M f c with
        | some (g, args) => some (putF f o.dst v, σ', p ∧ WF M.toEnv g args σ (fun r' σ'' => r' = v ∧ σ'' = σ'))
        | none => none)
      | _ => none)
    | some false => some (putF f o.dst undef, σ, p)
    | none => none)

def runOpsS (all : Array Oper) (l : List Oper) : Fr → St → Prop → Option (Fr × St × Prop) :=
  List.rec (motive := fun _ => Fr → St → Prop → Option (Fr × St × Prop)) (fun f σ p => some (f, σ, p))
    (fun o _ ih f σ p => match runOpS M call giv all o f σ p with | some (f', σ', p') => ih f' σ' p' | none => none) l

def runDrawS (ops : Array Oper) (l : List Ent) : List HE → Fr → St → Prop → Option (Fr × St × Prop) :=
  List.rec (motive := fun _ => List HE → Fr → St → Prop → Option (Fr × St × Prop)) (fun _ f σ p => some (f, σ, p))
    (fun en _ ih H f σ p =>
      match en with
      | .p A sub =>
        bif grpOk ops A && nodupB A then
          (match runPend M call ops A (bare ops f (A ++ idxOf sub)) sub H (bare ops f A) σ with
          | some (H', f', σ') => (match adopt M.toEnv ops (bare ops f (A ++ idxOf sub)) A f' σ' with
            | some (f'', σ'') => ih H' f'' σ'' (heldO σ'' H' p)
            | none => none)
          | none => none)
        else none
      | .g i A =>
        bif grpOk ops (i :: A) && nodupB (i :: A) then
          (match ops.toList[i]? with
          | none => none
          | some o =>
            match wantedA ops (bare ops f (i :: A)) o with
            | some true =>
              (match giv o with
               | .c v σ' => (match o.op with
                 | .call c => (match callQ M (bare ops f (i :: A)) c with
                   | some (g, args) => (match adopt M.toEnv ops (bare ops f (i :: A)) A (putF (bare ops f (i :: A)) o.dst v) σ' with
                       | some (f'', σ'') => ih (rls i H) f'' σ'' (heldO σ'' (rls i H) (heldO σ' (rls i H) (p ∧ WF M.toEnv g args σ (fun r' σ'' => r' = v ∧ σ'' = σ'))))
                       | none => none)
                   | none => none)
                 | _ => none)
               | .no => (match opW M.toEnv (bare ops f (i :: A)) σ o.op with
                 | some (r, σ') => (match adopt M.toEnv ops (bare ops f (i :: A)) A (putF (bare ops f (i :: A)) o.dst (match r with | some v => v | none => undef)) σ' with
                   | some (f'', σ'') => ih (rls i H) f'' σ'' (heldO σ'' (rls i H) (heldO σ' (rls i H) p))
                   | none => none)
                 | none => match o.op with
                   | .call c => (match callQ M (bare ops f (i :: A)) c with
                     | some (g, args) => (match call g args σ with
                       | some (v, σ') => (match adopt M.toEnv ops (bare ops f (i :: A)) A (putF (bare ops f (i :: A)) o.dst v) σ' with
                         | some (f'', σ'') => ih (rls i H) f'' σ'' (heldO σ'' (rls i H) (heldO σ' (rls i H) p))
                         | none => none)
                       | none => none)
                     | none => none)
                   | _ => none)
               | _ => none)
            | _ => none)
        else none
      | .q i js =>
        (match ops.toList[i]? with
        | none => none
        | some o =>
          bif H.all (fun x => !x.1.contains i) then
            (match wantedA ops f o with
            | some false => ih H (putF f o.dst undef) σ p
            | some true =>
              (match giv o with
               | .q u => ih ((givHolds M.toEnv f σ u o.op).map (fun x => (js, x)) ++ H) (putF f o.dst u) σ (p ∧ opQ M.toEnv f σ o.op = some u)
               | .no => (match opQ M.toEnv f σ o.op with
                 | some v => ih ((opHolds M.toEnv f σ o.op).map (fun x => (js, x)) ++ H) (putF f o.dst v) σ p
                 | none => none)
               | _ => none)
            | none => none)
          else none)
      | .e i =>
        (match ops.toList[i]? with
        | none => none
        | some o =>
          match wantedA ops f o with
          | some false => ih H (putF f o.dst undef) σ p
          | some true =>
            (match giv o with
             | .q u => ih H (putF f o.dst u) σ (p ∧ opQ M.toEnv f σ o.op = some u)
             | .w r σ' => ih (rls i H) (putF f o.dst (match r with | some v => v | none => undef)) σ' (heldO σ' (rls i H) (p ∧ opW M.toEnv f σ o.op = some (r, σ')))
             | .c v σ' => (match o.op with
               | .call c => (match callQ M f c with
                 | some (g, args) => ih (rls i H) (putF f o.dst v) σ' (heldO σ' (rls i H) (p ∧ WF M.toEnv g args σ (fun r' σ'' => r' = v ∧ σ'' = σ')))
                 | none => none)
               | _ => none)
             | .no => (match opQ M.toEnv f σ o.op with
               | some v => ih H (putF f o.dst v) σ p
               | none =>
                 (match opW M.toEnv f σ o.op with
                  | some (r, σ') => ih (rls i H) (putF f o.dst (match r with | some v => v | none => undef)) σ' (heldO σ' (rls i H) p)
                  | none => match o.op with
                    | .call c => (match callQ M f c with
                      | some (g, args) => (match call g args σ with
                        | some (v, σ') => ih (rls i H) (putF f o.dst v) σ' (heldO σ' (rls i H) p)
                        | none => none)
                      | none => none)
                    | _ => none)))
          | none => none)) l

/-- Does it begin with a step of a map's iterator? -/
def isNext (ops : Array Oper) : Bool := match ops.toList with
  | o :: _ => (match o.op with | .next _ false => true | _ => false)
  | [] => false

def stepS (fn : Func) (rec : List Item → Fr → St → Prop → Option RS) (k : List Item) (f : Fr) (σ : St) (p : Prop) : Option RS :=
  match k with
  | [] => (match f.df with | [] => (match resQ M.toEnv f σ fn.results.toList with | some v => some (.fin v σ p) | none => none) | _ => none)
  | .code c :: k =>
    (match c with
     | .skip => rec k f σ p
     | .seq x y => rec (.code x :: .code y :: k) f σ p
     | .block id c => rec (.code c :: .inBlock id :: k) f σ p
     | .cond c x y => (match opd f c with
       | some (.bool t) => rec (.code (bif t then x else y) :: k) f σ p
       | _ => none)
     | .exit id => (match exitTo id k with | some k' => rec k' f σ p | none => none)
     | .ret => (match f.df with | [] => (match resQ M.toEnv f σ fn.results.toList with | some v => some (.fin v σ p) | none => none) | _ => none)
     | .region id ops draw =>
       (bif isNext ops then some (.stop (.code (.region id ops draw) :: k) f σ p) else bif draw then
         (match planOf fn.ntmps ops with
          | some pl => (match runDrawS M call giv ops pl [] f σ p with | some (f', σ', p') => rec k f' σ' p' | none => none)
          | none => none)
        else bif ops.toList.all (dstOk fn.ntmps) then
         (match runOpsS M call giv ops ops.toList f σ p with | some (f', σ', p') => rec k f' σ' p' | none => none)
        else none)
     | c => some (.stop (.code c :: k) f σ p))
  | .inBlock _ :: k => rec k f σ p
  | i :: k => some (.stop (i :: k) f σ p)

def runS (fn : Func) (n : Nat) : List Item → Fr → St → Prop → Option RS :=
  Nat.rec (motive := fun _ => List Item → Fr → St → Prop → Option RS) (fun k f σ p => some (.stop k f σ p)) (fun _ ih => stepS M call giv fn ih) n
end

def RS.ow : RS → Prop
  | .fin _ _ p => p
  | .stop _ _ _ p => p
/-- What is left to be shown behind a run. -/
def RS.post (nB : Nat) (M : EnvM) (K : FuncId) (nt : Nat) (R : Value → St → Prop) : RS → Prop
  | .fin v σ _ => R v σ
  | .stop k f σ _ => VB nB M K nt k f σ R

section
variable {M : EnvM} {call : CallF} (hc : CallOk M call) {giv : Oper → Giv}
include hc

omit hc in
theorem getD_eq (r : Option Value) : (match r with | some v => v | none => undef) = r.getD undef := by cases r <;> rfl
theorem runOpS_sound {nt : Nat} {all : Array Oper} {K : Fr → St → Prop} {o : Oper} {rest : List Oper} {f : Fr} {σ : St} {p : Prop} {f' : Fr} {σ' : St} {p' : Prop} (h : runOpS M call giv all o f σ p = some (f', σ', p')) :
    (p' → p) ∧ (p' → WL M nt all rest f' σ' K → WL M nt all (o :: rest) f σ K) := by
  unfold runOpS at h
  split at h
  · split at h
    · rename_i f₁ σ₁ ho
      simp only [Option.some.injEq, Prod.mk.injEq] at h
      obtain ⟨rfl, rfl, rfl⟩ := h
      refine ⟨id, fun _ h3 => ?_⟩
      unfold runOp at ho
      split at ho
      · rename_i hw
        simp only [Option.some.injEq, Prod.mk.injEq] at ho
        obtain ⟨rfl, rfl⟩ := ho
        exact WL.skip hw h3
      · rename_i hw
        split at ho
        · rename_i v hq
          simp only [Option.some.injEq, Prod.mk.injEq] at ho
          obtain ⟨rfl, rfl⟩ := ho
          exact WL.quiet hw hq h3
        · split at ho
          · rename_i res σ₂ hq
            simp only [Option.some.injEq, Prod.mk.injEq] at ho
            obtain ⟨rfl, rfl⟩ := ho
            refine WL.write hw hq ?_
            cases res <;> exact h3
          · split at ho
            · rename_i c hop
              split at ho
              · rename_i g args hcq
                split at ho
                · rename_i v σ₂ hcall
                  simp only [Option.some.injEq, Prod.mk.injEq] at ho
                  obtain ⟨rfl, rfl⟩ := ho
                  refine WL.call hop hw hcq ((hc _ _ _ _ _ hcall).mono fun r' σ'' _ ⟨e1, e2⟩ => ?_)
                  subst e1; subst e2
                  exact h3
                · cases ho
              · cases ho
            · cases ho
      · cases ho
    · cases h
  · split at h
    · rename_i hw
      simp only [Option.some.injEq, Prod.mk.injEq] at h
      obtain ⟨rfl, rfl, rfl⟩ := h
      exact ⟨fun hp => hp.1, fun hp h3 => WL.quiet hw hp.2 h3⟩
    · rename_i hw
      simp only [Option.some.injEq, Prod.mk.injEq] at h
      obtain ⟨rfl, rfl, rfl⟩ := h
      exact ⟨id, fun _ h3 => WL.skip hw h3⟩
    · cases h
  · split at h
    · rename_i hw
      simp only [Option.some.injEq, Prod.mk.injEq] at h
      obtain ⟨rfl, rfl, rfl⟩ := h
      refine ⟨fun hp => hp.1, fun hp h3 => WL.write hw hp.2 ?_⟩
      rw [← getD_eq]
      exact h3
    · rename_i hw
      simp only [Option.some.injEq, Prod.mk.injEq] at h
      obtain ⟨rfl, rfl, rfl⟩ := h
      exact ⟨id, fun _ h3 => WL.skip hw h3⟩
    · cases h
  · split at h
    · rename_i hw
      split at h
      · rename_i c hop
        split at h
        · rename_i g args hcq
          simp only [Option.some.injEq, Prod.mk.injEq] at h
          obtain ⟨rfl, rfl, rfl⟩ := h
          refine ⟨fun hp => hp.1, fun hp h3 => WL.call hop hw hcq (hp.2.mono fun r' σ'' _ ⟨e1, e2⟩ => ?_)⟩
          subst e1; subst e2
          exact h3
        · cases h
      · cases h
    · rename_i hw
      simp only [Option.some.injEq, Prod.mk.injEq] at h
      obtain ⟨rfl, rfl, rfl⟩ := h
      exact ⟨id, fun _ h3 => WL.skip hw h3⟩
    · cases h

theorem runOpsS_sound {nt : Nat} {all : Array Oper} {K : Fr → St → Prop} : ∀ {l : List Oper} {f : Fr} {σ : St} {p : Prop} {f' : Fr} {σ' : St} {p' : Prop}, runOpsS M call giv all l f σ p = some (f', σ', p') → (p' → p) ∧ (p' → K f' σ' → WL M nt all l f σ K)
  | [], f, σ, p, f', σ', p', h => by
    simp only [runOpsS, Option.some.injEq, Prod.mk.injEq] at h
    obtain ⟨rfl, rfl, rfl⟩ := h
    exact ⟨id, fun _ hK => WL.nil hK⟩
  | o :: r, f, σ, p, f', σ', p', h => by
    have h' : (match runOpS M call giv all o f σ p with | some (f₁, σ₁, p₁) => runOpsS M call giv all r f₁ σ₁ p₁ | none => none) = some (f', σ', p') := h
    clear h
    split at h'
    · rename_i f₁ σ₁ p₁ ho
      obtain ⟨h1, h2⟩ := runOpsS_sound (nt := nt) (K := K) h'
      obtain ⟨h3, h4⟩ := runOpS_sound hc (nt := nt) (K := K) (rest := r) ho
      exact ⟨fun hp => h3 (h1 hp), fun hp hK => h4 (h1 hp) (h2 hp hK)⟩
    · cases h'

theorem runDrawS_sound {nt : Nat} {ops : Array Oper} {K : Fr → St → Prop} : ∀ {l : List Ent} {H : List HE} {f : Fr} {σ : St} {p : Prop} {f' : Fr} {σ' : St} {p' : Prop}, runDrawS M call giv ops l H f σ p = some (f', σ', p') → (p' → p) ∧ (p' → K f' σ' → DP M nt ops l H f σ K)
  | [], H, f, σ, p, f', σ', p', h => by
    simp only [runDrawS, Option.some.injEq, Prod.mk.injEq] at h
    obtain ⟨rfl, rfl, rfl⟩ := h
    exact ⟨id, fun _ hK => DP.nil hK⟩
  | .p A sub :: r, H, f, σ, p, f', σ', p', h => by
    have h' : (bif grpOk ops A && nodupB A then
          (match runPend M call ops A (bare ops f (A ++ idxOf sub)) sub H (bare ops f A) σ with
          | some (H', f', σ') => (match adopt M.toEnv ops (bare ops f (A ++ idxOf sub)) A f' σ' with
            | some (f'', σ'') => runDrawS M call giv ops r H' f'' σ'' (heldO σ'' H' p)
            | none => none)
          | none => none)
        else none) = some (f', σ', p') := h
    clear h
    cases hb0 : (grpOk ops A && nodupB A) with
    | false => simp [hb0] at h'
    | true =>
      simp only [hb0, cond_true] at h'
      simp only [Bool.and_eq_true] at hb0
      split at h'
      · rename_i H₁ f₁ σ₁ hrun
        split at h'
        · rename_i f₂ σ₂ ha
          · have hok : Ok M ops A (bare ops f (A ++ idxOf sub)) := ⟨hb0.1, fun x t hx ht => bare_none (List.mem_append.2 (.inl hx)) ht, adopt_all ha⟩
            obtain ⟨i1, i2⟩ := runDrawS_sound h'
            exact ⟨fun hp => (heldO_and (i1 hp)).1, fun hp hK => DP.pend hok hb0.2 rfl (runPend_sound hc hok hrun (DPP.end hok ha (heldO_and (i1 hp)).2 (i2 hp hK)))⟩
        · cases h'
      · cases h'
  | .g i A :: r, H, f, σ, p, f', σ', p', h => by
    have h' : (bif grpOk ops (i :: A) && nodupB (i :: A) then
          (match ops.toList[i]? with
          | none => none
          | some o =>
            match wantedA ops (bare ops f (i :: A)) o with
            | some true =>
              (match giv o with
               | .c v σ' => (match o.op with
                 | .call c => (match callQ M (bare ops f (i :: A)) c with
                   | some (g, args) => (match adopt M.toEnv ops (bare ops f (i :: A)) A (putF (bare ops f (i :: A)) o.dst v) σ' with
                       | some (f'', σ'') => runDrawS M call giv ops r (rls i H) f'' σ'' (heldO σ'' (rls i H) (heldO σ' (rls i H) (p ∧ WF M.toEnv g args σ (fun r' σ'' => r' = v ∧ σ'' = σ'))))
                       | none => none)
                   | none => none)
                 | _ => none)
               | .no => (match opW M.toEnv (bare ops f (i :: A)) σ o.op with
                 | some (r', σ') => (match adopt M.toEnv ops (bare ops f (i :: A)) A (putF (bare ops f (i :: A)) o.dst (match r' with | some v => v | none => undef)) σ' with
                   | some (f'', σ'') => runDrawS M call giv ops r (rls i H) f'' σ'' (heldO σ'' (rls i H) (heldO σ' (rls i H) p))
                   | none => none)
                 | none => match o.op with
                   | .call c => (match callQ M (bare ops f (i :: A)) c with
                     | some (g, args) => (match call g args σ with
                       | some (v, σ') => (match adopt M.toEnv ops (bare ops f (i :: A)) A (putF (bare ops f (i :: A)) o.dst v) σ' with
                         | some (f'', σ'') => runDrawS M call giv ops r (rls i H) f'' σ'' (heldO σ'' (rls i H) (heldO σ' (rls i H) p))
                         | none => none)
                       | none => none)
                     | none => none)
                   | _ => none)
               | _ => none)
            | _ => none)
        else none) = some (f', σ', p') := h
    clear h
    cases hb0 : (grpOk ops (i :: A) && nodupB (i :: A)) with
    | false => simp [hb0] at h'
    | true =>
      simp only [hb0, cond_true] at h'
      simp only [Bool.and_eq_true] at hb0
      split at h'
      · cases h'
      · rename_i o hop
        have hdst : dstOf ops i = o.dst := by simp only [dstOf, hop]
        split at h'
        · rename_i hw
          split at h'
          · rename_i v σ₂ hg
            split at h'
            · rename_i c hopc
              split at h'
              · rename_i g args hcq
                split at h'
                · rename_i f₃ σ₃ ha
                  obtain ⟨i1, i2⟩ := runDrawS_sound h'
                  refine ⟨fun hp => (heldO_and (heldO_and (i1 hp)).1).1.1, fun hp hK => ?_⟩
                  obtain ⟨hb1, hb3⟩ := heldO_and (i1 hp)
                  obtain ⟨⟨_, hwf⟩, hb2⟩ := heldO_and hb1
                  refine DP.groupC hb0.1 hb0.2 hop hopc hw hcq (adopt_all ha) (hwf.mono fun r' σ'' _ ⟨e1, e2⟩ => ?_)
                  subst e1; subst e2
                  exact ⟨hb2, f₃, σ₃, by rw [hdst]; exact ha, hb3, i2 hp hK⟩
                · cases h'
              · cases h'
            · cases h'
          · split at h'
            · rename_i res σ₂ hq
              split at h'
              · rename_i f₃ σ₃ ha
                · obtain ⟨i1, i2⟩ := runDrawS_sound h'
                  refine ⟨fun hp => (heldO_and (heldO_and (i1 hp)).1).1, fun hp hK => DP.groupW (res := res) (σ' := σ₂) (f'' := f₃) (σ'' := σ₃) hb0.1 hb0.2 hop hw hq (heldO_and (heldO_and (i1 hp)).1).2 ?_ (heldO_and (i1 hp)).2 (i2 hp hK)⟩
                  rw [← ha]; cases res <;> rfl
              · cases h'
            · split at h'
              · rename_i c hopc
                split at h'
                · rename_i g args hcq
                  split at h'
                  · rename_i v σ₂ hcall
                    split at h'
                    · rename_i f₃ σ₃ ha
                      · obtain ⟨i1, i2⟩ := runDrawS_sound h'
                        refine ⟨fun hp => (heldO_and (heldO_and (i1 hp)).1).1, fun hp hK => DP.groupC hb0.1 hb0.2 hop hopc hw hcq (adopt_all ha) ((hc _ _ _ _ _ hcall).mono fun r' σ'' _ ⟨e1, e2⟩ => ?_)⟩
                        subst e1; subst e2
                        exact ⟨(heldO_and (heldO_and (i1 hp)).1).2, f₃, σ₃, by rw [hdst]; exact ha, (heldO_and (i1 hp)).2, i2 hp hK⟩
                    · cases h'
                  · cases h'
                · cases h'
              · cases h'
          · cases h'
        · cases h'
  | .q i js :: r, H, f, σ, p, f', σ', p', h => by
    have h' : (match ops.toList[i]? with
        | none => none
        | some o =>
          bif H.all (fun x => !x.1.contains i) then
            (match wantedA ops f o with
            | some false => runDrawS M call giv ops r H (putF f o.dst undef) σ p
            | some true =>
              (match giv o with
               | .q u => runDrawS M call giv ops r ((givHolds M.toEnv f σ u o.op).map (fun x => (js, x)) ++ H) (putF f o.dst u) σ (p ∧ opQ M.toEnv f σ o.op = some u)
               | .no => (match opQ M.toEnv f σ o.op with
                 | some v => runDrawS M call giv ops r ((opHolds M.toEnv f σ o.op).map (fun x => (js, x)) ++ H) (putF f o.dst v) σ p
                 | none => none)
               | _ => none)
            | none => none)
          else none) = some (f', σ', p') := h
    clear h
    split at h'
    · cases h'
    · rename_i o hop
      have hop' : ops[i]? = some o := by rw [← hop]; simp
      cases hb : H.all (fun x => !x.1.contains i) with
      | false => simp only [hb, cond_false] at h'; cases h'
      | true =>
        simp only [hb, cond_true] at h'
        have hi : ∀ x ∈ H, x.1.contains i = false := fun x hx => by simpa using List.all_eq_true.1 hb x hx
        split at h'
        · rename_i hw
          obtain ⟨i1, i2⟩ := runDrawS_sound h'
          exact ⟨i1, fun hp hK => DP.skip hop' hw hi (i2 hp hK)⟩
        · rename_i hw
          split at h'
          · rename_i u hg
            obtain ⟨i1, i2⟩ := runDrawS_sound h'
            exact ⟨fun hp => (i1 hp).1, fun hp hK => DP.quiet hop' hw (i1 hp).2 hi (by rw [givHolds_eq (i1 hp).2]; exact i2 hp hK)⟩
          · split at h'
            · rename_i v hq
              obtain ⟨i1, i2⟩ := runDrawS_sound h'
              exact ⟨i1, fun hp hK => DP.quiet hop' hw hq hi (i2 hp hK)⟩
            · cases h'
          · cases h'
        · cases h'
  | .e i :: r, H, f, σ, p, f', σ', p', h => by
    have h' : (match ops.toList[i]? with
        | none => none
        | some o =>
          match wantedA ops f o with
          | some false => runDrawS M call giv ops r H (putF f o.dst undef) σ p
          | some true =>
            (match giv o with
             | .q u => runDrawS M call giv ops r H (putF f o.dst u) σ (p ∧ opQ M.toEnv f σ o.op = some u)
             | .w r' σ' => runDrawS M call giv ops r (rls i H) (putF f o.dst (match r' with | some v => v | none => undef)) σ' (heldO σ' (rls i H) (p ∧ opW M.toEnv f σ o.op = some (r', σ')))
             | .c v σ' => (match o.op with
               | .call c => (match callQ M f c with
                 | some (g, args) => runDrawS M call giv ops r (rls i H) (putF f o.dst v) σ' (heldO σ' (rls i H) (p ∧ WF M.toEnv g args σ (fun r' σ'' => r' = v ∧ σ'' = σ')))
                 | none => none)
               | _ => none)
             | .no => (match opQ M.toEnv f σ o.op with
               | some v => runDrawS M call giv ops r H (putF f o.dst v) σ p
               | none =>
                 (match opW M.toEnv f σ o.op with
                  | some (r', σ') => runDrawS M call giv ops r (rls i H) (putF f o.dst (match r' with | some v => v | none => undef)) σ' (heldO σ' (rls i H) p)
                  | none => match o.op with
                    | .call c => (match callQ M f c with
                      | some (g, args) => (match call g args σ with
                        | some (v, σ') => runDrawS M call giv ops r (rls i H) (putF f o.dst v) σ' (heldO σ' (rls i H) p)
                        | none => none)
                      | none => none)
                    | _ => none)))
          | none => none) = some (f', σ', p') := h
    clear h
    split at h'
    · cases h'
    · rename_i o hop
      have hop' : ops[i]? = some o := by rw [← hop]; simp
      split at h'
      · rename_i hw
        obtain ⟨i1, i2⟩ := runDrawS_sound h'
        exact ⟨i1, fun hp hK => DP.skipE hop' hw (i2 hp hK)⟩
      · rename_i hw
        split at h'
        · rename_i u hg
          obtain ⟨i1, i2⟩ := runDrawS_sound h'
          exact ⟨fun hp => (i1 hp).1, fun hp hK => DP.quietE hop' hw (i1 hp).2 (i2 hp hK)⟩
        · rename_i r' σ₂ hg
          obtain ⟨i1, i2⟩ := runDrawS_sound h'
          refine ⟨fun hp => (heldO_and (i1 hp)).1.1, fun hp hK => ?_⟩
          obtain ⟨⟨_, hq⟩, hb⟩ := heldO_and (i1 hp)
          refine DP.write hop' hw hq hb ?_
          cases r' <;> exact i2 hp hK
        · rename_i v σ₂ hg
          split at h'
          · rename_i c hopc
            split at h'
            · rename_i g args hcq
              obtain ⟨i1, i2⟩ := runDrawS_sound h'
              refine ⟨fun hp => (heldO_and (i1 hp)).1.1, fun hp hK => ?_⟩
              obtain ⟨⟨_, hwf⟩, hb⟩ := heldO_and (i1 hp)
              refine DP.call hop' hopc hw hcq (hwf.mono fun r' σ'' _ ⟨e1, e2⟩ => ?_)
              subst e1; subst e2
              exact ⟨hb, i2 hp hK⟩
            · cases h'
          · cases h'
        · split at h'
          · rename_i v hq
            obtain ⟨i1, i2⟩ := runDrawS_sound h'
            exact ⟨i1, fun hp hK => DP.quietE hop' hw hq (i2 hp hK)⟩
          · split at h'
            · rename_i res σ₂ hq
              · obtain ⟨i1, i2⟩ := runDrawS_sound h'
                refine ⟨fun hp => (heldO_and (i1 hp)).1, fun hp hK => DP.write hop' hw hq (heldO_and (i1 hp)).2 ?_⟩
                cases res <;> exact i2 hp hK
            · split at h'
              · rename_i c hopc
                split at h'
                · rename_i g args hcq
                  split at h'
                  · rename_i v σ₂ hcall
                    · obtain ⟨i1, i2⟩ := runDrawS_sound h'
                      refine ⟨fun hp => (heldO_and (i1 hp)).1, fun hp hK => DP.call hop' hopc hw hcq ((hc _ _ _ _ _ hcall).mono fun r' σ'' _ ⟨e1, e2⟩ => ?_)⟩
                      subst e1; subst e2
                      exact ⟨(heldO_and (i1 hp)).2, i2 hp hK⟩
                  · cases h'
                · cases h'
              · cases h'
      · cases h'

theorem runS_sound {nB : Nat} {K : FuncId} {fn : Func} (hf : M.P.funcs[K]? = some fn) {R : Value → St → Prop} : ∀ {n : Nat} {k : List Item} {f : Fr} {σ : St} {p : Prop} {x : RS}, runS M call giv fn n k f σ p = some x → (x.ow → p) ∧ (x.ow → x.post nB M K fn.ntmps R → VB nB M K fn.ntmps k f σ R)
  | 0, k, f, σ, p, x, h => by
    have h' : some (RS.stop k f σ p) = some x := h
    simp only [Option.some.injEq] at h'
    subst h'
    exact ⟨id, fun _ hk => hk⟩
  | n + 1, k, f, σ, p, x, h => by
    have h' : stepS M call giv fn (runS M call giv fn n) k f σ p = some x := h
    clear h
    unfold stepS at h'
    split at h'
    · split at h'
      · rename_i hdf
        split at h'
        · rename_i v hv
          simp only [Option.some.injEq] at h'
          subst h'
          exact ⟨id, fun _ hk => VB.done hdf hf hv hk⟩
        · cases h'
      · cases h'
    · split at h'
      · exact ⟨(runS_sound (nB := nB) (R := R) hf h').1, fun hp hk => VB.skip ((runS_sound hf h').2 hp hk)⟩
      · exact ⟨(runS_sound (nB := nB) (R := R) hf h').1, fun hp hk => VB.seq ((runS_sound hf h').2 hp hk)⟩
      · exact ⟨(runS_sound (nB := nB) (R := R) hf h').1, fun hp hk => VB.block ((runS_sound hf h').2 hp hk)⟩
      · split at h'
        · rename_i t hcond
          exact ⟨(runS_sound (nB := nB) (R := R) hf h').1, fun hp hk => VB.cond hcond ((runS_sound hf h').2 hp hk)⟩
        · cases h'
      · split at h'
        · rename_i k' hx
          exact ⟨(runS_sound (nB := nB) (R := R) hf h').1, fun hp hk => VB.exit hx ((runS_sound hf h').2 hp hk)⟩
        · cases h'
      · split at h'
        · rename_i hdf
          split at h'
          · rename_i v hv
            simp only [Option.some.injEq] at h'
            subst h'
            exact ⟨id, fun _ hk => VB.ret hdf hf hv hk⟩
          · cases h'
        · cases h'
      · rename_i id ops draw
        cases hnx : isNext ops with
        | true =>
          simp only [hnx, cond_true, Option.some.injEq] at h'
          subst h'
          exact ⟨_root_.id, fun _ hk => hk⟩
        | false =>
        simp only [hnx, cond_false] at h'
        cases draw with
        | true =>
          simp only [cond_true] at h'
          split at h'
          · rename_i pl hp
            split at h'
            · rename_i f₁ σ₁ p₁ hrun
              have hgood : planGood fn.ntmps ops pl = true := by
                unfold planOf at hp
                split at hp
                · rename_i p' _
                  cases hb : planGood fn.ntmps ops p' with
                  | false => simp [hb] at hp
                  | true => simp only [hb, cond_true, Option.some.injEq] at hp; subst hp; exact hb
                · cases hp
              obtain ⟨i1, i2⟩ := runS_sound (nB := nB) (R := R) hf h'
              exact ⟨fun hp => (runDrawS_sound hc (nt := fn.ntmps) (K := fun _ _ => True) hrun).1 (i1 hp), fun hp hk => VB.draw pl hgood ((runDrawS_sound hc hrun).2 (i1 hp) (i2 hp hk))⟩
            · cases h'
          · cases h'
        | false =>
          simp only [cond_false] at h'
          cases hb : ops.toList.all (dstOk fn.ntmps) with
          | false => simp [hb] at h'
          | true =>
            simp only [hb, cond_true] at h'
            split at h'
            · rename_i f₁ σ₁ p₁ hrun
              obtain ⟨i1, i2⟩ := runS_sound (nB := nB) (R := R) hf h'
              exact ⟨fun hp => (runOpsS_sound hc (nt := fn.ntmps) (K := fun _ _ => True) hrun).1 (i1 hp), fun hp hk => VB.region hb ((runOpsS_sound hc hrun).2 (i1 hp) (i2 hp hk))⟩
            · cases h'
      · simp only [Option.some.injEq] at h'
        subst h'
        exact ⟨id, fun _ hk => hk⟩
    · exact ⟨(runS_sound (nB := nB) (R := R) hf h').1, fun hp hk => VB.inBlock ((runS_sound hf h').2 hp hk)⟩
    · simp only [Option.some.injEq] at h'
      subst h'
      exact ⟨id, fun _ hk => hk⟩
end

/-! ### What a run came to, looked at -/

def finOfS : Option RS → Option (Value × St × Prop)
  | some (.fin v σ p) => some (v, σ, p)
  | _ => none
/-- Where it halts: what is left to do, these slots, the state, what is owed. -/
def stopOfS (ts : List Nat) : Option RS → Option (List Item × List (Option Value) × List Nat × St × Prop)
  | some (.stop k f σ p) => some (k, ts.map f.get, f.df, σ, p)
  | _ => none

/-- What is left to do where these ways are taken: as far as a loop, or a step of an iterator. -/
def pathI (n : Nat) : List Bool → List Item → List Item :=
  Nat.rec (motive := fun _ => List Bool → List Item → List Item) (fun _ k => k) (fun _ ih bs k => match k with
    | .code .skip :: k => ih bs k
    | .code (.seq x y) :: k => ih bs (.code x :: .code y :: k)
    | .code (.block id c) :: k => ih bs (.code c :: .inBlock id :: k)
    | .code (.region id ops d) :: k => bif isNext ops then .code (.region id ops d) :: k else ih bs k
    | .code (.cond c x y) :: k => (match bs with
      | b :: bs => ih bs (.code (bif b then x else y) :: k)
      | [] => .code (.cond c x y) :: k)
    | .code (.exit id) :: k => (match exitTo id k with | some k' => ih bs k' | none => [])
    | .inBlock _ :: k => ih bs k
    | k => k) n
def loopC : List Item → Code
  | .code (.loop c) :: _ => c
  | .inLoop c :: _ => c
  | _ => .skip
def opsI : List Item → Array Oper
  | .code (.region _ ops _) :: _ => ops
  | _ => #[]
def idI : List Item → Nat
  | .code (.region i _ _) :: _ => i
  | _ => 0

section
variable {M : EnvM} {call : CallF} (hc : CallOk M call) {giv : Oper → Giv}
include hc
theorem runS_fin {nB : Nat} {K : FuncId} {fn : Func} (hf : M.P.funcs[K]? = some fn) {R : Value → St → Prop} {n : Nat} {k : List Item} {f : Fr} {σ : St} {v : Value} {σ' : St} {p' : Prop} (h : finOfS (runS M call giv fn n k f σ True) = some (v, σ', p')) (hp : p') (hk : R v σ') : VB nB M K fn.ntmps k f σ R := by
  unfold finOfS at h
  split at h
  · rename_i heq
    simp only [Option.some.injEq, Prod.mk.injEq] at h
    obtain ⟨rfl, rfl, rfl⟩ := h
    exact (runS_sound hc (nB := nB) (R := R) hf heq).2 hp hk
  · cases h
theorem runS_stop {nB : Nat} {K : FuncId} {fn : Func} (hf : M.P.funcs[K]? = some fn) {R : Value → St → Prop} {n : Nat} {k : List Item} {f : Fr} {σ : St} (ki : List Item) (l : List (Nat × Value)) {σ' : St} {p' : Prop}
    (h : stopOfS (l.map (·.1)) (runS M call giv fn n k f σ True) = some (ki, l.map (fun x => some x.2), [], σ', p')) (hp : p') (hk : VB nB M K fn.ntmps ki (frL l) σ' R) : VB nB M K fn.ntmps k f σ R := by
  unfold stopOfS at h
  split at h
  · rename_i heq
    simp only [Option.some.injEq, Prod.mk.injEq] at h
    obtain ⟨rfl, h1, h2, rfl, rfl⟩ := h
    refine (runS_sound hc (nB := nB) (R := R) hf heq).2 hp (VB.trim l (fun q hq => ?_) h2 hk)
    rw [List.map_map] at h1
    exact List.map_inj_left.1 h1 q hq
  · cases h

/-- The rest of a region, and what comes behind it. -/
def midS (M : EnvM) (call : CallF) (giv : Oper → Giv) (fn : Func) (n : Nat) (ops : Array Oper) (rest : List Oper) (k : List Item) (f : Fr) (σ : St) : Option RS :=
  match runOpsS M call giv ops rest f σ True with
  | some (f', σ', p') => runS M call giv fn n k f' σ' p'
  | none => none
theorem midS_fin {nB : Nat} {K : FuncId} {fn : Func} (hf : M.P.funcs[K]? = some fn) {R : Value → St → Prop} {n : Nat} {ops : Array Oper} {rest : List Oper} {k : List Item} {f : Fr} {σ : St} {v : Value} {σ' : St} {p' : Prop} (h : finOfS (midS M call giv fn n ops rest k f σ) = some (v, σ', p')) (hp : p') (hk : R v σ') : WL M fn.ntmps ops rest f σ (fun f' σ' => VB nB M K fn.ntmps k f' σ' R) := by
  unfold finOfS at h
  split at h
  · rename_i heq
    simp only [Option.some.injEq, Prod.mk.injEq] at h
    obtain ⟨rfl, rfl, rfl⟩ := h
    unfold midS at heq
    split at heq
    · rename_i f₁ σ₁ p₁ ho
      obtain ⟨i1, i2⟩ := runS_sound hc (nB := nB) (R := R) hf heq
      exact (runOpsS_sound hc ho).2 (i1 hp) (i2 hp hk)
    · cases heq
  · cases h
theorem midS_stop {nB : Nat} {K : FuncId} {fn : Func} (hf : M.P.funcs[K]? = some fn) {R : Value → St → Prop} {n : Nat} {ops : Array Oper} {rest : List Oper} {k : List Item} {f : Fr} {σ : St} (ki : List Item) (l : List (Nat × Value)) {σ' : St} {p' : Prop}
    (h : stopOfS (l.map (·.1)) (midS M call giv fn n ops rest k f σ) = some (ki, l.map (fun x => some x.2), [], σ', p')) (hp : p') (hk : VB nB M K fn.ntmps ki (frL l) σ' R) : WL M fn.ntmps ops rest f σ (fun f' σ' => VB nB M K fn.ntmps k f' σ' R) := by
  unfold stopOfS at h
  split at h
  · rename_i heq
    simp only [Option.some.injEq, Prod.mk.injEq] at h
    obtain ⟨rfl, h1, h2, rfl, rfl⟩ := h
    unfold midS at heq
    split at heq
    · rename_i f₁ σ₁ p₁ ho
      obtain ⟨i1, i2⟩ := runS_sound hc (nB := nB) (R := R) hf heq
      refine (runOpsS_sound hc ho).2 (i1 hp) (i2 hp (VB.trim l (fun q hq => ?_) h2 hk))
      rw [List.map_map] at h1
      exact List.map_inj_left.1 h1 q hq
    · cases heq
  · cases h
end

/-- A step of a map's iterator at a region's beginning. -/
theorem VB.nextS {nB : Nat} {M : EnvM} {K : FuncId} {nt : Nat} {f : Fr} {σ : St} {R : Value → St → Prop} {ki k : List Item} {id : Nat} {ops : Array Oper} {o : Oper} {rest : List Oper} {x : Operand} {r m since : Nat} {seen : List Nat} {last : Nat} {es : List MapEntry} {clock : Nat}
    (hki : ki = .code (.region id ops false) :: k) (hops : ops.toList = o :: rest) (hd : ops.toList.all (dstOk nt) = true) (ho : o.op = .next x false) (hw : wantedA ops f o = some true) (hx : opd f x = some (.pointer (some ⟨r, 0, none⟩)))
    (hr : σ.get r = .miter (some m) since seen last) (hm : σ.get m = .map es clock) (hok : (!seen.isEmpty && !es.isEmpty && es.all (fun e => decide (e.born ≥ last))) = false)
    (h : ∀ c ∈ cands es since seen, WL M nt ops rest (putF f o.dst (nextDone r σ m since seen clock c).1) (nextDone r σ m since seen clock c).2 (fun f' σ' => VB nB M K nt k f' σ' R)) : VB nB M K nt ki f σ R := by
  subst hki
  refine VB.region hd ?_
  rw [hops]
  exact WL.next ho hw hx hr hm hok h

/-- What a call has made and does not give back may be forgotten. -/
theorem WF.forget {E : Env} {K : FuncId} {args : List Value} {σ σ₁ : St} {R : Value → Prop} (hn : σ.next ≤ σ₁.next) (hsc : ∀ i, (σ₁.get i).sc σ₁.next) (hlt : ∀ i, (σ₁.get i).live = true → i < σ₁.next)
    (h : WF E K args σ (fun r σ' => (R r ∧ Sc σ₁.next r) ∧ ∀ i, σ₁.get i = σ'.get i ∨ σ₁.get i = .dead)) : WF E K args σ (fun r σ' => R r ∧ σ' = σ₁) := by
  refine ⟨h.1, fun ρ w hR hs => (h.2 ρ w hR hs).mono fun e w' ⟨v, he, r, σ', ρ', h1, h2, h3, ⟨h4, h5⟩, h6⟩ => ?_⟩
  have hlive : ∀ i, (σ₁.get i).live = true → σ₁.get i = σ'.get i := fun i hi => by
    rcases h6 i with h | h
    · exact h
    · rw [h] at hi; simp [Blk.live] at hi
  refine ⟨v, he, r, σ₁, ρ', h1, ⟨⟨fun i => ?_, hsc, hlt, fun i j hij hi hj => h2.rel.inj i j hij (by rw [← hlive i (Blk.live_of_wr hi)]; exact hi) (by rw [← hlive j hj]; exact hj)⟩, h2.ext, hn, h2.size, h2.os, h2.tape, h2.output, fun i hi => h2.own i (by rw [← hlive i (Blk.live_of_wr hi)]; exact hi), h2.fra, fun i hi => h2.liv i (by rw [← hlive i hi]; exact hi)⟩, h5, h4, rfl⟩
  rcases h6 i with h | h
  · rw [h]; exact h2.rel.blk i
  · rw [h]; trivial
def bodyC (fn : Func) : Code := match fn.body with | some c => c | none => .skip
/-- A call whose run comes to its end. -/
theorem WF.run {M : EnvM} {call : CallF} (hc : CallOk M call) {giv : Oper → Giv} {K : FuncId} {fn : Func} {n : Nat} {args : List Value} {σ : St} {v : Value} {σ' : St} {p' : Prop} (hf : M.P.funcs[K]? = some fn) (hq : (fn.body.isSome && (fn.name != "runtime.NumGoroutine") && Nat.ble args.length fn.ntmps) = true)
    (h : finOfS (runS M call giv fn n [.code (bodyC fn)] (initF 0 args .nil) σ True) = some (v, σ', p')) (hp : p') : WF M.toEnv K args σ (fun r s => r = v ∧ s = σ') := by
  simp only [Bool.and_eq_true, bne, Bool.not_eq_true', Nat.ble_eq] at hq
  have hb : fn.body = some (bodyC fn) := by
    unfold bodyC
    cases hbd : fn.body with
    | none => rw [hbd] at hq; simp at hq
    | some c => rfl
  exact WF.of_VB hf hq.1.2 hb hq.2 (runS_fin hc hf h hp ⟨rfl, rfl⟩)

/-- Answers by slot. -/
def givL (l : List (Nat × Giv)) (o : Oper) : Giv := match o.dst with
  | some d => (match l.find? (fun p => Nat.beq p.1 d) with | some p => p.2 | none => .no)
  | none => .no
end
end AH
end

section
/-
  AH 39: the function that makes a map's copy.
-/
set_option linter.unusedSimpArgs false
set_option linter.unusedVariables false
set_option linter.unusedSectionVars false
namespace AH
open Go
noncomputable section

/-- A function without a body that is maps.clone. -/
structure IsClone (P : Program) (g : FuncId) : Prop where
  ex : ∃ fn, P.funcs[g]? = some fn ∧ (fn.name == "runtime.NumGoroutine") = false ∧ fn.body.isNone = true ∧ Extern.findNext fn = none ∧ Extern.find fn = some Extern.MapsClone.clone

section
variable {M : EnvM} {nt : Nat} {all : Array Oper} {o : Oper} {rest : List Oper} {f : Fr} {σ : St} {K : Fr → St → Prop}

theorem WL.mapsClone {c : Call} {x : Operand} {g : FuncId} {t m cl : Nat} {es : List MapEntry} (ho : o.op = .call c) (hw : wantedA all f o = some true) (hx : c.callee = .value x) (hc : callQ M f c = some (g, [.iface t (.map (some m))]))
    (hg : IsClone M.P g) (hm : σ.get m = .map es cl) (h : WL M nt all rest (putF f o.dst (.iface t (.map (some σ.next)))) (σ.push (.map es cl)) K) : WL M nt all (o :: rest) f σ K := by
  intro hd ρ w a hR hF hn
  unfold wpList
  rw [wantedA_sound hF hw]
  simp only [if_true]
  obtain ⟨fn, hfn, hname, hbody, hnext, hfind⟩ := hg.ex
  have hblk := hR.blk m
  rw [hm] at hblk
  obtain ⟨_, hheap⟩ := hblk
  have hscm := hR.sc m
  rw [hm] at hscm
  have hcall : ∀ w', w'.heap[(ρ m).b]? = some (.map (es.map (renE ρ)).toArray cl) → (callFunc g #[.iface t (.map (some (ρ m).b))]).run M.P w' = .ok (.value (.iface t (.map (some w'.heap.size)))) (w'.alloc (.map (es.map (renE ρ)).toArray cl)) := fun w' hw' => by
    have e : Extern.MapsClone.clone #[.iface t (.map (some (ρ m).b))] = (getObj (ρ m).b >>= fun o => match o with
      | .map entries clock => (newObj (.map entries clock) >>= fun n => pure (.iface t (.map (some n))))
      | _ => stuck "maps.clone: a map expected") := rfl
    have hname' : ¬ fn.name = "runtime.NumGoroutine" := by simpa using hname
    have hbody' : fn.body = none := by simpa using hbody
    simp [callFunc, hfn, hname', hbody', hnext, hfind, e, MapKept.run_getObj_map hw', Result.andThen]
  obtain ⟨callee, cargs, at_⟩ := c
  simp only at hx
  subst hx
  unfold callQ at hc
  split at hc
  · rename_i x' l hcv hl
    simp only [Callee.value.injEq] at hcv
    subst hcv
    obtain ⟨h1, h1s⟩ := opds_sound hF hl
    have e1 : cargs.map a.eval = (l.map (ren ρ)).toArray := Array.ext' (by simpa using h1)
    split at hc
    · rename_i g' first cap hxv
      simp only [Option.some.injEq, Prod.mk.injEq] at hc
      obtain ⟨rfl, hargs⟩ := hc
      obtain ⟨h2, h2s⟩ := opd_sound hF hxv
      have e2 : first.map (ren ρ) ++ (l.map (ren ρ)).toArray ++ cap.map (ren ρ) = #[.iface t (.map (some (ρ m).b))] := by
        apply Array.ext'
        have := congrArg (List.map (ren ρ)) hargs
        simpa using this
      have hex : (execOp a.eval o).run M.P w = .ok (.value (.iface t (.map (some w.heap.size)))) (w.alloc (.map (es.map (renE ρ)).toArray cl)) := by
        simp only [execOp, ho, resolve, Deferred.ofValue, h2, ren_func, renFn_func, e1, Sem.run_bind, Sem.run_pure, Result.andThen_ok, invoke]
        rw [← hcall w hheap]
        congr 2
      have hev := Evo.alloc hR (.map (es.map (renE ρ)).toArray cl) (.map es cl) 0 (Like.refl _) ⟨rfl, by
        rw [get_new]
        congr 2
        apply Array.ext'
        simp only [List.map_inj_left]
        intro e he
        have h3 := hscm e he
        simp only [renE]
        rw [h3.1 _ _ fun i hi => (upd_lt ρ ⟨w.heap.size, 0, 0⟩ hi).symm, h3.2 _ _ fun i hi => (upd_lt ρ ⟨w.heap.size, 0, 0⟩ hi).symm]⟩ (fun e he => ⟨(hscm e he).1.mono (Nat.le_succ _), (hscm e he).2.mono (Nat.le_succ _)⟩)
      refine .inl ?_
      simp only [Oper.wp, hex, Oper.upon]
      have hF' := (hF.evo hev.ext hev.next).put (dst_lt hn (hd o (by simp))) (v := .iface t (.map (some σ.next))) (Sc_iface.2 (Sc_map (by simp)))
      have e3 : ren (upd ρ σ.next ⟨w.heap.size, 0, 0⟩) (.iface t (.map (some σ.next))) = .iface t (.map (some w.heap.size)) := by
        simp [ren_iface, ren_map, upd_same]
      rw [e3] at hF'
      exact wpList_mono (fun e a₂ w₂ ⟨he, hk⟩ => ⟨he, After.evo hev hk⟩) rest _ _ (h (fun o' ho' => hd o' (by simp [ho'])) _ _ _ hev.rel hF' (by rw [put_size]; exact hn))
    · cases hc
  · rename_i heq _
    exact absurd heq (by simp)
  · cases hc
end

theorem WF.forget_all0 {E : Env} {K : FuncId} {args : List Value} {v : Value} (hv : Sc 0 v) (hren : ∀ ρ, ren ρ v = v) (h : WF E K args St.empty (fun r _ => r = v)) : WF E K args St.empty (fun r σ' => r = v ∧ σ' = St.empty) :=
  h.renum fun r σ' _ hr => ⟨v, St.empty, id, ⟨fun _ _ => rfl, fun _ _ _ _ h => h, fun i hi => (by rw [St.get_empty] at hi; cases hi), fun i => (by rw [St.get_empty]; trivial), fun i hi => (by rw [St.get_empty] at hi; cases hi), Nat.zero_le _⟩, by rw [hr, hren], hv, rfl, rfl⟩
/-- What a call comes to that looks at no memory, it comes to anywhere. -/
theorem WF.anyw {E : Env} {K : FuncId} {args : List Value} {v : Value} (ha : ∀ a ∈ args, ∀ ρ : Nat → Loc, ren ρ a = a) (hren : ∀ ρ, ren ρ v = v) (h : WF E K args St.empty (fun r _ => r = v)) (σ : St) : WF E K args σ (fun r σ' => r = v ∧ σ' = σ) := by
  have h0 := WF.forget_all0 (fun ρ ρ' _ => by rw [hren, hren]) hren h
  refine WF.know h0.1 fun hout _ => ?_
  have hs : Small id St.empty σ := ⟨fun i hi => absurd hi (Nat.not_lt_zero _), fun _ _ _ _ h => h, fun i hi => (by rw [St.get_empty] at hi; cases hi), fun i => (by rw [St.get_empty]; trivial), fun i hi => (by rw [St.get_empty] at hi; cases hi)⟩
  have hargs : args.map (ren (loc id)) = args := by
    have := List.map_congr_left (f := ren (loc id)) (g := id) fun v hv => ha v hv _
    rw [this, List.map_id]
  rw [← hargs]
  refine WF.frame hs (fun v hv => (fun ρ ρ' _ => by rw [ha v hv, ha v hv])) h0 fun r σ₀' _ ⟨e1, e2⟩ => ?_
  subst e1; subst e2
  exact ⟨σ, Big.same hs hout, hren _, rfl⟩

/-- A call whose run is known, where nothing that is known before need be known after: from a world in which what is known may not be written. -/
theorem calls_of_VB {M : EnvM} {K : FuncId} {fn : Func} {c : Code} {args : List Value} {σ : St} {R : Value → Prop} (hf : M.P.funcs[K]? = some fn) (hname : (fn.name == "runtime.NumGoroutine") = false) (hb : fn.body = some c) (hl : args.length ≤ fn.ntmps)
    (h : VB 0 M K fn.ntmps [.code c] (initF 0 args .nil) σ (fun r _ => R r)) {ρ : Nat → Loc} {w : World} (hR : Rel ρ σ w) (hs : Scs σ.next args) (hro : ∀ i, (σ.get i).wr = false) :
    Calls M.P K (args.map (ren ρ)).toArray w (fun e w' => ∃ r ρ', e = .returned (ren ρ' r) ∧ R r ∧ Go.RowKit.Below w.heap.size w w') := by
  intro cs
  have hlen : (args.map (ren ρ)).toArray.size = args.length := by simp
  have henter : Frame.enter M.P K (args.map (ren ρ)).toArray .normal =
      (base K).at { tmps := (args.map (ren ρ)).toArray ++ Array.replicate (fn.ntmps - (args.map (ren ρ)).toArray.size) undef, defers := [] } [.code c] := by
    simp [Frame.enter, Frame.at, hf, hb, base]
  obtain ⟨v, w', fr, h1, h2, h3, h4⟩ := h (Nat.zero_le _) ρ w { tmps := (args.map (ren ρ)).toArray ++ Array.replicate (fn.ntmps - (args.map (ren ρ)).toArray.size) undef, defers := [] } cs hR
    ⟨fun t v ht => by
      rcases initF_get args 0 .nil t v ht with ⟨_, h5⟩ | h5
      · have hlt : t < args.length := by
          rcases Nat.lt_or_ge t args.length with h' | h'
          · exact h'
          · rw [Nat.sub_zero, List.getElem?_eq_none h'] at h5; cases h5
        rw [Array.getElem?_append_left (by simpa using hlt)]
        simp only [Nat.sub_zero] at h5
        simp [h5]
      · simp at h5, fun t v ht => by
      rcases initF_get args 0 .nil t v ht with ⟨_, h5⟩ | h5
      · exact hs v (List.mem_of_getElem? h5)
      · simp at h5, by rw [initF_df]; rfl, by rw [initF_df]; intro i hi; simp at hi⟩ (by simp; omega)
  rw [← henter] at h2
  obtain ⟨r, σ', ρ', q1, q2, q3, q4⟩ := h1
  exact ⟨.returned v, w', fr, ⟨r, ρ', by rw [q1], q4, ⟨q2.os, q2.tape, q2.output, q2.size, fun k hk => q2.fra k hk fun i hi => by rw [hro i] at hi; cases hi⟩⟩, h2, h3, h4⟩
end
end AH
end
