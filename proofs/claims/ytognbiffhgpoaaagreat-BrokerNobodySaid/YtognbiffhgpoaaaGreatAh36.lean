/-
  AH 36: the same evaluator, so written that the kernel takes fewer steps.
-/
import Derived.Test.YtognbiffhgpoaaaGreatAh35
set_option linter.unusedSimpArgs false
set_option linter.unusedVariables false
set_option linter.unusedSectionVars false
namespace AH
open Go
noncomputable section

/-! ### Numbers -/

def eqF : Int → Int → Bool
  | .ofNat m, .ofNat n => Nat.beq m n
  | .negSucc m, .negSucc n => Nat.beq m n
  | _, _ => false
theorem beq_dec (m n : Nat) : Nat.beq m n = decide (m = n) := by
  cases h : Nat.beq m n with
  | true => exact (decide_eq_true (Nat.eq_of_beq_eq_true h)).symm
  | false => exact (decide_eq_false (Nat.ne_of_beq_eq_false h)).symm
theorem eqF_eq (x y : Int) : eqF x y = (x == y) := by
  rw [show (x == y) = decide (x = y) from rfl]
  cases x <;> cases y <;> simp only [eqF, beq_dec]
  · exact decide_eq_decide.2 (by simp only [Int.ofNat_eq_natCast]; omega)
  · exact (decide_eq_false (fun e => by cases e)).symm
  · exact (decide_eq_false (fun e => by cases e)).symm
  · exact decide_eq_decide.2 (by simp only [Int.negSucc_eq]; omega)

def wrapF (k : IntKind) (n : Int) : Int :=
  match k with
  | .i64 => (match n with
    | .ofNat m => bif Nat.ble m 9223372036854775807 then .ofNat m else IntKind.i64.wrap (.ofNat m)
    | .negSucc m => bif Nat.ble m 9223372036854775807 then .negSucc m else IntKind.i64.wrap (.negSucc m))
  | .u64 => (match n with
    | .ofNat m => bif Nat.ble m 18446744073709551615 then .ofNat m else IntKind.u64.wrap (.ofNat m)
    | .negSucc m => IntKind.u64.wrap (.negSucc m))
  | k => k.wrap n
theorem wrapF_eq (k : IntKind) (n : Int) : wrapF k n = k.wrap n := by
  cases k with
  | i64 =>
    cases n with
    | ofNat m =>
      show (bif Nat.ble m 9223372036854775807 then Int.ofNat m else IntKind.i64.wrap (.ofNat m)) = _
      cases h : Nat.ble m 9223372036854775807 with
      | false => rw [cond_false]
      | true =>
        have hle := Nat.le_of_ble_eq_true h
        rw [IntWalk.i64_in _ (by rw [Int.ofNat_eq_natCast]; omega), cond_true]
    | negSucc m =>
      show (bif Nat.ble m 9223372036854775807 then Int.negSucc m else IntKind.i64.wrap (.negSucc m)) = _
      cases h : Nat.ble m 9223372036854775807 with
      | false => rw [cond_false]
      | true =>
        have hle := Nat.le_of_ble_eq_true h
        rw [IntWalk.i64_in _ (by rw [Int.negSucc_eq]; omega), cond_true]
  | u64 =>
    cases n with
    | ofNat m =>
      show (bif Nat.ble m 18446744073709551615 then Int.ofNat m else IntKind.u64.wrap (.ofNat m)) = _
      cases h : Nat.ble m 18446744073709551615 with
      | false => rw [cond_false]
      | true =>
        have hle := Nat.le_of_ble_eq_true h
        rw [IntWalk.u64_in _ (by rw [Int.ofNat_eq_natCast]; omega), cond_true]
    | negSucc m => rfl
  | i8 => rfl
  | u8 => rfl
  | i16 => rfl
  | u16 => rfl
  | i32 => rfl
  | u32 => rfl

def kEqF (k k' : IntKind) : Bool :=
  match k with
  | .i64 => (match k' with | .i64 => true | _ => false)
  | .u64 => (match k' with | .u64 => true | _ => false)
  | k => decide (k = k')
theorem kEqF_eq (k k' : IntKind) : kEqF k k' = decide (k = k') := by
  cases k <;> cases k' <;> rfl

structure IK where
  run : IntKind → Int → Int → Option Value
def intK (o : BinOp) : IK :=
  match o with
  | .add => ⟨fun k a b => some (.int k (wrapF k (Int.add a b)))⟩
  | .sub => ⟨fun k a b => some (.int k (wrapF k (Int.sub a b)))⟩
  | .eql => ⟨fun k a b => some (.bool (eqF a b))⟩
  | .neq => ⟨fun k a b => some (.bool (Bool.not (eqF a b)))⟩
  | .lss => ⟨fun k a b => some (.bool (ltI a b))⟩
  | .leq => ⟨fun k a b => some (.bool (leI a b))⟩
  | .gtr => ⟨fun k a b => some (.bool (ltI b a))⟩
  | .geq => ⟨fun k a b => some (.bool (leI b a))⟩
  | o => ⟨fun k a b => intOp o k a b⟩
theorem intK_eq (o : BinOp) (k : IntKind) (a b : Int) : (intK o).run k a b = intOp o k a b := by
  cases o <;> simp only [intK, intOp, wrapF_eq, eqF_eq] <;> rfl

/-! ### Operations -/

def qBin (E : Env) (o : BinOp) (t : Nat) (x y : Operand) (f : Fr) : Option Value :=
  match opd f x, opd f y with
  | some (.int k a), some (.int k' b) => bif kEqF k k' then (match intK o with | ⟨g⟩ => g k a b) else none
  | some a, some b => binQ E o t a b
  | _, _ => none
def shB : BinOp → Bool
  | .shl | .shr => true
  | _ => false
theorem qBin_eq (E : Env) (o : BinOp) (t u : Nat) (x y : Operand) (f : Fr) (σ : St) (hs : shB o = false) : qBin E o t x y f = opQ E f σ (.binOp o t x y u) := by
  show _ = (match opd f x, opd f y with | some a, some b => binQ E o t a b | _, _ => none)
  unfold qBin
  cases hx : opd f x with
  | none => cases opd f y <;> rfl
  | some v =>
    cases hy : opd f y with
    | none => cases v <;> rfl
    | some w =>
      have key : ∀ k a k' b, v = .int k a → w = .int k' b → (bif kEqF k k' then (match intK o with | ⟨g⟩ => g k a b) else none) = binQ E o t v w := fun k a k' b e1 e2 => by
        subst e1; subst e2
        have h2 : binQ E o t (.int k a) (.int k' b) = if k = k' then intOp o k a b else none := by
          cases o <;> first | rfl | (simp [shB] at hs)
        rw [h2, kEqF_eq, ← intK_eq]
        by_cases h : k = k' <;> simp [h]
      cases v <;> cases w <;> first | rfl | exact key _ _ _ _ rfl rfl

def qLoad (E : Env) (t : Nat) (a : Operand) (f : Fr) (σ : St) : Option Value :=
  match opd f a, E.ty t with
  | some (.pointer (some ad)), some i => ldVar i σ ad
  | _, _ => none
def qPick (c a b : Operand) (f : Fr) : Option Value :=
  match opd f c with
  | some (.bool t) => opd f (bif t then a else b)
  | _ => none
def qNil (E : Env) (x : Operand) (f : Fr) : Option Value :=
  match opd f x with
  | some (.pointer (some a)) => some (.pointer (some a))
  | some (.iface t v) => some (.iface t v)
  | some (.func (.func g) x y) => some (.func (.func g) x y)
  | some (.func (.method name) x y) => (match x.toList with
    | [.iface t _] => bif mthB E.P t name then some (.func (.method name) x y) else none
    | _ => none)
  | _ => none
def qUn (op : UnOp) (x : Operand) (f : Fr) : Option Value := match opd f x with
  | some a => unQ op a
  | none => none
def qFieldA (E : Env) (s : Nat) (x : Operand) (k : Nat) (f : Fr) : Option Value := match opd f x with
  | some v => fieldQ E s v k
  | none => none
def qField (E : Env) (s : Nat) (x : Operand) (k : Nat) (f : Fr) : Option Value := match opd f x with
  | some v => fieldV E s v k
  | none => none
def qIndexA (E : Env) (t : Nat) (x i : Operand) (f : Fr) : Option Value := match opd f x, opd f i with
  | some v, some k => indexAddrQ E t v k
  | _, _ => none
def qIndex (E : Env) (t : Nat) (x i : Operand) (f : Fr) : Option Value := match opd f x, opd f i with
  | some v, some k => indexQ E t v k
  | _, _ => none
def qSlice (E : Env) (t : Nat) (x : Operand) (lo hi mx : Option Operand) (f : Fr) (σ : St) : Option Value := match opd f x, opdO f lo, opdO f hi, opdO f mx with
  | some v, some l, some h, some m => sliceQ E σ t v l h m
  | _, _, _, _ => none
def qExtract (x : Operand) (i : Nat) (f : Fr) : Option Value := match opd f x with
  | some (.tuple vs) => vs.toList[i]?
  | _ => none
def qBuild (E : Env) (t : Nat) (l : List (Nat × Operand)) (f : Fr) : Option Value := match partsQ f l with
  | some ps => buildQ E t ps
  | none => none
def wStore (E : Env) (t : Nat) (a x : Operand) (f : Fr) (σ : St) : Option (Option Value × St) :=
  match opd f a, opd f x, E.ty t with
  | some (.pointer (some ad)), some v, some i => if v.cells.toList.length = i.size then (match stCells σ ad v.cells.toList with | some σ' => some (none, σ') | none => none) else none
  | _, _, _ => none
def wAlloc (E : Env) (e : Nat) (σ : St) : Option (Option Value × St) := match E.ty e with
  | some i => some (some (.pointer (some ⟨σ.next, 0, none⟩)), σ.push (.cells e i.zero.cells.toList))
  | none => none
def wBox (e : Nat) (x : Operand) (f : Fr) (σ : St) : Option (Option Value × St) := match opd f x with
  | some v => some (some (.pointer (some ⟨σ.next, 0, none⟩)), σ.push (.cells e v.cells.toList))
  | none => none

inductive KO where
  | q (g : Fr → St → Option Value)
  | w (g : Fr → St → Option (Option Value × St))
  | c (c : Call)
  | b

def kindOf (E : Env) (op : Op) : KO :=
  match op with
  | .move x => .q (fun f _ => opd f x)
  | .assign x => .q (fun f _ => opd f x)
  | .pick c a b => .q (fun f _ => qPick c a b f)
  | .load t a => .q (fun f σ => qLoad E t a f σ)
  | .nilCheck x => .q (fun f _ => qNil E x f)
  | .binOp o t x y _ => bif shB o then .b else .q (fun f _ => qBin E o t x y f)
  | .unOp o _ x => .q (fun f _ => qUn o x f)
  | .fieldAddr s x k => .q (fun f _ => qFieldA E s x k f)
  | .field s x k => .q (fun f _ => qField E s x k f)
  | .indexAddr t x i => .q (fun f _ => qIndexA E t x i f)
  | .index t x i => .q (fun f _ => qIndex E t x i f)
  | .slice t x lo hi mx => .q (fun f σ => qSlice E t x lo hi mx f σ)
  | .extract x i => .q (fun f _ => qExtract x i f)
  | .build t parts => (match parts.toList with | l => .q (fun f _ => qBuild E t l f))
  | .store t a x => .w (fun f σ => wStore E t a x f σ)
  | .alloc e => .w (fun _ σ => wAlloc E e σ)
  | .box e x => .w (fun f σ => wBox e x f σ)
  | .call c => (match c.callee with
    | .value _ => .c c
    | .invoke _ _ => .c c
    | .builtin _ => .b)
  | _ => .b

section
variable (M : EnvM) (call : CallF)

def runOpF (all : Array Oper) (o : Oper) (f : Fr) (σ : St) : Option (Fr × St) :=
  match wantedA all f o with
  | some false => some (putF f o.dst undef, σ)
  | some true => (match kindOf M.toEnv o.op with
    | .q g => (match g f σ with | some v => some (putF f o.dst v, σ) | none => none)
    | .w g => (match g f σ with | some (r, σ') => some (putF f o.dst (match r with | some v => v | none => undef), σ') | none => none)
    | .c c => (match callQ M f c with
      | some (g, args) => (match call g args σ with
        | some (v, σ') => some (putF f o.dst v, σ')
        | none => none)
      | none => none)
    | .b => runOp M call all o f σ)
  | none => none

theorem runOp_q {all : Array Oper} {o : Oper} {f : Fr} {σ : St} (hw : wantedA all f o = some true) (h1 : opW M.toEnv f σ o.op = none) (h2 : ∀ c, o.op ≠ .call c) : runOp M call all o f σ = (match opQ M.toEnv f σ o.op with | some v => some (putF f o.dst v, σ) | none => none) := by
  unfold runOp
  rw [hw]
  simp only
  cases hq : opQ M.toEnv f σ o.op with
  | some v => rfl
  | none =>
    simp only [h1]

theorem runOpF_eq (all : Array Oper) (o : Oper) (f : Fr) (σ : St) : runOpF M call all o f σ = runOp M call all o f σ := by
  unfold runOpF
  cases hw : wantedA all f o with
  | none => unfold runOp; rw [hw]
  | some t =>
    cases t with
    | false => unfold runOp; rw [hw]
    | true =>
      simp only
      obtain ⟨dst, op, type, pos, after, guard⟩ := o
      cases op with
      | move x => exact (runOp_q M call hw rfl (fun c e => by cases e)).symm
      | assign x => exact (runOp_q M call hw rfl (fun c e => by cases e)).symm
      | pick c a b => exact (runOp_q M call hw rfl (fun c e => by cases e)).symm
      | load t a => exact (runOp_q M call hw rfl (fun c e => by cases e)).symm
      | nilCheck x => exact (runOp_q M call hw rfl (fun c e => by cases e)).symm
      | unOp o t x => exact (runOp_q M call hw rfl (fun c e => by cases e)).symm
      | fieldAddr s x k => exact (runOp_q M call hw rfl (fun c e => by cases e)).symm
      | field s x k => exact (runOp_q M call hw rfl (fun c e => by cases e)).symm
      | indexAddr t x i => exact (runOp_q M call hw rfl (fun c e => by cases e)).symm
      | index t x i => exact (runOp_q M call hw rfl (fun c e => by cases e)).symm
      | slice t x lo hi mx => exact (runOp_q M call hw rfl (fun c e => by cases e)).symm
      | extract x i => exact (runOp_q M call hw rfl (fun c e => by cases e)).symm
      | build t parts => exact (runOp_q M call hw rfl (fun c e => by cases e)).symm
      | binOp o t x y u =>
        show (match (bif shB o then KO.b else .q (fun f _ => qBin M.toEnv o t x y f)) with
          | .q g => (match g f σ with | some v => some (putF f dst v, σ) | none => none)
          | .w g => (match g f σ with | some (r, σ') => some (putF f dst (match r with | some v => v | none => undef), σ') | none => none)
          | .c c => (match callQ M f c with
            | some (g, args) => (match call g args σ with
              | some (v, σ') => some (putF f dst v, σ')
              | none => none)
            | none => none)
          | .b => runOp M call all ⟨dst, .binOp o t x y u, type, pos, after, guard⟩ f σ) = _
        cases hs : shB o with
        | true => rfl
        | false =>
          simp only [cond_false]
          rw [qBin_eq M.toEnv o t u x y f σ hs]
          exact (runOp_q M call hw rfl (fun c e => by cases e)).symm
      | store t a x => unfold runOp; rw [hw]; rfl
      | alloc e => unfold runOp; rw [hw]; rfl
      | box e x => unfold runOp; rw [hw]; rfl
      | call c =>
        obtain ⟨callee, args, at_⟩ := c
        cases callee with
        | value x => unfold runOp; rw [hw]; rfl
        | invoke x n => unfold runOp; rw [hw]; rfl
        | builtin b => rfl
      | _ => rfl
end

/-! ### Code -/
section
variable (M : EnvM) (call : CallF) (rnd : RoundF)

/-- What an operation does to the frame and to the state. -/
structure PK where
  run : Fr → St → Option (Fr × St)
def opK (all : Array Oper) (o : Oper) : PK :=
  match o.guard with
  | some _ => ⟨fun f σ => runOpF M call all o f σ⟩
  | none => (match kindOf M.toEnv o.op with
    | .q g => (match o.dst with
      | some t => ⟨fun f σ => match g f σ with | some v => some (f.set t v, σ) | none => none⟩
      | none => ⟨fun f σ => match g f σ with | some v => some (f, σ) | none => none⟩)
    | .w g => (match o.dst with
      | some t => ⟨fun f σ => match g f σ with | some (r, σ') => some (f.set t (match r with | some v => v | none => undef), σ') | none => none⟩
      | none => ⟨fun f σ => match g f σ with | some (_, σ') => some (f, σ') | none => none⟩)
    | .c c => ⟨fun f σ => match callQ M f c with
      | some (g, args) => (match call g args σ with
        | some (v, σ') => some (putF f o.dst v, σ')
        | none => none)
      | none => none⟩
    | .b => ⟨fun f σ => runOp M call all o f σ⟩)

theorem opK_eq (all : Array Oper) (o : Oper) (f : Fr) (σ : St) : (opK M call all o).run f σ = runOp M call all o f σ := by
  rw [← runOpF_eq]
  unfold opK
  split
  · rfl
  · rename_i hg
    have hw : wantedA all f o = some true := by unfold wantedA; rw [hg]
    unfold runOpF
    rw [hw]
    simp only
    split
    · rename_i g hk
      split
      · rename_i t hd; simp only [hd]; rfl
      · rename_i hd; simp only [hd]; rfl
    · rename_i g hk
      split
      · rename_i t hd; simp only [hd]; rfl
      · rename_i hd
        simp only [hd]
        cases g f σ with
        | none => rfl
        | some p => rfl
    · rfl
    · rename_i hk
      rw [← runOpF_eq]
      unfold runOpF
      rw [hw, hk]

def runOpsF (all : Array Oper) (l : List Oper) : Fr → St → Option (Fr × St) :=
  List.rec (motive := fun _ => Fr → St → Option (Fr × St)) (fun f σ => some (f, σ))
    (fun o _ ih f σ => match opK M call all o with
      | ⟨g⟩ => (match g f σ with
        | some (f', σ') => bif notDefer o.op then ih f' σ' else none
        | none => match wantedA all f o, yieldQ f o.op with
          | some true, some (li, vs) => (match rnd li vs σ with
            | some (v, σ') => ih (putF f o.dst v) σ'
            | none => none)
          | _, _ => none)) l

theorem runOpsF_eq (all : Array Oper) : ∀ (l : List Oper) (f : Fr) (σ : St), runOpsF M call rnd all l f σ = runOpsR M call rnd all l f σ
  | [], f, σ => rfl
  | o :: r, f, σ => by
    have h1 : runOpsF M call rnd all (o :: r) f σ = (match (opK M call all o).run f σ with
        | some (f', σ') => bif notDefer o.op then runOpsF M call rnd all r f' σ' else none
        | none => match wantedA all f o, yieldQ f o.op with
          | some true, some (li, vs) => (match rnd li vs σ with
            | some (v, σ') => runOpsF M call rnd all r (putF f o.dst v) σ'
            | none => none)
          | _, _ => none) := rfl
    have h2 : runOpsR M call rnd all (o :: r) f σ = (match runOp M call all o f σ with
        | some (f', σ') => bif notDefer o.op then runOpsR M call rnd all r f' σ' else none
        | none => match wantedA all f o, yieldQ f o.op with
          | some true, some (li, vs) => (match rnd li vs σ with
            | some (v, σ') => runOpsR M call rnd all r (putF f o.dst v) σ'
            | none => none)
          | _, _ => none) := rfl
    have ih : runOpsF M call rnd all r = runOpsR M call rnd all r := funext fun f => funext fun σ => runOpsF_eq all r f σ
    rw [h1, h2, opK_eq, ih]

structure CK where
  run : (List Item → Fr → St → Option (Value × St)) → List Item → Fr → St → Option (Value × St)

def codeK (steps : Nat) (K : FuncId) (fn : Func) (c : Code) : CK :=
  match c with
  | .skip => ⟨fun rec k f σ => rec k f σ⟩
  | .seq x y => ⟨fun rec k f σ => rec (.code x :: .code y :: k) f σ⟩
  | .block id c => ⟨fun rec k f σ => rec (.code c :: .inBlock id :: k) f σ⟩
  | .loop c => ⟨fun rec k f σ => rec (.code c :: .inLoop c :: k) f σ⟩
  | .cond c x y => ⟨fun rec k f σ => match opd f c with
    | some (.bool t) => rec (.code (bif t then x else y) :: k) f σ
    | _ => none⟩
  | .exit id => ⟨fun rec k f σ => match exitTo id k with | some k' => rec k' f σ | none => none⟩
  | .region _ ops draw => bif draw then ⟨fun rec k f σ => stepK2 M call steps K fn rec (.code c :: k) f σ⟩
    else bif ops.toList.all (dstOk fn.ntmps) then (match ops.toList with | l => ⟨fun rec k f σ => match runOpsF M call (roundF M call steps) ops l f σ with | some (f', σ') => rec k f' σ' | none => none⟩)
    else ⟨fun _ _ _ _ => none⟩
  | c => ⟨fun rec k f σ => stepK2 M call steps K fn rec (.code c :: k) f σ⟩

def stepF (steps : Nat) (K : FuncId) (fn : Func) (rec : List Item → Fr → St → Option (Value × St)) (k : List Item) (f : Fr) (σ : St) : Option (Value × St) :=
  match k with
  | .code c :: k => (match codeK M call steps K fn c with | ⟨g⟩ => g rec k f σ)
  | .inBlock _ :: k => rec k f σ
  | .inLoop c :: k => rec (.code c :: .inLoop c :: k) f σ
  | k => stepK2 M call steps K fn rec k f σ

theorem stepF_eq (steps : Nat) (K : FuncId) (fn : Func) (rec : List Item → Fr → St → Option (Value × St)) (k : List Item) (f : Fr) (σ : St) : stepF M call steps K fn rec k f σ = stepK2 M call steps K fn rec k f σ := by
  unfold stepF
  split
  · rename_i c k
    show (codeK M call steps K fn c).run rec k f σ = _
    cases c with
    | region id ops draw =>
      cases draw with
      | true => rfl
      | false =>
        have h2 : stepK2 M call steps K fn rec (.code (.region id ops false) :: k) f σ = (bif ops.toList.all (dstOk fn.ntmps) then (match runOpsR M call (roundF M call steps) ops ops.toList f σ with | some (f', σ') => rec k f' σ' | none => none) else none) := rfl
        have h3 : codeK M call steps K fn (.region id ops false) = (bif ops.toList.all (dstOk fn.ntmps) then ⟨fun rec k f σ => match runOpsF M call (roundF M call steps) ops ops.toList f σ with | some (f', σ') => rec k f' σ' | none => none⟩ else ⟨fun _ _ _ _ => none⟩) := rfl
        rw [h2, h3, ← runOpsF_eq]
        cases ops.toList.all (dstOk fn.ntmps) <;> rfl
    | _ => rfl
  · rfl
  · rfl
  · rfl

def runF3 (steps : Nat) (K : FuncId) (fn : Func) (n : Nat) : List Item → Fr → St → Option (Value × St) :=
  Nat.rec (motive := fun _ => List Item → Fr → St → Option (Value × St)) (fun _ _ _ => none) (fun _ ih => stepF M call steps K fn ih) n

theorem runF3_eq (steps : Nat) (K : FuncId) (fn : Func) : ∀ n, runF3 M call steps K fn n = runK2 M call steps K fn n
  | 0 => rfl
  | n + 1 => by
    funext k f σ
    show stepF M call steps K fn (runF3 M call steps K fn n) k f σ = stepK2 M call steps K fn (runK2 M call steps K fn n) k f σ
    rw [stepF_eq, runF3_eq steps K fn n]

/-- What is known of a function before it is called. -/
structure FK where
  run : List Value → St → Option (Value × St)
def funK (steps : Nat) (g : FuncId) : FK :=
  match M.P.funcs.toList[g]? with
  | some fn => (match fn.body with
    | some c => bif fn.name != "runtime.NumGoroutine" then ⟨fun args σ => bif Nat.ble args.length fn.ntmps then runF3 M call steps g fn steps [.code c] (initF 0 args .nil) σ else none⟩ else ⟨fun _ _ => none⟩
    | none => ⟨fun _ _ => none⟩)
  | none => ⟨fun _ _ => none⟩
theorem funK_eq (steps : Nat) (g : FuncId) (args : List Value) (σ : St) : (funK M call steps g).run args σ = bodyF2 M call steps g args σ := by
  unfold funK bodyF2
  cases hf : M.P.funcs.toList[g]? with
  | none => rfl
  | some fn =>
    simp only
    cases hc : fn.body with
    | none => rfl
    | some c =>
      simp only
      rw [← runF3_eq]
      cases h : (fn.name != "runtime.NumGoroutine") <;> simp only [cond_true, cond_false, Bool.true_and, Bool.false_and]
end

def ev3 (M : EnvM) (orc : CallF) (steps : Nat) (n : Nat) : CallF :=
  Nat.rec (motive := fun _ => CallF) (fun _ _ _ => none) (fun _ ih g args σ => match orc g args σ with | some r => some r | none => (match funK M ih steps g with | ⟨h⟩ => h args σ)) n

theorem ev3_eq (M : EnvM) (orc : CallF) (steps : Nat) : ∀ n, ev3 M orc steps n = ev2 M orc steps n
  | 0 => rfl
  | n + 1 => by
    funext g args σ
    have h1 : ev3 M orc steps (n + 1) g args σ = (match orc g args σ with | some r => some r | none => (funK M (ev3 M orc steps n) steps g).run args σ) := rfl
    have h2 : ev2 M orc steps (n + 1) g args σ = (match orc g args σ with | some r => some r | none => bodyF2 M (ev2 M orc steps n) steps g args σ) := rfl
    rw [h1, h2, funK_eq, ev3_eq M orc steps n]

theorem ev3_sound {M : EnvM} {orc : CallF} (ho : CallOk M orc) (steps n : Nat) : CallOk M (ev3 M orc steps n) := by
  rw [ev3_eq]
  exact ev2_sound ho steps n
end
end AH
