/-
  AH 3: what one operation does, said of the abstract state: the definitions.
-/
import Derived.Test.YtognbiffhgpoaaaGreatAh2
set_option linter.unusedSimpArgs false
set_option linter.unusedVariables false
namespace AH
open Go
noncomputable section

/-- What is known of a type: its shape, how many cells, how many bytes, its zero; whether values of it may be compared field by field. -/
structure TyI where
  desc : TypeDesc
  size : Nat
  bytes : Nat
  zero : Value
  eqok : Bool

def TyI.agg (i : TyI) : Bool := match i.desc with | .struct _ | .array _ _ => true | _ => false
def TyI.iface (i : TyI) : Bool := match i.desc with | .interface _ => true | _ => false

/-- A value without addresses, of small depth. -/
def closedV : Nat → Value → Bool
  | 0, _ => false
  | n + 1, v => match v with
    | .bool _ | .int _ _ | .string _ | .pointer none | .slice none _ _ | .map none | .nilFunc | .nilIface | .float _ _ | .complex _ _ _ => true
    | .agg cs => cs.toList.all (closedV n)
    | .tuple cs => cs.toList.all (closedV n)
    | .iface _ v => closedV n v
    | _ => false

theorem closedV_ren : ∀ (n : Nat) (v : Value), closedV n v = true → ∀ ρ, ren ρ v = v := by
  intro n
  induction n with
  | zero => intro v h; simp [closedV] at h
  | succ n ih =>
    intro v h ρ
    cases v with
    | agg cs =>
      simp only [closedV, List.all_eq_true] at h
      simp only [ren_agg, Value.agg.injEq]
      exact Array.ext' (by simp only [Array.toList_map]; exact (List.map_congr_left fun v hv => ih v (h v hv) ρ).trans (List.map_id' _))
    | tuple cs =>
      simp only [closedV, List.all_eq_true] at h
      simp only [ren_tuple, Value.tuple.injEq]
      exact Array.ext' (by simp only [Array.toList_map]; exact (List.map_congr_left fun v hv => ih v (h v hv) ρ).trans (List.map_id' _))
    | iface t v => simp only [closedV] at h; simp [ih v h ρ]
    | pointer a => cases a <;> simp_all [closedV]
    | slice a n c => cases a <;> simp_all [closedV]
    | map a => cases a <;> simp_all [closedV]
    | _ => simp_all [closedV]

theorem closedV_Sc {n : Nat} {v : Value} (h : closedV n v = true) (m : Nat) : Sc m v := fun ρ ρ' _ => by rw [closedV_ren n v h ρ, closedV_ren n v h ρ']

structure Env where
  P : Program
  ty : Nat → Option TyI
  tyOk : ∀ t i, ty t = some i → P.underlying t = some i.desc ∧ closedV 4 i.zero = true ∧ i.zero.cells.size = i.size ∧
    ∃ info, P.info? t = some info ∧ info.size = i.size ∧ info.bytes = i.bytes ∧ info.zero = some i.zero
  eqOk : ∀ t i, ty t = some i → i.eqok = true → P.stoodInHeld t = false ∧ P.eqGuardType P.depth t = false
  mixed : P.follows .mixedOrders = true

structure Fr where
  tr : Tr Value
  df : List Nat

namespace Fr
def get (f : Fr) (t : Nat) : Option Value := f.tr.get t
def set (f : Fr) (t : Nat) (v : Value) : Fr := ⟨f.tr.set t v, f.df⟩
def nil : Fr := ⟨.leaf, []⟩
/-- With a block of deferred calls more. -/
def mark (f : Fr) (d : Nat) : Fr := ⟨f.tr, d :: f.df⟩
theorem get_set (f : Fr) (k j : Nat) (v : Value) : (f.set k v).get j = if k = j then some v else f.get j := Tr.get_set f.tr k j v
@[simp] theorem df_set (f : Fr) (k : Nat) (v : Value) : (f.set k v).df = f.df := rfl
@[simp] theorem get_nil (t : Nat) : nil.get t = none := rfl
@[simp] theorem df_nil : nil.df = [] := rfl
@[simp] theorem get_mark (f : Fr) (d t : Nat) : (f.mark d).get t = f.get t := rfl
@[simp] theorem df_mark (f : Fr) (d : Nat) : (f.mark d).df = d :: f.df := rfl
end Fr

def opd (f : Fr) : Operand → Option Value
  | .tmp t => f.get t
  | .const v => bif closedV 4 v then some v else none
  | .func g => some (.func (.func g) #[] #[])
  | .global _ => none

def opds (f : Fr) : List Operand → Option (List Value)
  | [] => some []
  | x :: r => match opd f x with
    | some v => (match opds f r with | some l => some (v :: l) | none => none)
    | none => none

/-- So many known cells from an address on. -/
def ldCells (σ : St) (a : Addr) (n : Nat) : Option (List Value) :=
  match (σ.get a.block).known with
  | some cs => bif a.spot.isNone && Nat.ble (a.off + n) cs.length then some ((cs.drop a.off).take n) else none
  | none => none

def ldVar (i : TyI) (σ : St) (a : Addr) : Option Value :=
  bif i.agg then (match ldCells σ a i.size with | some l => some (.agg l.toArray) | none => none)
  else match ldCells σ a 1 with | some [v] => some v | _ => none

/-- Comparisons that reckon with a number of which only the beginning is known. -/
def leI : Int → Int → Bool
  | .ofNat m, .ofNat n => Nat.ble m n
  | .ofNat _, .negSucc _ => false
  | .negSucc _, .ofNat _ => true
  | .negSucc m, .negSucc n => Nat.ble n m
def ltI : Int → Int → Bool
  | .ofNat m, .ofNat n => Nat.ble (m + 1) n
  | .ofNat _, .negSucc _ => false
  | .negSucc _, .ofNat _ => true
  | .negSucc m, .negSucc n => Nat.ble (n + 1) m

theorem ble_dec (m n : Nat) : Nat.ble m n = decide (m ≤ n) := by
  cases h : Nat.ble m n with
  | true => exact (decide_eq_true (Nat.le_of_ble_eq_true h)).symm
  | false => exact (decide_eq_false fun hle => by rw [Nat.ble_eq_true_of_le hle] at h; cases h).symm

theorem leI_eq (x y : Int) : leI x y = decide (x ≤ y) := by
  cases x <;> cases y <;> simp only [leI, ble_dec] <;> first | (apply decide_eq_decide.2; simp only [Int.ofNat_eq_natCast, Int.negSucc_eq]; omega) | (symm; first | (apply decide_eq_true; simp only [Int.ofNat_eq_natCast, Int.negSucc_eq]; omega) | (apply decide_eq_false; simp only [Int.ofNat_eq_natCast, Int.negSucc_eq]; omega))

theorem ltI_eq (x y : Int) : ltI x y = decide (x < y) := by
  cases x <;> cases y <;> simp only [ltI, ble_dec] <;> first | (apply decide_eq_decide.2; simp only [Int.ofNat_eq_natCast, Int.negSucc_eq]; omega) | (symm; first | (apply decide_eq_true; simp only [Int.ofNat_eq_natCast, Int.negSucc_eq]; omega) | (apply decide_eq_false; simp only [Int.ofNat_eq_natCast, Int.negSucc_eq]; omega))

def intOp (op : BinOp) (k : IntKind) (x y : Int) : Option Value :=
  match op with
  | .add => some (.int k (k.wrap (x + y)))
  | .sub => some (.int k (k.wrap (x - y)))
  | .mul => some (.int k (k.wrap (x * y)))
  | .quo => if y = 0 then none else some (.int k (k.wrap (x.tdiv y)))
  | .rem => if y = 0 then none else some (.int k (x.tmod y))
  | .and => some (.int k (k.wrap ((BitVec.ofInt k.bits x &&& BitVec.ofInt k.bits y).toNat : Nat)))
  | .or => some (.int k (k.wrap ((BitVec.ofInt k.bits x ||| BitVec.ofInt k.bits y).toNat : Nat)))
  | .xor => some (.int k (k.wrap ((BitVec.ofInt k.bits x ^^^ BitVec.ofInt k.bits y).toNat : Nat)))
  | .andNot => some (.int k (k.wrap ((BitVec.ofInt k.bits x &&& ~~~ BitVec.ofInt k.bits y).toNat : Nat)))
  | .eql => some (.bool (x == y))
  | .neq => some (.bool (x != y))
  | .lss => some (.bool (ltI x y))
  | .leq => some (.bool (leI x y))
  | .gtr => some (.bool (ltI y x))
  | .geq => some (.bool (leI y x))
  | _ => none

def shOp (op : BinOp) (k : IntKind) (x y : Int) : Option Value :=
  if y < 0 then none else
  match op with
  | .shl => some (.int k (k.wrap (x * 2 ^ (min y.toNat k.bits))))
  | .shr => some (.int k (x.fdiv (2 ^ (min y.toNat k.bits))))
  | _ => none

def mkStr (l : List UInt8) : ByteArray := ⟨l.toArray⟩

def strOp (op : BinOp) (x y : ByteArray) : Option Value :=
  match op with
  | .add => if ((x.data.toList.length + y.data.toList.length : Nat) : Int) > 9223372036854775807 then none else some (.string (mkStr (x.data.toList ++ y.data.toList)))
  | .eql => some (.bool (x.data.toList == y.data.toList))
  | .neq => some (.bool !(x.data.toList == y.data.toList))
  | .lss => some (.bool (Op.bytesLess x.data.toList y.data.toList))
  | .leq => some (.bool (Op.bytesLess x.data.toList y.data.toList || x.data.toList == y.data.toList))
  | .gtr => some (.bool !(Op.bytesLess x.data.toList y.data.toList || x.data.toList == y.data.toList))
  | .geq => some (.bool !(Op.bytesLess x.data.toList y.data.toList))
  | _ => none

def partQ (i : TyI) (cs : List Value) (off : Nat) : Option Value :=
  bif i.agg then (bif Nat.ble (off + i.size) cs.length then some (.agg ((cs.drop off).take i.size).toArray) else none) else cs[off]?

/-- Are two values of a type equal, as far as it can be told without looking into memory? -/
def eqQ (ty : Nat → Option TyI) : Nat → Nat → Value → Value → Option Bool
  | 0, _, _, _ => none
  | n + 1, t, x, y =>
    match ty t with
    | none => none
    | some i =>
      match i.desc, x, y with
      | .bool, .bool a, .bool b => some (a == b)
      | .int _, .int k a, .int k' b => if k = k' then some (a == b) else none
      | .string, .string a, .string b => some (a.data.toList == b.data.toList)
      | .pointer _, .pointer none, .pointer b => some b.isNone
      | .pointer _, .pointer (some _), .pointer none => some false
      | .pointer e, .pointer (some a), .pointer (some b) =>
        (match ty e with
         | some j => if j.size ≠ 0 ∧ a.block = b.block then some (a == b) else none
         | none => none)
      | .interface _, .nilIface, .iface _ _ => some false
      | .interface _, .iface _ _, .nilIface => some false
      | .slice _, .slice none _ _, .slice b _ _ => some b.isNone
      | .slice _, .slice (some _) _ _, .slice none _ _ => some false
      | .map _ _, .map none, .map b => some b.isNone
      | .map _ _, .map (some _), .map none => some false
      | .func _ _ _, .nilFunc, .nilFunc => some true
      | .func _ _ _, .nilFunc, .func _ _ _ => some false
      | .func _ _ _, .func _ _ _, .nilFunc => some false
      | .struct fields, .agg xs, .agg ys => bif i.eqok then fieldsQ (eqQ ty n) ty fields.toList xs.toList ys.toList else none
      | .array len e, .agg xs, .agg ys => bif i.eqok then
        (match ty e with
         | some j => elemsQ (eqQ ty n e) j xs.toList ys.toList 0 len
         | none => none) else none
      | _, _, _ => none
where
  fieldsQ (eq : Nat → Value → Value → Option Bool) (ty : Nat → Option TyI) : List Field → List Value → List Value → Option Bool
    | [], _, _ => some true
    | f :: r, xs, ys =>
      if f.name = "_" then fieldsQ eq ty r xs ys else
      match ty f.type with
      | none => none
      | some i =>
        match partQ i xs f.offset, partQ i ys f.offset with
        | some a, some b =>
          (match eq f.type a b with
           | some true => fieldsQ eq ty r xs ys
           | some false => some false
           | none => none)
        | _, _ => none
  elemsQ (eq : Value → Value → Option Bool) (j : TyI) (xs ys : List Value) (k : Nat) : Nat → Option Bool
    | 0 => some true
    | m + 1 =>
      match partQ j xs (k * j.size), partQ j ys (k * j.size) with
      | some a, some b =>
        (match eq a b with
         | some true => elemsQ eq j xs ys (k + 1) m
         | some false => some false
         | none => none)
      | _, _ => none

def binQ (E : Env) (op : BinOp) (t : Nat) (x y : Value) : Option Value :=
  match x, y with
  | .int k a, .int k' b =>
    (match op with
     | .shl | .shr => shOp op k a b
     | _ => if k = k' then intOp op k a b else none)
  | .string a, .string b => strOp op a b
  | x, y =>
    (match op with
     | .eql => (match eqQ E.ty 5 t x y with | some b => some (.bool b) | none => none)
     | .neq => (match eqQ E.ty 5 t x y with | some b => some (.bool !b) | none => none)
     | _ => none)

def unQ (op : UnOp) (x : Value) : Option Value :=
  match op, x with
  | .neg, .int k n => some (.int k (k.wrap (0 - n)))
  | .xor, .int k n => intOp .xor k (if k.signed then -1 else k.max) n
  | .not, .bool b => some (.bool !b)
  | _, _ => none

def convQ (E : Env) (src dst : Nat) (x : Value) : Option Value :=
  match E.ty src, E.ty dst with
  | some i, some j =>
    (match i.desc, j.desc, x with
     | _, .int k, .int _ n => some (.int k (k.wrap n))
     | _, .string, .string s => some (.string s)
     | _, _, _ => none)
  | _, _ => none

def idx : Option Value → Nat → Nat → Option Nat
  | none, d, _ => some d
  | some (.int _ i), _, y => if 0 ≤ i ∧ i ≤ (y : Int) then some i.toNat else none
  | some _, _, _ => none

def addA (a : Addr) (n : Nat) : Addr := if n = 0 then a else { a with off := a.off + n, spot := none }

def opdO (f : Fr) : Option Operand → Option (Option Value)
  | none => some none
  | some x => match opd f x with | some v => some (some v) | none => none

/-- x[lo:hi:mx] -/
def sliceQ (E : Env) (σ : St) (t : Nat) (x : Value) (lo hi mx : Option Value) : Option Value :=
  match E.ty t with
  | none => none
  | some i =>
    match i.desc, x with
    | .string, .string s =>
      (match mx, idx hi s.data.toList.length s.data.toList.length with
       | none, some h => (match idx lo 0 h with
         | some l => some (.string (mkStr ((s.data.toList.drop l).take (h - l))))
         | none => none)
       | _, _ => none)
    | .slice e, .slice a len cap =>
      (match E.ty e with
       | none => none
       | some j =>
         if cap < half then
           match idx mx cap cap with
           | none => none
           | some m =>
             if mx.isSome ∧ hi.isNone then none else
             match idx hi len m with
             | none => none
             | some h => (match idx lo 0 h with
               | none => none
               | some l => some (.slice (if m = l then a else a.map fun a => addA a (l * j.size)) (h - l) (m - l)))
         else match mx, a with
           | none, some a =>
             (match σ.get a.block with
              | .row _ sz cs =>
                if unk - cap < half ∧ cap ≤ unk ∧ sz = j.size ∧ 0 < sz ∧ a.off = (unk - cap) * sz ∧ len * sz + a.off ≤ cs.length then
                  match idx hi len ((cs.length - a.off) / sz) with
                  | none => none
                  | some h => (match idx lo 0 h with
                    | none => none
                    | some l => if l = 0 ∨ l < h then (if l < half ∧ unk - cap + l < half then some (.slice (some (addA a (l * j.size))) (h - l) (cap - l)) else none) else none)
                else none
              | _ => none)
           | some mv, some a =>
            (match σ.get a.block with
              | .row _ sz cs =>
                if unk - cap < half ∧ cap ≤ unk ∧ sz = j.size ∧ 0 < sz ∧ a.off = (unk - cap) * sz ∧ len * sz + a.off ≤ cs.length ∧ hi.isSome = true then
                  match idx (some mv) 0 ((cs.length - a.off) / sz) with
                  | none => none
                  | some m => match idx hi len m with
                    | none => none
                    | some h => (match idx lo 0 h with
                      | none => none
                      | some l => if m < half then some (.slice (some (if m = l then a else addA a (l * j.size))) (h - l) (m - l)) else none)
                else none
              | _ => none)
           | _, _ => none)
    | .array n e, .pointer (some a) =>
      (match E.ty e, idx mx n n with
       | some j, some m =>
         if mx.isSome ∧ hi.isNone then none else
         (match idx hi n m with
          | none => none
          | some h => (match idx lo 0 h with
            | none => none
            | some l => if n < half then some (.slice (some (if m = l then a else addA a (l * j.size))) (h - l) (m - l)) else none))
       | _, _ => none)
    | _, _ => none

def fieldQ (E : Env) (s : Nat) (x : Value) (k : Nat) : Option Value :=
  match E.ty s, x with
  | some i, .pointer (some a) =>
    (match i.desc with
     | .struct fs => (match fs.toList[k]? with
       | some f => (match E.ty f.type with
         | some j => if j.size = 0 then none else some (.pointer (some (addA a f.offset)))
         | none => none)
       | none => none)
     | _ => none)
  | _, _ => none

def fieldV (E : Env) (s : Nat) (x : Value) (k : Nat) : Option Value :=
  match E.ty s, x with
  | some i, .agg cs =>
    (match i.desc with
     | .struct fs => (match fs.toList[k]? with
       | some f => (match E.ty f.type with
         | some j => partQ j cs.toList f.offset
         | none => none)
       | none => none)
     | _ => none)
  | _, _ => none

def indexAddrQ (E : Env) (t : Nat) (x i : Value) : Option Value :=
  match E.ty t, i with
  | some ti, .int _ n =>
    (match ti.desc, x with
     | .slice e, .slice (some a) len _ => (match E.ty e with
       | some j => if 0 ≤ n ∧ n < (len : Int) then some (.pointer (some (addA a (n.toNat * j.size)))) else none
       | none => none)
     | .array len e, .pointer (some a) => (match E.ty e with
       | some j => if 0 ≤ n ∧ n < (len : Int) then some (.pointer (some (addA a (n.toNat * j.size)))) else none
       | none => none)
     | _, _ => none)
  | _, _ => none

/-- A slice's array. -/
def arrQ (E : Env) (t : Nat) (x : Value) : Option Value :=
  match E.ty t, x with
  | some ti, .slice (some a) len _ => (match ti.desc with
    | .array n _ => bif Nat.ble n len then some (.pointer (some a)) else none
    | _ => none)
  | _, _ => none

def indexQ (E : Env) (t : Nat) (x i : Value) : Option Value :=
  match E.ty t, i with
  | some ti, .int _ n =>
    (match ti.desc, x with
     | .array len e, .agg cs => (match E.ty e with
       | some j => if 0 ≤ n ∧ n < (len : Int) then partQ j cs.toList (n.toNat * j.size) else none
       | none => none)
     | .string, .string s => if 0 ≤ n then (match s.data.toList[n.toNat]? with | some b => some (.int .u8 b.toNat) | none => none) else none
     | _, _ => none)
  | _, _ => none

/-- Key types by which a map is asked: whole numbers, texts, bools; arrays of whole numbers. -/
def keyOk (E : Env) (t : Nat) (k : Value) : Bool :=
  match E.ty t, k with
  | some i, .int k' _ => (match i.desc with | .int _ => true | _ => false)
  | some i, .string _ => (match i.desc with | .string => true | _ => false)
  | some i, .bool _ => (match i.desc with | .bool => true | _ => false)
  | _, _ => false

def findQ (d : TypeDesc) (k : Value) : List MapEntry → Nat → Option (Option (Nat × Value))
  | [], _ => some none
  | e :: es, i =>
    match Instr.sameNow d k e.key with
    | some true => some (some (i, e.val))
    | some false => findQ d k es (i + 1)
    | none => none

def lookupQ (E : Env) (σ : St) (t : Nat) (x k : Value) (ok : Bool) : Option Value :=
  match E.ty t with
  | none => none
  | some i =>
    match i.desc with
    | .map kt et =>
      (match E.ty kt, E.ty et, keyOk E kt k with
       | some ki, some ei, true =>
         (match x with
          | .map none => some (if ok then .tuple #[ei.zero, .bool false] else ei.zero)
          | .map (some r) => (match σ.get r with
            | .map es _ => (match findQ ki.desc k es 0 with
              | some (some (_, v)) => some (if ok then .tuple #[v, .bool true] else v)
              | some none => some (if ok then .tuple #[ei.zero, .bool false] else ei.zero)
              | none => none)
            | _ => none)
          | _ => none)
       | _, _, _ => none)
    | _ => none

def lenQ (E : Env) (σ : St) (t : Nat) (x : Value) : Option Value :=
  match E.ty t with
  | none => none
  | some i =>
    match i.desc, x with
    | .string, .string s => some (.int .i64 s.data.toList.length)
    | .array n _, _ => some (.int .i64 n)
    | .slice _, .slice _ n _ => some (.int .i64 n)
    | .map _ _, .map none => some (.int .i64 0)
    | .map _ _, .map (some r) => (match σ.get r with | .map es _ => some (.int .i64 es.length) | _ => none)
    | _, _ => none

def foldMM (mx : Bool) : Value → List Value → Option Value
  | v, [] => some v
  | .int k x, .int _ y :: r => foldMM mx (.int k (if mx then (if y > x then y else x) else (if y < x then y else x))) r
  | _, _ => none

def fillQ (place : Nat → Option (Nat × Nat)) (cells : List Value) : List (Nat × Value) → Option (List Value)
  | [] => some cells
  | (i, v) :: rest =>
    match place i with
    | none => none
    | some (off, size) =>
      if v.cells.toList.length = size ∧ off + v.cells.toList.length ≤ cells.length then fillQ place (putAt cells off v.cells.toList) rest else none
where
  putAt : List Value → Nat → List Value → List Value
    | cs, _, [] => cs
    | cs, o, v :: vs => putAt (cs.set o v) (o + 1) vs

abbrev putAt := fillQ.putAt

def partsQ (f : Fr) : List (Nat × Operand) → Option (List (Nat × Value))
  | [] => some []
  | (i, x) :: r => match opd f x with
    | some v => (match partsQ f r with | some l => some ((i, v) :: l) | none => none)
    | none => none

def places (ty : Nat → Option TyI) : List Field → Option (List (Nat × Nat))
  | [] => some []
  | f :: r => match ty f.type with
    | some j => (match places ty r with | some l => some ((f.offset, j.size) :: l) | none => none)
    | none => none

def buildQ (E : Env) (t : Nat) (parts : List (Nat × Value)) : Option Value :=
  match E.ty t with
  | none => none
  | some i =>
    match i.desc with
    | .struct fs =>
      (match places E.ty fs.toList with
       | some pl => (match fillQ (fun k => pl[k]?) i.zero.cells.toList parts with
         | some cs => some (.agg cs.toArray)
         | none => none)
       | none => none)
    | .array _ e =>
      (match E.ty e with
       | some j => (match fillQ (fun k => some (k * j.size, j.size)) i.zero.cells.toList parts with
         | some cs => some (.agg cs.toArray)
         | none => none)
       | none => none)
    | _ => none

/-- A method of a type's own, with a pointer for its receiver? -/
def mthB (P : Program) (t : Nat) (name : String) : Bool :=
  match P.info? t with
  | some info => (match info.methods.find? (fun m => m.name == name) with
    | some m => (match m.path.toList, m.func with
      | [], some (_, true) => true
      | _, _ => false)
    | none => false)
  | none => false

/-- Operations that leave the world as it is. -/
def opQ (E : Env) (f : Fr) (σ : St) : Op → Option Value
  | .move x | .assign x => opd f x
  | .pick c a b => match opd f c with
    | some (.bool t) => opd f (bif t then a else b)
    | _ => none
  | .load t a => match opd f a, E.ty t with
    | some (.pointer (some ad)), some i => ldVar i σ ad
    | _, _ => none
  | .nilCheck x => match opd f x with
    | some (.pointer (some a)) => some (.pointer (some a))
    | some (.iface t v) => some (.iface t v)
    | some (.func (.func g) x y) => some (.func (.func g) x y)
    | some (.func (.method name) x y) => (match x.toList with
      | [.iface t _] => bif mthB E.P t name then some (.func (.method name) x y) else none
      | _ => none)
    | _ => none
  | .binOp op t x y _ => match opd f x, opd f y with
    | some a, some b => binQ E op t a b
    | _, _ => none
  | .unOp op _ x => match opd f x with
    | some a => unQ op a
    | none => none
  | .convert s d x => match opd f x with
    | some a => convQ E s d a
    | none => none
  | .sliceToArrayPointer t x => match opd f x with
    | some v => arrQ E t v
    | none => none
  | .makeInterface t x => match opd f x, E.ty t with
    | some v, some i => bif i.iface then none else some (.iface t v)
    | _, _ => none
  | .makeFunc fn first cap => match opds f first.toList, opds f cap.toList with
    | some a, some b => (match fn with
      | .func g => some (.func (.func g) a.toArray b.toArray)
      | .method name => some (.func (.method name) a.toArray b.toArray)
      | _ => none)
    | _, _ => none
  | .slice t x lo hi mx => match opd f x, opdO f lo, opdO f hi, opdO f mx with
    | some v, some l, some h, some m => sliceQ E σ t v l h m
    | _, _, _, _ => none
  | .fieldAddr s x k => match opd f x with
    | some v => fieldQ E s v k
    | none => none
  | .field s x k => match opd f x with
    | some v => fieldV E s v k
    | none => none
  | .indexAddr t x i => match opd f x, opd f i with
    | some v, some k => indexAddrQ E t v k
    | _, _ => none
  | .index t x i => match opd f x, opd f i with
    | some v, some k => indexQ E t v k
    | _, _ => none
  | .lookup t x k ok => match opd f x, opd f k with
    | some m, some v => lookupQ E σ t m v ok
    | _, _ => none
  | .typeAssert x _ at_ ok => match opd f x, E.ty at_ with
    | some (.iface t v), some i => if i.iface = false ∧ t = at_ then some (bif ok then .tuple #[v, .bool true] else v) else none
    | _, _ => none
  | .extract x i => match opd f x with
    | some (.tuple vs) => vs.toList[i]?
    | _ => none
  | .build t parts => match partsQ f parts.toList with
    | some ps => buildQ E t ps
    | none => none
  | .call { callee := .builtin .len, args, argTypes } => match args.toList, argTypes.toList with
    | [x], [t] => (match opd f x with | some v => lenQ E σ t v | none => none)
    | _, _ => none
  | .call { callee := .builtin .min, args, argTypes := _ } => match opds f args.toList with
    | some (v :: r) => foldMM false v r
    | _ => none
  | .call { callee := .builtin .max, args, argTypes := _ } => match opds f args.toList with
    | some (v :: r) => foldMM true v r
    | _ => none
  | _ => none

end
end AH
