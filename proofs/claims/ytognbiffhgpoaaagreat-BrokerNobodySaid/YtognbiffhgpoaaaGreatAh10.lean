/-
  AH 10: operations that write, or make memory: the definitions.
-/
import Derived.Test.YtognbiffhgpoaaaGreatAh9
set_option linter.unusedSimpArgs false
set_option linter.unusedVariables false
namespace AH
open Go
noncomputable section

def Blk.put (b : Blk) (off : Nat) (vs : List Value) : Blk :=
  match b with
  | .cells e cs => .cells e (putAt cs off vs)
  | .row e sz cs => .row e sz (putAt cs off vs)
  | b => b

/-- Cells that are stored from an address on. -/
def stCells (σ : St) (a : Addr) (vs : List Value) : Option St :=
  match σ.get a.block with
  | .cells e cs => if a.spot.isNone ∧ a.off + vs.length ≤ cs.length ∧ vs.all Value.oneCell' = true then some (σ.set a.block (.cells e (putAt cs a.off vs))) else none
  | .row e sz cs => if a.spot.isNone ∧ a.off + vs.length ≤ cs.length ∧ vs.all Value.oneCell' = true then some (σ.set a.block (.row e sz (putAt cs a.off vs))) else none
  | _ => none

/-- What an append, or a copy, brings: so many elements, and their cells. -/
def srcQ (σ : St) (size : Nat) (x : Value) : Option (Nat × List Value) :=
  match x with
  | .slice none n _ => if n = 0 then some (0, []) else none
  | .slice (some b) n _ => match ldCells σ b (n * size) with | some l => some (n, l) | none => none
  | .string s => if size = 1 then some (s.data.toList.length, s.data.toList.map fun b => .int .u8 b.toNat) else none
  | _ => none

def repl (n : Nat) (z : List Value) : List Value := match n with | 0 => [] | n + 1 => z ++ repl n z
/-- The same, where zeros are brought (make). -/
def srcZ (σ : St) (d : TypeDesc) (j : TyI) (x : Value) : Option (Nat × List Value) :=
  match d with
  | .int _ => (match x with
    | .int _ z => if 0 ≤ z ∧ z ≤ 1048576 ∧ j.bytes ≤ 1048576 then some (z.toNat, repl z.toNat j.zero.cells.toList) else none
    | _ => none)
  | _ => srcQ σ j.size x

def appQ (E : Env) (σ : St) (t tx : Nat) (s x : Value) : Option (Value × St) :=
  match E.ty t, E.ty tx with
  | some i, some ix =>
    (match i.desc, (match ix.desc with | .slice _ => true | .string => true | .int _ => true | _ => false), s with
     | .slice e, true, .slice base len cap =>
       (match E.ty e with
        | none => none
        | some j =>
          match srcZ σ ix.desc j x with
          | none => none
          | some (n, new) =>
            if j.size = 0 ∨ j.bytes = 0 then none else
            if cap < half then
              if len + n ≤ cap then
                match base with
                | none => if n = 0 then some (.slice none (len + n) cap, σ) else none
                | some a => (match stCells σ (addA a (len * j.size)) new with
                  | some σ' => some (.slice (some a) (len + n) cap, σ')
                  | none => none)
              else if (8 * (len + n) + 4096) * j.bytes ≤ 281474976710656 then
                match base with
                | none => if len = 0 then some (.slice (some ⟨σ.next, 0, none⟩) (len + n) unk, σ.push (.row e j.size new)) else none
                | some a => (match ldCells σ a (len * j.size) with
                  | some old => some (.slice (some ⟨σ.next, 0, none⟩) (len + n) unk, σ.push (.row e j.size (old ++ new)))
                  | none => none)
              else none
            else match base with
              | none => none
              | some a => (match σ.get a.block with
                | .row e' sz cs =>
                  if sz = j.size ∧ unk - cap < half ∧ cap ≤ unk ∧ a.off = (unk - cap) * sz ∧ a.spot.isNone then
                    if a.off + (len + n) * sz ≤ cs.length then
                      (match stCells σ (addA a (len * j.size)) new with
                       | some σ' => some (.slice (some a) (len + n) cap, σ')
                       | none => none)
                    else if a.off = 0 ∧ len * sz = cs.length ∧ e' = e ∧ new.all Value.oneCell' = true ∧ (8 * (len + n) + 4096) * j.bytes ≤ 281474976710656 then
                      some (.slice (some ⟨σ.next, 0, none⟩) (len + n) unk, (σ.set a.block .dead).push (.row e sz (cs ++ new)))
                    else none
                  else none
                | _ => none))
     | _, _, _ => none)
  | _, _ => none

def copyQ (E : Env) (σ : St) (t : Nat) (d x : Value) : Option (Value × St) :=
  match E.ty t with
  | some i =>
    (match i.desc, d with
     | .slice e, .slice base dLen _ =>
       (match E.ty e with
        | none => none
        | some j =>
          match srcQ σ j.size x with
          | none => none
          | some (n, new) =>
            match base with
            | none => if dLen = 0 then some (.int .i64 0, σ) else none
            | some a => (match stCells σ a (new.take (min n dLen * j.size)) with
              | some σ' => some (.int .i64 (min n dLen : Nat), σ')
              | none => none))
     | _, _ => none)
  | none => none


def clearQ (E : Env) (σ : St) (t : Nat) (x : Value) : Option (Value × St) :=
  match E.ty t with
  | some i =>
    (match i.desc, x with
     | .slice e, .slice none _ _ => some (.tuple #[], σ)
     | .slice e, .slice (some a) n _ =>
       (match E.ty e with
        | none => none
        | some j => if n = 0 then some (.tuple #[], σ) else (match stCells σ a (repl n j.zero.cells.toList) with
          | some σ' => some (.tuple #[], σ')
          | none => none))
     | _, _ => none)
  | none => none

def delQ (E : Env) (σ : St) (t : Nat) (m k : Value) : Option (Value × St) :=
  match E.ty t with
  | some i =>
    (match i.desc with
     | .map kt _ => (match E.ty kt, keyOk E kt k with
       | some ki, true => (match m with
         | .map none => some (.tuple #[], σ)
         | .map (some r) => (match σ.get r with
           | .map es c => (match findQ ki.desc k es 0 with
             | some (some (j, _)) => some (.tuple #[], σ.set r (.map (es.eraseIdx j) c))
             | some none => some (.tuple #[], σ)
             | none => none)
           | _ => none)
         | _ => none)
       | _, _ => none)
     | _ => none)
  | none => none

def mapUpdQ (E : Env) (σ : St) (t : Nat) (m k x : Value) : Option St :=
  match E.ty t with
  | some i =>
    (match i.desc with
     | .map kt _ => (match E.ty kt, keyOk E kt k with
       | some ki, true => (match m with
         | .map (some r) => (match σ.get r with
           | .map es c => (match findQ ki.desc k es 0 with
             | some (some (j, _)) => some (σ.set r (.map (es.modify j fun e => { e with key := k, val := x }) c))
             | some none => some (σ.set r (.map (es ++ [{ key := k, val := x, born := c }]) (c + 1)))
             | none => none)
           | _ => none)
         | _ => none)
       | _, _ => none)
     | _ => none)
  | none => none

def rangeQ (E : Env) (σ : St) (t : Nat) (x : Value) : Option (Value × St) :=
  match E.ty t with
  | some i =>
    (match i.desc, x with
     | .string, .string s => some (.pointer (some ⟨σ.next, 0, none⟩), σ.push (.siter s 0))
     | .map _ _, .map none => some (.pointer (some ⟨σ.next, 0, none⟩), σ.push (.miter none 0 [] 0))
     | .map _ _, .map (some m) => (match σ.get m with
       | .map _ c => some (.pointer (some ⟨σ.next, 0, none⟩), σ.push (.miter (some m) c [] c))
       | _ => none)
     | _, _ => none)
  | none => none

/-- What a map's iterator may come to next: its candidates. -/
def cands (es : List MapEntry) (since : Nat) (seen : List Nat) : List (Option MapEntry) :=
  let left := es.filter fun e => !seen.contains e.born
  let old := left.filter fun e => decide (e.born < since)
  let new := left.filter fun e => decide (e.born ≥ since)
  (if old.isEmpty then [none] else []) ++ (old ++ new).map some

def nextDone (r : Nat) (σ : St) (m since : Nat) (seen : List Nat) (clock : Nat) : Option MapEntry → Value × St
  | some e => (.tuple #[.bool true, e.key, e.val], σ.set r (.miter (some m) since (seen ++ [e.born]) clock))
  | none => (.tuple #[.bool false], σ)

/-- A step of an iterator, where only one is possible. -/
def nextQ (σ : St) (it : Value) (isString : Bool) : Option (Value × St) :=
  match it with
  | .pointer (some ⟨r, 0, none⟩) =>
    (match σ.get r, isString with
     | .siter s pos, true =>
       if pos < s.size then some (.tuple #[.bool true, .int .i64 pos, .int .i32 (Utf8.decode s pos).1], σ.set r (.siter s (pos + (Utf8.decode s pos).2)))
       else some (.tuple #[.bool false], σ)
     | .miter none _ _ _, false => some (.tuple #[.bool false], σ)
     | .miter (some m) since seen last, false => (match σ.get m with
       | .map es clock =>
         if !seen.isEmpty && !es.isEmpty && es.all (fun e => decide (e.born ≥ last)) then none else
         (match cands es since seen with
          | [c] => some (nextDone r σ m since seen clock c)
          | _ => none)
       | _ => none)
     | _, _ => none)
  | _ => none

def entryQ (σ : St) (it : Value) : Option Value :=
  match it with
  | .pointer (some ⟨r, 0, none⟩) =>
    (match σ.get r with
     | .miter (some m) _ seen stepped => (match seen.getLast?, σ.get m with
       | some stamp, .map es clock => if clock = stepped then (match es.find? (fun e => e.born == stamp) with
         | some e => some (.tuple #[e.key, e.val])
         | none => none) else none
       | _, _ => none)
     | _ => none)
  | _ => none

def byteOf : Value → Option UInt8
  | .int .u8 n => some (UInt8.ofNat n.toNat)
  | _ => none

def bytesOf : List Value → Option (List UInt8)
  | [] => some []
  | v :: r => match byteOf v with
    | some b => (match bytesOf r with | some l => some (b :: l) | none => none)
    | none => none

/-- Operations that write, or make memory: the value (none: there is none), and the state. -/
def opW (E : Env) (f : Fr) (σ : St) : Op → Option (Option Value × St)
  | .alloc e => match E.ty e with
    | some i => some (some (.pointer (some ⟨σ.next, 0, none⟩)), σ.push (.cells e i.zero.cells.toList))
    | none => none
  | .box e x => match opd f x with
    | some v => some (some (.pointer (some ⟨σ.next, 0, none⟩)), σ.push (.cells e v.cells.toList))
    | none => none
  | .buildSlice t len parts => match E.ty t, partsQ f parts.toList with
    | some i, some ps => (match i.desc with
      | .slice e => (match E.ty e with
        | some j => if len * j.size ≤ 16777216 ∧ len < half then
            (match fillQ (fun k => some (k * j.size, j.size)) (repl len j.zero.cells.toList) ps with
             | some cs => some (some (.slice (some ⟨σ.next, 0, none⟩) len len), σ.push (.cells e cs))
             | none => none)
          else none
        | none => none)
      | _ => none)
    | _, _ => none
  | .store t a x => match opd f a, opd f x, E.ty t with
    | some (.pointer (some ad)), some v, some i => if v.cells.toList.length = i.size then (match stCells σ ad v.cells.toList with | some σ' => some (none, σ') | none => none) else none
    | _, _, _ => none
  | .makeMap t none => some (some (.map (some σ.next)), σ.push (.map [] 0))
  | .makeMap t (some x) => match E.ty t, opd f x with
    | some i, some (.int _ _) => (match i.desc with
      | .map _ _ => some (some (.map (some σ.next)), σ.push (.map [] 0))
      | _ => none)
    | _, _ => none
  | .makeSlice t l c => match E.ty t, opd f l, opd f c with
    | some i, some (.int _ x), some (.int _ y) => (match i.desc with
      | .slice e => (match E.ty e with
        | some j => if 0 ≤ x ∧ x ≤ y ∧ y < 4611686018427387904 ∧ (j.bytes : Int) * y ≤ 281474976710656 then some (some (.slice (some ⟨σ.next, 0, none⟩) x.toNat y.toNat), σ.push (.cells e (repl y.toNat j.zero.cells.toList))) else none
        | none => none)
      | _ => none)
    | _, _, _ => none
  | .mapUpdate t m k x | .insert t m k x => match opd f m, opd f k, opd f x with
    | some vm, some vk, some vx => (match mapUpdQ E σ t vm vk vx with | some σ' => some (none, σ') | none => none)
    | _, _, _ => none
  | .range t x => match opd f x with
    | some v => (match rangeQ E σ t v with | some (u, σ') => some (some u, σ') | none => none)
    | none => none
  | .next it s => match opd f it with
    | some v => (match nextQ σ v s with | some (u, σ') => some (some u, σ') | none => none)
    | none => none
  | .entry it => match opd f it with
    | some v => (match entryQ σ v with | some u => some (some u, σ) | none => none)
    | none => none
  | .convert s d x => match E.ty s, E.ty d, opd f x with
    | some i, some j, some v => (match i.desc, j.desc, v with
      | .string, .slice e, .string str => (match E.ty e with
        | some je => (match je.desc with
          | .int .u8 => if str.data.toList.length < 4611686018427387904 ∧ je.size = 1 then some (some (.slice (some ⟨σ.next, 0, none⟩) str.data.toList.length unk), σ.push (.row e 1 (str.data.toList.map fun b => .int .u8 b.toNat))) else none
          | _ => none)
        | none => none)
      | .slice e, .string, .slice none _ _ => (match E.ty e with
        | some je => (match je.desc with | .int .u8 => some (some (.string (mkStr [])), σ) | _ => none)
        | none => none)
      | .slice e, .string, .slice (some a) n _ => (match E.ty e with
        | some je => (match je.desc with
          | .int .u8 => (match ldCells σ a n with
            | some l => (match bytesOf l with | some bs => some (some (.string (mkStr bs)), σ) | none => none)
            | none => none)
          | _ => none)
        | none => none)
      | _, _, _ => none)
    | _, _, _ => none
  | .call { callee := .builtin .append, args, argTypes } => match args.toList, argTypes.toList with
    | [s, x], [t, tx] => (match opd f s, opd f x with
      | some vs, some vx => (match appQ E σ t tx vs vx with | some (u, σ') => some (some u, σ') | none => none)
      | _, _ => none)
    | _, _ => none
  | .call { callee := .builtin .copy, args, argTypes } => match args.toList, argTypes.toList with
    | [d, x], [t, tx] => (match opd f d, opd f x with
      | some vd, some vx => (match copyQ E σ t vd vx with | some (u, σ') => some (some u, σ') | none => none)
      | _, _ => none)
    | _, _ => none
  | .call { callee := .builtin .clear, args, argTypes } => match args.toList, argTypes.toList with
    | [x], [t] => (match opd f x with
      | some v => (match clearQ E σ t v with | some (u, σ') => some (some u, σ') | none => none)
      | none => none)
    | _, _ => none
  | .call { callee := .builtin .delete, args, argTypes } => match args.toList, argTypes.toList with
    | [m, k], [t, tk] => (match opd f m, opd f k with
      | some vm, some vk => (match delQ E σ t vm vk with | some (u, σ') => some (some u, σ') | none => none)
      | _, _ => none)
    | _, _ => none
  | _ => none

end
end AH
