/-
  The AH texts Ah10 to Ah17, joined.
-/
import Derived.Test.YtlnlopeodpamdaaAh9
section
/-
  AH 10: operations that write, or make memory: the definitions.
-/
set_option linter.unusedSimpArgs false
set_option linter.unusedVariables false
namespace AH
open Go
noncomputable section

def Blk.put (b : Blk) (off : Nat) (vs : List Value) : Blk :=
  match b with
  | .cells e cs => .cells e (putAt cs off vs)
  | .row e sz cs => .row e sz (putAt cs off vs)
  | b => b

/-- Cells that are stored from an address on. -/
def stCells (σ : St) (a : Addr) (vs : List Value) : Option St :=
  match σ.get a.block with
  | .cells e cs => if a.spot.isNone ∧ a.off + vs.length ≤ cs.length ∧ vs.all Value.oneCell' = true then some (σ.set a.block (.cells e (putAt cs a.off vs))) else none
  | .row e sz cs => if a.spot.isNone ∧ a.off + vs.length ≤ cs.length ∧ vs.all Value.oneCell' = true then some (σ.set a.block (.row e sz (putAt cs a.off vs))) else none
  | _ => none

/-- What an append, or a copy, brings: so many elements, and their cells. -/
def srcQ (σ : St) (size : Nat) (x : Value) : Option (Nat × List Value) :=
  match x with
  | .slice none n _ => if n = 0 then some (0, []) else none
  | .slice (some b) n _ => match ldCells σ b (n * size) with | some l => some (n, l) | none => none
  | .string s => if size = 1 then some (s.data.toList.length, s.data.toList.map fun b => .int .u8 b.toNat) else none
  | _ => none

def repl (n : Nat) (z : List Value) : List Value := match n with | 0 => [] | n + 1 => z ++ repl n z
/-- The same, where zeros are brought (make). -/
def srcZ (σ : St) (d : TypeDesc) (j : TyI) (x : Value) : Option (Nat × List Value) :=
  match d with
  | .int _ => (match x with
    | .int _ z => if 0 ≤ z ∧ z ≤ 1048576 ∧ j.bytes ≤ 1048576 then some (z.toNat, repl z.toNat j.zero.cells.toList) else none
    | _ => none)
  | _ => srcQ σ j.size x

def appQ (E : Env) (σ : St) (t tx : Nat) (s x : Value) : Option (Value × St) :=
  match E.ty t, E.ty tx with
  | some i, some ix =>
    (match i.desc, (match ix.desc with | .slice _ => true | .string => true | .int _ => true | _ => false), s with
     | .slice e, true, .slice base len cap =>
       (match E.ty e with
        | none => none
        | some j =>
          match srcZ σ ix.desc j x with
          | none => none
          | some (n, new) =>
            if j.size = 0 ∨ j.bytes = 0 then none else
            if cap < half then
              if len + n ≤ cap then
                match base with
                | none => if n = 0 then some (.slice none (len + n) cap, σ) else none
                | some a => (match stCells σ (addA a (len * j.size)) new with
                  | some σ' => some (.slice (some a) (len + n) cap, σ')
                  | none => none)
              else if (8 * (len + n) + 4096) * j.bytes ≤ 281474976710656 then
                match base with
                | none => if len = 0 then some (.slice (some ⟨σ.next, 0, none⟩) (len + n) unk, σ.push (.row e j.size new)) else none
                | some a => (match ldCells σ a (len * j.size) with
                  | some old => some (.slice (some ⟨σ.next, 0, none⟩) (len + n) unk, σ.push (.row e j.size (old ++ new)))
                  | none => none)
              else none
            else match base with
              | none => none
              | some a => (match σ.get a.block with
                | .row e' sz cs =>
                  if sz = j.size ∧ unk - cap < half ∧ cap ≤ unk ∧ a.off = (unk - cap) * sz ∧ a.spot.isNone then
                    if a.off + (len + n) * sz ≤ cs.length then
                      (match stCells σ (addA a (len * j.size)) new with
                       | some σ' => some (.slice (some a) (len + n) cap, σ')
                       | none => none)
                    else if a.off = 0 ∧ len * sz = cs.length ∧ e' = e ∧ new.all Value.oneCell' = true ∧ (8 * (len + n) + 4096) * j.bytes ≤ 281474976710656 then
                      some (.slice (some ⟨σ.next, 0, none⟩) (len + n) unk, (σ.set a.block .dead).push (.row e sz (cs ++ new)))
                    else none
                  else none
                | _ => none))
     | _, _, _ => none)
  | _, _ => none

def copyQ (E : Env) (σ : St) (t : Nat) (d x : Value) : Option (Value × St) :=
  match E.ty t with
  | some i =>
    (match i.desc, d with
     | .slice e, .slice base dLen _ =>
       (match E.ty e with
        | none => none
        | some j =>
          match srcQ σ j.size x with
          | none => none
          | some (n, new) =>
            match base with
            | none => if dLen = 0 then some (.int .i64 0, σ) else none
            | some a => (match stCells σ a (new.take (min n dLen * j.size)) with
              | some σ' => some (.int .i64 (min n dLen : Nat), σ')
              | none => none))
     | _, _ => none)
  | none => none


def clearQ (E : Env) (σ : St) (t : Nat) (x : Value) : Option (Value × St) :=
  match E.ty t with
  | some i =>
    (match i.desc, x with
     | .slice e, .slice none _ _ => some (.tuple #[], σ)
     | .slice e, .slice (some a) n _ =>
       (match E.ty e with
        | none => none
        | some j => if n = 0 then some (.tuple #[], σ) else (match stCells σ a (repl n j.zero.cells.toList) with
          | some σ' => some (.tuple #[], σ')
          | none => none))
     | _, _ => none)
  | none => none

def delQ (E : Env) (σ : St) (t : Nat) (m k : Value) : Option (Value × St) :=
  match E.ty t with
  | some i =>
    (match i.desc with
     | .map kt _ => (match E.ty kt, keyOk E kt k with
       | some ki, true => (match m with
         | .map none => some (.tuple #[], σ)
         | .map (some r) => (match σ.get r with
           | .map es c => (match findQ ki.desc k es 0 with
             | some (some (j, _)) => some (.tuple #[], σ.set r (.map (es.eraseIdx j) c))
             | some none => some (.tuple #[], σ)
             | none => none)
           | _ => none)
         | _ => none)
       | _, _ => none)
     | _ => none)
  | none => none

def mapUpdQ (E : Env) (σ : St) (t : Nat) (m k x : Value) : Option St :=
  match E.ty t with
  | some i =>
    (match i.desc with
     | .map kt _ => (match E.ty kt, keyOk E kt k with
       | some ki, true => (match m with
         | .map (some r) => (match σ.get r with
           | .map es c => (match findQ ki.desc k es 0 with
             | some (some (j, _)) => some (σ.set r (.map (es.modify j fun e => { e with key := k, val := x }) c))
             | some none => some (σ.set r (.map (es ++ [{ key := k, val := x, born := c }]) (c + 1)))
             | none => none)
           | _ => none)
         | _ => none)
       | _, _ => none)
     | _ => none)
  | none => none

def rangeQ (E : Env) (σ : St) (t : Nat) (x : Value) : Option (Value × St) :=
  match E.ty t with
  | some i =>
    (match i.desc, x with
     | .string, .string s => some (.pointer (some ⟨σ.next, 0, none⟩), σ.push (.siter s 0))
     | .map _ _, .map none => some (.pointer (some ⟨σ.next, 0, none⟩), σ.push (.miter none 0 [] 0))
     | .map _ _, .map (some m) => (match σ.get m with
       | .map _ c => some (.pointer (some ⟨σ.next, 0, none⟩), σ.push (.miter (some m) c [] c))
       | _ => none)
     | _, _ => none)
  | none => none

/-- What a map's iterator may come to next: its candidates. -/
def cands (es : List MapEntry) (since : Nat) (seen : List Nat) : List (Option MapEntry) :=
  let left := es.filter fun e => !seen.contains e.born
  let old := left.filter fun e => decide (e.born < since)
  let new := left.filter fun e => decide (e.born ≥ since)
  (if old.isEmpty then [none] else []) ++ (old ++ new).map some

def nextDone (r : Nat) (σ : St) (m since : Nat) (seen : List Nat) (clock : Nat) : Option MapEntry → Value × St
  | some e => (.tuple #[.bool true, e.key, e.val], σ.set r (.miter (some m) since (seen ++ [e.born]) clock))
  | none => (.tuple #[.bool false], σ)

/-- A step of an iterator, where only one is possible. -/
def nextQ (σ : St) (it : Value) (isString : Bool) : Option (Value × St) :=
  match it with
  | .pointer (some ⟨r, 0, none⟩) =>
    (match σ.get r, isString with
     | .siter s pos, true =>
       if pos < s.size then some (.tuple #[.bool true, .int .i64 pos, .int .i32 (Utf8.decode s pos).1], σ.set r (.siter s (pos + (Utf8.decode s pos).2)))
       else some (.tuple #[.bool false], σ)
     | .miter none _ _ _, false => some (.tuple #[.bool false], σ)
     | .miter (some m) since seen last, false => (match σ.get m with
       | .map es clock =>
         if !seen.isEmpty && !es.isEmpty && es.all (fun e => decide (e.born ≥ last)) then none else
         (match cands es since seen with
          | [c] => some (nextDone r σ m since seen clock c)
          | _ => none)
       | _ => none)
     | _, _ => none)
  | _ => none

def entryQ (σ : St) (it : Value) : Option Value :=
  match it with
  | .pointer (some ⟨r, 0, none⟩) =>
    (match σ.get r with
     | .miter (some m) _ seen stepped => (match seen.getLast?, σ.get m with
       | some stamp, .map es clock => if clock = stepped then (match es.find? (fun e => e.born == stamp) with
         | some e => some (.tuple #[e.key, e.val])
         | none => none) else none
       | _, _ => none)
     | _ => none)
  | _ => none

def byteOf : Value → Option UInt8
  | .int .u8 n => some (UInt8.ofNat n.toNat)
  | _ => none

def bytesOf : List Value → Option (List UInt8)
  | [] => some []
  | v :: r => match byteOf v with
    | some b => (match bytesOf r with | some l => some (b :: l) | none => none)
    | none => none

/-- Operations that write, or make memory: the value (none: there is none), and the state. -/
def opW (E : Env) (f : Fr) (σ : St) : Op → Option (Option Value × St)
  | .alloc e => match E.ty e with
    | some i => some (some (.pointer (some ⟨σ.next, 0, none⟩)), σ.push (.cells e i.zero.cells.toList))
    | none => none
  | .box e x => match opd f x with
    | some v => some (some (.pointer (some ⟨σ.next, 0, none⟩)), σ.push (.cells e v.cells.toList))
    | none => none
  | .buildSlice t len parts => match E.ty t, partsQ f parts.toList with
    | some i, some ps => (match i.desc with
      | .slice e => (match E.ty e with
        | some j => if len * j.size ≤ 16777216 ∧ len < half then
            (match fillQ (fun k => some (k * j.size, j.size)) (repl len j.zero.cells.toList) ps with
             | some cs => some (some (.slice (some ⟨σ.next, 0, none⟩) len len), σ.push (.cells e cs))
             | none => none)
          else none
        | none => none)
      | _ => none)
    | _, _ => none
  | .store t a x => match opd f a, opd f x, E.ty t with
    | some (.pointer (some ad)), some v, some i => if v.cells.toList.length = i.size then (match stCells σ ad v.cells.toList with | some σ' => some (none, σ') | none => none) else none
    | _, _, _ => none
  | .makeMap t none => some (some (.map (some σ.next)), σ.push (.map [] 0))
  | .makeMap t (some x) => match E.ty t, opd f x with
    | some i, some (.int _ _) => (match i.desc with
      | .map _ _ => some (some (.map (some σ.next)), σ.push (.map [] 0))
      | _ => none)
    | _, _ => none
  | .makeSlice t l c => match E.ty t, opd f l, opd f c with
    | some i, some (.int _ x), some (.int _ y) => (match i.desc with
      | .slice e => (match E.ty e with
        | some j => if 0 ≤ x ∧ x ≤ y ∧ y < 4611686018427387904 ∧ (j.bytes : Int) * y ≤ 281474976710656 then some (some (.slice (some ⟨σ.next, 0, none⟩) x.toNat y.toNat), σ.push (.cells e (repl y.toNat j.zero.cells.toList))) else none
        | none => none)
      | _ => none)
    | _, _, _ => none
  | .mapUpdate t m k x | .insert t m k x => match opd f m, opd f k, opd f x with
    | some vm, some vk, some vx => (match mapUpdQ E σ t vm vk vx with | some σ' => some (none, σ') | none => none)
    | _, _, _ => none
  | .range t x => match opd f x with
    | some v => (match rangeQ E σ t v with | some (u, σ') => some (some u, σ') | none => none)
    | none => none
  | .next it s => match opd f it with
    | some v => (match nextQ σ v s with | some (u, σ') => some (some u, σ') | none => none)
    | none => none
  | .entry it => match opd f it with
    | some v => (match entryQ σ v with | some u => some (some u, σ) | none => none)
    | none => none
  | .convert s d x => match E.ty s, E.ty d, opd f x with
    | some i, some j, some v => (match i.desc, j.desc, v with
      | .string, .slice e, .string str => (match E.ty e with
        | some je => (match je.desc with
          | .int .u8 => if str.data.toList.length < 4611686018427387904 ∧ je.size = 1 then some (some (.slice (some ⟨σ.next, 0, none⟩) str.data.toList.length unk), σ.push (.row e 1 (str.data.toList.map fun b => .int .u8 b.toNat))) else none
          | _ => none)
        | none => none)
      | .slice e, .string, .slice none _ _ => (match E.ty e with
        | some je => (match je.desc with | .int .u8 => some (some (.string (mkStr [])), σ) | _ => none)
        | none => none)
      | .slice e, .string, .slice (some a) n _ => (match E.ty e with
        | some je => (match je.desc with
          | .int .u8 => (match ldCells σ a n with
            | some l => (match bytesOf l with | some bs => some (some (.string (mkStr bs)), σ) | none => none)
            | none => none)
          | _ => none)
        | none => none)
      | _, _, _ => none)
    | _, _, _ => none
  | .call { callee := .builtin .append, args, argTypes } => match args.toList, argTypes.toList with
    | [s, x], [t, tx] => (match opd f s, opd f x with
      | some vs, some vx => (match appQ E σ t tx vs vx with | some (u, σ') => some (some u, σ') | none => none)
      | _, _ => none)
    | _, _ => none
  | .call { callee := .builtin .copy, args, argTypes } => match args.toList, argTypes.toList with
    | [d, x], [t, tx] => (match opd f d, opd f x with
      | some vd, some vx => (match copyQ E σ t vd vx with | some (u, σ') => some (some u, σ') | none => none)
      | _, _ => none)
    | _, _ => none
  | .call { callee := .builtin .clear, args, argTypes } => match args.toList, argTypes.toList with
    | [x], [t] => (match opd f x with
      | some v => (match clearQ E σ t v with | some (u, σ') => some (some u, σ') | none => none)
      | none => none)
    | _, _ => none
  | .call { callee := .builtin .delete, args, argTypes } => match args.toList, argTypes.toList with
    | [m, k], [t, tk] => (match opd f m, opd f k with
      | some vm, some vk => (match delQ E σ t vm vk with | some (u, σ') => some (some u, σ') | none => none)
      | _, _ => none)
    | _, _ => none
  | _ => none

end
end AH
end

section
/-
  AH 11: operations that write, or make memory: stores and new blocks.
-/
set_option linter.unusedSimpArgs false
set_option linter.unusedVariables false
namespace AH
open Go
noncomputable section

theorem setCells_block (b : Nat) : ∀ (vs : List Value) (o : Nat) (w : World) (cur : Array Value) (e : TypeId) (fz : Nat × Nat), w.heap[b]? = some (.cells cur e fz) →
    (w.setCells b o vs).heap[b]? = some (.cells (putAt cur.toList o vs).toArray e fz) ∧ Only b w (w.setCells b o vs)
  | [], o, w, cur, e, fz, h => ⟨by simpa [World.setCells, putAt, fillQ.putAt] using h, ⟨rfl, rfl, rfl, rfl, fun _ _ => rfl⟩⟩
  | v :: vs, o, w, cur, e, fz, h => by
    have h1 : (w.setCell ⟨b, o, none⟩ v).heap[b]? = some (.cells (cur.setIfInBounds o v) e fz) := by
      simp [World.setCell, Array.getElem?_modify, h]
    obtain ⟨h2, h3⟩ := setCells_block b vs (o + 1) (w.setCell ⟨b, o, none⟩ v) _ e fz h1
    refine ⟨?_, ?_⟩
    · simp only [World.setCells, h2, putAt, fillQ.putAt, Array.toList_setIfInBounds]
    · have h4 : Only b w (w.setCell ⟨b, o, none⟩ v) := ⟨by simp [World.setCell], rfl, rfl, rfl, fun j hj => by simp only [World.setCell, Array.getElem?_modify]; rw [if_neg (Ne.symm hj)]⟩
      exact ⟨h3.size.trans h4.size, h3.os.trans h4.os, h3.tape.trans h4.tape, h3.output.trans h4.output, fun j hj => (h3.heap j hj).trans (h4.heap j hj)⟩

theorem oneCell_ren (ρ : Nat → Loc) {v : Value} (h : v.oneCell' = true) : (ren ρ v).oneCell' = true := by
  cases v with
  | pointer a => cases a <;> simp [Value.oneCell']
  | slice a n c => cases a <;> simp [Value.oneCell']
  | map a => cases a <;> simp [Value.oneCell']
  | agg cs => simp [Value.oneCell'] at h
  | tuple cs => simp [Value.oneCell'] at h
  | _ => simp [Value.oneCell']

theorem frozen_false {w : World} {b o : Nat} {cur : Array Value} {e : TypeId} {fz : Nat × Nat} {n : Nat} (h : w.heap[b]? = some (.cells cur e fz)) (hf : Unfz fz n) (ho : o < n) : w.frozen? ⟨b, o, none⟩ = false := by
  obtain ⟨x, y⟩ := fz
  simp only [World.frozen?, h]
  have := hf o ho
  simp only at this
  simp only [Bool.and_eq_false_iff, decide_eq_false_iff_not]
  by_cases hx : x ≤ o
  · exact .inr fun hy => this ⟨hx, hy⟩
  · exact .inl hx

theorem cell_some {w : World} {b o : Nat} {cur : Array Value} {e : TypeId} {fz : Nat × Nat} (h : w.heap[b]? = some (.cells cur e fz)) (ho : o < cur.size) : (w.cell? ⟨b, o, none⟩).isSome = true := by
  simp [World.cell?, h, ho]

theorem putAt_append : ∀ (vs cs ex : List Value) (o : Nat), o + vs.length ≤ cs.length → putAt (cs ++ ex) o vs = putAt cs o vs ++ ex
  | [], cs, ex, o, _ => rfl
  | v :: vs, cs, ex, o, h => by
    simp only [List.length_cons] at h
    simp only [putAt, fillQ.putAt]
    rw [List.set_append_left _ _ (by omega)]
    exact putAt_append vs (cs.set o v) ex (o + 1) (by simp; omega)

theorem stCells_sound (P : Program) {ρ : Nat → Loc} {σ σ' : St} {w : World} (hR : Rel ρ σ w) {a : Addr} {vs : List Value} (h : stCells σ a vs = some σ') (hs : Scs σ.next vs) :
    ∃ w', (storeCells (renA ρ a) (vs.map (ren ρ))).run P w = .ok () w' ∧ Evo ρ σ w ρ σ' w' := by
  unfold stCells at h
  have hb := hR.blk a.block
  have hsc := hR.sc a.block
  split at h
  · rename_i e cs hσ
    split at h
    · rename_i hc
      obtain ⟨h1, h2, h3⟩ := hc
      simp only [Option.some.injEq] at h; subst h
      rw [hσ] at hb hsc
      obtain ⟨h0, fz, hf, hh⟩ := hb
      simp only [Option.isNone_iff_eq_none] at h1
      have hren : renA ρ a = ⟨(ρ a.block).b, a.off, none⟩ := by simp [renA, h0, h1]
      have hst := run_storeCells_cells (P := P) (ρ a.block).b a.off (vs.map (ren ρ)) 0 w
        (fun j hj => cell_some hh (by simp at hj ⊢; omega))
        (fun j hj => frozen_false hh hf (by simp at hj; omega))
        (fun v hv => by
          simp only [List.mem_map] at hv
          obtain ⟨u, hu, rfl⟩ := hv
          exact oneCell_ren ρ (List.all_eq_true.1 h3 u hu))
      obtain ⟨hb1, hb2⟩ := setCells_block (ρ a.block).b (vs.map (ren ρ)) (a.off + 0) w _ e fz hh
      refine ⟨_, by rw [hren]; exact hst, Evo.write hR (by rw [hσ]; rfl) hb2 ⟨h0, fz, by rw [putAt_length]; exact hf, ?_⟩ (putAt_sc hsc hs)⟩
      rw [hb1, putAt_map]
      simp
    · cases h
  · rename_i e sz cs hσ
    split at h
    · rename_i hc
      obtain ⟨h1, h2, h3⟩ := hc
      simp only [Option.some.injEq] at h; subst h
      rw [hσ] at hb hsc
      obtain ⟨h0, fz, ex, hf, hl, hh⟩ := hb
      simp only [Option.isNone_iff_eq_none] at h1
      have hren : renA ρ a = ⟨(ρ a.block).b, a.off, none⟩ := by simp [renA, h0, h1]
      have hst := run_storeCells_cells (P := P) (ρ a.block).b a.off (vs.map (ren ρ)) 0 w
        (fun j hj => cell_some hh (by simp at hj ⊢; omega))
        (fun j hj => frozen_false hh hf (by simp at hj; omega))
        (fun v hv => by
          simp only [List.mem_map] at hv
          obtain ⟨u, hu, rfl⟩ := hv
          exact oneCell_ren ρ (List.all_eq_true.1 h3 u hu))
      obtain ⟨hb1, hb2⟩ := setCells_block (ρ a.block).b (vs.map (ren ρ)) (a.off + 0) w _ e fz hh
      refine ⟨_, by rw [hren]; exact hst, Evo.write hR (by rw [hσ]; rfl) hb2 ⟨h0, fz, ex, hf, by rw [putAt_length]; exact hl, ?_⟩ (putAt_sc hsc hs)⟩
      rw [hb1, putAt_map]
      simp only [List.toList_toArray, Nat.add_zero]
      rw [putAt_append _ _ _ _ (by simpa using h2)]
    · cases h
  · cases h

/-- A new block of cells. -/
theorem alloc_cells {ρ : Nat → Loc} {σ : St} {w w' : World} (hR : Rel ρ σ w) (e : TypeId) (cs : List Value) (hs : Scs σ.next cs) (hw : Like (w.alloc (.cells (cs.map (ren ρ)).toArray e)) w') :
    Evo ρ σ w (upd ρ σ.next ⟨w.heap.size, 0, 0⟩) (σ.push (.cells e cs)) w' := by
  refine Evo.alloc hR (.cells (cs.map (ren ρ)).toArray e) (.cells e cs) 0 hw ⟨rfl, (0, 0), Unfz_zero _, ?_⟩ (hs.mono (Nat.le_succ _))
  rw [← hs.map_eq (ρ := ρ) (ρ' := upd ρ σ.next ⟨w.heap.size, 0, 0⟩) (fun i hi => (upd_lt ρ _ hi).symm)]
  show (w.heap.push _)[w.heap.size]? = _
  simp

theorem ren_new (ρ : Nat → Loc) (n : Nat) (l : Loc) (ho : l.o = 0) : ren (upd ρ n l) (.pointer (some ⟨n, 0, none⟩)) = .pointer (some ⟨l.b, 0, none⟩) := by
  simp [renA, upd_same, ho]

theorem ren_new_slice (ρ : Nat → Loc) (n : Nat) (l : Loc) (ho : l.o = 0) (len cap : Nat) (hc : cap < half) : ren (upd ρ n l) (.slice (some ⟨n, 0, none⟩) len cap) = .slice (some ⟨l.b, 0, none⟩) len cap := by
  simp [renA, upd_same, ho, renC, hc]

theorem ren_new_row (ρ : Nat → Loc) (n : Nat) (l : Loc) (ho : l.o = 0) (len : Nat) : ren (upd ρ n l) (.slice (some ⟨n, 0, none⟩) len unk) = .slice (some ⟨l.b, 0, none⟩) len l.C := by
  have : ¬ unk < half := by unfold unk half; omega
  simp [renA, upd_same, ho, renC, this]

theorem repl_spec (z : List Value) : ∀ (n : Nat), 0 < z.length → ((Array.range (n * z.length)).map (fun i => z.toArray[i % z.length]!)).toList = repl n z := by
  intro n hz
  induction n with
  | zero => simp [repl]
  | succ n ih =>
    simp only [repl]
    rw [← ih]
    apply List.ext_getElem?
    intro i
    by_cases hi : i < z.length
    · rw [List.getElem?_append_left hi]
      have : i < (n + 1) * z.length := by rw [Nat.add_mul]; omega
      simp [this, Nat.mod_eq_of_lt hi, hi]
    · rw [List.getElem?_append_right (by omega)]
      simp only [Array.toList_map, Array.toList_range, List.getElem?_map]
      have hmod : i % z.length = (i - z.length) % z.length := by
        rw [Nat.mod_eq_sub_mod (by omega)]
      by_cases h2 : i < (n + 1) * z.length
      · have h3 : i - z.length < n * z.length := by rw [Nat.add_mul] at h2; omega
        simp [h2, h3, hmod]
      · have h3 : ¬ (i - z.length < n * z.length) := by rw [Nat.add_mul] at h2; omega
        simp [h2, h3]

theorem repl_length (z : List Value) : ∀ n, (repl n z).length = n * z.length
  | 0 => by simp [repl]
  | n + 1 => by simp only [repl, List.length_append, repl_length z n]; rw [Nat.add_mul]; omega

theorem repl_sc {n : Nat} {z : List Value} (h : Scs n z) : ∀ k, Scs n (repl k z)
  | 0 => fun v hv => by simp [repl] at hv
  | k + 1 => fun v hv => by simp only [repl, List.mem_append] at hv; rcases hv with hv | hv; exact h v hv; exact repl_sc h k v hv

theorem zero_ren (E : Env) {t : Nat} {i : TyI} (h : E.ty t = some i) (ρ : Nat → Loc) : i.zero.cells.toList.map (ren ρ) = i.zero.cells.toList := by
  have := ren_cells ρ i.zero
  rw [closedV_ren 4 i.zero (zero_closed E h) ρ] at this
  conv => rhs; rw [this]
  simp

theorem zero_scs (E : Env) {t : Nat} {i : TyI} (h : E.ty t = some i) (n : Nat) : Scs n i.zero.cells.toList := Sc_cells (closedV_Sc (zero_closed E h) n)

theorem repl_ren (E : Env) {t : Nat} {i : TyI} (h : E.ty t = some i) (ρ : Nat → Loc) : ∀ k, (repl k i.zero.cells.toList).map (ren ρ) = repl k i.zero.cells.toList
  | 0 => rfl
  | k + 1 => by simp only [repl, List.map_append, zero_ren E h, repl_ren E h ρ k]

/-- The cells of n zeros, as make and a slice's literal lay them. -/
theorem zeros_eq (E : Env) {t : Nat} {i : TyI} (h : E.ty t = some i) (n : Nat) (w : World) :
    ((do
      let zero ← if n * i.size = 0 then pure #[] else do pure (← zeroValue t).cells
      pure ((Array.range (n * i.size)).map (zero[· % zero.size]!)) : Sem (Array Value))).run E.P w = .ok (repl n i.zero.cells.toList).toArray w := by
  have hz := zero_size E h
  by_cases h0 : n * i.size = 0
  · simp only [h0, if_true, Sem.run_bind, Sem.run_pure, Result.andThen_ok]
    have : (repl n i.zero.cells.toList) = [] := by
      apply List.eq_nil_of_length_eq_zero
      rw [repl_length]; simpa [hz] using h0
    simp [this]
  · simp only [h0, if_false, Sem.run_bind, run_zero E h, Sem.run_pure, Result.andThen_ok]
    have hpos : 0 < i.zero.cells.toList.length := by
      simp only [Array.length_toList, hz]
      exact Nat.pos_of_ne_zero fun e => h0 (by simp [e])
    have := repl_spec i.zero.cells.toList n hpos
    simp only [Array.length_toList, hz, Array.toArray_toList] at this
    congr 1
    apply Array.ext'
    rw [← this, hz]

end
end AH
end

section
/-
  AH 12: append, copy, clear.
-/
set_option linter.unusedSimpArgs false
set_option linter.unusedVariables false
namespace AH
open Go
noncomputable section

theorem srcQ_sound (P : Program) {ρ : Nat → Loc} {σ : St} {w : World} (hR : Rel ρ σ w) {size : Nat} {x : Value} {n : Nat} {new : List Value} (h : srcQ σ size x = some (n, new)) :
    new.length = n * size ∧ Scs σ.next new ∧ (∀ w, (Builtin.lenOf (ren ρ x)).run P w = .ok n w) ∧
    ∀ m, m ≤ n → (Builtin.firstCells size m (ren ρ x)).run P w = .ok ((new.take (m * size)).map (ren ρ)).toArray w := by
  unfold srcQ at h
  split at h
  · split at h
    · rename_i h0
      simp only [Option.some.injEq, Prod.mk.injEq] at h
      obtain ⟨rfl, rfl⟩ := h
      exact ⟨by simp, fun v hv => by simp at hv, fun w => by simp [Builtin.lenOf, h0], fun m hm => by simp [Builtin.firstCells]⟩
    · cases h
  · rename_i b k c
    split at h
    · rename_i l hl
      simp only [Option.some.injEq, Prod.mk.injEq] at h
      obtain ⟨rfl, rfl⟩ := h
      obtain ⟨hs, hlen, _⟩ := ldCells_spec hl
      refine ⟨hlen, ldCells_sc hR hl, fun w => by simp [Builtin.lenOf], fun m hm => ?_⟩
      have hmn : m * size ≤ k * size := Nat.mul_le_mul_right _ hm
      have := run_ldCells (ρ := ρ) (w := w) P hs (l := l.take (m * size)) (fun j v hj => Hold.at_of_in hR (ldCells_get hl (by
        rw [List.getElem?_take] at hj
        split at hj
        · exact hj
        · cases hj)))
      simp only [List.length_take, hlen, Nat.min_eq_left hmn] at this
      simp only [ren_slice, Builtin.firstCells, this]
    · cases h
  · rename_i s
    split at h
    · rename_i h1
      simp only [Option.some.injEq, Prod.mk.injEq] at h
      obtain ⟨rfl, rfl⟩ := h
      subst h1
      refine ⟨by simp, fun v hv => by simp only [List.mem_map] at hv; obtain ⟨b, _, rfl⟩ := hv; simp, fun w => by simp [Builtin.lenOf], fun m hm => ?_⟩
      simp only [ren_string, Builtin.firstCells, Sem.run_pure, mkStr_extract, mkStr]
      congr 1
      apply Array.ext'
      simp [List.map_take, Function.comp_def]
    · cases h
  · cases h

theorem growBy_le (need : Nat) : ∀ (r c : Nat), c ≤ need + (need + 768) / 4 → Builtin.growBy need r c ≤ need + (need + 768) / 4
  | 0, c, h => by simpa [Builtin.growBy] using h
  | r + 1, c, h => by
    simp only [Builtin.growBy]
    split
    · exact h
    · exact growBy_le need r _ (by omega)

theorem nextslicecap_le {need cap : Nat} (h : cap < need) : Builtin.nextslicecap need cap ≤ 8 * need + 4096 := by
  unfold Builtin.nextslicecap
  split
  · omega
  · split
    · omega
    · have := growBy_le need 4 cap (by omega)
      omega

/-- What an append brings, in the model: so many elements and their cells. -/
def Brings (P : Program) (e : TypeId) (d : TypeDesc) (size : Nat) (x : Value) (n : Nat) (new : Array Value) (w : World) : Prop :=
  (((∃ e2, d = .slice e2) ∨ d = .string) ∧ (∀ w, (Builtin.lenOf x).run P w = .ok n w) ∧ (Builtin.firstCells size n x).run P w = .ok new w)
  ∨ (∃ k k' z zv info, d = .int k ∧ x = .int k' z ∧ IntKind.i64.wrap z = (n : Int) ∧ (∀ w, (zeroValue e).run P w = .ok zv w) ∧ (∀ w, (typeInfo e).run P w = .ok info w) ∧ (n : Int) * info.bytes ≤ 2 ^ 48 ∧ new = if n * size = 0 then #[] else Builtin.zeroCells zv.cells n)

theorem zeroCells_length (z : Array Value) (n : Nat) : (Builtin.zeroCells z n).toList.length = n * z.size := by
  simp [Builtin.zeroCells]

theorem zeroCells_repl (E : Env) {t : Nat} {i : TyI} (ht : E.ty t = some i) (n : Nat) : (Builtin.zeroCells i.zero.cells n).toList = repl n i.zero.cells.toList := by
  have hz := zero_size E ht
  by_cases h0 : i.size = 0
  · have e1 : (Builtin.zeroCells i.zero.cells n).toList = [] := List.eq_nil_of_length_eq_zero (by rw [zeroCells_length, hz, h0]; simp)
    have e2 : repl n i.zero.cells.toList = [] := List.eq_nil_of_length_eq_zero (by rw [repl_length]; simp [hz, h0])
    rw [e1, e2]
  · have := repl_spec i.zero.cells.toList n (by simp only [Array.length_toList, hz]; omega)
    rw [← this]
    simp only [Builtin.zeroCells, Array.length_toList, Array.toArray_toList]

theorem srcZ_sound (E : Env) {e : TypeId} {j : TyI} (he : E.ty e = some j) {ρ : Nat → Loc} {σ : St} {w : World} (hR : Rel ρ σ w) {d : TypeDesc} {x : Value} {n : Nat} {new : List Value} (hd : (match d with | .slice _ => true | .string => true | .int _ => true | _ => false) = true)
    (h : srcZ σ d j x = some (n, new)) :
    new.length = n * j.size ∧ Scs σ.next new ∧ ∀ w₂, Rel ρ σ w₂ → Brings E.P e d j.size (ren ρ x) n (new.map (ren ρ)).toArray w₂ := by
  have other : srcZ σ d j x = srcQ σ j.size x → ((∃ e2, d = .slice e2) ∨ d = .string) → new.length = n * j.size ∧ Scs σ.next new ∧ ∀ w₂, Rel ρ σ w₂ → Brings E.P e d j.size (ren ρ x) n (new.map (ren ρ)).toArray w₂ := by
    intro heq hor
    rw [heq] at h
    obtain ⟨h1, h2, h3, _⟩ := srcQ_sound E.P hR h
    refine ⟨h1, h2, fun w₂ h₂ => .inl ⟨hor, h3, ?_⟩⟩
    obtain ⟨_, _, _, h4⟩ := srcQ_sound E.P h₂ h
    have := h4 n (Nat.le_refl _)
    rwa [← h1, List.take_length] at this
  cases d with
  | slice e2 => exact other rfl (.inl ⟨_, rfl⟩)
  | string => exact other rfl (.inr rfl)
  | int k =>
    cases x with
    | int k' z =>
      simp only [srcZ] at h
      by_cases hz : 0 ≤ z ∧ z ≤ 1048576 ∧ j.bytes ≤ 1048576
      · rw [if_pos hz] at h
        obtain ⟨h0, h1, hb⟩ := hz
        simp only [Option.some.injEq, Prod.mk.injEq] at h
        obtain ⟨rfl, rfl⟩ := h
        refine ⟨by rw [repl_length, Array.length_toList, zero_size E he], repl_sc (zero_scs E he _) _, fun w₂ _ => .inr ?_⟩
        obtain ⟨_, _, _, info, hi, _⟩ := E.tyOk e j he
        obtain ⟨info', hi', _, hib, _⟩ := run_info E he w₂
        have heq : info' = info := by simp [typeInfo, hi] at hi'; exact hi'.symm
        subst heq
        refine ⟨k, k', z, j.zero, info', rfl, by simp, ?_, fun w => run_zero E he w, fun w => by simp [typeInfo, hi], ?_, ?_⟩
        · rw [IntWalk.i64_in _ (by omega)]; omega
        · rw [hib]
          have h2 : z.toNat * j.bytes ≤ 1048576 * 1048576 := Nat.mul_le_mul (by omega) hb
          have h3 : ((z.toNat * j.bytes : Nat) : Int) ≤ 1048576 * 1048576 := by omega
          rw [Int.natCast_mul] at h3
          omega
        · rw [repl_ren E he]
          split
          · rename_i hn0
            have : repl z.toNat j.zero.cells.toList = [] := List.eq_nil_of_length_eq_zero (by rw [repl_length, Array.length_toList, zero_size E he]; exact hn0)
            rw [this]
          · apply Array.ext'
            rw [zeroCells_repl E he]
      · rw [if_neg hz] at h; cases h
    | _ => simp only [srcZ] at h; cases h
  | _ => cases hd

section
variable {P : Program} {t tx e : Nat} {d : TypeDesc} {size : Nat} {s x : Value} {n : Nat} {new : Array Value} {w : World}

theorem run_append_room (ht : P.underlying t = some (.slice e)) (htx : P.underlying tx = some d) (hsz : ∀ w, (Go.sizeOf e).run P w = .ok size w)
    (hbr : Brings P e d size x n new w) (ty : Nat) {base : Option Addr} {len cap : Nat} (hroom : len + n ≤ cap) {w' : World}
    (hst : match base with | some a => (storeCells (a.add (len * size)) new.toList).run P w = .ok () w' | none => w' = w) :
    (Builtin.append_ #[t, tx] ty #[.slice base len cap, x]).run P w = .ok (.slice base (len + n) cap) w' := by
  have hu := run_underlying ht
  have hux := run_underlying htx
  unfold Builtin.append_
  rcases hbr with ⟨hd, hlen, hnew⟩ | ⟨k, k', z, zv, info, rfl, rfl, hw, hzv, hinfo, hbytes, rfl⟩
  · rcases hd with ⟨e2, rfl⟩ | rfl
    all_goals
      cases base with
      | none =>
        simp only at hst
        subst hst
        simp only [List.getElem?_toArray, List.getElem?_cons_zero, List.getElem?_cons_succ, Sem.run_bind, hu, Result.andThen_ok, hsz, hux, Sem.run_pure, Bool.false_eq_true, if_false, hlen, hroom, if_true, Bool.not_false, hnew]
      | some a =>
        simp only at hst
        simp only [List.getElem?_toArray, List.getElem?_cons_zero, List.getElem?_cons_succ, Sem.run_bind, hu, Result.andThen_ok, hsz, hux, Sem.run_pure, Bool.false_eq_true, if_false, hlen, hroom, if_true, Bool.not_false, hnew, hst]
  · have hneg : ¬ ((n : Int) < 0) := by omega
    have hby : ¬ ((n : Int) * info.bytes > 2 ^ 48) := by omega
    have hai : (asInt (.int k' z)).run P w = .ok z w := rfl
    cases base with
    | none =>
      simp only at hst
      subst hst
      by_cases h0 : n * size = 0 <;>
      simp only [List.getElem?_toArray, List.getElem?_cons_zero, List.getElem?_cons_succ, Sem.run_bind, hu, Result.andThen_ok, hsz, hux, Sem.run_pure, if_true, hai, hw, if_neg hneg, hinfo, if_neg hby, Int.toNat_natCast, hroom, Bool.not_true, Bool.false_eq_true, if_false, h0, hzv]
    | some a =>
      simp only at hst
      by_cases h0 : n * size = 0
      · simp only [if_pos h0] at hst
        simp only [List.getElem?_toArray, List.getElem?_cons_zero, List.getElem?_cons_succ, Sem.run_bind, hu, Result.andThen_ok, hsz, hux, Sem.run_pure, if_true, hai, hw, if_neg hneg, hinfo, if_neg hby, Int.toNat_natCast, hroom, Bool.not_true, Bool.false_eq_true, if_false, h0, hzv, hst]
      · simp only [if_neg h0] at hst
        simp only [List.getElem?_toArray, List.getElem?_cons_zero, List.getElem?_cons_succ, Sem.run_bind, hu, Result.andThen_ok, hsz, hux, Sem.run_pure, if_true, hai, hw, if_neg hneg, hinfo, if_neg hby, Int.toNat_natCast, hroom, Bool.not_true, Bool.false_eq_true, if_false, h0, hzv, hst]

theorem run_append_grow (ht : P.underlying t = some (.slice e)) (htx : P.underlying tx = some d) (hsz : ∀ w, (Go.sizeOf e).run P w = .ok size w)
    {info : TypeInfo} (hinfo : ∀ w, (typeInfo e).run P w = .ok info w) {z : Value} (hz : ∀ w, (zeroValue e).run P w = .ok z w) {base : Option Addr} {len cap : Nat} {old : Array Value}
    (hroom : cap < len + n) (hb : info.bytes ≠ 0) (hcap : Builtin.nextslicecap (len + n) cap * info.bytes ≤ 2 ^ 48) (hfit : len + n ≤ 4611686018427387904) {newCap : Nat} (hnc : newCap = (Question.appendCap (len + n) cap e).cut (w.tape w.drawn (.appendCap (len + n) cap e)))
    (hbr : Brings P e d size x n new w.drew) (hold : (Builtin.firstCells size len (.slice base len cap)).run P w.drew = .ok old w.drew) (ty : Nat) :
    (Builtin.append_ #[t, tx] ty #[.slice base len cap, x]).run P w = .ok (.slice (some ⟨w.heap.size, 0, none⟩) (len + n) newCap) (w.drew.alloc (.cells (old ++ new ++ Builtin.zeroCells z.cells (newCap - (len + n))) e)) := by
  have hu := run_underlying ht
  have hux := run_underlying htx
  have h1 : ¬ (len + n ≤ cap) := by omega
  have h2 : ¬ (Builtin.nextslicecap (len + n) cap * info.bytes > 2 ^ 48) := by omega
  have h3 : ¬ (((len + n : Nat) : Int) > IntKind.i64.max) := by
    have : IntKind.i64.max = 9223372036854775807 := rfl
    omega
  subst hnc
  have hch : ∀ w, (choose (.appendCap (len + n) cap e)).run P w = .ok ((Question.appendCap (len + n) cap e).cut (w.tape w.drawn (.appendCap (len + n) cap e))) w.drew := fun w => by
    rw [run_choose]; simp [Question.forced]
  unfold Builtin.append_
  rcases hbr with ⟨hd, hlen, hnew⟩ | ⟨k, k', zz, zv, info', rfl, rfl, hw, hzv, hinfo', hbytes, rfl⟩
  · rcases hd with ⟨e2, rfl⟩ | rfl
    all_goals
      simp only [List.getElem?_toArray, List.getElem?_cons_zero, List.getElem?_cons_succ, Sem.run_bind, hu, Result.andThen_ok, hsz, hux, Sem.run_pure, Bool.false_eq_true, if_false, hlen, h1, hinfo, hb, or_self, and_false, h2, hch, run_askRoom, hold, Bool.not_false, if_true, hnew, hz, newRow, run_newObj, World.size_drew]
      rfl
  · have hneg : ¬ ((n : Int) < 0) := by omega
    have hai : ∀ w, (asInt (.int k' zz)).run P w = .ok zz w := fun _ => rfl
    have hie : info' = info := by
      have a := hinfo w
      rw [hinfo' w] at a
      simpa using a
    subst hie
    have hby : ¬ ((n : Int) * info'.bytes > 2 ^ 48) := by omega
    by_cases h0 : n * size = 0
    · simp only [List.getElem?_toArray, List.getElem?_cons_zero, List.getElem?_cons_succ, Sem.run_bind, hu, Result.andThen_ok, hsz, hux, Sem.run_pure, if_true, hai, hw, if_neg hneg, hinfo, if_neg hby, Int.toNat_natCast, h1, Bool.not_true, Bool.false_eq_true, if_false, h3, false_and, h2, hch, run_askRoom, hold, h0, hz, newRow, run_newObj, World.size_drew]
      rfl
    · have hzz : zv = z := by
        have a := hz w
        rw [hzv w] at a
        simpa using a
      subst hzz
      simp only [List.getElem?_toArray, List.getElem?_cons_zero, List.getElem?_cons_succ, Sem.run_bind, hu, Result.andThen_ok, hsz, hux, Sem.run_pure, if_true, hai, hw, if_neg hneg, hinfo, if_neg hby, Int.toNat_natCast, h1, Bool.not_true, Bool.false_eq_true, if_false, h3, false_and, h2, hch, run_askRoom, hold, h0, hz, newRow, run_newObj, World.size_drew]
      rfl

end

end
end AH
end

section
/-
  AH 13: append, copy, clear: in the abstract state.
-/
set_option linter.unusedSimpArgs false
set_option linter.unusedVariables false
namespace AH
open Go
noncomputable section

theorem putAt_end (vs : List Value) : ∀ (cs ex : List Value), vs.length ≤ ex.length → putAt (cs ++ ex) cs.length vs = cs ++ vs ++ ex.drop vs.length := by
  induction vs with
  | nil => intro cs ex _; simp [putAt, fillQ.putAt]
  | cons v vs ih =>
    intro cs ex h
    cases ex with
    | nil => simp at h
    | cons x ex =>
      simp only [putAt, fillQ.putAt]
      rw [List.set_append_right _ _ (Nat.le_refl _), Nat.sub_self, List.set_cons_zero]
      have := ih (cs ++ [v]) ex (by simpa using h)
      simp only [List.append_assoc, List.length_append, List.length_cons, List.length_nil, Nat.zero_add, List.cons_append, List.nil_append] at this
      simpa [putAt] using this

/-- A new row, with room for more. -/
theorem alloc_row {ρ : Nat → Loc} {σ : St} {w w' : World} (hR : Rel ρ σ w) (e sz : Nat) (cs ex : List Value) (C : Nat) (hs : Scs σ.next cs) (hC : cs.length + ex.length = C * sz) (hw : Like (w.alloc (.cells (cs.map (ren ρ) ++ ex).toArray e)) w') :
    Evo ρ σ w (upd ρ σ.next ⟨w.heap.size, 0, C⟩) (σ.push (.row e sz cs)) w' := by
  refine Evo.alloc hR (.cells (cs.map (ren ρ) ++ ex).toArray e) (.row e sz cs) C hw ⟨rfl, (0, 0), ex, Unfz_zero _, hC, ?_⟩ (hs.mono (Nat.le_succ _))
  rw [← hs.map_eq (ρ := ρ) (ρ' := upd ρ σ.next ⟨w.heap.size, 0, C⟩) (fun i hi => (upd_lt ρ _ hi).symm)]
  show (w.heap.push _)[w.heap.size]? = _
  simp

theorem cut_le (need old e t : Nat) : need ≤ (Question.appendCap need old e).cut t := by
  simp only [Question.cut]; omega

set_option maxHeartbeats 1000000 in
theorem appQ_sound (E : Env) {ρ : Nat → Loc} {σ σ' : St} {w : World} (hR : Rel ρ σ w) {t tx : Nat} {s x v : Value} (h : appQ E σ t tx s x = some (v, σ')) (hs : Sc σ.next s) (ty : Nat) :
    ∃ w' ρ', (Builtin.append_ #[t, tx] ty #[ren ρ s, ren ρ x]).run E.P w = .ok (ren ρ' v) w' ∧ Evo ρ σ w ρ' σ' w' ∧ Sc σ'.next v := by
  unfold appQ at h
  cases ht : E.ty t with
  | none => simp [ht] at h
  | some i =>
    cases htx : E.ty tx with
    | none => simp [ht, htx] at h
    | some ix =>
      simp only [ht, htx] at h
      split at h
      · rename_i e base len cap hd hdx
        cases he : E.ty e with
        | none => simp [he] at h
        | some j =>
          simp only [he] at h
          cases hsrc : srcZ σ ix.desc j x with
          | none => simp [hsrc] at h
          | some nn =>
            obtain ⟨n, new⟩ := nn
            simp only [hsrc] at h
            split at h
            · cases h
            · rename_i hnz
              have hjs : j.size ≠ 0 := fun e => hnz (.inl e)
              have hjb : j.bytes ≠ 0 := fun e => hnz (.inr e)
              have hut : E.P.underlying t = some (.slice e) := by rw [und_eq E ht, hd]
              have hutx : E.P.underlying tx = some ix.desc := und_eq E htx
              obtain ⟨hnl, hnsc, hbr⟩ := srcZ_sound E he hR hdx hsrc
              have hRd : Rel ρ σ w.drew := hR.like (Like.drew w)
              have hinfo : ∃ info, (∀ w, (typeInfo e).run E.P w = .ok info w) ∧ info.bytes = j.bytes := by
                obtain ⟨info, h1, _, h3, _⟩ := run_info E he w
                obtain ⟨_, _, _, info', h1', _⟩ := E.tyOk e j he
                have : info = info' := by simp [typeInfo, h1'] at h1; exact h1.symm
                subst this
                exact ⟨info, fun w => by simp [typeInfo, h1'], h3⟩
              obtain ⟨info, hinfo, hib⟩ := hinfo
              -- growing, out of the old cells
              have grow : ∀ (b' : Option Addr) (cap' : Nat) (old : List Value) (σ₁ : St), cap' < len + n → (8 * (len + n) + 4096) * j.bytes ≤ 281474976710656 → Evo ρ σ w ρ σ₁ w → σ₁.next = σ.next → Scs σ.next old → old.length = len * j.size →
                  (∀ w₂, Rel ρ σ w₂ → (Builtin.firstCells j.size len (.slice b' len cap')).run E.P w₂ = .ok (old.map (ren ρ)).toArray w₂) →
                  ∃ w' ρ', (Builtin.append_ #[t, tx] ty #[.slice b' len cap', ren ρ x]).run E.P w = .ok (ren ρ' (.slice (some ⟨σ.next, 0, none⟩) (len + n) unk)) w' ∧ Evo ρ σ w ρ' (σ₁.push (.row e j.size (old ++ new))) w' ∧ Sc (σ₁.push (.row e j.size (old ++ new))).next (.slice (some ⟨σ.next, 0, none⟩) (len + n) unk) := by
                intro b' cap' old σ₁ hlt hfit hev hnx hosc hol hold
                have hn := nextslicecap_le hlt
                have hcap : Builtin.nextslicecap (len + n) cap' * info.bytes ≤ 2 ^ 48 := by
                  rw [hib]
                  have : Builtin.nextslicecap (len + n) cap' * j.bytes ≤ (8 * (len + n) + 4096) * j.bytes := Nat.mul_le_mul_right _ hn
                  omega
                have hz := fun w => run_zero E he w
                have hnfit : len + n ≤ 4611686018427387904 := by
                  have : (8 * (len + n) + 4096) * 1 ≤ (8 * (len + n) + 4096) * j.bytes := Nat.mul_le_mul_left _ (by omega)
                  omega
                have hrun := run_append_grow (P := E.P) hut hutx (run_sz E he) hinfo hz (base := b') (len := len) (cap := cap') hlt (by rw [hib]; exact hjb) hcap hnfit rfl (hbr w.drew hRd) (hold w.drew hRd) ty
                have hcl := cut_le (len + n) cap' e (w.tape w.drawn (.appendCap (len + n) cap' e))
                generalize (Question.appendCap (len + n) cap' e).cut (w.tape w.drawn (.appendCap (len + n) cap' e)) = newCap at hrun hcl
                have hzl : (Builtin.zeroCells j.zero.cells (newCap - (len + n))).toList.length = (newCap - (len + n)) * j.size := by rw [zeroCells_length, zero_size E he]
                have hC : (old ++ new).length + (Builtin.zeroCells j.zero.cells (newCap - (len + n))).toList.length = newCap * j.size := by
                  rw [List.length_append, hol, hnl, hzl, ← Nat.add_mul, ← Nat.add_mul]
                  congr 1; omega
                have hR1 : Rel ρ σ₁ w.drew := hev.rel.like (Like.drew w)
                have hal := alloc_row (w := w.drew) hR1 e j.size (old ++ new) (Builtin.zeroCells j.zero.cells (newCap - (len + n))).toList newCap
                  (by rw [hnx]; intro v hv; rcases List.mem_append.1 hv with hv | hv; exact hosc v hv; exact hnsc v hv) hC (Like.refl _)
                refine ⟨_, _, ?_, (hev.trans (Evo.like hev.rel (Like.drew w))).trans hal, Sc_slice (by rw [St.next_push, hnx]; exact Nat.lt_succ_self _)⟩
                rw [hrun, hnx, ren_new_row _ _ _ rfl]
                congr 1
                congr 1
                congr 1
                apply Array.ext'
                simp
              split at h
              · rename_i hcap
                split at h
                · rename_i hroom
                  split at h
                  · split at h
                    · simp only [Option.some.injEq, Prod.mk.injEq] at h
                      obtain ⟨rfl, rfl⟩ := h
                      refine ⟨w, ρ, ?_, Evo.refl hR, by simp⟩
                      rw [ren_nilslice, ren_nilslice]
                      exact run_append_room hut hutx (run_sz E he) (hbr w hR) ty hroom rfl
                    · cases h
                  · rename_i a
                    split at h
                    · rename_i σ₂ hst
                      simp only [Option.some.injEq, Prod.mk.injEq] at h
                      obtain ⟨rfl, rfl⟩ := h
                      obtain ⟨w', h1, h2⟩ := stCells_sound E.P hR hst hnsc
                      have hC : renC (ρ a.block).C cap = cap := by simp [renC, hcap]
                      refine ⟨w', ρ, ?_, h2, Sc_slice (Nat.lt_of_lt_of_le (Sc_slice_lt hs) h2.next)⟩
                      simp only [ren_slice, hC]
                      rw [renA_addA] at h1
                      exact run_append_room hut hutx (run_sz E he) (hbr w hR) ty hroom (by simpa using h1)
                    · cases h
                · rename_i hroom
                  split at h
                  · rename_i hfit
                    split at h
                    · split at h
                      · rename_i hl0
                        simp only [Option.some.injEq, Prod.mk.injEq] at h
                        obtain ⟨rfl, rfl⟩ := h
                        have := grow none cap [] σ (by omega) hfit (Evo.refl hR) rfl (fun v hv => by simp at hv) (by simp [hl0]) (fun w₂ _ => by simp [Builtin.firstCells])
                        simpa using this
                      · cases h
                    · rename_i a
                      split at h
                      · rename_i old hold
                        simp only [Option.some.injEq, Prod.mk.injEq] at h
                        obtain ⟨rfl, rfl⟩ := h
                        have hC : renC (ρ a.block).C cap = cap := by simp [renC, hcap]
                        obtain ⟨hsp, hol, _⟩ := ldCells_spec hold
                        have := grow (some (renA ρ a)) cap old σ (by omega) hfit (Evo.refl hR) rfl (ldCells_sc hR hold) hol (fun w₂ h₂ => by
                          simp only [Builtin.firstCells]
                          rw [← hol]
                          exact run_ldCells E.P hsp (fun k v hk => Hold.at_of_in h₂ (ldCells_get hold hk)))
                        simpa [hC] using this
                      · cases h
                  · cases h
              · rename_i hcap
                split at h
                · cases h
                · rename_i a
                  split at h
                  · rename_i e' sz cs hrow
                    split at h
                    · rename_i hc
                      obtain ⟨hc1, hc2, hc3, hc4, hc5⟩ := hc
                      subst hc1
                      have hC := row_cap hR hrow
                      have hren : renC (ρ a.block).C cap = (ρ a.block).C - (unk - cap) := by simp [renC, hcap]
                      have hpos : 0 < j.size := Nat.pos_of_ne_zero hjs
                      split at h
                      · rename_i hroom
                        split at h
                        · rename_i σ₂ hst
                          simp only [Option.some.injEq, Prod.mk.injEq] at h
                          obtain ⟨rfl, rfl⟩ := h
                          obtain ⟨w', h1, h2⟩ := stCells_sound E.P hR hst hnsc
                          have hr : len + n ≤ (ρ a.block).C - (unk - cap) := by
                            have h3 : (unk - cap + (len + n)) * j.size ≤ (ρ a.block).C * j.size := by rw [Nat.add_mul]; omega
                            have := Nat.le_of_mul_le_mul_right h3 hpos
                            omega
                          refine ⟨w', ρ, ?_, h2, Sc_slice (Nat.lt_of_lt_of_le (Sc_slice_lt hs) h2.next)⟩
                          simp only [ren_slice, hren]
                          rw [renA_addA] at h1
                          exact run_append_room hut hutx (run_sz E he) (hbr w hR) ty hr (by simpa using h1)
                        · cases h
                      · split at h
                        · rename_i hfr
                          obtain ⟨hf1, hf2, hf3, hf4, hf5⟩ := hfr
                          subst hf3
                          simp only [Option.some.injEq, Prod.mk.injEq] at h
                          obtain ⟨rfl, rfl⟩ := h
                          simp only [Option.isNone_iff_eq_none] at hc5
                          have hlo : unk - cap = 0 := by
                            rw [hf1] at hc4
                            rcases Nat.mul_eq_zero.1 hc4.symm with h0 | h0
                            · exact h0
                            · omega
                          have hC' : renC (ρ a.block).C cap = (ρ a.block).C := by rw [hren, hlo]; omega
                          have hb := hR.blk a.block
                          have hsc := hR.sc a.block
                          rw [hrow] at hb hsc
                          have hcsl : len * j.size = cs.length := hf2
                          by_cases hroom : len + n ≤ (ρ a.block).C
                          · obtain ⟨h0, fz, ex, hfz, hl, hh⟩ := hb
                            have hnex : (new.map (ren ρ)).length ≤ ex.length := by
                              have : (len + n) * j.size ≤ (ρ a.block).C * j.size := Nat.mul_le_mul_right _ hroom
                              rw [Nat.add_mul] at this
                              simp; omega
                            have hst := run_storeCells_cells (P := E.P) (ρ a.block).b (len * j.size) (new.map (ren ρ)) 0 w
                              (fun k hk => cell_some hh (by simp at hk hnex ⊢; omega))
                              (fun k hk => frozen_false hh hfz (by simp at hk hnex; omega))
                              (fun v hv => by
                                simp only [List.mem_map] at hv
                                obtain ⟨u, hu, rfl⟩ := hv
                                exact oneCell_ren ρ (List.all_eq_true.1 hf4 u hu))
                            obtain ⟨hb1, hb2⟩ := setCells_block (ρ a.block).b (new.map (ren ρ)) (len * j.size + 0) w _ e' fz hh
                            have hlt : a.block < σ.next := Sc_slice_lt hs
                            refine ⟨_, upd ρ σ.next (ρ a.block), ?_, Evo.move hR (i := a.block) (by rw [hrow]; rfl) hb2 ⟨h0, fz, ex.drop new.length, hfz, ?_, ?_⟩ (fun v hv => ?_), Sc_slice (by simp)⟩
                            · have hrA : renA ρ a = ⟨(ρ a.block).b, 0, none⟩ := by simp [renA, h0, hf1, hc5]
                              rw [ren_new_row _ _ _ h0]
                              simp only [ren_slice, hC', hrA]
                              refine run_append_room hut hutx (run_sz E he) (hbr w hR) ty hroom ?_
                              have hadd : (⟨(ρ a.block).b, 0, none⟩ : Addr).add (len * j.size) = ⟨(ρ a.block).b, len * j.size, none⟩ := by
                                unfold Addr.add; split
                                · rename_i h9; simp [h9]
                                · simp
                              dsimp only
                              rw [hadd]
                              simpa using hst
                            · simp at hnex ⊢; omega
                            · rw [hb1]
                              simp only [List.toList_toArray, Nat.add_zero, hcsl]
                              have := putAt_end (new.map (ren ρ)) (cs.map (ren ρ)) ex hnex
                              simp only [List.length_map] at this
                              rw [this, ← Scs.map_eq (l := cs ++ new) (n := σ.next) (ρ := ρ) (ρ' := upd ρ σ.next (ρ a.block)) (fun v hv => by rcases List.mem_append.1 hv with hv | hv; exact hsc v hv; exact hnsc v hv) (fun i hi => (upd_lt ρ _ hi).symm)]
                              simp
                            · have : Sc σ.next v := by rcases List.mem_append.1 hv with hv | hv; exact hsc v hv; exact hnsc v hv
                              exact this.mono (Nat.le_succ _)
                          · have := grow (some (renA ρ a)) (ρ a.block).C cs (σ.set a.block .dead) (by omega) hf5 (Evo.kill hR a.block) (by simp) hsc hcsl.symm (fun w₂ h₂ => by
                              simp only [Builtin.firstCells]
                              rw [hcsl]
                              refine run_ldCells E.P hc5 (fun k v hk => Hold.at_of_in h₂ ⟨cs, by rw [hrow]; rfl, ?_⟩)
                              rw [hf1, Nat.zero_add]; exact hk)
                            simpa [hC'] using this
                        · cases h
                    · cases h
                  · cases h
      · cases h

end
end AH
end

section
/-
  AH 14: copy, clear, maps, iterators, bytes.
-/
set_option linter.unusedSimpArgs false
set_option linter.unusedVariables false
namespace AH
open Go
noncomputable section

theorem copyQ_sound (E : Env) {ρ : Nat → Loc} {σ σ' : St} {w : World} (hR : Rel ρ σ w) {t tx : Nat} {d x v : Value} (h : copyQ E σ t d x = some (v, σ')) (ty : Nat) :
    ∃ w', (Builtin.copy_ #[t, tx] ty #[ren ρ d, ren ρ x]).run E.P w = .ok v w' ∧ Evo ρ σ w ρ σ' w' ∧ closedV 4 v = true := by
  unfold copyQ at h
  split at h
  · rename_i i ht
    split at h
    · rename_i e base dLen dc hd
      cases he : E.ty e with
      | none => simp [he] at h
      | some j =>
        simp only [he] at h
        cases hsrc : srcQ σ j.size x with
        | none => simp [hsrc] at h
        | some nn =>
          obtain ⟨n, new⟩ := nn
          simp only [hsrc] at h
          obtain ⟨hnl, hnsc, hlen, hfc⟩ := srcQ_sound E.P hR hsrc
          have hmin : Nat.min n dLen = min n dLen := rfl
          split at h
          · split at h
            · rename_i h0
              simp only [Option.some.injEq, Prod.mk.injEq] at h
              obtain ⟨rfl, rfl⟩ := h
              refine ⟨w, ?_, Evo.refl hR, rfl⟩
              have := hfc (min n dLen) (Nat.min_le_left _ _)
              simp [Builtin.copy_, run_und E ht, hd, hlen, run_sz E he, hmin, this, goInt, h0] at this ⊢
              simp [this]
            · cases h
          · rename_i a
            split at h
            · rename_i σ₂ hst
              simp only [Option.some.injEq, Prod.mk.injEq] at h
              obtain ⟨rfl, rfl⟩ := h
              obtain ⟨w', h1, h2⟩ := stCells_sound E.P hR hst (fun v hv => hnsc v (List.mem_of_mem_take hv))
              refine ⟨w', ?_, h2, rfl⟩
              have := hfc (min n dLen) (Nat.min_le_left _ _)
              simp only [Builtin.copy_, List.getElem?_toArray, List.getElem?_cons_zero, List.getElem?_cons_succ, Sem.run_bind, run_und E ht, hd, Result.andThen_ok, ren_slice, hlen, run_sz E he, hmin, this, h1, Sem.run_pure, goInt]
            · cases h
    · cases h
  · cases h

theorem clearQ_sound (E : Env) {ρ : Nat → Loc} {σ σ' : St} {w : World} (hR : Rel ρ σ w) {t : Nat} {x v : Value} (h : clearQ E σ t x = some (v, σ')) (ty : Nat) :
    ∃ w', (Builtin.clear_ #[t] ty #[ren ρ x]).run E.P w = .ok v w' ∧ Evo ρ σ w ρ σ' w' ∧ closedV 4 v = true := by
  unfold clearQ at h
  split at h
  · rename_i i ht
    split at h
    · rename_i e n c hd
      simp only [Option.some.injEq, Prod.mk.injEq] at h
      obtain ⟨rfl, rfl⟩ := h
      exact ⟨w, by simp [Builtin.clear_, run_und E ht, hd], Evo.refl hR, rfl⟩
    · rename_i e a n c hd
      cases he : E.ty e with
      | none => simp [he] at h
      | some j =>
        simp only [he] at h
        split at h
        · rename_i h0
          simp only [Option.some.injEq, Prod.mk.injEq] at h
          obtain ⟨rfl, rfl⟩ := h
          subst h0
          exact ⟨w, by simp [Builtin.clear_, run_und E ht, hd], Evo.refl hR, rfl⟩
        · rename_i h0
          split at h
          · rename_i σ₂ hst
            simp only [Option.some.injEq, Prod.mk.injEq] at h
            obtain ⟨rfl, rfl⟩ := h
            obtain ⟨w', h1, h2⟩ := stCells_sound E.P hR hst (repl_sc (zero_scs E he _) n)
            refine ⟨w', ?_, h2, rfl⟩
            rw [repl_ren E he] at h1
            obtain ⟨m, rfl⟩ : ∃ m, n = m + 1 := ⟨n - 1, by omega⟩
            simp [Builtin.clear_, run_und E ht, hd, run_zero E he, zeroCells_repl E he, h1]
          · cases h
    · cases h
  · cases h

theorem run_getMap {P : Program} {ρ : Nat → Loc} {σ : St} {w : World} (hR : Rel ρ σ w) {r : Nat} {es : List MapEntry} {c : Nat} (h : σ.get r = .map es c) : (getObj (ρ r).b).run P w = .ok (.map (es.map (renE ρ)).toArray c) w := by
  have := hR.blk r
  rw [h] at this
  simp [getObj, Sem.run, this.2]

theorem setObj_sound {P : Program} {ρ : Nat → Loc} {σ : St} {w : World} (hR : Rel ρ σ w) {r : Nat} {es : List MapEntry} {c : Nat} (h : σ.get r = .map es c) {es' : List MapEntry} {c' : Nat} (hs : ∀ e ∈ es', Sc σ.next e.key ∧ Sc σ.next e.val) :
    ∃ w', (setObj (ρ r).b (.map (es'.map (renE ρ)).toArray c')).run P w = .ok () w' ∧ Evo ρ σ w ρ (σ.set r (.map es' c')) w' := by
  have hb := hR.blk r
  rw [h] at hb
  have hlt := heap_lt hb.2
  refine ⟨{ w with heap := w.heap.setIfInBounds (ρ r).b (.map (es'.map (renE ρ)).toArray c') }, by simp [setObj, Sem.run, hb.2], Evo.write hR (by rw [h]; rfl) ⟨by simp, rfl, rfl, rfl, fun j hj => ?_⟩ ⟨hb.1, ?_⟩ hs⟩
  · simp only [Array.getElem?_setIfInBounds]; rw [if_neg (Ne.symm hj)]
  · simp [hlt]

theorem map_eraseIdx {α β : Type} (f : α → β) : ∀ (l : List α) (j : Nat), (l.map f).eraseIdx j = (l.eraseIdx j).map f
  | [], j => by simp
  | a :: l, 0 => by simp
  | a :: l, j + 1 => by simp [map_eraseIdx f l j]

theorem delQ_sound (E : Env) {ρ : Nat → Loc} {σ σ' : St} {w : World} (hR : Rel ρ σ w) {t tk : Nat} {m k v : Value} (h : delQ E σ t m k = some (v, σ')) (ty : Nat) :
    ∃ w', (Builtin.delete_ #[t, tk] ty #[ren ρ m, ren ρ k]).run E.P w = .ok v w' ∧ Evo ρ σ w ρ σ' w' ∧ closedV 4 v = true := by
  unfold delQ at h
  split at h
  · rename_i i ht
    split at h
    · rename_i kt et hd
      split at h
      · rename_i ki hki hk
        have hck := fun e w => run_checkKey E hk ρ e 9999 w
        split at h
        · simp only [Option.some.injEq, Prod.mk.injEq] at h
          obtain ⟨rfl, rfl⟩ := h
          exact ⟨w, by simp [Builtin.delete_, run_und E ht, hd, hck], Evo.refl hR, rfl⟩
        · rename_i r
          split at h
          · rename_i es c hσ
            have hgo := run_getMap (P := E.P) hR hσ
            have hsc : ∀ e ∈ es, Sc σ.next e.key ∧ Sc σ.next e.val := by have := hR.sc r; rw [hσ] at this; exact this
            split at h
            · rename_i j u hf
              simp only [Option.some.injEq, Prod.mk.injEq] at h
              obtain ⟨rfl, rfl⟩ := h
              have hfk := run_findKey E hki ρ hf w
              simp only [Option.map_some] at hfk
              obtain ⟨w', h1, h2⟩ := setObj_sound (P := E.P) hR hσ (es' := es.eraseIdx j) (c' := c) (fun e he => hsc e (List.mem_of_mem_eraseIdx he))
              refine ⟨w', ?_, h2, rfl⟩
              have e1 : ((es.map (renE ρ)).toArray).eraseIdxIfInBounds j = ((es.eraseIdx j).map (renE ρ)).toArray := by
                apply Array.ext'
                simp [map_eraseIdx]
              simp [Builtin.delete_, run_und E ht, hd, hck, hgo, hfk, map_eraseIdx, h1]
            · rename_i hf
              simp only [Option.some.injEq, Prod.mk.injEq] at h
              obtain ⟨rfl, rfl⟩ := h
              have hfk := run_findKey E hki ρ hf w
              simp only [Option.map_none] at hfk
              obtain ⟨w', h1, h2⟩ := setObj_sound (P := E.P) hR hσ (es' := es) (c' := c) hsc
              have hsame : w' = w := by
                have hb := hR.blk r
                rw [hσ] at hb
                simp only [setObj, Sem.run, hb.2, Result.ok.injEq, true_and] at h1
                rw [← h1]
                have : w.heap.setIfInBounds (ρ r).b (.map (es.map (renE ρ)).toArray c) = w.heap := by
                  apply Array.ext_getElem?
                  intro q
                  rw [Array.getElem?_setIfInBounds]
                  split
                  · rename_i e; subst e; rw [hb.2]; simp [heap_lt hb.2]
                  · rfl
                rw [this]
              refine ⟨w', ?_, by rw [hsame]; exact Evo.refl hR, rfl⟩
              simp [Builtin.delete_, run_und E ht, hd, hck, hgo, hfk, h1]
            · cases h
          · cases h
        · cases h
      · cases h
    · cases h
  · cases h

theorem sameBits_of_sameNow {ρ : Nat → Loc} {d : TypeDesc} {k k' : Value} (h : Instr.sameNow d k k' = some true) (n : Nat) : Instr.sameBits n (ren ρ k') (ren ρ k) = true := by
  unfold Instr.sameNow at h
  split at h
  · rename_i a b c d'
    split at h
    · rename_i hk
      simp only [Option.some.injEq, beq_iff_eq] at h
      subst hk; subst h
      simp [Instr.sameBits]
    · cases h
  · simp only [Option.some.injEq, beq_toListBytes] at h
    have := eq_of_beq h
    simp [Instr.sameBits, beq_toListBytes, this]
  · simp only [Option.some.injEq, beq_iff_eq] at h; subst h; simp [Instr.sameBits]
  · cases h

theorem mapUpdQ_sound (E : Env) {ρ : Nat → Loc} {σ σ' : St} {w : World} (hR : Rel ρ σ w) {t : Nat} {m k x : Value} (h : mapUpdQ E σ t m k x = some σ') (hk' : Sc σ.next k) (hx : Sc σ.next x) :
    ∃ w', (Instr.mapUpdate t (ren ρ m) (ren ρ k) (ren ρ x)).run E.P w = .ok () w' ∧ Evo ρ σ w ρ σ' w' := by
  unfold mapUpdQ at h
  split at h
  · rename_i i ht
    split at h
    · rename_i kt et hd
      split at h
      · rename_i ki hki hk
        have hck := fun e w => run_checkKey E hk ρ e 9999 w
        split at h
        · rename_i r
          split at h
          · rename_i es c hσ
            have hgo := run_getMap (P := E.P) hR hσ
            have hsc : ∀ e ∈ es, Sc σ.next e.key ∧ Sc σ.next e.val := by have := hR.sc r; rw [hσ] at this; exact this
            split at h
            · rename_i j u hf
              simp only [Option.some.injEq] at h
              subst h
              have hfk := run_findKey E hki ρ hf w
              simp only [Option.map_some] at hfk
              obtain ⟨_, e0, he0, _, hsn⟩ := findQ_lt hf
              simp only [Nat.sub_zero] at he0
              have hbits := sameBits_of_sameNow (ρ := ρ) hsn 10000
              obtain ⟨w', h1, h2⟩ := setObj_sound (P := E.P) hR hσ (es' := es.modify j fun e => { e with key := k, val := x }) (c' := c) (fun e he => by
                rw [List.mem_iff_getElem?] at he
                obtain ⟨q, hq⟩ := he
                rw [List.getElem?_modify] at hq
                simp only [Option.map_eq_map, Option.map_eq_some_iff] at hq
                obtain ⟨e1, he1, rfl⟩ := hq
                split
                · exact ⟨hk', hx⟩
                · exact hsc e1 (List.mem_of_getElem? he1))
              refine ⟨w', ?_, h2⟩
              have e1 : ((es.map (renE ρ)).toArray).modify j (fun e => { e with key := ren ρ k, val := ren ρ x }) = ((es.modify j fun e => { e with key := k, val := x }).map (renE ρ)).toArray := by
                apply Array.ext_getElem?
                intro q
                simp only [Array.getElem?_modify, List.getElem?_toArray, List.getElem?_map, List.getElem?_modify, Option.map_eq_map, Option.map_map]
                by_cases hq : j = q
                · simp only [hq, if_true]; rfl
                · simp only [hq, if_false]; rfl
              have e2 : (((es.map (renE ρ)).toArray)[j]?).map (·.key) = some (ren ρ e0.key) := by simp [he0, renE]
              simp only [Instr.mapUpdate, Sem.run_bind, run_und E ht, hd, Result.andThen_ok, ren_map, hgo, hck, hfk, e2, Option.getD_some, Instr.keyThatStays, hbits, if_true, Sem.run_pure, e1, h1]
            · rename_i hf
              simp only [Option.some.injEq] at h
              subst h
              have hfk := run_findKey E hki ρ hf w
              simp only [Option.map_none] at hfk
              obtain ⟨w', h1, h2⟩ := setObj_sound (P := E.P) hR hσ (es' := es ++ [({ key := k, val := x, born := c } : MapEntry)]) (c' := c + 1) (fun e he => by
                rcases List.mem_append.1 he with he | he
                · exact hsc e he
                · simp only [List.mem_singleton] at he; subst he; exact ⟨hk', hx⟩)
              refine ⟨w', ?_, h2⟩
              have e1 : ((es.map (renE ρ)).toArray).push ({ key := ren ρ k, val := ren ρ x, born := c } : MapEntry) = ((es ++ [({ key := k, val := x, born := c } : MapEntry)]).map (renE ρ)).toArray := by
                apply Array.ext'
                simp [renE]
              simp only [Instr.mapUpdate, Sem.run_bind, run_und E ht, hd, Result.andThen_ok, ren_map, hgo, hck, hfk, e1, h1]
            · cases h
          · cases h
        · cases h
      · cases h
    · cases h
  · cases h

/-- A new block that is no row of cells. -/
theorem alloc_obj {ρ : Nat → Loc} {σ : St} {w w' : World} (hR : Rel ρ σ w) (o : Obj) (b : Blk) (hw : Like (w.alloc o) w') (hb : BlkRel (upd ρ σ.next ⟨w.heap.size, 0, 0⟩) ⟨w.heap.size, 0, 0⟩ (w.alloc o) b) (hs : b.sc (σ.next + 1)) :
    Evo ρ σ w (upd ρ σ.next ⟨w.heap.size, 0, 0⟩) (σ.push b) w' := Evo.alloc hR o b 0 hw hb hs

theorem get_new (w : World) (o : Obj) : (w.alloc o).heap[w.heap.size]? = some o := by
  show (w.heap.push o)[w.heap.size]? = _
  simp

theorem rangeQ_sound (E : Env) {ρ : Nat → Loc} {σ σ' : St} {w : World} (hR : Rel ρ σ w) {t : Nat} {x v : Value} (h : rangeQ E σ t x = some (v, σ')) (hx : Sc σ.next x) :
    ∃ w' ρ', (Instr.range t (ren ρ x)).run E.P w = .ok (ren ρ' v) w' ∧ Evo ρ σ w ρ' σ' w' ∧ Sc σ'.next v := by
  unfold rangeQ at h
  split at h
  · rename_i i ht
    split at h
    · rename_i s hd
      simp only [Option.some.injEq, Prod.mk.injEq] at h
      obtain ⟨rfl, rfl⟩ := h
      refine ⟨_, _, ?_, alloc_obj hR (.stringIter s 0) (.siter s 0) (Like.refl _) ⟨rfl, get_new _ _⟩ trivial, Sc_ptr (by simp)⟩
      rw [ren_new _ _ _ rfl]
      simp [Instr.range, run_und E ht, hd]
    · rename_i k e hd
      simp only [Option.some.injEq, Prod.mk.injEq] at h
      obtain ⟨rfl, rfl⟩ := h
      refine ⟨_, _, ?_, alloc_obj hR (.mapIter none 0 #[] 0) (.miter none 0 [] 0) (Like.refl _) ⟨rfl, get_new _ _⟩ trivial, Sc_ptr (by simp)⟩
      rw [ren_new _ _ _ rfl]
      simp [Instr.range, run_und E ht, hd]
    · rename_i k e m hd
      split at h
      · rename_i es c hσ
        simp only [Option.some.injEq, Prod.mk.injEq] at h
        obtain ⟨rfl, rfl⟩ := h
        have hm := Sc_map_lt hx
        refine ⟨_, _, ?_, alloc_obj hR (.mapIter (some (ρ m).b) c #[] c) (.miter (some m) c [] c) (Like.refl _) ⟨rfl, ?_⟩ (Nat.lt_succ_of_lt hm), Sc_ptr (by simp)⟩
        · rw [ren_new _ _ _ rfl]
          simp [Instr.range, run_und E ht, hd, run_getMap hR hσ]
        · rw [get_new]
          simp [upd_lt ρ _ hm]
      · cases h
    · cases h
  · cases h

theorem getObj_iter {P : Program} {ρ : Nat → Loc} {σ : St} {w : World} (hR : Rel ρ σ w) {r : Nat} {m : Option Nat} {a c : Nat} {b : List Nat} (h : σ.get r = .miter m a b c) : (getObj (ρ r).b).run P w = .ok (.mapIter (m.map fun i => (ρ i).b) a b.toArray c) w ∧ (ρ r).o = 0 := by
  have := hR.blk r
  rw [h] at this
  exact ⟨by simp [getObj, Sem.run, this.2], this.1⟩

theorem setIter {P : Program} {ρ : Nat → Loc} {σ : St} {w : World} (hR : Rel ρ σ w) {r : Nat} (hr : (σ.get r).wr = true) {o : Obj} {b : Blk} (ho : ∃ o', w.heap[(ρ r).b]? = some o' ∧ ∀ c e f, o' ≠ .cells c e f)
    (hb : ∀ w', w'.heap[(ρ r).b]? = some o → BlkRel ρ (ρ r) w' b) (hs : b.sc σ.next) : ∃ w', (setObj (ρ r).b o).run P w = .ok () w' ∧ Evo ρ σ w ρ (σ.set r b) w' := by
  obtain ⟨o', h1, h2⟩ := ho
  have hlt := heap_lt h1
  refine ⟨{ w with heap := w.heap.setIfInBounds (ρ r).b o }, ?_, Evo.write hR hr ⟨by simp, rfl, rfl, rfl, fun j hj => ?_⟩ (hb _ (by simp [hlt])) hs⟩
  · simp only [setObj, Sem.run, h1]
  · simp only [Array.getElem?_setIfInBounds]; rw [if_neg (Ne.symm hj)]

theorem entryQ_sound (P : Program) {ρ : Nat → Loc} {σ : St} {w : World} (hR : Rel ρ σ w) {it v : Value} (h : entryQ σ it = some v) :
    (Instr.entry (ren ρ it)).run P w = .ok (ren ρ v) w ∧ Sc σ.next v := by
  unfold entryQ at h
  split at h
  · rename_i r
    split at h
    · rename_i m a seen stepped hσ
      obtain ⟨hg, h0⟩ := getObj_iter (P := P) hR hσ
      split at h
      · rename_i stamp es clock hst hm
        split at h
        · rename_i hcl
          split at h
          · rename_i e he
            simp only [Option.some.injEq] at h
            subst h
            have hsc : ∀ e ∈ es, Sc σ.next e.key ∧ Sc σ.next e.val := by have := hR.sc m; rw [hm] at this; exact this
            have hmem := List.mem_of_find?_eq_some he
            refine ⟨?_, Sc_tuple.2 (by intro u hu; simp at hu; rcases hu with rfl | rfl; exact (hsc e hmem).1; exact (hsc e hmem).2)⟩
            have hf : (es.map (renE ρ)).find? (fun e => e.born == stamp) = some (renE ρ e) := by
              rw [List.find?_map]
              have : ((fun e => e.born == stamp) ∘ renE ρ) = (fun (e : MapEntry) => e.born == stamp) := by funext e; rfl
              rw [this, he]; rfl
            have hback : seen.toArray.back? = some stamp := by simp [Array.back?, ← List.getLast?_eq_getElem?, hst]
            subst hcl
            simp [Instr.entry, renA, h0, hg, hback, run_getMap hR hm, hf, renE]
          · cases h
        · cases h
      · cases h
    · cases h
  · cases h


theorem filter_ren (ρ : Nat → Loc) (p q : MapEntry → Bool) (hpq : ∀ e, q (renE ρ e) = p e) (l : List MapEntry) : (l.map (renE ρ)).filter q = (l.filter p).map (renE ρ) := by
  rw [List.filter_map]
  congr 1
  congr 1
  funext e
  exact hpq e

/-- The candidates, in the world. -/
theorem cands_ren (ρ : Nat → Loc) (es : List MapEntry) (since : Nat) (seen : List Nat) (left old new : Array MapEntry)
    (hl : left = (es.map (renE ρ)).toArray.filter fun e => !seen.toArray.contains e.born) (ho : old = left.filter (·.born < since)) (hn : new = left.filter (·.born ≥ since)) :
    ((if old.isEmpty then #[none] else #[]) ++ (old ++ new).map some) = ((cands es since seen).map (Option.map (renE ρ))).toArray := by
  have e1 : left.toList = (es.filter fun e => !seen.contains e.born).map (renE ρ) := by
    rw [hl]
    simp only [Array.toList_filter, List.toList_toArray]
    exact filter_ren ρ _ _ (fun e => by simp [renE]) es
  have e2 : old.toList = ((es.filter fun e => !seen.contains e.born).filter fun e => decide (e.born < since)).map (renE ρ) := by
    rw [ho, Array.toList_filter, e1]
    exact filter_ren ρ _ _ (fun e => rfl) _
  have e3 : new.toList = ((es.filter fun e => !seen.contains e.born).filter fun e => decide (e.born ≥ since)).map (renE ρ) := by
    rw [hn, Array.toList_filter, e1]
    exact filter_ren ρ _ _ (fun e => rfl) _
  have e4 : old.isEmpty = ((es.filter fun e => !seen.contains e.born).filter fun e => decide (e.born < since)).isEmpty := by
    have := congrArg List.isEmpty e2
    simpa using this
  apply Array.ext'
  unfold cands
  simp only [Array.toList_append, Array.toList_map, e2, e3, e4]
  cases ((es.filter fun e => !seen.contains e.born).filter fun e => decide (e.born < since)).isEmpty <;> simp [Function.comp_def]

end
end AH
end

section
/-
  AH 15: iterators' steps; all operations that write.
-/
set_option linter.unusedSimpArgs false
set_option linter.unusedVariables false
namespace AH
open Go
noncomputable section

theorem cands_ne (es : List MapEntry) (since : Nat) (seen : List Nat) : cands es since seen ≠ [] := by
  unfold cands
  simp only
  cases h : ((es.filter fun e => !seen.contains e.born).filter fun e => decide (e.born < since)) with
  | nil => simp
  | cons a l => simp

theorem cands_sc {n : Nat} {es : List MapEntry} {since : Nat} {seen : List Nat} (h : ∀ e ∈ es, Sc n e.key ∧ Sc n e.val) {e : MapEntry} (he : some e ∈ cands es since seen) : Sc n e.key ∧ Sc n e.val := by
  apply h
  unfold cands at he
  simp only [List.mem_append, List.mem_map, Option.some.injEq, exists_eq_right] at he
  rcases he with he | he | he
  · split at he <;> simp at he
  · exact (List.mem_filter.1 (List.mem_filter.1 he).1).1
  · exact (List.mem_filter.1 (List.mem_filter.1 he).1).1

/-- A step of a map's iterator: whichever candidate the tape picks. -/
theorem next_any (P : Program) {ρ : Nat → Loc} {σ : St} {w : World} (hR : Rel ρ σ w) {r m since : Nat} {seen : List Nat} {last : Nat} {es : List MapEntry} {clock : Nat}
    (hr : σ.get r = .miter (some m) since seen last) (hm : σ.get m = .map es clock) (hok : (!seen.isEmpty && !es.isEmpty && es.all (fun e => decide (e.born ≥ last))) = false) (ty : Nat) :
    ∃ c w', c ∈ cands es since seen ∧ (Instr.next (ren ρ (.pointer (some ⟨r, 0, none⟩))) false ty).run P w = .ok (ren ρ (nextDone r σ m since seen clock c).1) w' ∧
      Evo ρ σ w ρ (nextDone r σ m since seen clock c).2 w' ∧ Sc σ.next (nextDone r σ m since seen clock c).1 := by
  obtain ⟨hg, h0⟩ := getObj_iter (P := P) hR hr
  have hgm := fun w (h : Rel ρ σ w) => run_getMap (P := P) h hm
  have hsc : ∀ e ∈ es, Sc σ.next e.key ∧ Sc σ.next e.val := by have := hR.sc m; rw [hm] at this; exact this
  have hcond : (!seen.toArray.isEmpty && !((es.map (renE ρ)).toArray).isEmpty && ((es.map (renE ρ)).toArray).all (fun e => decide (e.born ≥ last))) = false := by
    rw [← hok]
    congr 1
    · congr 1
      · cases seen <;> simp
      · cases es <;> simp
    · simp [renE, Function.comp_def]; rfl
  have hcr := cands_ren ρ es since seen _ _ _ rfl rfl rfl
  generalize hcs : (cands es since seen) = cs at hcr
  have hne : cs ≠ [] := hcs ▸ cands_ne es since seen
  have hpos : 0 < cs.length := List.length_pos_iff.2 hne
  -- what the tape picks
  have hch : ∃ k w₁, k < cs.length ∧ Like w w₁ ∧ (choose (.mapNext cs.length)).run P w = .ok k w₁ := by
    rw [run_choose]
    by_cases hf : (Question.mapNext cs.length).forced = true
    · exact ⟨0, w, hpos, Like.refl w, by rw [if_pos hf]⟩
    · exact ⟨_, _, Nat.mod_lt _ hpos, Like.drew w, by rw [if_neg hf]; rfl⟩
  obtain ⟨k, w₁, hk, hlike, hch⟩ := hch
  have hR1 := hR.like hlike
  obtain ⟨c, hc⟩ : ∃ c, cs[k]? = some c := ⟨cs[k], List.getElem?_eq_getElem hk⟩
  have hmem : c ∈ cs := List.mem_of_getElem? hc
  have hrun : ∀ (x : Value) (w' : World), (match (c.map (renE ρ)) with
      | some e => (do setObj (ρ r).b (.mapIter (some (ρ m).b) since (seen.toArray.push e.born) clock); pure (.tuple #[.bool true, e.key, e.val]) : Sem Value)
      | none => pure (.tuple #[.bool false])).run P w₁ = .ok x w' → (Instr.next (ren ρ (.pointer (some ⟨r, 0, none⟩))) false ty).run P w = .ok x w' := by
    intro x w' hx
    simp only [ren_ptr, renA, h0, Nat.add_zero]
    unfold Instr.next
    simp only [Sem.run_bind, hg, Option.map_some, Result.andThen_ok, hgm w hR, hcond, Bool.false_eq_true, if_false, Sem.run_pure]
    rw [hcr]
    simp only [List.size_toArray, List.length_map, hch, Result.andThen_ok, List.getElem?_toArray, List.getElem?_map, hc, Option.map_some]
    cases c with
    | none => simpa using hx
    | some e => simpa using hx
  cases c with
  | none =>
    refine ⟨none, w₁, hmem, ?_, Evo.like hR hlike, ?_⟩
    · refine hrun _ _ ?_
      simp [nextDone]
    · exact Sc_tuple.2 (by intro u hu; simp at hu; subst hu; simp)
  | some e =>
    have hes := cands_sc hsc (hcs ▸ hmem)
    have hb := hR1.blk r
    rw [hr] at hb
    obtain ⟨w', h1, h2⟩ := setIter (P := P) hR1 (r := r) (by rw [hr]; rfl) (o := .mapIter (some (ρ m).b) since (seen ++ [e.born]).toArray clock) (b := .miter (some m) since (seen ++ [e.born]) clock)
      ⟨_, hb.2, by simp⟩ (fun w' hw' => ⟨h0, by rw [hw']; simp⟩) (by have := hR.sc r; rw [hr] at this; exact this)
    refine ⟨some e, w', hmem, ?_, (Evo.like hR hlike).trans h2, ?_⟩
    · refine hrun _ _ ?_
      simp [nextDone, renE, h1]
    · exact Sc_tuple.2 (by intro u hu; simp at hu; rcases hu with rfl | rfl | rfl; simp; exact hes.1; exact hes.2)


theorem nextQ_sound (P : Program) {ρ : Nat → Loc} {σ σ' : St} {w : World} (hR : Rel ρ σ w) {it v : Value} {isS : Bool} (h : nextQ σ it isS = some (v, σ')) (ty : Nat) :
    ∃ w', (Instr.next (ren ρ it) isS ty).run P w = .ok (ren ρ v) w' ∧ Evo ρ σ w ρ σ' w' ∧ Sc σ'.next v := by
  unfold nextQ at h
  split at h
  · rename_i r
    split at h
    · rename_i s pos hσ
      have hb := hR.blk r
      rw [hσ] at hb
      have hg : (getObj (ρ r).b).run P w = .ok (.stringIter s pos) w := by simp [getObj, Sem.run, hb.2]
      split at h
      · rename_i hp
        simp only [Option.some.injEq, Prod.mk.injEq] at h
        obtain ⟨rfl, rfl⟩ := h
        obtain ⟨w', h1, h2⟩ := setIter (P := P) hR (r := r) (by rw [hσ]; rfl) (o := .stringIter s (pos + (Utf8.decode s pos).2)) (b := .siter s (pos + (Utf8.decode s pos).2))
          ⟨_, hb.2, by simp⟩ (fun w' hw' => ⟨hb.1, hw'⟩) trivial
        refine ⟨w', ?_, h2, Sc_tuple.2 (by intro u hu; simp at hu; rcases hu with rfl | rfl | rfl <;> simp)⟩
        simp [Instr.next, renA, hb.1, hg, hp, h1, goInt]
      · rename_i hp
        simp only [Option.some.injEq, Prod.mk.injEq] at h
        obtain ⟨rfl, rfl⟩ := h
        refine ⟨w, ?_, Evo.refl hR, Sc_tuple.2 (by intro u hu; simp at hu; subst hu; simp)⟩
        simp [Instr.next, renA, hb.1, hg, hp]
    · rename_i a b c hσ
      simp only [Option.some.injEq, Prod.mk.injEq] at h
      obtain ⟨rfl, rfl⟩ := h
      obtain ⟨hg, h0⟩ := getObj_iter (P := P) hR hσ
      refine ⟨w, ?_, Evo.refl hR, Sc_tuple.2 (by intro u hu; simp at hu; subst hu; simp)⟩
      simp [Instr.next, renA, h0, hg]
    · rename_i m since seen last hσ
      split at h
      · rename_i es clock hm
        split at h
        · cases h
        · rename_i hok
          obtain ⟨c, w', h1, h2, h3, h4⟩ := next_any P hR hσ hm (by simpa using hok) ty
          split at h
          · rename_i c' hc
            simp only [Option.some.injEq] at h
            rw [hc] at h1
            simp only [List.mem_singleton] at h1
            subst h1
            rw [h] at h2 h3 h4
            exact ⟨w', h2, h3, h4.mono h3.next⟩
          · cases h
      · cases h
    · cases h
  · cases h

theorem bytesOf_sound (P : Program) (w : World) (ρ : Nat → Loc) (g : Value → ByteArray → Sem (ForInStep ByteArray)) (hg : ∀ n r, g (.int .u8 n) r = pure (ForInStep.yield (r.push (UInt8.ofNat n.toNat)))) :
    ∀ {l : List Value} {bs : List UInt8}, bytesOf l = some bs → ∀ acc : ByteArray, (forIn (l.map (ren ρ)) acc g).run P w = .ok ⟨acc.data ++ bs.toArray⟩ w
  | [], bs, h, acc => by simp only [bytesOf, Option.some.injEq] at h; subst h; simp
  | v :: r, bs, h, acc => by
    simp only [bytesOf] at h
    split at h
    · rename_i b hb
      split at h
      · rename_i l hl
        simp only [Option.some.injEq] at h
        subst h
        unfold byteOf at hb
        split at hb
        · rename_i n
          simp only [Option.some.injEq] at hb
          subst hb
          have := bytesOf_sound P w ρ g hg hl (acc.push (UInt8.ofNat n.toNat))
          simp only [List.map_cons, ren_int, List.forIn_cons, hg, Sem.run_bind, Sem.run_pure, Result.andThen_ok, this]
          congr 1
          apply ByteArray.ext
          simp [ByteArray.push]
        · cases hb
      · cases h
    · cases h

end
end AH
end

section
/-
  AH 16: all operations that write, or make memory.
-/
set_option linter.unusedSimpArgs false
set_option linter.unusedVariables false
set_option linter.unusedSectionVars false
namespace AH
open Go
noncomputable section

def nxt (ρ : Nat → Loc) : Option Value → Next
  | some v => .value (ren ρ v)
  | none => .skip

theorem run_u {P : Program} {s : Sem Unit} {w w' : World} (h : s.run P w = .ok () w') : ((do s; pure .skip : Sem Next)).run P w = .ok .skip w' := by
  simp [h]

theorem run_v' {P : Program} {s : Sem Value} {v : Value} {w w' : World} (h : s.run P w = .ok v w') : ((do pure (.value (← s)) : Sem Next)).run P w = .ok (.value v) w' := by
  simp [h]

/-- What every arm shows. -/
def Out (E : Env) (ρ : Nat → Loc) (σ : St) (w : World) (s : Sem Next) (r : Option Value) (σ' : St) : Prop :=
  ∃ w' ρ', s.run E.P w = .ok (nxt ρ' r) w' ∧ Evo ρ σ w ρ' σ' w' ∧ ∀ v, r = some v → Sc σ'.next v

theorem parts_arr {ρ : Nat → Loc} {a : Act} {parts : Array (Nat × Operand)} {ps : List (Nat × Value)} (h1 : parts.toList.map (fun p => (p.1, a.eval p.2)) = ps.map (fun p => (p.1, ren ρ p.2))) :
    (parts.map fun (p : Nat × Operand) => (p.1, a.eval p.2)) = (ps.map fun p => (p.1, ren ρ p.2)).toArray := Array.ext' (by simpa using h1)

theorem Out_alloc (E : Env) {ρ : Nat → Loc} {σ : St} {w : World} (hR : Rel ρ σ w) (e : TypeId) (cs : List Value) (hs : Scs σ.next cs) {s : Sem Next} (hrun : s.run E.P w = .ok (.value (.pointer (some ⟨w.heap.size, 0, none⟩))) (w.alloc (.cells (cs.map (ren ρ)).toArray e))) :
    Out E ρ σ w s (some (.pointer (some ⟨σ.next, 0, none⟩))) (σ.push (.cells e cs)) := by
  refine ⟨_, _, ?_, alloc_cells hR e cs hs (Like.refl _), fun v hv => by cases hv; exact Sc_ptr (by simp)⟩
  rw [hrun]
  simp only [nxt]
  rw [ren_new _ _ _ rfl]

theorem Out_slice (E : Env) {ρ : Nat → Loc} {σ : St} {w : World} (hR : Rel ρ σ w) (e : TypeId) (cs : List Value) (hs : Scs σ.next cs) (l c : Nat) (hc : c < half) {s : Sem Next} (hrun : s.run E.P w = .ok (.value (.slice (some ⟨w.heap.size, 0, none⟩) l c)) (w.alloc (.cells (cs.map (ren ρ)).toArray e))) :
    Out E ρ σ w s (some (.slice (some ⟨σ.next, 0, none⟩) l c)) (σ.push (.cells e cs)) := by
  refine ⟨_, _, ?_, alloc_cells hR e cs hs (Like.refl _), fun v hv => by cases hv; exact Sc_slice (by simp)⟩
  rw [hrun]
  simp only [nxt]
  rw [ren_new_slice _ _ _ rfl _ _ hc]

theorem push_modify (w : World) (o o' : Obj) (g : Obj → Obj) (h : g o = o') : (w.heap.push o).modify w.heap.size g = w.heap.push o' := by
  apply Array.ext_getElem?
  intro q
  rw [Array.getElem?_modify]
  by_cases hq : w.heap.size = q
  · subst hq
    simp [h]
  · rw [if_neg hq, Array.getElem?_push, Array.getElem?_push, if_neg (by omega), if_neg (by omega)]

theorem stringToBytes_sound (E : Env) {ρ : Nat → Loc} {σ : St} {w : World} (hR : Rel ρ σ w) (e : Nat) (str : ByteArray) :
    ∃ w' ρ', (Conv.stringToBytes e str).run E.P w = .ok (ren ρ' (.slice (some ⟨σ.next, 0, none⟩) str.data.toList.length unk)) w' ∧ Evo ρ σ w ρ' (σ.push (.row e 1 (str.data.toList.map fun b => .int .u8 b.toNat))) w' := by
  have hsz : str.size = str.data.toList.length := by simp
  have hch : (choose (.appendCap str.size 0 e)).run E.P w = .ok ((Question.appendCap str.size 0 e).cut (w.tape w.drawn (.appendCap str.size 0 e))) w.drew := by
    rw [run_choose]; simp [Question.forced]
  have hcl := cut_le str.size 0 e (w.tape w.drawn (.appendCap str.size 0 e))
  generalize (Question.appendCap str.size 0 e).cut (w.tape w.drawn (.appendCap str.size 0 e)) = C at hch hcl
  have hcs : (str.data.toList.map fun (b : UInt8) => Value.int .u8 b.toNat).map (ren ρ) = str.data.toList.map fun (b : UInt8) => Value.int .u8 b.toNat := by simp [Function.comp_def]
  have hcl2 : (str.data.toList.map fun (b : UInt8) => Value.int .u8 b.toNat).length + (List.replicate (C - str.size) (Value.int .u8 0)).length = C * 1 := by
    simp only [List.length_map, List.length_replicate, ← hsz]; omega
  have hRd : Rel ρ σ w.drew := hR.like (Like.drew w)
  refine ⟨w.drew.alloc (.cells ((str.data.toList.map fun (b : UInt8) => Value.int .u8 b.toNat) ++ List.replicate (C - str.size) (Value.int .u8 0)).toArray e (C, C + 1)), upd ρ σ.next ⟨w.heap.size, 0, C⟩, ?_,
    (Evo.like hR (Like.drew w)).trans (Evo.alloc hRd _ (.row e 1 _) C (Like.refl _) ⟨rfl, (C, C + 1), List.replicate (C - str.size) (.int .u8 0), fun k hk h => ?_, hcl2, ?_⟩ (fun v hv => by simp only [List.mem_map] at hv; obtain ⟨b, _, rfl⟩ := hv; simp))⟩
  · rw [ren_new_row _ _ _ rfl]
    unfold Conv.stringToBytes
    have harr : (str.data.map fun (b : UInt8) => Value.int .u8 b.toNat) ++ Array.replicate (C - str.size) (Value.int .u8 0) = ((str.data.toList.map fun (b : UInt8) => Value.int .u8 b.toNat) ++ List.replicate (C - str.size) (Value.int .u8 0)).toArray := by
      apply Array.ext'; simp
    simp only [Sem.run_bind, hch, Result.andThen_ok, newRow, run_newObj, harr, Sem.run_pure, markStringish, run_shape]
    have hshape : ({ w.drew with heap := w.drew.heap.push (Obj.cells ((str.data.toList.map fun (b : UInt8) => Value.int .u8 b.toNat) ++ List.replicate (C - str.size) (Value.int .u8 0)).toArray e) } : World).shape? w.drew.heap.size = some (e, C) := by
      simp only [World.shape?, Array.getElem?_push_size]
      simp only [List.size_toArray, List.length_append, hcl2, Nat.mul_one]
    rw [hshape]
    simp only [run_freeze, Result.andThen_ok, World.freeze, Nat.one_ne_zero, if_false]
    rw [push_modify w.drew _ (.cells ((str.data.toList.map fun (b : UInt8) => Value.int .u8 b.toNat) ++ List.replicate (C - str.size) (Value.int .u8 0)).toArray e (C, C + 1)) _ (by simp)]
    rw [← hsz]
    rfl
  · simp only at hk h; omega
  · have e2 : (str.data.toList.map fun (b : UInt8) => Value.int .u8 b.toNat).map (ren (upd ρ σ.next ⟨w.drew.heap.size, 0, C⟩)) = str.data.toList.map fun (b : UInt8) => Value.int .u8 b.toNat := by simp [Function.comp_def]
    rw [e2]
    exact get_new _ _

theorem zeros_arr (E : Env) {t : Nat} {i : TyI} (h : E.ty t = some i) (n : Nat) (h0 : n * i.size ≠ 0) : (Array.range (n * i.size)).map (fun x => i.zero.cells[x % i.zero.cells.size]!) = (repl n i.zero.cells.toList).toArray := by
  have hz := zero_size E h
  have hpos : 0 < i.zero.cells.toList.length := by
    simp only [Array.length_toList, hz]
    exact Nat.pos_of_ne_zero fun e => h0 (by simp [e])
  have := repl_spec i.zero.cells.toList n hpos
  simp only [Array.length_toList, hz, Array.toArray_toList] at this
  apply Array.ext'
  rw [← this, hz]

theorem zeros_nil (E : Env) {t : Nat} {i : TyI} (h : E.ty t = some i) (n : Nat) (h0 : n * i.size = 0) (A : Array Value) : (Array.range (n * i.size)).map (fun x => A[x % A.size]!) = (repl n i.zero.cells.toList).toArray := by
  have hz := zero_size E h
  have : repl n i.zero.cells.toList = [] := by
    apply List.eq_nil_of_length_eq_zero
    rw [repl_length]; simpa [hz] using h0
  rw [this, h0]; simp

section
variable (E : Env) {ρ : Nat → Loc} {σ σ' : St} {w : World} (hR : Rel ρ σ w) {f : Fr} {a : Act} (hF : FrRel ρ f σ.next a) {dst : Option Tmp} {type : TypeId} {pos : String} {after : Array Edge} {guard : Option (Nat × Bool)} {r : Option Value}
include hR hF

theorem W_alloc {e : Nat} (h : opW E f σ (.alloc e) = some (r, σ')) : Out E ρ σ w (execOp a.eval ⟨dst, .alloc e, type, pos, after, guard⟩) r σ' := by
  simp only [opW] at h
  split at h
  · rename_i i he
    simp only [Option.some.injEq, Prod.mk.injEq] at h
    obtain ⟨rfl, rfl⟩ := h
    refine Out_alloc E hR e _ (zero_scs E he _) ?_
    simp only [execOp]
    refine run_v' ?_
    simp [Instr.alloc, run_zero E he, newVar, newRow, zero_ren E he]
  · cases h

theorem W_box {e : Nat} {x : Operand} (h : opW E f σ (.box e x) = some (r, σ')) : Out E ρ σ w (execOp a.eval ⟨dst, .box e x, type, pos, after, guard⟩) r σ' := by
  simp only [opW] at h
  split at h
  · rename_i v hx
    simp only [Option.some.injEq, Prod.mk.injEq] at h
    obtain ⟨rfl, rfl⟩ := h
    obtain ⟨h1, h2⟩ := opd_sound hF hx
    refine Out_alloc E hR e _ (Sc_cells h2) ?_
    simp only [execOp]
    refine run_v' ?_
    have : (ren ρ v).cells = (v.cells.toList.map (ren ρ)).toArray := by rw [ren_cells]; apply Array.ext'; simp
    simp [Instr.box, newVar, newRow, h1, this]
  · cases h

theorem W_buildSlice {t len : Nat} {parts : Array (Nat × Operand)} (h : opW E f σ (.buildSlice t len parts) = some (r, σ')) : Out E ρ σ w (execOp a.eval ⟨dst, .buildSlice t len parts, type, pos, after, guard⟩) r σ' := by
  simp only [opW] at h
  split at h
  · rename_i i ps ht hps
    split at h
    · rename_i e hd
      split at h
      · rename_i j he
        split at h
        · rename_i hc
          split at h
          · rename_i cs hf
            simp only [Option.some.injEq, Prod.mk.injEq] at h
            obtain ⟨rfl, rfl⟩ := h
            obtain ⟨h1, h2⟩ := partsQ_sound hF hps
            have hfs := fillQ_sound ρ hf
            rw [repl_ren E he] at hfs
            refine Out_slice E hR e cs (fillQ_sc hf (repl_sc (zero_scs E he _) _) h2) len len hc.2 ?_
            simp only [execOp]
            refine run_v' ?_
            rw [parts_arr h1]
            have hle : ¬ (len * j.size > 2 ^ 24) := by omega
            unfold Instr.buildSlice
            by_cases h0 : len * j.size = 0
            · simp only [Sem.run_bind, run_und E ht, hd, Result.andThen_ok, run_sz E he, if_neg hle, if_pos h0, Sem.run_pure, zeros_nil E he len h0, hfs, newRow, run_newObj]
              rfl
            · simp only [Sem.run_bind, run_und E ht, hd, Result.andThen_ok, run_sz E he, if_neg hle, if_neg h0, run_zero E he, Sem.run_pure, zeros_arr E he len h0, hfs, newRow, run_newObj]
              rfl
          · cases h
        · cases h
      · cases h
    · cases h
  · cases h

theorem W_store {t : Nat} {x y : Operand} (h : opW E f σ (.store t x y) = some (r, σ')) : Out E ρ σ w (execOp a.eval ⟨dst, .store t x y, type, pos, after, guard⟩) r σ' := by
  simp only [opW] at h
  split at h
  · rename_i ad v i hx hy ht
    split at h
    · rename_i hlen
      split at h
      · rename_i σ₂ hst
        simp only [Option.some.injEq, Prod.mk.injEq] at h
        obtain ⟨rfl, rfl⟩ := h
        obtain ⟨h1, _⟩ := opd_sound hF hx
        obtain ⟨h2, h3⟩ := opd_sound hF hy
        obtain ⟨w', h4, h5⟩ := stCells_sound E.P hR hst (Sc_cells h3)
        refine ⟨w', ρ, ?_, h5, fun v hv => by cases hv⟩
        simp only [execOp, h1, h2, nxt]
        refine run_u ?_
        have e1 : (ren ρ v).cells.toList = v.cells.toList.map (ren ρ) := by rw [ren_cells]; simp
        have e2 : (ren ρ v).cells.size = i.size := by rw [ren_cells]; simpa using hlen
        simp [Instr.storeAt, Instr.sureAddr, storeVar, run_sz E ht, e1, e2, h4]
      · cases h
    · cases h
  · cases h

theorem W_makeMap {t : Nat} {r' : Option Operand} (h : opW E f σ (.makeMap t r') = some (r, σ')) : Out E ρ σ w (execOp a.eval ⟨dst, .makeMap t r', type, pos, after, guard⟩) r σ' := by
  cases r' with
  | none =>
    simp only [opW, Option.some.injEq, Prod.mk.injEq] at h
    obtain ⟨rfl, rfl⟩ := h
    refine ⟨_, _, ?_, alloc_obj hR (.map #[] 0) (.map [] 0) (Like.refl _) ⟨rfl, by rw [get_new]; rfl⟩ (fun e he => by simp at he), fun v hv => by cases hv; exact Sc_map (by simp)⟩
    simp only [execOp, nxt, ren_map, upd_same]
    refine run_v' ?_
    simp [Instr.makeMap]
  | some x =>
    simp only [opW] at h
    split at h
    · rename_i i k z ht hx
      split at h
      · rename_i kt et hd
        simp only [Option.some.injEq, Prod.mk.injEq] at h
        obtain ⟨rfl, rfl⟩ := h
        obtain ⟨h1, _⟩ := opd_sound hF hx
        refine ⟨_, _, ?_, alloc_obj hR (.map #[] 0) (.map [] 0) (Like.refl _) ⟨rfl, by rw [get_new]; rfl⟩ (fun e he => by simp at he), fun v hv => by cases hv; exact Sc_map (by simp)⟩
        simp only [execOp, nxt, ren_map, upd_same]
        refine run_v' ?_
        simp [Instr.makeMap, h1, run_und E ht, hd, asInt, asIntOf]
      · cases h
    · cases h

theorem W_makeSlice {t : Nat} {l c : Operand} (h : opW E f σ (.makeSlice t l c) = some (r, σ')) : Out E ρ σ w (execOp a.eval ⟨dst, .makeSlice t l c, type, pos, after, guard⟩) r σ' := by
  simp only [opW] at h
  split at h
  · rename_i i k1 x k2 y ht hl hc
    split at h
    · rename_i e hd
      split at h
      · rename_i j he
        split at h
        · rename_i hxy
          obtain ⟨q1, q2, q3, q4⟩ := hxy
          simp only [Option.some.injEq, Prod.mk.injEq] at h
          obtain ⟨rfl, rfl⟩ := h
          obtain ⟨h1, _⟩ := opd_sound hF hl
          obtain ⟨h2, _⟩ := opd_sound hF hc
          have hyc : y.toNat < half := by unfold half; omega
          refine Out_slice E hR e _ (repl_sc (zero_scs E he _) _) x.toNat y.toNat hyc ?_
          simp only [execOp]
          refine run_v' ?_
          have wx : IntKind.i64.wrap x = x := IntWalk.i64_in _ (by omega)
          have wy : IntKind.i64.wrap y = y := IntWalk.i64_in _ (by omega)
          obtain ⟨info, hi1, _, hi3, _⟩ := run_info E he w
          have hcond : ((decide (y < 0) || decide ((info.bytes : Int) * y > 2 ^ 48) || decide (x < 0) || decide (x > y)) = true) = False := by
            rw [hi3]; simp; omega
          rw [h1, h2, ren_int, ren_int, repl_ren E he]
          unfold Instr.makeSlice
          simp only [Sem.run_bind, run_und E ht, hd, Result.andThen_ok, asInt, asIntOf, Sem.run_pure, hi1, wx, wy, hcond, if_false, run_askRoom, run_sz E he]
          by_cases h0 : y.toNat * j.size = 0
          · simp only [if_pos h0, Sem.run_bind, Sem.run_pure, Result.andThen_ok, zeros_nil E he _ h0, newRow, run_newObj]
            rfl
          · simp only [if_neg h0, Sem.run_bind, run_zero E he, Sem.run_pure, Result.andThen_ok, zeros_arr E he _ h0, newRow, run_newObj]
            rfl
        · cases h
      · cases h
    · cases h
  · cases h

end
end
end AH
end

section
/-
  AH 17: all operations that write, or make memory, together.
-/
set_option linter.unusedSimpArgs false
set_option linter.unusedVariables false
set_option linter.unusedSectionVars false
namespace AH
open Go
noncomputable section

section
variable (E : Env) {ρ : Nat → Loc} {σ σ' : St} {w : World} (hR : Rel ρ σ w) {f : Fr} {a : Act} (hF : FrRel ρ f σ.next a) {dst : Option Tmp} {type : TypeId} {pos : String} {after : Array Edge} {guard : Option (Nat × Bool)} {r : Option Value}
include hR hF

theorem W_mapUpdate {t : Nat} {m k x : Operand} (h : opW E f σ (.mapUpdate t m k x) = some (r, σ')) : Out E ρ σ w (execOp a.eval ⟨dst, .mapUpdate t m k x, type, pos, after, guard⟩) r σ' := by
  simp only [opW] at h
  split at h
  · rename_i vm vk vx hm hk hx
    split at h
    · rename_i σ₂ hu
      simp only [Option.some.injEq, Prod.mk.injEq] at h
      obtain ⟨rfl, rfl⟩ := h
      obtain ⟨h1, _⟩ := opd_sound hF hm
      obtain ⟨h2, h2s⟩ := opd_sound hF hk
      obtain ⟨h3, h3s⟩ := opd_sound hF hx
      obtain ⟨w', h4, h5⟩ := mapUpdQ_sound E hR hu h2s h3s
      refine ⟨w', ρ, ?_, h5, fun v hv => by cases hv⟩
      simp only [execOp, h1, h2, h3, nxt]
      exact run_u h4
    · cases h
  · cases h

theorem W_insert {t : Nat} {m k x : Operand} (h : opW E f σ (.insert t m k x) = some (r, σ')) : Out E ρ σ w (execOp a.eval ⟨dst, .insert t m k x, type, pos, after, guard⟩) r σ' := by
  simp only [opW] at h
  split at h
  · rename_i vm vk vx hm hk hx
    split at h
    · rename_i σ₂ hu
      simp only [Option.some.injEq, Prod.mk.injEq] at h
      obtain ⟨rfl, rfl⟩ := h
      obtain ⟨h1, _⟩ := opd_sound hF hm
      obtain ⟨h2, h2s⟩ := opd_sound hF hk
      obtain ⟨h3, h3s⟩ := opd_sound hF hx
      obtain ⟨w', h4, h5⟩ := mapUpdQ_sound E hR hu h2s h3s
      refine ⟨w', ρ, ?_, h5, fun v hv => by cases hv⟩
      simp only [execOp, h1, h2, h3, nxt]
      exact run_u h4
    · cases h
  · cases h

theorem W_range {t : Nat} {x : Operand} (h : opW E f σ (.range t x) = some (r, σ')) : Out E ρ σ w (execOp a.eval ⟨dst, .range t x, type, pos, after, guard⟩) r σ' := by
  simp only [opW] at h
  split at h
  · rename_i v hx
    split at h
    · rename_i u σ₂ hu
      simp only [Option.some.injEq, Prod.mk.injEq] at h
      obtain ⟨rfl, rfl⟩ := h
      obtain ⟨h1, h1s⟩ := opd_sound hF hx
      obtain ⟨w', ρ', h4, h5, h6⟩ := rangeQ_sound E hR hu h1s
      refine ⟨w', ρ', ?_, h5, fun v hv => by cases hv; exact h6⟩
      simp only [execOp, h1, nxt]
      exact run_v' h4
    · cases h
  · cases h

theorem W_next {x : Operand} {s : Bool} (h : opW E f σ (.next x s) = some (r, σ')) : Out E ρ σ w (execOp a.eval ⟨dst, .next x s, type, pos, after, guard⟩) r σ' := by
  simp only [opW] at h
  split at h
  · rename_i v hx
    split at h
    · rename_i u σ₂ hu
      simp only [Option.some.injEq, Prod.mk.injEq] at h
      obtain ⟨rfl, rfl⟩ := h
      obtain ⟨h1, h1s⟩ := opd_sound hF hx
      obtain ⟨w', h4, h5, h6⟩ := nextQ_sound E.P hR hu type
      refine ⟨w', ρ, ?_, h5, fun v hv => by cases hv; exact h6⟩
      simp only [execOp, h1, nxt]
      exact run_v' h4
    · cases h
  · cases h

theorem W_entry {x : Operand} (h : opW E f σ (.entry x) = some (r, σ')) : Out E ρ σ w (execOp a.eval ⟨dst, .entry x, type, pos, after, guard⟩) r σ' := by
  simp only [opW] at h
  split at h
  · rename_i v hx
    split at h
    · rename_i u hu
      simp only [Option.some.injEq, Prod.mk.injEq] at h
      obtain ⟨rfl, rfl⟩ := h
      obtain ⟨h1, h1s⟩ := opd_sound hF hx
      obtain ⟨h4, h6⟩ := entryQ_sound E.P hR hu
      refine ⟨w, ρ, ?_, Evo.refl hR, fun v hv => by cases hv; exact h6⟩
      simp only [execOp, h1, nxt]
      exact run_v' h4
    · cases h
  · cases h

theorem W_convert {s d : Nat} {x : Operand} (h : opW E f σ (.convert s d x) = some (r, σ')) : Out E ρ σ w (execOp a.eval ⟨dst, .convert s d x, type, pos, after, guard⟩) r σ' := by
  simp only [opW] at h
  split at h
  · rename_i i j v hs hd hx
    obtain ⟨h1, h1s⟩ := opd_sound hF hx
    split at h
    · rename_i e str hds hdd
      split at h
      · rename_i je he
        split at h
        · rename_i hje
          split at h
          · rename_i hc
            simp only [Option.some.injEq, Prod.mk.injEq] at h
            obtain ⟨rfl, rfl⟩ := h
            obtain ⟨w', ρ', h2, h3⟩ := stringToBytes_sound E hR e str
            refine ⟨w', ρ', ?_, h3, fun v hv => by cases hv; exact Sc_slice (by simp)⟩
            simp only [execOp, h1, nxt]
            refine run_v' ?_
            rw [← h2]
            simp [Go.convert, run_und E hs, run_und E hd, hds, hdd, run_und E he, hje]
          · cases h
        · cases h
      · cases h
    · rename_i e n c hds hdd
      split at h
      · rename_i je he
        split at h
        · rename_i hje
          simp only [Option.some.injEq, Prod.mk.injEq] at h
          obtain ⟨rfl, rfl⟩ := h
          refine ⟨w, ρ, ?_, Evo.refl hR, fun v hv => by cases hv; simp⟩
          simp only [execOp, h1, nxt]
          refine run_v' ?_
          simp [Go.convert, run_und E hs, run_und E hd, hds, hdd, run_und E he, hje, Conv.bytesToString, mkStr]
          rfl
        · cases h
      · cases h
    · rename_i e ad n c hds hdd
      split at h
      · rename_i je he
        split at h
        · rename_i hje
          split at h
          · rename_i l hl
            split at h
            · rename_i bs hbs
              simp only [Option.some.injEq, Prod.mk.injEq] at h
              obtain ⟨rfl, rfl⟩ := h
              refine ⟨w, ρ, ?_, Evo.refl hR, fun v hv => by cases hv; simp⟩
              simp only [execOp, h1, nxt]
              refine run_v' ?_
              obtain ⟨hsp, hlen, _⟩ := ldCells_spec hl
              have h2 := run_ldCells (ρ := ρ) (w := w) E.P hsp (l := l) (fun k v hk => Hold.at_of_in hR (ldCells_get hl hk))
              rw [hlen] at h2
              simp only [Go.convert, Sem.run_bind, run_und E hs, run_und E hd, hds, hdd, ren_slice, Result.andThen_ok, run_und E he, hje, Conv.bytesToString, h2, List.forIn_toArray]
              rw [bytesOf_sound E.P w ρ _ (fun _ _ => rfl) hbs]
              simp [mkStr]
            · cases h
          · cases h
        · cases h
      · cases h
    · cases h
  · cases h

theorem W_append {args : Array Operand} {at_ : Array TypeId} (h : opW E f σ (.call ⟨.builtin .append, args, at_⟩) = some (r, σ')) : Out E ρ σ w (execOp a.eval ⟨dst, .call ⟨.builtin .append, args, at_⟩, type, pos, after, guard⟩) r σ' := by
  simp only [opW] at h
  split at h
  · rename_i s x t tx ha ht
    split at h
    · rename_i vs vx hs hx
      split at h
      · rename_i u σ₂ hu
        simp only [Option.some.injEq, Prod.mk.injEq] at h
        obtain ⟨rfl, rfl⟩ := h
        obtain ⟨h1, h1s⟩ := opd_sound hF hs
        obtain ⟨h2, h2s⟩ := opd_sound hF hx
        have ea := arr_of_toList ha
        have et := arr_of_toList ht
        subst ea; subst et
        obtain ⟨w', ρ', h3, h4, h5⟩ := appQ_sound E hR hu h1s type
        refine ⟨w', ρ', ?_, h4, fun v hv => by cases hv; exact h5⟩
        simp only [execOp, resolve, invoke, builtin, nxt, List.map_toArray, List.map_cons, List.map_nil, h1, h2, Sem.run_bind, Sem.run_pure, Result.andThen_ok, h3]
      · cases h
    · cases h
  · cases h

theorem W_copy {args : Array Operand} {at_ : Array TypeId} (h : opW E f σ (.call ⟨.builtin .copy, args, at_⟩) = some (r, σ')) : Out E ρ σ w (execOp a.eval ⟨dst, .call ⟨.builtin .copy, args, at_⟩, type, pos, after, guard⟩) r σ' := by
  simp only [opW] at h
  split at h
  · rename_i s x t tx ha ht
    split at h
    · rename_i vs vx hs hx
      split at h
      · rename_i u σ₂ hu
        simp only [Option.some.injEq, Prod.mk.injEq] at h
        obtain ⟨rfl, rfl⟩ := h
        obtain ⟨h1, h1s⟩ := opd_sound hF hs
        obtain ⟨h2, h2s⟩ := opd_sound hF hx
        have ea := arr_of_toList ha
        have et := arr_of_toList ht
        subst ea; subst et
        obtain ⟨w', h3, h4, h5⟩ := copyQ_sound E hR (tx := tx) hu type
        refine ⟨w', ρ, ?_, h4, fun v hv => by cases hv; exact closedV_Sc h5 _⟩
        simp only [execOp, resolve, invoke, builtin, nxt, List.map_toArray, List.map_cons, List.map_nil, h1, h2, Sem.run_bind, Sem.run_pure, Result.andThen_ok, h3, closedV_ren 4 _ h5 ρ]
      · cases h
    · cases h
  · cases h

theorem W_delete {args : Array Operand} {at_ : Array TypeId} (h : opW E f σ (.call ⟨.builtin .delete, args, at_⟩) = some (r, σ')) : Out E ρ σ w (execOp a.eval ⟨dst, .call ⟨.builtin .delete, args, at_⟩, type, pos, after, guard⟩) r σ' := by
  simp only [opW] at h
  split at h
  · rename_i s x t tx ha ht
    split at h
    · rename_i vs vx hs hx
      split at h
      · rename_i u σ₂ hu
        simp only [Option.some.injEq, Prod.mk.injEq] at h
        obtain ⟨rfl, rfl⟩ := h
        obtain ⟨h1, h1s⟩ := opd_sound hF hs
        obtain ⟨h2, h2s⟩ := opd_sound hF hx
        have ea := arr_of_toList ha
        have et := arr_of_toList ht
        subst ea; subst et
        obtain ⟨w', h3, h4, h5⟩ := delQ_sound E hR (tk := tx) hu type
        refine ⟨w', ρ, ?_, h4, fun v hv => by cases hv; exact closedV_Sc h5 _⟩
        simp only [execOp, resolve, invoke, builtin, nxt, List.map_toArray, List.map_cons, List.map_nil, h1, h2, Sem.run_bind, Sem.run_pure, Result.andThen_ok, h3, closedV_ren 4 _ h5 ρ]
      · cases h
    · cases h
  · cases h

theorem W_clear {args : Array Operand} {at_ : Array TypeId} (h : opW E f σ (.call ⟨.builtin .clear, args, at_⟩) = some (r, σ')) : Out E ρ σ w (execOp a.eval ⟨dst, .call ⟨.builtin .clear, args, at_⟩, type, pos, after, guard⟩) r σ' := by
  simp only [opW] at h
  split at h
  · rename_i x t ha ht
    split at h
    · rename_i vx hx
      split at h
      · rename_i u σ₂ hu
        simp only [Option.some.injEq, Prod.mk.injEq] at h
        obtain ⟨rfl, rfl⟩ := h
        obtain ⟨h2, h2s⟩ := opd_sound hF hx
        have ea := arr_of_toList ha
        have et := arr_of_toList ht
        subst ea; subst et
        obtain ⟨w', h3, h4, h5⟩ := clearQ_sound E hR hu type
        refine ⟨w', ρ, ?_, h4, fun v hv => by cases hv; exact closedV_Sc h5 _⟩
        simp only [execOp, resolve, invoke, builtin, nxt, List.map_toArray, List.map_cons, List.map_nil, h2, Sem.run_bind, Sem.run_pure, Result.andThen_ok, h3, closedV_ren 4 _ h5 ρ]
      · cases h
    · cases h
  · cases h

end

theorem opW_sound (E : Env) {ρ : Nat → Loc} {σ σ' : St} {w : World} (hR : Rel ρ σ w) {f : Fr} {a : Act} (hF : FrRel ρ f σ.next a) (o : Oper) {r : Option Value} (h : opW E f σ o.op = some (r, σ')) :
    Out E ρ σ w (execOp a.eval o) r σ' := by
  obtain ⟨dst, op, type, pos, after, guard⟩ := o
  dsimp only at h
  cases op with
  | alloc e => exact W_alloc E hR hF h
  | box e x => exact W_box E hR hF h
  | buildSlice t len parts => exact W_buildSlice E hR hF h
  | store t x y => exact W_store E hR hF h
  | makeMap t r' => exact W_makeMap E hR hF h
  | makeSlice t l c => exact W_makeSlice E hR hF h
  | mapUpdate t m k x => exact W_mapUpdate E hR hF h
  | insert t m k x => exact W_insert E hR hF h
  | range t x => exact W_range E hR hF h
  | next x s => exact W_next E hR hF h
  | entry x => exact W_entry E hR hF h
  | convert s d x => exact W_convert E hR hF h
  | call c =>
    obtain ⟨callee, args, at_⟩ := c
    cases callee with
    | value g => simp [opW] at h
    | invoke g m => simp [opW] at h
    | builtin b =>
      cases b with
      | append => exact W_append E hR hF h
      | copy => exact W_copy E hR hF h
      | clear => exact W_clear E hR hF h
      | delete => exact W_delete E hR hF h
      | _ => simp [opW] at h
  | _ => simp [opW] at h

end
end AH
end
