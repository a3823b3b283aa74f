/-
  AH 21: what is known of a program's types, reckoned from the program.
-/
import Derived.Test.YtognbiffhgpoaaaGreatAh20
set_option linter.unusedSimpArgs false
set_option linter.unusedVariables false
set_option linter.unusedSectionVars false
namespace AH
open Go
noncomputable section

def eqokB (P : Program) (t : Nat) : Bool := !(P.stoodInHeld t) && !(P.eqGuardType P.depth t)

def tyOf (P : Program) (t : Nat) : Option TyI :=
  match P.info? t, P.underlying t with
  | some info, some d =>
    (match info.zero with
     | some z => bif closedV 4 z && Nat.beq z.cells.toList.length info.size then some ⟨d, info.size, info.bytes, z, eqokB P t⟩ else none
     | none => none)
  | _, _ => none

theorem tyOf_ok (P : Program) (t : Nat) (i : TyI) (h : tyOf P t = some i) : P.underlying t = some i.desc ∧ closedV 4 i.zero = true ∧ i.zero.cells.size = i.size ∧
    ∃ info, P.info? t = some info ∧ info.size = i.size ∧ info.bytes = i.bytes ∧ info.zero = some i.zero := by
  unfold tyOf at h
  split at h
  · rename_i info d hi hd
    split at h
    · rename_i z hz
      cases hb : (closedV 4 z && Nat.beq z.cells.toList.length info.size) with
      | false => simp only [hb, cond_false, reduceCtorEq] at h
      | true =>
        simp only [hb, cond_true, Option.some.injEq] at h
        subst h
        simp only [Bool.and_eq_true, Nat.beq_eq, Array.length_toList] at hb
        exact ⟨hd, hb.1, hb.2, info, hi, rfl, rfl, hz⟩
    · cases h
  · cases h

theorem tyOf_eqOk (P : Program) (t : Nat) (i : TyI) (h : tyOf P t = some i) (he : i.eqok = true) : P.stoodInHeld t = false ∧ P.eqGuardType P.depth t = false := by
  unfold tyOf at h
  split at h
  · rename_i info d hi hd
    split at h
    · rename_i z hz
      cases hb : (closedV 4 z && Nat.beq z.cells.toList.length info.size) with
      | false => simp only [hb, cond_false, reduceCtorEq] at h
      | true =>
        simp only [hb, cond_true, Option.some.injEq] at h
        subst h
        simp only [eqokB, Bool.and_eq_true, Bool.not_eq_true'] at he
        exact he
    · cases h
  · cases h

def mthOf (P : Program) (t : Nat) (name : String) : Option Nat :=
  match P.info? t, P.underlying t with
  | some info, some (.pointer _) =>
    (match info.methods.find? (fun m => m.name == name) with
     | some m => (match m.path.toList, m.func with
       | [], some (f, true) => some f
       | _, _ => none)
     | none => none)
  | _, _ => none

theorem mthOf_ok (P : Program) (t : Nat) (name : String) (g : Nat) (h : mthOf P t name = some g) (v : Value) (w : World) : (Go.method (P.types.size + Made.depth) t v name).run P w = .ok (g, v) w := by
  unfold mthOf at h
  split at h
  · rename_i info e hi hd
    split at h
    · rename_i m hm
      split at h
      · rename_i f hp hf
        simp only [Option.some.injEq] at h
        subst h
        have hti : (typeInfo t).run P w = .ok info w := by simp [typeInfo, hi]
        show (Go.method (P.types.size + 99 + 1) t v name).run P w = _
        generalize P.types.size + 99 = N
        simp only [Go.method, Sem.run_bind, hti, Result.andThen_ok, hm, hp, follow, Sem.run_pure, hf, receiverAt, run_underlying hd, Place.get]
      · cases h
    · cases h
  · cases h

def envOf (P : Program) (hm : P.follows .mixedOrders = true) : EnvM where
  P := P
  ty := tyOf P
  tyOk := tyOf_ok P
  eqOk := tyOf_eqOk P
  mixed := hm
  mth := mthOf P
  mthOk := mthOf_ok P

end
end AH
