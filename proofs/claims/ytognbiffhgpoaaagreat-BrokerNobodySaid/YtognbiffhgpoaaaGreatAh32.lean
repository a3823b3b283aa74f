/-
  AH 32: appends to a row, symbolically.
-/
import Derived.Test.YtognbiffhgpoaaaGreatAh31
set_option linter.unusedSimpArgs false
set_option linter.unusedVariables false
set_option linter.unusedSectionVars false
namespace AH
open Go
noncomputable section

/-- To a row that is full as far as is known. -/
theorem appQ_row {E : Env} {σ : St} {t tx : Nat} {i ix : TyI} {e : TypeId} {j : TyI} {b len : Nat} {cs new : List Value} {n : Nat} {x : Value} (ht : E.ty t = some i) (hd : i.desc = .slice e) (htx : E.ty tx = some ix) {e2 : TypeId} (hdx : ix.desc = .slice e2)
    (he : E.ty e = some j) (hs : srcQ σ j.size x = some (n, new)) (hj : 0 < j.size) (hjb : 0 < j.bytes) (hb : σ.get b = .row e j.size cs) (hlen : len * j.size = cs.length) (hn : 0 < n) (hone : new.all Value.oneCell' = true) (hbd : (8 * (len + n) + 4096) * j.bytes ≤ 281474976710656) :
    appQ E σ t tx (.slice (some ⟨b, 0, none⟩) len unk) x = some (.slice (some ⟨σ.next, 0, none⟩) (len + n) unk, (σ.set b .dead).push (.row e j.size (cs ++ new))) := by
  have h1 : ¬ (j.size = 0 ∨ j.bytes = 0) := by omega
  have h2 : ¬ (unk < half) := by unfold unk half; omega
  have h3 : ¬ (0 + (len + n) * j.size ≤ cs.length) := by
    rw [← hlen, Nat.add_mul]
    have := Nat.mul_pos hn hj
    omega
  have h4 : j.size = j.size ∧ unk - unk < half ∧ unk ≤ unk ∧ (0 : Nat) = (unk - unk) * j.size ∧ (Option.isNone (none : Option Nat)) = true := ⟨rfl, by unfold half; omega, Nat.le_refl _, by simp, rfl⟩
  have h5 : (0 : Nat) = 0 ∧ len * j.size = cs.length ∧ e = e ∧ new.all Value.oneCell' = true ∧ (8 * (len + n) + 4096) * j.bytes ≤ 281474976710656 := ⟨rfl, hlen, rfl, hone, hbd⟩
  have hsz : srcZ σ (.slice e2) j x = some (n, new) := hs
  simp only [appQ, ht, htx, hd, hdx, he, hsz, if_neg h1, if_neg h2, hb, if_neg h3]
  rw [if_pos (by simpa using h4), if_pos (by simpa using h5)]

/-- To a slice that has no array. -/
theorem appQ_nil {E : Env} {σ : St} {t tx : Nat} {i ix : TyI} {e : TypeId} {j : TyI} {new : List Value} {n : Nat} {x : Value} (ht : E.ty t = some i) (hd : i.desc = .slice e) (htx : E.ty tx = some ix) {e2 : TypeId} (hdx : ix.desc = .slice e2)
    (he : E.ty e = some j) (hs : srcQ σ j.size x = some (n, new)) (hj : 0 < j.size) (hjb : 0 < j.bytes) (hn : 0 < n) (hbd : (8 * n + 4096) * j.bytes ≤ 281474976710656) :
    appQ E σ t tx (.slice none 0 0) x = some (.slice (some ⟨σ.next, 0, none⟩) n unk, σ.push (.row e j.size new)) := by
  have h1 : ¬ (j.size = 0 ∨ j.bytes = 0) := by omega
  have h2 : (0 : Nat) < half := by unfold half; omega
  have h3 : ¬ (n ≤ 0) := by omega
  have hsz : srcZ σ (.slice e2) j x = some (n, new) := hs
  simp only [appQ, ht, htx, hd, hdx, he, hsz, if_neg h1, if_pos h2, Nat.zero_add, if_neg h3, if_pos hbd, if_true]

theorem opW_append {E : Env} {f : Fr} {σ : St} {args : Array Operand} {tys : Array TypeId} {s x : Operand} {t tx : Nat} {vs vx u : Value} {σ' : St} (ha : args.toList = [s, x]) (ht : tys.toList = [t, tx]) (hs : opd f s = some vs) (hx : opd f x = some vx) (h : appQ E σ t tx vs vx = some (u, σ')) :
    opW E f σ (.call ⟨.builtin .append, args, tys⟩) = some (some u, σ') := by
  simp only [opW, ha, ht, hs, hx, h]

end
end AH
