/-
  AH 6: the quiet operations, one by one, continued.
-/
import Derived.Test.YtognbiffhgpoaaaGreatAh5
set_option linter.unusedSimpArgs false
set_option linter.unusedVariables false
namespace AH
open Go
noncomputable section

theorem intOp_sound (P : Program) {op : BinOp} {k : IntKind} {x y : Int} {v : Value} (h : intOp op k x y = some v) (hs : op ≠ .shl) (hs' : op ≠ .shr) (t : Nat) (w : World) :
    (Go.binOp op t (.int k x) (.int k y)).run P w = .ok v w ∧ closedV 4 v = true := by
  cases op <;> simp only [intOp, leI_eq, ltI_eq, reduceCtorEq, Option.some.injEq, ne_eq, not_true_eq_false] at h hs hs'
  case quo =>
    split at h
    · cases h
    · rename_i hy; simp only [Option.some.injEq] at h; subst h; simp [Go.binOp, Op.intDiv, hy, closedV]
  case rem =>
    split at h
    · cases h
    · rename_i hy; simp only [Option.some.injEq] at h; subst h; simp [Go.binOp, Op.intDiv, hy, closedV]
  all_goals (subst h; simp [Go.binOp, Op.intArith, Op.intBits, Op.intCmp, closedV])

theorem shOp_sound (P : Program) {op : BinOp} {k k' : IntKind} {x y : Int} {v : Value} (h : shOp op k x y = some v) (t : Nat) (w : World) :
    (Go.binOp op t (.int k x) (.int k' y)).run P w = .ok v w ∧ closedV 4 v = true := by
  unfold shOp at h
  split at h
  · cases h
  · rename_i hy
    cases op <;> simp only [reduceCtorEq, Option.some.injEq] at h
    all_goals (subst h; simp [Go.binOp, Op.shift, hy, closedV])

theorem mkStr_append (x y : ByteArray) : x ++ y = mkStr (x.data.toList ++ y.data.toList) := by
  apply ByteArray.ext
  simp [mkStr]

theorem strOp_sound (P : Program) {op : BinOp} {x y : ByteArray} {v : Value} (h : strOp op x y = some v) (t : Nat) (w : World) :
    (Go.binOp op t (.string x) (.string y)).run P w = .ok v w ∧ closedV 4 v = true := by
  cases op <;> simp only [strOp, reduceCtorEq, Option.some.injEq] at h
  case add =>
    split at h
    · cases h
    · rename_i hl
      simp only [Option.some.injEq] at h
      subst h
      have hl' : ¬ (((x.size + y.size : Nat) : Int) > IntKind.i64.max) := by
        have e1 : IntKind.i64.max = 9223372036854775807 := rfl
        have e2 : x.size = x.data.toList.length := by simp
        have e3 : y.size = y.data.toList.length := by simp
        rw [e1, e2, e3]; exact hl
      simp only [Go.binOp, Op.stringOp]
      rw [if_neg hl', mkStr_append]
      exact ⟨rfl, rfl⟩
  all_goals (subst h; simp [Go.binOp, Op.stringOp, toList_eq, closedV])

theorem ren_eq_nilIface {ρ : Nat → Loc} {x : Value} (h : ren ρ x = .nilIface) : x = .nilIface := by
  cases x with
  | pointer a => cases a <;> simp at h
  | slice a n c => cases a <;> simp at h
  | map a => cases a <;> simp at h
  | _ => simp_all

theorem ren_eq_agg {ρ : Nat → Loc} {x : Value} {cs : Array Value} (h : ren ρ x = .agg cs) : ∃ xs, x = .agg xs := by
  cases x with
  | pointer a => cases a <;> simp at h
  | slice a n c => cases a <;> simp at h
  | map a => cases a <;> simp at h
  | agg xs => exact ⟨xs, rfl⟩
  | _ => simp_all

theorem run_eqGuard_other (P : Program) (w : World) (op : BinOp) (t : Nat) (xo yo : Operand) (x y : Value) (h1 : ¬ (x = .nilIface ∧ y = .nilIface)) (h2 : ∀ xs ys, x = .agg xs → y = .agg ys → P.eqGuardType P.depth t = false) :
    (eqGuard op t xo yo x y).run P w = .ok () w := by
  have key : ∀ op', op' = .eql ∨ op' = .neq → (eqGuard op' t xo yo x y).run P w = .ok () w := by
    intro op' ho
    by_cases hag : ∃ xs ys, x = .agg xs ∧ y = .agg ys
    · obtain ⟨xs, ys, rfl, rfl⟩ := hag
      exact run_eqGuard_agg w op' t xo yo xs ys (h2 xs ys rfl rfl)
    · rcases ho with rfl | rfl
      all_goals
        simp only [eqGuard, Bool.not_true, Bool.false_eq_true, if_false]
        cases x <;> cases y <;> simp_all
  cases op <;> first | exact key _ (.inl rfl) | exact key _ (.inr rfl) | (simp [eqGuard]; done)

theorem binOp_other (ty : Nat → Option TyI) (ρ : Nat → Loc) {n t : Nat} {x y : Value} {b : Bool} (h : eqQ ty (n + 1) t x y = some b) :
    (∃ k a k' c, x = .int k a ∧ y = .int k' c) ∨ (∃ s s', x = .string s ∧ y = .string s') ∨
    ((Go.binOp .eql t (ren ρ x) (ren ρ y)) = (do pure (.bool (← Op.equal t (ren ρ x) (ren ρ y)))) ∧
     (Go.binOp .neq t (ren ρ x) (ren ρ y)) = (do pure (.bool (!(← Op.equal t (ren ρ x) (ren ρ y)))))) := by
  unfold eqQ at h
  cases ht : ty t with
  | none => simp [ht] at h
  | some i =>
    simp only [ht] at h
    split at h
    case h_2 => exact .inl ⟨_, _, _, _, rfl, rfl⟩
    case h_3 => exact .inr (.inl ⟨_, _, rfl, rfl⟩)
    case h_4 e bb _ => refine .inr (.inr ?_); cases bb <;> simp only [ren_nilptr, ren_ptr] <;> exact ⟨rfl, rfl⟩
    case h_9 e l c bb l' c' _ => refine .inr (.inr ?_); cases bb <;> simp only [ren_nilslice, ren_slice] <;> exact ⟨rfl, rfl⟩
    case h_11 k e bb _ => refine .inr (.inr ?_); cases bb <;> simp only [ren_nilmap, ren_map] <;> exact ⟨rfl, rfl⟩
    case h_18 => cases h
    all_goals (refine .inr (.inr ?_); simp only [ren_bool, ren_nilptr, ren_ptr, ren_nilIface, ren_iface, ren_nilslice, ren_slice, ren_nilmap, ren_map, ren_nilFunc, ren_func, ren_agg]; exact ⟨rfl, rfl⟩)

def otherQ (E : Env) (op : BinOp) (t : Nat) (x y : Value) : Option Value :=
  match op with
  | .eql => (match eqQ E.ty 5 t x y with | some b => some (.bool b) | none => none)
  | .neq => (match eqQ E.ty 5 t x y with | some b => some (.bool !b) | none => none)
  | _ => none

theorem binQ_sound (E : Env) (ρ : Nat → Loc) {op : BinOp} {t : Nat} {x y : Value} {v : Value} (h : binQ E op t x y = some v) (xo yo : Operand) (w : World) :
    (do eqGuard op t xo yo (ren ρ x) (ren ρ y); Go.binOp op t (ren ρ x) (ren ρ y)).run E.P w = .ok v w ∧ closedV 4 v = true := by
  have other : ∀ b, eqQ E.ty 5 t x y = some b → (eqGuard op t xo yo (ren ρ x) (ren ρ y)).run E.P w = .ok () w ∧
      (Op.equal t (ren ρ x) (ren ρ y)).run E.P w = .ok b w := by
    intro b hb
    refine ⟨run_eqGuard_other E.P w op t xo yo _ _ (fun ⟨e1, e2⟩ => ?_) (fun xs ys e1 e2 => ?_), equalIn_sound E ρ 5 t x y b hb 9995 w⟩
    · have e1 := ren_eq_nilIface e1
      have e2 := ren_eq_nilIface e2
      subst e1; subst e2
      unfold eqQ at hb
      cases ht : E.ty t with
      | none => simp [ht] at hb
      | some i => simp only [ht] at hb; split at hb <;> simp_all
    · obtain ⟨xs', rfl⟩ := ren_eq_agg e1
      obtain ⟨ys', rfl⟩ := ren_eq_agg e2
      unfold eqQ at hb
      cases ht : E.ty t with
      | none => simp [ht] at hb
      | some i =>
        simp only [ht] at hb
        refine (E.eqOk t i ht ?_).2
        cases hq : i.eqok with
        | true => rfl
        | false => split at hb <;> simp_all
  by_cases hint : ∃ k a k' b, x = .int k a ∧ y = .int k' b
  · obtain ⟨k, a, k', b, rfl, rfl⟩ := hint
    rw [ren_int, ren_int]
    simp only [Sem.run_bind, run_eqGuard_other E.P w op t xo yo (.int k a) (.int k' b) (by simp) (by simp), Result.andThen_ok]
    unfold binQ at h
    simp only at h
    split at h
    · exact shOp_sound E.P h t w
    · exact shOp_sound E.P h t w
    · rename_i h1 h2
      split at h
      · rename_i hk; subst hk; exact intOp_sound E.P h (fun e => h1 e) (fun e => h2 e) t w
      · cases h
  · by_cases hstr : ∃ a b, x = .string a ∧ y = .string b
    · obtain ⟨a, b, rfl, rfl⟩ := hstr
      rw [ren_string, ren_string]
      simp only [Sem.run_bind, run_eqGuard_other E.P w op t xo yo (.string a) (.string b) (by simp) (by simp), Result.andThen_ok]
      exact strOp_sound E.P h t w
    · have h' : otherQ E op t x y = some v := by
        rw [← h]
        unfold binQ
        split
        · exact absurd ⟨_, _, _, _, rfl, rfl⟩ hint
        · exact absurd ⟨_, _, rfl, rfl⟩ hstr
        · rfl
      clear h
      unfold otherQ at h'
      split at h'
      · split at h'
        · rename_i b hb
          simp only [Option.some.injEq] at h'
          subst h'
          obtain ⟨m1, m2⟩ := other b hb
          rcases binOp_other E.ty ρ hb with ⟨k, a, k', c, e⟩ | ⟨a, c, e⟩ | ⟨e, _⟩
          · exact absurd ⟨k, a, k', c, e⟩ hint
          · exact absurd ⟨a, c, e⟩ hstr
          · simp [m1, e, m2, closedV]
        · cases h'
      · split at h'
        · rename_i b hb
          simp only [Option.some.injEq] at h'
          subst h'
          obtain ⟨m1, m2⟩ := other b hb
          rcases binOp_other E.ty ρ hb with ⟨k, a, k', c, e⟩ | ⟨a, c, e⟩ | ⟨_, e⟩
          · exact absurd ⟨k, a, k', c, e⟩ hint
          · exact absurd ⟨a, c, e⟩ hstr
          · simp [m1, e, m2, closedV]
        · cases h'
      · cases h'

end
end AH
