/-
  BrokerRefuses behind broker.New.
-/
import Derived.Test.YtognbiffhgpoaaaGreatLawXNewR
set_option maxRecDepth 100000
set_option linter.unusedVariables false
namespace Go.Proofs.YtognbiffhgpoaaaGreat.Hx
open Go AH Go.Proofs
noncomputable section

noncomputable def body3 : Code := match Tryz.f3.body with | some c => c | none => .skip
def rest3 : Code := sndC (sndC (sndC body3))
abbrev OV := FuncId → Tmp → Option Value
/-- As evP; some calls are answered ahead of all, and what is said of them is owed. -/
noncomputable def evQ (over : CallP) (orc call : CallF) (ov : OV) (steps : Nat) (n : Nat) : CallP :=
  Nat.rec (motive := fun _ => CallP) (fun _ _ _ _ => none) (fun _ ih g args σ p => match over g args σ p with
    | some r => some r
    | none => match orc g args σ with | some (r, σ') => some (r, σ', p) | none => bodyP M ih call (ov g) steps g args σ p) n
theorem evQ_sound {over : CallP} {orc call : CallF} (hv : CallOkP M over) (ho : CallOk M orc) (hc : CallOk M call) {ov : OV} (steps : Nat) : ∀ n, CallOkP M (evQ over orc call ov steps n)
  | 0 => fun g args σ p r σ' p' h => by simp [evQ] at h
  | n + 1 => fun g args σ p r σ' p' h => by
    have h' : (match over g args σ p with
      | some r => some r
      | none => match orc g args σ with | some (r, σ') => some (r, σ', p) | none => bodyP M (evQ over orc call ov steps n) call (ov g) steps g args σ p) = some (r, σ', p') := h
    split at h'
    · rename_i x hx
      simp only [Option.some.injEq] at h'
      subst h'
      exact hv g args σ p _ _ _ hx
    · split at h'
      · rename_i r₁ σ₁ hr
        simp only [Option.some.injEq, Prod.mk.injEq] at h'
        obtain ⟨rfl, rfl, rfl⟩ := h'
        exact ⟨id, fun _ => ho g args σ _ _ hr⟩
      · exact bodyP_sound (evQ_sound hv ho hc steps n) hc h'

/-- A text's payload is these words. -/
def PayIs (s : ByteArray) (xs : List Int) : Prop := ∀ σ, WF M.toEnv 62 [.string s] σ (fun r σ' => r = .tuple #[.slice (some ⟨σ.next, 0, none⟩) xs.length xs.length, .int .i64 0] ∧ σ' = σ.push (.cells 22 (xs.map (Value.int .u64))))
noncomputable def overP (xs : List Int) : CallP := fun g args σ p => bif Nat.beq g 62 then (match args with
  | [.string s] => some (.tuple #[.slice (some ⟨σ.next, 0, none⟩) xs.length xs.length, .int .i64 0], σ.push (.cells 22 (xs.map (Value.int .u64))), p ∧ PayIs s xs)
  | _ => none) else none
theorem overP_ok (xs : List Int) : CallOkP M (overP xs) := by
  intro g args σ p r σ' p' h
  unfold overP at h
  cases hb : Nat.beq g 62 with
  | false => rw [hb] at h; cases h
  | true =>
    have hg : g = 62 := Nat.eq_of_beq_eq_true hb
    subst hg
    rw [hb] at h
    simp only [cond_true] at h
    split at h
    · simp only [Option.some.injEq, Prod.mk.injEq] at h
      obtain ⟨rfl, rfl, rfl⟩ := h
      exact ⟨fun hp => hp.1, fun hp => hp.2 σ⟩
    · cases h
noncomputable def noOver : CallP := fun _ _ _ _ => none
theorem noOver_ok : CallOkP M noOver := fun _ _ _ _ _ _ _ h => by cases h

noncomputable def tailR (over : CallP) (ov : OV) (t a b c g e p : Int) (s : ByteArray) : Option Prop :=
  okO (runKP M (evQ over orcR evR ov 100000 50) evR (ov 3) Tryz.f3 2000 [.code rest3] (frL [(0, .int .i64 t), (3, .pointer (some ⟨0, 0, none⟩)), (4, .bool false), (5, .pointer (some ⟨81, 0, none⟩)), (6, .int .i64 0)]) (σR a b c g e p s) True)

theorem tailR_VM {over : CallP} (hv : CallOkP M over) {ov : OV} {t a b c g e p : Int} {s : ByteArray} {p' : Prop} (h : tailR over ov t a b c g e p s = some p') (hp : p') :
    VM M 3 Tryz.f3.ntmps [.code rest3] (frL [(0, .int .i64 t), (3, .pointer (some ⟨0, 0, none⟩)), (4, .bool false), (5, .pointer (some ⟨81, 0, none⟩)), (6, .int .i64 0)]) (σR a b c g e p s) (fun r _ => r = .bool true) := by
  unfold tailR okO at h
  split at h
  · rename_i σ' q heq
    simp only [Option.some.injEq] at h
    subst h
    exact ((runKP_sound (evQ_sound hv orcR_ok evR_ok 100000 50) evR_ok Tryz.func3 heq).2 hp).mono fun r σ'' _ e => e.1
  · cases h

theorem vs_cast {nB : Nat} {M : EnvM} {K : FuncId} {nt : Nat} {k : List Item} {f : Fr} {σ σ' : St} {R : Value → St → Prop} (hs : σ = σ') (h : VB nB M K nt k f σ' R) : VB nB M K nt k f σ R := by rw [hs]; exact h

/-- BrokerRefuses is true of these. -/
def Ref (t a b c g e p : Int) (s : ByteArray) : Prop := WF M.toEnv 3 [.int .i64 t, .agg #[.int .i64 a, .int .i64 b, .int .i64 c, .int .u64 g, .int .i64 e, .string s, .int .u64 p]] St.empty (fun r _ => r = .bool true)

theorem ref_tail {over : CallP} (hv : CallOkP M over) {ov : OV} {t a b c g e p : Int} {s : ByteArray} {p' : Prop} (hlen : (s.data.toList.length : Int) ≤ 200) (h : tailR over ov t a b c g e p s = some p') (hp : p') : Ref t a b c g e p s := by
  refine WF.of_VB (fn := Tryz.f3) Tryz.func3 rfl rfl (by show 2 ≤ 149; omega) ?_
  refine VB.seq ?_
  apply VB.region
  case hd => rfl
  apply WL.write
  case hw => rfl
  case hq => exact rfl
  apply WL.quiet
  case hw => rfl
  case hq => exact rfl
  apply WL.nil
  refine VB.seq (VB.seq ?_)
  apply VB.region
  case hd => rfl
  iterate 3
    apply WL.quiet
    case hw => rfl
    case hq => exact rfl
  refine WL.quiet (v := .bool false) rfl (by show some (Value.bool (ltI 200 (s.data.toList.length : Nat))) = _; rw [ltI_eq, decide_eq_false (by omega)]) ?_
  apply WL.nil
  apply VB.cond
  case hc => exact rfl
  refine VB.skip (VB.seq ?_)
  refine vs_cast (σ' := boxR a b c g e p s) (by kernel_rfl) ?_
  apply VB.region
  case hd => rfl
  apply WL.call
  case ho => rfl
  case hw => rfl
  case hc => exact rfl
  refine (ev1_ok _ _ _ _ _ (plainR a b c g e p s)).mono fun r σ' _ ⟨e1, e2⟩ => ?_
  subst e1; subst e2
  apply WL.call
  case ho => rfl
  case hw => rfl
  case hc => exact rfl
  refine (ev1_ok _ _ _ _ _ (newR a b c g e p s)).mono fun r σ' _ ⟨e1, e2⟩ => ?_
  subst e1; subst e2
  iterate 5
    apply WL.quiet
    case hw => rfl
    case hq => exact rfl
  apply WL.nil
  refine VB.trim [(0, .int .i64 t), (3, .pointer (some ⟨0, 0, none⟩)), (4, .bool false), (5, .pointer (some ⟨81, 0, none⟩)), (6, .int .i64 0)] (by
      intro p hp
      simp only [List.mem_cons, List.not_mem_nil, or_false] at hp
      rcases hp with rfl | rfl | rfl | rfl | rfl <;> (dsimp only; exact rfl)) rfl ?_
  exact VB.of_VM (tailR_VM hv h hp)

theorem ref_long {t a b c g e p : Int} {s : ByteArray} (hlen : 200 < (s.data.toList.length : Int)) : Ref t a b c g e p s := by
  have h : okO (bodyO M ev1 (fun t => bif Nat.beq t 13 then some (.bool true) else none) 1000 3 [.int .i64 t, .agg #[.int .i64 a, .int .i64 b, .int .i64 c, .int .u64 g, .int .i64 e, .string s, .int .u64 p]] St.empty) = some (True ∧ some (Value.bool (ltI 200 (s.data.toList.length : Nat))) = some (.bool true)) := by kernel_rfl
  unfold okO at h
  split at h
  · rename_i σ' q heq
    simp only [Option.some.injEq] at h
    subst h
    exact (bodyO_sound ev1_ok heq ⟨trivial, by rw [ltI_eq, decide_eq_true (by omega)]⟩).mono fun r σ'' _ e => e.1
  · cases h

/-- Answers where the thread may be; where the mode may be too. -/
noncomputable def ovT : OV := fun g t => bif Nat.beq g 3 then (bif Nat.beq t 30 || Nat.beq t 33 then some (.bool false) else none) else bif Nat.beq g 10 && Nat.beq t 33 then some (.bool false) else none
noncomputable def ovM : OV := fun g t => bif Nat.beq g 3 then (bif Nat.beq t 52 || Nat.beq t 56 then some (.bool false) else none) else bif Nat.beq g 10 then (bif Nat.beq t 48 then some (.bool false) else none) else bif Nat.beq g 41 && (Nat.beq t 40 || Nat.beq t 44) then some (.bool false) else none
noncomputable def ovTM : OV := fun g t => match ovT g t with | some v => some v | none => ovM g t
noncomputable def ovS : OV := fun g t => bif Nat.beq g 3 && Nat.beq t 77 then some (.bool false) else none
noncomputable def ovG : OV := fun g t => bif Nat.beq g 3 && Nat.beq t 77 then some (.bool true) else ovTM g t
noncomputable def ovL : OV := fun g t => bif Nat.beq g 62 && Nat.beq t 8 then some (.bool true) else ovG g t
noncomputable def ov0 : OV := fun _ _ => none
def lo (x : Int) : Prop := some (Value.bool (ltI x 0)) = some (.bool false)
def hi (x : Int) : Prop := some (Value.bool (ltI 2 x)) = some (.bool false)
def wi (x : Int) : Prop := some (Value.bool (!(leI 0 x && leI x 2))) = some (.bool false)
theorem lo_ok {x : Int} (h : 0 ≤ x ∧ x ≤ 2) : lo x := by unfold lo; rw [ltI_eq, decide_eq_false (by omega)]
theorem hi_ok {x : Int} (h : 0 ≤ x ∧ x ≤ 2) : hi x := by unfold hi; rw [ltI_eq, decide_eq_false (by omega)]
theorem wi_ok {x : Int} (h : 0 ≤ x ∧ x ≤ 2) : wi x := by unfold wi; rw [leI_eq, leI_eq, decide_eq_true h.1, decide_eq_true h.2]; rfl
def sh (s : ByteArray) : Prop := some (Value.bool (ltI 16 (s.data.toList.length : Nat))) = some (.bool false)
def lg (s : ByteArray) : Prop := some (Value.bool (ltI 16 (s.data.toList.length : Nat))) = some (.bool true)
def vl (s : ByteArray) : Prop := some (Value.bool (ltI 56 (s.data.toList.length : Nat))) = some (.bool true)
theorem sh_ok {s : ByteArray} (h : s.data.toList.length ≤ 16) : sh s := by unfold sh; rw [ltI_eq, decide_eq_false (by omega)]
theorem lg_ok {s : ByteArray} (h : 16 < s.data.toList.length) : lg s := by unfold lg; rw [ltI_eq, decide_eq_true (by omega)]
theorem vl_ok {s : ByteArray} (h : 56 < s.data.toList.length) : vl s := by unfold vl; rw [ltI_eq, decide_eq_true (by omega)]
def pT (t : Int) : Prop := ((True ∧ lo t) ∧ hi t) ∧ wi t
theorem pT_ok {t : Int} (h : 0 ≤ t ∧ t ≤ 2) : pT t := ⟨⟨⟨trivial, lo_ok h⟩, hi_ok h⟩, wi_ok h⟩
end
end Go.Proofs.YtognbiffhgpoaaaGreat.Hx
