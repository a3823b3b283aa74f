/-
  Contracts of a heap's small state in a greater one, in which the heap's blocks are 0 to 6.
-/
import Derived.Test.YtlnlopeodpamdaaLawHTake
import Derived.Test.YtlnlopeodpamdaaAh37
set_option maxRecDepth 100000
set_option linter.unusedVariables false
namespace Go.Proofs.Ytlnlopeodpamdaa.Hx
open Go AH Go.Proofs
noncomputable section

/-- A heap's blocks in a state. -/
def mix (s : HS) (X : St) : St := X |>.set 0 (.cells 83 [.pointer (some ⟨2, 0, none⟩), .int .i64 s.first, .int .i64 s.words, .map (some 1), .map (some 3), s.wv, .int .i64 s.bad]) |>.set 1 (.map s.es s.clock) |>.set 2 (.cells 107 (.slice (some ⟨5, 0, none⟩) (s.n + 1) (capR s.row s.n) :: .slice (some ⟨6, 0, none⟩) (s.n + 1) (capR s.row s.n) :: s.cs)) |>.set 3 (.map s.gs s.gclock) |>.set 4 s.wb |>.set 5 (arrR s.row 89 s.ws) |>.set 6 (arrR s.row 4 s.bs)

theorem hs_mix (s : HS) : hs s = mix s ⟨7, .leaf⟩ := rfl
theorem mix_get (s : HS) (X : St) (i : Nat) : (mix s X).get i = if i < 7 then (hs s).get i else X.get i := by
  rw [hs_get]
  simp only [mix, St.get_set]
  repeat' split
  all_goals first | rfl | omega
theorem mix_next (s : HS) (X : St) : (mix s X).next = X.next := rfl

/-- Numbers that name blocks stand alone. -/
structure HS.Flat (s : HS) : Prop where
  es : s.es.map (renE (loc id)) = s.es
  gs : s.gs.map (renE (loc id)) = s.gs
  wv : AH.ren (loc id) s.wv = s.wv
  wb : renB (loc id) s.wb = s.wb
  cs : s.cs.map (AH.ren (loc id)) = s.cs
  ws : s.ws.map (AH.ren (loc id)) = s.ws
  bs : s.bs.map (AH.ren (loc id)) = s.bs
  n : s.n < unk

theorem flat_get {s : HS} (h : s.Flat) (i : Nat) : renB (loc id) ((hs s).get i) = (hs s).get i := by
  have hn := h.n
  rw [hs_get]
  split
  · exact arrR_ren h.bs
  split
  · exact arrR_ren h.ws
  split
  · exact h.wb
  split
  · rw [renB, h.gs]
  split
  · simp only [renB, List.map_cons, ren_slice, renA, loc, id, h.cs]
    rw [renC_le (capR_le _ hn)]
  split
  · rw [renB, h.es]
  split
  · simp only [renB, List.map_cons, List.map_nil, ren_ptr, ren_int, ren_map, renA, loc, id, h.wv]
  · rfl

theorem mix_small {s : HS} (h0 : s.Ok) (f0 : s.Flat) {X : St} (hX : 7 ≤ X.next) : Small id (hs s) (mix s X) := by
  refine ⟨fun i hi => ?_, fun i j _ _ e => e, fun i hi => ?_, fun i => hs_sc h0 i _ (Nat.le_refl _), fun i hi => hs_live hi⟩
  · have hi' : i < 7 := hi
    show i < X.next
    omega
  · show (mix s X).get i = _
    rw [mix_get, if_pos (hs_live hi), flat_get f0]

theorem exN_id {n : Nat} {i : Nat} (h : i < 7) : exN id 7 n i = i := exN_lt h

/-- What is said of a heap alone holds where there is more. -/
theorem lift {K : FuncId} {args : List Value} {v : Value} {s s' : HS} {X : St} (h0 : s.Ok) (f0 : s.Flat) (h1 : s'.Ok) (f1 : s'.Flat) (hX : 7 ≤ X.next) (ha : Scs 7 args) (har : args.map (AH.ren (loc id)) = args) (hv : ∀ ρ, AH.ren ρ v = v)
    (hwb : s'.wb = s.wb ∨ s.wb.live = true) (h : WF M.toEnv K args (hs s) (fun r σ' => r = v ∧ σ' = hs s')) : WF M.toEnv K args (mix s X) (fun r σ' => r = v ∧ σ' = mix s' X) := by
  refine WF.know h.1 fun hout hsc => ?_
  have hs := mix_small h0 f0 hX
  rw [← har]
  refine WF.frame hs ha h fun r σ₀' _ ⟨e1, e2⟩ => ?_
  subst e1; subst e2
  refine ⟨mix s' X, ⟨rfl, fun i hi _ => ?_, fun j hj hno => ?_, fun j hj => ?_⟩, hv _, rfl⟩
  · have hi' : i < 7 := hi
    show (mix s' X).get (exN id 7 X.next i) = renB (loc (exN id 7 X.next)) _
    rw [exN_id hi', mix_get, if_pos hi', renB_exN (hs_sc h1 i 7 (Nat.le_refl _)), flat_get f1]
  · rw [mix_get, mix_get]
    split
    · rename_i hj7
      by_cases hj4 : j = 4
      · subst hj4
        rcases hwb with e | e
        · rw [hs_get, hs_get]
          show s'.wb = s.wb
          exact e
        · exact absurd rfl (hno 4 (by rw [hs_get]; exact e))
      · exfalso
        refine hno j ?_ rfl
        rw [hs_get]
        repeat' split
        all_goals first | rfl | exact arrR_live _ _ _ | omega
    · rfl
  · have := hout j
    cases hl : ((mix s' X).get j).live with
    | false => rfl
    | true =>
      have hj' : X.next ≤ j := hj
      rw [mix_get, if_neg (by omega)] at hl this
      exact absurd (this hl) (by show ¬ j < X.next; omega)

/-- The same, where a block is made. -/
theorem liftP {K : FuncId} {args : List Value} {v v' : Value} {s s' : HS} {b : Blk} {X : St} (h0 : s.Ok) (f0 : s.Flat) (h1 : s'.Ok) (f1 : s'.Flat) (hX : 7 ≤ X.next) (ha : Scs 7 args) (har : args.map (AH.ren (loc id)) = args) (hv : AH.ren (loc (exN id 7 X.next)) v = v') (hb : ∀ ρ, renB ρ b = b)
    (hwb : s'.wb = s.wb ∨ s.wb.live = true) (h : WF M.toEnv K args (hs s) (fun r σ' => r = v ∧ σ' = (hs s').push b)) : WF M.toEnv K args (mix s X) (fun r σ' => r = v' ∧ σ' = (mix s' X).push b) := by
  refine WF.know h.1 fun hout hsc => ?_
  have hs := mix_small h0 f0 hX
  rw [← har]
  refine WF.frame hs ha h fun r σ₀' _ ⟨e1, e2⟩ => ?_
  subst e1; subst e2
  refine ⟨(mix s' X).push b, ⟨rfl, fun i hi _ => ?_, fun j hj hno => ?_, fun j hj => ?_⟩, hv, rfl⟩
  · have hi' : i < 8 := hi
    show ((mix s' X).push b).get (exN id 7 X.next i) = renB (loc (exN id 7 X.next)) _
    by_cases h7 : i = 7
    · subst h7
      rw [show exN id 7 X.next 7 = X.next from exN_new, St.get_push, St.get_push]
      show (if X.next = X.next then b else _) = renB _ (if 7 = 7 then b else _)
      rw [if_pos rfl]
      show b = renB _ b
      rw [hb]
    · have hi6 : i < 7 := by omega
      rw [exN_id hi6, St.get_push, St.get_push]
      show (if X.next = i then b else _) = renB _ (if 7 = i then b else _)
      rw [if_neg (by omega), if_neg (by omega), mix_get, if_pos hi6, renB_exN (hs_sc h1 i 7 (Nat.le_refl _)), flat_get f1]
  · have hj' : j < X.next := hj
    rw [St.get_push]
    show (if X.next = j then b else _) = _
    rw [if_neg (by omega), mix_get, mix_get]
    split
    · rename_i hj7
      by_cases hj4 : j = 4
      · subst hj4
        rcases hwb with e | e
        · rw [hs_get, hs_get]
          show s'.wb = s.wb
          exact e
        · exact absurd rfl (hno 4 (by rw [hs_get]; exact e))
      · exfalso
        refine hno j ?_ rfl
        rw [hs_get]
        repeat' split
        all_goals first | rfl | exact arrR_live _ _ _ | omega
    · rfl
  · have := hout j
    have hj' : X.next + 1 ≤ j := hj
    rw [St.get_push]
    show (if X.next = j then b else _).live = false
    rw [if_neg (by omega)]
    cases hl : ((mix s' X).get j).live with
    | false => rfl
    | true =>
      rw [mix_get, if_neg (by omega)] at hl this
      exact absurd (this hl) (by show ¬ j < X.next; omega)
end
end Go.Proofs.Ytlnlopeodpamdaa.Hx
