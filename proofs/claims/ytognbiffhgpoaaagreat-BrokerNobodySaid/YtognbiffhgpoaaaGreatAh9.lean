/-
  AH 9: the quiet operations: all of them.
-/
import Derived.Test.YtognbiffhgpoaaaGreatAh8
set_option linter.unusedSimpArgs false
set_option linter.unusedVariables false
namespace AH
open Go
noncomputable section

theorem opHolds_in (E : Env) {f : Fr} {σ : St} {op : Op} : ∀ x ∈ opHolds E f σ op, x.in σ := by
  intro x hx
  unfold opHolds at hx
  split at hx
  · split at hx
    · split at hx
      · rename_i l hl
        obtain ⟨k, v, h1, rfl⟩ := mem_cellHolds hx
        exact ldCells_get hl h1
      · simp at hx
    · simp at hx
  · split at hx
    · split at hx
      · rename_i hσ; simp only [List.mem_singleton] at hx; subst hx; exact hσ
      · simp at hx
    · simp at hx
  · split at hx
    · split at hx
      · split at hx
        · rename_i hσ; simp only [List.mem_singleton] at hx; subst hx; exact hσ
        · simp at hx
      · simp at hx
    · simp at hx
  · simp at hx

theorem arr_of_toList {α : Type} {a : Array α} {l : List α} (h : a.toList = l) : a = l.toArray := Array.ext' (by simp [h])

theorem mm_sound (P : Program) (ρ : Nat → Loc) (w : World) (mx : Bool) {u v : Value} {r : List Value} (h : foldMM mx u r = some v) {n : Nat} (hs : Sc n u) :
    (((r.map (ren ρ)).foldlM (if mx then Builtin.max2 else Builtin.min2) (ren ρ u) : Sem Value).run P w = .ok (ren ρ v) w) ∧ (∀ m, m = n → Sc m v) := by
  cases r with
  | nil =>
    simp only [foldMM, Option.some.injEq] at h
    subst h
    exact ⟨by simp, fun m e => e ▸ hs⟩
  | cons y r =>
    have hu : ∃ k z, u = .int k z := by
      unfold foldMM at h
      split at h
      · rename_i e; cases e
      · exact ⟨_, _, rfl⟩
      · cases h
    obtain ⟨_, h2⟩ := foldMM_sound P w mx h
    obtain ⟨h3, ⟨k, z, rfl⟩, h5⟩ := h2 hu
    obtain ⟨k', z', rfl⟩ := hu
    have e : (y :: r).map (ren ρ) = y :: r := by
      refine (List.map_congr_left fun x hx => ?_).trans (List.map_id' _)
      obtain ⟨k, z, rfl⟩ := h5 x hx
      simp
    rw [e, ren_int, ren_int]
    exact ⟨h3, fun m _ => by simp⟩

theorem run_v {P : Program} {s : Sem Value} {v : Value} {w : World} (h : s.run P w = .ok v w) : ((do pure (.value (← s)) : Sem Next)).run P w = .ok (.value v) w := by
  simp [h]

set_option maxHeartbeats 800000 in
theorem nilAhead_of {P : Program} {t : Nat} {name : String} (h : mthB P t name = true) (v : Value) (w : World) : (nilAhead (P.types.size + Made.depth) t v name).run P w = .ok (some false) w := by
  unfold mthB at h
  split at h
  · rename_i info hi
    split at h
    · rename_i m hm
      split at h
      · rename_i f hp hf
        have hti : (typeInfo t).run P w = .ok info w := by simp [typeInfo, hi]
        show (nilAhead (P.types.size + 99 + 1) t v name).run P w = _
        generalize P.types.size + 99 = N
        simp only [nilAhead, Sem.run_bind, hti, Result.andThen_ok, hm, hp, followBlind, Sem.run_pure, hf]
      · cases h
    · cases h
  · cases h

theorem opQ_sound (E : Env) {ρ : Nat → Loc} {σ : St} {w₀ : World} (hR : Rel ρ σ w₀) {f : Fr} {a : Act} (hF : FrRel ρ f σ.next a) (o : Oper) {v : Value} (h : opQ E f σ o.op = some v) (w : World) (hH : ∀ x ∈ opHolds E f σ o.op, x.at ρ w) :
    (execOp a.eval o).run E.P w = .ok (.value (ren ρ v)) w ∧ Sc σ.next v := by
  obtain ⟨dst, op, type, pos, after, guard⟩ := o
  dsimp only at h hH
  cases op with
  | move x => obtain ⟨h1, h2⟩ := opd_sound hF h; exact ⟨by simp [execOp, h1], h2⟩
  | assign x => obtain ⟨h1, h2⟩ := opd_sound hF h; exact ⟨by simp [execOp, h1], h2⟩
  | pick c x y =>
    simp only [opQ] at h
    split at h
    · rename_i t hc
      obtain ⟨h1, _⟩ := opd_sound hF hc
      cases t with
      | true => simp only [cond_true] at h; obtain ⟨h3, h4⟩ := opd_sound hF h; exact ⟨by simp [execOp, h1, h3, asBool], h4⟩
      | false => simp only [cond_false] at h; obtain ⟨h3, h4⟩ := opd_sound hF h; exact ⟨by simp [execOp, h1, h3, asBool], h4⟩
    · cases h
  | load t x =>
    simp only [opQ] at h
    split at h
    · rename_i ad i hx ht
      obtain ⟨h1, h2⟩ := opd_sound hF hx
      have hl : ∃ l, ldCells σ ad (bif i.agg then i.size else 1) = some l := by
        unfold ldVar at h
        cases hA : i.agg with
        | true => simp only [hA, cond_true] at h ⊢; split at h; exact ⟨_, ‹_›⟩; cases h
        | false => simp only [hA, cond_false] at h ⊢; split at h; exact ⟨_, ‹_›⟩; cases h
      obtain ⟨l, hl⟩ := hl
      have hsc := ldCells_sc hR hl
      have hrun := run_ldVar E (ρ := ρ) (w := w₀) ht h hl (w₂ := w) (by simpa only [opHolds, hx, ht, hl] using hH)
      refine ⟨?_, ?_⟩
      · simp only [execOp, h1, ren_ptr]
        exact run_v (by simp [Instr.loadAt, Instr.sureAddr, hrun])
      · unfold ldVar at h
        cases hA : i.agg with
        | true =>
          simp only [hA, cond_true] at h hl
          rw [hl] at h
          simp only [Option.some.injEq] at h; subst h
          exact Sc_agg.2 (by simpa using hsc)
        | false =>
          simp only [hA, cond_false] at h hl
          rw [hl] at h
          split at h
          · rename_i u e
            simp only [Option.some.injEq] at h e; subst h; subst e
            exact hsc _ (by simp)
          · cases h
    · cases h
  | nilCheck x =>
    simp only [opQ] at h
    split at h
    · rename_i ad hx
      simp only [Option.some.injEq] at h; subst h
      obtain ⟨h1, h2⟩ := opd_sound hF hx
      exact ⟨by simp [execOp, h1], h2⟩
    · rename_i t u hx
      simp only [Option.some.injEq] at h; subst h
      obtain ⟨h1, h2⟩ := opd_sound hF hx
      exact ⟨by simp [execOp, h1], h2⟩
    · rename_i g x1 x2 hx
      simp only [Option.some.injEq] at h; subst h
      obtain ⟨h1, h2⟩ := opd_sound hF hx
      exact ⟨by simp [execOp, h1], h2⟩
    · rename_i name x1 x2 hx
      split at h
      · rename_i t u hl
        cases hb : mthB E.P t name with
        | false => rw [hb] at h; cases h
        | true =>
          rw [hb] at h
          simp only [cond_true, Option.some.injEq] at h; subst h
          obtain ⟨h1, h2⟩ := opd_sound hF hx
          refine ⟨?_, h2⟩
          have hfirst : (x1.map (ren ρ))[0]? = some (.iface t (ren ρ u)) := by
            have : x1[0]? = some (.iface t u) := by
              rw [← Array.getElem?_toList, hl]; rfl
            simp [Array.getElem?_map, this]
          have hna := nilAhead_of hb (ren ρ u) w
          simp only [execOp, h1, ren_func, renFn, hfirst]
          simp [Sem.run_bind, hna]
      · cases h
    · cases h
  | binOp op t x y yt =>
    simp only [opQ] at h
    split at h
    · rename_i u1 u2 hx hy
      obtain ⟨h1, _⟩ := opd_sound hF hx
      obtain ⟨h2, _⟩ := opd_sound hF hy
      obtain ⟨h3, h4⟩ := binQ_sound E ρ h x y w
      refine ⟨?_, closedV_Sc h4 _⟩
      simp only [execOp, h1, h2, closedV_ren 4 v h4 ρ]
      exact run_v h3
    · cases h
  | unOp op t x =>
    simp only [opQ] at h
    split at h
    · rename_i u1 hx
      obtain ⟨h1, _⟩ := opd_sound hF hx
      obtain ⟨h3, h4⟩ := unQ_sound E.P ρ h w
      refine ⟨?_, closedV_Sc h4 _⟩
      simp only [execOp, h1, closedV_ren 4 v h4 ρ]
      exact run_v h3
    · cases h
  | convert s d x =>
    simp only [opQ] at h
    split at h
    · rename_i u1 hx
      obtain ⟨h1, _⟩ := opd_sound hF hx
      obtain ⟨h3, h4⟩ := convQ_sound E ρ h w
      refine ⟨?_, closedV_Sc h4 _⟩
      simp only [execOp, h1, closedV_ren 4 v h4 ρ]
      exact run_v h3
    · cases h
  | makeInterface t x =>
    simp only [opQ] at h
    split at h
    · rename_i u i hx ht
      obtain ⟨h1, h2⟩ := opd_sound hF hx
      cases hi : i.iface with
      | true => simp [hi] at h
      | false =>
        simp only [hi, cond_false, Option.some.injEq] at h; subst h
        refine ⟨?_, Sc_iface.2 h2⟩
        simp only [execOp, h1, ren_iface]
        refine run_v ?_
        simp only [Instr.makeInterface, Sem.run_bind, run_und E ht, Result.andThen_ok]
        unfold TyI.iface at hi
        split
        · rename_i hd; simp [hd] at hi
        · simp
    · cases h
  | makeFunc fn first cap =>
    simp only [opQ] at h
    split at h
    · rename_i l1 l2 hx hy
      split at h
      · rename_i g
        simp only [Option.some.injEq] at h; subst h
        obtain ⟨h1, h2⟩ := opds_sound hF hx
        obtain ⟨h3, h4⟩ := opds_sound hF hy
        refine ⟨?_, Sc_func.2 ⟨trivial, by simpa using h2, by simpa using h4⟩⟩
        have e1 : first.map a.eval = (l1.map (ren ρ)).toArray := Array.ext' (by simpa using h1)
        have e2 : cap.map a.eval = (l2.map (ren ρ)).toArray := Array.ext' (by simpa using h3)
        simp [execOp, Instr.makeFunc, e1, e2]
      · rename_i name
        simp only [Option.some.injEq] at h; subst h
        obtain ⟨h1, h2⟩ := opds_sound hF hx
        obtain ⟨h3, h4⟩ := opds_sound hF hy
        refine ⟨?_, Sc_func.2 ⟨trivial, by simpa using h2, by simpa using h4⟩⟩
        have e1 : first.map a.eval = (l1.map (ren ρ)).toArray := Array.ext' (by simpa using h1)
        have e2 : cap.map a.eval = (l2.map (ren ρ)).toArray := Array.ext' (by simpa using h3)
        simp [execOp, Instr.makeFunc, e1, e2, renFn]
      · cases h
    · cases h
  | slice t x lo hi mx =>
    simp only [opQ] at h
    split at h
    · rename_i u l hh m hx hlo hhi hmx
      obtain ⟨h1, h2⟩ := opd_sound hF hx
      obtain ⟨h3, _⟩ := opdO_sound hF hlo
      obtain ⟨h4, _⟩ := opdO_sound hF hhi
      obtain ⟨h5, _⟩ := opdO_sound hF hmx
      obtain ⟨h6, h7⟩ := sliceQ_sound E hR h h2 w
      refine ⟨?_, h7⟩
      simp only [execOp, h1, h3, h4, h5]
      exact run_v h6
    · cases h
  | fieldAddr s x k =>
    simp only [opQ] at h
    split at h
    · rename_i u hx
      obtain ⟨h1, h2⟩ := opd_sound hF hx
      obtain ⟨h3, h4⟩ := fieldQ_sound E ρ h h2 w
      refine ⟨?_, h4⟩
      simp only [execOp, h1]
      exact run_v h3
    · cases h
  | field s x k =>
    simp only [opQ] at h
    split at h
    · rename_i u hx
      obtain ⟨h1, h2⟩ := opd_sound hF hx
      obtain ⟨h3, h4⟩ := fieldV_sound E ρ h h2 w
      refine ⟨?_, h4⟩
      simp only [execOp, h1]
      exact run_v h3
    · cases h
  | indexAddr t x i =>
    simp only [opQ] at h
    split at h
    · rename_i u k hx hi
      obtain ⟨h1, h2⟩ := opd_sound hF hx
      obtain ⟨h5, _⟩ := opd_sound hF hi
      obtain ⟨h3, h4⟩ := indexAddrQ_sound E ρ h h2 w
      refine ⟨?_, h4⟩
      simp only [execOp, h1, h5]
      exact run_v h3
    · cases h
  | sliceToArrayPointer t x =>
    simp only [opQ] at h
    split at h
    · rename_i u hx
      obtain ⟨h1, h2⟩ := opd_sound hF hx
      obtain ⟨h3, h4⟩ := arrQ_sound E ρ h h2 w
      refine ⟨?_, h4⟩
      simp only [execOp, h1]
      exact run_v h3
    · cases h
  | index t x i =>
    simp only [opQ] at h
    split at h
    · rename_i u k hx hi
      obtain ⟨h1, h2⟩ := opd_sound hF hx
      obtain ⟨h5, _⟩ := opd_sound hF hi
      obtain ⟨h3, h4⟩ := indexQ_sound E ρ h h2 w
      refine ⟨?_, h4⟩
      simp only [execOp, h1, h5]
      exact run_v h3
    · cases h
  | lookup t x k ok =>
    simp only [opQ] at h
    split at h
    · rename_i u kv hx hk
      obtain ⟨h1, h2⟩ := opd_sound hF hx
      obtain ⟨h5, _⟩ := opd_sound hF hk
      obtain ⟨h3, h4⟩ := lookupQ_sound E hR h h2 w (fun r es c e hσ => by
        subst e
        exact hH (.map r es c) (by simp [opHolds, hx, hσ]))
      refine ⟨?_, h4⟩
      simp only [execOp, h1, h5]
      exact run_v h3
    · cases h
  | typeAssert x xt at_ ok =>
    simp only [opQ] at h
    split at h
    · rename_i t u i hx ht
      split at h
      · rename_i hc
        obtain ⟨hc1, hc2⟩ := hc
        simp only [Option.some.injEq] at h; subst h
        obtain ⟨h1, h2⟩ := opd_sound hF hx
        have hu := Sc_iface.1 h2
        refine ⟨?_, ?_⟩
        · simp only [execOp, h1, ren_iface]
          refine run_v ?_
          simp only [Instr.typeAssert, Sem.run_bind, run_und E ht, Result.andThen_ok]
          cases hd : i.desc <;> first | (simp [TyI.iface, hd] at hc1; done) | (cases ok <;> simp [hc2])
        · cases ok
          · exact hu
          · exact Sc_tuple.2 (by intro u' hu'; simp at hu'; rcases hu' with rfl | rfl; exact hu; simp)
      · cases h
    · cases h
  | extract x i =>
    simp only [opQ] at h
    split at h
    · rename_i vs hx
      obtain ⟨h1, h2⟩ := opd_sound hF hx
      refine ⟨?_, Sc_tuple.1 h2 v (List.mem_of_getElem? h)⟩
      simp only [execOp, h1, ren_tuple]
      refine run_v ?_
      have h3 : vs[i]? = some v := by rw [← h]; simp
      simp [Instr.extract, h3]
    · cases h
  | build t parts =>
    simp only [opQ] at h
    split at h
    · rename_i ps hps
      obtain ⟨h1, h2⟩ := partsQ_sound hF hps
      obtain ⟨h3, h4⟩ := buildQ_sound E ρ h h2 w
      refine ⟨?_, h4⟩
      have e1 : (parts.map fun (p : Nat × Operand) => (p.1, a.eval p.2)) = (ps.map fun p => (p.1, ren ρ p.2)).toArray := Array.ext' (by simpa using h1)
      simp only [execOp]
      refine run_v ?_
      rw [← h3, ← e1]
    · cases h
  | call c =>
    obtain ⟨callee, args, argTypes⟩ := c
    cases callee with
    | value g => simp [opQ] at h
    | invoke r m => simp [opQ] at h
    | builtin b =>
      cases b <;> simp only [opQ, reduceCtorEq] at h
      case len =>
        split at h
        · rename_i x t hx ht
          split at h
          · rename_i u hu
            have ea := arr_of_toList hx
            have et := arr_of_toList ht
            subst ea; subst et
            obtain ⟨h1, _⟩ := opd_sound hF hu
            obtain ⟨h3, h4⟩ := lenQ_sound E (ρ := ρ) h type w (fun r es c e hσ => by
              subst e
              exact hH (.map r es c) (by simp [opHolds, hu, hσ]))
            refine ⟨?_, closedV_Sc h4 _⟩
            have h1' : a.eval x = ren ρ u := h1
            simp [execOp, resolve, invoke, builtin, h1', h3, closedV_ren 4 v h4 ρ]
          · cases h
        · cases h
      case min =>
        split at h
        · rename_i u r hx
          obtain ⟨h1, h2⟩ := opds_sound hF hx
          obtain ⟨h3, h4⟩ := mm_sound E.P ρ w false h (h2 u (by simp))
          refine ⟨?_, h4 _ rfl⟩
          have e1 : args.map a.eval = ((u :: r).map (ren ρ)).toArray := Array.ext' (by simpa using h1)
          simp only [execOp, resolve, invoke, builtin, e1]
          simp only [Sem.run_bind, Sem.run_pure, Result.andThen_ok, Builtin.min_, List.map_cons]
          simp only [Bool.false_eq_true, if_false] at h3
          simp only [h3, Result.andThen_ok]
        · cases h
      case max =>
        split at h
        · rename_i u r hx
          obtain ⟨h1, h2⟩ := opds_sound hF hx
          obtain ⟨h3, h4⟩ := mm_sound E.P ρ w true h (h2 u (by simp))
          refine ⟨?_, h4 _ rfl⟩
          have e1 : args.map a.eval = ((u :: r).map (ren ρ)).toArray := Array.ext' (by simpa using h1)
          simp only [execOp, resolve, invoke, builtin, e1]
          simp only [Sem.run_bind, Sem.run_pure, Result.andThen_ok, Builtin.max_, List.map_cons]
          simp only [if_true] at h3
          simp only [h3, Result.andThen_ok]
        · cases h
  | _ => simp [opQ] at h

end
end AH
