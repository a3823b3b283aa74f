/-
  AH 5: the quiet operations, one by one.
-/
import Derived.Test.YtognbiffhgpoaaaGreatAh4
import Derived.Laws.StructEq
set_option linter.unusedSimpArgs false
set_option linter.unusedVariables false
namespace AH
open Go
noncomputable section

theorem run_part (E : Env) {t : Nat} {i : TyI} (ht : E.ty t = some i) {ρ : Nat → Loc} {cs : List Value} {off : Nat} {v : Value} (h : partQ i cs off = some v) (w : World) :
    (part t (cs.map (ren ρ)).toArray off).run E.P w = .ok (ren ρ v) w := by
  simp only [part, Sem.run_bind, run_agg E ht, Result.andThen_ok]
  unfold partQ at h
  cases hA : i.agg with
  | true =>
    simp only [hA, cond_true] at h
    cases hb : Nat.ble (off + i.size) cs.length with
    | false => simp [hb] at h
    | true =>
      simp only [hb, cond_true, Option.some.injEq] at h
      subst h
      simp only [if_true, Sem.run_bind, run_sz E ht, Result.andThen_ok, Sem.run_pure, ren_agg, List.map_toArray, List.extract_toArray]
      congr 3
      simp [List.extract, List.map_take, List.map_drop]
  | false =>
    simp only [hA, cond_false] at h
    simp [h]

theorem partQ_sc {n : Nat} {i : TyI} {cs : List Value} {off : Nat} {v : Value} (h : partQ i cs off = some v) (hs : Scs n cs) : Sc n v := by
  unfold partQ at h
  cases hA : i.agg with
  | true =>
    simp only [hA, cond_true] at h
    cases hb : Nat.ble (off + i.size) cs.length with
    | false => simp [hb] at h
    | true =>
      simp only [hb, cond_true, Option.some.injEq] at h
      subst h
      exact Sc_agg.2 fun v hv => hs v (List.mem_of_mem_drop (List.mem_of_mem_take (by simpa using hv)))
  | false =>
    simp only [hA, cond_false] at h
    exact hs v (List.mem_of_getElem? h)

theorem toList_eq (s : ByteArray) : s.toList = s.data.toList := by rw [ByteArray.toList_eq]

/-- The loop over an array's places, written out. -/
def eqElems (d : Nat) (e : TypeId) (sz : Nat) (xs ys : Array Value) : Nat → Nat → Sem Bool
  | _, 0 => pure true
  | k, m + 1 => do
    let a ← part e xs (k * sz)
    let b ← part e ys (k * sz)
    let r ← Op.equalIn d e a b
    if (!r) = true then pure false else eqElems d e sz xs ys (k + 1) m

theorem run_equalIn_array {P : Program} (w : World) (d : Nat) (t e len : Nat) (xs ys : Array Value) (sz : Nat) (ht : P.underlying t = some (.array len e)) (hs : ∀ w, (Go.sizeOf e).run P w = .ok sz w) :
    (Op.equalIn (d + 1) t (.agg xs) (.agg ys)).run P w = (eqElems d e sz xs ys 0 len).run P w := by
  simp only [Op.equalIn, Sem.run_bind, run_underlying ht, Result.andThen_ok, hs]
  rw [Std.Legacy.Range.forIn_eq_forIn_range']
  simp only [Std.Legacy.Range.size, Nat.sub_zero, Nat.add_sub_cancel, Nat.div_one]
  have key : ∀ (m k : Nat) (w : World), ((forIn (List.range' k m) ((none, ()) : Option Bool × Unit) (fun i r => do
        let a ← part e xs (i * sz)
        let b ← part e ys (i * sz)
        let q ← Op.equalIn d e a b
        if (!q) = true then pure (ForInStep.done (some false, ())) else pure (ForInStep.yield (none, ()))) : Sem _).run P w).andThen (fun r w' => (match r.1 with
          | some a => pure a
          | none => pure true : Sem Bool).run P w') = (eqElems d e sz xs ys k m).run P w := by
    intro m
    induction m with
    | zero => intro k w; simp [eqElems]
    | succ m ih =>
      intro k w
      simp only [List.range'_succ, List.forIn_cons, eqElems, Sem.run_bind]
      generalize (part e xs (k * sz)).run P w = r1
      cases r1 with
      | halt x w1 => simp [Result.andThen]
      | ok a w1 =>
        simp only [Result.andThen_ok]
        generalize (part e ys (k * sz)).run P w1 = r2
        cases r2 with
        | halt x w2 => simp [Result.andThen]
        | ok b w2 =>
          simp only [Result.andThen_ok]
          generalize (Op.equalIn d e a b).run P w2 = r3
          cases r3 with
          | halt x w3 => simp [Result.andThen]
          | ok q w3 =>
            cases q
            · simp
            · simp only [Result.andThen_ok, Bool.not_true, Bool.false_eq_true, if_false, Sem.run_pure]
              exact ih (k + 1) w3
  refine Eq.trans ?_ (key len 0 w)
  congr 1
  funext r w'
  obtain ⟨r1, r2⟩ := r
  cases r1 <;> rfl


theorem eqOk_of {E : Env} {t : Nat} {i : TyI} (ht : E.ty t = some i) {b : Bool} (h : (bif i.eqok then some b else none : Option Bool).isSome = true) : i.eqok = true := by
  cases hq : i.eqok <;> simp_all

theorem equalIn_sound (E : Env) (ρ : Nat → Loc) : ∀ (n : Nat) (t : Nat) (x y : Value) (b : Bool), eqQ E.ty n t x y = some b → ∀ (d : Nat) (w : World), (Op.equalIn (n + d) t (ren ρ x) (ren ρ y)).run E.P w = .ok b w := by
  intro n
  induction n with
  | zero => intro t x y b h; simp [eqQ] at h
  | succ n ih =>
    intro t x y b h d w
    rw [show n + 1 + d = (n + d) + 1 by omega]
    unfold eqQ at h
    cases ht : E.ty t with
    | none => simp [ht] at h
    | some i =>
      simp only [ht] at h
      have hu := run_und E ht
      have hd := und_eq E ht
      split at h
      case h_1 a c hdesc => simp only [Option.some.injEq] at h; subst h; simp [Op.equalIn, hu, hdesc]
      case h_2 k0 k a k' c hdesc =>
        split at h
        · simp only [Option.some.injEq] at h; subst h; simp_all [Op.equalIn]
        · cases h
      case h_3 a c hdesc => simp only [Option.some.injEq] at h; subst h; simp [Op.equalIn, hu, hdesc, beq_toListBytes, toList_eq]
      case h_4 e bb hdesc => simp only [Option.some.injEq] at h; subst h; cases bb <;> simp [Op.equalIn, hu, hdesc]
      case h_5 e a hdesc => simp only [Option.some.injEq] at h; subst h; simp [Op.equalIn, hu, hdesc]
      case h_6 e a c hdesc =>
        split at h
        · rename_i j hj
          split at h
          · rename_i hc
            simp only [Option.some.injEq] at h; subst h
            have hblk : (renA ρ a).block = (renA ρ c).block := by simp [renA, hc.2]
            have hdec : (renA ρ a == renA ρ c) = (a == c) := by
              rw [Bool.eq_iff_iff]
              simp only [beq_iff_eq]
              constructor
              · intro e'
                cases a; cases c
                simp only [renA, Addr.mk.injEq] at e' hc ⊢
                refine ⟨hc.2, ?_, e'.2.2⟩
                have := e'.2.1
                rw [hc.2] at this
                omega
              · intro e'; rw [e']
            simp [Op.equalIn, hu, hdesc, run_sz E hj, hc.1, sameAddr, hblk, hdec]
          · cases h
        · cases h
      case h_7 m t' v hdesc => simp only [Option.some.injEq] at h; subst h; simp [Op.equalIn, hu, hdesc]
      case h_8 m t' v hdesc => simp only [Option.some.injEq] at h; subst h; simp [Op.equalIn, hu, hdesc]
      case h_9 e l c bb l' c' hdesc => simp only [Option.some.injEq] at h; subst h; cases bb <;> simp [Op.equalIn, hu, hdesc]
      case h_10 e a l c l' c' hdesc => simp only [Option.some.injEq] at h; subst h; simp [Op.equalIn, hu, hdesc]
      case h_11 k e bb hdesc => simp only [Option.some.injEq] at h; subst h; cases bb <;> simp [Op.equalIn, hu, hdesc]
      case h_12 k e a hdesc => simp only [Option.some.injEq] at h; subst h; simp [Op.equalIn, hu, hdesc]
      case h_13 hdesc => simp only [Option.some.injEq] at h; subst h; simp [Op.equalIn, hu, hdesc]
      case h_14 hdesc => simp only [Option.some.injEq] at h; subst h; simp [Op.equalIn, hu, hdesc]
      case h_15 hdesc => simp only [Option.some.injEq] at h; subst h; simp [Op.equalIn, hu, hdesc]
      case h_16 fs xs ys hdesc =>
        cases hq : i.eqok with
        | false => simp [hq] at h
        | true =>
          simp only [hq, cond_true] at h
          have hst := (E.eqOk t i ht hq).1
          simp only [ren_agg]
          have hf : E.P.fieldsOf t = fs := by simp [Program.fieldsOf, hd, hdesc]
          rw [run_equalIn_struct w (n + d) t _ _ (by rw [hd, hdesc, hf]) hst, hf]
          clear hf hdesc
          revert h
          generalize fs.toList = l
          induction l with
          | nil => intro h; simp only [eqQ.fieldsQ, Option.some.injEq] at h; subst h; simp [Op.eqFields]
          | cons f r ihr =>
            intro h
            simp only [eqQ.fieldsQ] at h
            split at h
            · rename_i hn
              simp only [Op.eqFields, hn, ne_eq, not_true_eq_false, if_false]
              exact ihr h
            · rename_i hn
              cases hft : E.ty f.type with
              | none => simp [hft] at h
              | some j =>
                simp only [hft] at h
                split at h
                · rename_i va vb hva hvb
                  have h1 := run_part E hft (ρ := ρ) hva
                  have h2 := run_part E hft (ρ := ρ) hvb
                  simp only [Array.toList_map, ← List.map_toArray, Array.toArray_toList] at h1 h2
                  cases hab : eqQ E.ty n f.type va vb with
                  | none => simp [hab] at h
                  | some r' =>
                    simp only [hab] at h
                    have h3 := ih f.type va vb r' hab d w
                    cases r' with
                    | true =>
                      simp only [Op.eqFields, ne_eq, hn, not_false_eq_true, if_true, Sem.run_bind, h1, h2, h3, Result.andThen_ok, Bool.not_true, Bool.false_eq_true, if_false]
                      exact ihr h
                    | false =>
                      simp only [Option.some.injEq] at h
                      subst h
                      simp only [Op.eqFields, ne_eq, hn, not_false_eq_true, if_true, Sem.run_bind, h1, h2, h3, Result.andThen_ok, Bool.not_false, Sem.run_pure]
                · cases h
      case h_17 len e xs ys hdesc =>
        cases hq : i.eqok with
        | false => simp [hq] at h
        | true =>
          simp only [hq, cond_true] at h
          cases hj : E.ty e with
          | none => simp [hj] at h
          | some j =>
            simp only [hj] at h
            simp only [ren_agg]
            rw [run_equalIn_array w (n + d) t e len _ _ j.size (by rw [hd, hdesc]) (run_sz E hj)]
            have key : ∀ (m k : Nat) (b : Bool), eqQ.elemsQ (eqQ E.ty n e) j xs.toList ys.toList k m = some b → (eqElems (n + d) e j.size (xs.map (ren ρ)) (ys.map (ren ρ)) k m).run E.P w = .ok b w := by
              intro m
              induction m with
              | zero => intro k b h; simp only [eqQ.elemsQ, Option.some.injEq] at h; subst h; simp [eqElems]
              | succ m ihm =>
                intro k b h
                simp only [eqQ.elemsQ] at h
                split at h
                · rename_i va vb hva hvb
                  have h1 := run_part E hj (ρ := ρ) hva
                  have h2 := run_part E hj (ρ := ρ) hvb
                  simp only [Array.toList_map, ← List.map_toArray, Array.toArray_toList] at h1 h2
                  cases hab : eqQ E.ty n e va vb with
                  | none => simp [hab] at h
                  | some r' =>
                    simp only [hab] at h
                    have h3 := ih e va vb r' hab d w
                    cases r' with
                    | true =>
                      simp only [eqElems, Sem.run_bind, h1, h2, h3, Result.andThen_ok, Bool.not_true, Bool.false_eq_true, if_false]
                      exact ihm (k + 1) b h
                    | false =>
                      simp only [Option.some.injEq] at h
                      subst h
                      simp only [eqElems, Sem.run_bind, h1, h2, h3, Result.andThen_ok, Bool.not_false, if_true, Sem.run_pure]
                · cases h
            exact key len 0 b h
      case h_18 => cases h

end
end AH
