/-
  AH 31: a short frame at a loop's head; what may be taken as known of a state's scope.
-/
import Derived.Test.YtognbiffhgpoaaaGreatAh30
set_option linter.unusedSimpArgs false
set_option linter.unusedVariables false
set_option linter.unusedSectionVars false
namespace AH
open Go
noncomputable section

def frL : List (Nat × Value) → Fr
  | [] => Fr.nil
  | (t, v) :: r => (frL r).set t v

theorem frL_mem : ∀ {l : List (Nat × Value)} {t : Nat} {v : Value}, (frL l).get t = some v → (t, v) ∈ l
  | [], t, v, h => by simp [frL] at h
  | (s, u) :: r, t, v, h => by
    have h' : ((frL r).set s u).get t = some v := h
    rw [Fr.get_set] at h'
    split at h'
    · rename_i e; subst e
      simp only [Option.some.injEq] at h'
      subst h'
      exact List.mem_cons_self ..
    · exact List.mem_cons_of_mem _ (frL_mem h')

theorem frL_df : ∀ l : List (Nat × Value), (frL l).df = []
  | [] => rfl
  | (s, u) :: r => frL_df r

/-- Each name means what it says. -/
structure Wf (f : Fr) (σ : St) : Prop where
  sc : ∀ i, (σ.get i).sc σ.next
  lt : ∀ i, (σ.get i).live = true → i < σ.next
  fr : ∀ t v, f.get t = some v → Sc σ.next v

section
variable {nB : Nat} {M : EnvM} {K : FuncId} {nt : Nat} {k : List Item} {f : Fr} {σ : St} {R : Value → St → Prop}

theorem VB.know (h : Wf f σ → VB nB M K nt k f σ R) : VB nB M K nt k f σ R :=
  fun hb ρ w a cs hR hF hn => h ⟨hR.sc, hR.lt, hF.sc⟩ hb ρ w a cs hR hF hn

theorem VB.trim (l : List (Nat × Value)) (hl : ∀ p ∈ l, f.get p.1 = some p.2) (hd : f.df = []) (h : VB nB M K nt k (frL l) σ R) : VB nB M K nt k f σ R := fun hb ρ w a cs hR hF hn =>
  h hb ρ w a cs hR ⟨fun t v ht => hF.slot t v (hl _ (frL_mem ht)), fun t v ht => hF.sc t v (hl _ (frL_mem ht)), by rw [frL_df, hF.defers, hd], by rw [frL_df]; intro i hi; simp at hi⟩ hn

/-- Back to a short frame and a state without what was made on the way. -/
theorem VB.cut (l : List (Nat × Value)) (σ' : St) (hl : ∀ p ∈ l, f.get p.1 = some p.2) (hd : f.df = []) (hw : Wf (frL l) σ') (hn : nB ≤ σ'.next) (hg : ∀ i, σ'.get i = σ.get i ∨ σ'.get i = .dead)
    (h : VB nB M K nt k (frL l) σ' R) : VB nB M K nt k f σ R :=
  VB.forget hn hg hw.sc hw.lt (fun t v ht => ⟨hl _ (frL_mem ht), hw.fr t v ht⟩) (by rw [frL_df, hd]) (by rw [hd]; intro i hi; simp at hi) h
end

/-- Blocks go by other numbers from here on. -/
theorem VB.renum {nB : Nat} {M : EnvM} {K : FuncId} {nt : Nat} {k : List Item} {f : Fr} {σ : St} {R : Value → St → Prop} {f' : Fr} {σ' : St} (π : Nat → Nat) (hn : nB ≤ σ'.next) (hfix : ∀ i, i < nB → π i = i) (hinj : ∀ i j, (σ'.get i).live = true → (σ'.get j).live = true → π i = π j → i = j)
    (hg : ∀ i, (σ'.get i).live = true → σ.get (π i) = renB (loc π) (σ'.get i)) (hw : Wf f' σ') (hf : ∀ t v, f'.get t = some v → f.get t = some (ren (loc π) v)) (hd : f.df = f'.df.map π) (hdn : ∀ i ∈ f'.df, i < σ'.next)
    (h : VB nB M K nt k f' σ' R) : VB nB M K nt k f σ R := by
  intro hb ρ w a cs hR hF hs
  have hwr : ∀ i, (σ'.get i).wr = true → (σ.get (π i)).wr = true := fun i hi => by rw [hg i (Blk.live_of_wr hi), renB_wr]; exact hi
  have hli : ∀ i, (σ'.get i).live = true → (σ.get (π i)).live = true := fun i hi => by rw [hg i hi, renB_live]; exact hi
  have hR' : Rel (fun i => ρ (π i)) σ' w := by
    refine ⟨fun i => ?_, hw.sc, hw.lt, fun i j hij hi hj => hR.inj (π i) (π j) (fun e => hij (hinj i j (Blk.live_of_wr hi) hj e)) (hwr i hi) (hli j hj)⟩
    cases hl : (σ'.get i).live with
    | true =>
      have := hR.blk (π i)
      rw [hg i hl] at this
      exact BlkRel.comp.1 this
    | false =>
      cases hb : σ'.get i <;> rw [hb] at hl <;> simp only [Blk.live, reduceCtorEq] at hl
      · rename_i cs
        cases cs with
        | nil => exact ⟨fun h => absurd rfl h, fun k v hk => by simp at hk⟩
        | cons c cs => simp [Blk.live] at hl
      · trivial
  have hF' : FrRel (fun i => ρ (π i)) f' σ'.next a := ⟨fun t v ht => by rw [hF.slot t _ (hf t v ht), ren_comp], hw.fr, by rw [hF.defers, hd, List.map_map]; rfl, hdn⟩
  refine (h hn _ w a cs hR' hF' hs).mono fun v w' ⟨r, σ₂, ρ₂, h1, h2, h3⟩ => ⟨r, σ₂, ρ₂, h1, ⟨h2.rel, fun i hi => by rw [h2.ext i hi, hfix i hi], h2.next, h2.size, h2.os, h2.tape, h2.output, fun i hi => ?_, fun b hb hno => ?_, fun i hi => ?_⟩, h3⟩
  · rcases h2.own i hi with ⟨j, hj, e⟩ | hge
    · exact .inl ⟨π j, hwr j hj, e⟩
    · exact .inr hge
  · exact h2.fra b hb fun i hi => hno (π i) (hwr i hi)
  · rcases h2.liv i hi with ⟨j, hj, e⟩ | hge
    · exact .inl ⟨π j, hli j hj, e⟩
    · exact .inr hge

/-- The statement 'for .. := range g { .. }'. -/
theorem VB.rangeFunc {nB : Nat} {M : EnvM} {K : FuncId} {nt : Nat} {k : List Item} {f : Fr} {σ : St} {R : Value → St → Prop} {g : Operand} {ps : Array Tmp} {as bd : Code} {h : FuncId} {first cap : Array Value} (hg : opd f g = some (.func (.func h) first cap))
    (hcall : WF M.toEnv h (first.toList ++ [Value.func (.yield (σ.next + 1)) #[] #[]] ++ cap.toList) ((σ.push .dfr).push (.loop .ready none K nt f.tr ps as bd))
      (fun _ σ' => ∃ st p K' nt' fl ps' as' bd', σ'.get (σ.next + 1) = .loop st p K' nt' fl ps' as' bd' ∧ st ≠ .busy ∧
        VB nB M K nt ((p.map Item.code).toList ++ k) (f.mark σ.next) (σ'.set (σ.next + 1) (.loop .exhausted p K' nt' fl ps' as' bd')) R)) : VB nB M K nt (.code (.rangeFunc g ps as bd) :: k) f σ R := by
  intro hnb ρ w a cs hR hF hn
  -- the two blocks
  have ev1 : Evo ρ σ w (upd ρ σ.next ⟨w.heap.size, 0, 0⟩) (σ.push .dfr) (w.alloc (.deferred (some []))) := Evo.alloc hR (.deferred (some [])) .dfr 0 (Like.refl _) ⟨rfl, get_new w _⟩ trivial
  have hF1 := hF.evo ev1.ext ev1.next
  have ev2 := Evo.alloc ev1.rel (.loop { state := .ready, pending := none, fn := K, tmps := a.tmps, params := ps, assign := as, body := bd, defers := w.heap.size }) (.loop .ready none K nt f.tr ps as bd) 0 (Like.refl _)
    ⟨rfl, a.tmps, w.heap.size, hn, fun t v hv => by
      have h1 := hF1.slot t v hv
      rw [h1]
      congr 1
      exact hF1.sc t v hv _ _ fun i hi => (upd_lt _ _ hi).symm, get_new _ _⟩ (fun t v hv => (hF1.sc t v hv).mono (Nat.le_succ _))
  have ev := ev1.trans ev2
  have hsz1 : (w.alloc (.deferred (some []))).heap.size = w.heap.size + 1 := by simp
  obtain ⟨hge, hgs⟩ := opd_sound hF hg
  obtain ⟨_, hg1, hg2⟩ := Sc_func.1 hgs
  obtain ⟨⟨fn, hfn, hname, hbody⟩, hrun⟩ := hcall
  have hnext : (σ.push .dfr).next = σ.next + 1 := rfl
  have hl2 : (upd (upd ρ σ.next ⟨w.heap.size, 0, 0⟩) (σ.push .dfr).next ⟨(w.alloc (.deferred (some []))).heap.size, 0, 0⟩ (σ.next + 1)).b = w.heap.size + 1 := by rw [hnext, upd_same, hsz1]
  have hsc : Scs ((σ.push .dfr).push (.loop .ready none K nt f.tr ps as bd)).next (first.toList ++ [Value.func (.yield (σ.next + 1)) #[] #[]] ++ cap.toList) := fun v hv => by
    rcases List.mem_append.1 hv with hv | hv
    · rcases List.mem_append.1 hv with hv | hv
      · exact (hg1 v hv).mono (by simp; omega)
      · simp only [List.mem_singleton] at hv; subst hv
        exact Sc_func.2 ⟨by simp [scFn], fun v hv => by simp at hv, fun v hv => by simp at hv⟩
    · exact (hg2 v hv).mono (by simp; omega)
  have hc := hrun _ _ ev.rel hsc
  generalize hρ2 : upd (upd ρ σ.next ⟨w.heap.size, 0, 0⟩) (σ.push .dfr).next ⟨(w.alloc (.deferred (some []))).heap.size, 0, 0⟩ = ρ2 at *
  generalize hw2 : (w.alloc (.deferred (some []))).alloc (.loop { state := .ready, pending := none, fn := K, tmps := a.tmps, params := ps, assign := as, body := bd, defers := w.heap.size }) = w2 at *
  have hargs : ((first.toList ++ [Value.func (.yield (σ.next + 1)) #[] #[]] ++ cap.toList).map (ren ρ2)).toArray = first.map (ren ρ) ++ #[Value.func (.yield (w.heap.size + 1)) #[] #[]] ++ cap.map (ren ρ) := by
    have e1 : first.toList.map (ren ρ2) = first.toList.map (ren ρ) := hg1.map_eq fun i hi => ev.ext i hi
    have e2 : cap.toList.map (ren ρ2) = cap.toList.map (ren ρ) := hg2.map_eq fun i hi => ev.ext i hi
    apply Array.ext'
    simp only [List.map_append, List.map_cons, List.map_nil, e1, e2, ren_func, renFn_yield, hl2]
    simp
  rw [hargs] at hc
  have henter := stepR_rangeFunc (P := M.P) (b := base K) (a := a) (k := k) (cs := cs) (w := w) (g := g) (ps := ps) (assign := as) (body := bd)
    (l := w.heap.size + 1) (mark := [{ target := .collected w.heap.size, args := #[] }]) (w₁ := w2) (w₁' := w2) (w₂ := w2)
    (d := { target := .fn (.func h) (cap.map (ren ρ)), args := first.map (ren ρ) ++ #[Value.func (.yield (w.heap.size + 1)) #[] #[]] }) (f := h) (args := first.map (ren ρ) ++ #[Value.func (.yield (w.heap.size + 1)) #[] #[]] ++ cap.map (ren ρ))
    (by rw [← hw2]; exact run_enterLoop_outer K a.tmps ps as bd) (by
      have ea : (#[Operand.const (.func (.yield (w.heap.size + 1)) #[] #[])] : Array Operand).map a.eval = #[Value.func (.yield (w.heap.size + 1)) #[] #[]] := by simp [Act.eval]
      simp only [resolve, rangeCall, ea, hge, ren_func, renFn_func, Deferred.ofValue, Sem.run_pure])
    (by simp only [invoke, callFunc, Sem.run_bind, run_program, Result.andThen_ok, hfn, hname, hbody, Bool.false_eq_true, if_false, Sem.run_pure])
  obtain ⟨e, w3, fr, ⟨v, he, hlift⟩, hcomes, hfr, hleave⟩ := hc ((base K).atR { a with defers := [{ target := .collected w.heap.size, args := #[] }] ++ a.defers } (.inRangeFunc (w.heap.size + 1) :: k) :: cs)
  subst he
  obtain ⟨r, σ', ρ', q1, q2, q3, st, p, K', nt', fl, ps', as', bd', q4, q5, q6⟩ := hlift
  obtain ⟨rec, r1, r2, r3, r4, r5, r6, r7, r8, r9, hev⟩ := loop_put (st' := .exhausted) (p' := p) q2.rel q4
  have hl3 : (ρ' (σ.next + 1)).b = w.heap.size + 1 := by rw [q2.ext _ (by simp), hl2]
  rw [hl3] at r1 hev
  have hend := run_endLoop (P := M.P) r1 (by rw [r2]; exact q5)
  have hback := stepR_endRangeFunc (P := M.P) (b := base K) (a := { a with defers := [{ target := .collected w.heap.size, args := #[] }] ++ a.defers }) (k := k) (cs := cs) hend
  have hleft := step_leave_returned (c := (base K).atR { a with defers := [{ target := .collected w.heap.size, args := #[] }] ++ a.defers } (.inRangeFunc (w.heap.size + 1) :: k)) (cs := cs) hleave
  rw [finish_atR_inRangeFunc] at hleft
  have e1 : ({ rec with state := .exhausted, pending := p } : Loop) = { rec with state := .exhausted } := by rw [← r3]
  rw [e1] at hev
  have evAll := (ev.trans q2).trans hev
  have hld : ρ' σ.next = ⟨w.heap.size, 0, 0⟩ := by
    rw [q2.ext _ (by simp; omega), ← hρ2, upd_lt _ _ (by simp), upd_same]
  have hFm : FrRel ρ' (f.mark σ.next) (σ'.set (σ.next + 1) (.loop .exhausted p K' nt' fl ps' as' bd')).next { a with defers := [{ target := .collected w.heap.size, args := #[] }] ++ a.defers } := by
    have hF' := hF.evo evAll.ext evAll.next
    refine ⟨hF'.slot, hF'.sc, ?_, fun i hi => ?_⟩
    · show _ ++ a.defers = _
      rw [hF'.defers]
      simp [hld]
    · rcases List.mem_cons.1 hi with rfl | hi
      · have := q2.next; simp at this ⊢; omega
      · exact hF'.dsc i hi
  have hfin := q6 (Nat.le_trans hnb evAll.next) ρ' _ _ cs evAll.rel hFm hn
  have hs0 : Steps M.P (lone ((base K).at a (.code (.rangeFunc g ps as bd) :: k)) cs w) (lone ((base K).at { a with defers := [{ target := .collected w.heap.size, args := #[] }] ++ a.defers } ((p.map Item.code).toList ++ k)) cs (w3.putObj (w.heap.size + 1) (.loop { rec with state := .exhausted }))) := by
    rw [← r3]
    rw [← Frame.atR_of_none (b := base K) rfl, ← Frame.atR_of_none (b := base K) rfl]
    exact (Steps.one henter).trans (Steps.trans hcomes ((Steps.one hleft).trans (Steps.one hback)))
  exact .of_steps hs0 (hfin.mono fun v w₂ => LiftB.evo (evAll.toB hnb))


theorem VB.regionR {nB : Nat} {M : EnvM} {K : FuncId} {nt : Nat} {k : List Item} {f : Fr} {σ : St} {R : Value → St → Prop} {id : Nat} {ops : Array Oper} (hd : ops.toList.all (dstOk nt) = true) (h : WR M none nt ops ops.toList f σ (fun f' σ' => VB nB M K nt k f' σ' R)) : VB nB M K nt (.code (.region id ops false) :: k) f σ R := by
  intro hb ρ w a cs hR hF hn
  have hw := h (List.all_eq_true.1 hd) ρ w a hR hF hn
  obtain ⟨e, a', w', ⟨he, ρ', σ', f', h1, h2, h3, h4⟩, harr⟩ := wpIn_region_list (id := id) hw (base K) k cs rfl trivial (room_FR _ _)
  subst he
  exact .of_steps (stepsIn_FR.1 harr) ((h4 (Nat.le_trans hb h1.next) ρ' w' a' cs h1.rel h2 h3).mono fun v w₂ => LiftB.evo (h1.toB hb))

theorem Wf.push {f f' : Fr} {σ : St} {b b' : Blk} (h : Wf f (σ.push b)) (hb : b'.sc (σ.next + 1)) (hl : ∀ i, (σ.get i).live = true → i < σ.next) (hf : ∀ t v, f'.get t = some v → Sc (σ.next + 1) v) : Wf f' (σ.push b') := by
  refine ⟨fun i => ?_, fun i hi => ?_, hf⟩
  · have := h.sc i
    rw [St.get_push] at this ⊢
    split
    · exact hb
    · rename_i e; rw [if_neg e] at this; exact this
  · rw [St.get_push] at hi
    split at hi
    · rename_i e; simp; omega
    · have := hl i hi; simp; omega
end
end AH
