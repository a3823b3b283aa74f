/-
  AH 26: a range over a function: yields; the statement; the way out of the function.
-/
import Derived.Test.YtognbiffhgpoaaaGreatAh25
set_option linter.unusedSimpArgs false
set_option linter.unusedVariables false
set_option linter.unusedSectionVars false
namespace AH
open Go
noncomputable section

def putAll (f : Fr) : List Tmp → List Value → Fr
  | t :: ts, v :: vs => putAll (f.set t v) ts vs
  | _, _ => f

theorem putAll_rel {ρ : Nat → Loc} {n : Nat} : ∀ (ts : List Tmp) (vs : List Value) (f : Fr) (tmps : Array Value), FrRel ρ f n { tmps := tmps, defers := [] } → Scs n vs → (∀ t ∈ ts, t < tmps.size) →
    FrRel ρ (putAll f ts vs) n { tmps := (ts.zip (vs.map (ren ρ))).foldl (fun tmps (p : Tmp × Value) => tmps.setIfInBounds p.1 p.2) tmps, defers := [] } ∧ ((ts.zip (vs.map (ren ρ))).foldl (fun tmps (p : Tmp × Value) => tmps.setIfInBounds p.1 p.2) tmps).size = tmps.size
  | [], vs, f, tmps, h, _, _ => by exact ⟨h, rfl⟩
  | t :: ts, [], f, tmps, h, _, _ => by exact ⟨h, rfl⟩
  | t :: ts, v :: vs, f, tmps, h, hs, ht => by
    simp only [putAll, List.map_cons, List.zip_cons_cons, List.foldl_cons]
    have h1 := h.put (d := some t) (fun u hu => by cases hu; exact ht t (by simp)) (hs v (by simp))
    have h2 := putAll_rel ts vs (f.set t v) (tmps.setIfInBounds t (ren ρ v)) h1 (fun u hu => hs u (by simp [hu])) (fun u hu => by simp; exact ht u (by simp [hu]))
    exact ⟨h2.1, h2.2.trans (by simp)⟩

section
variable {M : EnvM} {rd : Option Nat} {nt : Nat} {all : Array Oper} {o : Oper} {rest : List Oper} {f : Fr} {σ : St} {K : Fr → St → Prop} {li : Nat}

/-- A call of a loop's yield: a round. -/
theorem WR.yield {c : Call} {x : Operand} {vs : List Value} {p : Option Code} {K' nt' : Nat} {fl : Tr Value} {ps : Array Tmp} {as bd : Code} (hrd : ∀ l, rd = some l → l < σ.next) (ho : o.op = .call c) (hc : c.callee = .value x) (hw : wantedA all f o = some true)
    (hx : opd f x = some (.func (.yield li) #[] #[])) (ha : opds f c.args.toList = some vs) (hl : σ.get li = .loop .ready p K' nt' fl ps as bd) (hlen : vs.length = ps.size) (hps : ps.toList.all (fun t => Nat.blt t nt') = true)
    (h : VR M K' li nt' [.code as, .beginRound, .code bd] (putAll ⟨fl, []⟩ ps.toList vs) σ (fun v σ' => WR M rd nt all rest (putF f o.dst v) σ' K)) : WR M rd nt all (o :: rest) f σ K := by
  intro hd ρ w a hR hF hn
  obtain ⟨r, h1, h2, h3, h4, h5, h6, h7, h8, h9, _⟩ := loop_put (st' := .ready) (p' := p) hR hl
  obtain ⟨e1, e1s⟩ := opd_sound hF hx
  obtain ⟨e2, e2s⟩ := opds_sound hF ha
  have hargs : c.args.map a.eval = (vs.map (ren ρ)).toArray := Array.ext' (by simpa using e2)
  have hsz : (c.args.map a.eval).size = r.params.size := by rw [hargs, h7]; simpa using hlen
  have hrun : (execOp a.eval o).run M.P w = .ok (.round (ρ li).b r.fn ((r.params.zip (c.args.map a.eval)).foldl (fun tmps (t, a) => tmps.setIfInBounds t a) r.tmps) r.assign r.body) w := by
    simp only [execOp, ho, resolve, hc, Deferred.ofValue, e1, ren_func, renFn_yield, Sem.run_bind, Sem.run_pure, Result.andThen_ok, invoke, List.map_toArray, List.map_nil]
    have := run_yield (P := M.P) (args := c.args.map a.eval) h1 hsz
    have e0 : (#[] : Array Value) ++ c.args.map a.eval = c.args.map a.eval := by simp
    rw [e0]
    exact this
  unfold wpListIn
  rw [wantedA_sound hF hw, if_pos rfl]
  refine ⟨fun _ _ => trivial, ?_⟩
  rw [Oper.semAt_eq _ _ _ (fun c e => by rw [ho] at e; cases e), hrun]
  refine ⟨fun h => by simp [FR, Fence.wide] at h, trivial, fun cc cs _ => ?_⟩
  have hfr0 : FrRel ρ ⟨fl, []⟩ σ.next { tmps := r.tmps, defers := [] } := ⟨h6, by have := hR.sc li; rw [hl] at this; exact this, rfl, fun i hi => by simp at hi⟩
  obtain ⟨hfr, hfs⟩ := putAll_rel ps.toList vs ⟨fl, []⟩ r.tmps hfr0 e2s (fun t ht => by
    have := List.all_eq_true.1 hps t ht
    rw [h5]; simpa using this)
  obtain ⟨v, w', hlift, hsteps⟩ := h ρ w _ cc cs hR hfr (hfs.trans h5)
  have efold : (r.params.zip (c.args.map a.eval)).foldl (fun tmps (t, a) => tmps.setIfInBounds t a) r.tmps = (ps.toList.zip (vs.map (ren ρ))).foldl (fun tmps (p : Tmp × Value) => tmps.setIfInBounds p.1 p.2) r.tmps := by
    rw [← Array.foldl_toList, Array.toList_zip, hargs, h7]
  rw [efold]
  have eround : Frame.round (ρ li).b r.fn ((ps.toList.zip (vs.map (ren ρ))).foldl (fun tmps (p : Tmp × Value) => tmps.setIfInBounds p.1 p.2) r.tmps) r.assign r.body .normal = (baseR K' (ρ li).b).atR { tmps := (ps.toList.zip (vs.map (ren ρ))).foldl (fun tmps (p : Tmp × Value) => tmps.setIfInBounds p.1 p.2) r.tmps, defers := [] } [.code as, .beginRound, .code bd] := by
    simp [Frame.round, Frame.atR, baseR, h4, h8, h9]
  rw [eround]
  obtain ⟨res, σ', ρ', g1, g2, g3, g4⟩ := hlift
  refine ⟨.returned v, w', ?_, stepsIn_FR.2 hsteps⟩
  show wpListIn _ _ _ _ _ rest (a.put o.dst v) w'
  subst g1
  have hk := g4 (fun o' ho' => hd o' (by simp [ho'])) ρ' w' _ g2.rel ((hF.evo g2.ext g2.next).put (dst_lt hn (hd o (by simp))) g3) (by rw [put_size]; exact hn)
  rw [rd_ext hrd g2.ext] at hk
  exact wpListIn_mono' (fun e a₂ w₂ ⟨e1, e2⟩ => ⟨e1, After.evo g2 e2⟩) rest _ _ hk

end

section
variable {M : EnvM} {K : FuncId} {nt : Nat} {k : List Item} {f : Fr} {σ : St} {R : Value → St → Prop}

/-- A region in which yields are called. -/
theorem VM.regionR {id : Nat} {ops : Array Oper} (hd : ops.toList.all (dstOk nt) = true) (h : WR M none nt ops ops.toList f σ (fun f' σ' => VM M K nt k f' σ' R)) : VM M K nt (.code (.region id ops false) :: k) f σ R := by
  intro ρ w a cs hR hF hn
  have hw := h (List.all_eq_true.1 hd) ρ w a hR hF hn
  obtain ⟨e, a', w', ⟨he, ρ', σ', f', h1, h2, h3, h4⟩, harr⟩ := wpIn_region_list (id := id) hw (base K) k cs rfl trivial (room_FR _ _)
  subst he
  exact .of_steps (stepsIn_FR.1 harr) ((h4 ρ' w' a' cs h1.rel h2 h3).mono fun v w₂ => Lift.evo h1)

/-- The statement 'for .. := range g { .. }'. -/
theorem VM.rangeFunc {g : Operand} {ps : Array Tmp} {as bd : Code} {h : FuncId} {first cap : Array Value} (hg : opd f g = some (.func (.func h) first cap))
    (hcall : WF M.toEnv h (first.toList ++ [Value.func (.yield (σ.next + 1)) #[] #[]] ++ cap.toList) ((σ.push .dfr).push (.loop .ready none K nt f.tr ps as bd))
      (fun _ σ' => ∃ st p K' nt' fl ps' as' bd', σ'.get (σ.next + 1) = .loop st p K' nt' fl ps' as' bd' ∧ st ≠ .busy ∧
        VM M K nt ((p.map Item.code).toList ++ k) (f.mark σ.next) (σ'.set (σ.next + 1) (.loop .exhausted p K' nt' fl ps' as' bd')) R)) : VM M K nt (.code (.rangeFunc g ps as bd) :: k) f σ R := by
  intro ρ w a cs hR hF hn
  -- the two blocks
  have ev1 : Evo ρ σ w (upd ρ σ.next ⟨w.heap.size, 0, 0⟩) (σ.push .dfr) (w.alloc (.deferred (some []))) := Evo.alloc hR (.deferred (some [])) .dfr 0 (Like.refl _) ⟨rfl, get_new w _⟩ trivial
  have hF1 := hF.evo ev1.ext ev1.next
  have ev2 := Evo.alloc ev1.rel (.loop { state := .ready, pending := none, fn := K, tmps := a.tmps, params := ps, assign := as, body := bd, defers := w.heap.size }) (.loop .ready none K nt f.tr ps as bd) 0 (Like.refl _)
    ⟨rfl, a.tmps, w.heap.size, hn, fun t v hv => by
      have h1 := hF1.slot t v hv
      rw [h1]
      congr 1
      exact hF1.sc t v hv _ _ fun i hi => (upd_lt _ _ hi).symm, get_new _ _⟩ (fun t v hv => (hF1.sc t v hv).mono (Nat.le_succ _))
  have ev := ev1.trans ev2
  have hsz1 : (w.alloc (.deferred (some []))).heap.size = w.heap.size + 1 := by simp
  obtain ⟨hge, hgs⟩ := opd_sound hF hg
  obtain ⟨_, hg1, hg2⟩ := Sc_func.1 hgs
  obtain ⟨⟨fn, hfn, hname, hbody⟩, hrun⟩ := hcall
  have hnext : (σ.push .dfr).next = σ.next + 1 := rfl
  have hl2 : (upd (upd ρ σ.next ⟨w.heap.size, 0, 0⟩) (σ.push .dfr).next ⟨(w.alloc (.deferred (some []))).heap.size, 0, 0⟩ (σ.next + 1)).b = w.heap.size + 1 := by rw [hnext, upd_same, hsz1]
  have hsc : Scs ((σ.push .dfr).push (.loop .ready none K nt f.tr ps as bd)).next (first.toList ++ [Value.func (.yield (σ.next + 1)) #[] #[]] ++ cap.toList) := fun v hv => by
    rcases List.mem_append.1 hv with hv | hv
    · rcases List.mem_append.1 hv with hv | hv
      · exact (hg1 v hv).mono (by simp; omega)
      · simp only [List.mem_singleton] at hv; subst hv
        exact Sc_func.2 ⟨by simp [scFn], fun v hv => by simp at hv, fun v hv => by simp at hv⟩
    · exact (hg2 v hv).mono (by simp; omega)
  have hc := hrun _ _ ev.rel hsc
  generalize hρ2 : upd (upd ρ σ.next ⟨w.heap.size, 0, 0⟩) (σ.push .dfr).next ⟨(w.alloc (.deferred (some []))).heap.size, 0, 0⟩ = ρ2 at *
  generalize hw2 : (w.alloc (.deferred (some []))).alloc (.loop { state := .ready, pending := none, fn := K, tmps := a.tmps, params := ps, assign := as, body := bd, defers := w.heap.size }) = w2 at *
  have hargs : ((first.toList ++ [Value.func (.yield (σ.next + 1)) #[] #[]] ++ cap.toList).map (ren ρ2)).toArray = first.map (ren ρ) ++ #[Value.func (.yield (w.heap.size + 1)) #[] #[]] ++ cap.map (ren ρ) := by
    have e1 : first.toList.map (ren ρ2) = first.toList.map (ren ρ) := hg1.map_eq fun i hi => ev.ext i hi
    have e2 : cap.toList.map (ren ρ2) = cap.toList.map (ren ρ) := hg2.map_eq fun i hi => ev.ext i hi
    apply Array.ext'
    simp only [List.map_append, List.map_cons, List.map_nil, e1, e2, ren_func, renFn_yield, hl2]
    simp
  rw [hargs] at hc
  have henter := stepR_rangeFunc (P := M.P) (b := base K) (a := a) (k := k) (cs := cs) (w := w) (g := g) (ps := ps) (assign := as) (body := bd)
    (l := w.heap.size + 1) (mark := [{ target := .collected w.heap.size, args := #[] }]) (w₁ := w2) (w₁' := w2) (w₂ := w2)
    (d := { target := .fn (.func h) (cap.map (ren ρ)), args := first.map (ren ρ) ++ #[Value.func (.yield (w.heap.size + 1)) #[] #[]] }) (f := h) (args := first.map (ren ρ) ++ #[Value.func (.yield (w.heap.size + 1)) #[] #[]] ++ cap.map (ren ρ))
    (by rw [← hw2]; exact run_enterLoop_outer K a.tmps ps as bd) (by
      have ea : (#[Operand.const (.func (.yield (w.heap.size + 1)) #[] #[])] : Array Operand).map a.eval = #[Value.func (.yield (w.heap.size + 1)) #[] #[]] := by simp [Act.eval]
      simp only [resolve, rangeCall, ea, hge, ren_func, renFn_func, Deferred.ofValue, Sem.run_pure])
    (by simp only [invoke, callFunc, Sem.run_bind, run_program, Result.andThen_ok, hfn, hname, hbody, Bool.false_eq_true, if_false, Sem.run_pure])
  obtain ⟨e, w3, fr, ⟨v, he, hlift⟩, hcomes, hfr, hleave⟩ := hc ((base K).atR { a with defers := [{ target := .collected w.heap.size, args := #[] }] ++ a.defers } (.inRangeFunc (w.heap.size + 1) :: k) :: cs)
  subst he
  obtain ⟨r, σ', ρ', q1, q2, q3, st, p, K', nt', fl, ps', as', bd', q4, q5, q6⟩ := hlift
  obtain ⟨rec, r1, r2, r3, r4, r5, r6, r7, r8, r9, hev⟩ := loop_put (st' := .exhausted) (p' := p) q2.rel q4
  have hl3 : (ρ' (σ.next + 1)).b = w.heap.size + 1 := by rw [q2.ext _ (by simp), hl2]
  rw [hl3] at r1 hev
  have hend := run_endLoop (P := M.P) r1 (by rw [r2]; exact q5)
  have hback := stepR_endRangeFunc (P := M.P) (b := base K) (a := { a with defers := [{ target := .collected w.heap.size, args := #[] }] ++ a.defers }) (k := k) (cs := cs) hend
  have hleft := step_leave_returned (c := (base K).atR { a with defers := [{ target := .collected w.heap.size, args := #[] }] ++ a.defers } (.inRangeFunc (w.heap.size + 1) :: k)) (cs := cs) hleave
  rw [finish_atR_inRangeFunc] at hleft
  have e1 : ({ rec with state := .exhausted, pending := p } : Loop) = { rec with state := .exhausted } := by rw [← r3]
  rw [e1] at hev
  have evAll := (ev.trans q2).trans hev
  have hld : ρ' σ.next = ⟨w.heap.size, 0, 0⟩ := by
    rw [q2.ext _ (by simp; omega), ← hρ2, upd_lt _ _ (by simp), upd_same]
  have hFm : FrRel ρ' (f.mark σ.next) (σ'.set (σ.next + 1) (.loop .exhausted p K' nt' fl ps' as' bd')).next { a with defers := [{ target := .collected w.heap.size, args := #[] }] ++ a.defers } := by
    have hF' := hF.evo evAll.ext evAll.next
    refine ⟨hF'.slot, hF'.sc, ?_, fun i hi => ?_⟩
    · show _ ++ a.defers = _
      rw [hF'.defers]
      simp [hld]
    · rcases List.mem_cons.1 hi with rfl | hi
      · have := q2.next; simp at this ⊢; omega
      · exact hF'.dsc i hi
  have hfin := q6 ρ' _ _ cs evAll.rel hFm hn
  have hs0 : Steps M.P (lone ((base K).at a (.code (.rangeFunc g ps as bd) :: k)) cs w) (lone ((base K).at { a with defers := [{ target := .collected w.heap.size, args := #[] }] ++ a.defers } ((p.map Item.code).toList ++ k)) cs (w3.putObj (w.heap.size + 1) (.loop { rec with state := .exhausted }))) := by
    rw [← r3]
    rw [← Frame.atR_of_none (b := base K) rfl, ← Frame.atR_of_none (b := base K) rfl]
    exact (Steps.one henter).trans (Steps.trans hcomes ((Steps.one hleft).trans (Steps.one hback)))
  exact .of_steps hs0 (hfin.mono fun v w₂ => Lift.evo evAll)

/-- The blocks of deferred calls are shut. -/
def shut (σ : St) : List Nat → St
  | [] => σ
  | d :: r => shut (σ.set d .dead) r

theorem shut_steps (P : Program) {ρ : Nat → Loc} {cs : List Frame} : ∀ (df : List Nat) (σ : St) (w : World) (fr : Frame), Rel ρ σ w → fr.mode = .returning → fr.defers = df.map (fun i => { target := .collected (ρ i).b, args := #[] }) → df.Nodup → (∀ d ∈ df, σ.get d = .dfr) →
    ∃ w', Steps P (lone fr cs w) (lone { fr with defers := [] } cs w') ∧ Evo ρ σ w ρ (shut σ df) w'
  | [], σ, w, fr, hR, hm, hd, _, _ => by
    have e : ({ fr with defers := [] } : Frame) = fr := by cases fr; simp at hd; simp [hd]
    exact ⟨w, by rw [e]; exact .refl _ _, Evo.refl hR⟩
  | d :: df, σ, w, fr, hR, hm, hd, hnd, hg => by
    obtain ⟨hd1, hd2⟩ := List.nodup_cons.1 hnd
    have hb := hR.blk d
    rw [hg d (by simp)] at hb
    obtain ⟨h0, h1⟩ := hb
    have hlt := heap_lt h1
    have hs := step_collected (P := P) (fr := fr) (cs := cs) (by rw [hm]; simp) hd rfl (run_takeDeferred h1)
    have hev : Evo ρ σ w ρ (σ.set d .dead) (w.putObj (ρ d).b (.deferred none)) := Evo.write hR (by rw [hg d (by simp)]; rfl) ⟨by simp, rfl, rfl, rfl, fun j hj => World.putObj_heap_other hj⟩ trivial trivial
    obtain ⟨w', h2, h3⟩ := shut_steps P df (σ.set d .dead) _ { fr with defers := [] ++ df.map (fun i => { target := .collected (ρ i).b, args := #[] }) } hev.rel hm rfl hd2 (fun x hx => by
      rw [St.get_set_ne]
      · exact hg x (by simp [hx])
      · intro e; subst e; exact hd1 hx)
    exact ⟨w', (Steps.one hs).trans h2, hev.trans h3⟩

theorem VM.outD {fn : Func} {v : Value} {st : ∀ (a : Act) (cs : List Frame) (w : World), ∃ todo, Go.step M.P (lone ((base K).at a k) cs w) = Stepped.next (lone { (base K).at a todo with mode := .returning } cs w)} (hnd : f.df.Nodup) (hdf : ∀ d ∈ f.df, σ.get d = .dfr) (hf : M.P.funcs[K]? = some fn)
    (hv : resQ M.toEnv f (shut σ f.df) fn.results.toList = some v) (h : R v (shut σ f.df)) : VM M K nt k f σ R := by
  intro ρ w a cs hR hF hn
  obtain ⟨todo, hst⟩ := st a cs w
  obtain ⟨w', h1, h2⟩ := shut_steps M.P (cs := cs) f.df σ w { (base K).at a todo with mode := .returning } hR rfl hF.defers hnd hdf
  obtain ⟨h3, h4⟩ := resQ_sound M.toEnv h2.rel (hF.evo h2.ext h2.next) hv
  exact ⟨ren ρ v, w', _, ⟨v, _, ρ, rfl, h2, h4, h⟩, (Steps.one hst).trans h1, rfl, rfl, rfl, rfl, fn, hf, h3⟩

theorem VM.retD {fn : Func} {v : Value} (hnd : f.df.Nodup) (hdf : ∀ d ∈ f.df, σ.get d = .dfr) (hf : M.P.funcs[K]? = some fn) (hv : resQ M.toEnv f (shut σ f.df) fn.results.toList = some v) (h : R v (shut σ f.df)) : VM M K nt (.code .ret :: k) f σ R :=
  VM.outD (st := fun a cs w => ⟨_, step_ret⟩) hnd hdf hf hv h

theorem VM.doneD {fn : Func} {v : Value} (hnd : f.df.Nodup) (hdf : ∀ d ∈ f.df, σ.get d = .dfr) (hf : M.P.funcs[K]? = some fn) (hv : resQ M.toEnv f (shut σ f.df) fn.results.toList = some v) (h : R v (shut σ f.df)) : VM M K nt [] f σ R :=
  VM.outD (st := fun a cs w => ⟨_, step_end⟩) hnd hdf hf hv h
end
end
end AH
