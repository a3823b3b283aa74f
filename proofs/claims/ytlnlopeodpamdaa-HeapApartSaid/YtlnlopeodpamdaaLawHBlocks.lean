import Derived.Test.YtlnlopeodpamdaaAh37
import Derived.Test.YtlnlopeodpamdaaLawHFree
set_option maxRecDepth 100000
set_option linter.unusedVariables false
namespace Go.Proofs.Ytlnlopeodpamdaa.Hx
open Go AH Go.Proofs
noncomputable section
def valsOf (l : List MapEntry) : List Value := l.flatMap fun e => e.val.cells.toList
def seq0 (es : List MapEntry) (clock : Nat) : St := (⟨2, .leaf⟩ : St) |>.set 0 (.cells 80 [.map (some 1)]) |>.set 1 (.map es clock)
theorem code_eq {M : EnvM} {K li nt : Nat} {k : List Item} {f : Fr} {σ : St} {R : Value → St → Prop} {c c' : Code} (h : c = c') (hv : VR M K li nt (.code c :: k) f σ R) : VR M K li nt (.code c' :: k) f σ R := h ▸ hv
def T68 : TyI := { desc := .slice 74, size := 1, bytes := 24, zero := .slice none 0 0, eqok := true }
def T74 : TyI := { desc := .struct #[{ name := "At", type := 3, offset := 0, embedded := false, tag := "", pkgPath := "", byteOffset := 0 }, { name := "Len", type := 3, offset := 1, embedded := false, tag := "", pkgPath := "", byteOffset := 8 }, { name := "Gen", type := 3, offset := 2, embedded := false, tag := "", pkgPath := "", byteOffset := 16 }, { name := "Live", type := 4, offset := 3, embedded := false, tag := "", pkgPath := "", byteOffset := 24 }], size := 4, bytes := 32, zero := .agg #[.int .i64 0, .int .i64 0, .int .i64 0, .bool false], eqok := true }
theorem cast {E : Env} {K : FuncId} {args args' : List Value} {σ σ' : St} {R : Value → St → Prop} (ha : args = args') (hs : σ = σ') (h : WF E K args' σ' R) : WF E K args σ R := by rw [ha, hs]; exact h
def f0 : Fr := frL [(2, .pointer (some ⟨2, 0, none⟩)), (6, .func (.func 103) #[] #[.pointer (some ⟨0, 0, none⟩)])]
def vS (es : List MapEntry) (clock : Nat) (seen : List Nat) (row : Blk) (acc : Value) (cA cB : Code) : St := (⟨5, .leaf⟩ : St) |>.set 0 (.cells 80 [.map (some 1)]) |>.set 1 (.map es clock) |>.set 2 (.cells 68 [acc]) |>.set 3 .dfr |>.set 4 (.loop .ready none 124 13 f0.tr #[7] cA cB)
def accV (vis : List MapEntry) : Value := match vis with | [] => .slice none 0 0 | _ :: _ => .slice (some ⟨6, 0, none⟩) vis.length unk
def rowV (vis : List MapEntry) : Blk := match vis with | [] => .dead | _ :: _ => .row 74 4 (valsOf vis)
/-- At the head of the iterator's loop. -/
def vI (es : List MapEntry) (clock : Nat) (vis : List MapEntry) (cA cB : Code) : St := (⟨7, .leaf⟩ : St) |>.set 0 (.cells 80 [.map (some 1)]) |>.set 1 (.map es clock) |>.set 2 (.cells 68 [accV vis]) |>.set 3 .dfr |>.set 4 (.loop .ready none 124 13 f0.tr #[7] cA cB) |>.set 5 (.miter (some 1) clock (vis.map (·.born)) clock) |>.set 6 (rowV vis)
/-- Behind it. -/
def vE (es : List MapEntry) (clock : Nat) (vis : List MapEntry) (cA cB : Code) : St := (⟨7, .leaf⟩ : St) |>.set 0 (.cells 80 [.map (some 1)]) |>.set 1 (.map es clock) |>.set 2 (.cells 68 [accV vis]) |>.set 3 .dfr |>.set 4 (.loop .ready none 124 13 f0.tr #[7] cA cB) |>.set 6 (rowV vis)
def v6 (es : List MapEntry) (clock : Nat) (cA cB : Code) : St := (⟨6, .leaf⟩ : St) |>.set 0 (.cells 80 [.map (some 1)]) |>.set 1 (.map es clock) |>.set 2 (.cells 68 [.slice none 0 0]) |>.set 3 .dfr |>.set 4 (.loop .ready none 124 13 f0.tr #[7] cA cB) |>.set 5 (.miter (some 1) clock [] clock)
def vJ (es : List MapEntry) (clock : Nat) (vis : List MapEntry) (b : Nat) (cs : List Value) (cA cB : Code) : St := (⟨8, .leaf⟩ : St) |>.set 0 (.cells 80 [.map (some 1)]) |>.set 1 (.map es clock) |>.set 2 (.cells 68 [accV vis]) |>.set 3 .dfr |>.set 4 (.loop .ready none 124 13 f0.tr #[7] cA cB) |>.set 5 (.miter (some 1) clock (vis.map (·.born) ++ [b]) clock) |>.set 6 (rowV vis) |>.set 7 (.cells 74 cs)
def blkC (a l g : Int) (v : Bool) : List Value := [.int .i64 a, .int .i64 l, .int .i64 g, .bool v]
def vK (es : List MapEntry) (clock : Nat) (vis : List MapEntry) (b : Nat) (cs cs2 : List Value) (st : LoopState) (cA cB : Code) : St := (⟨9, .leaf⟩ : St) |>.set 0 (.cells 80 [.map (some 1)]) |>.set 1 (.map es clock) |>.set 2 (.cells 68 [accV vis]) |>.set 3 .dfr |>.set 4 (.loop st none 124 13 f0.tr #[7] cA cB) |>.set 5 (.miter (some 1) clock (vis.map (·.born) ++ [b]) clock) |>.set 6 (rowV vis) |>.set 7 (.cells 74 cs) |>.set 8 (.cells 74 cs2)
def vL (es : List MapEntry) (clock : Nat) (vis : List MapEntry) (b : Nat) (cs : List Value) (cA cB : Code) : St := (⟨10, .leaf⟩ : St) |>.set 0 (.cells 80 [.map (some 1)]) |>.set 1 (.map es clock) |>.set 2 (.cells 68 [accV vis]) |>.set 3 .dfr |>.set 4 (.loop .busy none 124 13 f0.tr #[7] cA cB) |>.set 5 (.miter (some 1) clock (vis.map (·.born) ++ [b]) clock) |>.set 6 (rowV vis) |>.set 7 (.cells 74 cs) |>.set 8 (.cells 74 cs) |>.set 9 (.cells 74 cs)
def vM (es : List MapEntry) (clock : Nat) (vis : List MapEntry) (b : Nat) (cs : List Value) (acc : Value) (cA cB : Code) : St := (⟨11, .leaf⟩ : St) |>.set 0 (.cells 80 [.map (some 1)]) |>.set 1 (.map es clock) |>.set 2 (.cells 68 [acc]) |>.set 3 .dfr |>.set 4 (.loop .busy none 124 13 f0.tr #[7] cA cB) |>.set 5 (.miter (some 1) clock (vis.map (·.born) ++ [b]) clock) |>.set 6 .dead |>.set 7 (.cells 74 cs) |>.set 8 (.cells 74 cs) |>.set 9 (.cells 74 cs) |>.set 10 (.row 74 4 (valsOf vis ++ cs))
theorem valsOf_length {vis : List MapEntry} (h : Shaped1 vis) : (valsOf vis).length = vis.length * 4 := by
  induction vis with
  | nil => rfl
  | cons x r ih =>
    obtain ⟨a, l, g, v, hv, _⟩ := h x (by simp)
    have := ih fun e he => h e (by simp [he])
    simp only [valsOf, List.flatMap_cons, List.length_append, List.length_cons] at *
    rw [this, hv]
    have : (blkV a l g v).cells.toList.length = 4 := rfl
    omega
theorem app_step (es : List MapEntry) (clock : Nat) (vis : List MapEntry) (b : Nat) (a l g : Int) (v : Bool) (cA cB : Code) (hsv : Shaped1 vis) (h : vis.length < 1048576) :
    appQ M.toEnv (vL es clock vis b (blkC a l g v) cA cB) 68 68 (accV vis) (.slice (some ⟨9, 0, none⟩) 1 1) = some (.slice (some ⟨10, 0, none⟩) (vis.length + 1) unk, vM es clock vis b (blkC a l g v) (accV vis) cA cB) := by
  cases vis with
  | nil =>
    exact appQ_nil (i := T68) (ix := T68) (j := T74) (e := 74) (e2 := 74) (n := 1) (new := blkC a l g v) (by kernel_rfl) (by kernel_rfl) (by kernel_rfl) (by kernel_rfl) (by kernel_rfl) (by kernel_rfl) (by decide) (by decide) (by decide) (by decide) |>.trans (by kernel_rfl)
  | cons x r =>
    have hl := valsOf_length hsv
    exact appQ_row (i := T68) (ix := T68) (j := T74) (e := 74) (e2 := 74) (n := 1) (new := blkC a l g v) (cs := valsOf (x :: r)) (by kernel_rfl) (by kernel_rfl) (by kernel_rfl) (by kernel_rfl) (by kernel_rfl) (by kernel_rfl) (by decide) (by decide) (by kernel_rfl) hl.symm (by decide) (by rfl) (by show (8 * ((x :: r).length + 1) + 4096) * 32 ≤ _; omega) |>.trans (by kernel_rfl)
theorem vI_get (es : List MapEntry) (clock : Nat) (vis : List MapEntry) (cA cB : Code) (i : Nat) : (vI es clock vis cA cB).get i = if 6 = i then rowV vis else if 5 = i then .miter (some 1) clock (vis.map (·.born)) clock else if 4 = i then .loop .ready none 124 13 f0.tr #[7] cA cB else if 3 = i then .dfr else if 2 = i then .cells 68 [accV vis] else if 1 = i then .map es clock else if 0 = i then .cells 80 [.map (some 1)] else .dead := by
  simp only [vI, St.get_set]
  rfl
theorem v6_get (es : List MapEntry) (clock : Nat) (cA cB : Code) (i : Nat) : (v6 es clock cA cB).get i = if 5 = i then .miter (some 1) clock [] clock else if 4 = i then .loop .ready none 124 13 f0.tr #[7] cA cB else if 3 = i then .dfr else if 2 = i then .cells 68 [.slice none 0 0] else if 1 = i then .map es clock else if 0 = i then .cells 80 [.map (some 1)] else .dead := by
  simp only [v6, St.get_set]
  rfl
/-- Keys and values of the map name no block. -/
def NoBlk (es : List MapEntry) : Prop := ∀ e ∈ es, Sc 0 e.key ∧ Sc 0 e.val
theorem NoBlk.of_shaped {es : List MapEntry} (h : Shaped1 es) : NoBlk es := fun e he => by
  obtain ⟨a, l, g, v, hv, hk, _⟩ := h e he
  rw [hv, hk]
  exact ⟨Sc_int _ _ _, Sc_agg.2 fun u hu => by simp at hu; rcases hu with rfl | rfl | rfl | rfl <;> first | exact Sc_int _ _ _ | exact Sc_bool _ _⟩
theorem f0_sc (t : Nat) (v : Value) (h : f0.tr.get t = some v) : Sc 5 v := by
  have := frL_mem (l := [(2, .pointer (some ⟨2, 0, none⟩)), (6, .func (.func 103) #[] #[.pointer (some ⟨0, 0, none⟩)])]) (t := t) (v := v) h
  simp only [List.mem_cons, Prod.mk.injEq, List.not_mem_nil, or_false] at this
  rcases this with ⟨_, rfl⟩ | ⟨_, rfl⟩
  · exact Sc_ptr (by show 2 < 5; omega)
  · exact Sc_func.2 ⟨trivial, fun v hv => by simp at hv, fun v hv => by simp at hv; subst hv; exact Sc_ptr (by show 0 < 5; omega)⟩
theorem vals_sc {vis : List MapEntry} (h : NoBlk vis) (n : Nat) : Scs n (valsOf vis) := fun v hv => by
  obtain ⟨e, he, hv⟩ := List.mem_flatMap.1 hv
  exact (Sc_cells (h e he).2 v hv).mono (Nat.zero_le _)
theorem vI_wf {es vis : List MapEntry} {clock : Nat} {cA cB : Code} (hn : NoBlk es) (hv : ∀ e ∈ vis, e ∈ es) : Wf (frL [(0, .func (.yield 4) #[] #[]), (6, .pointer (some ⟨5, 0, none⟩))]) (vI es clock vis cA cB) := by
  refine ⟨fun i => ?_, fun i hi => ?_, fun t v ht => ?_⟩
  · rw [vI_get]
    show Blk.sc 7 _
    split
    · cases vis with
      | nil => trivial
      | cons x r => exact vals_sc (fun e he => hn e (hv e he)) 7
    split
    · show 1 < 7; omega
    split
    · exact fun t v h => (f0_sc t v h).mono (by omega)
    split
    · trivial
    split
    · intro v hv'
      simp only [List.mem_singleton] at hv'
      subst hv'
      cases vis with
      | nil => exact Sc_nilslice _ _ _
      | cons x r => exact Sc_slice (by show 6 < 7; omega)
    split
    · exact fun e he => ⟨(hn e he).1.mono (Nat.zero_le _), (hn e he).2.mono (Nat.zero_le _)⟩
    split
    · intro v hv'
      simp only [List.mem_singleton] at hv'
      subst hv'
      exact Sc_map (by omega)
    · trivial
  · rw [vI_get] at hi
    show i < 7
    by_cases h : i < 7
    · exact h
    · rw [if_neg (by omega), if_neg (by omega), if_neg (by omega), if_neg (by omega), if_neg (by omega), if_neg (by omega), if_neg (by omega)] at hi
      simp [Blk.live] at hi
  · have := frL_mem ht
    simp only [List.mem_cons, Prod.mk.injEq, List.not_mem_nil, or_false] at this
    rcases this with ⟨_, rfl⟩ | ⟨_, rfl⟩
    · exact Sc_func.2 ⟨by show 4 < 7; omega, fun v hv => by simp at hv, fun v hv => by simp at hv⟩
    · exact Sc_ptr (by show 5 < 7; omega)
theorem vE_get (es : List MapEntry) (clock : Nat) (vis : List MapEntry) (cA cB : Code) (i : Nat) : (vE es clock vis cA cB).get i = if 6 = i then rowV vis else if 4 = i then .loop .ready none 124 13 f0.tr #[7] cA cB else if 3 = i then .dfr else if 2 = i then .cells 68 [accV vis] else if 1 = i then .map es clock else if 0 = i then .cells 80 [.map (some 1)] else .dead := by
  simp only [vE, St.get_set]
  rfl
theorem vE_wf {es vis : List MapEntry} {clock : Nat} {cA cB : Code} (hn : NoBlk es) (hv : ∀ e ∈ vis, e ∈ es) : Wf (frL []) (vE es clock vis cA cB) := by
  have h := vI_wf (clock := clock) (cA := cA) (cB := cB) hn hv
  refine ⟨fun i => ?_, fun i hi => ?_, fun t v ht => ?_⟩
  · have := h.sc i
    rw [vI_get] at this
    rw [vE_get]
    by_cases h5 : 5 = i
    · subst h5; trivial
    · rw [if_neg h5] at this; exact this
  · have := h.lt i
    rw [vI_get] at this
    rw [vE_get] at hi
    by_cases h5 : 5 = i
    · subst h5; show 5 < 7; omega
    · rw [if_neg h5] at this; exact this hi
  · exact absurd (frL_mem ht) (by simp)
theorem Shaped1.map_eq {es : List MapEntry} (h : Shaped1 es) (ρ : Nat → AH.Loc) : es.map (renE ρ) = es := by
  have := List.map_congr_left (f := renE ρ) (g := id) (l := es) fun e he => by
    obtain ⟨a, l, g, v, hv, hk, _⟩ := h e he
    cases e
    simp only at hv hk
    subst hv; subst hk
    simp [renE, blkV]
  rw [this, List.map_id]
theorem vals_map {vis : List MapEntry} (h : Shaped1 vis) (ρ : Nat → AH.Loc) : (valsOf vis).map (ren ρ) = valsOf vis := by
  have := List.map_congr_left (f := ren ρ) (g := id) (l := valsOf vis) fun v hv => by
    obtain ⟨e, he, hv⟩ := List.mem_flatMap.1 hv
    obtain ⟨a, l, g, b, hb, _, _⟩ := h e he
    rw [hb] at hv
    simp [blkV, Value.cells] at hv
    rcases hv with rfl | rfl | rfl | rfl <;> simp
  rw [this, List.map_id]
theorem valsOf_snoc {vis : List MapEntry} {e : MapEntry} {a l g : Int} {v : Bool} (hv : e.val = blkV a l g v) : valsOf (vis ++ [e]) = valsOf vis ++ blkC a l g v := by
  simp only [valsOf, List.flatMap_append, List.flatMap_cons, List.flatMap_nil, List.append_nil, hv]
  rfl
theorem accV_snoc (vis : List MapEntry) (e : MapEntry) : accV (vis ++ [e]) = .slice (some ⟨6, 0, none⟩) (vis.length + 1) unk := by
  cases vis with
  | nil => rfl
  | cons x r => simp [accV]
theorem rowV_snoc (vis : List MapEntry) (e : MapEntry) : rowV (vis ++ [e]) = .row 74 4 (valsOf (vis ++ [e])) := by
  cases vis with
  | nil => rfl
  | cons x r => rfl
theorem Tr.map_same {α : Type} {g : α → α} : ∀ {t : Tr α}, (∀ k v, t.get k = some v → g v = v) → t.map g = t
  | .leaf, _ => rfl
  | .node l v r, h => by
    have h0 : v.map g = v := by
      cases v with
      | none => rfl
      | some u => rw [Option.map_some, h 0 u rfl]
    have hl : l.map g = l := Tr.map_same fun k v hk => h (2 * k + 1) v (by
      have : (2 * k + 1) % 2 = 1 := by omega
      have h2 : (2 * k + 1) / 2 = k := by omega
      simp [Tr.get_node, this, h2, hk])
    have hr : r.map g = r := Tr.map_same fun k v hk => h (2 * k + 2) v (by
      have : (2 * k + 2) % 2 = 0 := by omega
      have h2 : (2 * k + 2) / 2 = k + 1 := by omega
      simp [Tr.get_node, this, h2, hk])
    simp only [Tr.map, h0, hl, hr]
theorem snoc_get {es vis : List MapEntry} {clock : Nat} {cA cB : Code} {e : MapEntry} {a l g : Int} {v : Bool} (hsh : Shaped1 es) (hsub : ∀ x ∈ vis ++ [e], x ∈ es) (hv : e.val = blkV a l g v) (i : Nat) (hi : i < 7) :
    ((vM es clock vis e.born (blkC a l g v) (.slice (some ⟨10, 0, none⟩) (vis.length + 1) unk) cA cB).set 4 (.loop .ready none 124 13 f0.tr #[7] cA cB)).get (if i = 6 then 10 else i) = renB (loc fun i => if i = 6 then 10 else i) ((vI es clock (vis ++ [e]) cA cB).get i) := by
  match i, hi with
  | 0, _ =>
    show Blk.cells 80 [.map (some 1)] = .cells 80 [ren _ (.map (some 1))]
    rw [ren_map]
    rfl
  | 1, _ =>
    have h1 : (vI es clock (vis ++ [e]) cA cB).get 1 = .map es clock := rfl
    rw [h1, renB, hsh.map_eq]
    exact rfl
  | 2, _ =>
    have h1 : (vI es clock (vis ++ [e]) cA cB).get 2 = .cells 68 [accV (vis ++ [e])] := rfl
    rw [h1, accV_snoc]
    show Blk.cells 68 [.slice (some ⟨10, 0, none⟩) (vis.length + 1) unk] = .cells 68 [ren _ (.slice (some ⟨6, 0, none⟩) (vis.length + 1) unk)]
    rw [ren_slice]
    exact rfl
  | 3, _ => exact rfl
  | 4, _ =>
    show Blk.loop .ready none 124 13 f0.tr #[7] cA cB = .loop .ready none 124 13 (f0.tr.map (ren (loc fun i => if i = 6 then 10 else i))) #[7] cA cB
    rw [Tr.map_same]
    intro t w ht
    have := frL_mem (l := [(2, .pointer (some ⟨2, 0, none⟩)), (6, .func (.func 103) #[] #[.pointer (some ⟨0, 0, none⟩)])]) (t := t) (v := w) ht
    simp only [List.mem_cons, Prod.mk.injEq, List.not_mem_nil, or_false] at this
    rcases this with ⟨_, rfl⟩ | ⟨_, rfl⟩
    · rw [ren_ptr]; rfl
    · simp [renA, loc, renFn]
  | 5, _ =>
    have h1 : (vI es clock (vis ++ [e]) cA cB).get 5 = .miter (some 1) clock ((vis ++ [e]).map (·.born)) clock := rfl
    rw [h1, List.map_append]
    exact rfl
  | 6, _ =>
    have h1 : (vI es clock (vis ++ [e]) cA cB).get 6 = rowV (vis ++ [e]) := rfl
    rw [h1, rowV_snoc, renB, vals_map (fun x hx => hsh x (hsub x hx)), valsOf_snoc hv]
    exact rfl
  | n + 7, h => omega
theorem vb_cast {nB : Nat} {M : EnvM} {K : FuncId} {nt : Nat} {k : List Item} {f f' : Fr} {σ σ' : St} {R : Value → St → Prop} (hf : f = f') (hs : σ = σ') (h : VB nB M K nt k f' σ' R) : VB nB M K nt k f σ R := by rw [hf, hs]; exact h
def vX (es : List MapEntry) (clock : Nat) (vis : List MapEntry) (cA cB : Code) : St := (⟨7, .leaf⟩ : St) |>.set 0 (.cells 80 [.map (some 1)]) |>.set 1 (.map es clock) |>.set 2 (.cells 68 [accV vis]) |>.set 3 .dfr |>.set 4 (.loop .exhausted none 124 13 f0.tr #[7] cA cB) |>.set 6 (rowV vis)
theorem collect (es : List MapEntry) (clock : Nat) (hst : Stamped es clock) (hsh : Shaped1 es) (hlen : es.length ≤ 1048576) :
    WF M.toEnv 124 [.slice none 0 0, .func (.func 103) #[] #[.pointer (some ⟨0, 0, none⟩)]] (seq0 es clock) (fun r σ' => ∃ vis : List MapEntry, vis.Perm es ∧ r = accV vis ∧ σ'.get 0 = .cells 80 [.map (some 1)] ∧ σ'.get 1 = .map es clock ∧ σ'.get 6 = rowV vis) := by
  refine WF.of_VB (fn := Try.f124) Try.func124 rfl rfl (by decide) ?_
  refine VB.seq ?_
  apply VB.region
  case hd => rfl
  refine WL.write (r := some (.pointer (some ⟨2, 0, none⟩))) (σ' := ((⟨3, .leaf⟩ : St) |>.set 0 (.cells 80 [.map (some 1)]) |>.set 1 (.map es clock) |>.set 2 (.cells 68 [.slice none 0 0]))) rfl (by kernel_rfl) ?_
  apply WL.quiet
  case hw => rfl
  case hq => exact rfl
  apply WL.nil
  refine VB.seq (VB.seq ?_)
  apply VB.region
  case hd => rfl
  apply WL.quiet
  case hw => rfl
  case hq => exact rfl
  apply WL.nil
  refine VB.block ?_
  refine VB.trim [(2, .pointer (some ⟨2, 0, none⟩)), (6, .func (.func 103) #[] #[.pointer (some ⟨0, 0, none⟩)])] (by
    intro p hp
    simp only [List.mem_cons, List.not_mem_nil, or_false] at hp
    rcases hp with rfl | rfl <;> (dsimp only; exact rfl)) rfl ?_
  apply VB.rangeFunc
  case hg => exact rfl
  generalize hA : (Code.region 2 _ false) = cA
  generalize hB : (Code.block 1 _) = cB
  refine cast (args' := [.func (.yield 4) #[] #[], .pointer (some ⟨0, 0, none⟩)]) (σ' := vS es clock [] .dead (.slice none 0 0) cA cB) (by kernel_rfl) (by kernel_rfl) ?_
  refine WF.mono (R := fun r σ' => ∃ vis : List MapEntry, vis.Perm es ∧ σ' = vE es clock vis cA cB) ?_ ?_
  · refine WF.of_VB (fn := Try.f103) Try.func103 rfl rfl (by decide) ?_
    refine VB.seq ?_
    apply VB.region
    case hd => rfl
    apply WL.quiet
    case hw => rfl
    case hq => exact rfl
    refine WL.write (r := some (.pointer (some ⟨5, 0, none⟩))) (σ' := v6 es clock cA cB) rfl (by kernel_rfl) ?_
    apply WL.nil
    refine VB.block ?_
    refine VB.know fun hwf0 => ?_
    refine VB.cut [(0, .func (.yield 4) #[] #[]), (6, .pointer (some ⟨5, 0, none⟩))] (vI es clock [] cA cB) (by
      intro p hp
      simp only [List.mem_cons, List.not_mem_nil, or_false] at hp
      rcases hp with rfl | rfl <;> (dsimp only; exact rfl)) rfl (vI_wf (NoBlk.of_shaped hsh) (by simp)) (by show 5 ≤ 7; omega) ?_ ?_
    · intro i
      rw [vI_get, v6_get]
      by_cases h6 : i = 6
      · subst h6; exact .inr rfl
      · rw [if_neg (Ne.symm h6)]; left; rfl
    refine VB.loop (fun f σ => ∃ vis : List MapEntry, f = frL [(0, .func (.yield 4) #[] #[]), (6, .pointer (some ⟨5, 0, none⟩))] ∧ σ = vI es clock vis cA cB ∧ vis.Nodup ∧ ∀ e ∈ vis, e ∈ es)
      (fun f σ => es.length - (match σ.get 5 with | .miter _ _ seen _ => seen.length | _ => 0)) ⟨[], rfl, rfl, List.nodup_nil, by simp⟩ ?_
    intro f σ ⟨vis, hf, hσ, hnd, hsub⟩ ih
    subst hf; subst hσ
    refine VB.know fun hwf => ?_
    refine VB.seq ?_
    apply VB.region
    case hd => rfl
    apply WL.next
    case ho => rfl
    case hw => rfl
    case hx => exact rfl
    case hr => exact rfl
    case hm => exact rfl
    case hok => exact not_cleared hst
    intro c hc
    rcases cands_old hst hsub hc with ⟨rfl, hall⟩ | ⟨e, rfl, he, hnv⟩
    · apply WL.quiet
      case hw => rfl
      case hq => exact rfl
      apply WL.nil
      refine VB.seq ?_
      apply VB.cond
      case hc => exact rfl
      apply VB.exit
      case hx => exact rfl
      refine VB.cut [] (vE es clock vis cA cB) (by simp) rfl (vE_wf (NoBlk.of_shaped hsh) hsub) (by show 5 ≤ 7; omega) ?_ ?_
      · intro i
        rw [vE_get]
        by_cases h5 : i = 5
        · subst h5; exact .inr rfl
        · left
          show _ = (vI es clock vis cA cB).get i
          rw [vI_get, if_neg (fun h : 5 = i => h5 h.symm)]
      · exact VB.done rfl Try.func103 rfl ⟨vis, perm_of_all hnd hst.nodup hsub hall, rfl⟩
    · apply WL.quiet
      case hw => rfl
      case hq => exact rfl
      apply WL.nil
      refine VB.seq ?_
      apply VB.cond
      case hc => exact rfl
      refine VB.skip (VB.block (VB.seq ?_))
      apply VB.region
      case hd => rfl
      apply WL.write
      case hw => rfl
      case hq => exact opW_entry rfl rfl rfl (e := e) (by simp) (entry_last hst he)
      obtain ⟨a, l, g, v, hv, hk, hl⟩ := hsh e he
      rw [hk, hv]
      apply WL.quiet
      case hw => rfl
      case hq => exact rfl
      refine WL.write (r := some (.pointer (some ⟨7, 0, none⟩))) (σ' := vJ es clock vis e.born [.int .i64 0, .int .i64 0, .int .i64 0, .bool false] cA cB) rfl (by kernel_rfl) ?_
      refine WL.write (r := none) (σ' := vJ es clock vis e.born [.int .i64 a, .int .i64 l, .int .i64 g, .bool v] cA cB) rfl (by kernel_rfl) ?_
      apply WL.nil
      refine VB.seq ?_
      apply VB.regionR
      case hd => rfl
      refine WR.op rfl (by simp) ?_
      apply WL.quiet
      case hw => rfl
      case hq => exact rfl
      apply WL.nil
      refine WR.op rfl (by simp) ?_
      refine WL.quiet (v := blkV a l g v) rfl (by kernel_rfl) ?_
      apply WL.nil
      apply WR.yield
      case hrd => simp
      case ho => rfl
      case hc => rfl
      case hw => rfl
      case hx => exact rfl
      case ha => exact rfl
      case hl => exact rfl
      case hlen => rfl
      case hps => rfl
      refine code_eq hA ?_
      apply VR.region
      case hli => show 4 < 8; omega
      case hd => rfl
      refine WR.op rfl (by intro l hl; cases hl; show 4 < 8; omega) ?_
      refine WL.write (r := some (.pointer (some ⟨8, 0, none⟩))) (σ' := vK es clock vis e.born (blkC a l g v) [.int .i64 0, .int .i64 0, .int .i64 0, .bool false] .ready cA cB) rfl (by kernel_rfl) ?_
      apply WL.nil
      refine WR.op rfl (by intro l hl; cases hl; show 4 < 9; omega) ?_
      refine WL.write (r := none) (σ' := vK es clock vis e.born (blkC a l g v) (blkC a l g v) .ready cA cB) rfl (by kernel_rfl) ?_
      apply WL.nil
      apply WR.nil
      apply VR.begin
      case hl => exact rfl
      refine code_eq hB ?_
      refine VR.block ?_
      apply VR.region
      case hli => show 4 < 9; omega
      case hd => rfl
      refine WR.op rfl (by intro l hl; cases hl; show 4 < 9; omega) ?_
      apply WL.quiet
      case hw => rfl
      case hq => exact rfl
      apply WL.nil
      refine WR.op rfl (by intro l hl; cases hl; show 4 < 9; omega) ?_
      refine WL.quiet (v := blkV a l g v) rfl (by kernel_rfl) ?_
      apply WL.nil
      refine WR.op rfl (by intro l hl; cases hl; show 4 < 9; omega) ?_
      refine WL.write (r := some (.slice (some ⟨9, 0, none⟩) 1 1)) (σ' := vL es clock vis e.born (blkC a l g v) cA cB) rfl (by kernel_rfl) ?_
      apply WL.nil
      refine WR.op rfl (by intro l hl; cases hl; show 4 < 10; omega) ?_
      refine WL.write (r := some (.slice (some ⟨10, 0, none⟩) (vis.length + 1) unk)) (σ' := vM es clock vis e.born (blkC a l g v) (accV vis) cA cB) rfl (opW_append rfl rfl rfl rfl (app_step es clock vis e.born a l g v cA cB (fun x hx => hsh x (hsub x hx)) (by have := length_le_of_sub (nodup_snoc hnd hnv) (m := es) (fun x hx => by rcases List.mem_append.1 hx with hx | hx; exact hsub x hx; simp only [List.mem_singleton] at hx; subst hx; exact he); simp at this; omega))) ?_
      apply WL.nil
      refine WR.op rfl (by intro l hl; cases hl; show 4 < 11; omega) ?_
      refine WL.write (r := none) (σ' := vM es clock vis e.born (blkC a l g v) (.slice (some ⟨10, 0, none⟩) (vis.length + 1) unk) cA cB) rfl (by kernel_rfl) ?_
      apply WL.nil
      apply WR.nil
      refine VR.inBlock ?_
      apply VR.done
      case hl => exact rfl
      refine WR.op rfl (by simp) ?_
      refine WL.quiet (v := .bool false) rfl (by kernel_rfl) ?_
      apply WL.nil
      apply WR.nil
      apply VB.cond
      case hc => exact rfl
      refine VB.skip (VB.inBlock ?_)
      have hsub' : ∀ x ∈ vis ++ [e], x ∈ es := fun x hx => by
        rcases List.mem_append.1 hx with hx | hx
        · exact hsub x hx
        · simp only [List.mem_singleton] at hx; subst hx; exact he
      refine VB.renum (f' := frL [(0, .func (.yield 4) #[] #[]), (6, .pointer (some ⟨5, 0, none⟩))]) (σ' := vI es clock (vis ++ [e]) cA cB) (fun i => if i = 6 then 10 else i) (by show 5 ≤ 7; omega) (fun i hi => if_neg (by have : i < 5 := hi; omega)) ?_ ?_ (vI_wf (NoBlk.of_shaped hsh) ?_) ?_ rfl (by rw [frL_df]; simp) (ih _ _ ⟨vis ++ [e], rfl, rfl, nodup_snoc hnd hnv, ?_⟩ ?_)
      · intro i j hi hj h
        have hi7 : i < 7 := (vI_wf (NoBlk.of_shaped hsh) hsub').lt i hi
        have hj7 : j < 7 := (vI_wf (NoBlk.of_shaped hsh) hsub').lt j hj
        split at h <;> split at h <;> omega
      · intro i hi
        have hi7 : i < 7 := (vI_wf (NoBlk.of_shaped hsh) hsub').lt i hi
        exact snoc_get hsh hsub' hv i hi7
      · exact hsub'
      · intro t w ht
        have := frL_mem ht
        simp only [List.mem_cons, Prod.mk.injEq, List.not_mem_nil, or_false] at this
        rcases this with ⟨rfl, rfl⟩ | ⟨rfl, rfl⟩
        · have : ren (loc fun i => if i = 6 then 10 else i) (.func (.yield 4) #[] #[]) = .func (.yield 4) #[] #[] := by simp [renFn, loc]
          rw [this]; exact rfl
        · have : ren (loc fun i => if i = 6 then 10 else i) (.pointer (some ⟨5, 0, none⟩)) = .pointer (some ⟨5, 0, none⟩) := by simp [renA, loc]
          rw [this]; exact rfl
      · exact hsub'
      · have h1 : vis.length + 1 ≤ es.length := by
          have := length_le_of_sub (nodup_snoc hnd hnv) hsub'
          simpa using this
        show es.length - ((vis ++ [e]).map (·.born)).length < es.length - (vis.map (·.born)).length
        simp only [List.length_map, List.length_append, List.length_singleton]
        omega
  · rintro r σ' _ ⟨vis, hp, rfl⟩
    refine ⟨.ready, none, 124, 13, f0.tr, #[7], cA, cB, by show (vE es clock vis cA cB).get 4 = _; rw [vE_get]; rfl, by simp, ?_⟩
    refine vb_cast (f' := (frL [(2, .pointer (some ⟨2, 0, none⟩)), (6, .func (.func 103) #[] #[.pointer (some ⟨0, 0, none⟩)])]).mark 3) (σ' := vX es clock vis cA cB) (by kernel_rfl) (by kernel_rfl) ?_
    refine VB.inBlock ?_
    refine VB.seq ?_
    apply VB.region
    case hd => rfl
    apply WL.quiet
    case hw => rfl
    case hq => exact rfl
    apply WL.quiet
    case hw => rfl
    case hq => exact rfl
    apply WL.nil
    refine VB.of_VM (VM.retD (fn := Try.f124) (v := accV vis) ?_ ?_ Try.func124 ?_ ?_)
    · show ([3] : List Nat).Nodup
      decide
    · intro d hd
      have : d ∈ ([3] : List Nat) := hd
      simp only [List.mem_singleton] at this
      subst this
      exact rfl
    · exact rfl
    · exact ⟨vis, hp, rfl, rfl, rfl, rfl⟩
end
end Go.Proofs.Ytlnlopeodpamdaa.Hx
