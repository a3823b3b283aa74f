/-
  AH 4: the operations that leave the world as it is do in the world what they do in the abstract state.
-/
import Derived.Test.YtognbiffhgpoaaaGreatAh3
set_option linter.unusedSimpArgs false
set_option linter.unusedVariables false
namespace AH
open Go
noncomputable section

/-- The frame's slots, as far as they are known. -/
structure FrRel (ρ : Nat → Loc) (f : Fr) (n : Nat) (a : Act) : Prop where
  slot : ∀ t v, f.get t = some v → a.tmps[t]? = some (ren ρ v)
  sc : ∀ t v, f.get t = some v → Sc n v
  defers : a.defers = f.df.map fun i => { target := .collected (ρ i).b, args := #[] }
  dsc : ∀ i ∈ f.df, i < n

section
variable {ρ : Nat → Loc} {f : Fr} {n : Nat} {a : Act}

theorem opd_sound (hF : FrRel ρ f n a) {x : Operand} {v : Value} (h : opd f x = some v) : a.eval x = ren ρ v ∧ Sc n v := by
  cases x with
  | tmp t =>
    simp only [opd] at h
    have h1 := hF.slot t v h
    refine ⟨?_, hF.sc t v h⟩
    simp [Act.eval, Array.getD_eq_getD_getElem?, h1]
  | const u =>
    simp only [opd] at h
    cases hc : closedV 4 u with
    | false => simp [hc] at h
    | true =>
      simp only [hc, cond_true, Option.some.injEq] at h
      subst h
      exact ⟨by simp [Act.eval, closedV_ren 4 u hc], closedV_Sc hc n⟩
  | global g => simp [opd] at h
  | func g =>
    simp only [opd, Option.some.injEq] at h
    subst h
    exact ⟨by simp [Act.eval], Sc_func.2 ⟨trivial, fun v hv => by simp at hv, fun v hv => by simp at hv⟩⟩

theorem opds_sound (hF : FrRel ρ f n a) : ∀ {xs : List Operand} {vs : List Value}, opds f xs = some vs → xs.map a.eval = vs.map (ren ρ) ∧ Scs n vs
  | [], vs, h => by simp only [opds, Option.some.injEq] at h; subst h; exact ⟨rfl, fun v hv => by simp at hv⟩
  | x :: r, vs, h => by
    simp only [opds] at h
    split at h
    · rename_i v hv
      split at h
      · rename_i l hl
        simp only [Option.some.injEq] at h
        subst h
        obtain ⟨h1, h2⟩ := opd_sound hF hv
        obtain ⟨h3, h4⟩ := opds_sound hF hl
        exact ⟨by simp [h1, h3], fun v hv => by rcases List.mem_cons.1 hv with rfl | hv; exact h2; exact h4 v hv⟩
      · cases h
    · cases h

theorem opdO_sound (hF : FrRel ρ f n a) {x : Option Operand} {v : Option Value} (h : opdO f x = some v) : x.map a.eval = v.map (ren ρ) ∧ ∀ u, v = some u → Sc n u := by
  cases x with
  | none => simp only [opdO, Option.some.injEq] at h; subst h; exact ⟨rfl, fun u hu => by cases hu⟩
  | some x =>
    simp only [opdO] at h
    split at h
    · rename_i u hu
      simp only [Option.some.injEq] at h
      subst h
      obtain ⟨h1, h2⟩ := opd_sound hF hu
      exact ⟨by simp [h1], fun u hu => by cases hu; exact h2⟩
    · cases h

theorem partsQ_sound (hF : FrRel ρ f n a) : ∀ {xs : List (Nat × Operand)} {vs : List (Nat × Value)}, partsQ f xs = some vs → xs.map (fun p => (p.1, a.eval p.2)) = vs.map (fun p => (p.1, ren ρ p.2)) ∧ ∀ p ∈ vs, Sc n p.2
  | [], vs, h => by simp only [partsQ, Option.some.injEq] at h; subst h; exact ⟨rfl, fun v hv => by simp at hv⟩
  | (i, x) :: r, vs, h => by
    simp only [partsQ] at h
    split at h
    · rename_i v hv
      split at h
      · rename_i l hl
        simp only [Option.some.injEq] at h
        subst h
        obtain ⟨h1, h2⟩ := opd_sound hF hv
        obtain ⟨h3, h4⟩ := partsQ_sound hF hl
        exact ⟨by simp [h1, h3], fun v hv => by rcases List.mem_cons.1 hv with rfl | hv; exact h2; exact h4 v hv⟩
      · cases h
    · cases h
end

/-! ### Types -/
section
variable (E : Env) {t : Nat} {i : TyI} (h : E.ty t = some i) (w : World)
include h

theorem run_und : (underlying t).run E.P w = .ok i.desc w := run_underlying (E.tyOk t i h).1 w
theorem und_eq : E.P.underlying t = some i.desc := (E.tyOk t i h).1
theorem run_sz : (Go.sizeOf t).run E.P w = .ok i.size w := by
  obtain ⟨_, _, _, info, h1, h2, _⟩ := E.tyOk t i h
  simp [Go.sizeOf, typeInfo, h1, h2]
theorem run_info : ∃ info, (typeInfo t).run E.P w = .ok info w ∧ info.size = i.size ∧ info.bytes = i.bytes ∧ info.zero = some i.zero := by
  obtain ⟨_, _, _, info, h1, h2⟩ := E.tyOk t i h
  exact ⟨info, by simp [typeInfo, h1], h2⟩
theorem run_zero : (zeroValue t).run E.P w = .ok i.zero w := by
  obtain ⟨_, _, _, info, h1, _, _, h3⟩ := E.tyOk t i h
  simp [zeroValue, typeInfo, h1, h3]
theorem run_agg : (isAgg t).run E.P w = .ok i.agg w := by
  simp only [isAgg, Sem.run_bind, run_und E h w, Result.andThen_ok, TyI.agg]
  cases i.desc <;> rfl
theorem zero_closed : closedV 4 i.zero = true := (E.tyOk t i h).2.1
theorem zero_size : i.zero.cells.size = i.size := (E.tyOk t i h).2.2.1
end

/-! ### What is held -/
inductive Hold where
  | cell (b off : Nat) (v : Value)
  | map (b : Nat) (es : List MapEntry) (clock : Nat)

def Hold.at (ρ : Nat → Loc) (w : World) : Hold → Prop
  | .cell b off v => w.cell? ⟨(ρ b).b, (ρ b).o + off, none⟩ = some (ren ρ v)
  | .map b es clock => w.heap[(ρ b).b]? = some (.map (es.map (renE ρ)).toArray clock)

def Hold.in (σ : St) : Hold → Prop
  | .cell b off v => ∃ cs, (σ.get b).known = some cs ∧ cs[off]? = some v
  | .map b es clock => σ.get b = .map es clock

theorem Hold.at_of_in {ρ : Nat → Loc} {σ : St} {w : World} (hR : Rel ρ σ w) {h : Hold} (hi : h.in σ) : h.at ρ w := by
  cases h with
  | cell b off v => obtain ⟨cs, h1, h2⟩ := hi; exact (hR.blk b).cell h1 h2
  | map b es clock =>
    have := hR.blk b
    simp only [Hold.in] at hi
    rw [hi] at this
    exact this.2

def cellHolds (b : Nat) : Nat → List Value → List Hold
  | _, [] => []
  | off, v :: r => .cell b off v :: cellHolds b (off + 1) r

theorem mem_cellHolds {b : Nat} : ∀ {off : Nat} {l : List Value} {h : Hold}, h ∈ cellHolds b off l → ∃ k v, l[k]? = some v ∧ h = .cell b (off + k) v
  | off, [], h, hm => by simp [cellHolds] at hm
  | off, v :: r, h, hm => by
    simp only [cellHolds, List.mem_cons] at hm
    rcases hm with rfl | hm
    · exact ⟨0, v, rfl, rfl⟩
    · obtain ⟨k, u, h1, h2⟩ := mem_cellHolds hm
      exact ⟨k + 1, u, h1, by rw [h2]; congr 1; omega⟩

theorem cellHolds_mem {b : Nat} : ∀ {off : Nat} {l : List Value} {k : Nat} {v : Value}, l[k]? = some v → Hold.cell b (off + k) v ∈ cellHolds b off l
  | off, [], k, v, h => by simp at h
  | off, u :: r, 0, v, h => by simp at h; subst h; simp [cellHolds]
  | off, u :: r, k + 1, v, h => by
    simp only [cellHolds, List.mem_cons]
    refine .inr ?_
    have := cellHolds_mem (b := b) (off := off + 1) (l := r) (k := k) (v := v) (by simpa using h)
    rwa [show off + 1 + k = off + (k + 1) by omega] at this

def opHolds (E : Env) (f : Fr) (σ : St) : Op → List Hold
  | .load t a => match opd f a, E.ty t with
    | some (.pointer (some ad)), some i => (match ldCells σ ad (bif i.agg then i.size else 1) with | some l => cellHolds ad.block ad.off l | none => [])
    | _, _ => []
  | .lookup t x k ok => match opd f x with
    | some (.map (some r)) => (match σ.get r with | .map es c => [.map r es c] | _ => [])
    | _ => []
  | .call { callee := .builtin .len, args, argTypes := _ } => match args.toList with
    | [x] => (match opd f x with
      | some (.map (some r)) => (match σ.get r with | .map es c => [.map r es c] | _ => [])
      | _ => [])
    | _ => []
  | _ => []

theorem ldCells_spec {σ : St} {ad : Addr} {n : Nat} {l : List Value} (h : ldCells σ ad n = some l) : ad.spot = none ∧ l.length = n ∧ ∃ cs, (σ.get ad.block).known = some cs ∧ ad.off + n ≤ cs.length ∧ l = (cs.drop ad.off).take n := by
  simp only [ldCells] at h
  split at h
  · rename_i cs hk
    cases hb : (ad.spot.isNone && Nat.ble (ad.off + n) cs.length) with
    | false => simp [hb] at h
    | true =>
      simp only [hb, cond_true, Option.some.injEq] at h
      simp only [Bool.and_eq_true, Option.isNone_iff_eq_none, Nat.ble_eq] at hb
      subst h
      exact ⟨hb.1, by simp; omega, cs, hk, hb.2, rfl⟩
  · cases h

theorem ldCells_get {σ : St} {ad : Addr} {n : Nat} {l : List Value} (h : ldCells σ ad n = some l) {k : Nat} {v : Value} (hk : l[k]? = some v) : Hold.in σ (.cell ad.block (ad.off + k) v) := by
  obtain ⟨_, h1, cs, h2, h3, h4⟩ := ldCells_spec h
  refine ⟨cs, h2, ?_⟩
  have hkn : k < n := by
    rcases Nat.lt_or_ge k l.length with h' | h'
    · omega
    · rw [List.getElem?_eq_none h'] at hk; cases hk
  rw [h4, List.getElem?_take, if_pos hkn, List.getElem?_drop] at hk
  exact hk

theorem known_sc {σ : St} {ρ : Nat → Loc} {w : World} (hR : Rel ρ σ w) {b : Nat} {cs : List Value} (h : (σ.get b).known = some cs) : Scs σ.next cs := by
  have := hR.sc b
  cases hb : σ.get b <;> rw [hb] at h this <;> simp only [Blk.known, Option.some.injEq, reduceCtorEq] at h <;> subst h <;> exact this

theorem ldCells_sc {σ : St} {ρ : Nat → Loc} {w : World} (hR : Rel ρ σ w) {ad : Addr} {n : Nat} {l : List Value} (h : ldCells σ ad n = some l) : Scs σ.next l := by
  obtain ⟨_, _, cs, h2, _, h4⟩ := ldCells_spec h
  subst h4
  exact fun v hv => known_sc hR h2 v (List.mem_of_mem_drop (List.mem_of_mem_take hv))

theorem add_renA (ρ : Nat → Loc) (ad : Addr) (h : ad.spot = none) (k : Nat) : (renA ρ ad).add k = ⟨(ρ ad.block).b, (ρ ad.block).o + (ad.off + k), none⟩ := by
  unfold Addr.add renA
  split
  · rename_i e; subst e; simp [h]
  · simp [Nat.add_assoc]

theorem renA_addA (ρ : Nat → Loc) (ad : Addr) (k : Nat) : renA ρ (addA ad k) = (renA ρ ad).add k := by
  unfold Addr.add addA renA
  split
  · simp_all
  · simp [Nat.add_assoc]

theorem addA_block (ad : Addr) (k : Nat) : (addA ad k).block = ad.block := by unfold addA; split <;> rfl

/-- Cells that are held are loaded. -/
theorem run_ldCells {ρ : Nat → Loc} {w : World} (P : Program) {ad : Addr} (hs : ad.spot = none) {l : List Value} (h : ∀ k v, l[k]? = some v → Hold.at ρ w (.cell ad.block (ad.off + k) v)) :
    (loadCells (renA ρ ad) l.length).run P w = .ok (l.map (ren ρ)).toArray w := by
  have := run_loadCells_list (P := P) w (renA ρ ad) (l.map (ren ρ)) (fun j v hj => by
    rw [add_renA ρ ad hs]
    simp only [List.getElem?_map, Option.map_eq_some_iff] at hj
    obtain ⟨u, hu, rfl⟩ := hj
    exact h j u hu)
  simpa using this

theorem run_ldVar (E : Env) {ρ : Nat → Loc} {σ : St} {w : World} {t : Nat} {i : TyI} (ht : E.ty t = some i) {ad : Addr} {v : Value} (h : ldVar i σ ad = some v)
    {l : List Value} (hl : ldCells σ ad (bif i.agg then i.size else 1) = some l) {w₂ : World} (hH : ∀ x ∈ cellHolds ad.block ad.off l, x.at ρ w₂) :
    (loadVar t (renA ρ ad)).run E.P w₂ = .ok (ren ρ v) w₂ := by
  obtain ⟨hs, hlen, _⟩ := ldCells_spec hl
  have hc := run_ldCells (ρ := ρ) (w := w₂) E.P hs (l := l) (fun k v hk => hH _ (cellHolds_mem hk))
  simp only [loadVar, Sem.run_bind, run_agg E ht, Result.andThen_ok]
  unfold ldVar at h
  cases hA : i.agg with
  | true =>
    simp only [hA, cond_true] at h hl hlen
    rw [hl] at h
    simp only [Option.some.injEq] at h
    subst h
    simp only [if_true, Sem.run_bind, run_sz E ht, Result.andThen_ok]
    rw [hlen] at hc
    simp [hc]
  | false =>
    simp only [hA, cond_false] at h hl hlen
    rw [hl] at h
    match l, hlen, h with
    | [u], _, h =>
      simp only [Option.some.injEq] at h
      subst h
      have := hH (.cell ad.block ad.off u) (by simp [cellHolds])
      have hre : renA ρ ad = ⟨(ρ ad.block).b, (ρ ad.block).o + ad.off, none⟩ := by simp [renA, hs]
      simp only [Bool.false_eq_true, if_false, run_load, hre]
      simp only [Hold.at] at this
      rw [this]

end
end AH
