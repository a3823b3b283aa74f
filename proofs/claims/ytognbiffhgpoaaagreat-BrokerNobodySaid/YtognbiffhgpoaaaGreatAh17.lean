/-
  AH 17: all operations that write, or make memory, together.
-/
import Derived.Test.YtognbiffhgpoaaaGreatAh16
set_option linter.unusedSimpArgs false
set_option linter.unusedVariables false
set_option linter.unusedSectionVars false
namespace AH
open Go
noncomputable section

section
variable (E : Env) {ρ : Nat → Loc} {σ σ' : St} {w : World} (hR : Rel ρ σ w) {f : Fr} {a : Act} (hF : FrRel ρ f σ.next a) {dst : Option Tmp} {type : TypeId} {pos : String} {after : Array Edge} {guard : Option (Nat × Bool)} {r : Option Value}
include hR hF

theorem W_mapUpdate {t : Nat} {m k x : Operand} (h : opW E f σ (.mapUpdate t m k x) = some (r, σ')) : Out E ρ σ w (execOp a.eval ⟨dst, .mapUpdate t m k x, type, pos, after, guard⟩) r σ' := by
  simp only [opW] at h
  split at h
  · rename_i vm vk vx hm hk hx
    split at h
    · rename_i σ₂ hu
      simp only [Option.some.injEq, Prod.mk.injEq] at h
      obtain ⟨rfl, rfl⟩ := h
      obtain ⟨h1, _⟩ := opd_sound hF hm
      obtain ⟨h2, h2s⟩ := opd_sound hF hk
      obtain ⟨h3, h3s⟩ := opd_sound hF hx
      obtain ⟨w', h4, h5⟩ := mapUpdQ_sound E hR hu h2s h3s
      refine ⟨w', ρ, ?_, h5, fun v hv => by cases hv⟩
      simp only [execOp, h1, h2, h3, nxt]
      exact run_u h4
    · cases h
  · cases h

theorem W_insert {t : Nat} {m k x : Operand} (h : opW E f σ (.insert t m k x) = some (r, σ')) : Out E ρ σ w (execOp a.eval ⟨dst, .insert t m k x, type, pos, after, guard⟩) r σ' := by
  simp only [opW] at h
  split at h
  · rename_i vm vk vx hm hk hx
    split at h
    · rename_i σ₂ hu
      simp only [Option.some.injEq, Prod.mk.injEq] at h
      obtain ⟨rfl, rfl⟩ := h
      obtain ⟨h1, _⟩ := opd_sound hF hm
      obtain ⟨h2, h2s⟩ := opd_sound hF hk
      obtain ⟨h3, h3s⟩ := opd_sound hF hx
      obtain ⟨w', h4, h5⟩ := mapUpdQ_sound E hR hu h2s h3s
      refine ⟨w', ρ, ?_, h5, fun v hv => by cases hv⟩
      simp only [execOp, h1, h2, h3, nxt]
      exact run_u h4
    · cases h
  · cases h

theorem W_range {t : Nat} {x : Operand} (h : opW E f σ (.range t x) = some (r, σ')) : Out E ρ σ w (execOp a.eval ⟨dst, .range t x, type, pos, after, guard⟩) r σ' := by
  simp only [opW] at h
  split at h
  · rename_i v hx
    split at h
    · rename_i u σ₂ hu
      simp only [Option.some.injEq, Prod.mk.injEq] at h
      obtain ⟨rfl, rfl⟩ := h
      obtain ⟨h1, h1s⟩ := opd_sound hF hx
      obtain ⟨w', ρ', h4, h5, h6⟩ := rangeQ_sound E hR hu h1s
      refine ⟨w', ρ', ?_, h5, fun v hv => by cases hv; exact h6⟩
      simp only [execOp, h1, nxt]
      exact run_v' h4
    · cases h
  · cases h

theorem W_next {x : Operand} {s : Bool} (h : opW E f σ (.next x s) = some (r, σ')) : Out E ρ σ w (execOp a.eval ⟨dst, .next x s, type, pos, after, guard⟩) r σ' := by
  simp only [opW] at h
  split at h
  · rename_i v hx
    split at h
    · rename_i u σ₂ hu
      simp only [Option.some.injEq, Prod.mk.injEq] at h
      obtain ⟨rfl, rfl⟩ := h
      obtain ⟨h1, h1s⟩ := opd_sound hF hx
      obtain ⟨w', h4, h5, h6⟩ := nextQ_sound E.P hR hu type
      refine ⟨w', ρ, ?_, h5, fun v hv => by cases hv; exact h6⟩
      simp only [execOp, h1, nxt]
      exact run_v' h4
    · cases h
  · cases h

theorem W_entry {x : Operand} (h : opW E f σ (.entry x) = some (r, σ')) : Out E ρ σ w (execOp a.eval ⟨dst, .entry x, type, pos, after, guard⟩) r σ' := by
  simp only [opW] at h
  split at h
  · rename_i v hx
    split at h
    · rename_i u hu
      simp only [Option.some.injEq, Prod.mk.injEq] at h
      obtain ⟨rfl, rfl⟩ := h
      obtain ⟨h1, h1s⟩ := opd_sound hF hx
      obtain ⟨h4, h6⟩ := entryQ_sound E.P hR hu
      refine ⟨w, ρ, ?_, Evo.refl hR, fun v hv => by cases hv; exact h6⟩
      simp only [execOp, h1, nxt]
      exact run_v' h4
    · cases h
  · cases h

theorem W_convert {s d : Nat} {x : Operand} (h : opW E f σ (.convert s d x) = some (r, σ')) : Out E ρ σ w (execOp a.eval ⟨dst, .convert s d x, type, pos, after, guard⟩) r σ' := by
  simp only [opW] at h
  split at h
  · rename_i i j v hs hd hx
    obtain ⟨h1, h1s⟩ := opd_sound hF hx
    split at h
    · rename_i e str hds hdd
      split at h
      · rename_i je he
        split at h
        · rename_i hje
          split at h
          · rename_i hc
            simp only [Option.some.injEq, Prod.mk.injEq] at h
            obtain ⟨rfl, rfl⟩ := h
            obtain ⟨w', ρ', h2, h3⟩ := stringToBytes_sound E hR e str
            refine ⟨w', ρ', ?_, h3, fun v hv => by cases hv; exact Sc_slice (by simp)⟩
            simp only [execOp, h1, nxt]
            refine run_v' ?_
            rw [← h2]
            simp [Go.convert, run_und E hs, run_und E hd, hds, hdd, run_und E he, hje]
          · cases h
        · cases h
      · cases h
    · rename_i e n c hds hdd
      split at h
      · rename_i je he
        split at h
        · rename_i hje
          simp only [Option.some.injEq, Prod.mk.injEq] at h
          obtain ⟨rfl, rfl⟩ := h
          refine ⟨w, ρ, ?_, Evo.refl hR, fun v hv => by cases hv; simp⟩
          simp only [execOp, h1, nxt]
          refine run_v' ?_
          simp [Go.convert, run_und E hs, run_und E hd, hds, hdd, run_und E he, hje, Conv.bytesToString, mkStr]
          rfl
        · cases h
      · cases h
    · rename_i e ad n c hds hdd
      split at h
      · rename_i je he
        split at h
        · rename_i hje
          split at h
          · rename_i l hl
            split at h
            · rename_i bs hbs
              simp only [Option.some.injEq, Prod.mk.injEq] at h
              obtain ⟨rfl, rfl⟩ := h
              refine ⟨w, ρ, ?_, Evo.refl hR, fun v hv => by cases hv; simp⟩
              simp only [execOp, h1, nxt]
              refine run_v' ?_
              obtain ⟨hsp, hlen, _⟩ := ldCells_spec hl
              have h2 := run_ldCells (ρ := ρ) (w := w) E.P hsp (l := l) (fun k v hk => Hold.at_of_in hR (ldCells_get hl hk))
              rw [hlen] at h2
              simp only [Go.convert, Sem.run_bind, run_und E hs, run_und E hd, hds, hdd, ren_slice, Result.andThen_ok, run_und E he, hje, Conv.bytesToString, h2, List.forIn_toArray]
              rw [bytesOf_sound E.P w ρ _ (fun _ _ => rfl) hbs]
              simp [mkStr]
            · cases h
          · cases h
        · cases h
      · cases h
    · cases h
  · cases h

theorem W_append {args : Array Operand} {at_ : Array TypeId} (h : opW E f σ (.call ⟨.builtin .append, args, at_⟩) = some (r, σ')) : Out E ρ σ w (execOp a.eval ⟨dst, .call ⟨.builtin .append, args, at_⟩, type, pos, after, guard⟩) r σ' := by
  simp only [opW] at h
  split at h
  · rename_i s x t tx ha ht
    split at h
    · rename_i vs vx hs hx
      split at h
      · rename_i u σ₂ hu
        simp only [Option.some.injEq, Prod.mk.injEq] at h
        obtain ⟨rfl, rfl⟩ := h
        obtain ⟨h1, h1s⟩ := opd_sound hF hs
        obtain ⟨h2, h2s⟩ := opd_sound hF hx
        have ea := arr_of_toList ha
        have et := arr_of_toList ht
        subst ea; subst et
        obtain ⟨w', ρ', h3, h4, h5⟩ := appQ_sound E hR hu h1s type
        refine ⟨w', ρ', ?_, h4, fun v hv => by cases hv; exact h5⟩
        simp only [execOp, resolve, invoke, builtin, nxt, List.map_toArray, List.map_cons, List.map_nil, h1, h2, Sem.run_bind, Sem.run_pure, Result.andThen_ok, h3]
      · cases h
    · cases h
  · cases h

theorem W_copy {args : Array Operand} {at_ : Array TypeId} (h : opW E f σ (.call ⟨.builtin .copy, args, at_⟩) = some (r, σ')) : Out E ρ σ w (execOp a.eval ⟨dst, .call ⟨.builtin .copy, args, at_⟩, type, pos, after, guard⟩) r σ' := by
  simp only [opW] at h
  split at h
  · rename_i s x t tx ha ht
    split at h
    · rename_i vs vx hs hx
      split at h
      · rename_i u σ₂ hu
        simp only [Option.some.injEq, Prod.mk.injEq] at h
        obtain ⟨rfl, rfl⟩ := h
        obtain ⟨h1, h1s⟩ := opd_sound hF hs
        obtain ⟨h2, h2s⟩ := opd_sound hF hx
        have ea := arr_of_toList ha
        have et := arr_of_toList ht
        subst ea; subst et
        obtain ⟨w', h3, h4, h5⟩ := copyQ_sound E hR (tx := tx) hu type
        refine ⟨w', ρ, ?_, h4, fun v hv => by cases hv; exact closedV_Sc h5 _⟩
        simp only [execOp, resolve, invoke, builtin, nxt, List.map_toArray, List.map_cons, List.map_nil, h1, h2, Sem.run_bind, Sem.run_pure, Result.andThen_ok, h3, closedV_ren 4 _ h5 ρ]
      · cases h
    · cases h
  · cases h

theorem W_delete {args : Array Operand} {at_ : Array TypeId} (h : opW E f σ (.call ⟨.builtin .delete, args, at_⟩) = some (r, σ')) : Out E ρ σ w (execOp a.eval ⟨dst, .call ⟨.builtin .delete, args, at_⟩, type, pos, after, guard⟩) r σ' := by
  simp only [opW] at h
  split at h
  · rename_i s x t tx ha ht
    split at h
    · rename_i vs vx hs hx
      split at h
      · rename_i u σ₂ hu
        simp only [Option.some.injEq, Prod.mk.injEq] at h
        obtain ⟨rfl, rfl⟩ := h
        obtain ⟨h1, h1s⟩ := opd_sound hF hs
        obtain ⟨h2, h2s⟩ := opd_sound hF hx
        have ea := arr_of_toList ha
        have et := arr_of_toList ht
        subst ea; subst et
        obtain ⟨w', h3, h4, h5⟩ := delQ_sound E hR (tk := tx) hu type
        refine ⟨w', ρ, ?_, h4, fun v hv => by cases hv; exact closedV_Sc h5 _⟩
        simp only [execOp, resolve, invoke, builtin, nxt, List.map_toArray, List.map_cons, List.map_nil, h1, h2, Sem.run_bind, Sem.run_pure, Result.andThen_ok, h3, closedV_ren 4 _ h5 ρ]
      · cases h
    · cases h
  · cases h

theorem W_clear {args : Array Operand} {at_ : Array TypeId} (h : opW E f σ (.call ⟨.builtin .clear, args, at_⟩) = some (r, σ')) : Out E ρ σ w (execOp a.eval ⟨dst, .call ⟨.builtin .clear, args, at_⟩, type, pos, after, guard⟩) r σ' := by
  simp only [opW] at h
  split at h
  · rename_i x t ha ht
    split at h
    · rename_i vx hx
      split at h
      · rename_i u σ₂ hu
        simp only [Option.some.injEq, Prod.mk.injEq] at h
        obtain ⟨rfl, rfl⟩ := h
        obtain ⟨h2, h2s⟩ := opd_sound hF hx
        have ea := arr_of_toList ha
        have et := arr_of_toList ht
        subst ea; subst et
        obtain ⟨w', h3, h4, h5⟩ := clearQ_sound E hR hu type
        refine ⟨w', ρ, ?_, h4, fun v hv => by cases hv; exact closedV_Sc h5 _⟩
        simp only [execOp, resolve, invoke, builtin, nxt, List.map_toArray, List.map_cons, List.map_nil, h2, Sem.run_bind, Sem.run_pure, Result.andThen_ok, h3, closedV_ren 4 _ h5 ρ]
      · cases h
    · cases h
  · cases h

end

theorem opW_sound (E : Env) {ρ : Nat → Loc} {σ σ' : St} {w : World} (hR : Rel ρ σ w) {f : Fr} {a : Act} (hF : FrRel ρ f σ.next a) (o : Oper) {r : Option Value} (h : opW E f σ o.op = some (r, σ')) :
    Out E ρ σ w (execOp a.eval o) r σ' := by
  obtain ⟨dst, op, type, pos, after, guard⟩ := o
  dsimp only at h
  cases op with
  | alloc e => exact W_alloc E hR hF h
  | box e x => exact W_box E hR hF h
  | buildSlice t len parts => exact W_buildSlice E hR hF h
  | store t x y => exact W_store E hR hF h
  | makeMap t r' => exact W_makeMap E hR hF h
  | makeSlice t l c => exact W_makeSlice E hR hF h
  | mapUpdate t m k x => exact W_mapUpdate E hR hF h
  | insert t m k x => exact W_insert E hR hF h
  | range t x => exact W_range E hR hF h
  | next x s => exact W_next E hR hF h
  | entry x => exact W_entry E hR hF h
  | convert s d x => exact W_convert E hR hF h
  | call c =>
    obtain ⟨callee, args, at_⟩ := c
    cases callee with
    | value g => simp [opW] at h
    | invoke g m => simp [opW] at h
    | builtin b =>
      cases b with
      | append => exact W_append E hR hF h
      | copy => exact W_copy E hR hF h
      | clear => exact W_clear E hR hF h
      | delete => exact W_delete E hR hF h
      | _ => simp [opW] at h
  | _ => simp [opW] at h

end
end AH
