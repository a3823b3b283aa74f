/-
  The words of a text: what a run of buf.Payload beside nothing says of any state.
-/
import Derived.Test.YtognbiffhgpoaaaGreatLawXRef
set_option maxRecDepth 100000
set_option linter.unusedVariables false
namespace Go.Proofs.YtognbiffhgpoaaaGreat.Hx
open Go AH Go.Proofs
noncomputable section
theorem payIs_of {s : ByteArray} {xs : List Int} (h : ev1 62 [.string s] St.empty = some (.tuple #[.slice (some ⟨0, 0, none⟩) xs.length xs.length, .int .i64 0], St.empty.push (.cells 22 (xs.map (Value.int .u64))))) (hl : xs.length < half) : PayIs s xs := by
  intro σ
  refine WF.know (ev1_ok _ _ _ _ _ h).1 fun hout _ => ?_
  have hs : Small id St.empty σ := ⟨fun i hi => absurd hi (Nat.not_lt_zero _), fun _ _ _ _ h => h, fun i hi => (by rw [St.get_empty] at hi; cases hi), fun i => (by rw [St.get_empty]; trivial), fun i hi => (by rw [St.get_empty] at hi; cases hi)⟩
  have := WF.frame (args₀ := [.string s]) hs (fun v hv => by
    simp only [List.mem_cons, List.not_mem_nil, or_false] at hv
    subst hv
    intro ρ ρ' _; simp) (ev1_ok _ _ _ _ _ h) (R := fun r σ' => r = .tuple #[.slice (some ⟨σ.next, 0, none⟩) xs.length xs.length, .int .i64 0] ∧ σ' = σ.push (.cells 22 (xs.map (Value.int .u64)))) (fun r σ₀' _ ⟨e1, e2⟩ => ?_)
  · simpa using this
  · subst e1; subst e2
    refine ⟨_, Big.push hs hout _, ?_, ?_⟩
    · have hex : exN id St.empty.next σ.next 0 = σ.next := exN_new (π := id) (n₀ := 0)
      simp only [ren_tuple, List.map_toArray, List.map_cons, List.map_nil, ren_slice, ren_int, renA, loc, hex, renC, if_pos hl, Nat.zero_add]
    · congr 1
      simp only [renB, List.map_map]
      congr 1
      apply List.map_congr_left
      intro x _
      simp
/-- The words that a run leaves. -/
def payX (o : Option (Value × St)) : List Int := match o with
  | some (_, σ) => (match σ.get 0 with | .cells _ l => l.map (fun v => match v with | .int _ z => z | _ => 0) | _ => [])
  | none => []
/-- What is known of a text's payload. -/
def PayOk (s : ByteArray) (n : Nat) : Prop := ∃ xs : List Int, xs.length = n ∧ PayIs s xs
abbrev bs (l : List UInt8) : ByteArray := ⟨⟨l⟩⟩
theorem payOk_of {s : ByteArray} {n : Nat} (hn : n < half) (hl : (payX (ev1 62 [.string s] St.empty)).length = n) (h : ev1 62 [.string s] St.empty = some (.tuple #[.slice (some ⟨0, 0, none⟩) n n, .int .i64 0], St.empty.push (.cells 22 ((payX (ev1 62 [.string s] St.empty)).map (Value.int .u64))))) : PayOk s n := by
  refine ⟨_, hl, payIs_of ?_ (by rw [hl]; exact hn)⟩
  rw [hl]; exact h
end
end Go.Proofs.YtognbiffhgpoaaaGreat.Hx
