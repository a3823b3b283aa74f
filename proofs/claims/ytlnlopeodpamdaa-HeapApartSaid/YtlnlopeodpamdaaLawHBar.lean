/-
  mem's Bar and Free in any state that has the memory.
-/
import Derived.Test.YtlnlopeodpamdaaLawHMem
import Derived.Test.YtlnlopeodpamdaaAh37
set_option maxRecDepth 100000
set_option linter.unusedVariables false
namespace Go.Proofs.Ytlnlopeodpamdaa.Hx
open Go AH Go.Proofs
noncomputable section

theorem setR_sc {n : Nat} {v : Value} {l : List Value} (hl : Scs n l) (hv : Sc n v) (p : Nat) : ∀ k, Scs n (setR v l p k)
  | 0 => hl
  | k + 1 => putAt_sc (setR_sc hl hv p k) fun u hu => by simp only [List.mem_singleton] at hu; rw [hu]; exact hv
theorem setR_len (v : Value) (l : List Value) (p : Nat) : ∀ k, (setR v l p k).length = l.length
  | 0 => rfl
  | k + 1 => by rw [setR, putAt_length, setR_len v l p k]
theorem setR_map {v : Value} {l : List Value} {ρ : Nat → AH.Loc} (hl : l.map (AH.ren ρ) = l) (hv : AH.ren ρ v = v) (p : Nat) : ∀ k, (setR v l p k).map (AH.ren ρ) = setR v l p k
  | 0 => hl
  | k + 1 => by rw [setR, putAt_map, setR_map hl hv p k, List.map_cons, List.map_nil, hv]
theorem repl_map {v : Value} {ρ : Nat → AH.Loc} (hv : AH.ren ρ v = v) : ∀ k, (repl k [v]).map (AH.ren ρ) = repl k [v]
  | 0 => rfl
  | k + 1 => by rw [repl, List.map_append, repl_map hv k, List.map_cons, List.map_nil, hv]
theorem repl_sc {v : Value} {n : Nat} (hv : Sc n v) : ∀ k, Scs n (repl k [v])
  | 0 => fun u hu => by simp [repl] at hu
  | k + 1 => fun u hu => by
    rcases List.mem_append.1 hu with hu | hu
    · simp only [List.mem_singleton] at hu; rw [hu]; exact hv
    · exact repl_sc hv k u hu

def barS (s : HS) (p k : Nat) : HS := { s with bs := setR (.bool true) s.bs p k }
def freeS (s : HS) (p k : Nat) : HS := { s with bs := setR (.bool false) s.bs p k, ws := putAt s.ws p (repl k [.int .u64 0]) }
theorem barS_ok {s : HS} (h : s.MOk) (p k : Nat) : (barS s p k).MOk := ⟨h.cs, h.ws, setR_sc h.bs (Sc_bool _ _) p k, h.cl, h.wl, (setR_len _ _ _ _).trans h.bl, h.nl⟩
theorem freeS_ok {s : HS} (h : s.MOk) (p k : Nat) : (freeS s p k).MOk := ⟨h.cs, putAt_sc h.ws (repl_sc (Sc_int _ _ _) k), setR_sc h.bs (Sc_bool _ _) p k, h.cl, (putAt_length _ _ _).trans h.wl, (setR_len _ _ _ _).trans h.bl, h.nl⟩
theorem barS_flat {s : HS} (h : s.MFlat) (p k : Nat) : (barS s p k).MFlat := ⟨h.cs, h.ws, setR_map h.bs (by simp) p k, h.n⟩
theorem freeS_flat {s : HS} (h : s.MFlat) (p k : Nat) : (freeS s p k).MFlat := ⟨h.cs, (putAt_map _ _ _ _).trans (by rw [h.ws, repl_map (by simp)]; rfl), setR_map h.bs (by simp) p k, h.n⟩

theorem args3 (a k : Int) : Scs 7 [.pointer (some ⟨2, 0, none⟩), .int .i64 a, .int .i64 k] := fun u hu => by
  simp only [List.mem_cons, List.not_mem_nil, or_false] at hu
  rcases hu with rfl | rfl | rfl
  · exact Sc_ptr (by show 2 < 7; omega)
  · exact Sc_int _ _ _
  · exact Sc_int _ _ _
theorem ren3 (a k : Int) : ([.pointer (some ⟨2, 0, none⟩), .int .i64 a, .int .i64 k] : List Value).map (AH.ren (loc id)) = [.pointer (some ⟨2, 0, none⟩), .int .i64 a, .int .i64 k] := by simp [renA, loc]

/-- Bars are set. -/
theorem bar_m (s : HS) (p k : Nat) (h1 : 1 ≤ k) (hk : p + k ≤ s.n + 1) (hs0 : s.MOk) :
    WF M.toEnv 71 [.pointer (some ⟨2, 0, none⟩), .int .i64 p, .int .i64 k] (ms s) (fun r σ' => r = .int .i64 0 ∧ σ' = ms (barS s p k)) :=
  WF.run ev0_ok (giv := givL [(10, .c (.int .i64 0) (ms (barS s p k)))]) (n := 100) (fn := Try.f71)
    (p' := True ∧ WF M.toEnv 100 [.pointer (some ⟨2, 0, none⟩), .int .i64 p, .int .i64 k, .bool true] (ms s) (fun r σ' => r = .int .i64 0 ∧ σ' = ms (barS s p k))) Try.func71 rfl (by kernel_rfl) ⟨trivial, set_m s p k true h1 hk hs0⟩

theorem bar_any {s : HS} {σ : St} (p k : Nat) (h1 : 1 ≤ k) (hk : p + k ≤ s.n + 1) (h0 : s.MOk) (f0 : s.MFlat) (h7 : 7 ≤ σ.next) (g2 : σ.get 2 = (ms s).get 2) (g5 : σ.get 5 = (ms s).get 5) (g6 : σ.get 6 = (ms s).get 6) :
    WF M.toEnv 71 [.pointer (some ⟨2, 0, none⟩), .int .i64 p, .int .i64 k] σ (fun r σ' => r = .int .i64 0 ∧ σ' = putM (barS s p k) σ) :=
  liftM h0 f0 (barS_ok h0 p k) (barS_flat f0 p k) h7 g2 g5 g6 (args3 _ _) (ren3 _ _) (fun ρ => by simp) (bar_m s p k h1 hk h0)
theorem free_any {s : HS} {σ : St} (p k : Nat) (h1 : 1 ≤ k) (hk : p + k ≤ s.n + 1) (h0 : s.MOk) (f0 : s.MFlat) (h7 : 7 ≤ σ.next) (g2 : σ.get 2 = (ms s).get 2) (g5 : σ.get 5 = (ms s).get 5) (g6 : σ.get 6 = (ms s).get 6) :
    WF M.toEnv 74 [.pointer (some ⟨2, 0, none⟩), .int .i64 p, .int .i64 k] σ (fun r σ' => r = .int .i64 0 ∧ σ' = putM (freeS s p k) σ) :=
  liftM h0 f0 (freeS_ok h0 p k) (freeS_flat f0 p k) h7 g2 g5 g6 (args3 _ _) (ren3 _ _) (fun ρ => by simp) (free74_m s p k h1 hk h0)
theorem free_hs {s : HS} (p k : Nat) (h1 : 1 ≤ k) (hk : p + k ≤ s.n + 1) (h0 : s.MOk) (f0 : s.MFlat) :
    WF M.toEnv 74 [.pointer (some ⟨2, 0, none⟩), .int .i64 p, .int .i64 k] (hs s) (fun r σ' => r = .int .i64 0 ∧ σ' = hs { s with bs := setR (.bool false) s.bs p k, ws := putAt s.ws p (repl k [.int .u64 0]) }) :=
  (free_any (s := s) (σ := hs s) p k h1 hk h0 f0 (by show 7 ≤ 7; omega) rfl rfl rfl).mono fun r σ' _ ⟨e1, e2⟩ => ⟨e1, e2.trans (by kernel_rfl)⟩
end
end Go.Proofs.Ytlnlopeodpamdaa.Hx
