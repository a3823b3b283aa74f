/-
  Copies of maps, of a memory, of a heap.
-/
import Derived.Test.YtlnlopeodpamdaaLawHTwo
set_option maxRecDepth 100000
set_option linter.unusedVariables false
namespace Go.Proofs.Ytlnlopeodpamdaa.Hx
open Go AH Go.Proofs
noncomputable section

theorem isClone : IsClone M.P 106 := ⟨Try.f106, Try.func106, by kernel_rfl, by kernel_rfl, by kernel_rfl, by kernel_rfl⟩

theorem clone82 {σ : St} {m cl : Nat} {es : List MapEntry} (hm : σ.get m = .map es cl) : WF M.toEnv 82 [.map (some m)] σ (fun r σ' => r = .map (some σ.next) ∧ σ' = σ.push (.map es cl)) := by
  refine WF.of_VB (fn := Try.f82) Try.func82 rfl rfl (by show 1 ≤ 9; omega) ?_
  refine VB.seq ?_
  apply VB.region
  case hd => rfl
  apply WL.quiet
  case hw => rfl
  case hq => exact rfl
  apply WL.nil
  refine VB.seq (VB.seq ?_)
  apply VB.region
  case hd => rfl
  iterate 2
    apply WL.quiet
    case hw => rfl
    case hq => exact rfl
  apply WL.nil
  apply VB.cond
  case hc => exact rfl
  refine VB.skip (VB.seq ?_)
  apply VB.region
  case hd => rfl
  iterate 2
    apply WL.quiet
    case hw => rfl
    case hq => exact rfl
  refine WL.mapsClone (t := 80) (m := m) (g := 106) (es := es) (cl := cl) rfl rfl rfl rfl isClone hm ?_
  iterate 2
    apply WL.quiet
    case hw => rfl
    case hq => exact rfl
  apply WL.nil
  exact VB.ret (v := .map (some σ.next)) rfl Try.func82 rfl ⟨rfl, rfl⟩
theorem clone83 {σ : St} {m cl : Nat} {es : List MapEntry} (hm : σ.get m = .map es cl) : WF M.toEnv 83 [.map (some m)] σ (fun r σ' => r = .map (some σ.next) ∧ σ' = σ.push (.map es cl)) := by
  refine WF.of_VB (fn := Try.f83) Try.func83 rfl rfl (by show 1 ≤ 9; omega) ?_
  refine VB.seq ?_
  apply VB.region
  case hd => rfl
  apply WL.quiet
  case hw => rfl
  case hq => exact rfl
  apply WL.nil
  refine VB.seq (VB.seq ?_)
  apply VB.region
  case hd => rfl
  iterate 2
    apply WL.quiet
    case hw => rfl
    case hq => exact rfl
  apply WL.nil
  apply VB.cond
  case hc => exact rfl
  refine VB.skip (VB.seq ?_)
  apply VB.region
  case hd => rfl
  iterate 2
    apply WL.quiet
    case hw => rfl
    case hq => exact rfl
  refine WL.mapsClone (t := 81) (m := m) (g := 106) (es := es) (cl := cl) rfl rfl rfl rfl isClone hm ?_
  iterate 2
    apply WL.quiet
    case hw => rfl
    case hq => exact rfl
  apply WL.nil
  exact VB.ret (v := .map (some σ.next)) rfl Try.func83 rfl ⟨rfl, rfl⟩

def csL (c1 : Int) : List Value := [.int .i64 0, .int .i64 c1, .int .i64 0, .int .i64 0, .int .i64 0, .int .i64 0, .int .i64 (-1), .bool false]
/-- A heap in which nothing was given back yet; of its memory's steps only stores were done. -/
def lawS (s : HS) (c1 : Int) : HS := { s with cs := csL c1, row := false, wv := .slice none 0 0 }
def X8 (xb : Blk) : St := (⟨7, .leaf⟩ : St).push xb
def hdr (a b n c : Nat) (c1 : Int) : Blk := .cells 107 (.slice (some ⟨a, 0, none⟩) (n + 1) c :: .slice (some ⟨b, 0, none⟩) (n + 1) c :: csL c1)
def hst (p e g : Nat) (wv : Value) (first words bad : Int) : Blk := .cells 83 [.pointer (some ⟨p, 0, none⟩), .int .i64 first, .int .i64 words, .map (some e), .map (some g), wv, .int .i64 bad]
def s44o (s : HS) (c1 : Int) (xb : Blk) : St := mix (lawS s c1) (X8 xb |>.push (hdr 5 6 s.n (s.n + 1) c1))
def s44a (s : HS) (c1 : Int) (xb : Blk) : St := mix (lawS s c1) (X8 xb |>.push (hdr 5 6 s.n (s.n + 1) c1) |>.push (.cells 89 []) |>.push (.row 89 1 s.ws))
def s44b (s : HS) (c1 : Int) (xb : Blk) : St := mix (lawS s c1) (X8 xb |>.push (hdr 5 6 s.n (s.n + 1) c1) |>.push (.cells 89 []) |>.push (.row 89 1 s.ws) |>.push (.cells 4 []) |>.push (.row 4 1 s.bs))
/-- Behind the memory's copy. -/
def s44 (s : HS) (c1 : Int) (xb : Blk) : St := mix (lawS s c1) (X8 xb |>.push (hdr 10 12 s.n unk c1) |>.push (.cells 89 []) |>.push (.row 89 1 s.ws) |>.push (.cells 4 []) |>.push (.row 4 1 s.bs))

theorem clone44 (s : HS) (c1 : Int) (xb : Blk) (hwl : s.ws.length = s.n + 1) (hbl : s.bs.length = s.n + 1) (hn : s.n < 1000000) : WF M.toEnv 44 [.pointer (some ⟨2, 0, none⟩)] (mix (lawS s c1) (X8 xb)) (fun r σ' => r = .pointer (some ⟨8, 0, none⟩) ∧ σ' = s44 s c1 xb) := by
  refine WF.run ev0_ok (giv := givL [(13, .c (.slice (some ⟨10, 0, none⟩) (s.n + 1) unk) (s44a s c1 xb)), (18, .c (.slice (some ⟨12, 0, none⟩) (s.n + 1) unk) (s44b s c1 xb))]) (n := 100) (fn := Try.f44)
    (p' := ((True ∧ WF M.toEnv 84 [.slice (some ⟨5, 0, none⟩) (s.n + 1) (s.n + 1)] (s44o s c1 xb) (fun r σ' => r = .slice (some ⟨10, 0, none⟩) (s.n + 1) unk ∧ σ' = s44a s c1 xb))
      ∧ (Hold.cell 2 1 (.slice (some ⟨6, 0, none⟩) (s.n + 1) (s.n + 1))).in (s44a s c1 xb) ∧ True)
      ∧ WF M.toEnv 88 [.slice (some ⟨6, 0, none⟩) (s.n + 1) (s.n + 1)] (s44a s c1 xb) (fun r σ' => r = .slice (some ⟨12, 0, none⟩) (s.n + 1) unk ∧ σ' = s44b s c1 xb)) Try.func44 rfl (by kernel_rfl) ⟨⟨⟨trivial, ?_⟩, ?_, trivial⟩, ?_⟩
  · refine (clone84 (σ := s44o s c1 xb) (b := 5) (a := 0) (k := s.n + 1) (c := s.n + 1) (ws := s.ws) (by rw [s44o, mix_get, if_pos (by omega), hs_get]; rfl) (by show 5 < 9; omega) (by omega) (by omega) (by omega)).mono fun r σ' _ ⟨e1, e2⟩ => ⟨e1, e2.trans ?_⟩
    rw [List.drop_zero, List.take_of_length_le (by omega)]
    kernel_rfl
  · refine ⟨.slice (some ⟨5, 0, none⟩) (s.n + 1) (s.n + 1) :: .slice (some ⟨6, 0, none⟩) (s.n + 1) (s.n + 1) :: csL c1, ?_, rfl⟩
    rw [s44a, mix_get, if_pos (by omega), hs_get]; rfl
  · refine (clone88 (σ := s44a s c1 xb) (b := 6) (a := 0) (k := s.n + 1) (c := s.n + 1) (ws := s.bs) (by rw [s44a, mix_get, if_pos (by omega), hs_get]; rfl) (by show 6 < 11; omega) (by omega) (by omega) (by omega)).mono fun r σ' _ ⟨e1, e2⟩ => ⟨e1, e2.trans ?_⟩
    rw [List.drop_zero, List.take_of_length_le (by omega)]
    kernel_rfl

def s41o (s : HS) (c1 : Int) (xb : Blk) : St := (s44 s c1 xb).push (hst 2 1 3 (.slice none 0 0) s.first s.words s.bad)
def s41b (s : HS) (c1 : Int) (xb : Blk) : St := (s41o s c1 xb).push (.map s.es s.clock)
def s41c (s : HS) (c1 : Int) (xb : Blk) : St := (s41b s c1 xb).push (.map s.gs s.gclock)
/-- Behind the heap's copy. -/
def s41 (s : HS) (c1 : Int) (xb : Blk) : St := (s44 s c1 xb).push (hst 8 14 15 (.slice (some ⟨16, 0, none⟩) 0 0) s.first s.words s.bad) |>.push (.map s.es s.clock) |>.push (.map s.gs s.gclock) |>.push (.cells 74 [])

theorem clone41 (s : HS) (c1 : Int) (xb : Blk) : WF M.toEnv 41 [.pointer (some ⟨0, 0, none⟩), .pointer (some ⟨8, 0, none⟩)] (s44 s c1 xb) (fun r σ' => r = .pointer (some ⟨13, 0, none⟩) ∧ σ' = s41 s c1 xb) := by
  refine WF.run ev0_ok (giv := givL [(16, .c (.map (some 14)) (s41b s c1 xb)), (21, .c (.map (some 15)) (s41c s c1 xb))]) (n := 100) (fn := Try.f41)
    (p' := ((True ∧ WF M.toEnv 82 [.map (some 1)] (s41o s c1 xb) (fun r σ' => r = .map (some 14) ∧ σ' = s41b s c1 xb))
      ∧ (Hold.cell 0 4 (.map (some 3))).in (s41b s c1 xb) ∧ True)
      ∧ WF M.toEnv 83 [.map (some 3)] (s41b s c1 xb) (fun r σ' => r = .map (some 15) ∧ σ' = s41c s c1 xb)) Try.func41 rfl (by kernel_rfl) ⟨⟨⟨trivial, ?_⟩, ?_, trivial⟩, ?_⟩
  · exact clone82 (σ := s41o s c1 xb) (m := 1) (by rw [s41o, St.get_push, if_neg (by show ¬ 13 = 1; omega), s44, mix_get, if_pos (by omega), hs_get]; rfl)
  · refine ⟨[.pointer (some ⟨2, 0, none⟩), .int .i64 s.first, .int .i64 s.words, .map (some 1), .map (some 3), .slice none 0 0, .int .i64 s.bad], ?_, rfl⟩
    rw [s41b, St.get_push, if_neg (by show ¬ 14 = 0; omega), s41o, St.get_push, if_neg (by show ¬ 13 = 0; omega), s44, mix_get, if_pos (by omega), hs_get]; rfl
  · exact clone83 (σ := s41b s c1 xb) (m := 3) (by rw [s41b, St.get_push, if_neg (by show ¬ 14 = 3; omega), s41o, St.get_push, if_neg (by show ¬ 13 = 3; omega), s44, mix_get, if_pos (by omega), hs_get]; rfl)
end
end Go.Proofs.Ytlnlopeodpamdaa.Hx
