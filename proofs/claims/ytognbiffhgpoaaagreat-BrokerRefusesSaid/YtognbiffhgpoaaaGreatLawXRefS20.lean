/-
  BrokerRefuses: Publish of thread 2 to topic 0.
-/
import Derived.Test.YtognbiffhgpoaaaGreatLawXPay
set_option maxRecDepth 100000
set_option linter.unusedVariables false
namespace Go.Proofs.YtognbiffhgpoaaaGreat.Hx
open Go AH Go.Proofs
theorem pu_2_0_1_0 (x0 c g p : Int) (s : ByteArray) : tailR (overP [x0]) ovS (.ofNat 2) (.ofNat 0) (.ofNat 0) c g (.ofNat 0) p s = some ((True ∧ sh s) ∧ PayIs s [x0]) := by kernel_rfl
theorem pu_2_0_1_1 (x0 c g p : Int) (s : ByteArray) : tailR (overP [x0]) ovS (.ofNat 2) (.ofNat 0) (.ofNat 0) c g (.ofNat 1) p s = some ((True ∧ sh s) ∧ PayIs s [x0]) := by kernel_rfl
theorem pu_2_0_1_2 (x0 c g p : Int) (s : ByteArray) : tailR (overP [x0]) ovS (.ofNat 2) (.ofNat 0) (.ofNat 0) c g (.ofNat 2) p s = some ((True ∧ sh s) ∧ PayIs s [x0]) := by kernel_rfl
theorem pu_2_0_2_0 (x0 x1 c g p : Int) (s : ByteArray) : tailR (overP [x0, x1]) ovS (.ofNat 2) (.ofNat 0) (.ofNat 0) c g (.ofNat 0) p s = some ((True ∧ sh s) ∧ PayIs s [x0, x1]) := by kernel_rfl
theorem pu_2_0_2_1 (x0 x1 c g p : Int) (s : ByteArray) : tailR (overP [x0, x1]) ovS (.ofNat 2) (.ofNat 0) (.ofNat 0) c g (.ofNat 1) p s = some ((True ∧ sh s) ∧ PayIs s [x0, x1]) := by kernel_rfl
theorem pu_2_0_2_2 (x0 x1 c g p : Int) (s : ByteArray) : tailR (overP [x0, x1]) ovS (.ofNat 2) (.ofNat 0) (.ofNat 0) c g (.ofNat 2) p s = some ((True ∧ sh s) ∧ PayIs s [x0, x1]) := by kernel_rfl
theorem pu_2_0_3_0 (x0 x1 x2 c g p : Int) (s : ByteArray) : tailR (overP [x0, x1, x2]) ovS (.ofNat 2) (.ofNat 0) (.ofNat 0) c g (.ofNat 0) p s = some ((True ∧ sh s) ∧ PayIs s [x0, x1, x2]) := by kernel_rfl
theorem pu_2_0_3_1 (x0 x1 x2 c g p : Int) (s : ByteArray) : tailR (overP [x0, x1, x2]) ovS (.ofNat 2) (.ofNat 0) (.ofNat 0) c g (.ofNat 1) p s = some ((True ∧ sh s) ∧ PayIs s [x0, x1, x2]) := by kernel_rfl
theorem pu_2_0_3_2 (x0 x1 x2 c g p : Int) (s : ByteArray) : tailR (overP [x0, x1, x2]) ovS (.ofNat 2) (.ofNat 0) (.ofNat 0) c g (.ofNat 2) p s = some ((True ∧ sh s) ∧ PayIs s [x0, x1, x2]) := by kernel_rfl
theorem pub_2_0 (c g e p : Int) (s : ByteArray) (he : 0 ≤ e ∧ e ≤ 2) (hlen : (s.data.toList.length : Int) ≤ 200) (hs : s.data.toList.length ≤ 16) {n : Nat} (hn : 1 ≤ n ∧ n ≤ 3) (hp : PayOk s n) : Ref (.ofNat 2) (.ofNat 0) (.ofNat 0) c g e p s := by
  obtain ⟨xs, hx, hp⟩ := hp
  have hn' : n = 1 ∨ n = 2 ∨ n = 3 := by omega
  have he' : e = .ofNat 0 ∨ e = .ofNat 1 ∨ e = .ofNat 2 := by
    have h : e = 0 ∨ e = 1 ∨ e = 2 := by omega
    exact h
  rcases hn' with rfl | rfl | rfl
  · match xs, hx, hp with
    | [x0], _, hp =>
      rcases he' with rfl | rfl | rfl
      · exact ref_tail (overP_ok _) hlen (pu_2_0_1_0 x0 c g p s) ⟨⟨trivial, sh_ok hs⟩, hp⟩
      · exact ref_tail (overP_ok _) hlen (pu_2_0_1_1 x0 c g p s) ⟨⟨trivial, sh_ok hs⟩, hp⟩
      · exact ref_tail (overP_ok _) hlen (pu_2_0_1_2 x0 c g p s) ⟨⟨trivial, sh_ok hs⟩, hp⟩
  · match xs, hx, hp with
    | [x0, x1], _, hp =>
      rcases he' with rfl | rfl | rfl
      · exact ref_tail (overP_ok _) hlen (pu_2_0_2_0 x0 x1 c g p s) ⟨⟨trivial, sh_ok hs⟩, hp⟩
      · exact ref_tail (overP_ok _) hlen (pu_2_0_2_1 x0 x1 c g p s) ⟨⟨trivial, sh_ok hs⟩, hp⟩
      · exact ref_tail (overP_ok _) hlen (pu_2_0_2_2 x0 x1 c g p s) ⟨⟨trivial, sh_ok hs⟩, hp⟩
  · match xs, hx, hp with
    | [x0, x1, x2], _, hp =>
      rcases he' with rfl | rfl | rfl
      · exact ref_tail (overP_ok _) hlen (pu_2_0_3_0 x0 x1 x2 c g p s) ⟨⟨trivial, sh_ok hs⟩, hp⟩
      · exact ref_tail (overP_ok _) hlen (pu_2_0_3_1 x0 x1 x2 c g p s) ⟨⟨trivial, sh_ok hs⟩, hp⟩
      · exact ref_tail (overP_ok _) hlen (pu_2_0_3_2 x0 x1 x2 c g p s) ⟨⟨trivial, sh_ok hs⟩, hp⟩
end Go.Proofs.YtognbiffhgpoaaaGreat.Hx
