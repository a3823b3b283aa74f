/-
  BrokerRefuses: calls that are refused; Subscribe.
-/
import Derived.Test.YtognbiffhgpoaaaGreatLawXPay
set_option maxRecDepth 100000
set_option linter.unusedVariables false
namespace Go.Proofs.YtognbiffhgpoaaaGreat.Hx
open Go AH Go.Proofs
theorem bt_n_n (m j : Nat) (a c g e p : Int) (s : ByteArray) : tailR noOver ov0 (.negSucc m) a (.negSucc j) c g e p s = some (True) := by kernel_rfl
theorem bt_n_0 (m j : Nat) (a c g e p : Int) (s : ByteArray) : tailR noOver ov0 (.negSucc m) a (.ofNat 0) c g e p s = some (True) := by kernel_rfl
theorem bt_n_1 (m j : Nat) (a c g e p : Int) (s : ByteArray) : tailR noOver ov0 (.negSucc m) a (.ofNat 1) c g e p s = some (True) := by kernel_rfl
theorem bt_n_g (m j : Nat) (a c g e p : Int) (s : ByteArray) : tailR noOver ov0 (.negSucc m) a (.ofNat (j + 2)) c g e p s = some (True) := by kernel_rfl
theorem badT_n (m : Nat) (a b c g e p : Int) (s : ByteArray) (hlen : (s.data.toList.length : Int) ≤ 200) : Ref (.negSucc m) a b c g e p s :=
  match b with
  | .negSucc j => ref_tail noOver_ok hlen (bt_n_n m j a c g e p s) trivial
  | .ofNat 0 => ref_tail noOver_ok hlen (bt_n_0 m 0 a c g e p s) trivial
  | .ofNat 1 => ref_tail noOver_ok hlen (bt_n_1 m 0 a c g e p s) trivial
  | .ofNat (j + 2) => ref_tail noOver_ok hlen (bt_n_g m j a c g e p s) trivial
theorem bt_g_n (m j : Nat) (a c g e p : Int) (s : ByteArray) : tailR noOver ov0 (.ofNat (m + 3)) a (.negSucc j) c g e p s = some (True) := by kernel_rfl
theorem bt_g_0 (m j : Nat) (a c g e p : Int) (s : ByteArray) : tailR noOver ov0 (.ofNat (m + 3)) a (.ofNat 0) c g e p s = some (True) := by kernel_rfl
theorem bt_g_1 (m j : Nat) (a c g e p : Int) (s : ByteArray) : tailR noOver ov0 (.ofNat (m + 3)) a (.ofNat 1) c g e p s = some (True) := by kernel_rfl
theorem bt_g_g (m j : Nat) (a c g e p : Int) (s : ByteArray) : tailR noOver ov0 (.ofNat (m + 3)) a (.ofNat (j + 2)) c g e p s = some (True) := by kernel_rfl
theorem badT_g (m : Nat) (a b c g e p : Int) (s : ByteArray) (hlen : (s.data.toList.length : Int) ≤ 200) : Ref (.ofNat (m + 3)) a b c g e p s :=
  match b with
  | .negSucc j => ref_tail noOver_ok hlen (bt_g_n m j a c g e p s) trivial
  | .ofNat 0 => ref_tail noOver_ok hlen (bt_g_0 m 0 a c g e p s) trivial
  | .ofNat 1 => ref_tail noOver_ok hlen (bt_g_1 m 0 a c g e p s) trivial
  | .ofNat (j + 2) => ref_tail noOver_ok hlen (bt_g_g m j a c g e p s) trivial
theorem bk_n_n (m j : Nat) (t c g e p : Int) (s : ByteArray) : tailR noOver ovT t (.negSucc m) (.negSucc j) c g e p s = some (pT t) := by kernel_rfl
theorem bk_n_0 (m j : Nat) (t c g e p : Int) (s : ByteArray) : tailR noOver ovT t (.negSucc m) (.ofNat 0) c g e p s = some (pT t) := by kernel_rfl
theorem bk_n_1 (m j : Nat) (t c g e p : Int) (s : ByteArray) : tailR noOver ovT t (.negSucc m) (.ofNat 1) c g e p s = some (pT t) := by kernel_rfl
theorem bk_n_g (m j : Nat) (t c g e p : Int) (s : ByteArray) : tailR noOver ovT t (.negSucc m) (.ofNat (j + 2)) c g e p s = some (pT t) := by kernel_rfl
theorem badK_n (m : Nat) (t b c g e p : Int) (s : ByteArray) (ht : 0 ≤ t ∧ t ≤ 2) (hlen : (s.data.toList.length : Int) ≤ 200) : Ref t (.negSucc m) b c g e p s :=
  match b with
  | .negSucc j => ref_tail noOver_ok hlen (bk_n_n m j t c g e p s) (pT_ok ht)
  | .ofNat 0 => ref_tail noOver_ok hlen (bk_n_0 m 0 t c g e p s) (pT_ok ht)
  | .ofNat 1 => ref_tail noOver_ok hlen (bk_n_1 m 0 t c g e p s) (pT_ok ht)
  | .ofNat (j + 2) => ref_tail noOver_ok hlen (bk_n_g m j t c g e p s) (pT_ok ht)
theorem bk_g_n (m j : Nat) (t c g e p : Int) (s : ByteArray) : tailR noOver ovT t (.ofNat (m + 5)) (.negSucc j) c g e p s = some (pT t) := by kernel_rfl
theorem bk_g_0 (m j : Nat) (t c g e p : Int) (s : ByteArray) : tailR noOver ovT t (.ofNat (m + 5)) (.ofNat 0) c g e p s = some (pT t) := by kernel_rfl
theorem bk_g_1 (m j : Nat) (t c g e p : Int) (s : ByteArray) : tailR noOver ovT t (.ofNat (m + 5)) (.ofNat 1) c g e p s = some (pT t) := by kernel_rfl
theorem bk_g_g (m j : Nat) (t c g e p : Int) (s : ByteArray) : tailR noOver ovT t (.ofNat (m + 5)) (.ofNat (j + 2)) c g e p s = some (pT t) := by kernel_rfl
theorem badK_g (m : Nat) (t b c g e p : Int) (s : ByteArray) (ht : 0 ≤ t ∧ t ≤ 2) (hlen : (s.data.toList.length : Int) ≤ 200) : Ref t (.ofNat (m + 5)) b c g e p s :=
  match b with
  | .negSucc j => ref_tail noOver_ok hlen (bk_g_n m j t c g e p s) (pT_ok ht)
  | .ofNat 0 => ref_tail noOver_ok hlen (bk_g_0 m 0 t c g e p s) (pT_ok ht)
  | .ofNat 1 => ref_tail noOver_ok hlen (bk_g_1 m 0 t c g e p s) (pT_ok ht)
  | .ofNat (j + 2) => ref_tail noOver_ok hlen (bk_g_g m j t c g e p s) (pT_ok ht)
theorem bm_n_n (m j : Nat) (t c g p : Int) (s : ByteArray) : tailR noOver ovT t (.ofNat 0) (.negSucc j) c g (.negSucc m) p s = some (pT t) := by kernel_rfl
theorem bm_n_0 (m j : Nat) (t c g p : Int) (s : ByteArray) : tailR noOver ovT t (.ofNat 0) (.ofNat 0) c g (.negSucc m) p s = some (pT t) := by kernel_rfl
theorem bm_n_1 (m j : Nat) (t c g p : Int) (s : ByteArray) : tailR noOver ovT t (.ofNat 0) (.ofNat 1) c g (.negSucc m) p s = some (pT t) := by kernel_rfl
theorem bm_n_g (m j : Nat) (t c g p : Int) (s : ByteArray) : tailR noOver ovT t (.ofNat 0) (.ofNat (j + 2)) c g (.negSucc m) p s = some (pT t) := by kernel_rfl
theorem badM_n (m : Nat) (t b c g p : Int) (s : ByteArray) (ht : 0 ≤ t ∧ t ≤ 2) (hlen : (s.data.toList.length : Int) ≤ 200) : Ref t (.ofNat 0) b c g (.negSucc m) p s :=
  match b with
  | .negSucc j => ref_tail noOver_ok hlen (bm_n_n m j t c g p s) (pT_ok ht)
  | .ofNat 0 => ref_tail noOver_ok hlen (bm_n_0 m 0 t c g p s) (pT_ok ht)
  | .ofNat 1 => ref_tail noOver_ok hlen (bm_n_1 m 0 t c g p s) (pT_ok ht)
  | .ofNat (j + 2) => ref_tail noOver_ok hlen (bm_n_g m j t c g p s) (pT_ok ht)
theorem bm_g_n (m j : Nat) (t c g p : Int) (s : ByteArray) : tailR noOver ovT t (.ofNat 0) (.negSucc j) c g (.ofNat (m + 3)) p s = some (pT t) := by kernel_rfl
theorem bm_g_0 (m j : Nat) (t c g p : Int) (s : ByteArray) : tailR noOver ovT t (.ofNat 0) (.ofNat 0) c g (.ofNat (m + 3)) p s = some (pT t) := by kernel_rfl
theorem bm_g_1 (m j : Nat) (t c g p : Int) (s : ByteArray) : tailR noOver ovT t (.ofNat 0) (.ofNat 1) c g (.ofNat (m + 3)) p s = some (pT t) := by kernel_rfl
theorem bm_g_g (m j : Nat) (t c g p : Int) (s : ByteArray) : tailR noOver ovT t (.ofNat 0) (.ofNat (j + 2)) c g (.ofNat (m + 3)) p s = some (pT t) := by kernel_rfl
theorem badM_g (m : Nat) (t b c g p : Int) (s : ByteArray) (ht : 0 ≤ t ∧ t ≤ 2) (hlen : (s.data.toList.length : Int) ≤ 200) : Ref t (.ofNat 0) b c g (.ofNat (m + 3)) p s :=
  match b with
  | .negSucc j => ref_tail noOver_ok hlen (bm_g_n m j t c g p s) (pT_ok ht)
  | .ofNat 0 => ref_tail noOver_ok hlen (bm_g_0 m 0 t c g p s) (pT_ok ht)
  | .ofNat 1 => ref_tail noOver_ok hlen (bm_g_1 m 0 t c g p s) (pT_ok ht)
  | .ofNat (j + 2) => ref_tail noOver_ok hlen (bm_g_g m j t c g p s) (pT_ok ht)
theorem bp_0_n (j : Nat) (t c g e p : Int) (s : ByteArray) : tailR noOver ovTM t (.ofNat 0) (.negSucc j) c g e p s = some ((((((True ∧ lo t) ∧ hi t) ∧ lo e) ∧ hi e) ∧ wi t) ∧ wi e) := by kernel_rfl
theorem badP_0_n (j : Nat) (t c g e p : Int) (s : ByteArray) (ht : 0 ≤ t ∧ t ≤ 2) (he : 0 ≤ e ∧ e ≤ 2) (hlen : (s.data.toList.length : Int) ≤ 200) : Ref t (.ofNat 0) (.negSucc j) c g e p s :=
  ref_tail noOver_ok hlen (bp_0_n j t c g e p s) ⟨⟨⟨⟨⟨⟨trivial, lo_ok ht⟩, hi_ok ht⟩, lo_ok he⟩, hi_ok he⟩, wi_ok ht⟩, wi_ok he⟩
theorem bp_1_n (j : Nat) (t c g e p : Int) (s : ByteArray) : tailR noOver ovT t (.ofNat 1) (.negSucc j) c g e p s = some (pT t) := by kernel_rfl
theorem badP_1_n (j : Nat) (t c g e p : Int) (s : ByteArray) (ht : 0 ≤ t ∧ t ≤ 2) (hlen : (s.data.toList.length : Int) ≤ 200) : Ref t (.ofNat 1) (.negSucc j) c g e p s :=
  ref_tail noOver_ok hlen (bp_1_n j t c g e p s) (pT_ok ht)
theorem bp_2_n (j : Nat) (t c g e p : Int) (s : ByteArray) : tailR noOver ovT t (.ofNat 2) (.negSucc j) c g e p s = some (pT t) := by kernel_rfl
theorem badP_2_n (j : Nat) (t c g e p : Int) (s : ByteArray) (ht : 0 ≤ t ∧ t ≤ 2) (hlen : (s.data.toList.length : Int) ≤ 200) : Ref t (.ofNat 2) (.negSucc j) c g e p s :=
  ref_tail noOver_ok hlen (bp_2_n j t c g e p s) (pT_ok ht)
theorem bp_3_n (j : Nat) (t c g e p : Int) (s : ByteArray) : tailR noOver ovT t (.ofNat 3) (.negSucc j) c g e p s = some (pT t) := by kernel_rfl
theorem badP_3_n (j : Nat) (t c g e p : Int) (s : ByteArray) (ht : 0 ≤ t ∧ t ≤ 2) (hlen : (s.data.toList.length : Int) ≤ 200) : Ref t (.ofNat 3) (.negSucc j) c g e p s :=
  ref_tail noOver_ok hlen (bp_3_n j t c g e p s) (pT_ok ht)
theorem bp_4_n (j : Nat) (t c g e p : Int) (s : ByteArray) : tailR noOver ovT t (.ofNat 4) (.negSucc j) c g e p s = some (pT t) := by kernel_rfl
theorem badP_4_n (j : Nat) (t c g e p : Int) (s : ByteArray) (ht : 0 ≤ t ∧ t ≤ 2) (hlen : (s.data.toList.length : Int) ≤ 200) : Ref t (.ofNat 4) (.negSucc j) c g e p s :=
  ref_tail noOver_ok hlen (bp_4_n j t c g e p s) (pT_ok ht)
theorem bp_0_g (j : Nat) (t c g e p : Int) (s : ByteArray) : tailR noOver ovTM t (.ofNat 0) (.ofNat (j + 2)) c g e p s = some ((((((True ∧ lo t) ∧ hi t) ∧ lo e) ∧ hi e) ∧ wi t) ∧ wi e) := by kernel_rfl
theorem badP_0_g (j : Nat) (t c g e p : Int) (s : ByteArray) (ht : 0 ≤ t ∧ t ≤ 2) (he : 0 ≤ e ∧ e ≤ 2) (hlen : (s.data.toList.length : Int) ≤ 200) : Ref t (.ofNat 0) (.ofNat (j + 2)) c g e p s :=
  ref_tail noOver_ok hlen (bp_0_g j t c g e p s) ⟨⟨⟨⟨⟨⟨trivial, lo_ok ht⟩, hi_ok ht⟩, lo_ok he⟩, hi_ok he⟩, wi_ok ht⟩, wi_ok he⟩
theorem bp_1_g (j : Nat) (t c g e p : Int) (s : ByteArray) : tailR noOver ovT t (.ofNat 1) (.ofNat (j + 2)) c g e p s = some (pT t) := by kernel_rfl
theorem badP_1_g (j : Nat) (t c g e p : Int) (s : ByteArray) (ht : 0 ≤ t ∧ t ≤ 2) (hlen : (s.data.toList.length : Int) ≤ 200) : Ref t (.ofNat 1) (.ofNat (j + 2)) c g e p s :=
  ref_tail noOver_ok hlen (bp_1_g j t c g e p s) (pT_ok ht)
theorem bp_2_g (j : Nat) (t c g e p : Int) (s : ByteArray) : tailR noOver ovT t (.ofNat 2) (.ofNat (j + 2)) c g e p s = some (pT t) := by kernel_rfl
theorem badP_2_g (j : Nat) (t c g e p : Int) (s : ByteArray) (ht : 0 ≤ t ∧ t ≤ 2) (hlen : (s.data.toList.length : Int) ≤ 200) : Ref t (.ofNat 2) (.ofNat (j + 2)) c g e p s :=
  ref_tail noOver_ok hlen (bp_2_g j t c g e p s) (pT_ok ht)
theorem bp_3_g (j : Nat) (t c g e p : Int) (s : ByteArray) : tailR noOver ovT t (.ofNat 3) (.ofNat (j + 2)) c g e p s = some (pT t) := by kernel_rfl
theorem badP_3_g (j : Nat) (t c g e p : Int) (s : ByteArray) (ht : 0 ≤ t ∧ t ≤ 2) (hlen : (s.data.toList.length : Int) ≤ 200) : Ref t (.ofNat 3) (.ofNat (j + 2)) c g e p s :=
  ref_tail noOver_ok hlen (bp_3_g j t c g e p s) (pT_ok ht)
theorem bp_4_g (j : Nat) (t c g e p : Int) (s : ByteArray) : tailR noOver ovT t (.ofNat 4) (.ofNat (j + 2)) c g e p s = some (pT t) := by kernel_rfl
theorem badP_4_g (j : Nat) (t c g e p : Int) (s : ByteArray) (ht : 0 ≤ t ∧ t ≤ 2) (hlen : (s.data.toList.length : Int) ≤ 200) : Ref t (.ofNat 4) (.ofNat (j + 2)) c g e p s :=
  ref_tail noOver_ok hlen (bp_4_g j t c g e p s) (pT_ok ht)
theorem su_0 (t c g e p : Int) (s : ByteArray) : tailR noOver ovT t (.ofNat 1) (.ofNat 0) c g e p s = some (pT t) := by kernel_rfl
theorem sub_0 (t c g e p : Int) (s : ByteArray) (ht : 0 ≤ t ∧ t ≤ 2) (hlen : (s.data.toList.length : Int) ≤ 200) : Ref t (.ofNat 1) (.ofNat 0) c g e p s :=
  ref_tail noOver_ok hlen (su_0 t c g e p s) (pT_ok ht)
theorem su_1 (t c g e p : Int) (s : ByteArray) : tailR noOver ovT t (.ofNat 1) (.ofNat 1) c g e p s = some (pT t) := by kernel_rfl
theorem sub_1 (t c g e p : Int) (s : ByteArray) (ht : 0 ≤ t ∧ t ≤ 2) (hlen : (s.data.toList.length : Int) ≤ 200) : Ref t (.ofNat 1) (.ofNat 1) c g e p s :=
  ref_tail noOver_ok hlen (su_1 t c g e p s) (pT_ok ht)
theorem vl_0 (t c g e p : Int) (s : ByteArray) : tailR noOver ovL t (.ofNat 0) (.ofNat 0) c g e p s = some ((((((((True ∧ lo t) ∧ hi t) ∧ lo e) ∧ hi e) ∧ lg s) ∧ wi t) ∧ wi e) ∧ vl s) := by kernel_rfl
theorem tl_0_4 (x0 x1 x2 x3 t c g e p : Int) (s : ByteArray) : tailR (overP [x0, x1, x2, x3]) ovG t (.ofNat 0) (.ofNat 0) c g e p s = some ((((((((True ∧ lo t) ∧ hi t) ∧ lo e) ∧ hi e) ∧ lg s) ∧ wi t) ∧ wi e) ∧ PayIs s [x0, x1, x2, x3]) := by kernel_rfl
theorem tl_0_5 (x0 x1 x2 x3 x4 t c g e p : Int) (s : ByteArray) : tailR (overP [x0, x1, x2, x3, x4]) ovG t (.ofNat 0) (.ofNat 0) c g e p s = some ((((((((True ∧ lo t) ∧ hi t) ∧ lo e) ∧ hi e) ∧ lg s) ∧ wi t) ∧ wi e) ∧ PayIs s [x0, x1, x2, x3, x4]) := by kernel_rfl
theorem tl_0_6 (x0 x1 x2 x3 x4 x5 t c g e p : Int) (s : ByteArray) : tailR (overP [x0, x1, x2, x3, x4, x5]) ovG t (.ofNat 0) (.ofNat 0) c g e p s = some ((((((((True ∧ lo t) ∧ hi t) ∧ lo e) ∧ hi e) ∧ lg s) ∧ wi t) ∧ wi e) ∧ PayIs s [x0, x1, x2, x3, x4, x5]) := by kernel_rfl
theorem tl_0_7 (x0 x1 x2 x3 x4 x5 x6 t c g e p : Int) (s : ByteArray) : tailR (overP [x0, x1, x2, x3, x4, x5, x6]) ovG t (.ofNat 0) (.ofNat 0) c g e p s = some ((((((((True ∧ lo t) ∧ hi t) ∧ lo e) ∧ hi e) ∧ lg s) ∧ wi t) ∧ wi e) ∧ PayIs s [x0, x1, x2, x3, x4, x5, x6]) := by kernel_rfl
theorem tl_0_8 (x0 x1 x2 x3 x4 x5 x6 x7 t c g e p : Int) (s : ByteArray) : tailR (overP [x0, x1, x2, x3, x4, x5, x6, x7]) ovG t (.ofNat 0) (.ofNat 0) c g e p s = some ((((((((True ∧ lo t) ∧ hi t) ∧ lo e) ∧ hi e) ∧ lg s) ∧ wi t) ∧ wi e) ∧ PayIs s [x0, x1, x2, x3, x4, x5, x6, x7]) := by kernel_rfl
theorem long_0 (t c g e p : Int) (s : ByteArray) (ht : 0 ≤ t ∧ t ≤ 2) (he : 0 ≤ e ∧ e ≤ 2) (hlen : (s.data.toList.length : Int) ≤ 200) (hs : 56 < s.data.toList.length) : Ref t (.ofNat 0) (.ofNat 0) c g e p s :=
  ref_tail noOver_ok hlen (vl_0 t c g e p s) ⟨⟨⟨⟨⟨⟨⟨⟨trivial, lo_ok ht⟩, hi_ok ht⟩, lo_ok he⟩, hi_ok he⟩, lg_ok (by omega)⟩, wi_ok ht⟩, wi_ok he⟩, vl_ok hs⟩
theorem much_0 (t c g e p : Int) (s : ByteArray) (ht : 0 ≤ t ∧ t ≤ 2) (he : 0 ≤ e ∧ e ≤ 2) (hlen : (s.data.toList.length : Int) ≤ 200) (hs : 16 < s.data.toList.length) {n : Nat} (hn : 4 ≤ n ∧ n ≤ 8) (hp : PayOk s n) : Ref t (.ofNat 0) (.ofNat 0) c g e p s := by
  obtain ⟨xs, hx, hp⟩ := hp
  have hn' : n = 4 ∨ n = 5 ∨ n = 6 ∨ n = 7 ∨ n = 8 := by omega
  rcases hn' with rfl | rfl | rfl | rfl | rfl
  · match xs, hx, hp with
    | [x0, x1, x2, x3], _, hp => exact ref_tail (overP_ok _) hlen (tl_0_4 x0 x1 x2 x3 t c g e p s) ⟨⟨⟨⟨⟨⟨⟨⟨trivial, lo_ok ht⟩, hi_ok ht⟩, lo_ok he⟩, hi_ok he⟩, lg_ok hs⟩, wi_ok ht⟩, wi_ok he⟩, hp⟩
  · match xs, hx, hp with
    | [x0, x1, x2, x3, x4], _, hp => exact ref_tail (overP_ok _) hlen (tl_0_5 x0 x1 x2 x3 x4 t c g e p s) ⟨⟨⟨⟨⟨⟨⟨⟨trivial, lo_ok ht⟩, hi_ok ht⟩, lo_ok he⟩, hi_ok he⟩, lg_ok hs⟩, wi_ok ht⟩, wi_ok he⟩, hp⟩
  · match xs, hx, hp with
    | [x0, x1, x2, x3, x4, x5], _, hp => exact ref_tail (overP_ok _) hlen (tl_0_6 x0 x1 x2 x3 x4 x5 t c g e p s) ⟨⟨⟨⟨⟨⟨⟨⟨trivial, lo_ok ht⟩, hi_ok ht⟩, lo_ok he⟩, hi_ok he⟩, lg_ok hs⟩, wi_ok ht⟩, wi_ok he⟩, hp⟩
  · match xs, hx, hp with
    | [x0, x1, x2, x3, x4, x5, x6], _, hp => exact ref_tail (overP_ok _) hlen (tl_0_7 x0 x1 x2 x3 x4 x5 x6 t c g e p s) ⟨⟨⟨⟨⟨⟨⟨⟨trivial, lo_ok ht⟩, hi_ok ht⟩, lo_ok he⟩, hi_ok he⟩, lg_ok hs⟩, wi_ok ht⟩, wi_ok he⟩, hp⟩
  · match xs, hx, hp with
    | [x0, x1, x2, x3, x4, x5, x6, x7], _, hp => exact ref_tail (overP_ok _) hlen (tl_0_8 x0 x1 x2 x3 x4 x5 x6 x7 t c g e p s) ⟨⟨⟨⟨⟨⟨⟨⟨trivial, lo_ok ht⟩, hi_ok ht⟩, lo_ok he⟩, hi_ok he⟩, lg_ok hs⟩, wi_ok ht⟩, wi_ok he⟩, hp⟩
theorem vl_1 (t c g e p : Int) (s : ByteArray) : tailR noOver ovL t (.ofNat 0) (.ofNat 1) c g e p s = some ((((((((True ∧ lo t) ∧ hi t) ∧ lo e) ∧ hi e) ∧ lg s) ∧ wi t) ∧ wi e) ∧ vl s) := by kernel_rfl
theorem tl_1_4 (x0 x1 x2 x3 t c g e p : Int) (s : ByteArray) : tailR (overP [x0, x1, x2, x3]) ovG t (.ofNat 0) (.ofNat 1) c g e p s = some ((((((((True ∧ lo t) ∧ hi t) ∧ lo e) ∧ hi e) ∧ lg s) ∧ wi t) ∧ wi e) ∧ PayIs s [x0, x1, x2, x3]) := by kernel_rfl
theorem tl_1_5 (x0 x1 x2 x3 x4 t c g e p : Int) (s : ByteArray) : tailR (overP [x0, x1, x2, x3, x4]) ovG t (.ofNat 0) (.ofNat 1) c g e p s = some ((((((((True ∧ lo t) ∧ hi t) ∧ lo e) ∧ hi e) ∧ lg s) ∧ wi t) ∧ wi e) ∧ PayIs s [x0, x1, x2, x3, x4]) := by kernel_rfl
theorem tl_1_6 (x0 x1 x2 x3 x4 x5 t c g e p : Int) (s : ByteArray) : tailR (overP [x0, x1, x2, x3, x4, x5]) ovG t (.ofNat 0) (.ofNat 1) c g e p s = some ((((((((True ∧ lo t) ∧ hi t) ∧ lo e) ∧ hi e) ∧ lg s) ∧ wi t) ∧ wi e) ∧ PayIs s [x0, x1, x2, x3, x4, x5]) := by kernel_rfl
theorem tl_1_7 (x0 x1 x2 x3 x4 x5 x6 t c g e p : Int) (s : ByteArray) : tailR (overP [x0, x1, x2, x3, x4, x5, x6]) ovG t (.ofNat 0) (.ofNat 1) c g e p s = some ((((((((True ∧ lo t) ∧ hi t) ∧ lo e) ∧ hi e) ∧ lg s) ∧ wi t) ∧ wi e) ∧ PayIs s [x0, x1, x2, x3, x4, x5, x6]) := by kernel_rfl
theorem tl_1_8 (x0 x1 x2 x3 x4 x5 x6 x7 t c g e p : Int) (s : ByteArray) : tailR (overP [x0, x1, x2, x3, x4, x5, x6, x7]) ovG t (.ofNat 0) (.ofNat 1) c g e p s = some ((((((((True ∧ lo t) ∧ hi t) ∧ lo e) ∧ hi e) ∧ lg s) ∧ wi t) ∧ wi e) ∧ PayIs s [x0, x1, x2, x3, x4, x5, x6, x7]) := by kernel_rfl
theorem long_1 (t c g e p : Int) (s : ByteArray) (ht : 0 ≤ t ∧ t ≤ 2) (he : 0 ≤ e ∧ e ≤ 2) (hlen : (s.data.toList.length : Int) ≤ 200) (hs : 56 < s.data.toList.length) : Ref t (.ofNat 0) (.ofNat 1) c g e p s :=
  ref_tail noOver_ok hlen (vl_1 t c g e p s) ⟨⟨⟨⟨⟨⟨⟨⟨trivial, lo_ok ht⟩, hi_ok ht⟩, lo_ok he⟩, hi_ok he⟩, lg_ok (by omega)⟩, wi_ok ht⟩, wi_ok he⟩, vl_ok hs⟩
theorem much_1 (t c g e p : Int) (s : ByteArray) (ht : 0 ≤ t ∧ t ≤ 2) (he : 0 ≤ e ∧ e ≤ 2) (hlen : (s.data.toList.length : Int) ≤ 200) (hs : 16 < s.data.toList.length) {n : Nat} (hn : 4 ≤ n ∧ n ≤ 8) (hp : PayOk s n) : Ref t (.ofNat 0) (.ofNat 1) c g e p s := by
  obtain ⟨xs, hx, hp⟩ := hp
  have hn' : n = 4 ∨ n = 5 ∨ n = 6 ∨ n = 7 ∨ n = 8 := by omega
  rcases hn' with rfl | rfl | rfl | rfl | rfl
  · match xs, hx, hp with
    | [x0, x1, x2, x3], _, hp => exact ref_tail (overP_ok _) hlen (tl_1_4 x0 x1 x2 x3 t c g e p s) ⟨⟨⟨⟨⟨⟨⟨⟨trivial, lo_ok ht⟩, hi_ok ht⟩, lo_ok he⟩, hi_ok he⟩, lg_ok hs⟩, wi_ok ht⟩, wi_ok he⟩, hp⟩
  · match xs, hx, hp with
    | [x0, x1, x2, x3, x4], _, hp => exact ref_tail (overP_ok _) hlen (tl_1_5 x0 x1 x2 x3 x4 t c g e p s) ⟨⟨⟨⟨⟨⟨⟨⟨trivial, lo_ok ht⟩, hi_ok ht⟩, lo_ok he⟩, hi_ok he⟩, lg_ok hs⟩, wi_ok ht⟩, wi_ok he⟩, hp⟩
  · match xs, hx, hp with
    | [x0, x1, x2, x3, x4, x5], _, hp => exact ref_tail (overP_ok _) hlen (tl_1_6 x0 x1 x2 x3 x4 x5 t c g e p s) ⟨⟨⟨⟨⟨⟨⟨⟨trivial, lo_ok ht⟩, hi_ok ht⟩, lo_ok he⟩, hi_ok he⟩, lg_ok hs⟩, wi_ok ht⟩, wi_ok he⟩, hp⟩
  · match xs, hx, hp with
    | [x0, x1, x2, x3, x4, x5, x6], _, hp => exact ref_tail (overP_ok _) hlen (tl_1_7 x0 x1 x2 x3 x4 x5 x6 t c g e p s) ⟨⟨⟨⟨⟨⟨⟨⟨trivial, lo_ok ht⟩, hi_ok ht⟩, lo_ok he⟩, hi_ok he⟩, lg_ok hs⟩, wi_ok ht⟩, wi_ok he⟩, hp⟩
  · match xs, hx, hp with
    | [x0, x1, x2, x3, x4, x5, x6, x7], _, hp => exact ref_tail (overP_ok _) hlen (tl_1_8 x0 x1 x2 x3 x4 x5 x6 x7 t c g e p s) ⟨⟨⟨⟨⟨⟨⟨⟨trivial, lo_ok ht⟩, hi_ok ht⟩, lo_ok he⟩, hi_ok he⟩, lg_ok hs⟩, wi_ok ht⟩, wi_ok he⟩, hp⟩
end Go.Proofs.YtognbiffhgpoaaaGreat.Hx
