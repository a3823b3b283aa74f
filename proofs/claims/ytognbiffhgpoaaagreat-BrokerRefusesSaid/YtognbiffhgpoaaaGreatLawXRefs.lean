/-
  BrokerRefuses, whatever the call is.
-/
import Derived.Test.YtognbiffhgpoaaaGreatLawXPays
import Derived.Test.YtognbiffhgpoaaaGreatLawXRefA
import Derived.Test.YtognbiffhgpoaaaGreatLawXRefL0
import Derived.Test.YtognbiffhgpoaaaGreatLawXRefL1
import Derived.Test.YtognbiffhgpoaaaGreatLawXRefK
import Derived.Test.YtognbiffhgpoaaaGreatLawXRefP0
import Derived.Test.YtognbiffhgpoaaaGreatLawXRefP1
import Derived.Test.YtognbiffhgpoaaaGreatLawXRefP2
import Derived.Test.YtognbiffhgpoaaaGreatLawXRefS00
import Derived.Test.YtognbiffhgpoaaaGreatLawXRefS01
import Derived.Test.YtognbiffhgpoaaaGreatLawXRefS10
import Derived.Test.YtognbiffhgpoaaaGreatLawXRefS11
import Derived.Test.YtognbiffhgpoaaaGreatLawXRefS20
import Derived.Test.YtognbiffhgpoaaaGreatLawXRefS21
set_option maxRecDepth 100000
set_option linter.unusedVariables false
namespace Go.Proofs.YtognbiffhgpoaaaGreat.Hx
open Go AH Go.Proofs
theorem pubB (t b c g e p : Int) (s : ByteArray) (ht : t = .ofNat 0 ∨ t = .ofNat 1 ∨ t = .ofNat 2) (ht' : 0 ≤ t ∧ t ≤ 2) (he : 0 ≤ e ∧ e ≤ 2) (hlen : (s.data.toList.length : Int) ≤ 200) : Ref t (.ofNat 0) b c g e p s := by
  have pays : s.data.toList.length ≤ 56 → PayOk s (1 + (s.data.toList.length + 7) / 8) := fun h => payAll s.data.toList h
  match b with
  | .negSucc j => exact badP_0_n j t c g e p s ht' he hlen
  | .ofNat (j + 2) => exact badP_0_g j t c g e p s ht' he hlen
  | .ofNat 0 =>
    by_cases h1 : 56 < s.data.toList.length
    · exact long_0 t c g e p s ht' he hlen h1
    · by_cases h2 : 16 < s.data.toList.length
      · exact much_0 t c g e p s ht' he hlen h2 (by omega) (pays (by omega))
      · rcases ht with rfl | rfl | rfl
        · exact pub_0_0 c g e p s he hlen (by omega) (by omega) (pays (by omega))
        · exact pub_1_0 c g e p s he hlen (by omega) (by omega) (pays (by omega))
        · exact pub_2_0 c g e p s he hlen (by omega) (by omega) (pays (by omega))
  | .ofNat 1 =>
    by_cases h1 : 56 < s.data.toList.length
    · exact long_1 t c g e p s ht' he hlen h1
    · by_cases h2 : 16 < s.data.toList.length
      · exact much_1 t c g e p s ht' he hlen h2 (by omega) (pays (by omega))
      · rcases ht with rfl | rfl | rfl
        · exact pub_0_1 c g e p s he hlen (by omega) (by omega) (pays (by omega))
        · exact pub_1_1 c g e p s he hlen (by omega) (by omega) (pays (by omega))
        · exact pub_2_1 c g e p s he hlen (by omega) (by omega) (pays (by omega))
theorem pollB (t b c g e p : Int) (s : ByteArray) (ht : t = .ofNat 0 ∨ t = .ofNat 1 ∨ t = .ofNat 2) (ht' : 0 ≤ t ∧ t ≤ 2) (hlen : (s.data.toList.length : Int) ≤ 200) : Ref t (.ofNat 3) b c g e p s := by
  match b with
  | .negSucc j => exact badP_3_n j t c g e p s ht' hlen
  | .ofNat (j + 2) => exact badP_3_g j t c g e p s ht' hlen
  | .ofNat 0 =>
    rcases ht with rfl | rfl | rfl
    · exact poll_0_0 c g e p s hlen
    · exact poll_1_0 c g e p s hlen
    · exact poll_2_0 c g e p s hlen
  | .ofNat 1 =>
    rcases ht with rfl | rfl | rfl
    · exact poll_0_1 c g e p s hlen
    · exact poll_1_1 c g e p s hlen
    · exact poll_2_1 c g e p s hlen
theorem okT (t a b c g e p : Int) (s : ByteArray) (ht : t = .ofNat 0 ∨ t = .ofNat 1 ∨ t = .ofNat 2) (hlen : (s.data.toList.length : Int) ≤ 200) : Ref t a b c g e p s := by
  have ht' : 0 ≤ t ∧ t ≤ 2 := by rcases ht with rfl | rfl | rfl <;> decide
  match a with
  | .negSucc m => exact badK_n m t b c g e p s ht' hlen
  | .ofNat 0 =>
    match e with
    | .negSucc m => exact badM_n m t b c g p s ht' hlen
    | .ofNat 0 => exact pubB t b c g _ p s ht ht' (by decide) hlen
    | .ofNat 1 => exact pubB t b c g _ p s ht ht' (by decide) hlen
    | .ofNat 2 => exact pubB t b c g _ p s ht ht' (by decide) hlen
    | .ofNat (m + 3) => exact badM_g m t b c g p s ht' hlen
  | .ofNat 3 => exact pollB t b c g e p s ht ht' hlen
  | .ofNat 1 =>
    match b with
    | .negSucc j => exact badP_1_n j t c g e p s ht' hlen
    | .ofNat 0 => exact sub_0 t c g e p s ht' hlen
    | .ofNat 1 => exact sub_1 t c g e p s ht' hlen
    | .ofNat (j + 2) => exact badP_1_g j t c g e p s ht' hlen
  | .ofNat 2 =>
    match b with
    | .negSucc j => exact badP_2_n j t c g e p s ht' hlen
    | .ofNat 0 => exact grp_2_0 t c g e p s ht' hlen
    | .ofNat 1 => exact grp_2_1 t c g e p s ht' hlen
    | .ofNat (j + 2) => exact badP_2_g j t c g e p s ht' hlen
  | .ofNat 4 =>
    match b with
    | .negSucc j => exact badP_4_n j t c g e p s ht' hlen
    | .ofNat 0 => exact grp_4_0 t c g e p s ht' hlen
    | .ofNat 1 => exact grp_4_1 t c g e p s ht' hlen
    | .ofNat (j + 2) => exact badP_4_g j t c g e p s ht' hlen
  | .ofNat (m + 5) => exact badK_g m t b c g e p s ht' hlen
theorem ref_all (t a b c g e p : Int) (s : ByteArray) : Ref t a b c g e p s := by
  by_cases hlen : 200 < (s.data.toList.length : Int)
  · exact ref_long hlen
  · have hlen : (s.data.toList.length : Int) ≤ 200 := by omega
    match t with
    | .negSucc m => exact badT_n m a b c g e p s hlen
    | .ofNat 0 => exact okT _ a b c g e p s (.inl rfl) hlen
    | .ofNat 1 => exact okT _ a b c g e p s (.inr (.inl rfl)) hlen
    | .ofNat 2 => exact okT _ a b c g e p s (.inr (.inr rfl)) hlen
    | .ofNat (m + 3) => exact badT_g m a b c g e p s hlen
end Go.Proofs.YtognbiffhgpoaaaGreat.Hx
