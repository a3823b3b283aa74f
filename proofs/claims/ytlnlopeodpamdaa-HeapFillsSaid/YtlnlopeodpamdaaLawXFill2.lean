/-
  HeapFills with blocks of 3 words.
-/
import Derived.Test.YtlnlopeodpamdaaLawXFill
namespace Go.Proofs.Ytlnlopeodpamdaa.Hx
open Go AH Go.Proofs
theorem xf_2_0 (a b : Int) : [runF 0 2 a b, runF 2 2 a b, runF 4 2 a b, runF 6 2 a b, runF 8 2 a b, runF 10 2 a b, runF 12 2 a b, runF 14 2 a b] = [some (owF a b 0 2), some (owF a b 2 2), some (owF a b 4 2), some (owF a b 6 2), some (owF a b 8 2), some (owF a b 10 2), some (owF a b 12 2), some (owF a b 14 2)] := by kernel_rfl
theorem xf_2_1 (a b : Int) : [runF 16 2 a b, runF 18 2 a b, runF 20 2 a b, runF 22 2 a b, runF 24 2 a b, runF 26 2 a b, runF 28 2 a b, runF 30 2 a b] = [some (owF a b 16 2), some (owF a b 18 2), some (owF a b 20 2), some (owF a b 22 2), some (owF a b 24 2), some (owF a b 26 2), some (owF a b 28 2), some (owF a b 30 2)] := by kernel_rfl
theorem xf_2_2 (a b : Int) : [runF 32 2 a b, runF 34 2 a b, runF 36 2 a b, runF 38 2 a b] = [some (owF a b 32 2), some (owF a b 34 2), some (owF a b 36 2), some (owF a b 38 2)] := by kernel_rfl
theorem xf_2_3 (a b : Int) : [runF 40 2 a b, runF 42 2 a b, runF 44 2 a b, runF 46 2 a b] = [some (owF a b 40 2), some (owF a b 42 2), some (owF a b 44 2), some (owF a b 46 2)] := by kernel_rfl
theorem xf_2_4 (a b : Int) : [runF 48 2 a b, runF 50 2 a b] = [some (owF a b 48 2), some (owF a b 50 2)] := by kernel_rfl
theorem xf_2_5 (a b : Int) : [runF 52 2 a b, runF 54 2 a b] = [some (owF a b 52 2), some (owF a b 54 2)] := by kernel_rfl
theorem xf_2_6 (a b : Int) : [runF 56 2 a b, runF 58 2 a b] = [some (owF a b 56 2), some (owF a b 58 2)] := by kernel_rfl
theorem xf_2_7 (a b : Int) : [runF 60 2 a b, runF 62 2 a b] = [some (owF a b 60 2), some (owF a b 62 2)] := by kernel_rfl
theorem xf_2 (a b : Int) (w : Nat) (h : w < 32) : runF (2 * w : Nat) 2 a b = some (owF a b (2 * w : Nat) 2) :=
  match w, h with
  | 0, _ => (hd8 (xf_2_0 a b)).1
  | 1, _ => (hd8 (hd8 (xf_2_0 a b)).2).1
  | 2, _ => (hd8 (hd8 (hd8 (xf_2_0 a b)).2).2).1
  | 3, _ => (hd8 (hd8 (hd8 (hd8 (xf_2_0 a b)).2).2).2).1
  | 4, _ => (hd8 (hd8 (hd8 (hd8 (hd8 (xf_2_0 a b)).2).2).2).2).1
  | 5, _ => (hd8 (hd8 (hd8 (hd8 (hd8 (hd8 (xf_2_0 a b)).2).2).2).2).2).1
  | 6, _ => (hd8 (hd8 (hd8 (hd8 (hd8 (hd8 (hd8 (xf_2_0 a b)).2).2).2).2).2).2).1
  | 7, _ => (hd8 (hd8 (hd8 (hd8 (hd8 (hd8 (hd8 (hd8 (xf_2_0 a b)).2).2).2).2).2).2).2).1
  | 8, _ => (hd8 (xf_2_1 a b)).1
  | 9, _ => (hd8 (hd8 (xf_2_1 a b)).2).1
  | 10, _ => (hd8 (hd8 (hd8 (xf_2_1 a b)).2).2).1
  | 11, _ => (hd8 (hd8 (hd8 (hd8 (xf_2_1 a b)).2).2).2).1
  | 12, _ => (hd8 (hd8 (hd8 (hd8 (hd8 (xf_2_1 a b)).2).2).2).2).1
  | 13, _ => (hd8 (hd8 (hd8 (hd8 (hd8 (hd8 (xf_2_1 a b)).2).2).2).2).2).1
  | 14, _ => (hd8 (hd8 (hd8 (hd8 (hd8 (hd8 (hd8 (xf_2_1 a b)).2).2).2).2).2).2).1
  | 15, _ => (hd8 (hd8 (hd8 (hd8 (hd8 (hd8 (hd8 (hd8 (xf_2_1 a b)).2).2).2).2).2).2).2).1
  | 16, _ => (hd8 (xf_2_2 a b)).1
  | 17, _ => (hd8 (hd8 (xf_2_2 a b)).2).1
  | 18, _ => (hd8 (hd8 (hd8 (xf_2_2 a b)).2).2).1
  | 19, _ => (hd8 (hd8 (hd8 (hd8 (xf_2_2 a b)).2).2).2).1
  | 20, _ => (hd8 (xf_2_3 a b)).1
  | 21, _ => (hd8 (hd8 (xf_2_3 a b)).2).1
  | 22, _ => (hd8 (hd8 (hd8 (xf_2_3 a b)).2).2).1
  | 23, _ => (hd8 (hd8 (hd8 (hd8 (xf_2_3 a b)).2).2).2).1
  | 24, _ => (hd8 (xf_2_4 a b)).1
  | 25, _ => (hd8 (hd8 (xf_2_4 a b)).2).1
  | 26, _ => (hd8 (xf_2_5 a b)).1
  | 27, _ => (hd8 (hd8 (xf_2_5 a b)).2).1
  | 28, _ => (hd8 (xf_2_6 a b)).1
  | 29, _ => (hd8 (hd8 (xf_2_6 a b)).2).1
  | 30, _ => (hd8 (xf_2_7 a b)).1
  | 31, _ => (hd8 (hd8 (xf_2_7 a b)).2).1
  | w + 32, h => by omega
end Go.Proofs.Ytlnlopeodpamdaa.Hx
