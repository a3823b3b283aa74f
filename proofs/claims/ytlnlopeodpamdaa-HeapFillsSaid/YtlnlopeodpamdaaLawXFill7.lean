/-
  HeapFills with blocks of 8 words.
-/
import Derived.Test.YtlnlopeodpamdaaLawXFill
namespace Go.Proofs.Ytlnlopeodpamdaa.Hx
open Go AH Go.Proofs
theorem xf_7_0 (a b : Int) : [runF 0 7 a b, runF 2 7 a b, runF 4 7 a b, runF 6 7 a b, runF 8 7 a b, runF 10 7 a b, runF 12 7 a b, runF 14 7 a b] = [some (owF a b 0 7), some (owF a b 2 7), some (owF a b 4 7), some (owF a b 6 7), some (owF a b 8 7), some (owF a b 10 7), some (owF a b 12 7), some (owF a b 14 7)] := by kernel_rfl
theorem xf_7_1 (a b : Int) : [runF 16 7 a b, runF 18 7 a b, runF 20 7 a b, runF 22 7 a b, runF 24 7 a b, runF 26 7 a b, runF 28 7 a b, runF 30 7 a b] = [some (owF a b 16 7), some (owF a b 18 7), some (owF a b 20 7), some (owF a b 22 7), some (owF a b 24 7), some (owF a b 26 7), some (owF a b 28 7), some (owF a b 30 7)] := by kernel_rfl
theorem xf_7_2 (a b : Int) : [runF 32 7 a b, runF 34 7 a b, runF 36 7 a b, runF 38 7 a b, runF 40 7 a b, runF 42 7 a b, runF 44 7 a b, runF 46 7 a b] = [some (owF a b 32 7), some (owF a b 34 7), some (owF a b 36 7), some (owF a b 38 7), some (owF a b 40 7), some (owF a b 42 7), some (owF a b 44 7), some (owF a b 46 7)] := by kernel_rfl
theorem xf_7_3 (a b : Int) : [runF 48 7 a b, runF 50 7 a b, runF 52 7 a b, runF 54 7 a b, runF 56 7 a b, runF 58 7 a b, runF 60 7 a b, runF 62 7 a b] = [some (owF a b 48 7), some (owF a b 50 7), some (owF a b 52 7), some (owF a b 54 7), some (owF a b 56 7), some (owF a b 58 7), some (owF a b 60 7), some (owF a b 62 7)] := by kernel_rfl
theorem xf_7 (a b : Int) (w : Nat) (h : w < 32) : runF (2 * w : Nat) 7 a b = some (owF a b (2 * w : Nat) 7) :=
  match w, h with
  | 0, _ => (hd8 (xf_7_0 a b)).1
  | 1, _ => (hd8 (hd8 (xf_7_0 a b)).2).1
  | 2, _ => (hd8 (hd8 (hd8 (xf_7_0 a b)).2).2).1
  | 3, _ => (hd8 (hd8 (hd8 (hd8 (xf_7_0 a b)).2).2).2).1
  | 4, _ => (hd8 (hd8 (hd8 (hd8 (hd8 (xf_7_0 a b)).2).2).2).2).1
  | 5, _ => (hd8 (hd8 (hd8 (hd8 (hd8 (hd8 (xf_7_0 a b)).2).2).2).2).2).1
  | 6, _ => (hd8 (hd8 (hd8 (hd8 (hd8 (hd8 (hd8 (xf_7_0 a b)).2).2).2).2).2).2).1
  | 7, _ => (hd8 (hd8 (hd8 (hd8 (hd8 (hd8 (hd8 (hd8 (xf_7_0 a b)).2).2).2).2).2).2).2).1
  | 8, _ => (hd8 (xf_7_1 a b)).1
  | 9, _ => (hd8 (hd8 (xf_7_1 a b)).2).1
  | 10, _ => (hd8 (hd8 (hd8 (xf_7_1 a b)).2).2).1
  | 11, _ => (hd8 (hd8 (hd8 (hd8 (xf_7_1 a b)).2).2).2).1
  | 12, _ => (hd8 (hd8 (hd8 (hd8 (hd8 (xf_7_1 a b)).2).2).2).2).1
  | 13, _ => (hd8 (hd8 (hd8 (hd8 (hd8 (hd8 (xf_7_1 a b)).2).2).2).2).2).1
  | 14, _ => (hd8 (hd8 (hd8 (hd8 (hd8 (hd8 (hd8 (xf_7_1 a b)).2).2).2).2).2).2).1
  | 15, _ => (hd8 (hd8 (hd8 (hd8 (hd8 (hd8 (hd8 (hd8 (xf_7_1 a b)).2).2).2).2).2).2).2).1
  | 16, _ => (hd8 (xf_7_2 a b)).1
  | 17, _ => (hd8 (hd8 (xf_7_2 a b)).2).1
  | 18, _ => (hd8 (hd8 (hd8 (xf_7_2 a b)).2).2).1
  | 19, _ => (hd8 (hd8 (hd8 (hd8 (xf_7_2 a b)).2).2).2).1
  | 20, _ => (hd8 (hd8 (hd8 (hd8 (hd8 (xf_7_2 a b)).2).2).2).2).1
  | 21, _ => (hd8 (hd8 (hd8 (hd8 (hd8 (hd8 (xf_7_2 a b)).2).2).2).2).2).1
  | 22, _ => (hd8 (hd8 (hd8 (hd8 (hd8 (hd8 (hd8 (xf_7_2 a b)).2).2).2).2).2).2).1
  | 23, _ => (hd8 (hd8 (hd8 (hd8 (hd8 (hd8 (hd8 (hd8 (xf_7_2 a b)).2).2).2).2).2).2).2).1
  | 24, _ => (hd8 (xf_7_3 a b)).1
  | 25, _ => (hd8 (hd8 (xf_7_3 a b)).2).1
  | 26, _ => (hd8 (hd8 (hd8 (xf_7_3 a b)).2).2).1
  | 27, _ => (hd8 (hd8 (hd8 (hd8 (xf_7_3 a b)).2).2).2).1
  | 28, _ => (hd8 (hd8 (hd8 (hd8 (hd8 (xf_7_3 a b)).2).2).2).2).1
  | 29, _ => (hd8 (hd8 (hd8 (hd8 (hd8 (hd8 (xf_7_3 a b)).2).2).2).2).2).1
  | 30, _ => (hd8 (hd8 (hd8 (hd8 (hd8 (hd8 (hd8 (xf_7_3 a b)).2).2).2).2).2).2).1
  | 31, _ => (hd8 (hd8 (hd8 (hd8 (hd8 (hd8 (hd8 (hd8 (xf_7_3 a b)).2).2).2).2).2).2).2).1
  | w + 32, h => by omega
end Go.Proofs.Ytlnlopeodpamdaa.Hx
