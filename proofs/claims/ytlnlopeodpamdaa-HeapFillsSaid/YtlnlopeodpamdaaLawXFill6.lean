/-
  HeapFills with blocks of 7 words.
-/
import Derived.Test.YtlnlopeodpamdaaLawXFill
namespace Go.Proofs.Ytlnlopeodpamdaa.Hx
open Go AH Go.Proofs
theorem xf_6_0 (a b : Int) : [runF 0 6 a b, runF 2 6 a b, runF 4 6 a b, runF 6 6 a b, runF 8 6 a b, runF 10 6 a b, runF 12 6 a b, runF 14 6 a b] = [some (owF a b 0 6), some (owF a b 2 6), some (owF a b 4 6), some (owF a b 6 6), some (owF a b 8 6), some (owF a b 10 6), some (owF a b 12 6), some (owF a b 14 6)] := by kernel_rfl
theorem xf_6_1 (a b : Int) : [runF 16 6 a b, runF 18 6 a b, runF 20 6 a b, runF 22 6 a b, runF 24 6 a b, runF 26 6 a b, runF 28 6 a b, runF 30 6 a b] = [some (owF a b 16 6), some (owF a b 18 6), some (owF a b 20 6), some (owF a b 22 6), some (owF a b 24 6), some (owF a b 26 6), some (owF a b 28 6), some (owF a b 30 6)] := by kernel_rfl
theorem xf_6_2 (a b : Int) : [runF 32 6 a b, runF 34 6 a b, runF 36 6 a b, runF 38 6 a b, runF 40 6 a b, runF 42 6 a b, runF 44 6 a b, runF 46 6 a b] = [some (owF a b 32 6), some (owF a b 34 6), some (owF a b 36 6), some (owF a b 38 6), some (owF a b 40 6), some (owF a b 42 6), some (owF a b 44 6), some (owF a b 46 6)] := by kernel_rfl
theorem xf_6_3 (a b : Int) : [runF 48 6 a b, runF 50 6 a b, runF 52 6 a b, runF 54 6 a b, runF 56 6 a b, runF 58 6 a b, runF 60 6 a b, runF 62 6 a b] = [some (owF a b 48 6), some (owF a b 50 6), some (owF a b 52 6), some (owF a b 54 6), some (owF a b 56 6), some (owF a b 58 6), some (owF a b 60 6), some (owF a b 62 6)] := by kernel_rfl
theorem xf_6 (a b : Int) (w : Nat) (h : w < 32) : runF (2 * w : Nat) 6 a b = some (owF a b (2 * w : Nat) 6) :=
  match w, h with
  | 0, _ => (hd8 (xf_6_0 a b)).1
  | 1, _ => (hd8 (hd8 (xf_6_0 a b)).2).1
  | 2, _ => (hd8 (hd8 (hd8 (xf_6_0 a b)).2).2).1
  | 3, _ => (hd8 (hd8 (hd8 (hd8 (xf_6_0 a b)).2).2).2).1
  | 4, _ => (hd8 (hd8 (hd8 (hd8 (hd8 (xf_6_0 a b)).2).2).2).2).1
  | 5, _ => (hd8 (hd8 (hd8 (hd8 (hd8 (hd8 (xf_6_0 a b)).2).2).2).2).2).1
  | 6, _ => (hd8 (hd8 (hd8 (hd8 (hd8 (hd8 (hd8 (xf_6_0 a b)).2).2).2).2).2).2).1
  | 7, _ => (hd8 (hd8 (hd8 (hd8 (hd8 (hd8 (hd8 (hd8 (xf_6_0 a b)).2).2).2).2).2).2).2).1
  | 8, _ => (hd8 (xf_6_1 a b)).1
  | 9, _ => (hd8 (hd8 (xf_6_1 a b)).2).1
  | 10, _ => (hd8 (hd8 (hd8 (xf_6_1 a b)).2).2).1
  | 11, _ => (hd8 (hd8 (hd8 (hd8 (xf_6_1 a b)).2).2).2).1
  | 12, _ => (hd8 (hd8 (hd8 (hd8 (hd8 (xf_6_1 a b)).2).2).2).2).1
  | 13, _ => (hd8 (hd8 (hd8 (hd8 (hd8 (hd8 (xf_6_1 a b)).2).2).2).2).2).1
  | 14, _ => (hd8 (hd8 (hd8 (hd8 (hd8 (hd8 (hd8 (xf_6_1 a b)).2).2).2).2).2).2).1
  | 15, _ => (hd8 (hd8 (hd8 (hd8 (hd8 (hd8 (hd8 (hd8 (xf_6_1 a b)).2).2).2).2).2).2).2).1
  | 16, _ => (hd8 (xf_6_2 a b)).1
  | 17, _ => (hd8 (hd8 (xf_6_2 a b)).2).1
  | 18, _ => (hd8 (hd8 (hd8 (xf_6_2 a b)).2).2).1
  | 19, _ => (hd8 (hd8 (hd8 (hd8 (xf_6_2 a b)).2).2).2).1
  | 20, _ => (hd8 (hd8 (hd8 (hd8 (hd8 (xf_6_2 a b)).2).2).2).2).1
  | 21, _ => (hd8 (hd8 (hd8 (hd8 (hd8 (hd8 (xf_6_2 a b)).2).2).2).2).2).1
  | 22, _ => (hd8 (hd8 (hd8 (hd8 (hd8 (hd8 (hd8 (xf_6_2 a b)).2).2).2).2).2).2).1
  | 23, _ => (hd8 (hd8 (hd8 (hd8 (hd8 (hd8 (hd8 (hd8 (xf_6_2 a b)).2).2).2).2).2).2).2).1
  | 24, _ => (hd8 (xf_6_3 a b)).1
  | 25, _ => (hd8 (hd8 (xf_6_3 a b)).2).1
  | 26, _ => (hd8 (hd8 (hd8 (xf_6_3 a b)).2).2).1
  | 27, _ => (hd8 (hd8 (hd8 (hd8 (xf_6_3 a b)).2).2).2).1
  | 28, _ => (hd8 (hd8 (hd8 (hd8 (hd8 (xf_6_3 a b)).2).2).2).2).1
  | 29, _ => (hd8 (hd8 (hd8 (hd8 (hd8 (hd8 (xf_6_3 a b)).2).2).2).2).2).1
  | 30, _ => (hd8 (hd8 (hd8 (hd8 (hd8 (hd8 (hd8 (xf_6_3 a b)).2).2).2).2).2).2).1
  | 31, _ => (hd8 (hd8 (hd8 (hd8 (hd8 (hd8 (hd8 (hd8 (xf_6_3 a b)).2).2).2).2).2).2).2).1
  | w + 32, h => by omega
end Go.Proofs.Ytlnlopeodpamdaa.Hx
