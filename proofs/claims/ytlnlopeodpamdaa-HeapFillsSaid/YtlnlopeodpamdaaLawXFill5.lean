/-
  HeapFills with blocks of 6 words.
-/
import Derived.Test.YtlnlopeodpamdaaLawXFill
namespace Go.Proofs.Ytlnlopeodpamdaa.Hx
open Go AH Go.Proofs
theorem xf_5_0 (a b : Int) : [runF 0 5 a b, runF 2 5 a b, runF 4 5 a b, runF 6 5 a b, runF 8 5 a b, runF 10 5 a b, runF 12 5 a b, runF 14 5 a b] = [some (owF a b 0 5), some (owF a b 2 5), some (owF a b 4 5), some (owF a b 6 5), some (owF a b 8 5), some (owF a b 10 5), some (owF a b 12 5), some (owF a b 14 5)] := by kernel_rfl
theorem xf_5_1 (a b : Int) : [runF 16 5 a b, runF 18 5 a b, runF 20 5 a b, runF 22 5 a b, runF 24 5 a b, runF 26 5 a b, runF 28 5 a b, runF 30 5 a b] = [some (owF a b 16 5), some (owF a b 18 5), some (owF a b 20 5), some (owF a b 22 5), some (owF a b 24 5), some (owF a b 26 5), some (owF a b 28 5), some (owF a b 30 5)] := by kernel_rfl
theorem xf_5_2 (a b : Int) : [runF 32 5 a b, runF 34 5 a b, runF 36 5 a b, runF 38 5 a b, runF 40 5 a b, runF 42 5 a b, runF 44 5 a b, runF 46 5 a b] = [some (owF a b 32 5), some (owF a b 34 5), some (owF a b 36 5), some (owF a b 38 5), some (owF a b 40 5), some (owF a b 42 5), some (owF a b 44 5), some (owF a b 46 5)] := by kernel_rfl
theorem xf_5_3 (a b : Int) : [runF 48 5 a b, runF 50 5 a b, runF 52 5 a b, runF 54 5 a b, runF 56 5 a b, runF 58 5 a b, runF 60 5 a b, runF 62 5 a b] = [some (owF a b 48 5), some (owF a b 50 5), some (owF a b 52 5), some (owF a b 54 5), some (owF a b 56 5), some (owF a b 58 5), some (owF a b 60 5), some (owF a b 62 5)] := by kernel_rfl
theorem xf_5 (a b : Int) (w : Nat) (h : w < 32) : runF (2 * w : Nat) 5 a b = some (owF a b (2 * w : Nat) 5) :=
  match w, h with
  | 0, _ => (hd8 (xf_5_0 a b)).1
  | 1, _ => (hd8 (hd8 (xf_5_0 a b)).2).1
  | 2, _ => (hd8 (hd8 (hd8 (xf_5_0 a b)).2).2).1
  | 3, _ => (hd8 (hd8 (hd8 (hd8 (xf_5_0 a b)).2).2).2).1
  | 4, _ => (hd8 (hd8 (hd8 (hd8 (hd8 (xf_5_0 a b)).2).2).2).2).1
  | 5, _ => (hd8 (hd8 (hd8 (hd8 (hd8 (hd8 (xf_5_0 a b)).2).2).2).2).2).1
  | 6, _ => (hd8 (hd8 (hd8 (hd8 (hd8 (hd8 (hd8 (xf_5_0 a b)).2).2).2).2).2).2).1
  | 7, _ => (hd8 (hd8 (hd8 (hd8 (hd8 (hd8 (hd8 (hd8 (xf_5_0 a b)).2).2).2).2).2).2).2).1
  | 8, _ => (hd8 (xf_5_1 a b)).1
  | 9, _ => (hd8 (hd8 (xf_5_1 a b)).2).1
  | 10, _ => (hd8 (hd8 (hd8 (xf_5_1 a b)).2).2).1
  | 11, _ => (hd8 (hd8 (hd8 (hd8 (xf_5_1 a b)).2).2).2).1
  | 12, _ => (hd8 (hd8 (hd8 (hd8 (hd8 (xf_5_1 a b)).2).2).2).2).1
  | 13, _ => (hd8 (hd8 (hd8 (hd8 (hd8 (hd8 (xf_5_1 a b)).2).2).2).2).2).1
  | 14, _ => (hd8 (hd8 (hd8 (hd8 (hd8 (hd8 (hd8 (xf_5_1 a b)).2).2).2).2).2).2).1
  | 15, _ => (hd8 (hd8 (hd8 (hd8 (hd8 (hd8 (hd8 (hd8 (xf_5_1 a b)).2).2).2).2).2).2).2).1
  | 16, _ => (hd8 (xf_5_2 a b)).1
  | 17, _ => (hd8 (hd8 (xf_5_2 a b)).2).1
  | 18, _ => (hd8 (hd8 (hd8 (xf_5_2 a b)).2).2).1
  | 19, _ => (hd8 (hd8 (hd8 (hd8 (xf_5_2 a b)).2).2).2).1
  | 20, _ => (hd8 (hd8 (hd8 (hd8 (hd8 (xf_5_2 a b)).2).2).2).2).1
  | 21, _ => (hd8 (hd8 (hd8 (hd8 (hd8 (hd8 (xf_5_2 a b)).2).2).2).2).2).1
  | 22, _ => (hd8 (hd8 (hd8 (hd8 (hd8 (hd8 (hd8 (xf_5_2 a b)).2).2).2).2).2).2).1
  | 23, _ => (hd8 (hd8 (hd8 (hd8 (hd8 (hd8 (hd8 (hd8 (xf_5_2 a b)).2).2).2).2).2).2).2).1
  | 24, _ => (hd8 (xf_5_3 a b)).1
  | 25, _ => (hd8 (hd8 (xf_5_3 a b)).2).1
  | 26, _ => (hd8 (hd8 (hd8 (xf_5_3 a b)).2).2).1
  | 27, _ => (hd8 (hd8 (hd8 (hd8 (xf_5_3 a b)).2).2).2).1
  | 28, _ => (hd8 (hd8 (hd8 (hd8 (hd8 (xf_5_3 a b)).2).2).2).2).1
  | 29, _ => (hd8 (hd8 (hd8 (hd8 (hd8 (hd8 (xf_5_3 a b)).2).2).2).2).2).1
  | 30, _ => (hd8 (hd8 (hd8 (hd8 (hd8 (hd8 (hd8 (xf_5_3 a b)).2).2).2).2).2).2).1
  | 31, _ => (hd8 (hd8 (hd8 (hd8 (hd8 (hd8 (hd8 (hd8 (xf_5_3 a b)).2).2).2).2).2).2).2).1
  | w + 32, h => by omega
end Go.Proofs.Ytlnlopeodpamdaa.Hx
