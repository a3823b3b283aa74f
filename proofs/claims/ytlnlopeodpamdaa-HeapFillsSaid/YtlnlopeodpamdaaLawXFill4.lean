/-
  HeapFills with blocks of 5 words.
-/
import Derived.Test.YtlnlopeodpamdaaLawXFill
namespace Go.Proofs.Ytlnlopeodpamdaa.Hx
open Go AH Go.Proofs
theorem xf_4_0 (a b : Int) : [runF 0 4 a b, runF 2 4 a b, runF 4 4 a b, runF 6 4 a b, runF 8 4 a b, runF 10 4 a b, runF 12 4 a b, runF 14 4 a b] = [some (owF a b 0 4), some (owF a b 2 4), some (owF a b 4 4), some (owF a b 6 4), some (owF a b 8 4), some (owF a b 10 4), some (owF a b 12 4), some (owF a b 14 4)] := by kernel_rfl
theorem xf_4_1 (a b : Int) : [runF 16 4 a b, runF 18 4 a b, runF 20 4 a b, runF 22 4 a b, runF 24 4 a b, runF 26 4 a b, runF 28 4 a b, runF 30 4 a b] = [some (owF a b 16 4), some (owF a b 18 4), some (owF a b 20 4), some (owF a b 22 4), some (owF a b 24 4), some (owF a b 26 4), some (owF a b 28 4), some (owF a b 30 4)] := by kernel_rfl
theorem xf_4_2 (a b : Int) : [runF 32 4 a b, runF 34 4 a b, runF 36 4 a b, runF 38 4 a b, runF 40 4 a b, runF 42 4 a b, runF 44 4 a b, runF 46 4 a b] = [some (owF a b 32 4), some (owF a b 34 4), some (owF a b 36 4), some (owF a b 38 4), some (owF a b 40 4), some (owF a b 42 4), some (owF a b 44 4), some (owF a b 46 4)] := by kernel_rfl
theorem xf_4_3 (a b : Int) : [runF 48 4 a b, runF 50 4 a b, runF 52 4 a b, runF 54 4 a b, runF 56 4 a b, runF 58 4 a b, runF 60 4 a b, runF 62 4 a b] = [some (owF a b 48 4), some (owF a b 50 4), some (owF a b 52 4), some (owF a b 54 4), some (owF a b 56 4), some (owF a b 58 4), some (owF a b 60 4), some (owF a b 62 4)] := by kernel_rfl
theorem xf_4 (a b : Int) (w : Nat) (h : w < 32) : runF (2 * w : Nat) 4 a b = some (owF a b (2 * w : Nat) 4) :=
  match w, h with
  | 0, _ => (hd8 (xf_4_0 a b)).1
  | 1, _ => (hd8 (hd8 (xf_4_0 a b)).2).1
  | 2, _ => (hd8 (hd8 (hd8 (xf_4_0 a b)).2).2).1
  | 3, _ => (hd8 (hd8 (hd8 (hd8 (xf_4_0 a b)).2).2).2).1
  | 4, _ => (hd8 (hd8 (hd8 (hd8 (hd8 (xf_4_0 a b)).2).2).2).2).1
  | 5, _ => (hd8 (hd8 (hd8 (hd8 (hd8 (hd8 (xf_4_0 a b)).2).2).2).2).2).1
  | 6, _ => (hd8 (hd8 (hd8 (hd8 (hd8 (hd8 (hd8 (xf_4_0 a b)).2).2).2).2).2).2).1
  | 7, _ => (hd8 (hd8 (hd8 (hd8 (hd8 (hd8 (hd8 (hd8 (xf_4_0 a b)).2).2).2).2).2).2).2).1
  | 8, _ => (hd8 (xf_4_1 a b)).1
  | 9, _ => (hd8 (hd8 (xf_4_1 a b)).2).1
  | 10, _ => (hd8 (hd8 (hd8 (xf_4_1 a b)).2).2).1
  | 11, _ => (hd8 (hd8 (hd8 (hd8 (xf_4_1 a b)).2).2).2).1
  | 12, _ => (hd8 (hd8 (hd8 (hd8 (hd8 (xf_4_1 a b)).2).2).2).2).1
  | 13, _ => (hd8 (hd8 (hd8 (hd8 (hd8 (hd8 (xf_4_1 a b)).2).2).2).2).2).1
  | 14, _ => (hd8 (hd8 (hd8 (hd8 (hd8 (hd8 (hd8 (xf_4_1 a b)).2).2).2).2).2).2).1
  | 15, _ => (hd8 (hd8 (hd8 (hd8 (hd8 (hd8 (hd8 (hd8 (xf_4_1 a b)).2).2).2).2).2).2).2).1
  | 16, _ => (hd8 (xf_4_2 a b)).1
  | 17, _ => (hd8 (hd8 (xf_4_2 a b)).2).1
  | 18, _ => (hd8 (hd8 (hd8 (xf_4_2 a b)).2).2).1
  | 19, _ => (hd8 (hd8 (hd8 (hd8 (xf_4_2 a b)).2).2).2).1
  | 20, _ => (hd8 (hd8 (hd8 (hd8 (hd8 (xf_4_2 a b)).2).2).2).2).1
  | 21, _ => (hd8 (hd8 (hd8 (hd8 (hd8 (hd8 (xf_4_2 a b)).2).2).2).2).2).1
  | 22, _ => (hd8 (hd8 (hd8 (hd8 (hd8 (hd8 (hd8 (xf_4_2 a b)).2).2).2).2).2).2).1
  | 23, _ => (hd8 (hd8 (hd8 (hd8 (hd8 (hd8 (hd8 (hd8 (xf_4_2 a b)).2).2).2).2).2).2).2).1
  | 24, _ => (hd8 (xf_4_3 a b)).1
  | 25, _ => (hd8 (hd8 (xf_4_3 a b)).2).1
  | 26, _ => (hd8 (hd8 (hd8 (xf_4_3 a b)).2).2).1
  | 27, _ => (hd8 (hd8 (hd8 (hd8 (xf_4_3 a b)).2).2).2).1
  | 28, _ => (hd8 (hd8 (hd8 (hd8 (hd8 (xf_4_3 a b)).2).2).2).2).1
  | 29, _ => (hd8 (hd8 (hd8 (hd8 (hd8 (hd8 (xf_4_3 a b)).2).2).2).2).2).1
  | 30, _ => (hd8 (hd8 (hd8 (hd8 (hd8 (hd8 (hd8 (xf_4_3 a b)).2).2).2).2).2).2).1
  | 31, _ => (hd8 (hd8 (hd8 (hd8 (hd8 (hd8 (hd8 (hd8 (xf_4_3 a b)).2).2).2).2).2).2).2).1
  | w + 32, h => by omega
end Go.Proofs.Ytlnlopeodpamdaa.Hx
