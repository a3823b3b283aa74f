/-
  HeapFills with blocks of 4 words.
-/
import Derived.Test.YtlnlopeodpamdaaLawXFill
namespace Go.Proofs.Ytlnlopeodpamdaa.Hx
open Go AH Go.Proofs
theorem xf_3_0 (a b : Int) : [runF 0 3 a b, runF 2 3 a b, runF 4 3 a b, runF 6 3 a b, runF 8 3 a b, runF 10 3 a b, runF 12 3 a b, runF 14 3 a b] = [some (owF a b 0 3), some (owF a b 2 3), some (owF a b 4 3), some (owF a b 6 3), some (owF a b 8 3), some (owF a b 10 3), some (owF a b 12 3), some (owF a b 14 3)] := by kernel_rfl
theorem xf_3_1 (a b : Int) : [runF 16 3 a b, runF 18 3 a b, runF 20 3 a b, runF 22 3 a b, runF 24 3 a b, runF 26 3 a b, runF 28 3 a b, runF 30 3 a b] = [some (owF a b 16 3), some (owF a b 18 3), some (owF a b 20 3), some (owF a b 22 3), some (owF a b 24 3), some (owF a b 26 3), some (owF a b 28 3), some (owF a b 30 3)] := by kernel_rfl
theorem xf_3_2 (a b : Int) : [runF 32 3 a b, runF 34 3 a b, runF 36 3 a b, runF 38 3 a b] = [some (owF a b 32 3), some (owF a b 34 3), some (owF a b 36 3), some (owF a b 38 3)] := by kernel_rfl
theorem xf_3_3 (a b : Int) : [runF 40 3 a b, runF 42 3 a b, runF 44 3 a b, runF 46 3 a b] = [some (owF a b 40 3), some (owF a b 42 3), some (owF a b 44 3), some (owF a b 46 3)] := by kernel_rfl
theorem xf_3_4 (a b : Int) : [runF 48 3 a b, runF 50 3 a b] = [some (owF a b 48 3), some (owF a b 50 3)] := by kernel_rfl
theorem xf_3_5 (a b : Int) : [runF 52 3 a b, runF 54 3 a b] = [some (owF a b 52 3), some (owF a b 54 3)] := by kernel_rfl
theorem xf_3_6 (a b : Int) : [runF 56 3 a b, runF 58 3 a b] = [some (owF a b 56 3), some (owF a b 58 3)] := by kernel_rfl
theorem xf_3_7 (a b : Int) : [runF 60 3 a b, runF 62 3 a b] = [some (owF a b 60 3), some (owF a b 62 3)] := by kernel_rfl
theorem xf_3 (a b : Int) (w : Nat) (h : w < 32) : runF (2 * w : Nat) 3 a b = some (owF a b (2 * w : Nat) 3) :=
  match w, h with
  | 0, _ => (hd8 (xf_3_0 a b)).1
  | 1, _ => (hd8 (hd8 (xf_3_0 a b)).2).1
  | 2, _ => (hd8 (hd8 (hd8 (xf_3_0 a b)).2).2).1
  | 3, _ => (hd8 (hd8 (hd8 (hd8 (xf_3_0 a b)).2).2).2).1
  | 4, _ => (hd8 (hd8 (hd8 (hd8 (hd8 (xf_3_0 a b)).2).2).2).2).1
  | 5, _ => (hd8 (hd8 (hd8 (hd8 (hd8 (hd8 (xf_3_0 a b)).2).2).2).2).2).1
  | 6, _ => (hd8 (hd8 (hd8 (hd8 (hd8 (hd8 (hd8 (xf_3_0 a b)).2).2).2).2).2).2).1
  | 7, _ => (hd8 (hd8 (hd8 (hd8 (hd8 (hd8 (hd8 (hd8 (xf_3_0 a b)).2).2).2).2).2).2).2).1
  | 8, _ => (hd8 (xf_3_1 a b)).1
  | 9, _ => (hd8 (hd8 (xf_3_1 a b)).2).1
  | 10, _ => (hd8 (hd8 (hd8 (xf_3_1 a b)).2).2).1
  | 11, _ => (hd8 (hd8 (hd8 (hd8 (xf_3_1 a b)).2).2).2).1
  | 12, _ => (hd8 (hd8 (hd8 (hd8 (hd8 (xf_3_1 a b)).2).2).2).2).1
  | 13, _ => (hd8 (hd8 (hd8 (hd8 (hd8 (hd8 (xf_3_1 a b)).2).2).2).2).2).1
  | 14, _ => (hd8 (hd8 (hd8 (hd8 (hd8 (hd8 (hd8 (xf_3_1 a b)).2).2).2).2).2).2).1
  | 15, _ => (hd8 (hd8 (hd8 (hd8 (hd8 (hd8 (hd8 (hd8 (xf_3_1 a b)).2).2).2).2).2).2).2).1
  | 16, _ => (hd8 (xf_3_2 a b)).1
  | 17, _ => (hd8 (hd8 (xf_3_2 a b)).2).1
  | 18, _ => (hd8 (hd8 (hd8 (xf_3_2 a b)).2).2).1
  | 19, _ => (hd8 (hd8 (hd8 (hd8 (xf_3_2 a b)).2).2).2).1
  | 20, _ => (hd8 (xf_3_3 a b)).1
  | 21, _ => (hd8 (hd8 (xf_3_3 a b)).2).1
  | 22, _ => (hd8 (hd8 (hd8 (xf_3_3 a b)).2).2).1
  | 23, _ => (hd8 (hd8 (hd8 (hd8 (xf_3_3 a b)).2).2).2).1
  | 24, _ => (hd8 (xf_3_4 a b)).1
  | 25, _ => (hd8 (hd8 (xf_3_4 a b)).2).1
  | 26, _ => (hd8 (xf_3_5 a b)).1
  | 27, _ => (hd8 (hd8 (xf_3_5 a b)).2).1
  | 28, _ => (hd8 (xf_3_6 a b)).1
  | 29, _ => (hd8 (hd8 (xf_3_6 a b)).2).1
  | 30, _ => (hd8 (xf_3_7 a b)).1
  | 31, _ => (hd8 (hd8 (xf_3_7 a b)).2).1
  | w + 32, h => by omega
end Go.Proofs.Ytlnlopeodpamdaa.Hx
