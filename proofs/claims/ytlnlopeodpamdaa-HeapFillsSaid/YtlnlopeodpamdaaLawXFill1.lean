/-
  HeapFills with blocks of 2 words.
-/
import Derived.Test.YtlnlopeodpamdaaLawXFill
namespace Go.Proofs.Ytlnlopeodpamdaa.Hx
open Go AH Go.Proofs
theorem xf_1_0 (a b : Int) : [runF 0 1 a b, runF 2 1 a b, runF 4 1 a b, runF 6 1 a b, runF 8 1 a b, runF 10 1 a b, runF 12 1 a b, runF 14 1 a b] = [some (owF a b 0 1), some (owF a b 2 1), some (owF a b 4 1), some (owF a b 6 1), some (owF a b 8 1), some (owF a b 10 1), some (owF a b 12 1), some (owF a b 14 1)] := by kernel_rfl
theorem xf_1_1 (a b : Int) : [runF 16 1 a b, runF 18 1 a b, runF 20 1 a b, runF 22 1 a b, runF 24 1 a b, runF 26 1 a b, runF 28 1 a b, runF 30 1 a b] = [some (owF a b 16 1), some (owF a b 18 1), some (owF a b 20 1), some (owF a b 22 1), some (owF a b 24 1), some (owF a b 26 1), some (owF a b 28 1), some (owF a b 30 1)] := by kernel_rfl
theorem xf_1_2 (a b : Int) : [runF 32 1 a b, runF 34 1 a b] = [some (owF a b 32 1), some (owF a b 34 1)] := by kernel_rfl
theorem xf_1_3 (a b : Int) : [runF 36 1 a b, runF 38 1 a b] = [some (owF a b 36 1), some (owF a b 38 1)] := by kernel_rfl
theorem xf_1_4 (a b : Int) : [runF 40 1 a b, runF 42 1 a b] = [some (owF a b 40 1), some (owF a b 42 1)] := by kernel_rfl
theorem xf_1_5 (a b : Int) : [runF 44 1 a b, runF 46 1 a b] = [some (owF a b 44 1), some (owF a b 46 1)] := by kernel_rfl
theorem xf_1_6 (a b : Int) : [runF 48 1 a b] = [some (owF a b 48 1)] := by kernel_rfl
theorem xf_1_7 (a b : Int) : [runF 50 1 a b] = [some (owF a b 50 1)] := by kernel_rfl
theorem xf_1_8 (a b : Int) : [runF 52 1 a b] = [some (owF a b 52 1)] := by kernel_rfl
theorem xf_1_9 (a b : Int) : [runF 54 1 a b] = [some (owF a b 54 1)] := by kernel_rfl
theorem xf_1_10 (a b : Int) : [runF 56 1 a b] = [some (owF a b 56 1)] := by kernel_rfl
theorem xf_1_11 (a b : Int) : [runF 58 1 a b] = [some (owF a b 58 1)] := by kernel_rfl
theorem xf_1_12 (a b : Int) : [runF 60 1 a b] = [some (owF a b 60 1)] := by kernel_rfl
theorem xf_1_13 (a b : Int) : [runF 62 1 a b] = [some (owF a b 62 1)] := by kernel_rfl
theorem xf_1 (a b : Int) (w : Nat) (h : w < 32) : runF (2 * w : Nat) 1 a b = some (owF a b (2 * w : Nat) 1) :=
  match w, h with
  | 0, _ => (hd8 (xf_1_0 a b)).1
  | 1, _ => (hd8 (hd8 (xf_1_0 a b)).2).1
  | 2, _ => (hd8 (hd8 (hd8 (xf_1_0 a b)).2).2).1
  | 3, _ => (hd8 (hd8 (hd8 (hd8 (xf_1_0 a b)).2).2).2).1
  | 4, _ => (hd8 (hd8 (hd8 (hd8 (hd8 (xf_1_0 a b)).2).2).2).2).1
  | 5, _ => (hd8 (hd8 (hd8 (hd8 (hd8 (hd8 (xf_1_0 a b)).2).2).2).2).2).1
  | 6, _ => (hd8 (hd8 (hd8 (hd8 (hd8 (hd8 (hd8 (xf_1_0 a b)).2).2).2).2).2).2).1
  | 7, _ => (hd8 (hd8 (hd8 (hd8 (hd8 (hd8 (hd8 (hd8 (xf_1_0 a b)).2).2).2).2).2).2).2).1
  | 8, _ => (hd8 (xf_1_1 a b)).1
  | 9, _ => (hd8 (hd8 (xf_1_1 a b)).2).1
  | 10, _ => (hd8 (hd8 (hd8 (xf_1_1 a b)).2).2).1
  | 11, _ => (hd8 (hd8 (hd8 (hd8 (xf_1_1 a b)).2).2).2).1
  | 12, _ => (hd8 (hd8 (hd8 (hd8 (hd8 (xf_1_1 a b)).2).2).2).2).1
  | 13, _ => (hd8 (hd8 (hd8 (hd8 (hd8 (hd8 (xf_1_1 a b)).2).2).2).2).2).1
  | 14, _ => (hd8 (hd8 (hd8 (hd8 (hd8 (hd8 (hd8 (xf_1_1 a b)).2).2).2).2).2).2).1
  | 15, _ => (hd8 (hd8 (hd8 (hd8 (hd8 (hd8 (hd8 (hd8 (xf_1_1 a b)).2).2).2).2).2).2).2).1
  | 16, _ => (hd8 (xf_1_2 a b)).1
  | 17, _ => (hd8 (hd8 (xf_1_2 a b)).2).1
  | 18, _ => (hd8 (xf_1_3 a b)).1
  | 19, _ => (hd8 (hd8 (xf_1_3 a b)).2).1
  | 20, _ => (hd8 (xf_1_4 a b)).1
  | 21, _ => (hd8 (hd8 (xf_1_4 a b)).2).1
  | 22, _ => (hd8 (xf_1_5 a b)).1
  | 23, _ => (hd8 (hd8 (xf_1_5 a b)).2).1
  | 24, _ => (hd8 (xf_1_6 a b)).1
  | 25, _ => (hd8 (xf_1_7 a b)).1
  | 26, _ => (hd8 (xf_1_8 a b)).1
  | 27, _ => (hd8 (xf_1_9 a b)).1
  | 28, _ => (hd8 (xf_1_10 a b)).1
  | 29, _ => (hd8 (xf_1_11 a b)).1
  | 30, _ => (hd8 (xf_1_12 a b)).1
  | 31, _ => (hd8 (xf_1_13 a b)).1
  | w + 32, h => by omega
end Go.Proofs.Ytlnlopeodpamdaa.Hx
