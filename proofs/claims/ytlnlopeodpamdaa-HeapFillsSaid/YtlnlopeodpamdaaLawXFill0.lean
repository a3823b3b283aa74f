/-
  HeapFills with blocks of 1 words.
-/
import Derived.Test.YtlnlopeodpamdaaLawXFill
namespace Go.Proofs.Ytlnlopeodpamdaa.Hx
open Go AH Go.Proofs
theorem xf_0_0 (a b : Int) : [runF 0 0 a b, runF 2 0 a b, runF 4 0 a b, runF 6 0 a b, runF 8 0 a b, runF 10 0 a b, runF 12 0 a b, runF 14 0 a b] = [some (owF a b 0 0), some (owF a b 2 0), some (owF a b 4 0), some (owF a b 6 0), some (owF a b 8 0), some (owF a b 10 0), some (owF a b 12 0), some (owF a b 14 0)] := by kernel_rfl
theorem xf_0_1 (a b : Int) : [runF 16 0 a b, runF 18 0 a b, runF 20 0 a b, runF 22 0 a b, runF 24 0 a b, runF 26 0 a b, runF 28 0 a b, runF 30 0 a b] = [some (owF a b 16 0), some (owF a b 18 0), some (owF a b 20 0), some (owF a b 22 0), some (owF a b 24 0), some (owF a b 26 0), some (owF a b 28 0), some (owF a b 30 0)] := by kernel_rfl
theorem xf_0_2 (a b : Int) : [runF 32 0 a b, runF 34 0 a b] = [some (owF a b 32 0), some (owF a b 34 0)] := by kernel_rfl
theorem xf_0_3 (a b : Int) : [runF 36 0 a b, runF 38 0 a b] = [some (owF a b 36 0), some (owF a b 38 0)] := by kernel_rfl
theorem xf_0_4 (a b : Int) : [runF 40 0 a b, runF 42 0 a b] = [some (owF a b 40 0), some (owF a b 42 0)] := by kernel_rfl
theorem xf_0_5 (a b : Int) : [runF 44 0 a b, runF 46 0 a b] = [some (owF a b 44 0), some (owF a b 46 0)] := by kernel_rfl
theorem xf_0_6 (a b : Int) : [runF 48 0 a b] = [some (owF a b 48 0)] := by kernel_rfl
theorem xf_0_7 (a b : Int) : [runF 50 0 a b] = [some (owF a b 50 0)] := by kernel_rfl
theorem xf_0_8 (a b : Int) : [runF 52 0 a b] = [some (owF a b 52 0)] := by kernel_rfl
theorem xf_0_9 (a b : Int) : [runF 54 0 a b] = [some (owF a b 54 0)] := by kernel_rfl
theorem xf_0_10 (a b : Int) : [runF 56 0 a b] = [some (owF a b 56 0)] := by kernel_rfl
theorem xf_0_11 (a b : Int) : [runF 58 0 a b] = [some (owF a b 58 0)] := by kernel_rfl
theorem xf_0_12 (a b : Int) : [runF 60 0 a b] = [some (owF a b 60 0)] := by kernel_rfl
theorem xf_0_13 (a b : Int) : [runF 62 0 a b] = [some (owF a b 62 0)] := by kernel_rfl
theorem xf_0 (a b : Int) (w : Nat) (h : w < 32) : runF (2 * w : Nat) 0 a b = some (owF a b (2 * w : Nat) 0) :=
  match w, h with
  | 0, _ => (hd8 (xf_0_0 a b)).1
  | 1, _ => (hd8 (hd8 (xf_0_0 a b)).2).1
  | 2, _ => (hd8 (hd8 (hd8 (xf_0_0 a b)).2).2).1
  | 3, _ => (hd8 (hd8 (hd8 (hd8 (xf_0_0 a b)).2).2).2).1
  | 4, _ => (hd8 (hd8 (hd8 (hd8 (hd8 (xf_0_0 a b)).2).2).2).2).1
  | 5, _ => (hd8 (hd8 (hd8 (hd8 (hd8 (hd8 (xf_0_0 a b)).2).2).2).2).2).1
  | 6, _ => (hd8 (hd8 (hd8 (hd8 (hd8 (hd8 (hd8 (xf_0_0 a b)).2).2).2).2).2).2).1
  | 7, _ => (hd8 (hd8 (hd8 (hd8 (hd8 (hd8 (hd8 (hd8 (xf_0_0 a b)).2).2).2).2).2).2).2).1
  | 8, _ => (hd8 (xf_0_1 a b)).1
  | 9, _ => (hd8 (hd8 (xf_0_1 a b)).2).1
  | 10, _ => (hd8 (hd8 (hd8 (xf_0_1 a b)).2).2).1
  | 11, _ => (hd8 (hd8 (hd8 (hd8 (xf_0_1 a b)).2).2).2).1
  | 12, _ => (hd8 (hd8 (hd8 (hd8 (hd8 (xf_0_1 a b)).2).2).2).2).1
  | 13, _ => (hd8 (hd8 (hd8 (hd8 (hd8 (hd8 (xf_0_1 a b)).2).2).2).2).2).1
  | 14, _ => (hd8 (hd8 (hd8 (hd8 (hd8 (hd8 (hd8 (xf_0_1 a b)).2).2).2).2).2).2).1
  | 15, _ => (hd8 (hd8 (hd8 (hd8 (hd8 (hd8 (hd8 (hd8 (xf_0_1 a b)).2).2).2).2).2).2).2).1
  | 16, _ => (hd8 (xf_0_2 a b)).1
  | 17, _ => (hd8 (hd8 (xf_0_2 a b)).2).1
  | 18, _ => (hd8 (xf_0_3 a b)).1
  | 19, _ => (hd8 (hd8 (xf_0_3 a b)).2).1
  | 20, _ => (hd8 (xf_0_4 a b)).1
  | 21, _ => (hd8 (hd8 (xf_0_4 a b)).2).1
  | 22, _ => (hd8 (xf_0_5 a b)).1
  | 23, _ => (hd8 (hd8 (xf_0_5 a b)).2).1
  | 24, _ => (hd8 (xf_0_6 a b)).1
  | 25, _ => (hd8 (xf_0_7 a b)).1
  | 26, _ => (hd8 (xf_0_8 a b)).1
  | 27, _ => (hd8 (xf_0_9 a b)).1
  | 28, _ => (hd8 (xf_0_10 a b)).1
  | 29, _ => (hd8 (xf_0_11 a b)).1
  | 30, _ => (hd8 (xf_0_12 a b)).1
  | 31, _ => (hd8 (xf_0_13 a b)).1
  | w + 32, h => by omega
end Go.Proofs.Ytlnlopeodpamdaa.Hx
