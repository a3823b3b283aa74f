/-
  The words of a text, for each length from 0 to 23.
-/
import Derived.Test.YtognbiffhgpoaaaGreatLawXPay
set_option maxRecDepth 100000
set_option linter.unusedVariables false
namespace Go.Proofs.YtognbiffhgpoaaaGreat.Hx
open Go AH Go.Proofs
noncomputable section
theorem pay0 : PayOk (bs []) 1 := payOk_of (by decide) (by kernel_rfl) (by kernel_rfl)
theorem pay1 (b0 : UInt8) : PayOk (bs [b0]) 2 := payOk_of (by decide) (by kernel_rfl) (by kernel_rfl)
theorem pay2 (b0 b1 : UInt8) : PayOk (bs [b0, b1]) 2 := payOk_of (by decide) (by kernel_rfl) (by kernel_rfl)
theorem pay3 (b0 b1 b2 : UInt8) : PayOk (bs [b0, b1, b2]) 2 := payOk_of (by decide) (by kernel_rfl) (by kernel_rfl)
theorem pay4 (b0 b1 b2 b3 : UInt8) : PayOk (bs [b0, b1, b2, b3]) 2 := payOk_of (by decide) (by kernel_rfl) (by kernel_rfl)
theorem pay5 (b0 b1 b2 b3 b4 : UInt8) : PayOk (bs [b0, b1, b2, b3, b4]) 2 := payOk_of (by decide) (by kernel_rfl) (by kernel_rfl)
theorem pay6 (b0 b1 b2 b3 b4 b5 : UInt8) : PayOk (bs [b0, b1, b2, b3, b4, b5]) 2 := payOk_of (by decide) (by kernel_rfl) (by kernel_rfl)
theorem pay7 (b0 b1 b2 b3 b4 b5 b6 : UInt8) : PayOk (bs [b0, b1, b2, b3, b4, b5, b6]) 2 := payOk_of (by decide) (by kernel_rfl) (by kernel_rfl)
theorem pay8 (b0 b1 b2 b3 b4 b5 b6 b7 : UInt8) : PayOk (bs [b0, b1, b2, b3, b4, b5, b6, b7]) 2 := payOk_of (by decide) (by kernel_rfl) (by kernel_rfl)
theorem pay9 (b0 b1 b2 b3 b4 b5 b6 b7 b8 : UInt8) : PayOk (bs [b0, b1, b2, b3, b4, b5, b6, b7, b8]) 3 := payOk_of (by decide) (by kernel_rfl) (by kernel_rfl)
theorem pay10 (b0 b1 b2 b3 b4 b5 b6 b7 b8 b9 : UInt8) : PayOk (bs [b0, b1, b2, b3, b4, b5, b6, b7, b8, b9]) 3 := payOk_of (by decide) (by kernel_rfl) (by kernel_rfl)
theorem pay11 (b0 b1 b2 b3 b4 b5 b6 b7 b8 b9 b10 : UInt8) : PayOk (bs [b0, b1, b2, b3, b4, b5, b6, b7, b8, b9, b10]) 3 := payOk_of (by decide) (by kernel_rfl) (by kernel_rfl)
theorem pay12 (b0 b1 b2 b3 b4 b5 b6 b7 b8 b9 b10 b11 : UInt8) : PayOk (bs [b0, b1, b2, b3, b4, b5, b6, b7, b8, b9, b10, b11]) 3 := payOk_of (by decide) (by kernel_rfl) (by kernel_rfl)
theorem pay13 (b0 b1 b2 b3 b4 b5 b6 b7 b8 b9 b10 b11 b12 : UInt8) : PayOk (bs [b0, b1, b2, b3, b4, b5, b6, b7, b8, b9, b10, b11, b12]) 3 := payOk_of (by decide) (by kernel_rfl) (by kernel_rfl)
theorem pay14 (b0 b1 b2 b3 b4 b5 b6 b7 b8 b9 b10 b11 b12 b13 : UInt8) : PayOk (bs [b0, b1, b2, b3, b4, b5, b6, b7, b8, b9, b10, b11, b12, b13]) 3 := payOk_of (by decide) (by kernel_rfl) (by kernel_rfl)
theorem pay15 (b0 b1 b2 b3 b4 b5 b6 b7 b8 b9 b10 b11 b12 b13 b14 : UInt8) : PayOk (bs [b0, b1, b2, b3, b4, b5, b6, b7, b8, b9, b10, b11, b12, b13, b14]) 3 := payOk_of (by decide) (by kernel_rfl) (by kernel_rfl)
theorem pay16 (b0 b1 b2 b3 b4 b5 b6 b7 b8 b9 b10 b11 b12 b13 b14 b15 : UInt8) : PayOk (bs [b0, b1, b2, b3, b4, b5, b6, b7, b8, b9, b10, b11, b12, b13, b14, b15]) 3 := payOk_of (by decide) (by kernel_rfl) (by kernel_rfl)
theorem pay17 (b0 b1 b2 b3 b4 b5 b6 b7 b8 b9 b10 b11 b12 b13 b14 b15 b16 : UInt8) : PayOk (bs [b0, b1, b2, b3, b4, b5, b6, b7, b8, b9, b10, b11, b12, b13, b14, b15, b16]) 4 := payOk_of (by decide) (by kernel_rfl) (by kernel_rfl)
theorem pay18 (b0 b1 b2 b3 b4 b5 b6 b7 b8 b9 b10 b11 b12 b13 b14 b15 b16 b17 : UInt8) : PayOk (bs [b0, b1, b2, b3, b4, b5, b6, b7, b8, b9, b10, b11, b12, b13, b14, b15, b16, b17]) 4 := payOk_of (by decide) (by kernel_rfl) (by kernel_rfl)
theorem pay19 (b0 b1 b2 b3 b4 b5 b6 b7 b8 b9 b10 b11 b12 b13 b14 b15 b16 b17 b18 : UInt8) : PayOk (bs [b0, b1, b2, b3, b4, b5, b6, b7, b8, b9, b10, b11, b12, b13, b14, b15, b16, b17, b18]) 4 := payOk_of (by decide) (by kernel_rfl) (by kernel_rfl)
theorem pay20 (b0 b1 b2 b3 b4 b5 b6 b7 b8 b9 b10 b11 b12 b13 b14 b15 b16 b17 b18 b19 : UInt8) : PayOk (bs [b0, b1, b2, b3, b4, b5, b6, b7, b8, b9, b10, b11, b12, b13, b14, b15, b16, b17, b18, b19]) 4 := payOk_of (by decide) (by kernel_rfl) (by kernel_rfl)
theorem pay21 (b0 b1 b2 b3 b4 b5 b6 b7 b8 b9 b10 b11 b12 b13 b14 b15 b16 b17 b18 b19 b20 : UInt8) : PayOk (bs [b0, b1, b2, b3, b4, b5, b6, b7, b8, b9, b10, b11, b12, b13, b14, b15, b16, b17, b18, b19, b20]) 4 := payOk_of (by decide) (by kernel_rfl) (by kernel_rfl)
theorem pay22 (b0 b1 b2 b3 b4 b5 b6 b7 b8 b9 b10 b11 b12 b13 b14 b15 b16 b17 b18 b19 b20 b21 : UInt8) : PayOk (bs [b0, b1, b2, b3, b4, b5, b6, b7, b8, b9, b10, b11, b12, b13, b14, b15, b16, b17, b18, b19, b20, b21]) 4 := payOk_of (by decide) (by kernel_rfl) (by kernel_rfl)
theorem pay23 (b0 b1 b2 b3 b4 b5 b6 b7 b8 b9 b10 b11 b12 b13 b14 b15 b16 b17 b18 b19 b20 b21 b22 : UInt8) : PayOk (bs [b0, b1, b2, b3, b4, b5, b6, b7, b8, b9, b10, b11, b12, b13, b14, b15, b16, b17, b18, b19, b20, b21, b22]) 4 := payOk_of (by decide) (by kernel_rfl) (by kernel_rfl)
end
end Go.Proofs.YtognbiffhgpoaaaGreat.Hx
