/-
  A broker of the conf 'Plain', beside a call: what is behind broker.New.
-/
import Derived.Test.YtognbiffhgpoaaaGreatLawXOne
set_option maxRecDepth 100000
set_option linter.unusedVariables false
namespace Go.Proofs.YtognbiffhgpoaaaGreat.Hx
open Go AH Go.Proofs
noncomputable section
def boxR (a b c g e p : Int) (s : ByteArray) : St := ⟨1, (.node (.leaf) (.some (.cells 26 [(.int .i64 a), (.int .i64 b), (.int .i64 c), (.int .u64 g), (.int .i64 e), (.string s), (.int .u64 p)])) (.leaf))⟩
def vR : Value := (.agg ⟨[(.int .i64 (.ofNat 3)), (.slice (.some ⟨2, 0, .none⟩) 2 2), (.int .i64 (.ofNat 3)), (.int .i64 (.ofNat 24)), (.int .i64 (.ofNat 2))]⟩)
def σPR (a b c g e p : Int) (s : ByteArray) : St := ⟨3, (.node (.node (.leaf ) (.some (.cells 33 [(.int .i64 (.ofNat 3)), (.slice (.some ⟨2, 0, .none⟩) 2 2), (.int .i64 (.ofNat 3)), (.int .i64 (.ofNat 24)), (.int .i64 (.ofNat 2))])) (.leaf )) (.some (.cells 26 [(.int .i64 a), (.int .i64 b), (.int .i64 c), (.int .u64 g), (.int .i64 e), (.string s), (.int .u64 p)])) (.node (.leaf ) (.some (.cells 3 [(.int .i64 (.ofNat 2)), (.int .i64 (.ofNat 4))])) (.leaf )))⟩
def rR : Value := (.tuple ⟨[(.pointer (.some ⟨81, 0, .none⟩)), (.int .i64 (.ofNat 0))]⟩)
def σR (a b c g e p : Int) (s : ByteArray) : St := ⟨237, (.node (.node (.node (.node (.node (.node (.node (.node (.leaf ) (.some (.cells 22 [(.int .u64 (.ofNat 0))])) (.leaf )) (.some (.cells 31 [(.slice .none 0 0), (.slice .none 0
  0), (.slice .none 0 0)])) (.node (.leaf ) (.some (.cells 22 [(.int .u64 (.ofNat 0))])) (.leaf ))) (.some (.cells 49 [(.int .i64 (.ofNat 6)), (.int .i64 (.ofNat 2)), (.int .i64
  (.ofNat 3))])) (.node (.node (.leaf ) (.some (.cells 22 [(.int .u64 (.ofNat 0))])) (.leaf )) (.some (.cells 22 [(.int .u64 (.ofNat 0))])) (.node (.leaf ) (.some (.cells 4 [(.bool
  false)])) (.leaf )))) (.some .dead) (.node (.node (.node (.leaf ) (.some (.cells 49 [(.int .i64 (.ofNat 57)), (.int .i64 (.ofNat 4)), (.int .i64 (.ofNat 3))])) (.leaf )) (.some
  (.cells 4 [(.bool true), (.bool true), (.bool true)])) (.node (.leaf ) (.some (.cells 22 [(.int .u64 (.ofNat 0))])) (.leaf ))) (.some (.cells 49 [(.int .i64 (.ofNat 6)), (.int .i64
  (.ofNat 2)), (.int .i64 (.ofNat 3))])) (.node (.node (.leaf ) (.some (.cells 22 [(.int .u64 (.ofNat 0))])) (.leaf )) (.some (.cells 22 [(.int .u64 (.ofNat 0))])) (.leaf )))) (.some
  (.cells 49 [(.int .i64 (.ofNat 0)), (.int .i64 (.ofNat 4)), (.int .i64 (.ofNat 3))])) (.node (.node (.node (.node (.leaf ) (.some (.cells 22 [(.int .u64 (.ofNat 0))])) (.leaf ))
  (.some (.cells 76 [(.int .i64 (.ofNat 0)), (.int .i64 (.ofNat 3)), (.int .i64 (.ofNat 1))])) (.node (.leaf ) (.some (.cells 22 [(.int .u64 (.ofNat 0))])) (.leaf ))) (.some (.cells
  49 [(.int .i64 (.ofNat 57)), (.int .i64 (.ofNat 4)), (.int .i64 (.ofNat 3))])) (.node (.node (.leaf ) (.some (.cells 22 [(.int .u64 (.ofNat 0))])) (.leaf )) (.some (.cells 22 [(.int
  .u64 (.ofNat 0))])) (.node (.leaf ) (.some (.cells 22 [(.int .u64 (.ofNat 0))])) (.leaf )))) (.some (.cells 33 [(.int .i64 (.ofNat 3)), (.slice (.some ⟨2, 0, .none⟩) 2 2), (.int
  .i64 (.ofNat 3)), (.int .i64 (.ofNat 24)), (.int .i64 (.ofNat 2))])) (.node (.node (.node (.leaf ) (.some (.cells 22 [(.int .u64 (.ofNat 0))])) (.leaf )) (.some (.cells 49 [(.int
  .i64 (.ofNat 6)), (.int .i64 (.ofNat 2)), (.int .i64 (.ofNat 3))])) (.node (.leaf ) (.some (.cells 22 [(.int .u64 (.ofNat 0))])) (.leaf ))) (.some (.cells 49 [(.int .i64 (.ofNat
  57)), (.int .i64 (.ofNat 4)), (.int .i64 (.ofNat 3))])) (.node (.node (.leaf ) (.some (.cells 22 [(.int .u64 (.ofNat 0))])) (.leaf )) (.some (.cells 22 [(.int .u64 (.ofNat 0))]))
  (.leaf ))))) (.some (.cells 33 [(.int .i64 (.ofNat 3)), (.slice (.some ⟨25, 0, .none⟩) 2 9223372036854775808), (.int .i64 (.ofNat 3)), (.int .i64 (.ofNat 24)), (.int .i64 (.ofNat
  2))])) (.node (.node (.node (.node (.node (.leaf ) (.some (.cells 22 [(.int .u64 (.ofNat 0))])) (.leaf )) (.some (.cells 76 [(.int .i64 (.ofNat 0)), (.int .i64 (.ofNat 3)), (.int
  .i64 (.ofNat 1))])) (.node (.leaf ) (.some (.cells 22 [(.int .u64 (.ofNat 0))])) (.leaf ))) (.some (.cells 49 [(.int .i64 (.ofNat 6)), (.int .i64 (.ofNat 2)), (.int .i64 (.ofNat
  3))])) (.node (.node (.leaf ) (.some (.cells 22 [(.int .u64 (.ofNat 0))])) (.leaf )) (.some (.cells 22 [(.int .u64 (.ofNat 0))])) (.node (.leaf ) (.some (.cells 144 [(.bool true),
  (.pointer (.some ⟨80, 0, .none⟩)), (.int .i64 (.ofNat 0)), (.int .i64 (.ofNat 8)), (.int .i64 (.ofNat 2)), (.pointer .none), (.int .i64 (.ofNat 0)), (.int .i64 (.ofNat 2))])) (.leaf
  )))) (.some (.cells 49 [(.int .i64 (.ofNat 57)), (.int .i64 (.ofNat 4)), (.int .i64 (.ofNat 3))])) (.node (.node (.node (.leaf ) (.some (.cells 22 [(.int .u64 (.ofNat 0))])) (.leaf
  )) (.some (.cells 49 [(.int .i64 (.ofNat 6)), (.int .i64 (.ofNat 2)), (.int .i64 (.ofNat 3))])) (.node (.leaf ) (.some (.cells 22 [(.int .u64 (.ofNat 0))])) (.leaf ))) (.some
  (.cells 49 [(.int .i64 (.ofNat 57)), (.int .i64 (.ofNat 4)), (.int .i64 (.ofNat 3))])) (.node (.node (.leaf ) (.some (.cells 22 [(.int .u64 (.ofNat 0))])) (.leaf )) (.some (.cells
  22 [(.int .u64 (.ofNat 0))])) (.leaf )))) (.some (.cells 49 [(.int .i64 (.ofNat 0)), (.int .i64 (.ofNat 4)), (.int .i64 (.ofNat 3))])) (.node (.node (.node (.node (.leaf ) (.some
  (.cells 22 [(.int .u64 (.ofNat 0))])) (.leaf )) (.some (.cells 22 [(.int .u64 (.ofNat 0))])) (.node (.leaf ) (.some (.cells 22 [(.int .u64 (.ofNat 0))])) (.leaf ))) (.some (.cells 4
  [(.bool false), (.bool false), (.bool false), (.bool false), (.bool false), (.bool false), (.bool false), (.bool false), (.bool false), (.bool false), (.bool false), (.bool false),
  (.bool false), (.bool false), (.bool false), (.bool false), (.bool false), (.bool false), (.bool false), (.bool false), (.bool false), (.bool false), (.bool false), (.bool false),
  (.bool false), (.bool false), (.bool false), (.bool false), (.bool false), (.bool false), (.bool false), (.bool false), (.bool false), (.bool false), (.bool false), (.bool false),
  (.bool false), (.bool false), (.bool false), (.bool false), (.bool false), (.bool false), (.bool false), (.bool false), (.bool false), (.bool false), (.bool false), (.bool false),
  (.bool false), (.bool false), (.bool false), (.bool false), (.bool false), (.bool false), (.bool false), (.bool false), (.bool false), (.bool false), (.bool false), (.bool false),
  (.bool false), (.bool false), (.bool false), (.bool false), (.bool false), (.bool false), (.bool false), (.bool false), (.bool false), (.bool false), (.bool false), (.bool false),
  (.bool false), (.bool false), (.bool false), (.bool false), (.bool false), (.bool false), (.bool false), (.bool false), (.bool false), (.bool false), (.bool false), (.bool false),
  (.bool false), (.bool false), (.bool false), (.bool false), (.bool false), (.bool false), (.bool false), (.bool false), (.bool false), (.bool false), (.bool false), (.bool false),
  (.bool false), (.bool false), (.bool false), (.bool false), (.bool false), (.bool false), (.bool false), (.bool false), (.bool false), (.bool false), (.bool false), (.bool false),
  (.bool false), (.bool false), (.bool false), (.bool false), (.bool false), (.bool false), (.bool false), (.bool false), (.bool false), (.bool false), (.bool false), (.bool false),
  (.bool false), (.bool false), (.bool false), (.bool false), (.bool false), (.bool false), (.bool true), (.bool true), (.bool true), (.bool true), (.bool true), (.bool true), (.bool
  true), (.bool true), (.bool true), (.bool true), (.bool true), (.bool true), (.bool true), (.bool true), (.bool true), (.bool true), (.bool true), (.bool true), (.bool true), (.bool
  true), (.bool true), (.bool true), (.bool true), (.bool true), (.bool true), (.bool true), (.bool true), (.bool true), (.bool true), (.bool true), (.bool true), (.bool true), (.bool
  true), (.bool true), (.bool true), (.bool true), (.bool true), (.bool true), (.bool true), (.bool true), (.bool true), (.bool true), (.bool true), (.bool true), (.bool true), (.bool
  true), (.bool true), (.bool true), (.bool true), (.bool true), (.bool true), (.bool true), (.bool true), (.bool true), (.bool true), (.bool true), (.bool true), (.bool true), (.bool
  true), (.bool true), (.bool true), (.bool true), (.bool true), (.bool true), (.bool true), (.bool true), (.bool true), (.bool true), (.bool true), (.bool true), (.bool true), (.bool
  true), (.bool true), (.bool true), (.bool true), (.bool true), (.bool true), (.bool true), (.bool true), (.bool true), (.bool true), (.bool true), (.bool true), (.bool true), (.bool
  true), (.bool true), (.bool true), (.bool true), (.bool true), (.bool true), (.bool true), (.bool true), (.bool true), (.bool true), (.bool true), (.bool true)])) (.node (.node
  (.leaf ) (.some (.cells 22 [(.int .u64 (.ofNat 0))])) (.leaf )) (.some (.cells 22 [(.int .u64 (.ofNat 0))])) (.node (.leaf ) (.some (.cells 22 [(.int .u64 (.ofNat 1))])) (.leaf ))))
  (.some (.cells 33 [(.int .i64 (.ofNat 3)), (.slice (.some ⟨25, 0, .none⟩) 2 9223372036854775808), (.int .i64 (.ofNat 3)), (.int .i64 (.ofNat 24)), (.int .i64 (.ofNat 2))])) (.node
  (.node (.node (.leaf ) (.some (.cells 22 [(.int .u64 (.ofNat 0))])) (.leaf )) (.some (.cells 22 [(.int .u64 (.ofNat 0))])) (.node (.leaf ) (.some (.cells 4 [(.bool true)])) (.leaf
  ))) (.some (.cells 111 [(.pointer (.some ⟨44, 0, .none⟩)), (.int .i64 (.ofNat 126)), (.int .i64 (.ofNat 96)), (.map (.some 57)), (.map (.some 58)), (.slice .none 0 0), (.int .i64
  (.ofNat 0))])) (.node (.node (.leaf ) (.some (.cells 22 [(.int .u64 (.ofNat 0))])) (.leaf )) (.some (.cells 22 [(.int .u64 (.ofNat 0))])) (.leaf )))))) (.some (.cells 33 [(.int .i64
  (.ofNat 3)), (.slice (.some ⟨2, 0, .none⟩) 2 2), (.int .i64 (.ofNat 3)), (.int .i64 (.ofNat 24)), (.int .i64 (.ofNat 2))])) (.node (.node (.node (.node (.node (.node (.leaf ) (.some
  (.cells 22 [(.int .u64 (.ofNat 0))])) (.leaf )) (.some (.cells 76 [(.int .i64 (.ofNat 0)), (.int .i64 (.ofNat 3)), (.int .i64 (.ofNat 1))])) (.node (.leaf ) (.some (.cells 22 [(.int
  .u64 (.ofNat 0))])) (.leaf ))) (.some .dead) (.node (.node (.leaf ) (.some (.cells 22 [(.int .u64 (.ofNat 0))])) (.leaf )) (.some (.cells 22 [(.int .u64 (.ofNat 0))])) (.node (.leaf
  ) (.some (.cells 22 [(.int .u64 (.ofNat 1))])) (.leaf )))) (.some (.cells 49 [(.int .i64 (.ofNat 6)), (.int .i64 (.ofNat 2)), (.int .i64 (.ofNat 3))])) (.node (.node (.node (.leaf )
  (.some (.cells 49 [(.int .i64 (.ofNat 57)), (.int .i64 (.ofNat 4)), (.int .i64 (.ofNat 3))])) (.leaf )) (.some (.cells 58 [(.int .i64 (.ofNat 3)), (.slice (.some ⟨25, 0, .none⟩) 2
  9223372036854775808), (.int .i64 (.ofNat 3)), (.int .i64 (.ofNat 24)), (.int .i64 (.ofNat 2)), (.pointer (.some ⟨44, 0, .none⟩)), (.pointer (.some ⟨80, 0, .none⟩)), (.slice (.some
  ⟨53, 0, .none⟩) 2 9223372036854775808)])) (.node (.leaf ) (.some (.cells 22 [(.int .u64 (.ofNat 0))])) (.leaf ))) (.some (.cells 49 [(.int .i64 (.ofNat 6)), (.int .i64 (.ofNat 2)),
  (.int .i64 (.ofNat 3))])) (.node (.node (.leaf ) (.some (.cells 22 [(.int .u64 (.ofNat 0))])) (.leaf )) (.some (.cells 22 [(.int .u64 (.ofNat 0))])) (.leaf )))) (.some (.cells 33
  [(.int .i64 (.ofNat 3)), (.slice (.some ⟨2, 0, .none⟩) 2 2), (.int .i64 (.ofNat 3)), (.int .i64 (.ofNat 24)), (.int .i64 (.ofNat 2))])) (.node (.node (.node (.node (.leaf ) (.some
  (.cells 22 [(.int .u64 (.ofNat 0))])) (.leaf )) (.some (.cells 22 [(.int .u64 (.ofNat 0))])) (.node (.leaf ) (.some (.cells 22 [(.int .u64 (.ofNat 0))])) (.leaf ))) (.some (.cells
  33 [(.int .i64 (.ofNat 3)), (.slice (.some ⟨25, 0, .none⟩) 2 9223372036854775808), (.int .i64 (.ofNat 3)), (.int .i64 (.ofNat 24)), (.int .i64 (.ofNat 2))])) (.node (.node (.leaf )
  (.some (.cells 22 [(.int .u64 (.ofNat 0))])) (.leaf )) (.some (.cells 22 [(.int .u64 (.ofNat 0))])) (.node (.leaf ) (.some (.cells 4 [(.bool false)])) (.leaf )))) (.some (.row 3 1
  [(.int .i64 (.ofNat 2)), (.int .i64 (.ofNat 4))])) (.node (.node (.node (.leaf ) (.some (.cells 22 [(.int .u64 (.ofNat 0))])) (.leaf )) (.some (.cells 22 [(.int .u64 (.ofNat 0))]))
  (.node (.leaf ) (.some (.cells 22 [(.int .u64 (.ofNat 0))])) (.leaf ))) (.some (.map [] 0)) (.node (.node (.leaf ) (.some (.cells 22 [(.int .u64 (.ofNat 0))])) (.leaf )) (.some
  (.cells 22 [(.int .u64 (.ofNat 0))])) (.leaf ))))) (.some (.cells 33 [(.int .i64 (.ofNat 3)), (.slice (.some ⟨2, 0, .none⟩) 2 2), (.int .i64 (.ofNat 3)), (.int .i64 (.ofNat 24)),
  (.int .i64 (.ofNat 2))])) (.node (.node (.node (.node (.node (.leaf ) (.some (.cells 22 [(.int .u64 (.ofNat 0))])) (.leaf )) (.some (.cells 76 [(.int .i64 (.ofNat 0)), (.int .i64
  (.ofNat 3)), (.int .i64 (.ofNat 1))])) (.node (.leaf ) (.some (.cells 22 [(.int .u64 (.ofNat 0))])) (.leaf ))) (.some (.cells 49 [(.int .i64 (.ofNat 57)), (.int .i64 (.ofNat 4)),
  (.int .i64 (.ofNat 3))])) (.node (.node (.leaf ) (.some (.cells 22 [(.int .u64 (.ofNat 0))])) (.leaf )) (.some (.cells 22 [(.int .u64 (.ofNat 0))])) (.node (.leaf ) (.some (.cells
  22 [(.int .u64 (.ofNat 1))])) (.leaf )))) (.some (.cells 49 [(.int .i64 (.ofNat 57)), (.int .i64 (.ofNat 4)), (.int .i64 (.ofNat 3))])) (.node (.node (.node (.leaf ) (.some (.cells
  22 [(.int .u64 (.ofNat 0))])) (.leaf )) (.some (.cells 49 [(.int .i64 (.ofNat 6)), (.int .i64 (.ofNat 2)), (.int .i64 (.ofNat 3))])) (.node (.leaf ) (.some (.cells 22 [(.int .u64
  (.ofNat 0))])) (.leaf ))) (.some (.row 49 3 [(.int .i64 (.ofNat 6)), (.int .i64 (.ofNat 2)), (.int .i64 (.ofNat 3)), (.int .i64 (.ofNat 57)), (.int .i64 (.ofNat 4)), (.int .i64
  (.ofNat 3))])) (.node (.node (.leaf ) (.some (.cells 22 [(.int .u64 (.ofNat 0))])) (.leaf )) (.some (.cells 22 [(.int .u64 (.ofNat 0))])) (.leaf )))) (.some (.cells 49 [(.int .i64
  (.ofNat 6)), (.int .i64 (.ofNat 2)), (.int .i64 (.ofNat 3))])) (.node (.node (.node (.node (.leaf ) (.some (.cells 49 [(.int .i64 (.ofNat 57)), (.int .i64 (.ofNat 4)), (.int .i64
  (.ofNat 3))])) (.leaf )) (.some (.cells 22 [(.int .u64 (.ofNat 0))])) (.node (.leaf ) (.some (.cells 22 [(.int .u64 (.ofNat 0))])) (.leaf ))) (.some (.cells 33 [(.int .i64 (.ofNat
  3)), (.slice (.some ⟨25, 0, .none⟩) 2 9223372036854775808), (.int .i64 (.ofNat 3)), (.int .i64 (.ofNat 24)), (.int .i64 (.ofNat 2))])) (.node (.node (.leaf ) (.some (.cells 22
  [(.int .u64 (.ofNat 0))])) (.leaf )) (.some (.cells 22 [(.int .u64 (.ofNat 0))])) (.leaf ))) (.some (.cells 49 [(.int .i64 (.ofNat 0)), (.int .i64 (.ofNat 4)), (.int .i64 (.ofNat
  3))])) (.node (.node (.node (.leaf ) (.some (.cells 22 [(.int .u64 (.ofNat 0))])) (.leaf )) (.some (.cells 22 [(.int .u64 (.ofNat 0))])) (.node (.leaf ) (.some (.cells 22 [(.int
  .u64 (.ofNat 0))])) (.leaf ))) (.some (.cells 76 [(.int .i64 (.ofNat 0)), (.int .i64 (.ofNat 3)), (.int .i64 (.ofNat 1))])) (.node (.node (.leaf ) (.some (.cells 22 [(.int .u64
  (.ofNat 0))])) (.leaf )) (.some (.cells 22 [(.int .u64 (.ofNat 0))])) (.leaf ))))))) (.some (.cells 26 [(.int .i64 a), (.int .i64 b), (.int .i64 c), (.int .u64 g), (.int .i64 e),
  (.string s), (.int .u64 p)])) (.node (.node (.node (.node (.node (.node (.node (.leaf ) (.some (.cells 22 [(.int .u64 (.ofNat 0))])) (.leaf )) (.some (.cells 137 [(.int .i64 (.ofNat
  0)), (.int .i64 (.ofNat 3)), (.int .i64 (.ofNat 1)), (.pointer (.some ⟨59, 0, .none⟩)), (.int .i64 (.ofNat 2)), (.slice (.some ⟨63, 0, .none⟩) 3 3), (.int .i64 (.ofNat 0))])) (.node
  (.leaf ) (.some (.cells 22 [(.int .u64 (.ofNat 0))])) (.leaf ))) (.some (.cells 49 [(.int .i64 (.ofNat 6)), (.int .i64 (.ofNat 2)), (.int .i64 (.ofNat 3))])) (.node (.node (.leaf )
  (.some (.cells 22 [(.int .u64 (.ofNat 0))])) (.leaf )) (.some (.cells 22 [(.int .u64 (.ofNat 0))])) (.node (.leaf ) (.some (.cells 22 [(.int .u64 (.ofNat 0))])) (.leaf )))) (.some
  (.cells 49 [(.int .i64 (.ofNat 6)), (.int .i64 (.ofNat 2)), (.int .i64 (.ofNat 3))])) (.node (.node (.node (.leaf ) (.some (.cells 49 [(.int .i64 (.ofNat 57)), (.int .i64 (.ofNat
  4)), (.int .i64 (.ofNat 3))])) (.leaf )) (.some (.cells 104 [(.int .i64 (.ofNat 0)), (.int .i64 (.ofNat 3)), (.int .i64 (.ofNat 1)), (.int .i64 (.ofNat 3)), (.pointer (.some ⟨59, 0,
  .none⟩)), (.pointer (.some ⟨64, 0, .none⟩)), (.slice (.some ⟨79, 0, .none⟩) 3 3)])) (.node (.leaf ) (.some (.cells 22 [(.int .u64 (.ofNat 0))])) (.leaf ))) (.some .dead) (.node
  (.node (.leaf ) (.some (.cells 22 [(.int .u64 (.ofNat 0))])) (.leaf )) (.some (.cells 22 [(.int .u64 (.ofNat 0))])) (.leaf )))) (.some (.cells 33 [(.int .i64 (.ofNat 3)), (.slice
  (.some ⟨2, 0, .none⟩) 2 2), (.int .i64 (.ofNat 3)), (.int .i64 (.ofNat 24)), (.int .i64 (.ofNat 2))])) (.node (.node (.node (.node (.leaf ) (.some (.cells 22 [(.int .u64 (.ofNat
  0))])) (.leaf )) (.some (.cells 76 [(.int .i64 (.ofNat 0)), (.int .i64 (.ofNat 3)), (.int .i64 (.ofNat 1))])) (.node (.leaf ) (.some (.cells 22 [(.int .u64 (.ofNat 0))])) (.leaf )))
  (.some (.cells 49 [(.int .i64 (.ofNat 57)), (.int .i64 (.ofNat 4)), (.int .i64 (.ofNat 3))])) (.node (.node (.leaf ) (.some (.cells 22 [(.int .u64 (.ofNat 0))])) (.leaf )) (.some
  (.cells 22 [(.int .u64 (.ofNat 0))])) (.node (.leaf ) (.some (.cells 22 [(.int .u64 (.ofNat 1))])) (.leaf )))) (.some (.cells 3 [])) (.node (.node (.node (.leaf ) (.some (.cells 22
  [(.int .u64 (.ofNat 0))])) (.leaf )) (.some (.cells 49 [(.int .i64 (.ofNat 6)), (.int .i64 (.ofNat 2)), (.int .i64 (.ofNat 3))])) (.node (.leaf ) (.some (.cells 144 [(.bool true),
  (.pointer (.some ⟨80, 0, .none⟩)), (.int .i64 (.ofNat 0)), (.int .i64 (.ofNat 8)), (.int .i64 (.ofNat 0)), (.pointer .none), (.int .i64 (.ofNat 0)), (.int .i64 (.ofNat 0))])) (.leaf
  ))) (.some (.cells 33 [(.int .i64 (.ofNat 3)), (.slice (.some ⟨25, 0, .none⟩) 2 9223372036854775808), (.int .i64 (.ofNat 3)), (.int .i64 (.ofNat 24)), (.int .i64 (.ofNat 2))]))
  (.node (.node (.leaf ) (.some (.cells 22 [(.int .u64 (.ofNat 0))])) (.leaf )) (.some (.cells 22 [(.int .u64 (.ofNat 0))])) (.leaf ))))) (.some (.cells 33 [(.int .i64 (.ofNat 3)),
  (.slice (.some ⟨2, 0, .none⟩) 2 2), (.int .i64 (.ofNat 3)), (.int .i64 (.ofNat 24)), (.int .i64 (.ofNat 2))])) (.node (.node (.node (.node (.node (.leaf ) (.some (.cells 22 [(.int
  .u64 (.ofNat 0))])) (.leaf )) (.some (.cells 76 [(.int .i64 (.ofNat 0)), (.int .i64 (.ofNat 3)), (.int .i64 (.ofNat 1))])) (.node (.leaf ) (.some (.cells 22 [(.int .u64 (.ofNat
  0))])) (.leaf ))) (.some (.cells 49 [(.int .i64 (.ofNat 57)), (.int .i64 (.ofNat 4)), (.int .i64 (.ofNat 3))])) (.node (.node (.leaf ) (.some (.cells 22 [(.int .u64 (.ofNat 0))]))
  (.leaf )) (.some (.cells 22 [(.int .u64 (.ofNat 0))])) (.node (.leaf ) (.some (.cells 22 [(.int .u64 (.ofNat 0))])) (.leaf )))) (.some (.row 49 3 [(.int .i64 (.ofNat 6)), (.int .i64
  (.ofNat 2)), (.int .i64 (.ofNat 3)), (.int .i64 (.ofNat 57)), (.int .i64 (.ofNat 4)), (.int .i64 (.ofNat 3))])) (.node (.node (.node (.leaf ) (.some (.cells 22 [(.int .u64 (.ofNat
  0))])) (.leaf )) (.some (.cells 49 [(.int .i64 (.ofNat 6)), (.int .i64 (.ofNat 2)), (.int .i64 (.ofNat 3))])) (.node (.leaf ) (.some (.cells 22 [(.int .u64 (.ofNat 0))])) (.leaf )))
  (.some (.cells 49 [(.int .i64 (.ofNat 57)), (.int .i64 (.ofNat 4)), (.int .i64 (.ofNat 3))])) (.node (.node (.leaf ) (.some (.cells 22 [(.int .u64 (.ofNat 0))])) (.leaf )) (.some
  (.cells 22 [(.int .u64 (.ofNat 0))])) (.leaf )))) (.some (.cells 33 [(.int .i64 (.ofNat 3)), (.slice (.some ⟨2, 0, .none⟩) 2 2), (.int .i64 (.ofNat 3)), (.int .i64 (.ofNat 24)),
  (.int .i64 (.ofNat 2))])) (.node (.node (.node (.node (.leaf ) (.some (.cells 49 [(.int .i64 (.ofNat 57)), (.int .i64 (.ofNat 4)), (.int .i64 (.ofNat 3))])) (.leaf )) (.some (.cells
  22 [(.int .u64 (.ofNat 0))])) (.node (.leaf ) (.some (.cells 22 [(.int .u64 (.ofNat 0))])) (.leaf ))) (.some (.cells 101 [(.slice (.some ⟨42, 0, .none⟩) 222 222), (.slice (.some
  ⟨43, 0, .none⟩) 222 222), (.int .i64 (.ofNat 0)), (.int .i64 (.ofNat 126)), (.int .i64 (.ofNat 6)), (.int .i64 (.ofNat 0)), (.int .i64 (.ofNat 0)), (.int .i64 (.ofNat 0)), (.int
  .i64 (.negSucc 0)), (.bool false)])) (.node (.node (.leaf ) (.some (.cells 22 [(.int .u64 (.ofNat 0))])) (.leaf )) (.some (.cells 22 [(.int .u64 (.ofNat 0))])) (.node (.leaf )
  (.some (.cells 4 [(.bool true)])) (.leaf )))) (.some (.cells 49 [(.int .i64 (.ofNat 0)), (.int .i64 (.ofNat 2)), (.int .i64 (.ofNat 3))])) (.node (.node (.node (.leaf ) (.some
  (.cells 22 [(.int .u64 (.ofNat 0))])) (.leaf )) (.some (.cells 22 [(.int .u64 (.ofNat 0))])) (.node (.leaf ) (.some (.cells 144 [(.bool true), (.pointer (.some ⟨80, 0, .none⟩)),
  (.int .i64 (.ofNat 0)), (.int .i64 (.ofNat 8)), (.int .i64 (.ofNat 1)), (.pointer .none), (.int .i64 (.ofNat 0)), (.int .i64 (.ofNat 1))])) (.leaf ))) (.some (.cells 76 [(.int .i64
  (.ofNat 0)), (.int .i64 (.ofNat 3)), (.int .i64 (.ofNat 1))])) (.node (.node (.leaf ) (.some (.cells 22 [(.int .u64 (.ofNat 0))])) (.leaf )) (.some (.cells 22 [(.int .u64 (.ofNat
  0))])) (.leaf )))))) (.some (.cells 3 [(.int .i64 (.ofNat 2)), (.int .i64 (.ofNat 4))])) (.node (.node (.node (.node (.node (.node (.leaf ) (.some (.cells 22 [(.int .u64 (.ofNat
  0))])) (.leaf )) (.some (.cells 76 [(.int .i64 (.ofNat 0)), (.int .i64 (.ofNat 3)), (.int .i64 (.ofNat 1))])) (.node (.leaf ) (.some (.cells 22 [(.int .u64 (.ofNat 0))])) (.leaf )))
  (.some (.cells 49 [(.int .i64 (.ofNat 6)), (.int .i64 (.ofNat 2)), (.int .i64 (.ofNat 3))])) (.node (.node (.leaf ) (.some (.cells 22 [(.int .u64 (.ofNat 0))])) (.leaf )) (.some
  (.cells 22 [(.int .u64 (.ofNat 0))])) (.node (.leaf ) (.some (.cells 4 [(.bool true)])) (.leaf )))) (.some (.cells 49 [(.int .i64 (.ofNat 57)), (.int .i64 (.ofNat 4)), (.int .i64
  (.ofNat 3))])) (.node (.node (.node (.leaf ) (.some (.cells 49 [(.int .i64 (.ofNat 57)), (.int .i64 (.ofNat 4)), (.int .i64 (.ofNat 3))])) (.leaf )) (.some (.cells 49 [(.int .i64
  (.ofNat 6)), (.int .i64 (.ofNat 2)), (.int .i64 (.ofNat 3))])) (.node (.leaf ) (.some (.cells 22 [(.int .u64 (.ofNat 0))])) (.leaf ))) (.some (.cells 49 [(.int .i64 (.ofNat 6)),
  (.int .i64 (.ofNat 2)), (.int .i64 (.ofNat 3))])) (.node (.node (.leaf ) (.some (.cells 22 [(.int .u64 (.ofNat 0))])) (.leaf )) (.some (.cells 22 [(.int .u64 (.ofNat 0))])) (.leaf
  )))) (.some (.cells 49 [(.int .i64 (.ofNat 0)), (.int .i64 (.ofNat 2)), (.int .i64 (.ofNat 3))])) (.node (.node (.node (.node (.leaf ) (.some (.cells 22 [(.int .u64 (.ofNat 0))]))
  (.leaf )) (.some (.cells 22 [(.int .u64 (.ofNat 0))])) (.node (.leaf ) (.some (.cells 22 [(.int .u64 (.ofNat 0))])) (.leaf ))) (.some (.cells 22 [(.int .u64 (.ofNat 0)), (.int .u64
  (.ofNat 0)), (.int .u64 (.ofNat 0)), (.int .u64 (.ofNat 1)), (.int .u64 (.ofNat 1)), (.int .u64 (.ofNat 1)), (.int .u64 (.ofNat 0)), (.int .u64 (.ofNat 0)), (.int .u64 (.ofNat 0)),
  (.int .u64 (.ofNat 0)), (.int .u64 (.ofNat 0)), (.int .u64 (.ofNat 0)), (.int .u64 (.ofNat 0)), (.int .u64 (.ofNat 0)), (.int .u64 (.ofNat 0)), (.int .u64 (.ofNat 0)), (.int .u64
  (.ofNat 0)), (.int .u64 (.ofNat 0)), (.int .u64 (.ofNat 0)), (.int .u64 (.ofNat 0)), (.int .u64 (.ofNat 0)), (.int .u64 (.ofNat 0)), (.int .u64 (.ofNat 0)), (.int .u64 (.ofNat 0)),
  (.int .u64 (.ofNat 0)), (.int .u64 (.ofNat 0)), (.int .u64 (.ofNat 0)), (.int .u64 (.ofNat 0)), (.int .u64 (.ofNat 0)), (.int .u64 (.ofNat 0)), (.int .u64 (.ofNat 0)), (.int .u64
  (.ofNat 0)), (.int .u64 (.ofNat 0)), (.int .u64 (.ofNat 0)), (.int .u64 (.ofNat 0)), (.int .u64 (.ofNat 0)), (.int .u64 (.ofNat 0)), (.int .u64 (.ofNat 0)), (.int .u64 (.ofNat 0)),
  (.int .u64 (.ofNat 0)), (.int .u64 (.ofNat 0)), (.int .u64 (.ofNat 0)), (.int .u64 (.ofNat 0)), (.int .u64 (.ofNat 0)), (.int .u64 (.ofNat 0)), (.int .u64 (.ofNat 0)), (.int .u64
  (.ofNat 0)), (.int .u64 (.ofNat 0)), (.int .u64 (.ofNat 0)), (.int .u64 (.ofNat 0)), (.int .u64 (.ofNat 0)), (.int .u64 (.ofNat 0)), (.int .u64 (.ofNat 0)), (.int .u64 (.ofNat 0)),
  (.int .u64 (.ofNat 0)), (.int .u64 (.ofNat 0)), (.int .u64 (.ofNat 0)), (.int .u64 (.ofNat 0)), (.int .u64 (.ofNat 0)), (.int .u64 (.ofNat 0)), (.int .u64 (.ofNat 0)), (.int .u64
  (.ofNat 0)), (.int .u64 (.ofNat 0)), (.int .u64 (.ofNat 0)), (.int .u64 (.ofNat 0)), (.int .u64 (.ofNat 0)), (.int .u64 (.ofNat 0)), (.int .u64 (.ofNat 0)), (.int .u64 (.ofNat 0)),
  (.int .u64 (.ofNat 0)), (.int .u64 (.ofNat 0)), (.int .u64 (.ofNat 0)), (.int .u64 (.ofNat 0)), (.int .u64 (.ofNat 0)), (.int .u64 (.ofNat 0)), (.int .u64 (.ofNat 0)), (.int .u64
  (.ofNat 0)), (.int .u64 (.ofNat 0)), (.int .u64 (.ofNat 0)), (.int .u64 (.ofNat 0)), (.int .u64 (.ofNat 0)), (.int .u64 (.ofNat 0)), (.int .u64 (.ofNat 0)), (.int .u64 (.ofNat 0)),
  (.int .u64 (.ofNat 0)), (.int .u64 (.ofNat 0)), (.int .u64 (.ofNat 0)), (.int .u64 (.ofNat 0)), (.int .u64 (.ofNat 0)), (.int .u64 (.ofNat 0)), (.int .u64 (.ofNat 0)), (.int .u64
  (.ofNat 0)), (.int .u64 (.ofNat 0)), (.int .u64 (.ofNat 0)), (.int .u64 (.ofNat 0)), (.int .u64 (.ofNat 0)), (.int .u64 (.ofNat 0)), (.int .u64 (.ofNat 0)), (.int .u64 (.ofNat 0)),
  (.int .u64 (.ofNat 0)), (.int .u64 (.ofNat 0)), (.int .u64 (.ofNat 0)), (.int .u64 (.ofNat 0)), (.int .u64 (.ofNat 0)), (.int .u64 (.ofNat 0)), (.int .u64 (.ofNat 0)), (.int .u64
  (.ofNat 0)), (.int .u64 (.ofNat 0)), (.int .u64 (.ofNat 0)), (.int .u64 (.ofNat 0)), (.int .u64 (.ofNat 0)), (.int .u64 (.ofNat 0)), (.int .u64 (.ofNat 0)), (.int .u64 (.ofNat 0)),
  (.int .u64 (.ofNat 0)), (.int .u64 (.ofNat 0)), (.int .u64 (.ofNat 0)), (.int .u64 (.ofNat 0)), (.int .u64 (.ofNat 0)), (.int .u64 (.ofNat 0)), (.int .u64 (.ofNat 0)), (.int .u64
  (.ofNat 0)), (.int .u64 (.ofNat 0)), (.int .u64 (.ofNat 0)), (.int .u64 (.ofNat 0)), (.int .u64 (.ofNat 0)), (.int .u64 (.ofNat 0)), (.int .u64 (.ofNat 0)), (.int .u64 (.ofNat 0)),
  (.int .u64 (.ofNat 0)), (.int .u64 (.ofNat 0)), (.int .u64 (.ofNat 0)), (.int .u64 (.ofNat 0)), (.int .u64 (.ofNat 0)), (.int .u64 (.ofNat 0)), (.int .u64 (.ofNat 0)), (.int .u64
  (.ofNat 0)), (.int .u64 (.ofNat 0)), (.int .u64 (.ofNat 0)), (.int .u64 (.ofNat 0)), (.int .u64 (.ofNat 0)), (.int .u64 (.ofNat 0)), (.int .u64 (.ofNat 0)), (.int .u64 (.ofNat 0)),
  (.int .u64 (.ofNat 0)), (.int .u64 (.ofNat 0)), (.int .u64 (.ofNat 0)), (.int .u64 (.ofNat 0)), (.int .u64 (.ofNat 0)), (.int .u64 (.ofNat 0)), (.int .u64 (.ofNat 0)), (.int .u64
  (.ofNat 0)), (.int .u64 (.ofNat 0)), (.int .u64 (.ofNat 0)), (.int .u64 (.ofNat 0)), (.int .u64 (.ofNat 0)), (.int .u64 (.ofNat 0)), (.int .u64 (.ofNat 0)), (.int .u64 (.ofNat 0)),
  (.int .u64 (.ofNat 0)), (.int .u64 (.ofNat 0)), (.int .u64 (.ofNat 0)), (.int .u64 (.ofNat 0)), (.int .u64 (.ofNat 0)), (.int .u64 (.ofNat 0)), (.int .u64 (.ofNat 0)), (.int .u64
  (.ofNat 0)), (.int .u64 (.ofNat 0)), (.int .u64 (.ofNat 0)), (.int .u64 (.ofNat 0)), (.int .u64 (.ofNat 0)), (.int .u64 (.ofNat 0)), (.int .u64 (.ofNat 0)), (.int .u64 (.ofNat 0)),
  (.int .u64 (.ofNat 0)), (.int .u64 (.ofNat 0)), (.int .u64 (.ofNat 0)), (.int .u64 (.ofNat 0)), (.int .u64 (.ofNat 0)), (.int .u64 (.ofNat 0)), (.int .u64 (.ofNat 0)), (.int .u64
  (.ofNat 0)), (.int .u64 (.ofNat 0)), (.int .u64 (.ofNat 0)), (.int .u64 (.ofNat 0)), (.int .u64 (.ofNat 0)), (.int .u64 (.ofNat 0)), (.int .u64 (.ofNat 0)), (.int .u64 (.ofNat 0)),
  (.int .u64 (.ofNat 0)), (.int .u64 (.ofNat 0)), (.int .u64 (.ofNat 0)), (.int .u64 (.ofNat 0)), (.int .u64 (.ofNat 0)), (.int .u64 (.ofNat 0)), (.int .u64 (.ofNat 0)), (.int .u64
  (.ofNat 0)), (.int .u64 (.ofNat 0)), (.int .u64 (.ofNat 0)), (.int .u64 (.ofNat 0)), (.int .u64 (.ofNat 0)), (.int .u64 (.ofNat 0)), (.int .u64 (.ofNat 0)), (.int .u64 (.ofNat 0)),
  (.int .u64 (.ofNat 0)), (.int .u64 (.ofNat 0)), (.int .u64 (.ofNat 0)), (.int .u64 (.ofNat 0)), (.int .u64 (.ofNat 0)), (.int .u64 (.ofNat 0)), (.int .u64 (.ofNat 0)), (.int .u64
  (.ofNat 0)), (.int .u64 (.ofNat 0)), (.int .u64 (.ofNat 0)), (.int .u64 (.ofNat 0)), (.int .u64 (.ofNat 0)), (.int .u64 (.ofNat 0)), (.int .u64 (.ofNat 0)), (.int .u64 (.ofNat 0)),
  (.int .u64 (.ofNat 0)), (.int .u64 (.ofNat 0)), (.int .u64 (.ofNat 0))])) (.node (.node (.leaf ) (.some (.cells 22 [(.int .u64 (.ofNat 0))])) (.leaf )) (.some (.cells 22 [(.int .u64
  (.ofNat 0))])) (.node (.leaf ) (.some (.cells 22 [(.int .u64 (.ofNat 0))])) (.leaf )))) (.some (.cells 33 [(.int .i64 (.ofNat 3)), (.slice (.some ⟨25, 0, .none⟩) 2
  9223372036854775808), (.int .i64 (.ofNat 3)), (.int .i64 (.ofNat 24)), (.int .i64 (.ofNat 2))])) (.node (.node (.node (.leaf ) (.some (.cells 22 [(.int .u64 (.ofNat 0))])) (.leaf ))
  (.some (.cells 22 [(.int .u64 (.ofNat 0))])) (.node (.leaf ) (.some (.cells 22 [(.int .u64 (.ofNat 1))])) (.leaf ))) (.some (.map [] 0)) (.node (.node (.leaf ) (.some (.cells 22
  [(.int .u64 (.ofNat 0))])) (.leaf )) (.some (.cells 22 [(.int .u64 (.ofNat 0))])) (.leaf ))))) (.some (.cells 49 [(.int .i64 (.ofNat 0)), (.int .i64 (.ofNat 2)), (.int .i64 (.ofNat
  3))])) (.node (.node (.node (.node (.node (.leaf ) (.some (.cells 22 [(.int .u64 (.ofNat 0))])) (.leaf )) (.some (.cells 76 [(.int .i64 (.ofNat 0)), (.int .i64 (.ofNat 3)), (.int
  .i64 (.ofNat 1))])) (.node (.leaf ) (.some (.cells 22 [(.int .u64 (.ofNat 0))])) (.leaf ))) (.some (.row 49 3 [(.int .i64 (.ofNat 6)), (.int .i64 (.ofNat 2)), (.int .i64 (.ofNat
  3)), (.int .i64 (.ofNat 57)), (.int .i64 (.ofNat 4)), (.int .i64 (.ofNat 3))])) (.node (.node (.leaf ) (.some (.cells 22 [(.int .u64 (.ofNat 0))])) (.leaf )) (.some (.cells 22
  [(.int .u64 (.ofNat 0))])) (.node (.leaf ) (.some (.cells 4 [(.bool false)])) (.leaf )))) (.some (.cells 49 [(.int .i64 (.ofNat 57)), (.int .i64 (.ofNat 4)), (.int .i64 (.ofNat
  3))])) (.node (.node (.node (.leaf ) (.some (.cells 22 [(.int .u64 (.ofNat 0))])) (.leaf )) (.some (.cells 49 [(.int .i64 (.ofNat 6)), (.int .i64 (.ofNat 2)), (.int .i64 (.ofNat
  3))])) (.node (.leaf ) (.some (.cells 22 [(.int .u64 (.ofNat 0))])) (.leaf ))) (.some (.cells 49 [(.int .i64 (.ofNat 57)), (.int .i64 (.ofNat 4)), (.int .i64 (.ofNat 3))])) (.node
  (.node (.leaf ) (.some (.cells 22 [(.int .u64 (.ofNat 0))])) (.leaf )) (.some (.cells 22 [(.int .u64 (.ofNat 0))])) (.leaf )))) (.some (.cells 49 [(.int .i64 (.ofNat 6)), (.int .i64
  (.ofNat 2)), (.int .i64 (.ofNat 3))])) (.node (.node (.node (.node (.leaf ) (.some (.cells 49 [(.int .i64 (.ofNat 57)), (.int .i64 (.ofNat 4)), (.int .i64 (.ofNat 3))])) (.leaf ))
  (.some (.cells 22 [(.int .u64 (.ofNat 0))])) (.node (.leaf ) (.some (.cells 22 [(.int .u64 (.ofNat 0))])) (.leaf ))) (.some (.cells 49 [(.int .i64 (.ofNat 6)), (.int .i64 (.ofNat
  2)), (.int .i64 (.ofNat 3))])) (.node (.node (.leaf ) (.some (.cells 22 [(.int .u64 (.ofNat 0))])) (.leaf )) (.some (.cells 22 [(.int .u64 (.ofNat 0))])) (.leaf ))) (.some (.cells
  33 [(.int .i64 (.ofNat 3)), (.slice (.some ⟨25, 0, .none⟩) 2 9223372036854775808), (.int .i64 (.ofNat 3)), (.int .i64 (.ofNat 24)), (.int .i64 (.ofNat 2))])) (.node (.node (.node
  (.leaf ) (.some (.cells 22 [(.int .u64 (.ofNat 0))])) (.leaf )) (.some (.cells 22 [(.int .u64 (.ofNat 0))])) (.node (.leaf ) (.some (.cells 22 [(.int .u64 (.ofNat 1))])) (.leaf )))
  (.some (.cells 76 [(.int .i64 (.ofNat 0)), (.int .i64 (.ofNat 3)), (.int .i64 (.ofNat 1))])) (.node (.node (.leaf ) (.some (.cells 22 [(.int .u64 (.ofNat 0))])) (.leaf )) (.some
  (.cells 22 [(.int .u64 (.ofNat 0))])) (.leaf ))))))))⟩
theorem plainR (a b c g e p : Int) (s : ByteArray) : ev1 7 [] (boxR a b c g e p s) = some (vR, σPR a b c g e p s) := by kernel_rfl
theorem newR (a b c g e p : Int) (s : ByteArray) : ev1 6 [vR] (σPR a b c g e p s) = some (rR, σR a b c g e p s) := by kernel_rfl

/-- The oracle 'within'. -/
def orcW (orc : CallF) : CallF := fun g args σ => bif Nat.beq g 39 then (match args with | [.int .i64 v, .int .i64 lo, .int .i64 hi] => some (.bool (leI lo v && leI v hi), σ) | _ => orc g args σ) else orc g args σ
theorem within_ok (v lo hi : Int) (σ : St) : WF M.toEnv 39 [.int .i64 v, .int .i64 lo, .int .i64 hi] σ (fun r σ' => r = .bool (leI lo v && leI v hi) ∧ σ' = σ) := by
  cases h : leI lo v with
  | true =>
    have hr : bodyO M ev1 (fun t => bif Nat.beq t 9 then some (.bool true) else none) 1000 39 [.int .i64 v, .int .i64 lo, .int .i64 hi] σ = some (.bool (leI v hi), σ, True ∧ some (Value.bool (leI lo v)) = some (.bool true)) := by kernel_rfl
    refine (bodyO_sound ev1_ok hr ⟨trivial, by rw [h]⟩).mono fun r σ' _ ⟨e1, e2⟩ => ⟨?_, e2⟩
    rw [e1, Bool.true_and]
  | false =>
    have hr : bodyO M ev1 (fun t => bif Nat.beq t 9 then some (.bool false) else none) 1000 39 [.int .i64 v, .int .i64 lo, .int .i64 hi] σ = some (.bool false, σ, True ∧ some (Value.bool (leI lo v)) = some (.bool false)) := by kernel_rfl
    refine (bodyO_sound ev1_ok hr ⟨trivial, by rw [h]⟩).mono fun r σ' _ ⟨e1, e2⟩ => ⟨?_, e2⟩
    rw [e1, Bool.false_and]
theorem orcW_ok {orc : CallF} (ho : CallOk M orc) : CallOk M (orcW orc) := by
  intro g args σ r σ' hq
  unfold orcW at hq
  cases hb : Nat.beq g 39 with
  | false => rw [hb] at hq; exact ho g args σ r σ' hq
  | true =>
    have hg : g = 39 := Nat.eq_of_beq_eq_true hb
    subst hg
    rw [hb] at hq
    simp only [cond_true] at hq
    split at hq
    · simp only [Option.some.injEq, Prod.mk.injEq] at hq
      obtain ⟨rfl, rfl⟩ := hq
      exact within_ok _ _ _ σ
    · exact ho _ _ σ r σ' hq
def orcR : CallF := orcW orc25
theorem orcR_ok : CallOk M orcR := orcW_ok orc25_ok
def evR : CallF := ev3 M orcR 100000 50
theorem evR_ok : CallOk M evR := ev3_sound orcR_ok 100000 50

def sndC : Code → Code
  | .seq _ y => y
  | c => c
def fstC : Code → Code
  | .seq x _ => x
  | c => c
end
end Go.Proofs.YtognbiffhgpoaaaGreat.Hx
