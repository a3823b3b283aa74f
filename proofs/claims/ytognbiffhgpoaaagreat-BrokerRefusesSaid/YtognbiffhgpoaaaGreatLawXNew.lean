/-
  A broker of the conf 'Plain', reckoned once: what is behind broker.New.
-/
import Derived.Test.YtognbiffhgpoaaaGreatAh37
import Derived.Test.YtognbiffhgpoaaaGreatLawHOrc
set_option maxRecDepth 100000
namespace Go.Proofs.YtognbiffhgpoaaaGreat.Hx
open Go AH Go.Proofs
noncomputable section
def v7 : Value := .agg ⟨[(.int .i64 (.ofNat 3)), (.slice (.some ⟨1, 0, .none⟩) 2 2), (.int .i64 (.ofNat 3)), (.int .i64 (.ofNat 24)), (.int .i64 (.ofNat 2))]⟩
def σ7 : St := ⟨2, (.node (.node (.leaf ) (.some (.cells 3 [(.int .i64 (.ofNat 2)), (.int .i64 (.ofNat 4))])) (.leaf )) (.some (.cells 33 [(.int .i64 (.ofNat 3)), (.slice (.some ⟨1, 0, .none⟩) 2 2), (.int .i64 (.ofNat 3)), (.int .i64 (.ofNat 24)), (.int .i64 (.ofNat 2))])) (.leaf ))⟩
def r6 : Value := (.tuple ⟨[(.pointer (.some ⟨80, 0, .none⟩)), (.int .i64 (.ofNat 0))]⟩)
def σ6 : St := ⟨236, (.node (.node (.node (.node (.node (.node (.node (.node (.leaf ) (.some (.cells 22 [(.int .u64 (.ofNat 0))])) (.leaf )) (.some (.cells 137 [(.int .i64 (.ofNat 0)), (.int .i64
  (.ofNat 3)), (.int .i64 (.ofNat 1)), (.pointer (.some ⟨58, 0, .none⟩)), (.int .i64 (.ofNat 2)), (.slice (.some ⟨62, 0, .none⟩) 3 3), (.int .i64 (.ofNat 0))])) (.node (.leaf ) (.some
  (.cells 22 [(.int .u64 (.ofNat 0))])) (.leaf ))) (.some (.cells 49 [(.int .i64 (.ofNat 6)), (.int .i64 (.ofNat 2)), (.int .i64 (.ofNat 3))])) (.node (.node (.leaf ) (.some (.cells
  22 [(.int .u64 (.ofNat 0))])) (.leaf )) (.some (.cells 22 [(.int .u64 (.ofNat 0))])) (.node (.leaf ) (.some (.cells 22 [(.int .u64 (.ofNat 0))])) (.leaf )))) (.some (.cells 49
  [(.int .i64 (.ofNat 6)), (.int .i64 (.ofNat 2)), (.int .i64 (.ofNat 3))])) (.node (.node (.node (.leaf ) (.some (.cells 49 [(.int .i64 (.ofNat 57)), (.int .i64 (.ofNat 4)), (.int
  .i64 (.ofNat 3))])) (.leaf )) (.some (.cells 104 [(.int .i64 (.ofNat 0)), (.int .i64 (.ofNat 3)), (.int .i64 (.ofNat 1)), (.int .i64 (.ofNat 3)), (.pointer (.some ⟨58, 0, .none⟩)),
  (.pointer (.some ⟨63, 0, .none⟩)), (.slice (.some ⟨78, 0, .none⟩) 3 3)])) (.node (.leaf ) (.some (.cells 22 [(.int .u64 (.ofNat 0))])) (.leaf ))) (.some .dead) (.node (.node (.leaf
  ) (.some (.cells 22 [(.int .u64 (.ofNat 0))])) (.leaf )) (.some (.cells 22 [(.int .u64 (.ofNat 0))])) (.leaf )))) (.some (.cells 33 [(.int .i64 (.ofNat 3)), (.slice (.some ⟨1, 0,
  .none⟩) 2 2), (.int .i64 (.ofNat 3)), (.int .i64 (.ofNat 24)), (.int .i64 (.ofNat 2))])) (.node (.node (.node (.node (.leaf ) (.some (.cells 22 [(.int .u64 (.ofNat 0))])) (.leaf ))
  (.some (.cells 76 [(.int .i64 (.ofNat 0)), (.int .i64 (.ofNat 3)), (.int .i64 (.ofNat 1))])) (.node (.leaf ) (.some (.cells 22 [(.int .u64 (.ofNat 0))])) (.leaf ))) (.some (.cells
  49 [(.int .i64 (.ofNat 57)), (.int .i64 (.ofNat 4)), (.int .i64 (.ofNat 3))])) (.node (.node (.leaf ) (.some (.cells 22 [(.int .u64 (.ofNat 0))])) (.leaf )) (.some (.cells 22 [(.int
  .u64 (.ofNat 0))])) (.node (.leaf ) (.some (.cells 22 [(.int .u64 (.ofNat 1))])) (.leaf )))) (.some (.cells 3 [])) (.node (.node (.node (.leaf ) (.some (.cells 22 [(.int .u64
  (.ofNat 0))])) (.leaf )) (.some (.cells 49 [(.int .i64 (.ofNat 6)), (.int .i64 (.ofNat 2)), (.int .i64 (.ofNat 3))])) (.node (.leaf ) (.some (.cells 144 [(.bool true), (.pointer
  (.some ⟨79, 0, .none⟩)), (.int .i64 (.ofNat 0)), (.int .i64 (.ofNat 8)), (.int .i64 (.ofNat 0)), (.pointer .none), (.int .i64 (.ofNat 0)), (.int .i64 (.ofNat 0))])) (.leaf )))
  (.some (.cells 33 [(.int .i64 (.ofNat 3)), (.slice (.some ⟨24, 0, .none⟩) 2 9223372036854775808), (.int .i64 (.ofNat 3)), (.int .i64 (.ofNat 24)), (.int .i64 (.ofNat 2))])) (.node
  (.node (.leaf ) (.some (.cells 22 [(.int .u64 (.ofNat 0))])) (.leaf )) (.some (.cells 22 [(.int .u64 (.ofNat 0))])) (.leaf ))))) (.some (.cells 33 [(.int .i64 (.ofNat 3)), (.slice
  (.some ⟨1, 0, .none⟩) 2 2), (.int .i64 (.ofNat 3)), (.int .i64 (.ofNat 24)), (.int .i64 (.ofNat 2))])) (.node (.node (.node (.node (.node (.leaf ) (.some (.cells 22 [(.int .u64
  (.ofNat 0))])) (.leaf )) (.some (.cells 76 [(.int .i64 (.ofNat 0)), (.int .i64 (.ofNat 3)), (.int .i64 (.ofNat 1))])) (.node (.leaf ) (.some (.cells 22 [(.int .u64 (.ofNat 0))]))
  (.leaf ))) (.some (.cells 49 [(.int .i64 (.ofNat 57)), (.int .i64 (.ofNat 4)), (.int .i64 (.ofNat 3))])) (.node (.node (.leaf ) (.some (.cells 22 [(.int .u64 (.ofNat 0))])) (.leaf
  )) (.some (.cells 22 [(.int .u64 (.ofNat 0))])) (.node (.leaf ) (.some (.cells 22 [(.int .u64 (.ofNat 0))])) (.leaf )))) (.some (.row 49 3 [(.int .i64 (.ofNat 6)), (.int .i64
  (.ofNat 2)), (.int .i64 (.ofNat 3)), (.int .i64 (.ofNat 57)), (.int .i64 (.ofNat 4)), (.int .i64 (.ofNat 3))])) (.node (.node (.node (.leaf ) (.some (.cells 22 [(.int .u64 (.ofNat
  0))])) (.leaf )) (.some (.cells 49 [(.int .i64 (.ofNat 6)), (.int .i64 (.ofNat 2)), (.int .i64 (.ofNat 3))])) (.node (.leaf ) (.some (.cells 22 [(.int .u64 (.ofNat 0))])) (.leaf )))
  (.some (.cells 49 [(.int .i64 (.ofNat 57)), (.int .i64 (.ofNat 4)), (.int .i64 (.ofNat 3))])) (.node (.node (.leaf ) (.some (.cells 22 [(.int .u64 (.ofNat 0))])) (.leaf )) (.some
  (.cells 22 [(.int .u64 (.ofNat 0))])) (.leaf )))) (.some (.cells 33 [(.int .i64 (.ofNat 3)), (.slice (.some ⟨1, 0, .none⟩) 2 2), (.int .i64 (.ofNat 3)), (.int .i64 (.ofNat 24)),
  (.int .i64 (.ofNat 2))])) (.node (.node (.node (.node (.leaf ) (.some (.cells 49 [(.int .i64 (.ofNat 57)), (.int .i64 (.ofNat 4)), (.int .i64 (.ofNat 3))])) (.leaf )) (.some (.cells
  22 [(.int .u64 (.ofNat 0))])) (.node (.leaf ) (.some (.cells 22 [(.int .u64 (.ofNat 0))])) (.leaf ))) (.some (.cells 101 [(.slice (.some ⟨41, 0, .none⟩) 222 222), (.slice (.some
  ⟨42, 0, .none⟩) 222 222), (.int .i64 (.ofNat 0)), (.int .i64 (.ofNat 126)), (.int .i64 (.ofNat 6)), (.int .i64 (.ofNat 0)), (.int .i64 (.ofNat 0)), (.int .i64 (.ofNat 0)), (.int
  .i64 (.negSucc 0)), (.bool false)])) (.node (.node (.leaf ) (.some (.cells 22 [(.int .u64 (.ofNat 0))])) (.leaf )) (.some (.cells 22 [(.int .u64 (.ofNat 0))])) (.node (.leaf )
  (.some (.cells 4 [(.bool true)])) (.leaf )))) (.some (.cells 49 [(.int .i64 (.ofNat 0)), (.int .i64 (.ofNat 2)), (.int .i64 (.ofNat 3))])) (.node (.node (.node (.leaf ) (.some
  (.cells 22 [(.int .u64 (.ofNat 0))])) (.leaf )) (.some (.cells 22 [(.int .u64 (.ofNat 0))])) (.node (.leaf ) (.some (.cells 144 [(.bool true), (.pointer (.some ⟨79, 0, .none⟩)),
  (.int .i64 (.ofNat 0)), (.int .i64 (.ofNat 8)), (.int .i64 (.ofNat 1)), (.pointer .none), (.int .i64 (.ofNat 0)), (.int .i64 (.ofNat 1))])) (.leaf ))) (.some (.cells 76 [(.int .i64
  (.ofNat 0)), (.int .i64 (.ofNat 3)), (.int .i64 (.ofNat 1))])) (.node (.node (.leaf ) (.some (.cells 22 [(.int .u64 (.ofNat 0))])) (.leaf )) (.some (.cells 22 [(.int .u64 (.ofNat
  0))])) (.leaf )))))) (.some (.cells 3 [(.int .i64 (.ofNat 2)), (.int .i64 (.ofNat 4))])) (.node (.node (.node (.node (.node (.node (.leaf ) (.some (.cells 22 [(.int .u64 (.ofNat
  0))])) (.leaf )) (.some (.cells 76 [(.int .i64 (.ofNat 0)), (.int .i64 (.ofNat 3)), (.int .i64 (.ofNat 1))])) (.node (.leaf ) (.some (.cells 22 [(.int .u64 (.ofNat 0))])) (.leaf )))
  (.some (.cells 49 [(.int .i64 (.ofNat 6)), (.int .i64 (.ofNat 2)), (.int .i64 (.ofNat 3))])) (.node (.node (.leaf ) (.some (.cells 22 [(.int .u64 (.ofNat 0))])) (.leaf )) (.some
  (.cells 22 [(.int .u64 (.ofNat 0))])) (.node (.leaf ) (.some (.cells 4 [(.bool true)])) (.leaf )))) (.some (.cells 49 [(.int .i64 (.ofNat 57)), (.int .i64 (.ofNat 4)), (.int .i64
  (.ofNat 3))])) (.node (.node (.node (.leaf ) (.some (.cells 49 [(.int .i64 (.ofNat 57)), (.int .i64 (.ofNat 4)), (.int .i64 (.ofNat 3))])) (.leaf )) (.some (.cells 49 [(.int .i64
  (.ofNat 6)), (.int .i64 (.ofNat 2)), (.int .i64 (.ofNat 3))])) (.node (.leaf ) (.some (.cells 22 [(.int .u64 (.ofNat 0))])) (.leaf ))) (.some (.cells 49 [(.int .i64 (.ofNat 6)),
  (.int .i64 (.ofNat 2)), (.int .i64 (.ofNat 3))])) (.node (.node (.leaf ) (.some (.cells 22 [(.int .u64 (.ofNat 0))])) (.leaf )) (.some (.cells 22 [(.int .u64 (.ofNat 0))])) (.leaf
  )))) (.some (.cells 49 [(.int .i64 (.ofNat 0)), (.int .i64 (.ofNat 2)), (.int .i64 (.ofNat 3))])) (.node (.node (.node (.node (.leaf ) (.some (.cells 22 [(.int .u64 (.ofNat 0))]))
  (.leaf )) (.some (.cells 22 [(.int .u64 (.ofNat 0))])) (.node (.leaf ) (.some (.cells 22 [(.int .u64 (.ofNat 0))])) (.leaf ))) (.some (.cells 22 [(.int .u64 (.ofNat 0)), (.int .u64
  (.ofNat 0)), (.int .u64 (.ofNat 0)), (.int .u64 (.ofNat 1)), (.int .u64 (.ofNat 1)), (.int .u64 (.ofNat 1)), (.int .u64 (.ofNat 0)), (.int .u64 (.ofNat 0)), (.int .u64 (.ofNat 0)),
  (.int .u64 (.ofNat 0)), (.int .u64 (.ofNat 0)), (.int .u64 (.ofNat 0)), (.int .u64 (.ofNat 0)), (.int .u64 (.ofNat 0)), (.int .u64 (.ofNat 0)), (.int .u64 (.ofNat 0)), (.int .u64
  (.ofNat 0)), (.int .u64 (.ofNat 0)), (.int .u64 (.ofNat 0)), (.int .u64 (.ofNat 0)), (.int .u64 (.ofNat 0)), (.int .u64 (.ofNat 0)), (.int .u64 (.ofNat 0)), (.int .u64 (.ofNat 0)),
  (.int .u64 (.ofNat 0)), (.int .u64 (.ofNat 0)), (.int .u64 (.ofNat 0)), (.int .u64 (.ofNat 0)), (.int .u64 (.ofNat 0)), (.int .u64 (.ofNat 0)), (.int .u64 (.ofNat 0)), (.int .u64
  (.ofNat 0)), (.int .u64 (.ofNat 0)), (.int .u64 (.ofNat 0)), (.int .u64 (.ofNat 0)), (.int .u64 (.ofNat 0)), (.int .u64 (.ofNat 0)), (.int .u64 (.ofNat 0)), (.int .u64 (.ofNat 0)),
  (.int .u64 (.ofNat 0)), (.int .u64 (.ofNat 0)), (.int .u64 (.ofNat 0)), (.int .u64 (.ofNat 0)), (.int .u64 (.ofNat 0)), (.int .u64 (.ofNat 0)), (.int .u64 (.ofNat 0)), (.int .u64
  (.ofNat 0)), (.int .u64 (.ofNat 0)), (.int .u64 (.ofNat 0)), (.int .u64 (.ofNat 0)), (.int .u64 (.ofNat 0)), (.int .u64 (.ofNat 0)), (.int .u64 (.ofNat 0)), (.int .u64 (.ofNat 0)),
  (.int .u64 (.ofNat 0)), (.int .u64 (.ofNat 0)), (.int .u64 (.ofNat 0)), (.int .u64 (.ofNat 0)), (.int .u64 (.ofNat 0)), (.int .u64 (.ofNat 0)), (.int .u64 (.ofNat 0)), (.int .u64
  (.ofNat 0)), (.int .u64 (.ofNat 0)), (.int .u64 (.ofNat 0)), (.int .u64 (.ofNat 0)), (.int .u64 (.ofNat 0)), (.int .u64 (.ofNat 0)), (.int .u64 (.ofNat 0)), (.int .u64 (.ofNat 0)),
  (.int .u64 (.ofNat 0)), (.int .u64 (.ofNat 0)), (.int .u64 (.ofNat 0)), (.int .u64 (.ofNat 0)), (.int .u64 (.ofNat 0)), (.int .u64 (.ofNat 0)), (.int .u64 (.ofNat 0)), (.int .u64
  (.ofNat 0)), (.int .u64 (.ofNat 0)), (.int .u64 (.ofNat 0)), (.int .u64 (.ofNat 0)), (.int .u64 (.ofNat 0)), (.int .u64 (.ofNat 0)), (.int .u64 (.ofNat 0)), (.int .u64 (.ofNat 0)),
  (.int .u64 (.ofNat 0)), (.int .u64 (.ofNat 0)), (.int .u64 (.ofNat 0)), (.int .u64 (.ofNat 0)), (.int .u64 (.ofNat 0)), (.int .u64 (.ofNat 0)), (.int .u64 (.ofNat 0)), (.int .u64
  (.ofNat 0)), (.int .u64 (.ofNat 0)), (.int .u64 (.ofNat 0)), (.int .u64 (.ofNat 0)), (.int .u64 (.ofNat 0)), (.int .u64 (.ofNat 0)), (.int .u64 (.ofNat 0)), (.int .u64 (.ofNat 0)),
  (.int .u64 (.ofNat 0)), (.int .u64 (.ofNat 0)), (.int .u64 (.ofNat 0)), (.int .u64 (.ofNat 0)), (.int .u64 (.ofNat 0)), (.int .u64 (.ofNat 0)), (.int .u64 (.ofNat 0)), (.int .u64
  (.ofNat 0)), (.int .u64 (.ofNat 0)), (.int .u64 (.ofNat 0)), (.int .u64 (.ofNat 0)), (.int .u64 (.ofNat 0)), (.int .u64 (.ofNat 0)), (.int .u64 (.ofNat 0)), (.int .u64 (.ofNat 0)),
  (.int .u64 (.ofNat 0)), (.int .u64 (.ofNat 0)), (.int .u64 (.ofNat 0)), (.int .u64 (.ofNat 0)), (.int .u64 (.ofNat 0)), (.int .u64 (.ofNat 0)), (.int .u64 (.ofNat 0)), (.int .u64
  (.ofNat 0)), (.int .u64 (.ofNat 0)), (.int .u64 (.ofNat 0)), (.int .u64 (.ofNat 0)), (.int .u64 (.ofNat 0)), (.int .u64 (.ofNat 0)), (.int .u64 (.ofNat 0)), (.int .u64 (.ofNat 0)),
  (.int .u64 (.ofNat 0)), (.int .u64 (.ofNat 0)), (.int .u64 (.ofNat 0)), (.int .u64 (.ofNat 0)), (.int .u64 (.ofNat 0)), (.int .u64 (.ofNat 0)), (.int .u64 (.ofNat 0)), (.int .u64
  (.ofNat 0)), (.int .u64 (.ofNat 0)), (.int .u64 (.ofNat 0)), (.int .u64 (.ofNat 0)), (.int .u64 (.ofNat 0)), (.int .u64 (.ofNat 0)), (.int .u64 (.ofNat 0)), (.int .u64 (.ofNat 0)),
  (.int .u64 (.ofNat 0)), (.int .u64 (.ofNat 0)), (.int .u64 (.ofNat 0)), (.int .u64 (.ofNat 0)), (.int .u64 (.ofNat 0)), (.int .u64 (.ofNat 0)), (.int .u64 (.ofNat 0)), (.int .u64
  (.ofNat 0)), (.int .u64 (.ofNat 0)), (.int .u64 (.ofNat 0)), (.int .u64 (.ofNat 0)), (.int .u64 (.ofNat 0)), (.int .u64 (.ofNat 0)), (.int .u64 (.ofNat 0)), (.int .u64 (.ofNat 0)),
  (.int .u64 (.ofNat 0)), (.int .u64 (.ofNat 0)), (.int .u64 (.ofNat 0)), (.int .u64 (.ofNat 0)), (.int .u64 (.ofNat 0)), (.int .u64 (.ofNat 0)), (.int .u64 (.ofNat 0)), (.int .u64
  (.ofNat 0)), (.int .u64 (.ofNat 0)), (.int .u64 (.ofNat 0)), (.int .u64 (.ofNat 0)), (.int .u64 (.ofNat 0)), (.int .u64 (.ofNat 0)), (.int .u64 (.ofNat 0)), (.int .u64 (.ofNat 0)),
  (.int .u64 (.ofNat 0)), (.int .u64 (.ofNat 0)), (.int .u64 (.ofNat 0)), (.int .u64 (.ofNat 0)), (.int .u64 (.ofNat 0)), (.int .u64 (.ofNat 0)), (.int .u64 (.ofNat 0)), (.int .u64
  (.ofNat 0)), (.int .u64 (.ofNat 0)), (.int .u64 (.ofNat 0)), (.int .u64 (.ofNat 0)), (.int .u64 (.ofNat 0)), (.int .u64 (.ofNat 0)), (.int .u64 (.ofNat 0)), (.int .u64 (.ofNat 0)),
  (.int .u64 (.ofNat 0)), (.int .u64 (.ofNat 0)), (.int .u64 (.ofNat 0)), (.int .u64 (.ofNat 0)), (.int .u64 (.ofNat 0)), (.int .u64 (.ofNat 0)), (.int .u64 (.ofNat 0)), (.int .u64
  (.ofNat 0)), (.int .u64 (.ofNat 0)), (.int .u64 (.ofNat 0)), (.int .u64 (.ofNat 0)), (.int .u64 (.ofNat 0)), (.int .u64 (.ofNat 0)), (.int .u64 (.ofNat 0)), (.int .u64 (.ofNat 0)),
  (.int .u64 (.ofNat 0)), (.int .u64 (.ofNat 0)), (.int .u64 (.ofNat 0)), (.int .u64 (.ofNat 0)), (.int .u64 (.ofNat 0)), (.int .u64 (.ofNat 0)), (.int .u64 (.ofNat 0)), (.int .u64
  (.ofNat 0)), (.int .u64 (.ofNat 0)), (.int .u64 (.ofNat 0)), (.int .u64 (.ofNat 0)), (.int .u64 (.ofNat 0)), (.int .u64 (.ofNat 0)), (.int .u64 (.ofNat 0)), (.int .u64 (.ofNat 0)),
  (.int .u64 (.ofNat 0)), (.int .u64 (.ofNat 0)), (.int .u64 (.ofNat 0))])) (.node (.node (.leaf ) (.some (.cells 22 [(.int .u64 (.ofNat 0))])) (.leaf )) (.some (.cells 22 [(.int .u64
  (.ofNat 0))])) (.node (.leaf ) (.some (.cells 22 [(.int .u64 (.ofNat 0))])) (.leaf )))) (.some (.cells 33 [(.int .i64 (.ofNat 3)), (.slice (.some ⟨24, 0, .none⟩) 2
  9223372036854775808), (.int .i64 (.ofNat 3)), (.int .i64 (.ofNat 24)), (.int .i64 (.ofNat 2))])) (.node (.node (.node (.leaf ) (.some (.cells 22 [(.int .u64 (.ofNat 0))])) (.leaf ))
  (.some (.cells 22 [(.int .u64 (.ofNat 0))])) (.node (.leaf ) (.some (.cells 22 [(.int .u64 (.ofNat 1))])) (.leaf ))) (.some (.map [] 0)) (.node (.node (.leaf ) (.some (.cells 22
  [(.int .u64 (.ofNat 0))])) (.leaf )) (.some (.cells 22 [(.int .u64 (.ofNat 0))])) (.leaf ))))) (.some (.cells 49 [(.int .i64 (.ofNat 0)), (.int .i64 (.ofNat 2)), (.int .i64 (.ofNat
  3))])) (.node (.node (.node (.node (.node (.leaf ) (.some (.cells 22 [(.int .u64 (.ofNat 0))])) (.leaf )) (.some (.cells 76 [(.int .i64 (.ofNat 0)), (.int .i64 (.ofNat 3)), (.int
  .i64 (.ofNat 1))])) (.node (.leaf ) (.some (.cells 22 [(.int .u64 (.ofNat 0))])) (.leaf ))) (.some (.row 49 3 [(.int .i64 (.ofNat 6)), (.int .i64 (.ofNat 2)), (.int .i64 (.ofNat
  3)), (.int .i64 (.ofNat 57)), (.int .i64 (.ofNat 4)), (.int .i64 (.ofNat 3))])) (.node (.node (.leaf ) (.some (.cells 22 [(.int .u64 (.ofNat 0))])) (.leaf )) (.some (.cells 22
  [(.int .u64 (.ofNat 0))])) (.node (.leaf ) (.some (.cells 4 [(.bool false)])) (.leaf )))) (.some (.cells 49 [(.int .i64 (.ofNat 57)), (.int .i64 (.ofNat 4)), (.int .i64 (.ofNat
  3))])) (.node (.node (.node (.leaf ) (.some (.cells 22 [(.int .u64 (.ofNat 0))])) (.leaf )) (.some (.cells 49 [(.int .i64 (.ofNat 6)), (.int .i64 (.ofNat 2)), (.int .i64 (.ofNat
  3))])) (.node (.leaf ) (.some (.cells 22 [(.int .u64 (.ofNat 0))])) (.leaf ))) (.some (.cells 49 [(.int .i64 (.ofNat 57)), (.int .i64 (.ofNat 4)), (.int .i64 (.ofNat 3))])) (.node
  (.node (.leaf ) (.some (.cells 22 [(.int .u64 (.ofNat 0))])) (.leaf )) (.some (.cells 22 [(.int .u64 (.ofNat 0))])) (.leaf )))) (.some (.cells 49 [(.int .i64 (.ofNat 6)), (.int .i64
  (.ofNat 2)), (.int .i64 (.ofNat 3))])) (.node (.node (.node (.node (.leaf ) (.some (.cells 49 [(.int .i64 (.ofNat 57)), (.int .i64 (.ofNat 4)), (.int .i64 (.ofNat 3))])) (.leaf ))
  (.some (.cells 22 [(.int .u64 (.ofNat 0))])) (.node (.leaf ) (.some (.cells 22 [(.int .u64 (.ofNat 0))])) (.leaf ))) (.some (.cells 49 [(.int .i64 (.ofNat 6)), (.int .i64 (.ofNat
  2)), (.int .i64 (.ofNat 3))])) (.node (.node (.leaf ) (.some (.cells 22 [(.int .u64 (.ofNat 0))])) (.leaf )) (.some (.cells 22 [(.int .u64 (.ofNat 0))])) (.leaf ))) (.some (.cells
  33 [(.int .i64 (.ofNat 3)), (.slice (.some ⟨24, 0, .none⟩) 2 9223372036854775808), (.int .i64 (.ofNat 3)), (.int .i64 (.ofNat 24)), (.int .i64 (.ofNat 2))])) (.node (.node (.node
  (.leaf ) (.some (.cells 22 [(.int .u64 (.ofNat 0))])) (.leaf )) (.some (.cells 22 [(.int .u64 (.ofNat 0))])) (.node (.leaf ) (.some (.cells 22 [(.int .u64 (.ofNat 1))])) (.leaf )))
  (.some (.cells 76 [(.int .i64 (.ofNat 0)), (.int .i64 (.ofNat 3)), (.int .i64 (.ofNat 1))])) (.node (.node (.leaf ) (.some (.cells 22 [(.int .u64 (.ofNat 0))])) (.leaf )) (.some
  (.cells 22 [(.int .u64 (.ofNat 0))])) (.leaf ))))))) (.some (.cells 33 [(.int .i64 (.ofNat 3)), (.slice (.some ⟨1, 0, .none⟩) 2 2), (.int .i64 (.ofNat 3)), (.int .i64 (.ofNat 24)),
  (.int .i64 (.ofNat 2))])) (.node (.node (.node (.node (.node (.node (.node (.leaf ) (.some (.cells 22 [(.int .u64 (.ofNat 0))])) (.leaf )) (.some (.cells 76 [(.int .i64 (.ofNat 0)),
  (.int .i64 (.ofNat 3)), (.int .i64 (.ofNat 1))])) (.node (.leaf ) (.some (.cells 22 [(.int .u64 (.ofNat 0))])) (.leaf ))) (.some .dead) (.node (.node (.leaf ) (.some (.cells 22
  [(.int .u64 (.ofNat 0))])) (.leaf )) (.some (.cells 22 [(.int .u64 (.ofNat 0))])) (.node (.leaf ) (.some (.cells 22 [(.int .u64 (.ofNat 1))])) (.leaf )))) (.some (.cells 49 [(.int
  .i64 (.ofNat 6)), (.int .i64 (.ofNat 2)), (.int .i64 (.ofNat 3))])) (.node (.node (.node (.leaf ) (.some (.cells 49 [(.int .i64 (.ofNat 57)), (.int .i64 (.ofNat 4)), (.int .i64
  (.ofNat 3))])) (.leaf )) (.some (.cells 58 [(.int .i64 (.ofNat 3)), (.slice (.some ⟨24, 0, .none⟩) 2 9223372036854775808), (.int .i64 (.ofNat 3)), (.int .i64 (.ofNat 24)), (.int
  .i64 (.ofNat 2)), (.pointer (.some ⟨43, 0, .none⟩)), (.pointer (.some ⟨79, 0, .none⟩)), (.slice (.some ⟨52, 0, .none⟩) 2 9223372036854775808)])) (.node (.leaf ) (.some (.cells 22
  [(.int .u64 (.ofNat 0))])) (.leaf ))) (.some (.cells 49 [(.int .i64 (.ofNat 6)), (.int .i64 (.ofNat 2)), (.int .i64 (.ofNat 3))])) (.node (.node (.leaf ) (.some (.cells 22 [(.int
  .u64 (.ofNat 0))])) (.leaf )) (.some (.cells 22 [(.int .u64 (.ofNat 0))])) (.leaf )))) (.some (.cells 33 [(.int .i64 (.ofNat 3)), (.slice (.some ⟨1, 0, .none⟩) 2 2), (.int .i64
  (.ofNat 3)), (.int .i64 (.ofNat 24)), (.int .i64 (.ofNat 2))])) (.node (.node (.node (.node (.leaf ) (.some (.cells 22 [(.int .u64 (.ofNat 0))])) (.leaf )) (.some (.cells 22 [(.int
  .u64 (.ofNat 0))])) (.node (.leaf ) (.some (.cells 22 [(.int .u64 (.ofNat 0))])) (.leaf ))) (.some (.cells 33 [(.int .i64 (.ofNat 3)), (.slice (.some ⟨24, 0, .none⟩) 2
  9223372036854775808), (.int .i64 (.ofNat 3)), (.int .i64 (.ofNat 24)), (.int .i64 (.ofNat 2))])) (.node (.node (.leaf ) (.some (.cells 22 [(.int .u64 (.ofNat 0))])) (.leaf )) (.some
  (.cells 22 [(.int .u64 (.ofNat 0))])) (.node (.leaf ) (.some (.cells 4 [(.bool false)])) (.leaf )))) (.some (.row 3 1 [(.int .i64 (.ofNat 2)), (.int .i64 (.ofNat 4))])) (.node
  (.node (.node (.leaf ) (.some (.cells 22 [(.int .u64 (.ofNat 0))])) (.leaf )) (.some (.cells 22 [(.int .u64 (.ofNat 0))])) (.node (.leaf ) (.some (.cells 22 [(.int .u64 (.ofNat
  0))])) (.leaf ))) (.some (.map [] 0)) (.node (.node (.leaf ) (.some (.cells 22 [(.int .u64 (.ofNat 0))])) (.leaf )) (.some (.cells 22 [(.int .u64 (.ofNat 0))])) (.leaf ))))) (.some
  (.cells 33 [(.int .i64 (.ofNat 3)), (.slice (.some ⟨1, 0, .none⟩) 2 2), (.int .i64 (.ofNat 3)), (.int .i64 (.ofNat 24)), (.int .i64 (.ofNat 2))])) (.node (.node (.node (.node (.node
  (.leaf ) (.some (.cells 22 [(.int .u64 (.ofNat 0))])) (.leaf )) (.some (.cells 76 [(.int .i64 (.ofNat 0)), (.int .i64 (.ofNat 3)), (.int .i64 (.ofNat 1))])) (.node (.leaf ) (.some
  (.cells 22 [(.int .u64 (.ofNat 0))])) (.leaf ))) (.some (.cells 49 [(.int .i64 (.ofNat 57)), (.int .i64 (.ofNat 4)), (.int .i64 (.ofNat 3))])) (.node (.node (.leaf ) (.some (.cells
  22 [(.int .u64 (.ofNat 0))])) (.leaf )) (.some (.cells 22 [(.int .u64 (.ofNat 0))])) (.node (.leaf ) (.some (.cells 22 [(.int .u64 (.ofNat 1))])) (.leaf )))) (.some (.cells 49
  [(.int .i64 (.ofNat 57)), (.int .i64 (.ofNat 4)), (.int .i64 (.ofNat 3))])) (.node (.node (.node (.leaf ) (.some (.cells 22 [(.int .u64 (.ofNat 0))])) (.leaf )) (.some (.cells 49
  [(.int .i64 (.ofNat 6)), (.int .i64 (.ofNat 2)), (.int .i64 (.ofNat 3))])) (.node (.leaf ) (.some (.cells 22 [(.int .u64 (.ofNat 0))])) (.leaf ))) (.some (.row 49 3 [(.int .i64
  (.ofNat 6)), (.int .i64 (.ofNat 2)), (.int .i64 (.ofNat 3)), (.int .i64 (.ofNat 57)), (.int .i64 (.ofNat 4)), (.int .i64 (.ofNat 3))])) (.node (.node (.leaf ) (.some (.cells 22
  [(.int .u64 (.ofNat 0))])) (.leaf )) (.some (.cells 22 [(.int .u64 (.ofNat 0))])) (.leaf )))) (.some (.cells 49 [(.int .i64 (.ofNat 6)), (.int .i64 (.ofNat 2)), (.int .i64 (.ofNat
  3))])) (.node (.node (.node (.node (.leaf ) (.some (.cells 49 [(.int .i64 (.ofNat 57)), (.int .i64 (.ofNat 4)), (.int .i64 (.ofNat 3))])) (.leaf )) (.some (.cells 22 [(.int .u64
  (.ofNat 0))])) (.node (.leaf ) (.some (.cells 22 [(.int .u64 (.ofNat 0))])) (.leaf ))) (.some (.cells 33 [(.int .i64 (.ofNat 3)), (.slice (.some ⟨24, 0, .none⟩) 2
  9223372036854775808), (.int .i64 (.ofNat 3)), (.int .i64 (.ofNat 24)), (.int .i64 (.ofNat 2))])) (.node (.node (.leaf ) (.some (.cells 22 [(.int .u64 (.ofNat 0))])) (.leaf )) (.some
  (.cells 22 [(.int .u64 (.ofNat 0))])) (.leaf ))) (.some (.cells 49 [(.int .i64 (.ofNat 0)), (.int .i64 (.ofNat 4)), (.int .i64 (.ofNat 3))])) (.node (.node (.node (.leaf ) (.some
  (.cells 22 [(.int .u64 (.ofNat 0))])) (.leaf )) (.some (.cells 22 [(.int .u64 (.ofNat 0))])) (.node (.leaf ) (.some (.cells 22 [(.int .u64 (.ofNat 0))])) (.leaf ))) (.some (.cells
  76 [(.int .i64 (.ofNat 0)), (.int .i64 (.ofNat 3)), (.int .i64 (.ofNat 1))])) (.node (.node (.leaf ) (.some (.cells 22 [(.int .u64 (.ofNat 0))])) (.leaf )) (.some (.cells 22 [(.int
  .u64 (.ofNat 0))])) (.leaf )))))) (.some (.cells 33 [(.int .i64 (.ofNat 3)), (.slice (.some ⟨24, 0, .none⟩) 2 9223372036854775808), (.int .i64 (.ofNat 3)), (.int .i64 (.ofNat 24)),
  (.int .i64 (.ofNat 2))])) (.node (.node (.node (.node (.node (.node (.leaf ) (.some (.cells 22 [(.int .u64 (.ofNat 0))])) (.leaf )) (.some (.cells 76 [(.int .i64 (.ofNat 0)), (.int
  .i64 (.ofNat 3)), (.int .i64 (.ofNat 1))])) (.node (.leaf ) (.some (.cells 22 [(.int .u64 (.ofNat 0))])) (.leaf ))) (.some (.cells 49 [(.int .i64 (.ofNat 6)), (.int .i64 (.ofNat
  2)), (.int .i64 (.ofNat 3))])) (.node (.node (.leaf ) (.some (.cells 22 [(.int .u64 (.ofNat 0))])) (.leaf )) (.some (.cells 22 [(.int .u64 (.ofNat 0))])) (.node (.leaf ) (.some
  (.cells 144 [(.bool true), (.pointer (.some ⟨79, 0, .none⟩)), (.int .i64 (.ofNat 0)), (.int .i64 (.ofNat 8)), (.int .i64 (.ofNat 2)), (.pointer .none), (.int .i64 (.ofNat 0)), (.int
  .i64 (.ofNat 2))])) (.leaf )))) (.some (.cells 49 [(.int .i64 (.ofNat 57)), (.int .i64 (.ofNat 4)), (.int .i64 (.ofNat 3))])) (.node (.node (.node (.leaf ) (.some (.cells 22 [(.int
  .u64 (.ofNat 0))])) (.leaf )) (.some (.cells 49 [(.int .i64 (.ofNat 6)), (.int .i64 (.ofNat 2)), (.int .i64 (.ofNat 3))])) (.node (.leaf ) (.some (.cells 22 [(.int .u64 (.ofNat
  0))])) (.leaf ))) (.some (.cells 49 [(.int .i64 (.ofNat 57)), (.int .i64 (.ofNat 4)), (.int .i64 (.ofNat 3))])) (.node (.node (.leaf ) (.some (.cells 22 [(.int .u64 (.ofNat 0))]))
  (.leaf )) (.some (.cells 22 [(.int .u64 (.ofNat 0))])) (.leaf )))) (.some (.cells 49 [(.int .i64 (.ofNat 0)), (.int .i64 (.ofNat 4)), (.int .i64 (.ofNat 3))])) (.node (.node (.node
  (.node (.leaf ) (.some (.cells 22 [(.int .u64 (.ofNat 0))])) (.leaf )) (.some (.cells 22 [(.int .u64 (.ofNat 0))])) (.node (.leaf ) (.some (.cells 22 [(.int .u64 (.ofNat 0))]))
  (.leaf ))) (.some (.cells 4 [(.bool false), (.bool false), (.bool false), (.bool false), (.bool false), (.bool false), (.bool false), (.bool false), (.bool false), (.bool false),
  (.bool false), (.bool false), (.bool false), (.bool false), (.bool false), (.bool false), (.bool false), (.bool false), (.bool false), (.bool false), (.bool false), (.bool false),
  (.bool false), (.bool false), (.bool false), (.bool false), (.bool false), (.bool false), (.bool false), (.bool false), (.bool false), (.bool false), (.bool false), (.bool false),
  (.bool false), (.bool false), (.bool false), (.bool false), (.bool false), (.bool false), (.bool false), (.bool false), (.bool false), (.bool false), (.bool false), (.bool false),
  (.bool false), (.bool false), (.bool false), (.bool false), (.bool false), (.bool false), (.bool false), (.bool false), (.bool false), (.bool false), (.bool false), (.bool false),
  (.bool false), (.bool false), (.bool false), (.bool false), (.bool false), (.bool false), (.bool false), (.bool false), (.bool false), (.bool false), (.bool false), (.bool false),
  (.bool false), (.bool false), (.bool false), (.bool false), (.bool false), (.bool false), (.bool false), (.bool false), (.bool false), (.bool false), (.bool false), (.bool false),
  (.bool false), (.bool false), (.bool false), (.bool false), (.bool false), (.bool false), (.bool false), (.bool false), (.bool false), (.bool false), (.bool false), (.bool false),
  (.bool false), (.bool false), (.bool false), (.bool false), (.bool false), (.bool false), (.bool false), (.bool false), (.bool false), (.bool false), (.bool false), (.bool false),
  (.bool false), (.bool false), (.bool false), (.bool false), (.bool false), (.bool false), (.bool false), (.bool false), (.bool false), (.bool false), (.bool false), (.bool false),
  (.bool false), (.bool false), (.bool false), (.bool false), (.bool false), (.bool false), (.bool false), (.bool false), (.bool true), (.bool true), (.bool true), (.bool true),
  (.bool true), (.bool true), (.bool true), (.bool true), (.bool true), (.bool true), (.bool true), (.bool true), (.bool true), (.bool true), (.bool true), (.bool true), (.bool true),
  (.bool true), (.bool true), (.bool true), (.bool true), (.bool true), (.bool true), (.bool true), (.bool true), (.bool true), (.bool true), (.bool true), (.bool true), (.bool true),
  (.bool true), (.bool true), (.bool true), (.bool true), (.bool true), (.bool true), (.bool true), (.bool true), (.bool true), (.bool true), (.bool true), (.bool true), (.bool true),
  (.bool true), (.bool true), (.bool true), (.bool true), (.bool true), (.bool true), (.bool true), (.bool true), (.bool true), (.bool true), (.bool true), (.bool true), (.bool true),
  (.bool true), (.bool true), (.bool true), (.bool true), (.bool true), (.bool true), (.bool true), (.bool true), (.bool true), (.bool true), (.bool true), (.bool true), (.bool true),
  (.bool true), (.bool true), (.bool true), (.bool true), (.bool true), (.bool true), (.bool true), (.bool true), (.bool true), (.bool true), (.bool true), (.bool true), (.bool true),
  (.bool true), (.bool true), (.bool true), (.bool true), (.bool true), (.bool true), (.bool true), (.bool true), (.bool true), (.bool true), (.bool true), (.bool true), (.bool true),
  (.bool true)])) (.node (.node (.leaf ) (.some (.cells 22 [(.int .u64 (.ofNat 0))])) (.leaf )) (.some (.cells 22 [(.int .u64 (.ofNat 0))])) (.node (.leaf ) (.some (.cells 22 [(.int
  .u64 (.ofNat 1))])) (.leaf )))) (.some (.cells 33 [(.int .i64 (.ofNat 3)), (.slice (.some ⟨24, 0, .none⟩) 2 9223372036854775808), (.int .i64 (.ofNat 3)), (.int .i64 (.ofNat 24)),
  (.int .i64 (.ofNat 2))])) (.node (.node (.node (.leaf ) (.some (.cells 22 [(.int .u64 (.ofNat 0))])) (.leaf )) (.some (.cells 22 [(.int .u64 (.ofNat 0))])) (.node (.leaf ) (.some
  (.cells 4 [(.bool true)])) (.leaf ))) (.some (.cells 111 [(.pointer (.some ⟨43, 0, .none⟩)), (.int .i64 (.ofNat 126)), (.int .i64 (.ofNat 96)), (.map (.some 56)), (.map (.some 57)),
  (.slice .none 0 0), (.int .i64 (.ofNat 0))])) (.node (.node (.leaf ) (.some (.cells 22 [(.int .u64 (.ofNat 0))])) (.leaf )) (.some (.cells 22 [(.int .u64 (.ofNat 0))])) (.leaf )))))
  (.some (.cells 49 [(.int .i64 (.ofNat 0)), (.int .i64 (.ofNat 4)), (.int .i64 (.ofNat 3))])) (.node (.node (.node (.node (.node (.leaf ) (.some (.cells 22 [(.int .u64 (.ofNat 0))]))
  (.leaf )) (.some (.cells 76 [(.int .i64 (.ofNat 0)), (.int .i64 (.ofNat 3)), (.int .i64 (.ofNat 1))])) (.node (.leaf ) (.some (.cells 22 [(.int .u64 (.ofNat 0))])) (.leaf ))) (.some
  (.cells 49 [(.int .i64 (.ofNat 57)), (.int .i64 (.ofNat 4)), (.int .i64 (.ofNat 3))])) (.node (.node (.leaf ) (.some (.cells 22 [(.int .u64 (.ofNat 0))])) (.leaf )) (.some (.cells
  22 [(.int .u64 (.ofNat 0))])) (.node (.leaf ) (.some (.cells 22 [(.int .u64 (.ofNat 0))])) (.leaf )))) (.some (.cells 33 [(.int .i64 (.ofNat 3)), (.slice (.some ⟨1, 0, .none⟩) 2 2),
  (.int .i64 (.ofNat 3)), (.int .i64 (.ofNat 24)), (.int .i64 (.ofNat 2))])) (.node (.node (.node (.leaf ) (.some (.cells 22 [(.int .u64 (.ofNat 0))])) (.leaf )) (.some (.cells 49
  [(.int .i64 (.ofNat 6)), (.int .i64 (.ofNat 2)), (.int .i64 (.ofNat 3))])) (.node (.leaf ) (.some (.cells 22 [(.int .u64 (.ofNat 0))])) (.leaf ))) (.some (.cells 49 [(.int .i64
  (.ofNat 57)), (.int .i64 (.ofNat 4)), (.int .i64 (.ofNat 3))])) (.node (.node (.leaf ) (.some (.cells 22 [(.int .u64 (.ofNat 0))])) (.leaf )) (.some (.cells 22 [(.int .u64 (.ofNat
  0))])) (.leaf )))) (.some .dead) (.node (.node (.node (.node (.leaf ) (.some (.cells 49 [(.int .i64 (.ofNat 57)), (.int .i64 (.ofNat 4)), (.int .i64 (.ofNat 3))])) (.leaf )) (.some
  (.cells 4 [(.bool true), (.bool true), (.bool true)])) (.node (.leaf ) (.some (.cells 22 [(.int .u64 (.ofNat 0))])) (.leaf ))) (.some (.cells 49 [(.int .i64 (.ofNat 6)), (.int .i64
  (.ofNat 2)), (.int .i64 (.ofNat 3))])) (.node (.node (.leaf ) (.some (.cells 22 [(.int .u64 (.ofNat 0))])) (.leaf )) (.some (.cells 22 [(.int .u64 (.ofNat 0))])) (.leaf ))) (.some
  (.cells 49 [(.int .i64 (.ofNat 6)), (.int .i64 (.ofNat 2)), (.int .i64 (.ofNat 3))])) (.node (.node (.node (.leaf ) (.some (.cells 22 [(.int .u64 (.ofNat 0))])) (.leaf )) (.some
  (.cells 22 [(.int .u64 (.ofNat 0))])) (.node (.leaf ) (.some (.cells 4 [(.bool false)])) (.leaf ))) (.some (.cells 31 [(.slice .none 0 0), (.slice .none 0 0), (.slice .none 0 0)]))
  (.node (.node (.leaf ) (.some (.cells 22 [(.int .u64 (.ofNat 0))])) (.leaf )) (.some (.cells 22 [(.int .u64 (.ofNat 0))])) (.leaf ))))))))⟩
def ev1 : CallF := ev3 M orc 100000 60
theorem ev1_ok : CallOk M ev1 := ev3_sound orc_ok 100000 60
theorem plain7 : ev1 7 [] St.empty = some (v7, σ7) := by kernel_rfl
theorem new6 : ev1 6 [v7] σ7 = some (r6, σ6) := by kernel_rfl
end
end Go.Proofs.YtognbiffhgpoaaaGreat.Hx
