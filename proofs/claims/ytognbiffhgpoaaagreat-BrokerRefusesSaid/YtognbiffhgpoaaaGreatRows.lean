/-
  No cell of these rows narrows 'for every input' (looked for: loops, veiled, ifaces, maps, wideKeys, modest, calm, conditions, laid).
  DERIVED. THE GIVEN ROWS OF THIS SEAT. 3 by the template 'for every input the law returns true; each argument reads behind the call as it read before'; 0 by the template 'total and deterministic' (their statements: YtognbiffhgpoaaaGreatTotals.lean).
  GIVEN WITH THE SEED: the statements are not yours to turn. If you find one false, say at which input.
  Laid BY PROGRAM, IN A SANDBOX (cutbox-rows.mjs): the forced cells as the released guide's own fill.sh prints them over the translation f7d4bba2937e1821… (all of the seat's roots in one cut). By AI agents, Wed Nov 11 2026. No macro, syntax, notation, axiom, sorry.
-/
import Derived.Test.YtognbiffhgpoaaaGreatChecked
import GoSem.Claim
import GoSem.ClaimJoined
import GoSem.ClaimMapViews
import Derived.JoinedTies
import Derived.KernelRfl
namespace Go.Proofs.YtognbiffhgpoaaaGreat
/- THE CELL 'sum', in the pinned program and in every row, IS THE sha256 OF THE DUMP (.gsa) THAT YtognbiffhgpoaaaGreatProg.lean LOADS. Nothing in Lean hashes anything: it is a label: what it is worth is what the hold of that sum in a sandbox is worth. -/
noncomputable def Tryz.pinned : Pinned := { name := "ytognbiffhgpoaaagreat", sum := "f7d4bba2937e1821ee226e0c947151c944e98f8fc160af73bab2baa05300df5d", checked := Tryz.checked }
namespace Rows
def none {H : Type} : Left H := { results := [], args := [] }

/-- 'sluicewaylaw25.BrokerRefuses': WHATEVER THE INPUT: true; the input reads as it did. -/
def brokerRefusesSpec : ChangeSpec := { name := "brokerRefuses", fn := fun _ => fun
  | [d1, d2] => { results := [.lit (.bool true)], args := [d1, d2] }
  | _ => none }
def brokerRefusesRow : OpenClaim := { program := "ytognbiffhgpoaaagreat", sum := "f7d4bba2937e1821ee226e0c947151c944e98f8fc160af73bab2baa05300df5d", func := "sluiceway/sluicewaylaw25.BrokerRefuses", spec := "brokerRefuses", unfollowed := true, recurses := true, apart := false }
def BrokerRefusesSaid : Prop := brokerRefusesRow.holds Tryz.pinned (OpenSpec.ofChange brokerRefusesSpec)

/-- ITS FALSE NEIGHBOUR: 'it returns false'. Refute it at one input. -/
def brokerRefusesWrong : ChangeSpec := { name := "brokerRefuses", fn := fun _ => fun
  | [d1, d2] => { results := [.lit (.bool false)], args := [d1, d2] }
  | _ => none }
def BrokerRefusesWrongFalsely : Prop := brokerRefusesRow.holds Tryz.pinned (OpenSpec.ofChange brokerRefusesWrong)

/-- 'sluicewaylaw25.BrokerConfs': WHATEVER THE INPUT: true; the input reads as it did. -/
def brokerConfsSpec : ChangeSpec := { name := "brokerConfs", fn := fun _ => fun
  | [d] => { results := [.lit (.bool true)], args := [d] }
  | _ => none }
def brokerConfsRow : OpenClaim := { program := "ytognbiffhgpoaaagreat", sum := "f7d4bba2937e1821ee226e0c947151c944e98f8fc160af73bab2baa05300df5d", func := "sluiceway/sluicewaylaw25.BrokerConfs", spec := "brokerConfs", unfollowed := true, recurses := true, apart := false }
def BrokerConfsSaid : Prop := brokerConfsRow.holds Tryz.pinned (OpenSpec.ofChange brokerConfsSpec)

/-- ITS FALSE NEIGHBOUR: 'it returns false'. Refute it at one input. -/
def brokerConfsWrong : ChangeSpec := { name := "brokerConfs", fn := fun _ => fun
  | [d] => { results := [.lit (.bool false)], args := [d] }
  | _ => none }
def BrokerConfsWrongFalsely : Prop := brokerConfsRow.holds Tryz.pinned (OpenSpec.ofChange brokerConfsWrong)

/-- 'sluicewaylaw25.BrokerNobody': WHATEVER THE INPUT: true; the input reads as it did. -/
def brokerNobodySpec : ChangeSpec := { name := "brokerNobody", fn := fun _ => fun
  | [d1, d2] => { results := [.lit (.bool true)], args := [d1, d2] }
  | _ => none }
def brokerNobodyRow : OpenClaim := { program := "ytognbiffhgpoaaagreat", sum := "f7d4bba2937e1821ee226e0c947151c944e98f8fc160af73bab2baa05300df5d", func := "sluiceway/sluicewaylaw25.BrokerNobody", spec := "brokerNobody", unfollowed := true, recurses := true, apart := false }
def BrokerNobodySaid : Prop := brokerNobodyRow.holds Tryz.pinned (OpenSpec.ofChange brokerNobodySpec)

/-- ITS FALSE NEIGHBOUR: 'it returns false'. Refute it at one input. -/
def brokerNobodyWrong : ChangeSpec := { name := "brokerNobody", fn := fun _ => fun
  | [d1, d2] => { results := [.lit (.bool false)], args := [d1, d2] }
  | _ => none }
def BrokerNobodyWrongFalsely : Prop := brokerNobodyRow.holds Tryz.pinned (OpenSpec.ofChange brokerNobodyWrong)

/- THE SECOND FORM. 'bulk': how many values and letters a reading holds, each counted each time it is reached (what is shared counts as often as it is met; a slice's spare places count too). A statement '..UptoSaid' is the law's where the arguments, and the package variables that the reading takes, are together of bulk at most 1048576: NARROWER than '..Said'. Prove '..Said' where nothing that the law and all that it calls make is longer than what came in: it says more and counts as full. Else prove '..UptoSaid'. A law counts once. -/
mutual
def uptoBulk {H : Type} : DataW H → Nat
  | .lit (.string bytes) => bytes.length + 1
  | .lit _ => 1
  | .nil => 1
  | .ptr d => uptoBulk d + 1
  | .slice elems spare => uptoBulkAll elems + uptoBulkAll spare + 1
  | .agg parts => uptoBulkAll parts + 1
  | .iface _ d => uptoBulk d + 1
  | .map entries => uptoBulkEntries entries + 1
  | .held _ => 1
def uptoBulkAll {H : Type} : List (DataW H) → Nat
  | [] => 0
  | d :: r => uptoBulk d + uptoBulkAll r
def uptoBulkEntries {H : Type} : List (Lit × DataW H) → Nat
  | [] => 0
  | x :: r => uptoBulkEntry x + uptoBulkEntries r
def uptoBulkEntry {H : Type} : Lit × DataW H → Nat
  | (.string bytes, d) => bytes.length + uptoBulk d + 1
  | (_, d) => uptoBulk d + 1
 end
def uptoSmall : (H : Type) → List (DataW H) → Bool := fun _ ds => decide (uptoBulkAll ds ≤ 1048576)
def OpenSpec.upto (s : _root_.Go.ChangeSpec) : _root_.Go.OpenSpec := { _root_.Go.OpenSpec.ofChange s with cond := some uptoSmall }

/-- 'sluicewaylaw25.BrokerRefuses', WHERE WHAT IT READS IS OF BULK AT MOST 1048576: true; the input reads as it did. -/
def brokerRefusesUptoRow : OpenClaim := { program := "ytognbiffhgpoaaagreat", sum := "f7d4bba2937e1821ee226e0c947151c944e98f8fc160af73bab2baa05300df5d", func := "sluiceway/sluicewaylaw25.BrokerRefuses", spec := "brokerRefuses", unfollowed := true, recurses := true, apart := false, narrowed := true }
def BrokerRefusesUptoSaid : Prop := brokerRefusesUptoRow.holds Tryz.pinned (OpenSpec.upto brokerRefusesSpec)

/-- 'sluicewaylaw25.BrokerConfs', WHERE WHAT IT READS IS OF BULK AT MOST 1048576: true; the input reads as it did. -/
def brokerConfsUptoRow : OpenClaim := { program := "ytognbiffhgpoaaagreat", sum := "f7d4bba2937e1821ee226e0c947151c944e98f8fc160af73bab2baa05300df5d", func := "sluiceway/sluicewaylaw25.BrokerConfs", spec := "brokerConfs", unfollowed := true, recurses := true, apart := false, narrowed := true }
def BrokerConfsUptoSaid : Prop := brokerConfsUptoRow.holds Tryz.pinned (OpenSpec.upto brokerConfsSpec)

/-- 'sluicewaylaw25.BrokerNobody', WHERE WHAT IT READS IS OF BULK AT MOST 1048576: true; the input reads as it did. -/
def brokerNobodyUptoRow : OpenClaim := { program := "ytognbiffhgpoaaagreat", sum := "f7d4bba2937e1821ee226e0c947151c944e98f8fc160af73bab2baa05300df5d", func := "sluiceway/sluicewaylaw25.BrokerNobody", spec := "brokerNobody", unfollowed := true, recurses := true, apart := false, narrowed := true }
def BrokerNobodyUptoSaid : Prop := brokerNobodyUptoRow.holds Tryz.pinned (OpenSpec.upto brokerNobodySpec)

end Rows
end Go.Proofs.YtognbiffhgpoaaaGreat
