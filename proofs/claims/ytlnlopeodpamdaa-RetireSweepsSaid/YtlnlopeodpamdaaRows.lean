/-
  No cell of these rows narrows 'for every input' (looked for: loops, veiled, ifaces, maps, wideKeys, modest, calm, conditions, laid).
  DERIVED. THE GIVEN ROWS OF THIS SEAT. 9 by the template 'for every input the law returns true; each argument reads behind the call as it read before'; 0 by the template 'total and deterministic' (their statements: YtlnlopeodpamdaaTotals.lean).
  GIVEN WITH THE SEED: the statements are not yours to turn. If you find one false, say at which input.
  Laid BY PROGRAM, IN A SANDBOX (cutbox-rows.mjs): the forced cells as the released guide's own fill.sh prints them over the translation 03635195e84f0235… (all of the seat's roots in one cut). By AI agents, Wed Nov 11 2026. No macro, syntax, notation, axiom, sorry.
-/
import Derived.Test.YtlnlopeodpamdaaChecked
import GoSem.Claim
import GoSem.ClaimJoined
import GoSem.ClaimMapViews
import Derived.JoinedTies
import Derived.KernelRfl
namespace Go.Proofs.Ytlnlopeodpamdaa
/- THE CELL 'sum', in the pinned program and in every row, IS THE sha256 OF THE DUMP (.gsa) THAT YtlnlopeodpamdaaProg.lean LOADS. Nothing in Lean hashes anything: it is a label: what it is worth is what the hold of that sum in a sandbox is worth. -/
noncomputable def Try.pinned : Pinned := { name := "ytlnlopeodpamdaa", sum := "03635195e84f0235cffaef0d5f9176f7a9eac8908e20636c1f1435c22c8cdcc7", checked := Try.checked }
namespace Rows
def none {H : Type} : Left H := { results := [], args := [] }

/-- 'sluicewaylaw12.DomainNobody': WHATEVER THE INPUT: true; the input reads as it did. -/
def domainNobodySpec : ChangeSpec := { name := "domainNobody", fn := fun _ => fun
  | [d1, d2] => { results := [.lit (.bool true)], args := [d1, d2] }
  | _ => none }
def domainNobodyRow : OpenClaim := { program := "ytlnlopeodpamdaa", sum := "03635195e84f0235cffaef0d5f9176f7a9eac8908e20636c1f1435c22c8cdcc7", func := "sluiceway/sluicewaylaw12.DomainNobody", spec := "domainNobody", unfollowed := true, recurses := true, apart := false }
def DomainNobodySaid : Prop := domainNobodyRow.holds Try.pinned (OpenSpec.ofChange domainNobodySpec)

/-- ITS FALSE NEIGHBOUR: 'it returns false'. Refute it at one input. -/
def domainNobodyWrong : ChangeSpec := { name := "domainNobody", fn := fun _ => fun
  | [d1, d2] => { results := [.lit (.bool false)], args := [d1, d2] }
  | _ => none }
def DomainNobodyWrongFalsely : Prop := domainNobodyRow.holds Try.pinned (OpenSpec.ofChange domainNobodyWrong)

/-- 'sluicewaylaw03.HeapFills': WHATEVER THE INPUT: true; the input reads as it did. -/
def heapFillsSpec : ChangeSpec := { name := "heapFills", fn := fun _ => fun
  | [d1, d2] => { results := [.lit (.bool true)], args := [d1, d2] }
  | _ => none }
def heapFillsRow : OpenClaim := { program := "ytlnlopeodpamdaa", sum := "03635195e84f0235cffaef0d5f9176f7a9eac8908e20636c1f1435c22c8cdcc7", func := "sluiceway/sluicewaylaw03.HeapFills", spec := "heapFills", unfollowed := true, recurses := true, apart := false }
def HeapFillsSaid : Prop := heapFillsRow.holds Try.pinned (OpenSpec.ofChange heapFillsSpec)

/-- ITS FALSE NEIGHBOUR: 'it returns false'. Refute it at one input. -/
def heapFillsWrong : ChangeSpec := { name := "heapFills", fn := fun _ => fun
  | [d1, d2] => { results := [.lit (.bool false)], args := [d1, d2] }
  | _ => none }
def HeapFillsWrongFalsely : Prop := heapFillsRow.holds Try.pinned (OpenSpec.ofChange heapFillsWrong)

/-- 'sluicewaylaw03.HeapPlays': WHATEVER THE INPUT: true; the input reads as it did. -/
def heapPlaysSpec : ChangeSpec := { name := "heapPlays", fn := fun _ => fun
  | [d1, d2, d3] => { results := [.lit (.bool true)], args := [d1, d2, d3] }
  | _ => none }
def heapPlaysRow : OpenClaim := { program := "ytlnlopeodpamdaa", sum := "03635195e84f0235cffaef0d5f9176f7a9eac8908e20636c1f1435c22c8cdcc7", func := "sluiceway/sluicewaylaw03.HeapPlays", spec := "heapPlays", unfollowed := true, recurses := true, apart := false }
def HeapPlaysSaid : Prop := heapPlaysRow.holds Try.pinned (OpenSpec.ofChange heapPlaysSpec)

/-- ITS FALSE NEIGHBOUR: 'it returns false'. Refute it at one input. -/
def heapPlaysWrong : ChangeSpec := { name := "heapPlays", fn := fun _ => fun
  | [d1, d2, d3] => { results := [.lit (.bool false)], args := [d1, d2, d3] }
  | _ => none }
def HeapPlaysWrongFalsely : Prop := heapPlaysRow.holds Try.pinned (OpenSpec.ofChange heapPlaysWrong)

/-- 'sluicewaylaw03.HeapNobody': WHATEVER THE INPUT: true; the input reads as it did. -/
def heapNobodySpec : ChangeSpec := { name := "heapNobody", fn := fun _ => fun
  | [d] => { results := [.lit (.bool true)], args := [d] }
  | _ => none }
def heapNobodyRow : OpenClaim := { program := "ytlnlopeodpamdaa", sum := "03635195e84f0235cffaef0d5f9176f7a9eac8908e20636c1f1435c22c8cdcc7", func := "sluiceway/sluicewaylaw03.HeapNobody", spec := "heapNobody", inPlace := ["maps.clone"], unfollowed := true, recurses := true, apart := false }
def HeapNobodySaid : Prop := heapNobodyRow.holds Try.pinned (OpenSpec.ofChange heapNobodySpec)

/-- ITS FALSE NEIGHBOUR: 'it returns false'. Refute it at one input. -/
def heapNobodyWrong : ChangeSpec := { name := "heapNobody", fn := fun _ => fun
  | [d] => { results := [.lit (.bool false)], args := [d] }
  | _ => none }
def HeapNobodyWrongFalsely : Prop := heapNobodyRow.holds Try.pinned (OpenSpec.ofChange heapNobodyWrong)

/-- 'sluicewaylaw03.HeapApart': WHATEVER THE INPUT: true; the input reads as it did. -/
def heapApartSpec : ChangeSpec := { name := "heapApart", fn := fun _ => fun
  | [d] => { results := [.lit (.bool true)], args := [d] }
  | _ => none }
def heapApartRow : OpenClaim := { program := "ytlnlopeodpamdaa", sum := "03635195e84f0235cffaef0d5f9176f7a9eac8908e20636c1f1435c22c8cdcc7", func := "sluiceway/sluicewaylaw03.HeapApart", spec := "heapApart", inPlace := ["maps.clone"], unfollowed := true, recurses := true, apart := false }
def HeapApartSaid : Prop := heapApartRow.holds Try.pinned (OpenSpec.ofChange heapApartSpec)

/-- ITS FALSE NEIGHBOUR: 'it returns false'. Refute it at one input. -/
def heapApartWrong : ChangeSpec := { name := "heapApart", fn := fun _ => fun
  | [d] => { results := [.lit (.bool false)], args := [d] }
  | _ => none }
def HeapApartWrongFalsely : Prop := heapApartRow.holds Try.pinned (OpenSpec.ofChange heapApartWrong)

/-- 'sluicewaylaw11.RetireNobody': WHATEVER THE INPUT: true; the input reads as it did. -/
def retireNobodySpec : ChangeSpec := { name := "retireNobody", fn := fun _ => fun
  | [d1, d2] => { results := [.lit (.bool true)], args := [d1, d2] }
  | _ => none }
def retireNobodyRow : OpenClaim := { program := "ytlnlopeodpamdaa", sum := "03635195e84f0235cffaef0d5f9176f7a9eac8908e20636c1f1435c22c8cdcc7", func := "sluiceway/sluicewaylaw11.RetireNobody", spec := "retireNobody", unfollowed := true, recurses := true, apart := false }
def RetireNobodySaid : Prop := retireNobodyRow.holds Try.pinned (OpenSpec.ofChange retireNobodySpec)

/-- ITS FALSE NEIGHBOUR: 'it returns false'. Refute it at one input. -/
def retireNobodyWrong : ChangeSpec := { name := "retireNobody", fn := fun _ => fun
  | [d1, d2] => { results := [.lit (.bool false)], args := [d1, d2] }
  | _ => none }
def RetireNobodyWrongFalsely : Prop := retireNobodyRow.holds Try.pinned (OpenSpec.ofChange retireNobodyWrong)

/-- 'sluicewaylaw11.RetireLeft': WHATEVER THE INPUT: true; the input reads as it did. -/
def retireLeftSpec : ChangeSpec := { name := "retireLeft", fn := fun _ => fun
  | [d1, d2] => { results := [.lit (.bool true)], args := [d1, d2] }
  | _ => none }
def retireLeftRow : OpenClaim := { program := "ytlnlopeodpamdaa", sum := "03635195e84f0235cffaef0d5f9176f7a9eac8908e20636c1f1435c22c8cdcc7", func := "sluiceway/sluicewaylaw11.RetireLeft", spec := "retireLeft", unfollowed := true, recurses := true, apart := false }
def RetireLeftSaid : Prop := retireLeftRow.holds Try.pinned (OpenSpec.ofChange retireLeftSpec)

/-- ITS FALSE NEIGHBOUR: 'it returns false'. Refute it at one input. -/
def retireLeftWrong : ChangeSpec := { name := "retireLeft", fn := fun _ => fun
  | [d1, d2] => { results := [.lit (.bool false)], args := [d1, d2] }
  | _ => none }
def RetireLeftWrongFalsely : Prop := retireLeftRow.holds Try.pinned (OpenSpec.ofChange retireLeftWrong)

/-- 'sluicewaylaw11.RetireBound': WHATEVER THE INPUT: true; the input reads as it did. -/
def retireBoundSpec : ChangeSpec := { name := "retireBound", fn := fun _ => fun
  | [d1, d2] => { results := [.lit (.bool true)], args := [d1, d2] }
  | _ => none }
def retireBoundRow : OpenClaim := { program := "ytlnlopeodpamdaa", sum := "03635195e84f0235cffaef0d5f9176f7a9eac8908e20636c1f1435c22c8cdcc7", func := "sluiceway/sluicewaylaw11.RetireBound", spec := "retireBound", unfollowed := true, recurses := true, apart := false }
def RetireBoundSaid : Prop := retireBoundRow.holds Try.pinned (OpenSpec.ofChange retireBoundSpec)

/-- ITS FALSE NEIGHBOUR: 'it returns false'. Refute it at one input. -/
def retireBoundWrong : ChangeSpec := { name := "retireBound", fn := fun _ => fun
  | [d1, d2] => { results := [.lit (.bool false)], args := [d1, d2] }
  | _ => none }
def RetireBoundWrongFalsely : Prop := retireBoundRow.holds Try.pinned (OpenSpec.ofChange retireBoundWrong)

/-- 'sluicewaylaw11.RetireSweeps': WHATEVER THE INPUT: true; the input reads as it did. -/
def retireSweepsSpec : ChangeSpec := { name := "retireSweeps", fn := fun _ => fun
  | [d1, d2] => { results := [.lit (.bool true)], args := [d1, d2] }
  | _ => none }
def retireSweepsRow : OpenClaim := { program := "ytlnlopeodpamdaa", sum := "03635195e84f0235cffaef0d5f9176f7a9eac8908e20636c1f1435c22c8cdcc7", func := "sluiceway/sluicewaylaw11.RetireSweeps", spec := "retireSweeps", unfollowed := true, recurses := true, apart := false }
def RetireSweepsSaid : Prop := retireSweepsRow.holds Try.pinned (OpenSpec.ofChange retireSweepsSpec)

/-- ITS FALSE NEIGHBOUR: 'it returns false'. Refute it at one input. -/
def retireSweepsWrong : ChangeSpec := { name := "retireSweeps", fn := fun _ => fun
  | [d1, d2] => { results := [.lit (.bool false)], args := [d1, d2] }
  | _ => none }
def RetireSweepsWrongFalsely : Prop := retireSweepsRow.holds Try.pinned (OpenSpec.ofChange retireSweepsWrong)

/- THE SECOND FORM. 'bulk': how many values and letters a reading holds, each counted each time it is reached (what is shared counts as often as it is met; a slice's spare places count too). A statement '..UptoSaid' is the law's where the arguments, and the package variables that the reading takes, are together of bulk at most 1048576: NARROWER than '..Said'. Prove '..Said' where nothing that the law and all that it calls make is longer than what came in: it says more and counts as full. Else prove '..UptoSaid'. A law counts once. -/
mutual
def uptoBulk {H : Type} : DataW H → Nat
  | .lit (.string bytes) => bytes.length + 1
  | .lit _ => 1
  | .nil => 1
  | .ptr d => uptoBulk d + 1
  | .slice elems spare => uptoBulkAll elems + uptoBulkAll spare + 1
  | .agg parts => uptoBulkAll parts + 1
  | .iface _ d => uptoBulk d + 1
  | .map entries => uptoBulkEntries entries + 1
  | .held _ => 1
def uptoBulkAll {H : Type} : List (DataW H) → Nat
  | [] => 0
  | d :: r => uptoBulk d + uptoBulkAll r
def uptoBulkEntries {H : Type} : List (Lit × DataW H) → Nat
  | [] => 0
  | x :: r => uptoBulkEntry x + uptoBulkEntries r
def uptoBulkEntry {H : Type} : Lit × DataW H → Nat
  | (.string bytes, d) => bytes.length + uptoBulk d + 1
  | (_, d) => uptoBulk d + 1
 end
def uptoSmall : (H : Type) → List (DataW H) → Bool := fun _ ds => decide (uptoBulkAll ds ≤ 1048576)
def OpenSpec.upto (s : _root_.Go.ChangeSpec) : _root_.Go.OpenSpec := { _root_.Go.OpenSpec.ofChange s with cond := some uptoSmall }

/-- 'sluicewaylaw12.DomainNobody', WHERE WHAT IT READS IS OF BULK AT MOST 1048576: true; the input reads as it did. -/
def domainNobodyUptoRow : OpenClaim := { program := "ytlnlopeodpamdaa", sum := "03635195e84f0235cffaef0d5f9176f7a9eac8908e20636c1f1435c22c8cdcc7", func := "sluiceway/sluicewaylaw12.DomainNobody", spec := "domainNobody", unfollowed := true, recurses := true, apart := false, narrowed := true }
def DomainNobodyUptoSaid : Prop := domainNobodyUptoRow.holds Try.pinned (OpenSpec.upto domainNobodySpec)

/-- 'sluicewaylaw03.HeapFills', WHERE WHAT IT READS IS OF BULK AT MOST 1048576: true; the input reads as it did. -/
def heapFillsUptoRow : OpenClaim := { program := "ytlnlopeodpamdaa", sum := "03635195e84f0235cffaef0d5f9176f7a9eac8908e20636c1f1435c22c8cdcc7", func := "sluiceway/sluicewaylaw03.HeapFills", spec := "heapFills", unfollowed := true, recurses := true, apart := false, narrowed := true }
def HeapFillsUptoSaid : Prop := heapFillsUptoRow.holds Try.pinned (OpenSpec.upto heapFillsSpec)

/-- 'sluicewaylaw03.HeapPlays', WHERE WHAT IT READS IS OF BULK AT MOST 1048576: true; the input reads as it did. -/
def heapPlaysUptoRow : OpenClaim := { program := "ytlnlopeodpamdaa", sum := "03635195e84f0235cffaef0d5f9176f7a9eac8908e20636c1f1435c22c8cdcc7", func := "sluiceway/sluicewaylaw03.HeapPlays", spec := "heapPlays", unfollowed := true, recurses := true, apart := false, narrowed := true }
def HeapPlaysUptoSaid : Prop := heapPlaysUptoRow.holds Try.pinned (OpenSpec.upto heapPlaysSpec)

/-- 'sluicewaylaw03.HeapNobody', WHERE WHAT IT READS IS OF BULK AT MOST 1048576: true; the input reads as it did. -/
def heapNobodyUptoRow : OpenClaim := { program := "ytlnlopeodpamdaa", sum := "03635195e84f0235cffaef0d5f9176f7a9eac8908e20636c1f1435c22c8cdcc7", func := "sluiceway/sluicewaylaw03.HeapNobody", spec := "heapNobody", inPlace := ["maps.clone"], unfollowed := true, recurses := true, apart := false, narrowed := true }
def HeapNobodyUptoSaid : Prop := heapNobodyUptoRow.holds Try.pinned (OpenSpec.upto heapNobodySpec)

/-- 'sluicewaylaw03.HeapApart', WHERE WHAT IT READS IS OF BULK AT MOST 1048576: true; the input reads as it did. -/
def heapApartUptoRow : OpenClaim := { program := "ytlnlopeodpamdaa", sum := "03635195e84f0235cffaef0d5f9176f7a9eac8908e20636c1f1435c22c8cdcc7", func := "sluiceway/sluicewaylaw03.HeapApart", spec := "heapApart", inPlace := ["maps.clone"], unfollowed := true, recurses := true, apart := false, narrowed := true }
def HeapApartUptoSaid : Prop := heapApartUptoRow.holds Try.pinned (OpenSpec.upto heapApartSpec)

/-- 'sluicewaylaw11.RetireNobody', WHERE WHAT IT READS IS OF BULK AT MOST 1048576: true; the input reads as it did. -/
def retireNobodyUptoRow : OpenClaim := { program := "ytlnlopeodpamdaa", sum := "03635195e84f0235cffaef0d5f9176f7a9eac8908e20636c1f1435c22c8cdcc7", func := "sluiceway/sluicewaylaw11.RetireNobody", spec := "retireNobody", unfollowed := true, recurses := true, apart := false, narrowed := true }
def RetireNobodyUptoSaid : Prop := retireNobodyUptoRow.holds Try.pinned (OpenSpec.upto retireNobodySpec)

/-- 'sluicewaylaw11.RetireLeft', WHERE WHAT IT READS IS OF BULK AT MOST 1048576: true; the input reads as it did. -/
def retireLeftUptoRow : OpenClaim := { program := "ytlnlopeodpamdaa", sum := "03635195e84f0235cffaef0d5f9176f7a9eac8908e20636c1f1435c22c8cdcc7", func := "sluiceway/sluicewaylaw11.RetireLeft", spec := "retireLeft", unfollowed := true, recurses := true, apart := false, narrowed := true }
def RetireLeftUptoSaid : Prop := retireLeftUptoRow.holds Try.pinned (OpenSpec.upto retireLeftSpec)

/-- 'sluicewaylaw11.RetireBound', WHERE WHAT IT READS IS OF BULK AT MOST 1048576: true; the input reads as it did. -/
def retireBoundUptoRow : OpenClaim := { program := "ytlnlopeodpamdaa", sum := "03635195e84f0235cffaef0d5f9176f7a9eac8908e20636c1f1435c22c8cdcc7", func := "sluiceway/sluicewaylaw11.RetireBound", spec := "retireBound", unfollowed := true, recurses := true, apart := false, narrowed := true }
def RetireBoundUptoSaid : Prop := retireBoundUptoRow.holds Try.pinned (OpenSpec.upto retireBoundSpec)

/-- 'sluicewaylaw11.RetireSweeps', WHERE WHAT IT READS IS OF BULK AT MOST 1048576: true; the input reads as it did. -/
def retireSweepsUptoRow : OpenClaim := { program := "ytlnlopeodpamdaa", sum := "03635195e84f0235cffaef0d5f9176f7a9eac8908e20636c1f1435c22c8cdcc7", func := "sluiceway/sluicewaylaw11.RetireSweeps", spec := "retireSweeps", unfollowed := true, recurses := true, apart := false, narrowed := true }
def RetireSweepsUptoSaid : Prop := retireSweepsUptoRow.holds Try.pinned (OpenSpec.upto retireSweepsSpec)

end Rows
end Go.Proofs.Ytlnlopeodpamdaa
