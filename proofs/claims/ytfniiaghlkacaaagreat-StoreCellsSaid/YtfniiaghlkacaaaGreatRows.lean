/-
  No cell of these rows narrows 'for every input' (looked for: loops, veiled, ifaces, maps, wideKeys, modest, calm, conditions, laid).
  DERIVED. THE GIVEN ROWS OF THIS SEAT. 8 by the template 'for every input the law returns true; each argument reads behind the call as it read before'; 0 by the template 'total and deterministic' (their statements: YtfniiaghlkacaaaGreatTotals.lean).
  GIVEN WITH THE SEED: the statements are not yours to turn. If you find one false, say at which input.
  Laid BY PROGRAM, IN A SANDBOX (cutbox-rows.mjs): the forced cells as the released guide's own fill.sh prints them over the translation 53ef5aafe2b9e91e… (all of the seat's roots in one cut). By AI agents, Wed Nov 11 2026. No macro, syntax, notation, axiom, sorry.
-/
import Derived.Test.YtfniiaghlkacaaaGreatChecked
import GoSem.Claim
import GoSem.ClaimJoined
import GoSem.ClaimMapViews
import Derived.JoinedTies
import Derived.KernelRfl
namespace Go.Proofs.YtfniiaghlkacaaaGreat
/- THE CELL 'sum', in the pinned program and in every row, IS THE sha256 OF THE DUMP (.gsa) THAT YtfniiaghlkacaaaGreatProg.lean LOADS. Nothing in Lean hashes anything: it is a label: what it is worth is what the hold of that sum in a sandbox is worth. -/
noncomputable def Tryz.pinned : Pinned := { name := "ytfniiaghlkacaaagreat", sum := "53ef5aafe2b9e91ef80a2661b5b84b6577ab7df15742995867615d7adf250d98", checked := Tryz.checked }
namespace Rows
def none {H : Type} : Left H := { results := [], args := [] }

/-- 'quorumitelaw25.PlainPlays': WHATEVER THE INPUT: true; the input reads as it did. -/
def plainPlaysSpec : ChangeSpec := { name := "plainPlays", fn := fun _ => fun
  | [d1, d2] => { results := [.lit (.bool true)], args := [d1, d2] }
  | _ => none }
def plainPlaysRow : OpenClaim := { program := "ytfniiaghlkacaaagreat", sum := "53ef5aafe2b9e91ef80a2661b5b84b6577ab7df15742995867615d7adf250d98", func := "quorumite/quorumitelaw25.PlainPlays", spec := "plainPlays", inPlace := ["sync/atomic.AddInt64"], unfollowed := true, recurses := true, plainKeys := false, apart := false }
def PlainPlaysSaid : Prop := plainPlaysRow.holds Tryz.pinned (OpenSpec.ofChange plainPlaysSpec)

/-- ITS FALSE NEIGHBOUR: 'it returns false'. Refute it at one input. -/
def plainPlaysWrong : ChangeSpec := { name := "plainPlays", fn := fun _ => fun
  | [d1, d2] => { results := [.lit (.bool false)], args := [d1, d2] }
  | _ => none }
def PlainPlaysWrongFalsely : Prop := plainPlaysRow.holds Tryz.pinned (OpenSpec.ofChange plainPlaysWrong)

/-- 'quorumitelaw25.PlainTaken': WHATEVER THE INPUT: true; the input reads as it did. -/
def plainTakenSpec : ChangeSpec := { name := "plainTaken", fn := fun _ => fun
  | [d1, d2] => { results := [.lit (.bool true)], args := [d1, d2] }
  | _ => none }
def plainTakenRow : OpenClaim := { program := "ytfniiaghlkacaaagreat", sum := "53ef5aafe2b9e91ef80a2661b5b84b6577ab7df15742995867615d7adf250d98", func := "quorumite/quorumitelaw25.PlainTaken", spec := "plainTaken", inPlace := ["sync/atomic.AddInt64"], unfollowed := true, recurses := true, plainKeys := false, apart := false }
def PlainTakenSaid : Prop := plainTakenRow.holds Tryz.pinned (OpenSpec.ofChange plainTakenSpec)

/-- ITS FALSE NEIGHBOUR: 'it returns false'. Refute it at one input. -/
def plainTakenWrong : ChangeSpec := { name := "plainTaken", fn := fun _ => fun
  | [d1, d2] => { results := [.lit (.bool false)], args := [d1, d2] }
  | _ => none }
def PlainTakenWrongFalsely : Prop := plainTakenRow.holds Tryz.pinned (OpenSpec.ofChange plainTakenWrong)

/-- 'quorumitelaw20.StoreCells': WHATEVER THE INPUT: true; the input reads as it did. -/
def storeCellsSpec : ChangeSpec := { name := "storeCells", fn := fun _ => fun
  | [d1, d2] => { results := [.lit (.bool true)], args := [d1, d2] }
  | _ => none }
def storeCellsRow : OpenClaim := { program := "ytfniiaghlkacaaagreat", sum := "53ef5aafe2b9e91ef80a2661b5b84b6577ab7df15742995867615d7adf250d98", func := "quorumite/quorumitelaw20.StoreCells", spec := "storeCells", inPlace := ["sync/atomic.AddInt64", "slices.overlaps[quorumite/api.Sample]"], unfollowed := true, recurses := true, plainKeys := false, apart := false }
def StoreCellsSaid : Prop := storeCellsRow.holds Tryz.pinned (OpenSpec.ofChange storeCellsSpec)

/-- ITS FALSE NEIGHBOUR: 'it returns false'. Refute it at one input. -/
def storeCellsWrong : ChangeSpec := { name := "storeCells", fn := fun _ => fun
  | [d1, d2] => { results := [.lit (.bool false)], args := [d1, d2] }
  | _ => none }
def StoreCellsWrongFalsely : Prop := storeCellsRow.holds Tryz.pinned (OpenSpec.ofChange storeCellsWrong)

/-- 'quorumitelaw20.StoreLong': WHATEVER THE INPUT: true; the input reads as it did. -/
def storeLongSpec : ChangeSpec := { name := "storeLong", fn := fun _ => fun
  | [d1, d2, d3] => { results := [.lit (.bool true)], args := [d1, d2, d3] }
  | _ => none }
def storeLongRow : OpenClaim := { program := "ytfniiaghlkacaaagreat", sum := "53ef5aafe2b9e91ef80a2661b5b84b6577ab7df15742995867615d7adf250d98", func := "quorumite/quorumitelaw20.StoreLong", spec := "storeLong", inPlace := ["sync/atomic.AddInt64", "slices.overlaps[quorumite/api.Sample]"], unfollowed := true, recurses := true, plainKeys := false, apart := false }
def StoreLongSaid : Prop := storeLongRow.holds Tryz.pinned (OpenSpec.ofChange storeLongSpec)

/-- ITS FALSE NEIGHBOUR: 'it returns false'. Refute it at one input. -/
def storeLongWrong : ChangeSpec := { name := "storeLong", fn := fun _ => fun
  | [d1, d2, d3] => { results := [.lit (.bool false)], args := [d1, d2, d3] }
  | _ => none }
def StoreLongWrongFalsely : Prop := storeLongRow.holds Tryz.pinned (OpenSpec.ofChange storeLongWrong)

/-- 'quorumitelaw20.StoreLost': WHATEVER THE INPUT: true; the input reads as it did. -/
def storeLostSpec : ChangeSpec := { name := "storeLost", fn := fun _ => fun
  | [d1, d2, d3, d4] => { results := [.lit (.bool true)], args := [d1, d2, d3, d4] }
  | _ => none }
def storeLostRow : OpenClaim := { program := "ytfniiaghlkacaaagreat", sum := "53ef5aafe2b9e91ef80a2661b5b84b6577ab7df15742995867615d7adf250d98", func := "quorumite/quorumitelaw20.StoreLost", spec := "storeLost", inPlace := ["sync/atomic.AddInt64", "slices.overlaps[quorumite/api.Sample]"], unfollowed := true, recurses := true, plainKeys := false, apart := false }
def StoreLostSaid : Prop := storeLostRow.holds Tryz.pinned (OpenSpec.ofChange storeLostSpec)

/-- ITS FALSE NEIGHBOUR: 'it returns false'. Refute it at one input. -/
def storeLostWrong : ChangeSpec := { name := "storeLost", fn := fun _ => fun
  | [d1, d2, d3, d4] => { results := [.lit (.bool false)], args := [d1, d2, d3, d4] }
  | _ => none }
def StoreLostWrongFalsely : Prop := storeLostRow.holds Tryz.pinned (OpenSpec.ofChange storeLostWrong)

/-- 'quorumitelaw20.StorePlays': WHATEVER THE INPUT: true; the input reads as it did. -/
def storePlaysSpec : ChangeSpec := { name := "storePlays", fn := fun _ => fun
  | [d1, d2, d3] => { results := [.lit (.bool true)], args := [d1, d2, d3] }
  | _ => none }
def storePlaysRow : OpenClaim := { program := "ytfniiaghlkacaaagreat", sum := "53ef5aafe2b9e91ef80a2661b5b84b6577ab7df15742995867615d7adf250d98", func := "quorumite/quorumitelaw20.StorePlays", spec := "storePlays", inPlace := ["sync/atomic.AddInt64", "slices.overlaps[quorumite/api.Sample]", "sync/atomic.LoadInt64"], unfollowed := true, recurses := true, plainKeys := false, apart := false }
def StorePlaysSaid : Prop := storePlaysRow.holds Tryz.pinned (OpenSpec.ofChange storePlaysSpec)

/-- ITS FALSE NEIGHBOUR: 'it returns false'. Refute it at one input. -/
def storePlaysWrong : ChangeSpec := { name := "storePlays", fn := fun _ => fun
  | [d1, d2, d3] => { results := [.lit (.bool false)], args := [d1, d2, d3] }
  | _ => none }
def StorePlaysWrongFalsely : Prop := storePlaysRow.holds Tryz.pinned (OpenSpec.ofChange storePlaysWrong)

/-- 'quorumitelaw20.StorePrefix': WHATEVER THE INPUT: true; the input reads as it did. -/
def storePrefixSpec : ChangeSpec := { name := "storePrefix", fn := fun _ => fun
  | [d1, d2, d3] => { results := [.lit (.bool true)], args := [d1, d2, d3] }
  | _ => none }
def storePrefixRow : OpenClaim := { program := "ytfniiaghlkacaaagreat", sum := "53ef5aafe2b9e91ef80a2661b5b84b6577ab7df15742995867615d7adf250d98", func := "quorumite/quorumitelaw20.StorePrefix", spec := "storePrefix", inPlace := ["sync/atomic.AddInt64", "slices.overlaps[quorumite/api.Sample]", "sync/atomic.LoadInt64"], unfollowed := true, recurses := true, plainKeys := false, apart := false }
def StorePrefixSaid : Prop := storePrefixRow.holds Tryz.pinned (OpenSpec.ofChange storePrefixSpec)

/-- ITS FALSE NEIGHBOUR: 'it returns false'. Refute it at one input. -/
def storePrefixWrong : ChangeSpec := { name := "storePrefix", fn := fun _ => fun
  | [d1, d2, d3] => { results := [.lit (.bool false)], args := [d1, d2, d3] }
  | _ => none }
def StorePrefixWrongFalsely : Prop := storePrefixRow.holds Tryz.pinned (OpenSpec.ofChange storePrefixWrong)

/-- 'quorumitelaw20.StoreTorn': WHATEVER THE INPUT: true; the input reads as it did. -/
def storeTornSpec : ChangeSpec := { name := "storeTorn", fn := fun _ => fun
  | [d1, d2, d3, d4, d5] => { results := [.lit (.bool true)], args := [d1, d2, d3, d4, d5] }
  | _ => none }
def storeTornRow : OpenClaim := { program := "ytfniiaghlkacaaagreat", sum := "53ef5aafe2b9e91ef80a2661b5b84b6577ab7df15742995867615d7adf250d98", func := "quorumite/quorumitelaw20.StoreTorn", spec := "storeTorn", inPlace := ["sync/atomic.AddInt64", "slices.overlaps[quorumite/api.Sample]", "sync/atomic.LoadInt64"], unfollowed := true, recurses := true, plainKeys := false, apart := false }
def StoreTornSaid : Prop := storeTornRow.holds Tryz.pinned (OpenSpec.ofChange storeTornSpec)

/-- ITS FALSE NEIGHBOUR: 'it returns false'. Refute it at one input. -/
def storeTornWrong : ChangeSpec := { name := "storeTorn", fn := fun _ => fun
  | [d1, d2, d3, d4, d5] => { results := [.lit (.bool false)], args := [d1, d2, d3, d4, d5] }
  | _ => none }
def StoreTornWrongFalsely : Prop := storeTornRow.holds Tryz.pinned (OpenSpec.ofChange storeTornWrong)

/- THE SECOND FORM. 'bulk': how many values and letters a reading holds, each counted each time it is reached (what is shared counts as often as it is met; a slice's spare places count too). A statement '..UptoSaid' is the law's where the arguments, and the package variables that the reading takes, are together of bulk at most 1048576: NARROWER than '..Said'. Prove '..Said' where nothing that the law and all that it calls make is longer than what came in: it says more and counts as full. Else prove '..UptoSaid'. A law counts once. -/
mutual
def uptoBulk {H : Type} : DataW H → Nat
  | .lit (.string bytes) => bytes.length + 1
  | .lit _ => 1
  | .nil => 1
  | .ptr d => uptoBulk d + 1
  | .slice elems spare => uptoBulkAll elems + uptoBulkAll spare + 1
  | .agg parts => uptoBulkAll parts + 1
  | .iface _ d => uptoBulk d + 1
  | .map entries => uptoBulkEntries entries + 1
  | .held _ => 1
def uptoBulkAll {H : Type} : List (DataW H) → Nat
  | [] => 0
  | d :: r => uptoBulk d + uptoBulkAll r
def uptoBulkEntries {H : Type} : List (Lit × DataW H) → Nat
  | [] => 0
  | x :: r => uptoBulkEntry x + uptoBulkEntries r
def uptoBulkEntry {H : Type} : Lit × DataW H → Nat
  | (.string bytes, d) => bytes.length + uptoBulk d + 1
  | (_, d) => uptoBulk d + 1
 end
def uptoSmall : (H : Type) → List (DataW H) → Bool := fun _ ds => decide (uptoBulkAll ds ≤ 1048576)
def OpenSpec.upto (s : _root_.Go.ChangeSpec) : _root_.Go.OpenSpec := { _root_.Go.OpenSpec.ofChange s with cond := some uptoSmall }

/-- 'quorumitelaw25.PlainPlays', WHERE WHAT IT READS IS OF BULK AT MOST 1048576: true; the input reads as it did. -/
def plainPlaysUptoRow : OpenClaim := { program := "ytfniiaghlkacaaagreat", sum := "53ef5aafe2b9e91ef80a2661b5b84b6577ab7df15742995867615d7adf250d98", func := "quorumite/quorumitelaw25.PlainPlays", spec := "plainPlays", inPlace := ["sync/atomic.AddInt64"], unfollowed := true, recurses := true, plainKeys := false, apart := false, narrowed := true }
def PlainPlaysUptoSaid : Prop := plainPlaysUptoRow.holds Tryz.pinned (OpenSpec.upto plainPlaysSpec)

/-- 'quorumitelaw25.PlainTaken', WHERE WHAT IT READS IS OF BULK AT MOST 1048576: true; the input reads as it did. -/
def plainTakenUptoRow : OpenClaim := { program := "ytfniiaghlkacaaagreat", sum := "53ef5aafe2b9e91ef80a2661b5b84b6577ab7df15742995867615d7adf250d98", func := "quorumite/quorumitelaw25.PlainTaken", spec := "plainTaken", inPlace := ["sync/atomic.AddInt64"], unfollowed := true, recurses := true, plainKeys := false, apart := false, narrowed := true }
def PlainTakenUptoSaid : Prop := plainTakenUptoRow.holds Tryz.pinned (OpenSpec.upto plainTakenSpec)

/-- 'quorumitelaw20.StoreCells', WHERE WHAT IT READS IS OF BULK AT MOST 1048576: true; the input reads as it did. -/
def storeCellsUptoRow : OpenClaim := { program := "ytfniiaghlkacaaagreat", sum := "53ef5aafe2b9e91ef80a2661b5b84b6577ab7df15742995867615d7adf250d98", func := "quorumite/quorumitelaw20.StoreCells", spec := "storeCells", inPlace := ["sync/atomic.AddInt64", "slices.overlaps[quorumite/api.Sample]"], unfollowed := true, recurses := true, plainKeys := false, apart := false, narrowed := true }
def StoreCellsUptoSaid : Prop := storeCellsUptoRow.holds Tryz.pinned (OpenSpec.upto storeCellsSpec)

/-- 'quorumitelaw20.StoreLong', WHERE WHAT IT READS IS OF BULK AT MOST 1048576: true; the input reads as it did. -/
def storeLongUptoRow : OpenClaim := { program := "ytfniiaghlkacaaagreat", sum := "53ef5aafe2b9e91ef80a2661b5b84b6577ab7df15742995867615d7adf250d98", func := "quorumite/quorumitelaw20.StoreLong", spec := "storeLong", inPlace := ["sync/atomic.AddInt64", "slices.overlaps[quorumite/api.Sample]"], unfollowed := true, recurses := true, plainKeys := false, apart := false, narrowed := true }
def StoreLongUptoSaid : Prop := storeLongUptoRow.holds Tryz.pinned (OpenSpec.upto storeLongSpec)

/-- 'quorumitelaw20.StoreLost', WHERE WHAT IT READS IS OF BULK AT MOST 1048576: true; the input reads as it did. -/
def storeLostUptoRow : OpenClaim := { program := "ytfniiaghlkacaaagreat", sum := "53ef5aafe2b9e91ef80a2661b5b84b6577ab7df15742995867615d7adf250d98", func := "quorumite/quorumitelaw20.StoreLost", spec := "storeLost", inPlace := ["sync/atomic.AddInt64", "slices.overlaps[quorumite/api.Sample]"], unfollowed := true, recurses := true, plainKeys := false, apart := false, narrowed := true }
def StoreLostUptoSaid : Prop := storeLostUptoRow.holds Tryz.pinned (OpenSpec.upto storeLostSpec)

/-- 'quorumitelaw20.StorePlays', WHERE WHAT IT READS IS OF BULK AT MOST 1048576: true; the input reads as it did. -/
def storePlaysUptoRow : OpenClaim := { program := "ytfniiaghlkacaaagreat", sum := "53ef5aafe2b9e91ef80a2661b5b84b6577ab7df15742995867615d7adf250d98", func := "quorumite/quorumitelaw20.StorePlays", spec := "storePlays", inPlace := ["sync/atomic.AddInt64", "slices.overlaps[quorumite/api.Sample]", "sync/atomic.LoadInt64"], unfollowed := true, recurses := true, plainKeys := false, apart := false, narrowed := true }
def StorePlaysUptoSaid : Prop := storePlaysUptoRow.holds Tryz.pinned (OpenSpec.upto storePlaysSpec)

/-- 'quorumitelaw20.StorePrefix', WHERE WHAT IT READS IS OF BULK AT MOST 1048576: true; the input reads as it did. -/
def storePrefixUptoRow : OpenClaim := { program := "ytfniiaghlkacaaagreat", sum := "53ef5aafe2b9e91ef80a2661b5b84b6577ab7df15742995867615d7adf250d98", func := "quorumite/quorumitelaw20.StorePrefix", spec := "storePrefix", inPlace := ["sync/atomic.AddInt64", "slices.overlaps[quorumite/api.Sample]", "sync/atomic.LoadInt64"], unfollowed := true, recurses := true, plainKeys := false, apart := false, narrowed := true }
def StorePrefixUptoSaid : Prop := storePrefixUptoRow.holds Tryz.pinned (OpenSpec.upto storePrefixSpec)

/-- 'quorumitelaw20.StoreTorn', WHERE WHAT IT READS IS OF BULK AT MOST 1048576: true; the input reads as it did. -/
def storeTornUptoRow : OpenClaim := { program := "ytfniiaghlkacaaagreat", sum := "53ef5aafe2b9e91ef80a2661b5b84b6577ab7df15742995867615d7adf250d98", func := "quorumite/quorumitelaw20.StoreTorn", spec := "storeTorn", inPlace := ["sync/atomic.AddInt64", "slices.overlaps[quorumite/api.Sample]", "sync/atomic.LoadInt64"], unfollowed := true, recurses := true, plainKeys := false, apart := false, narrowed := true }
def StoreTornUptoSaid : Prop := storeTornUptoRow.holds Tryz.pinned (OpenSpec.upto storeTornSpec)

end Rows
end Go.Proofs.YtfniiaghlkacaaaGreat
