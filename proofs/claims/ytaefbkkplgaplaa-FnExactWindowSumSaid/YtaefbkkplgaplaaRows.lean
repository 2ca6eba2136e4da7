/-
  No cell of these rows narrows 'for every input' (looked for: loops, veiled, ifaces, maps, wideKeys, modest, calm, conditions, laid).
  DERIVED. THE GIVEN ROWS OF THIS SEAT. 5 by the template 'for every input the law returns true; each argument reads behind the call as it read before'; 0 by the template 'total and deterministic' (their statements: YtaefbkkplgaplaaTotals.lean).
  GIVEN WITH THE SEED: the statements are not yours to turn. If you find one false, say at which input.
  Laid BY PROGRAM, IN A SANDBOX (cutbox-rows.mjs): the forced cells as the released guide's own fill.sh prints them over the translation 0e65ffaec9b70ffa… (all of the seat's roots in one cut). By AI agents, Wed Nov 11 2026. No macro, syntax, notation, axiom, sorry.
-/
import Derived.Test.YtaefbkkplgaplaaChecked
import GoSem.Claim
import GoSem.ClaimJoined
import GoSem.ClaimMapViews
import Derived.JoinedTies
import Derived.KernelRfl
namespace Go.Proofs.Ytaefbkkplgaplaa
/- THE CELL 'sum', in the pinned program and in every row, IS THE sha256 OF THE DUMP (.gsa) THAT YtaefbkkplgaplaaProg.lean LOADS. Nothing in Lean hashes anything: it is a label: what it is worth is what the hold of that sum in a sandbox is worth. -/
noncomputable def Try.pinned : Pinned := { name := "ytaefbkkplgaplaa", sum := "0e65ffaec9b70ffaeb5ec705318807ba5ea3e571c3041f263dd2dc9e6a1be4c4", checked := Try.checked }
namespace Rows
def none {H : Type} : Left H := { results := [], args := [] }

/-- 'laws.FnExactNewReplica': WHATEVER THE INPUT: true; the input reads as it did. -/
def fnExactNewReplicaSpec : ChangeSpec := { name := "fnExactNewReplica", fn := fun _ => fun
  | [] => { results := [.lit (.bool true)], args := [] }
  | _ => none }
def fnExactNewReplicaRow : OpenClaim := { program := "ytaefbkkplgaplaa", sum := "0e65ffaec9b70ffaeb5ec705318807ba5ea3e571c3041f263dd2dc9e6a1be4c4", func := "loop.example/g01924/laws.FnExactNewReplica", spec := "fnExactNewReplica", apart := false }
def FnExactNewReplicaSaid : Prop := fnExactNewReplicaRow.holds Try.pinned (OpenSpec.ofChange fnExactNewReplicaSpec)

/-- ITS FALSE NEIGHBOUR: 'it returns false'. Refute it at one input. -/
def fnExactNewReplicaWrong : ChangeSpec := { name := "fnExactNewReplica", fn := fun _ => fun
  | [] => { results := [.lit (.bool false)], args := [] }
  | _ => none }
def FnExactNewReplicaWrongFalsely : Prop := fnExactNewReplicaRow.holds Try.pinned (OpenSpec.ofChange fnExactNewReplicaWrong)

/-- 'laws.FnExactReplicaEntry': WHATEVER THE INPUT: true; the input reads as it did. -/
def fnExactReplicaEntrySpec : ChangeSpec := { name := "fnExactReplicaEntry", fn := fun _ => fun
  | [d1, d2] => { results := [.lit (.bool true)], args := [d1, d2] }
  | _ => none }
def fnExactReplicaEntryRow : OpenClaim := { program := "ytaefbkkplgaplaa", sum := "0e65ffaec9b70ffaeb5ec705318807ba5ea3e571c3041f263dd2dc9e6a1be4c4", func := "loop.example/g01924/laws.FnExactReplicaEntry", spec := "fnExactReplicaEntry", unfollowed := true, recurses := true, apart := false }
def FnExactReplicaEntrySaid : Prop := fnExactReplicaEntryRow.holds Try.pinned (OpenSpec.ofChange fnExactReplicaEntrySpec)

/-- ITS FALSE NEIGHBOUR: 'it returns false'. Refute it at one input. -/
def fnExactReplicaEntryWrong : ChangeSpec := { name := "fnExactReplicaEntry", fn := fun _ => fun
  | [d1, d2] => { results := [.lit (.bool false)], args := [d1, d2] }
  | _ => none }
def FnExactReplicaEntryWrongFalsely : Prop := fnExactReplicaEntryRow.holds Try.pinned (OpenSpec.ofChange fnExactReplicaEntryWrong)

/-- 'laws.FnExactApplyRecord': WHATEVER THE INPUT: true; the input reads as it did. -/
def fnExactApplyRecordSpec : ChangeSpec := { name := "fnExactApplyRecord", fn := fun _ => fun
  | [d1, d2, d3] => { results := [.lit (.bool true)], args := [d1, d2, d3] }
  | _ => none }
def fnExactApplyRecordRow : OpenClaim := { program := "ytaefbkkplgaplaa", sum := "0e65ffaec9b70ffaeb5ec705318807ba5ea3e571c3041f263dd2dc9e6a1be4c4", func := "loop.example/g01924/laws.FnExactApplyRecord", spec := "fnExactApplyRecord", unfollowed := true, recurses := true, apart := false }
def FnExactApplyRecordSaid : Prop := fnExactApplyRecordRow.holds Try.pinned (OpenSpec.ofChange fnExactApplyRecordSpec)

/-- ITS FALSE NEIGHBOUR: 'it returns false'. Refute it at one input. -/
def fnExactApplyRecordWrong : ChangeSpec := { name := "fnExactApplyRecord", fn := fun _ => fun
  | [d1, d2, d3] => { results := [.lit (.bool false)], args := [d1, d2, d3] }
  | _ => none }
def FnExactApplyRecordWrongFalsely : Prop := fnExactApplyRecordRow.holds Try.pinned (OpenSpec.ofChange fnExactApplyRecordWrong)

/-- 'laws.FnExactFeedReplica': WHATEVER THE INPUT: true; the input reads as it did. -/
def fnExactFeedReplicaSpec : ChangeSpec := { name := "fnExactFeedReplica", fn := fun _ => fun
  | [d1, d2] => { results := [.lit (.bool true)], args := [d1, d2] }
  | _ => none }
def fnExactFeedReplicaRow : OpenClaim := { program := "ytaefbkkplgaplaa", sum := "0e65ffaec9b70ffaeb5ec705318807ba5ea3e571c3041f263dd2dc9e6a1be4c4", func := "loop.example/g01924/laws.FnExactFeedReplica", spec := "fnExactFeedReplica", unfollowed := true, recurses := true, apart := false }
def FnExactFeedReplicaSaid : Prop := fnExactFeedReplicaRow.holds Try.pinned (OpenSpec.ofChange fnExactFeedReplicaSpec)

/-- ITS FALSE NEIGHBOUR: 'it returns false'. Refute it at one input. -/
def fnExactFeedReplicaWrong : ChangeSpec := { name := "fnExactFeedReplica", fn := fun _ => fun
  | [d1, d2] => { results := [.lit (.bool false)], args := [d1, d2] }
  | _ => none }
def FnExactFeedReplicaWrongFalsely : Prop := fnExactFeedReplicaRow.holds Try.pinned (OpenSpec.ofChange fnExactFeedReplicaWrong)

/-- 'laws.FnExactWindowSum': WHATEVER THE INPUT: true; the input reads as it did. -/
def fnExactWindowSumSpec : ChangeSpec := { name := "fnExactWindowSum", fn := fun _ => fun
  | [d] => { results := [.lit (.bool true)], args := [d] }
  | _ => none }
def fnExactWindowSumRow : OpenClaim := { program := "ytaefbkkplgaplaa", sum := "0e65ffaec9b70ffaeb5ec705318807ba5ea3e571c3041f263dd2dc9e6a1be4c4", func := "loop.example/g01924/laws.FnExactWindowSum", spec := "fnExactWindowSum", unfollowed := true, recurses := true, apart := false }
def FnExactWindowSumSaid : Prop := fnExactWindowSumRow.holds Try.pinned (OpenSpec.ofChange fnExactWindowSumSpec)

/-- ITS FALSE NEIGHBOUR: 'it returns false'. Refute it at one input. -/
def fnExactWindowSumWrong : ChangeSpec := { name := "fnExactWindowSum", fn := fun _ => fun
  | [d] => { results := [.lit (.bool false)], args := [d] }
  | _ => none }
def FnExactWindowSumWrongFalsely : Prop := fnExactWindowSumRow.holds Try.pinned (OpenSpec.ofChange fnExactWindowSumWrong)

/- THE SECOND FORM. 'bulk': how many values and letters a reading holds, each counted each time it is reached (what is shared counts as often as it is met; a slice's spare places count too). A statement '..UptoSaid' is the law's where the arguments, and the package variables that the reading takes, are together of bulk at most 1048576: NARROWER than '..Said'. Prove '..Said' where nothing that the law and all that it calls make is longer than what came in: it says more and counts as full. Else prove '..UptoSaid'. A law counts once. -/
mutual
def uptoBulk {H : Type} : DataW H → Nat
  | .lit (.string bytes) => bytes.length + 1
  | .lit _ => 1
  | .nil => 1
  | .ptr d => uptoBulk d + 1
  | .slice elems spare => uptoBulkAll elems + uptoBulkAll spare + 1
  | .agg parts => uptoBulkAll parts + 1
  | .iface _ d => uptoBulk d + 1
  | .map entries => uptoBulkEntries entries + 1
  | .held _ => 1
def uptoBulkAll {H : Type} : List (DataW H) → Nat
  | [] => 0
  | d :: r => uptoBulk d + uptoBulkAll r
def uptoBulkEntries {H : Type} : List (Lit × DataW H) → Nat
  | [] => 0
  | x :: r => uptoBulkEntry x + uptoBulkEntries r
def uptoBulkEntry {H : Type} : Lit × DataW H → Nat
  | (.string bytes, d) => bytes.length + uptoBulk d + 1
  | (_, d) => uptoBulk d + 1
 end
def uptoSmall : (H : Type) → List (DataW H) → Bool := fun _ ds => decide (uptoBulkAll ds ≤ 1048576)
def OpenSpec.upto (s : _root_.Go.ChangeSpec) : _root_.Go.OpenSpec := { _root_.Go.OpenSpec.ofChange s with cond := some uptoSmall }

/-- 'laws.FnExactNewReplica', WHERE WHAT IT READS IS OF BULK AT MOST 1048576: true; the input reads as it did. -/
def fnExactNewReplicaUptoRow : OpenClaim := { program := "ytaefbkkplgaplaa", sum := "0e65ffaec9b70ffaeb5ec705318807ba5ea3e571c3041f263dd2dc9e6a1be4c4", func := "loop.example/g01924/laws.FnExactNewReplica", spec := "fnExactNewReplica", apart := false, narrowed := true }
def FnExactNewReplicaUptoSaid : Prop := fnExactNewReplicaUptoRow.holds Try.pinned (OpenSpec.upto fnExactNewReplicaSpec)

/-- 'laws.FnExactReplicaEntry', WHERE WHAT IT READS IS OF BULK AT MOST 1048576: true; the input reads as it did. -/
def fnExactReplicaEntryUptoRow : OpenClaim := { program := "ytaefbkkplgaplaa", sum := "0e65ffaec9b70ffaeb5ec705318807ba5ea3e571c3041f263dd2dc9e6a1be4c4", func := "loop.example/g01924/laws.FnExactReplicaEntry", spec := "fnExactReplicaEntry", unfollowed := true, recurses := true, apart := false, narrowed := true }
def FnExactReplicaEntryUptoSaid : Prop := fnExactReplicaEntryUptoRow.holds Try.pinned (OpenSpec.upto fnExactReplicaEntrySpec)

/-- 'laws.FnExactApplyRecord', WHERE WHAT IT READS IS OF BULK AT MOST 1048576: true; the input reads as it did. -/
def fnExactApplyRecordUptoRow : OpenClaim := { program := "ytaefbkkplgaplaa", sum := "0e65ffaec9b70ffaeb5ec705318807ba5ea3e571c3041f263dd2dc9e6a1be4c4", func := "loop.example/g01924/laws.FnExactApplyRecord", spec := "fnExactApplyRecord", unfollowed := true, recurses := true, apart := false, narrowed := true }
def FnExactApplyRecordUptoSaid : Prop := fnExactApplyRecordUptoRow.holds Try.pinned (OpenSpec.upto fnExactApplyRecordSpec)

/-- 'laws.FnExactFeedReplica', WHERE WHAT IT READS IS OF BULK AT MOST 1048576: true; the input reads as it did. -/
def fnExactFeedReplicaUptoRow : OpenClaim := { program := "ytaefbkkplgaplaa", sum := "0e65ffaec9b70ffaeb5ec705318807ba5ea3e571c3041f263dd2dc9e6a1be4c4", func := "loop.example/g01924/laws.FnExactFeedReplica", spec := "fnExactFeedReplica", unfollowed := true, recurses := true, apart := false, narrowed := true }
def FnExactFeedReplicaUptoSaid : Prop := fnExactFeedReplicaUptoRow.holds Try.pinned (OpenSpec.upto fnExactFeedReplicaSpec)

/-- 'laws.FnExactWindowSum', WHERE WHAT IT READS IS OF BULK AT MOST 1048576: true; the input reads as it did. -/
def fnExactWindowSumUptoRow : OpenClaim := { program := "ytaefbkkplgaplaa", sum := "0e65ffaec9b70ffaeb5ec705318807ba5ea3e571c3041f263dd2dc9e6a1be4c4", func := "loop.example/g01924/laws.FnExactWindowSum", spec := "fnExactWindowSum", unfollowed := true, recurses := true, apart := false, narrowed := true }
def FnExactWindowSumUptoSaid : Prop := fnExactWindowSumUptoRow.holds Try.pinned (OpenSpec.upto fnExactWindowSumSpec)

end Rows
end Go.Proofs.Ytaefbkkplgaplaa
