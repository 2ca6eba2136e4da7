/-
  No cell of these rows narrows 'for every input' (looked for: loops, veiled, ifaces, maps, wideKeys, modest, calm, conditions, laid).
  DERIVED. THE GIVEN ROWS OF THIS SEAT. 5 by the template 'for every input the law returns true; each argument reads behind the call as it read before'; 0 by the template 'total and deterministic' (their statements: YtehjknclkaobhaaTotals.lean).
  GIVEN WITH THE SEED: the statements are not yours to turn. If you find one false, say at which input.
  Laid BY PROGRAM, IN A SANDBOX (cutbox-rows.mjs): the forced cells as the released guide's own fill.sh prints them over the translation ef6384b4dc3944f1… (all of the seat's roots in one cut). By AI agents, Wed Nov 11 2026. No macro, syntax, notation, axiom, sorry.
-/
import Derived.Test.YtehjknclkaobhaaChecked
import GoSem.Claim
import GoSem.ClaimJoined
import GoSem.ClaimMapViews
import Derived.JoinedTies
import Derived.KernelRfl
namespace Go.Proofs.Ytehjknclkaobhaa
/- THE CELL 'sum', in the pinned program and in every row, IS THE sha256 OF THE DUMP (.gsa) THAT YtehjknclkaobhaaProg.lean LOADS. Nothing in Lean hashes anything: it is a label: what it is worth is what the hold of that sum in a sandbox is worth. -/
noncomputable def Try.pinned : Pinned := { name := "ytehjknclkaobhaa", sum := "ef6384b4dc3944f14bba68fb0ba06c71712818e2c40f3c2141d073e0020da978", checked := Try.checked }
namespace Rows
def none {H : Type} : Left H := { results := [], args := [] }

/-- 'laws.FnExactEqualReports': WHATEVER THE INPUT: true; the input reads as it did. -/
def fnExactEqualReportsSpec : ChangeSpec := { name := "fnExactEqualReports", fn := fun _ => fun
  | [d1, d2] => { results := [.lit (.bool true)], args := [d1, d2] }
  | _ => none }
def fnExactEqualReportsRow : OpenClaim := { program := "ytehjknclkaobhaa", sum := "ef6384b4dc3944f14bba68fb0ba06c71712818e2c40f3c2141d073e0020da978", func := "loop.example/g01924/laws.FnExactEqualReports", spec := "fnExactEqualReports", apart := false }
def FnExactEqualReportsSaid : Prop := fnExactEqualReportsRow.holds Try.pinned (OpenSpec.ofChange fnExactEqualReportsSpec)

/-- ITS FALSE NEIGHBOUR: 'it returns false'. Refute it at one input. -/
def fnExactEqualReportsWrong : ChangeSpec := { name := "fnExactEqualReports", fn := fun _ => fun
  | [d1, d2] => { results := [.lit (.bool false)], args := [d1, d2] }
  | _ => none }
def FnExactEqualReportsWrongFalsely : Prop := fnExactEqualReportsRow.holds Try.pinned (OpenSpec.ofChange fnExactEqualReportsWrong)

/-- 'laws.FnExactNewReplica': WHATEVER THE INPUT: true; the input reads as it did. -/
def fnExactNewReplicaSpec : ChangeSpec := { name := "fnExactNewReplica", fn := fun _ => fun
  | [] => { results := [.lit (.bool true)], args := [] }
  | _ => none }
def fnExactNewReplicaRow : OpenClaim := { program := "ytehjknclkaobhaa", sum := "ef6384b4dc3944f14bba68fb0ba06c71712818e2c40f3c2141d073e0020da978", func := "loop.example/g01924/laws.FnExactNewReplica", spec := "fnExactNewReplica", apart := false }
def FnExactNewReplicaSaid : Prop := fnExactNewReplicaRow.holds Try.pinned (OpenSpec.ofChange fnExactNewReplicaSpec)

/-- ITS FALSE NEIGHBOUR: 'it returns false'. Refute it at one input. -/
def fnExactNewReplicaWrong : ChangeSpec := { name := "fnExactNewReplica", fn := fun _ => fun
  | [] => { results := [.lit (.bool false)], args := [] }
  | _ => none }
def FnExactNewReplicaWrongFalsely : Prop := fnExactNewReplicaRow.holds Try.pinned (OpenSpec.ofChange fnExactNewReplicaWrong)

/-- 'laws.FnExactEqualReplicas': WHATEVER THE INPUT: true; the input reads as it did. -/
def fnExactEqualReplicasSpec : ChangeSpec := { name := "fnExactEqualReplicas", fn := fun _ => fun
  | [d1, d2] => { results := [.lit (.bool true)], args := [d1, d2] }
  | _ => none }
def fnExactEqualReplicasRow : OpenClaim := { program := "ytehjknclkaobhaa", sum := "ef6384b4dc3944f14bba68fb0ba06c71712818e2c40f3c2141d073e0020da978", func := "loop.example/g01924/laws.FnExactEqualReplicas", spec := "fnExactEqualReplicas", unfollowed := true, recurses := true, apart := false }
def FnExactEqualReplicasSaid : Prop := fnExactEqualReplicasRow.holds Try.pinned (OpenSpec.ofChange fnExactEqualReplicasSpec)

/-- ITS FALSE NEIGHBOUR: 'it returns false'. Refute it at one input. -/
def fnExactEqualReplicasWrong : ChangeSpec := { name := "fnExactEqualReplicas", fn := fun _ => fun
  | [d1, d2] => { results := [.lit (.bool false)], args := [d1, d2] }
  | _ => none }
def FnExactEqualReplicasWrongFalsely : Prop := fnExactEqualReplicasRow.holds Try.pinned (OpenSpec.ofChange fnExactEqualReplicasWrong)

/-- 'laws.FnExactIsValidReplica': WHATEVER THE INPUT: true; the input reads as it did. -/
def fnExactIsValidReplicaSpec : ChangeSpec := { name := "fnExactIsValidReplica", fn := fun _ => fun
  | [d] => { results := [.lit (.bool true)], args := [d] }
  | _ => none }
def fnExactIsValidReplicaRow : OpenClaim := { program := "ytehjknclkaobhaa", sum := "ef6384b4dc3944f14bba68fb0ba06c71712818e2c40f3c2141d073e0020da978", func := "loop.example/g01924/laws.FnExactIsValidReplica", spec := "fnExactIsValidReplica", unfollowed := true, recurses := true, apart := false }
def FnExactIsValidReplicaSaid : Prop := fnExactIsValidReplicaRow.holds Try.pinned (OpenSpec.ofChange fnExactIsValidReplicaSpec)

/-- ITS FALSE NEIGHBOUR: 'it returns false'. Refute it at one input. -/
def fnExactIsValidReplicaWrong : ChangeSpec := { name := "fnExactIsValidReplica", fn := fun _ => fun
  | [d] => { results := [.lit (.bool false)], args := [d] }
  | _ => none }
def FnExactIsValidReplicaWrongFalsely : Prop := fnExactIsValidReplicaRow.holds Try.pinned (OpenSpec.ofChange fnExactIsValidReplicaWrong)

/-- 'laws.FnExactReplicaRead': WHATEVER THE INPUT: true; the input reads as it did. -/
def fnExactReplicaReadSpec : ChangeSpec := { name := "fnExactReplicaRead", fn := fun _ => fun
  | [d1, d2] => { results := [.lit (.bool true)], args := [d1, d2] }
  | _ => none }
def fnExactReplicaReadRow : OpenClaim := { program := "ytehjknclkaobhaa", sum := "ef6384b4dc3944f14bba68fb0ba06c71712818e2c40f3c2141d073e0020da978", func := "loop.example/g01924/laws.FnExactReplicaRead", spec := "fnExactReplicaRead", unfollowed := true, recurses := true, apart := false }
def FnExactReplicaReadSaid : Prop := fnExactReplicaReadRow.holds Try.pinned (OpenSpec.ofChange fnExactReplicaReadSpec)

/-- ITS FALSE NEIGHBOUR: 'it returns false'. Refute it at one input. -/
def fnExactReplicaReadWrong : ChangeSpec := { name := "fnExactReplicaRead", fn := fun _ => fun
  | [d1, d2] => { results := [.lit (.bool false)], args := [d1, d2] }
  | _ => none }
def FnExactReplicaReadWrongFalsely : Prop := fnExactReplicaReadRow.holds Try.pinned (OpenSpec.ofChange fnExactReplicaReadWrong)

/- THE SECOND FORM. 'bulk': how many values and letters a reading holds, each counted each time it is reached (what is shared counts as often as it is met; a slice's spare places count too). A statement '..UptoSaid' is the law's where the arguments, and the package variables that the reading takes, are together of bulk at most 1048576: NARROWER than '..Said'. Prove '..Said' where nothing that the law and all that it calls make is longer than what came in: it says more and counts as full. Else prove '..UptoSaid'. A law counts once. -/
mutual
def uptoBulk {H : Type} : DataW H → Nat
  | .lit (.string bytes) => bytes.length + 1
  | .lit _ => 1
  | .nil => 1
  | .ptr d => uptoBulk d + 1
  | .slice elems spare => uptoBulkAll elems + uptoBulkAll spare + 1
  | .agg parts => uptoBulkAll parts + 1
  | .iface _ d => uptoBulk d + 1
  | .map entries => uptoBulkEntries entries + 1
  | .held _ => 1
def uptoBulkAll {H : Type} : List (DataW H) → Nat
  | [] => 0
  | d :: r => uptoBulk d + uptoBulkAll r
def uptoBulkEntries {H : Type} : List (Lit × DataW H) → Nat
  | [] => 0
  | x :: r => uptoBulkEntry x + uptoBulkEntries r
def uptoBulkEntry {H : Type} : Lit × DataW H → Nat
  | (.string bytes, d) => bytes.length + uptoBulk d + 1
  | (_, d) => uptoBulk d + 1
 end
def uptoSmall : (H : Type) → List (DataW H) → Bool := fun _ ds => decide (uptoBulkAll ds ≤ 1048576)
def OpenSpec.upto (s : _root_.Go.ChangeSpec) : _root_.Go.OpenSpec := { _root_.Go.OpenSpec.ofChange s with cond := some uptoSmall }

/-- 'laws.FnExactEqualReports', WHERE WHAT IT READS IS OF BULK AT MOST 1048576: true; the input reads as it did. -/
def fnExactEqualReportsUptoRow : OpenClaim := { program := "ytehjknclkaobhaa", sum := "ef6384b4dc3944f14bba68fb0ba06c71712818e2c40f3c2141d073e0020da978", func := "loop.example/g01924/laws.FnExactEqualReports", spec := "fnExactEqualReports", apart := false, narrowed := true }
def FnExactEqualReportsUptoSaid : Prop := fnExactEqualReportsUptoRow.holds Try.pinned (OpenSpec.upto fnExactEqualReportsSpec)

/-- 'laws.FnExactNewReplica', WHERE WHAT IT READS IS OF BULK AT MOST 1048576: true; the input reads as it did. -/
def fnExactNewReplicaUptoRow : OpenClaim := { program := "ytehjknclkaobhaa", sum := "ef6384b4dc3944f14bba68fb0ba06c71712818e2c40f3c2141d073e0020da978", func := "loop.example/g01924/laws.FnExactNewReplica", spec := "fnExactNewReplica", apart := false, narrowed := true }
def FnExactNewReplicaUptoSaid : Prop := fnExactNewReplicaUptoRow.holds Try.pinned (OpenSpec.upto fnExactNewReplicaSpec)

/-- 'laws.FnExactEqualReplicas', WHERE WHAT IT READS IS OF BULK AT MOST 1048576: true; the input reads as it did. -/
def fnExactEqualReplicasUptoRow : OpenClaim := { program := "ytehjknclkaobhaa", sum := "ef6384b4dc3944f14bba68fb0ba06c71712818e2c40f3c2141d073e0020da978", func := "loop.example/g01924/laws.FnExactEqualReplicas", spec := "fnExactEqualReplicas", unfollowed := true, recurses := true, apart := false, narrowed := true }
def FnExactEqualReplicasUptoSaid : Prop := fnExactEqualReplicasUptoRow.holds Try.pinned (OpenSpec.upto fnExactEqualReplicasSpec)

/-- 'laws.FnExactIsValidReplica', WHERE WHAT IT READS IS OF BULK AT MOST 1048576: true; the input reads as it did. -/
def fnExactIsValidReplicaUptoRow : OpenClaim := { program := "ytehjknclkaobhaa", sum := "ef6384b4dc3944f14bba68fb0ba06c71712818e2c40f3c2141d073e0020da978", func := "loop.example/g01924/laws.FnExactIsValidReplica", spec := "fnExactIsValidReplica", unfollowed := true, recurses := true, apart := false, narrowed := true }
def FnExactIsValidReplicaUptoSaid : Prop := fnExactIsValidReplicaUptoRow.holds Try.pinned (OpenSpec.upto fnExactIsValidReplicaSpec)

/-- 'laws.FnExactReplicaRead', WHERE WHAT IT READS IS OF BULK AT MOST 1048576: true; the input reads as it did. -/
def fnExactReplicaReadUptoRow : OpenClaim := { program := "ytehjknclkaobhaa", sum := "ef6384b4dc3944f14bba68fb0ba06c71712818e2c40f3c2141d073e0020da978", func := "loop.example/g01924/laws.FnExactReplicaRead", spec := "fnExactReplicaRead", unfollowed := true, recurses := true, apart := false, narrowed := true }
def FnExactReplicaReadUptoSaid : Prop := fnExactReplicaReadUptoRow.holds Try.pinned (OpenSpec.upto fnExactReplicaReadSpec)

end Rows
end Go.Proofs.Ytehjknclkaobhaa
