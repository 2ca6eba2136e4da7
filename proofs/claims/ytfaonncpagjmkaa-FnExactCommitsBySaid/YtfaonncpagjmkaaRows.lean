/-
  No cell of these rows narrows 'for every input' (looked for: loops, veiled, ifaces, maps, wideKeys, modest, calm, conditions, laid).
  DERIVED. THE GIVEN ROWS OF THIS SEAT. 3 by the template 'for every input the law returns true; each argument reads behind the call as it read before'; 0 by the template 'total and deterministic' (their statements: YtfaonncpagjmkaaTotals.lean).
  GIVEN WITH THE SEED: the statements are not yours to turn. If you find one false, say at which input.
  Laid BY PROGRAM, IN A SANDBOX (cutbox-rows.mjs): the forced cells as the released guide's own fill.sh prints them over the translation 9fb440f3dfb029d6… (all of the seat's roots in one cut). By AI agents, Wed Nov 11 2026. No macro, syntax, notation, axiom, sorry.
-/
import Derived.Test.YtfaonncpagjmkaaChecked
import GoSem.Claim
import GoSem.ClaimJoined
import GoSem.ClaimMapViews
import Derived.JoinedTies
import Derived.KernelRfl
namespace Go.Proofs.Ytfaonncpagjmkaa
/- THE CELL 'sum', in the pinned program and in every row, IS THE sha256 OF THE DUMP (.gsa) THAT YtfaonncpagjmkaaProg.lean LOADS. Nothing in Lean hashes anything: it is a label: what it is worth is what the hold of that sum in a sandbox is worth. -/
noncomputable def Try.pinned : Pinned := { name := "ytfaonncpagjmkaa", sum := "9fb440f3dfb029d63ac5f70dbc63353e72037bc7f464879cc97e7cd69fc9225b", checked := Try.checked }
namespace Rows
def none {H : Type} : Left H := { results := [], args := [] }

/-- 'laws.FnExactAbortsBy': WHATEVER THE INPUT: true; the input reads as it did. -/
def fnExactAbortsBySpec : ChangeSpec := { name := "fnExactAbortsBy", fn := fun _ => fun
  | [d1, d2] => { results := [.lit (.bool true)], args := [d1, d2] }
  | _ => none }
def fnExactAbortsByRow : OpenClaim := { program := "ytfaonncpagjmkaa", sum := "9fb440f3dfb029d63ac5f70dbc63353e72037bc7f464879cc97e7cd69fc9225b", func := "loop.example/g01924/laws.FnExactAbortsBy", spec := "fnExactAbortsBy", apart := false }
def FnExactAbortsBySaid : Prop := fnExactAbortsByRow.holds Try.pinned (OpenSpec.ofChange fnExactAbortsBySpec)

/-- ITS FALSE NEIGHBOUR: 'it returns false'. Refute it at one input. -/
def fnExactAbortsByWrong : ChangeSpec := { name := "fnExactAbortsBy", fn := fun _ => fun
  | [d1, d2] => { results := [.lit (.bool false)], args := [d1, d2] }
  | _ => none }
def FnExactAbortsByWrongFalsely : Prop := fnExactAbortsByRow.holds Try.pinned (OpenSpec.ofChange fnExactAbortsByWrong)

/-- 'laws.FnExactCommitsBy': WHATEVER THE INPUT: true; the input reads as it did. -/
def fnExactCommitsBySpec : ChangeSpec := { name := "fnExactCommitsBy", fn := fun _ => fun
  | [d1, d2] => { results := [.lit (.bool true)], args := [d1, d2] }
  | _ => none }
def fnExactCommitsByRow : OpenClaim := { program := "ytfaonncpagjmkaa", sum := "9fb440f3dfb029d63ac5f70dbc63353e72037bc7f464879cc97e7cd69fc9225b", func := "loop.example/g01924/laws.FnExactCommitsBy", spec := "fnExactCommitsBy", apart := false }
def FnExactCommitsBySaid : Prop := fnExactCommitsByRow.holds Try.pinned (OpenSpec.ofChange fnExactCommitsBySpec)

/-- ITS FALSE NEIGHBOUR: 'it returns false'. Refute it at one input. -/
def fnExactCommitsByWrong : ChangeSpec := { name := "fnExactCommitsBy", fn := fun _ => fun
  | [d1, d2] => { results := [.lit (.bool false)], args := [d1, d2] }
  | _ => none }
def FnExactCommitsByWrongFalsely : Prop := fnExactCommitsByRow.holds Try.pinned (OpenSpec.ofChange fnExactCommitsByWrong)

/-- 'laws.FnExactWindowSum': WHATEVER THE INPUT: true; the input reads as it did. -/
def fnExactWindowSumSpec : ChangeSpec := { name := "fnExactWindowSum", fn := fun _ => fun
  | [d] => { results := [.lit (.bool true)], args := [d] }
  | _ => none }
def fnExactWindowSumRow : OpenClaim := { program := "ytfaonncpagjmkaa", sum := "9fb440f3dfb029d63ac5f70dbc63353e72037bc7f464879cc97e7cd69fc9225b", func := "loop.example/g01924/laws.FnExactWindowSum", spec := "fnExactWindowSum", unfollowed := true, recurses := true, apart := false }
def FnExactWindowSumSaid : Prop := fnExactWindowSumRow.holds Try.pinned (OpenSpec.ofChange fnExactWindowSumSpec)

/-- ITS FALSE NEIGHBOUR: 'it returns false'. Refute it at one input. -/
def fnExactWindowSumWrong : ChangeSpec := { name := "fnExactWindowSum", fn := fun _ => fun
  | [d] => { results := [.lit (.bool false)], args := [d] }
  | _ => none }
def FnExactWindowSumWrongFalsely : Prop := fnExactWindowSumRow.holds Try.pinned (OpenSpec.ofChange fnExactWindowSumWrong)

/- THE SECOND FORM. 'bulk': how many values and letters a reading holds, each counted each time it is reached (what is shared counts as often as it is met; a slice's spare places count too). A statement '..UptoSaid' is the law's where the arguments, and the package variables that the reading takes, are together of bulk at most 1048576: NARROWER than '..Said'. Prove '..Said' where nothing that the law and all that it calls make is longer than what came in: it says more and counts as full. Else prove '..UptoSaid'. A law counts once. -/
mutual
def uptoBulk {H : Type} : DataW H → Nat
  | .lit (.string bytes) => bytes.length + 1
  | .lit _ => 1
  | .nil => 1
  | .ptr d => uptoBulk d + 1
  | .slice elems spare => uptoBulkAll elems + uptoBulkAll spare + 1
  | .agg parts => uptoBulkAll parts + 1
  | .iface _ d => uptoBulk d + 1
  | .map entries => uptoBulkEntries entries + 1
  | .held _ => 1
def uptoBulkAll {H : Type} : List (DataW H) → Nat
  | [] => 0
  | d :: r => uptoBulk d + uptoBulkAll r
def uptoBulkEntries {H : Type} : List (Lit × DataW H) → Nat
  | [] => 0
  | x :: r => uptoBulkEntry x + uptoBulkEntries r
def uptoBulkEntry {H : Type} : Lit × DataW H → Nat
  | (.string bytes, d) => bytes.length + uptoBulk d + 1
  | (_, d) => uptoBulk d + 1
 end
def uptoSmall : (H : Type) → List (DataW H) → Bool := fun _ ds => decide (uptoBulkAll ds ≤ 1048576)
def OpenSpec.upto (s : _root_.Go.ChangeSpec) : _root_.Go.OpenSpec := { _root_.Go.OpenSpec.ofChange s with cond := some uptoSmall }

/-- 'laws.FnExactAbortsBy', WHERE WHAT IT READS IS OF BULK AT MOST 1048576: true; the input reads as it did. -/
def fnExactAbortsByUptoRow : OpenClaim := { program := "ytfaonncpagjmkaa", sum := "9fb440f3dfb029d63ac5f70dbc63353e72037bc7f464879cc97e7cd69fc9225b", func := "loop.example/g01924/laws.FnExactAbortsBy", spec := "fnExactAbortsBy", apart := false, narrowed := true }
def FnExactAbortsByUptoSaid : Prop := fnExactAbortsByUptoRow.holds Try.pinned (OpenSpec.upto fnExactAbortsBySpec)

/-- 'laws.FnExactCommitsBy', WHERE WHAT IT READS IS OF BULK AT MOST 1048576: true; the input reads as it did. -/
def fnExactCommitsByUptoRow : OpenClaim := { program := "ytfaonncpagjmkaa", sum := "9fb440f3dfb029d63ac5f70dbc63353e72037bc7f464879cc97e7cd69fc9225b", func := "loop.example/g01924/laws.FnExactCommitsBy", spec := "fnExactCommitsBy", apart := false, narrowed := true }
def FnExactCommitsByUptoSaid : Prop := fnExactCommitsByUptoRow.holds Try.pinned (OpenSpec.upto fnExactCommitsBySpec)

/-- 'laws.FnExactWindowSum', WHERE WHAT IT READS IS OF BULK AT MOST 1048576: true; the input reads as it did. -/
def fnExactWindowSumUptoRow : OpenClaim := { program := "ytfaonncpagjmkaa", sum := "9fb440f3dfb029d63ac5f70dbc63353e72037bc7f464879cc97e7cd69fc9225b", func := "loop.example/g01924/laws.FnExactWindowSum", spec := "fnExactWindowSum", unfollowed := true, recurses := true, apart := false, narrowed := true }
def FnExactWindowSumUptoSaid : Prop := fnExactWindowSumUptoRow.holds Try.pinned (OpenSpec.upto fnExactWindowSumSpec)

end Rows
end Go.Proofs.Ytfaonncpagjmkaa
