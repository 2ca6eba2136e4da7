/-
  No cell of these rows narrows 'for every input' (looked for: loops, veiled, ifaces, maps, wideKeys, modest, calm, conditions, laid).
  DERIVED. THE GIVEN ROWS OF THIS SEAT. 6 by the template 'for every input the law returns true; each argument reads behind the call as it read before'; 0 by the template 'total and deterministic' (their statements: YtchkllapojehpaaGreatTotals.lean).
  GIVEN WITH THE SEED: the statements are not yours to turn. If you find one false, say at which input.
  Laid BY PROGRAM, IN A SANDBOX (cutbox-rows.mjs): the forced cells as the released guide's own fill.sh prints them over the translation 987be6f03eb73070… (all of the seat's roots in one cut). By AI agents, Wed Nov 11 2026. No macro, syntax, notation, axiom, sorry.
-/
import Derived.Test.YtchkllapojehpaaGreatChecked
import GoSem.Claim
import GoSem.ClaimJoined
import GoSem.ClaimMapViews
import Derived.JoinedTies
import Derived.KernelRfl
namespace Go.Proofs.YtchkllapojehpaaGreat
/- THE CELL 'sum', in the pinned program and in every row, IS THE sha256 OF THE DUMP (.gsa) THAT YtchkllapojehpaaGreatProg.lean LOADS. Nothing in Lean hashes anything: it is a label: what it is worth is what the hold of that sum in a sandbox is worth. -/
noncomputable def Tryz.pinned : Pinned := { name := "ytchkllapojehpaagreat", sum := "987be6f03eb73070e34d838b1b3e40064b2f77625c04396da56df107b71020d5", checked := Tryz.checked }
namespace Rows
def none {H : Type} : Left H := { results := [], args := [] }

/-- 'laws.FnExactStepEngine': WHATEVER THE INPUT: true; the input reads as it did. -/
def fnExactStepEngineSpec : ChangeSpec := { name := "fnExactStepEngine", fn := fun _ => fun
  | [d1, d2] => { results := [.lit (.bool true)], args := [d1, d2] }
  | _ => none }
def fnExactStepEngineRow : OpenClaim := { program := "ytchkllapojehpaagreat", sum := "987be6f03eb73070e34d838b1b3e40064b2f77625c04396da56df107b71020d5", func := "loop.example/g01924/laws.FnExactStepEngine", spec := "fnExactStepEngine", inPlace := ["slices.overlaps[loop.example/g01924/impl.Transaction]", "slices.overlaps[loop.example/g01924/impl.ReadMark]", "slices.overlaps[loop.example/g01924/impl.Wait]", "slices.overlaps[loop.example/g01924/impl.Lock]", "slices.overlaps[loop.example/g01924/impl.Write]"], unfollowed := true, recurses := true, apart := false }
def FnExactStepEngineSaid : Prop := fnExactStepEngineRow.holds Tryz.pinned (OpenSpec.ofChange fnExactStepEngineSpec)

/-- ITS FALSE NEIGHBOUR: 'it returns false'. Refute it at one input. -/
def fnExactStepEngineWrong : ChangeSpec := { name := "fnExactStepEngine", fn := fun _ => fun
  | [d1, d2] => { results := [.lit (.bool false)], args := [d1, d2] }
  | _ => none }
def FnExactStepEngineWrongFalsely : Prop := fnExactStepEngineRow.holds Tryz.pinned (OpenSpec.ofChange fnExactStepEngineWrong)

/-- 'laws.FnExactRefusedIDs': WHATEVER THE INPUT: true; the input reads as it did. -/
def fnExactRefusedIDsSpec : ChangeSpec := { name := "fnExactRefusedIDs", fn := fun _ => fun
  | [d] => { results := [.lit (.bool true)], args := [d] }
  | _ => none }
def fnExactRefusedIDsRow : OpenClaim := { program := "ytchkllapojehpaagreat", sum := "987be6f03eb73070e34d838b1b3e40064b2f77625c04396da56df107b71020d5", func := "loop.example/g01924/laws.FnExactRefusedIDs", spec := "fnExactRefusedIDs", inPlace := ["slices.overlaps[loop.example/g01924/impl.Transaction]", "slices.overlaps[loop.example/g01924/impl.ReadMark]", "slices.overlaps[loop.example/g01924/impl.Wait]", "slices.overlaps[loop.example/g01924/impl.Lock]", "slices.overlaps[loop.example/g01924/impl.Write]"], unfollowed := true, recurses := true, apart := false }
def FnExactRefusedIDsSaid : Prop := fnExactRefusedIDsRow.holds Tryz.pinned (OpenSpec.ofChange fnExactRefusedIDsSpec)

/-- ITS FALSE NEIGHBOUR: 'it returns false'. Refute it at one input. -/
def fnExactRefusedIDsWrong : ChangeSpec := { name := "fnExactRefusedIDs", fn := fun _ => fun
  | [d] => { results := [.lit (.bool false)], args := [d] }
  | _ => none }
def FnExactRefusedIDsWrongFalsely : Prop := fnExactRefusedIDsRow.holds Tryz.pinned (OpenSpec.ofChange fnExactRefusedIDsWrong)

/-- 'laws.FnExactRunOps': WHATEVER THE INPUT: true; the input reads as it did. -/
def fnExactRunOpsSpec : ChangeSpec := { name := "fnExactRunOps", fn := fun _ => fun
  | [d1, d2] => { results := [.lit (.bool true)], args := [d1, d2] }
  | _ => none }
def fnExactRunOpsRow : OpenClaim := { program := "ytchkllapojehpaagreat", sum := "987be6f03eb73070e34d838b1b3e40064b2f77625c04396da56df107b71020d5", func := "loop.example/g01924/laws.FnExactRunOps", spec := "fnExactRunOps", inPlace := ["slices.overlaps[loop.example/g01924/impl.Transaction]", "slices.overlaps[loop.example/g01924/impl.ReadMark]", "slices.overlaps[loop.example/g01924/impl.Wait]", "slices.overlaps[loop.example/g01924/impl.Lock]", "slices.overlaps[loop.example/g01924/impl.Write]"], unfollowed := true, recurses := true, apart := false }
def FnExactRunOpsSaid : Prop := fnExactRunOpsRow.holds Tryz.pinned (OpenSpec.ofChange fnExactRunOpsSpec)

/-- ITS FALSE NEIGHBOUR: 'it returns false'. Refute it at one input. -/
def fnExactRunOpsWrong : ChangeSpec := { name := "fnExactRunOps", fn := fun _ => fun
  | [d1, d2] => { results := [.lit (.bool false)], args := [d1, d2] }
  | _ => none }
def FnExactRunOpsWrongFalsely : Prop := fnExactRunOpsRow.holds Tryz.pinned (OpenSpec.ofChange fnExactRunOpsWrong)

/-- 'laws.FnExactRunFair': WHATEVER THE INPUT: true; the input reads as it did. -/
def fnExactRunFairSpec : ChangeSpec := { name := "fnExactRunFair", fn := fun _ => fun
  | [d1, d2] => { results := [.lit (.bool true)], args := [d1, d2] }
  | _ => none }
def fnExactRunFairRow : OpenClaim := { program := "ytchkllapojehpaagreat", sum := "987be6f03eb73070e34d838b1b3e40064b2f77625c04396da56df107b71020d5", func := "loop.example/g01924/laws.FnExactRunFair", spec := "fnExactRunFair", inPlace := ["slices.overlaps[loop.example/g01924/impl.Transaction]", "slices.overlaps[loop.example/g01924/impl.ReadMark]", "slices.overlaps[loop.example/g01924/impl.Wait]", "slices.overlaps[loop.example/g01924/impl.Lock]", "slices.overlaps[loop.example/g01924/impl.Write]"], unfollowed := true, recurses := true, apart := false }
def FnExactRunFairSaid : Prop := fnExactRunFairRow.holds Tryz.pinned (OpenSpec.ofChange fnExactRunFairSpec)

/-- ITS FALSE NEIGHBOUR: 'it returns false'. Refute it at one input. -/
def fnExactRunFairWrong : ChangeSpec := { name := "fnExactRunFair", fn := fun _ => fun
  | [d1, d2] => { results := [.lit (.bool false)], args := [d1, d2] }
  | _ => none }
def FnExactRunFairWrongFalsely : Prop := fnExactRunFairRow.holds Tryz.pinned (OpenSpec.ofChange fnExactRunFairWrong)

/-- 'laws.FnExactRunSerially': WHATEVER THE INPUT: true; the input reads as it did. -/
def fnExactRunSeriallySpec : ChangeSpec := { name := "fnExactRunSerially", fn := fun _ => fun
  | [d] => { results := [.lit (.bool true)], args := [d] }
  | _ => none }
def fnExactRunSeriallyRow : OpenClaim := { program := "ytchkllapojehpaagreat", sum := "987be6f03eb73070e34d838b1b3e40064b2f77625c04396da56df107b71020d5", func := "loop.example/g01924/laws.FnExactRunSerially", spec := "fnExactRunSerially", inPlace := ["slices.overlaps[loop.example/g01924/impl.Transaction]", "slices.overlaps[loop.example/g01924/impl.ReadMark]", "slices.overlaps[loop.example/g01924/impl.Wait]", "slices.overlaps[loop.example/g01924/impl.Lock]", "slices.overlaps[loop.example/g01924/impl.Write]"], unfollowed := true, recurses := true, apart := false }
def FnExactRunSeriallySaid : Prop := fnExactRunSeriallyRow.holds Tryz.pinned (OpenSpec.ofChange fnExactRunSeriallySpec)

/-- ITS FALSE NEIGHBOUR: 'it returns false'. Refute it at one input. -/
def fnExactRunSeriallyWrong : ChangeSpec := { name := "fnExactRunSerially", fn := fun _ => fun
  | [d] => { results := [.lit (.bool false)], args := [d] }
  | _ => none }
def FnExactRunSeriallyWrongFalsely : Prop := fnExactRunSeriallyRow.holds Tryz.pinned (OpenSpec.ofChange fnExactRunSeriallyWrong)

/-- 'laws.FnExactRunAlone': WHATEVER THE INPUT: true; the input reads as it did. -/
def fnExactRunAloneSpec : ChangeSpec := { name := "fnExactRunAlone", fn := fun _ => fun
  | [d1, d2] => { results := [.lit (.bool true)], args := [d1, d2] }
  | _ => none }
def fnExactRunAloneRow : OpenClaim := { program := "ytchkllapojehpaagreat", sum := "987be6f03eb73070e34d838b1b3e40064b2f77625c04396da56df107b71020d5", func := "loop.example/g01924/laws.FnExactRunAlone", spec := "fnExactRunAlone", inPlace := ["slices.overlaps[loop.example/g01924/impl.Transaction]", "slices.overlaps[loop.example/g01924/impl.ReadMark]", "slices.overlaps[loop.example/g01924/impl.Wait]", "slices.overlaps[loop.example/g01924/impl.Lock]", "slices.overlaps[loop.example/g01924/impl.Write]"], unfollowed := true, recurses := true, apart := false }
def FnExactRunAloneSaid : Prop := fnExactRunAloneRow.holds Tryz.pinned (OpenSpec.ofChange fnExactRunAloneSpec)

/-- ITS FALSE NEIGHBOUR: 'it returns false'. Refute it at one input. -/
def fnExactRunAloneWrong : ChangeSpec := { name := "fnExactRunAlone", fn := fun _ => fun
  | [d1, d2] => { results := [.lit (.bool false)], args := [d1, d2] }
  | _ => none }
def FnExactRunAloneWrongFalsely : Prop := fnExactRunAloneRow.holds Tryz.pinned (OpenSpec.ofChange fnExactRunAloneWrong)

/- THE SECOND FORM. 'bulk': how many values and letters a reading holds, each counted each time it is reached (what is shared counts as often as it is met; a slice's spare places count too). A statement '..UptoSaid' is the law's where the arguments, and the package variables that the reading takes, are together of bulk at most 1048576: NARROWER than '..Said'. Prove '..Said' where nothing that the law and all that it calls make is longer than what came in: it says more and counts as full. Else prove '..UptoSaid'. A law counts once. -/
mutual
def uptoBulk {H : Type} : DataW H → Nat
  | .lit (.string bytes) => bytes.length + 1
  | .lit _ => 1
  | .nil => 1
  | .ptr d => uptoBulk d + 1
  | .slice elems spare => uptoBulkAll elems + uptoBulkAll spare + 1
  | .agg parts => uptoBulkAll parts + 1
  | .iface _ d => uptoBulk d + 1
  | .map entries => uptoBulkEntries entries + 1
  | .held _ => 1
def uptoBulkAll {H : Type} : List (DataW H) → Nat
  | [] => 0
  | d :: r => uptoBulk d + uptoBulkAll r
def uptoBulkEntries {H : Type} : List (Lit × DataW H) → Nat
  | [] => 0
  | x :: r => uptoBulkEntry x + uptoBulkEntries r
def uptoBulkEntry {H : Type} : Lit × DataW H → Nat
  | (.string bytes, d) => bytes.length + uptoBulk d + 1
  | (_, d) => uptoBulk d + 1
 end
def uptoSmall : (H : Type) → List (DataW H) → Bool := fun _ ds => decide (uptoBulkAll ds ≤ 1048576)
def OpenSpec.upto (s : _root_.Go.ChangeSpec) : _root_.Go.OpenSpec := { _root_.Go.OpenSpec.ofChange s with cond := some uptoSmall }

/-- 'laws.FnExactStepEngine', WHERE WHAT IT READS IS OF BULK AT MOST 1048576: true; the input reads as it did. -/
def fnExactStepEngineUptoRow : OpenClaim := { program := "ytchkllapojehpaagreat", sum := "987be6f03eb73070e34d838b1b3e40064b2f77625c04396da56df107b71020d5", func := "loop.example/g01924/laws.FnExactStepEngine", spec := "fnExactStepEngine", inPlace := ["slices.overlaps[loop.example/g01924/impl.Transaction]", "slices.overlaps[loop.example/g01924/impl.ReadMark]", "slices.overlaps[loop.example/g01924/impl.Wait]", "slices.overlaps[loop.example/g01924/impl.Lock]", "slices.overlaps[loop.example/g01924/impl.Write]"], unfollowed := true, recurses := true, apart := false, narrowed := true }
def FnExactStepEngineUptoSaid : Prop := fnExactStepEngineUptoRow.holds Tryz.pinned (OpenSpec.upto fnExactStepEngineSpec)

/-- 'laws.FnExactRefusedIDs', WHERE WHAT IT READS IS OF BULK AT MOST 1048576: true; the input reads as it did. -/
def fnExactRefusedIDsUptoRow : OpenClaim := { program := "ytchkllapojehpaagreat", sum := "987be6f03eb73070e34d838b1b3e40064b2f77625c04396da56df107b71020d5", func := "loop.example/g01924/laws.FnExactRefusedIDs", spec := "fnExactRefusedIDs", inPlace := ["slices.overlaps[loop.example/g01924/impl.Transaction]", "slices.overlaps[loop.example/g01924/impl.ReadMark]", "slices.overlaps[loop.example/g01924/impl.Wait]", "slices.overlaps[loop.example/g01924/impl.Lock]", "slices.overlaps[loop.example/g01924/impl.Write]"], unfollowed := true, recurses := true, apart := false, narrowed := true }
def FnExactRefusedIDsUptoSaid : Prop := fnExactRefusedIDsUptoRow.holds Tryz.pinned (OpenSpec.upto fnExactRefusedIDsSpec)

/-- 'laws.FnExactRunOps', WHERE WHAT IT READS IS OF BULK AT MOST 1048576: true; the input reads as it did. -/
def fnExactRunOpsUptoRow : OpenClaim := { program := "ytchkllapojehpaagreat", sum := "987be6f03eb73070e34d838b1b3e40064b2f77625c04396da56df107b71020d5", func := "loop.example/g01924/laws.FnExactRunOps", spec := "fnExactRunOps", inPlace := ["slices.overlaps[loop.example/g01924/impl.Transaction]", "slices.overlaps[loop.example/g01924/impl.ReadMark]", "slices.overlaps[loop.example/g01924/impl.Wait]", "slices.overlaps[loop.example/g01924/impl.Lock]", "slices.overlaps[loop.example/g01924/impl.Write]"], unfollowed := true, recurses := true, apart := false, narrowed := true }
def FnExactRunOpsUptoSaid : Prop := fnExactRunOpsUptoRow.holds Tryz.pinned (OpenSpec.upto fnExactRunOpsSpec)

/-- 'laws.FnExactRunFair', WHERE WHAT IT READS IS OF BULK AT MOST 1048576: true; the input reads as it did. -/
def fnExactRunFairUptoRow : OpenClaim := { program := "ytchkllapojehpaagreat", sum := "987be6f03eb73070e34d838b1b3e40064b2f77625c04396da56df107b71020d5", func := "loop.example/g01924/laws.FnExactRunFair", spec := "fnExactRunFair", inPlace := ["slices.overlaps[loop.example/g01924/impl.Transaction]", "slices.overlaps[loop.example/g01924/impl.ReadMark]", "slices.overlaps[loop.example/g01924/impl.Wait]", "slices.overlaps[loop.example/g01924/impl.Lock]", "slices.overlaps[loop.example/g01924/impl.Write]"], unfollowed := true, recurses := true, apart := false, narrowed := true }
def FnExactRunFairUptoSaid : Prop := fnExactRunFairUptoRow.holds Tryz.pinned (OpenSpec.upto fnExactRunFairSpec)

/-- 'laws.FnExactRunSerially', WHERE WHAT IT READS IS OF BULK AT MOST 1048576: true; the input reads as it did. -/
def fnExactRunSeriallyUptoRow : OpenClaim := { program := "ytchkllapojehpaagreat", sum := "987be6f03eb73070e34d838b1b3e40064b2f77625c04396da56df107b71020d5", func := "loop.example/g01924/laws.FnExactRunSerially", spec := "fnExactRunSerially", inPlace := ["slices.overlaps[loop.example/g01924/impl.Transaction]", "slices.overlaps[loop.example/g01924/impl.ReadMark]", "slices.overlaps[loop.example/g01924/impl.Wait]", "slices.overlaps[loop.example/g01924/impl.Lock]", "slices.overlaps[loop.example/g01924/impl.Write]"], unfollowed := true, recurses := true, apart := false, narrowed := true }
def FnExactRunSeriallyUptoSaid : Prop := fnExactRunSeriallyUptoRow.holds Tryz.pinned (OpenSpec.upto fnExactRunSeriallySpec)

/-- 'laws.FnExactRunAlone', WHERE WHAT IT READS IS OF BULK AT MOST 1048576: true; the input reads as it did. -/
def fnExactRunAloneUptoRow : OpenClaim := { program := "ytchkllapojehpaagreat", sum := "987be6f03eb73070e34d838b1b3e40064b2f77625c04396da56df107b71020d5", func := "loop.example/g01924/laws.FnExactRunAlone", spec := "fnExactRunAlone", inPlace := ["slices.overlaps[loop.example/g01924/impl.Transaction]", "slices.overlaps[loop.example/g01924/impl.ReadMark]", "slices.overlaps[loop.example/g01924/impl.Wait]", "slices.overlaps[loop.example/g01924/impl.Lock]", "slices.overlaps[loop.example/g01924/impl.Write]"], unfollowed := true, recurses := true, apart := false, narrowed := true }
def FnExactRunAloneUptoSaid : Prop := fnExactRunAloneUptoRow.holds Tryz.pinned (OpenSpec.upto fnExactRunAloneSpec)

end Rows
end Go.Proofs.YtchkllapojehpaaGreat
