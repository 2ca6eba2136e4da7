/-
  FnExactRefusedIDs: the law's function answers true for all arguments, and its arguments read behind the call as C1. No condition.
-/
import Derived.Test.YtchkllapojehpaaGreatP2
import Derived.Test.YtchkllapojehpaaGreatClo
import Derived.Test.YtchkllapojehpaaGreatRows
set_option linter.all false
namespace Go.Proofs.YtchkllapojehpaaGreat
open Go.ChangeShapes Go.WideShapes Go.ChangeAt Go.RowKit Go.Ab
theorem ownKnobNone:ownKnob Tryz.prog.godebug=none:=by kernel_rfl
theorem laidOutAll:laidOutB Tryz.prog=true:=by kernel_rfl
set_option maxRecDepth 100000 in
theorem law_lifted (os:Os)(started:os.Started)(H:Type)(enc:TypeId×Value->H):
 ReturnsInHanded {} Tryz.checked os 4 .any (Rows.fnExactRefusedIDsSpec.pre6 enc Tryz.prog Tryz.f4 Rows.fnExactRefusedIDsRow.domain false) (Rows.fnExactRefusedIDsSpec.post enc Tryz.prog Tryz.f4 false true false false):=
 gk (C:=Tryz.checked) (tb:=4) ownKnobNone started (by kernel_rfl) Tryz.func4
  (ChangeSpec.witness6 (enc:=enc) (C:=Tryz.checked) false ⟨#[],#[.slice none 0 0],[]⟩ 8 (by kernel_rfl) (by kernel_rfl) (by kernel_rfl) (by kernel_rfl))
  (ts:=law_tsRI) laws_FnExactRefusedIDs_OK laidOutAll (by kernel_rfl) (by kernel_rfl) (by kernel_rfl) Tryz.underlying4 rfl
  (fun ds h=>by
    rw[show Tryz.f4.params.toList.length=1 from by kernel_rfl]at h
    match ds,h with
    |[_],_=>rfl)
  law_RefusedIDs
theorem FnExactRefusedIDs_holds:Rows.FnExactRefusedIDsSaid:=
 OpenClaim.holds_of_wide 4 Tryz.f4 rfl rfl rfl rfl rfl rfl rfl ⟨rfl,rfl,rfl,rfl,rfl⟩ rfl rfl rfl rfl rfl (by kernel_rfl) Tryz.func4 closed
  (of_decide_eq_true (by kernel_rfl)) (by unfold Func.isWrapper;first|(rw[if_pos (by decide+kernel)];kernel_rfl)|(rw[if_neg (by decide+kernel)];exact⟨rfl,rfl⟩))
  (fun os started H enc _=>law_lifted os started H enc)
#print axioms FnExactRefusedIDs_holds
end Go.Proofs.YtchkllapojehpaaGreat
