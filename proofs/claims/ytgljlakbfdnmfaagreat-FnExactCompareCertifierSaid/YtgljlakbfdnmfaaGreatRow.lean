/-
  FnExactCompareCertifier: the law's function answers true for all arguments, and its arguments read behind the call as CC. No condition.
-/
import Derived.Test.YtgljlakbfdnmfaaGreatP2
import Derived.Test.YtgljlakbfdnmfaaGreatClo
import Derived.Test.YtgljlakbfdnmfaaGreatRows
set_option linter.all false
namespace Go.Proofs.YtgljlakbfdnmfaaGreat
open Go.ChangeShapes Go.WideShapes Go.ChangeAt Go.RowKit Go.Ab
theorem ownKnobNone:ownKnob Tryz.prog.godebug=none:=by kernel_rfl
theorem laidOutAll:laidOutB Tryz.prog=true:=by kernel_rfl
set_option maxRecDepth 100000 in
theorem law_lifted (os:Os)(started:os.Started)(H:Type)(enc:TypeId×Value->H):
 ReturnsInHanded {} Tryz.checked os 3 .any (Rows.fnExactCompareCertifierSpec.pre6 enc Tryz.prog Tryz.f3 Rows.fnExactCompareCertifierRow.domain false) (Rows.fnExactCompareCertifierSpec.post enc Tryz.prog Tryz.f3 false true false false):=
 A7g (C:=Tryz.checked) (tb:=4) ownKnobNone started (by kernel_rfl) Tryz.func3
  (ChangeSpec.witness6 (enc:=enc) (C:=Tryz.checked) false ⟨#[],#[.slice none 0 0],[]⟩ 8 (by kernel_rfl) (by kernel_rfl) (by kernel_rfl) (by kernel_rfl))
  (ts:=law_tsCC) laws_FnExactCompareCertifier_OK laidOutAll (by kernel_rfl) (by kernel_rfl) (by kernel_rfl) Tryz.underlying4 rfl
  (fun ds h=>by
    rw[show Tryz.f3.params.toList.length=1 from by kernel_rfl]at h
    match ds,h with
    |[_],_=>rfl)
  law_CompareCertifier
theorem FnExactCompareCertifier_holds:Rows.FnExactCompareCertifierSaid:=
 OpenClaim.holds_of_wide 3 Tryz.f3 rfl rfl rfl rfl rfl rfl rfl ⟨rfl,rfl,rfl,rfl,rfl⟩ rfl rfl rfl rfl rfl (by kernel_rfl) Tryz.func3 closed
  (of_decide_eq_true (by kernel_rfl)) (by unfold Func.isWrapper;first|(rw[if_pos (by decide+kernel)];kernel_rfl)|(rw[if_neg (by decide+kernel)];exact⟨rfl,rfl⟩))
  (fun os started H enc _=>law_lifted os started H enc)
#print axioms FnExactCompareCertifier_holds
end Go.Proofs.YtgljlakbfdnmfaaGreat
