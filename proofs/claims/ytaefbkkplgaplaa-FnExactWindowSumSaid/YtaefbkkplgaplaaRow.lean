/-
  FnExactWindowSum: the law's function answers true for all arguments, and its arguments read behind the call as before. No condition.
-/
import Derived.Test.YtaefbkkplgaplaaPlain
import Derived.Test.YtaefbkkplgaplaaRows
namespace Go.Proofs.Ytaefbkkplgaplaa
open Go.ChangeShapes Go.WideShapes Go.ChangeAt Go.RowKit Go.Ab

theorem ownKnobNone : ownKnob Try.prog.godebug = none := by kernel_rfl
theorem laidOutAll : laidOutB Try.prog = true := by kernel_rfl

set_option maxRecDepth 100000 in
theorem law_lifted (os : Os) (started : os.Started) (H : Type) (enc : TypeId × Value → H) :
    ReturnsInHanded {} Try.checked os 7 .any (Rows.fnExactWindowSumSpec.pre6 enc Try.prog Try.f7 Rows.fnExactWindowSumRow.domain false) (Rows.fnExactWindowSumSpec.post enc Try.prog Try.f7 false true false false) :=
  law_true (C := Try.checked) (tb := 4) ownKnobNone started (by kernel_rfl) Try.func7
    (ChangeSpec.witness6 (enc := enc) (C := Try.checked) false ⟨#[], #[.agg #[.bool false, .slice none 0 0, .slice none 0 0, .slice none 0 0, .slice none 0 0, .int .i64 0]], []⟩ 8 (by kernel_rfl) (by kernel_rfl) (by kernel_rfl) (by kernel_rfl))
    (ts := law_tsW) laws_FnExactWindowSum_OK laidOutAll (by kernel_rfl) (by kernel_rfl) (by kernel_rfl) Try.underlying4 rfl
    (fun ds h => by
      rw [show Try.f7.params.toList.length = 1 from by kernel_rfl] at h
      match ds, h with
      | [_], _ => rfl)
    law_WindowSum

theorem FnExactWindowSum_holds : Rows.FnExactWindowSumSaid :=
  OpenClaim.holds_of_wide 7 Try.f7 rfl rfl rfl rfl rfl rfl rfl ⟨rfl, rfl, rfl, rfl, rfl⟩ rfl rfl rfl rfl rfl (by kernel_rfl) Try.func7 (by kernel_rfl)
    (of_decide_eq_true (by kernel_rfl)) (by unfold Func.isWrapper; first | (rw [if_pos (by decide +kernel)]; kernel_rfl) | (rw [if_neg (by decide +kernel)]; exact ⟨rfl, rfl⟩))
    (fun os started H enc _ => law_lifted os started H enc)

#print axioms FnExactWindowSum_holds
end Go.Proofs.Ytaefbkkplgaplaa
