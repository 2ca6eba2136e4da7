/-
  FnExactApplyRecord: the law's function answers true for all arguments, and its arguments read behind the call as before. No condition.
-/
import Derived.Test.YtaefbkkplgaplaaPlain
import Derived.Test.YtaefbkkplgaplaaRows
namespace Go.Proofs.Ytaefbkkplgaplaa
open Go.ChangeShapes Go.WideShapes Go.ChangeAt Go.RowKit Go.Ab

theorem ownKnobNone : ownKnob Try.prog.godebug = none := by kernel_rfl
theorem laidOutAll : laidOutB Try.prog = true := by kernel_rfl

set_option maxRecDepth 100000 in
theorem law_lifted (os : Os) (started : os.Started) (H : Type) (enc : TypeId × Value → H) :
    ReturnsInHanded {} Try.checked os 5 .any (Rows.fnExactApplyRecordSpec.pre6 enc Try.prog Try.f5 Rows.fnExactApplyRecordRow.domain false) (Rows.fnExactApplyRecordSpec.post enc Try.prog Try.f5 false true false false) :=
  law_true (C := Try.checked) (tb := 4) ownKnobNone started (by kernel_rfl) Try.func5
    (ChangeSpec.witness6 (enc := enc) (C := Try.checked) false ⟨#[], #[.agg #[.slice none 0 0], .agg #[.int .i64 0, .int .i64 0, .int .i64 0, .int .i64 0, .slice none 0 0, .slice none 0 0], .int .i64 0], []⟩ 8 (by kernel_rfl) (by kernel_rfl) (by kernel_rfl) (by kernel_rfl))
    (ts := law_tsA) laws_FnExactApplyRecord_OK laidOutAll (by kernel_rfl) (by kernel_rfl) (by kernel_rfl) Try.underlying4 rfl
    (fun ds h => by
      rw [show Try.f5.params.toList.length = 3 from by kernel_rfl] at h
      match ds, h with
      | [_, _, _], _ => rfl)
    law_ApplyRecord

theorem FnExactApplyRecord_holds : Rows.FnExactApplyRecordSaid :=
  OpenClaim.holds_of_wide 5 Try.f5 rfl rfl rfl rfl rfl rfl rfl ⟨rfl, rfl, rfl, rfl, rfl⟩ rfl rfl rfl rfl rfl (by kernel_rfl) Try.func5 (by kernel_rfl)
    (of_decide_eq_true (by kernel_rfl)) (by unfold Func.isWrapper; first | (rw [if_pos (by decide +kernel)]; kernel_rfl) | (rw [if_neg (by decide +kernel)]; exact ⟨rfl, rfl⟩))
    (fun os started H enc _ => law_lifted os started H enc)

#print axioms FnExactApplyRecord_holds
end Go.Proofs.Ytaefbkkplgaplaa
