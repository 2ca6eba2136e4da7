/-
  FnExactFeedReplica: the law's function answers true for all arguments, and its arguments read behind the call as before. No condition.
-/
import Derived.Test.YtaefbkkplgaplaaPlain
import Derived.Test.YtaefbkkplgaplaaRows
namespace Go.Proofs.Ytaefbkkplgaplaa
open Go.ChangeShapes Go.WideShapes Go.ChangeAt Go.RowKit Go.Ab

theorem ownKnobNone : ownKnob Try.prog.godebug = none := by kernel_rfl
theorem laidOutAll : laidOutB Try.prog = true := by kernel_rfl

set_option maxRecDepth 100000 in
theorem law_lifted (os : Os) (started : os.Started) (H : Type) (enc : TypeId × Value → H) :
    ReturnsInHanded {} Try.checked os 6 .any (Rows.fnExactFeedReplicaSpec.pre6 enc Try.prog Try.f6 Rows.fnExactFeedReplicaRow.domain false) (Rows.fnExactFeedReplicaSpec.post enc Try.prog Try.f6 false true false false) :=
  law_true (C := Try.checked) (tb := 4) ownKnobNone started (by kernel_rfl) Try.func6
    (ChangeSpec.witness6 (enc := enc) (C := Try.checked) false ⟨#[], #[.agg #[.int .i64 0, .int .i64 0, .slice none 0 0], .agg #[.int .i64 0, .int .i64 0, .int .i64 0, .int .i64 0, .slice none 0 0, .slice none 0 0]], []⟩ 8 (by kernel_rfl) (by kernel_rfl) (by kernel_rfl) (by kernel_rfl))
    (ts := law_tsF) laws_FnExactFeedReplica_OK laidOutAll (by kernel_rfl) (by kernel_rfl) (by kernel_rfl) Try.underlying4 rfl
    (fun ds h => by
      rw [show Try.f6.params.toList.length = 2 from by kernel_rfl] at h
      match ds, h with
      | [_, _], _ => rfl)
    law_FeedReplica

theorem FnExactFeedReplica_holds : Rows.FnExactFeedReplicaSaid :=
  OpenClaim.holds_of_wide 6 Try.f6 rfl rfl rfl rfl rfl rfl rfl ⟨rfl, rfl, rfl, rfl, rfl⟩ rfl rfl rfl rfl rfl (by kernel_rfl) Try.func6 (by kernel_rfl)
    (of_decide_eq_true (by kernel_rfl)) (by unfold Func.isWrapper; first | (rw [if_pos (by decide +kernel)]; kernel_rfl) | (rw [if_neg (by decide +kernel)]; exact ⟨rfl, rfl⟩))
    (fun os started H enc _ => law_lifted os started H enc)

#print axioms FnExactFeedReplica_holds
end Go.Proofs.Ytaefbkkplgaplaa
