import Derived.Test.YtfaonncpagjmkaaAbQ6
set_option linter.unnecessarySimpa false
set_option linter.unusedVariables false
set_option linter.unusedSimpArgs false
namespace Go.Ab
open Go.RowKit

section
variable {P : Program} {C : Cfg} (HC : CfgOK P C)

include HC in
/-- **An operation that changes no object does what is told of it.** -/
theorem vopQ_sem {R : Type} {s : St} {o : Oper} {K : AV → Option R} {r : R} (h : vopQ C s o K = some r) : ∃ v, K v = some r ∧ QSem P s.t s.h o v := by
  cases ho : o.op with
  | move x =>
    unfold vopQ at h; simp only [ho] at h
    exact ⟨_, h, QSem.of_run fun E w ρ H hop => ⟨_, by simp only [execOp, ho]; rfl, hop x (by rw [ho]; simp [Op.operands])⟩⟩
  | assign x =>
    unfold vopQ at h; simp only [ho] at h
    exact ⟨_, h, QSem.of_run fun E w ρ H hop => ⟨_, by simp only [execOp, ho]; rfl, hop x (by rw [ho]; simp [Op.operands])⟩⟩
  | pick c a b =>
    unfold vopQ at h; simp only [ho] at h
    split at h
    · rename_i t ec
      have key : ∀ (E : Env) (w : World) (ρ : Operand → Value), (∀ x ∈ o.op.operands, RepAV E s.h w (ev s.t x) (ρ x)) → ρ c = .bool t := by
        intro E w ρ hop
        have h1 := hop c (by rw [ho]; simp [Op.operands])
        rw [ec] at h1; exact rep_bool h1
      split at h
      · exact ⟨_, h, QSem.of_run fun E w ρ H hop => ⟨_, by simp only [execOp, ho, key E w ρ hop]; rfl, hop a (by rw [ho]; simp [Op.operands])⟩⟩
      · exact ⟨_, h, QSem.of_run fun E w ρ H hop => ⟨_, by simp only [execOp, ho, key E w ρ hop]; rfl, hop b (by rw [ho]; simp [Op.operands])⟩⟩
    · cases h
  | binOp op t x y t' => exact binOp_sem HC ho h
  | unOp op t x => exact unOp_sem ho h
  | fieldAddr t x f => exact fieldAddr_sem HC ho h
  | field t x f => exact field_sem HC ho h
  | load t x => exact load_sem HC ho h
  | indexAddr t x ix => exact indexAddr_sem HC ho h
  | index t x ix => exact index_sem HC ho h
  | slice t x lo hi mx =>
    cases mx with
    | none => exact slice_sem HC ho h
    | some m => unfold vopQ at h; simp only [ho] at h; cases h
  | build t ps => exact build_sem HC ho h
  | extract x i => exact extract_sem ho h
  | makeFunc fn first cap =>
    cases fn with
    | func f => exact makeFunc_sem ho h
    | _ => unfold vopQ at h; simp only [ho] at h; cases h
  | nilCheck x => exact nilCheck_sem ho h
  | convert src dst x => exact convert_sem HC ho h
  | call c =>
    unfold vopQ at h; simp only [ho] at h
    cases hc : c.callee with
    | value f =>
      simp only [hc] at h
      split at h
      · rename_i g cap hcal
        exact call_sem ho hc hcal C.ents HC.ents h
      · cases h
    | builtin b => simp only [hc] at h; exact builtin_sem HC ho hc h
    | invoke r m => simp only [hc] at h; cases h
  | _ => unfold vopQ at h; simp only [ho] at h; cases h
end
end Go.Ab
