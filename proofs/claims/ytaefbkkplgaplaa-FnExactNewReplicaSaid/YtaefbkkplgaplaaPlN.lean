import Derived.Test.YtaefbkkplgaplaaPlA
set_option linter.unusedVariables false
set_option linter.unusedSimpArgs false
namespace Go.Ab
theorem p_eqVersion (v : VV) : laws_eqVersion_S (v, v, ()) = some (true, ()) := by
  simp [laws_eqVersion_S]
theorem p_eqVersionS (a : List VV) (ha : a.length < 9223372036854775000) : laws_eqVersionS_S (a, a, ()) = some (true, ()) := by
  unfold laws_eqVersionS_S
  simp only [bne_self_eq_false, cond_false]
  refine iter_upK a.length (fun j => ((j : Int), ())) rfl (fun j hj => ?_) ⟨.inr (), ?_, rfl⟩
  · unfold laws_eqVersionS_D4
    simp only [lAt_nat hj, Option.bind_some, p_eqVersion]
    rw [decide_eq_true (by omega), wr1 (by omega) (by omega)]
    rfl
  · unfold laws_eqVersionS_D4
    simp only
    rw [decide_eq_false (by omega)]
    rfl
theorem p_eqVersionSS (a : List (List VV)) (ha : a.length < 9223372036854775000) (hb : ∀ r ∈ a, r.length < 9223372036854775000) : laws_eqVersionSS_S (a, a, ()) = some (true, ()) := by
  unfold laws_eqVersionSS_S
  simp only [bne_self_eq_false, cond_false]
  refine iter_upK a.length (fun j => ((j : Int), ())) rfl (fun j hj => ?_) ⟨.inr (), ?_, rfl⟩
  · unfold laws_eqVersionSS_D4
    simp only [lAt_nat hj, Option.bind_some, p_eqVersionS _ (hb _ (List.getElem_mem hj))]
    rw [decide_eq_true (by omega), wr1 (by omega) (by omega)]
    rfl
  · unfold laws_eqVersionSS_D4
    simp only
    rw [decide_eq_false (by omega)]
    rfl
/-- The chains of a store: how much they hold. -/
def smallC (a : List (List VV)) : Prop := a.length < 9223372036854775000 ∧ enSS 1 a < 9223372036854775000
theorem enSS_mem {a : List (List VV)} {r : List VV} (h : r ∈ a) (k : Int) : k + 5 * r.length ≤ enSS k a := by
  induction a generalizing k with
  | nil => cases h
  | cons s rs ih =>
    simp only [enSS]
    rcases List.mem_cons.1 h with rfl | h
    · exact enSS_ge _ _
    · have := ih h (k + 5 * s.length); omega
theorem smallC.row {a : List (List VV)} (h : smallC a) : ∀ r ∈ a, r.length < 9223372036854775000 := fun r hr => by
  have := enSS_mem hr 1; have := h.2; omega
theorem p_eqReplica (x y : Int) (c : List (List VV)) (h : smallC c) : laws_eqReplica_S ((x, y, (c, ()), ()), (x, y, (c, ()), ()), ()) = some (true, ()) := by
  simp [laws_eqReplica_S, laws_eqStore_S, p_eqVersionSS c h.1 h.row]
theorem p_markReplica (x y : Int) (c : List (List VV)) (h : smallC c) : laws_markReplica_l_S (x, y, 1, c, ()) = some (enSS 1 c, mkSS 1 c, ()) := by
  simp [laws_markReplica_l_S, laws_markStore_l_S, p_markVersionSS c 1 (by omega) h.2 h.1]
theorem p_heldReplica (x y : Int) (c : List (List VV)) (h : smallC c) : laws_heldReplica_S ((x, y, (mkSS 1 c, ()), ()), 1, ()) = some (enSS 1 c, ()) := by
  have := enSS_ge 1 c
  have e : decide (enSS 1 c < 0) = false := decide_eq_false (by omega)
  simp only [laws_heldReplica_S, laws_heldStore_S, p_heldVersionSS c 1 (by omega) h.2 h.1, Option.bind_some, e, cond_false]
def newC : List (List VV) := List.replicate 6 [(0, -1, 0, 0, 1000, ())]
theorem p_newS : spec_NewStore_S () = some (newC, ()) := by
  unfold spec_NewStore_S
  refine iter_upK 6 (fun j => ((j : Int), List.replicate j [(0, -1, 0, 0, 1000, ())], ())) rfl (fun j hj => ?_) ⟨(newC, ()), ?_, rfl⟩
  · unfold spec_NewStore_D3
    simp only [List.length_append, List.length_replicate, List.length_cons, List.length_nil]
    rw [decide_eq_true (by omega), if_pos (by omega), wr1 (by omega) (by omega), ← List.replicate_succ']
    rfl
  · rfl
theorem p_newI : impl_NewStore_S () = some (newC, ()) := by
  unfold impl_NewStore_S
  refine iter_upK 6 (fun j => ((j : Int), List.replicate j [(0, -1, 0, 0, 1000, ())], ())) rfl (fun j hj => ?_) ⟨(newC, ()), ?_, rfl⟩
  · unfold impl_NewStore_D3
    simp only [List.length_append, List.length_replicate, List.length_cons, List.length_nil]
    rw [decide_eq_true (by omega), if_pos (by omega), wr1 (by omega) (by omega), ← List.replicate_succ']
    rfl
  · rfl
def law_ts : List Ty := []
theorem law_NewReplica (x : Unit) (_ : wf (slotsT law_ts).ty x) : laws_FnExactNewReplica_S x = some (true, ()) := by
  have h : smallC newC := ⟨by decide, by decide⟩
  unfold laws_FnExactNewReplica_S
  simp [spec_NewReplica_S, impl_NewReplica_S, p_newS, p_newI, p_eqReplica _ _ _ h, p_markReplica _ _ _ h, p_heldReplica _ _ _ h]
  decide
end Go.Ab
