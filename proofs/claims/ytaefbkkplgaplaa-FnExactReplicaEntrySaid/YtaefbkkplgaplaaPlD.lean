import Derived.Test.YtaefbkkplgaplaaPlC
set_option linter.unusedVariables false
set_option linter.unusedSimpArgs false
namespace Go.Ab
/-- A row is copied element by element. -/
theorem copy_loopK {α : Type} {a : List α} {z : α} (ha : a.length ≤ 1048576) {B : Int × List α × Unit → Option ((Int × List α × Unit) ⊕ (List α × Unit))}
    (hB : ∀ (i : Nat) (h : i < a.length) (out : List α), out.length = a.length → B ((i : Int), out, ()) = some (.inl (((i + 1 : Nat) : Int), out.set i a[i], ()))) (hend : ∀ out, B ((a.length : Int), out, ()) = some (.inr (out, ()))) :
    ((iter B (0, List.replicate a.length z, ())).bind fun p => some (p.1, ())) = some (a, ()) := by
  rw [iter_up' (r := (a, ())) a.length (fun i => ((i : Int), a.take i ++ List.replicate (a.length - i) z, ()))]
  · rfl
  · simp
  · intro i hi
    rw [hB i hi _ (by simp; omega)]
    congr 3
    congr 1
    apply List.ext_getElem
    · simp; omega
    · intro j h1 h2
      simp at h1 h2
      rw [List.getElem_set]
      by_cases he : i = j
      · subst he
        simp only [if_true]
        rw [List.getElem_append_left (by simp; omega)]
        simp
      · rw [if_neg he]
        by_cases hlt : j < i
        · rw [List.getElem_append_left (by simp; omega), List.getElem_append_left (by simp; omega)]; simp
        · rw [List.getElem_append_right (by simp; omega), List.getElem_append_right (by simp; omega)]; simp
  · simp [hend]
/-- A size test of rows in a row. -/
theorem sz_listK {α : Type} {Small : α → Prop} {F : α → Int → Option (Int × Unit)} {a : List α} (ha : a.length ≤ maxLen) (hF : ∀ e ∈ a, ∀ l, 0 ≤ l → l ≤ 1048576 → SzOK (Small e) (F e l)) {B : Int × Int × Unit → Option ((Int × Int × Unit) ⊕ ((Int × Unit) ⊕ (Int × Unit)))}
    (hB : ∀ l i : Int, B (l, i, ()) = bif decide (i < ((a.length : Nat) : Int)) then (lAt a i).bind fun e => (F e l).bind fun r => bif decide (r.1 < 0) then some (.inr (.inl (r.1, ()))) else some (.inl (r.1, IntKind.i64.wrap (i + 1), ())) else some (.inr (.inr (l, ())))) {l : Int} (h0 : 0 ≤ l) (h1 : l ≤ 1048576) :
    SzOK (a.length ≤ 1048576 ∧ ∀ e ∈ a, Small e) (bif decide (IntKind.i64.wrap (l - ((a.length : Nat) : Int)) < 0) then some (-1, ()) else (iter B (IntKind.i64.wrap (l - ((a.length : Nat) : Int)), 0, ())).bind fun q => sumC q (fun _ => some (-1, ())) fun b => some (b.1, ())) := by
  unfold maxLen at ha
  rw [wrap_id (by omega) (by omega)]
  by_cases h : l - (a.length : Int) < 0
  · rw [decide_eq_true h]; exact ⟨_, rfl, .inl (by omega)⟩
  rw [decide_eq_false h]
  have key : ∀ k i : Nat, i + k = a.length → ∀ l : Int, 0 ≤ l → l ≤ 1048576 → ∃ p, iter B (l, (i : Int), ()) = some p ∧ ((∃ n, p = .inl n) ∨ ∃ n, p = .inr (n, ()) ∧ 0 ≤ n ∧ n ≤ 1048576 ∧ ∀ e ∈ a.drop i, Small e) := by
    intro k
    induction k with
    | zero =>
      intro i hi l h0 h1
      rw [iter_eq, hB, decide_eq_false (by omega)]
      exact ⟨_, rfl, .inr ⟨l, rfl, h0, h1, fun e he => by rw [List.drop_eq_nil_iff.2 (by omega)] at he; cases he⟩⟩
    | succ k ih =>
      intro i hi l h0 h1
      have hlt : i < a.length := by omega
      rw [iter_eq, hB, decide_eq_true (by omega), lAt_nat hlt]
      obtain ⟨n, e1, h2⟩ := hF a[i] (List.getElem_mem hlt) l h0 h1
      simp only [cond_true, Option.bind_some, e1]
      rcases h2 with h2 | ⟨h2, h3, h4⟩
      · rw [decide_eq_true h2]; exact ⟨_, rfl, .inl ⟨(n, ()), rfl⟩⟩
      · rw [decide_eq_false (show ¬ n < 0 by omega), wrap_succ hlt (by omega)]
        obtain ⟨p, e2, h5⟩ := ih (i + 1) (by omega) n h2 h3
        refine ⟨p, e2, h5.imp id ?_⟩
        rintro ⟨m, rfl, h6, h7, h8⟩
        refine ⟨m, rfl, h6, h7, fun e he => ?_⟩
        rw [List.drop_eq_getElem_cons hlt] at he
        rcases List.mem_cons.1 he with rfl | he
        · exact h4
        · exact h8 e he
  obtain ⟨p, e1, h2⟩ := key a.length 0 (by omega) (l - a.length) (by omega) (by omega)
  simp only [Int.natCast_zero] at e1
  have e1' : iter B (l - (a.length : Int), 0, ()) = some p := e1
  rw [cond_false, e1']
  rcases h2 with ⟨n, rfl⟩ | ⟨n, rfl, h3, h4, h5⟩
  · exact ⟨_, rfl, .inl (by omega)⟩
  · exact ⟨_, rfl, .inr ⟨h3, h4, by omega, by simpa using h5⟩⟩

theorem p_toVersionS (a : List VV) (ha : a.length ≤ 1048576) : laws_toVersionS_S (a, ()) = some (a, ()) := by
  unfold laws_toVersionS_S
  simp only
  rw [if_pos (by omega), Int.toNat_natCast]
  refine copy_loopK ha (fun i h out ho => ?_) fun out => ?_
  · unfold laws_toVersionS_D3
    simp only [lAt_nat h, Option.bind_some, laws_toVersion_S]
    rw [decide_eq_true (by omega), if_pos (by omega), wrap_succ h (by omega)]
    simp [ho, h]
  · unfold laws_toVersionS_D3
    simp only
    rw [decide_eq_false (by omega)]; rfl

theorem p_szVersionS {a : List VV} {l : Int} (ha : a.length ≤ maxLen) (h0 : 0 ≤ l) (h1 : l ≤ 1048576) : SzOK (a.length ≤ 1048576) (laws_szVersionS_S (a, l, ())) := sz_flat ha h0 h1

theorem p_toVersionSS (a : List (List VV)) (ha : SmallCs a) : laws_toVersionSS_S (a, ()) = some (a, ()) := by
  have hn := ha.1
  unfold laws_toVersionSS_S
  simp only
  rw [if_pos (by omega), Int.toNat_natCast]
  refine copy_loopK hn (fun i h out ho => ?_) fun out => ?_
  · unfold laws_toVersionSS_D3
    simp only [lAt_nat h, Option.bind_some, p_toVersionS _ (ha.2 _ (List.getElem_mem h))]
    rw [decide_eq_true (by omega), if_pos (by omega), wrap_succ h (by omega)]
    simp [ho, h]
  · unfold laws_toVersionSS_D3
    simp only
    rw [decide_eq_false (by omega)]; rfl
theorem p_szVersionSS {a : List (List VV)} {l : Int} (ha : a.length ≤ maxLen) (hb : ∀ e ∈ a, e.length ≤ maxLen) (h0 : 0 ≤ l) (h1 : l ≤ 1048576) : SzOK (SmallCs a) (laws_szVersionSS_S (a, l, ())) :=
  sz_listK (Small := SmallC) (F := fun e l => laws_szVersionS_S (e, l, ())) ha (fun e he l h0 h1 => p_szVersionS (hb e he) h0 h1) (fun l i => rfl) h0 h1
theorem p_szStore {a : List (List VV)} {l : Int} (ha : a.length ≤ maxLen) (hb : ∀ e ∈ a, e.length ≤ maxLen) (h0 : 0 ≤ l) (h1 : l ≤ 1048576) : SzOK (SmallCs a) (laws_szStore_S ((a, ()), l, ())) := sz_again (p_szVersionSS ha hb h0 h1)
theorem p_szReplica {x y : Int} {a : List (List VV)} {l : Int} (ha : a.length ≤ maxLen) (hb : ∀ e ∈ a, e.length ≤ maxLen) (h0 : 0 ≤ l) (h1 : l ≤ 1048576) : SzOK (SmallCs a) (laws_szReplica_S ((x, y, (a, ()), ()), l, ())) := sz_again (p_szStore ha hb h0 h1)
theorem p_toStore (a : List (List VV)) (ha : SmallCs a) : laws_toStore_S ((a, ()), ()) = some (a, ()) := by
  simp [laws_toStore_S, p_toVersionSS a ha]
theorem p_toReplica (x y : Int) (a : List (List VV)) (ha : SmallCs a) : laws_toReplica_S ((x, y, (a, ()), ()), ()) = some (x, y, a, ()) := by
  simp [laws_toReplica_S, p_toStore a ha]
theorem enSS_le {a : List (List VV)} : ∀ (k : Int), (∀ e ∈ a, e.length ≤ 1048576) → enSS k a ≤ k + 5242880 * a.length := by
  induction a with
  | nil => intro k _; simp [enSS]
  | cons r rs ih =>
    intro k h
    have h1 := ih (k + 5 * r.length) (fun e he => h e (List.mem_cons_of_mem _ he))
    have h2 := h r (List.mem_cons_self ..)
    simp only [enSS, List.length_cons]
    push_cast
    omega
/-- What the laws' marks need of a store. -/
def smallC (a : List (List VV)) : Prop := a.length < 9223372036854775000 ∧ enSS 1 a < 9223372036854775000
theorem SmallCs.small {a : List (List VV)} (h : SmallCs a) : smallC a := by
  have h1 := enSS_le 1 h.2
  have h2 := h.1
  exact ⟨by omega, by omega⟩
theorem p_eqVersion (v : VV) : laws_eqVersion_S (v, v, ()) = some (true, ()) := by
  simp [laws_eqVersion_S]
theorem p_eqVersionS (a : List VV) (ha : a.length < 9223372036854775000) : laws_eqVersionS_S (a, a, ()) = some (true, ()) := by
  unfold laws_eqVersionS_S
  simp only [bne_self_eq_false, cond_false]
  refine iter_upK a.length (fun j => ((j : Int), ())) rfl (fun j hj => ?_) ⟨.inr (), ?_, rfl⟩
  · unfold laws_eqVersionS_D4
    simp only [lAt_nat hj, Option.bind_some, p_eqVersion]
    rw [decide_eq_true (by omega), wr1 (by omega) (by omega)]
    rfl
  · unfold laws_eqVersionS_D4
    simp only
    rw [decide_eq_false (by omega)]
    rfl
theorem p_eqVersionSS (a : List (List VV)) (ha : a.length < 9223372036854775000) (hb : ∀ r ∈ a, r.length < 9223372036854775000) : laws_eqVersionSS_S (a, a, ()) = some (true, ()) := by
  unfold laws_eqVersionSS_S
  simp only [bne_self_eq_false, cond_false]
  refine iter_upK a.length (fun j => ((j : Int), ())) rfl (fun j hj => ?_) ⟨.inr (), ?_, rfl⟩
  · unfold laws_eqVersionSS_D4
    simp only [lAt_nat hj, Option.bind_some, p_eqVersionS _ (hb _ (List.getElem_mem hj))]
    rw [decide_eq_true (by omega), wr1 (by omega) (by omega)]
    rfl
  · unfold laws_eqVersionSS_D4
    simp only
    rw [decide_eq_false (by omega)]
    rfl
theorem enSS_mem {a : List (List VV)} {r : List VV} (h : r ∈ a) (k : Int) : k + 5 * r.length ≤ enSS k a := by
  induction a generalizing k with
  | nil => cases h
  | cons s rs ih =>
    simp only [enSS]
    rcases List.mem_cons.1 h with rfl | h
    · exact enSS_ge _ _
    · have := ih h (k + 5 * s.length); omega
theorem smallC.row {a : List (List VV)} (h : smallC a) : ∀ r ∈ a, r.length < 9223372036854775000 := fun r hr => by
  have := enSS_mem hr 1; have := h.2; omega
theorem p_eqReplica (x y : Int) (c : List (List VV)) (h : smallC c) : laws_eqReplica_S ((x, y, (c, ()), ()), (x, y, (c, ()), ()), ()) = some (true, ()) := by
  simp [laws_eqReplica_S, laws_eqStore_S, p_eqVersionSS c h.1 h.row]
theorem p_markReplica (x y : Int) (c : List (List VV)) (h : smallC c) : laws_markReplica_l_S (x, y, 1, c, ()) = some (enSS 1 c, mkSS 1 c, ()) := by
  simp [laws_markReplica_l_S, laws_markStore_l_S, p_markVersionSS c 1 (by omega) h.2 h.1]
theorem p_eqReadMark (v : VM) : laws_eqReadMark_S (v, v, ()) = some (true, ()) := by
  simp [laws_eqReadMark_S]
theorem p_eqReadMarkS (a : List VM) (ha : a.length < 9223372036854775000) : laws_eqReadMarkS_S (a, a, ()) = some (true, ()) := by
  unfold laws_eqReadMarkS_S
  simp only [bne_self_eq_false, cond_false]
  refine iter_upK a.length (fun j => ((j : Int), ())) rfl (fun j hj => ?_) ⟨.inr (), ?_, rfl⟩
  · unfold laws_eqReadMarkS_D4
    simp only [lAt_nat hj, Option.bind_some, p_eqReadMark]
    rw [decide_eq_true (by omega), wr1 (by omega) (by omega)]
    rfl
  · unfold laws_eqReadMarkS_D4
    simp only
    rw [decide_eq_false (by omega)]
    rfl
theorem p_markReadMarkS (row : List VM) (k : Int) (h0 : 0 ≤ k) (hk : k + 2 * row.length < 9223372036854775000) :
    laws_markReadMarkS_l_S (k, row, ()) = some (k + 2 * row.length, mkL mk2 2 k row.length, ()) := by
  unfold laws_markReadMarkS_l_S
  simp only
  rw [iter_up' (r := (k + 2 * row.length, mkL mk2 2 k row.length, ())) row.length (fun j => (k + 2 * (j : Int), (j : Int), mkd mk2 2 k row j, ()))]
  · rfl
  · simp only [mkd_zero]; simp
  · intro j hj
    unfold laws_markReadMarkS_l_D2
    have hl := mkd_length mk2 2 k row j (by omega)
    have hg := mkd_get mk2 2 k row j hj
    have hs := mkd_set mk2 2 k row j hj
    simp only [hl]
    rw [decide_eq_true (by omega), if_pos (by omega)]
    simp only [cond_true, Option.bind_some, Nat.zero_add, Int.toNat_natCast, hg, List.set_set, List.length_set, List.getElem?_set_self, hl, hj]
    rw [wr1 (k := k + 2 * (j : Int)) (by omega) (by omega), wr1 (k := k + 2 * (j : Int) + 1) (by omega) (by omega), wr1 (k := (j : Int)) (by omega) (by omega)]
    have e1 : k + 2 * (j : Int) + 1 + 1 = k + 2 * ((j + 1 : Nat) : Int) := by push_cast; omega
    have e2 : (k + 2 * (j : Int), k + 2 * (j : Int) + 1, ()) = mk2 (k + 2 * (j : Int)) := by simp [mk2]
    rw [e1, e2, hs]
    simp [hj]
  · unfold laws_markReadMarkS_l_D2
    simp only [mkd_end, mkL_length]
    rw [decide_eq_false (by omega)]
    rfl
theorem p_heldReadMarkS (n : Nat) (k : Int) (h0 : 0 ≤ k) (hk : k + 2 * n < 9223372036854775000) : laws_heldReadMarkS_S (mkL mk2 2 k n, k, ()) = some (k + 2 * n, ()) := by
  unfold laws_heldReadMarkS_S
  simp only
  refine iter_upK n (fun j => (k + 2 * (j : Int), (j : Int), ())) (by simp) (fun j hj => ?_) ⟨.inr (.inr (k + 2 * n, ())), ?_, rfl⟩
  · unfold laws_heldReadMarkS_D2
    have hg : lAt (mkL mk2 2 k n) (j : Int) = some (mk2 (k + 2 * (j : Int))) := by
      rw [lAt_nat (by rw [mkL_length]; exact hj)]
      have := mkL_get mk2 2 k n j hj
      rw [List.getElem?_eq_getElem (by rw [mkL_length]; exact hj)] at this
      exact this
    simp only [mkL_length, hg, Option.bind_some]
    rw [decide_eq_true (by omega)]
    rw [wr1 (k := k + 2 * (j : Int)) (by omega) (by omega), wr1 (k := k + 2 * (j : Int) + 1) (by omega) (by omega), wr1 (k := (j : Int)) (by omega) (by omega)]
    simp only [mk2, cond_true]
    have e0 : (k + 2 * (j : Int) != k + 2 * (j : Int)) = false := by first | simp | (rw [bne_eq_false_iff_eq]; omega)
    have e1 : (k + 2 * (j : Int) + 1 != k + 2 * (j : Int) + 1) = false := by first | simp | (rw [bne_eq_false_iff_eq]; omega)
    simp only [e0, e1, cond_false]
    congr 3
    · push_cast; omega
  · unfold laws_heldReadMarkS_D2
    simp only [mkL_length]
    rw [decide_eq_false (by omega)]
    rfl

theorem p_eqWrite (v : VM) : laws_eqWrite_S (v, v, ()) = some (true, ()) := by
  simp [laws_eqWrite_S]
theorem p_eqWriteS (a : List VM) (ha : a.length < 9223372036854775000) : laws_eqWriteS_S (a, a, ()) = some (true, ()) := by
  unfold laws_eqWriteS_S
  simp only [bne_self_eq_false, cond_false]
  refine iter_upK a.length (fun j => ((j : Int), ())) rfl (fun j hj => ?_) ⟨.inr (), ?_, rfl⟩
  · unfold laws_eqWriteS_D4
    simp only [lAt_nat hj, Option.bind_some, p_eqWrite]
    rw [decide_eq_true (by omega), wr1 (by omega) (by omega)]
    rfl
  · unfold laws_eqWriteS_D4
    simp only
    rw [decide_eq_false (by omega)]
    rfl
theorem p_markWriteS (row : List VM) (k : Int) (h0 : 0 ≤ k) (hk : k + 2 * row.length < 9223372036854775000) :
    laws_markWriteS_l_S (k, row, ()) = some (k + 2 * row.length, mkL mk2 2 k row.length, ()) := by
  unfold laws_markWriteS_l_S
  simp only
  rw [iter_up' (r := (k + 2 * row.length, mkL mk2 2 k row.length, ())) row.length (fun j => (k + 2 * (j : Int), (j : Int), mkd mk2 2 k row j, ()))]
  · rfl
  · simp only [mkd_zero]; simp
  · intro j hj
    unfold laws_markWriteS_l_D2
    have hl := mkd_length mk2 2 k row j (by omega)
    have hg := mkd_get mk2 2 k row j hj
    have hs := mkd_set mk2 2 k row j hj
    simp only [hl]
    rw [decide_eq_true (by omega), if_pos (by omega)]
    simp only [cond_true, Option.bind_some, Nat.zero_add, Int.toNat_natCast, hg, List.set_set, List.length_set, List.getElem?_set_self, hl, hj]
    rw [wr1 (k := k + 2 * (j : Int)) (by omega) (by omega), wr1 (k := k + 2 * (j : Int) + 1) (by omega) (by omega), wr1 (k := (j : Int)) (by omega) (by omega)]
    have e1 : k + 2 * (j : Int) + 1 + 1 = k + 2 * ((j + 1 : Nat) : Int) := by push_cast; omega
    have e2 : (k + 2 * (j : Int), k + 2 * (j : Int) + 1, ()) = mk2 (k + 2 * (j : Int)) := by simp [mk2]
    rw [e1, e2, hs]
    simp [hj]
  · unfold laws_markWriteS_l_D2
    simp only [mkd_end, mkL_length]
    rw [decide_eq_false (by omega)]
    rfl
theorem p_heldWriteS (n : Nat) (k : Int) (h0 : 0 ≤ k) (hk : k + 2 * n < 9223372036854775000) : laws_heldWriteS_S (mkL mk2 2 k n, k, ()) = some (k + 2 * n, ()) := by
  unfold laws_heldWriteS_S
  simp only
  refine iter_upK n (fun j => (k + 2 * (j : Int), (j : Int), ())) (by simp) (fun j hj => ?_) ⟨.inr (.inr (k + 2 * n, ())), ?_, rfl⟩
  · unfold laws_heldWriteS_D2
    have hg : lAt (mkL mk2 2 k n) (j : Int) = some (mk2 (k + 2 * (j : Int))) := by
      rw [lAt_nat (by rw [mkL_length]; exact hj)]
      have := mkL_get mk2 2 k n j hj
      rw [List.getElem?_eq_getElem (by rw [mkL_length]; exact hj)] at this
      exact this
    simp only [mkL_length, hg, Option.bind_some]
    rw [decide_eq_true (by omega)]
    rw [wr1 (k := k + 2 * (j : Int)) (by omega) (by omega), wr1 (k := k + 2 * (j : Int) + 1) (by omega) (by omega), wr1 (k := (j : Int)) (by omega) (by omega)]
    simp only [mk2, cond_true]
    have e0 : (k + 2 * (j : Int) != k + 2 * (j : Int)) = false := by first | simp | (rw [bne_eq_false_iff_eq]; omega)
    have e1 : (k + 2 * (j : Int) + 1 != k + 2 * (j : Int) + 1) = false := by first | simp | (rw [bne_eq_false_iff_eq]; omega)
    simp only [e0, e1, cond_false]
    congr 3
    · push_cast; omega
  · unfold laws_heldWriteS_D2
    simp only [mkL_length]
    rw [decide_eq_false (by omega)]
    rfl

theorem p_eqEntry (x y : Int) (m w : List VM) (hm : m.length < 9223372036854775000) (hw : w.length < 9223372036854775000) : laws_eqEntry_S ((x, y, m, w, ()), (x, y, m, w, ()), ()) = some (true, ()) := by
  simp [laws_eqEntry_S, p_eqReadMarkS m hm, p_eqWriteS w hw]
theorem p_markEntry (x y k : Int) (m w : List VM) (h0 : 0 ≤ k) (hm : k + 2 * m.length + 2 * w.length < 9223372036854775000) : laws_markEntry_l_S (x, y, k, m, w, ()) = some (k + 2 * m.length + 2 * w.length, mkL mk2 2 k m.length, mkL mk2 2 (k + 2 * m.length) w.length, ()) := by
  simp [laws_markEntry_l_S, p_markReadMarkS m k h0 (by omega), p_markWriteS w (k + 2 * m.length) (by omega) (by omega)]
theorem p_heldEntry (x y k : Int) (m w : Nat) (h0 : 0 ≤ k) (hm : k + 2 * m + 2 * w < 9223372036854775000) : laws_heldEntry_S ((x, y, mkL mk2 2 k m, mkL mk2 2 (k + 2 * m) w, ()), k, ()) = some (k + 2 * m + 2 * w, ()) := by
  unfold laws_heldEntry_S
  simp only [p_heldReadMarkS m k h0 (by omega), Option.bind_some, p_heldWriteS w (k + 2 * m) (by omega) (by omega)]
  rw [decide_eq_false (by omega), decide_eq_false (by omega)]; rfl

def law_ts : List Ty := [YReplica, .i]
/-- **FnExactReplicaEntry's function answers true.** -/
theorem law_ReplicaEntry (x : den (slotsT law_ts).ty) (hx : wf (slotsT law_ts).ty x) : laws_FnExactReplicaEntry_S x = some (true, ()) := by
  obtain ⟨⟨a, b, ⟨s, _⟩, _⟩, id, _⟩ := x
  have hs := hx.1.2.2.1.1
  unfold laws_FnExactReplicaEntry_S
  refine law_sz (p_szReplica hs.1 (fun e he => (hs.2 e he).1) (by omega) (by omega)) fun n h0 h1 hA => ?_
  obtain ⟨x, y, m, t, hm, e1, e2⟩ := p_entry (a := a) (b := b) (id := id) hA
  have hsm := hA.small
  have hE := p_eqEntry x y m [] (by omega) (by simp)
  have hM := p_markEntry x y 1 m [] (by omega) (by simp; omega)
  have hH := p_heldEntry x y 1 m.length 0 (by omega) (by omega)
  simp only [mkL, List.length_nil] at hM hH
  have hge := enSS_ge 1 s
  have d1 : decide (enSS 1 s < 0) = false := decide_eq_false (by omega)
  have d2 : decide ((1 : Int) + 2 * (m.length : Int) + 2 * ((0 : Nat) : Int) < 0) = false := decide_eq_false (by omega)
  simp only [p_toReplica a b s hA, Option.bind_some, e1, e2, hE, p_eqReplica a b s hsm, p_markReplica a b s hsm, hM, hH, d1, d2]
  cases t <;> simp
end Go.Ab
