import Derived.Test.YtaefbkkplgaplaaPlA
set_option linter.unusedVariables false
set_option linter.unusedSimpArgs false
namespace Go.Ab

/-! ### Loops whose exits are many -/
theorem all_loopK {ρ τ : Type} {B : Int × Unit → Option ((Int × Unit) ⊕ ρ)} {k : ρ → Option τ} {n : Nat} {c : Nat → Prop} {X no : Option τ}
    (hB : ∀ i, i < n → (c i → B ((i : Int), ()) = some (.inl (((i + 1 : Nat) : Int), ()))) ∧ (¬ c i → ∃ r, B ((i : Int), ()) = some (.inr r) ∧ k r = no))
    (hend : ∃ r, B ((n : Int), ()) = some (.inr r) ∧ k r = X) :
    (iter B (0, ())).bind k = bif dec (∀ i, i < n → c i) then X else no := by
  have key : ∀ m i : Nat, i + m = n → (iter B ((i : Int), ())).bind k = bif dec (∀ j, i ≤ j → j < n → c j) then X else no := by
    intro m
    induction m with
    | zero =>
      intro i hi
      obtain rfl : i = n := by omega
      obtain ⟨r, h1, h2⟩ := hend
      rw [iter_eq, h1, dec_true (fun j h1 h2 => by omega)]; exact h2
    | succ m ih =>
      intro i hi
      by_cases hc : c i
      · rw [iter_eq, (hB i (by omega)).1 hc]
        simp only [Option.bind_some]
        rw [ih (i + 1) (by omega)]
        congr 1
        apply dec_congr
        constructor
        · intro h j h1 h2
          by_cases e : j = i
          · rw [e]; exact hc
          · exact h j (by omega) h2
        · intro h j h1 h2; exact h j (by omega) h2
      · obtain ⟨r, h1, h2⟩ := (hB i (by omega)).2 hc
        rw [iter_eq, h1, dec_false (fun h => hc (h i (Nat.le_refl _) (by omega)))]; exact h2
  have := key n 0 (by omega)
  simp only [Int.natCast_zero, Nat.zero_le, true_implies] at this
  exact this
/-- A loop that folds a list. -/
theorem fold_loopK {σ α ρ τ : Type} {l : List α} {f : σ → α → σ} {B : σ × Int × Unit → Option ((σ × Int × Unit) ⊕ ρ)} {k : ρ → Option τ} {X : σ → Option τ} {q : Option τ} (n0 : σ) (hB : ∀ (i : Nat) (h : i < l.length) (n : σ), B (n, (i : Int), ()) = some (.inl (f n l[i], ((i + 1 : Nat) : Int), ())))
    (hend : ∀ n, ∃ r, B (n, (l.length : Int), ()) = some (.inr r) ∧ k r = X n) (hq : X (l.foldl f n0) = q) : (iter B (n0, 0, ())).bind k = q := by
  have key : ∀ m i : Nat, i + m = l.length → ∀ n, (iter B (n, (i : Int), ())).bind k = X ((l.drop i).foldl f n) := by
    intro m
    induction m with
    | zero =>
      intro i hi n
      obtain rfl : i = l.length := by omega
      obtain ⟨r, h1, h2⟩ := hend n
      rw [iter_eq, h1]; simpa using h2
    | succ m ih =>
      intro i hi n
      have h : i < l.length := by omega
      rw [iter_eq, hB i h, List.drop_eq_getElem_cons h]
      simp only [Option.bind_some]
      rw [ih (i + 1) (by omega)]; rfl
  have := key l.length 0 (by omega) n0
  simpa [hq] using this

/-! ### The stores -/
def SmallC (a : List VV) : Prop := a.length ≤ 1048576
def SmallCs (a : List (List VV)) : Prop := a.length ≤ 1048576 ∧ ∀ e ∈ a, SmallC e

theorem p_specIn (x lo hi : Int) : spec_l1In_S (x, lo, hi, ()) = some (inB x lo hi, ()) := by
  unfold spec_l1In_S inB
  by_cases h : lo ≤ x <;> simp [h]
theorem p_implIn (x lo hi : Int) : impl_in_S (x, lo, hi, ()) = some (inB x lo hi, ()) := by
  unfold impl_in_S inB
  by_cases h : lo ≤ x <;> simp [h]
theorem p_isKey (x : Int) : impl_isKey_S (x, ()) = some (inB x 0 5, ()) := by simp [impl_isKey_S, p_implIn]
theorem p_isID (x : Int) : impl_isID_S (x, ()) = some (inB x 1 9, ()) := by simp [impl_isID_S, p_implIn]
theorem p_isValue (x : Int) : impl_isValue_S (x, ()) = some (inB x (-1) 99, ()) := by simp [impl_isValue_S, p_implIn]

/-- A valid version. -/
def okV (v : VV) : Bool := inB v.2.1 (-1) 99 && inB v.2.2.1 0 999 && inB v.2.2.2.1 v.2.2.1 999 && inB v.2.2.2.2.1 1 1000 && (bif v.2.2.1 == 0 then (bif v.1 == 0 then v.2.1 == -1 else false) else inB v.1 1 9)
theorem p_specV (v : VV) : spec_IsValidVersion_S (v, ()) = some (okV v, ()) := by
  unfold spec_IsValidVersion_S okV
  simp only [p_specIn, Option.bind_some]
  cases inB v.2.1 (-1) 99 <;> cases inB v.2.2.1 0 999 <;> cases inB v.2.2.2.1 v.2.2.1 999 <;> cases inB v.2.2.2.2.1 1 1000 <;> cases (v.2.2.1 == 0 : Bool) <;> cases (v.1 == 0 : Bool) <;> simp
theorem p_implV (v : VV) : impl_IsValidVersion_S (v, ()) = some (okV v, ()) := by
  unfold impl_IsValidVersion_S okV
  simp only [p_implIn, p_isValue, p_isID, Option.bind_some]
  cases inB v.2.1 (-1) 99 <;> cases inB v.2.2.1 0 999 <;> cases inB v.2.2.2.1 v.2.2.1 999 <;> cases inB v.2.2.2.2.1 1 1000 <;> cases (v.2.2.1 == 0 : Bool) <;> cases (v.1 == 0 : Bool) <;> simp
theorem okV_le {v : VV} (h : okV v = true) : v.2.2.1 ≤ v.2.2.2.1 := by
  unfold okV at h
  simp only [Bool.and_eq_true] at h
  have := h.1.1.2
  unfold inB at this
  simp only [Bool.and_eq_true, decide_eq_true_eq] at this
  exact this.1

/-- Two neighbours in a chain. -/
def okP (v w : VV) : Prop := v.2.2.1 < w.2.2.1 ∧ v.2.2.2.2.1 ≤ w.2.2.1
def okAt (l : List VV) (i : Nat) : Prop := ∃ h : i < l.length, okV l[i] = true ∧ ∀ h2 : i + 1 < l.length, okP l[i] l[i + 1]
def okAt' (l : List VV) (i : Nat) : Prop := ∃ h : i < l.length, okV l[i] = true ∧ ∀ h2 : 0 < i, okP (l[i - 1]'(by omega)) l[i]
theorem okAt_iff (l : List VV) : (∀ i, i < l.length → okAt l i) ↔ ∀ i, i < l.length → okAt' l i := by
  constructor
  · intro H i h
    obtain ⟨_, h1, _⟩ := H i h
    refine ⟨h, h1, fun h2 => ?_⟩
    obtain ⟨_, _, h4⟩ := H (i - 1) (by omega)
    have := h4 (by omega)
    simpa [show i - 1 + 1 = i by omega] using this
  · intro H i h
    obtain ⟨_, h1, _⟩ := H i h
    refine ⟨h, h1, fun h2 => ?_⟩
    obtain ⟨_, _, h4⟩ := H (i + 1) h2
    exact h4 (by omega)
/-- What the end of a chain's test answers. -/
def lastOK (l : List VV) : Option (Bool × Unit) := bif decide (((l.length : Nat) : Int) > 0) then (lAt l (IntKind.i64.wrap (((l.length : Nat) : Int) - 1))).bind fun e => some ((e.2.2.2.2.1 == 1000), ()) else some (false, ())

theorem p_specC' {l : List VV} (hl : SmallC l) : spec_IsValidChain_S (l, ()) = bif dec (∀ i, i < l.length → okAt l i) then lastOK l else some (false, ()) := by
  unfold SmallC at hl
  unfold spec_IsValidChain_S
  refine all_loopK (n := l.length) (c := okAt l) (fun i hi => ?_) ⟨.inr (.inr (.inr ())), ?_, rfl⟩
  · unfold spec_IsValidChain_D2
    simp only [lAt_nat hi, Option.bind_some, p_specV]
    rw [decide_eq_true (by omega)]
    simp only [cond_true, Option.bind_some]
    cases hv : okV l[i] with
    | false =>
      refine ⟨fun ⟨_, h, _⟩ => ?_, fun _ => ⟨.inl (), rfl, rfl⟩⟩
      rw [hv] at h; cases h
    | true =>
      simp only [Bool.not_true, cond_false]
      rw [wrap_succ hi (by omega)]
      by_cases h2 : i + 1 < l.length
      · rw [decide_eq_true (by omega), lAt_nat h2]
        simp only [cond_true, Option.bind_some]
        by_cases p1 : l[i].2.2.1 ≥ l[i + 1].2.2.1
        · rw [decide_eq_true p1]
          refine ⟨fun ⟨_, _, h⟩ => ?_, fun _ => ⟨.inr (.inl ()), rfl, rfl⟩⟩
          exact (Int.not_lt.2 p1 (h h2).1).elim
        · rw [decide_eq_false p1]
          simp only [cond_false]
          by_cases p2 : l[i].2.2.2.2.1 > l[i + 1].2.2.1
          · rw [decide_eq_true p2]
            refine ⟨fun ⟨_, _, h⟩ => ?_, fun _ => ⟨.inr (.inr (.inl ())), rfl, rfl⟩⟩
            exact (Int.not_le.2 p2 (h h2).2).elim
          · rw [decide_eq_false p2]
            refine ⟨fun _ => rfl, fun h => absurd ⟨hi, hv, fun _ => ⟨Int.not_le.1 p1, Int.not_lt.1 p2⟩⟩ h⟩
      · rw [decide_eq_false (by omega)]
        refine ⟨fun _ => rfl, fun h => absurd ⟨hi, hv, fun h3 => absurd h3 h2⟩ h⟩
  · unfold spec_IsValidChain_D2
    simp only
    rw [decide_eq_false (by omega)]; rfl
theorem p_implC' {l : List VV} (hl : SmallC l) : impl_IsValidChain_S (l, ()) = bif dec (∀ i, i < l.length → okAt l i) then lastOK l else some (false, ()) := by
  unfold SmallC at hl
  rw [dec_congr (okAt_iff l)]
  unfold impl_IsValidChain_S
  refine all_loopK (n := l.length) (c := okAt' l) (fun i hi => ?_) ⟨.inr (.inr (.inr ())), ?_, rfl⟩
  · unfold impl_IsValidChain_D2
    simp only [lAt_nat hi, Option.bind_some, p_implV]
    rw [decide_eq_true (by omega)]
    simp only [cond_true, Option.bind_some]
    cases hv : okV l[i] with
    | false =>
      refine ⟨fun ⟨_, h, _⟩ => ?_, fun _ => ⟨_, rfl, rfl⟩⟩
      rw [hv] at h; cases h
    | true =>
      simp only [Bool.not_true, cond_false]
      rw [wrap_succ hi (by omega)]
      by_cases h2 : 0 < i
      · have hlt : i - 1 < l.length := by omega
        rw [decide_eq_true (show (i : Int) > 0 by omega), show IntKind.i64.wrap ((i : Int) - 1) = ((i - 1 : Nat) : Int) from by rw [wrap_id (by omega) (by omega)]; omega, lAt_nat hlt]
        simp only [cond_true, Option.bind_some]
        by_cases p1 : l[i - 1].2.2.1 ≥ l[i].2.2.1
        · rw [decide_eq_true p1]
          refine ⟨fun ⟨_, _, h⟩ => ?_, fun _ => ⟨_, rfl, rfl⟩⟩
          exact (Int.not_lt.2 p1 (h h2).1).elim
        · rw [decide_eq_false p1]
          simp only [cond_false]
          by_cases p2 : l[i - 1].2.2.2.2.1 > l[i].2.2.1
          · rw [decide_eq_true p2]
            refine ⟨fun ⟨_, _, h⟩ => ?_, fun _ => ⟨_, rfl, rfl⟩⟩
            exact (Int.not_le.2 p2 (h h2).2).elim
          · rw [decide_eq_false p2]
            refine ⟨fun _ => rfl, fun h => absurd ⟨hi, hv, fun _ => ⟨Int.not_le.1 p1, Int.not_lt.1 p2⟩⟩ h⟩
      · rw [decide_eq_false (show ¬ (i : Int) > 0 by omega)]
        refine ⟨fun _ => rfl, fun h => absurd ⟨hi, hv, fun h3 => absurd h3 h2⟩ h⟩
  · unfold impl_IsValidChain_D2
    simp only
    rw [decide_eq_false (by omega)]; rfl
/-- A valid chain. -/
def okC (l : List VV) : Prop := (∀ i, i < l.length → okAt l i) ∧ ∃ h : 0 < l.length, (l[l.length - 1]'(by omega)).2.2.2.2.1 = 1000
theorem p_chain {l : List VV} (hl : SmallC l) : (bif dec (∀ i, i < l.length → okAt l i) then lastOK l else some (false, ())) = some (dec (okC l), ()) := by
  unfold SmallC at hl
  by_cases h : ∀ i, i < l.length → okAt l i
  · rw [dec_true h]
    unfold lastOK
    simp only [cond_true]
    by_cases h0 : 0 < l.length
    · have hlt : l.length - 1 < l.length := by omega
      rw [decide_eq_true (by omega), show IntKind.i64.wrap (((l.length : Nat) : Int) - 1) = ((l.length - 1 : Nat) : Int) from by rw [wrap_id (by omega) (by omega)]; omega, lAt_nat hlt]
      simp only [cond_true, Option.bind_some, eq_int]
      rw [dec_eq]
      congr 2
      apply dec_congr
      exact ⟨fun e => ⟨h, h0, e⟩, fun ⟨_, _, e⟩ => e⟩
    · rw [decide_eq_false (show ¬ ((l.length : Nat) : Int) > 0 by omega), dec_false (fun ⟨_, h1, _⟩ => h0 h1)]; rfl
  · rw [dec_false h, dec_false (fun h1 => h h1.1)]; rfl
theorem p_specC {l : List VV} (hl : SmallC l) : spec_IsValidChain_S (l, ()) = some (dec (okC l), ()) := (p_specC' hl).trans (p_chain hl)
theorem p_implC {l : List VV} (hl : SmallC l) : impl_IsValidChain_S (l, ()) = some (dec (okC l), ()) := (p_implC' hl).trans (p_chain hl)

/-- A valid store. -/
def okSt (s : List (List VV)) : Prop := s.length = 6 ∧ ∀ c ∈ s, okC c ∧ c.length ≤ 50
theorem p_specS {s : List (List VV)} (hs : SmallCs s) : spec_IsValidStore_S ((s, ()), ()) = some (dec (okSt s), ()) := by
  have hn := hs.1
  have e : spec_IsValidStore_S ((s, ()), ()) = bif dec (∀ i, i < s.length → (∃ h : i < s.length, okC s[i] ∧ s[i].length ≤ 50)) then some ((((s.length : Nat) : Int) == 6), ()) else some (false, ()) := by
    unfold spec_IsValidStore_S
    refine all_loopK (n := s.length) (fun i hi => ?_) ⟨.inr (.inr (.inr (.inr ()))), ?_, rfl⟩
    · unfold spec_IsValidStore_D2
      have hsm := hs.2 _ (List.getElem_mem hi)
      simp only [lAt_nat hi, Option.bind_some, p_specC hsm]
      rw [decide_eq_true (by omega)]
      simp only [cond_true]
      by_cases hc : okC s[i]
      · have h0 : 0 < s[i].length := hc.2.1
        rw [dec_true hc, wrap_succ hi (by omega), show lAt s[i] 0 = some s[i][0] from lAt_nat h0]
        simp only [Bool.not_true, cond_false, Option.bind_some]
        by_cases hl : s[i].length ≤ 50
        · refine ⟨fun _ => ?_, fun h => absurd ⟨hi, hc, hl⟩ h⟩
          rw [decide_eq_false (show ¬ ((s[i].length : Nat) : Int) > 50 by omega)]
          cases decide ((s[i][0]).2.2.1 > 0) <;> rfl
        · refine ⟨fun ⟨_, _, h⟩ => absurd h hl, fun _ => ?_⟩
          rw [decide_eq_true (show ((s[i].length : Nat) : Int) > 50 by omega)]
          cases decide ((s[i][0]).2.2.1 > 0)
          · exact ⟨.inr (.inr (.inr (.inl ()))), rfl, rfl⟩
          · exact ⟨.inr (.inl ()), rfl, rfl⟩
      · rw [dec_false hc]
        exact ⟨fun ⟨_, h, _⟩ => absurd h hc, fun _ => ⟨.inl (), rfl, rfl⟩⟩
    · unfold spec_IsValidStore_D2
      simp only
      rw [decide_eq_false (by omega)]; rfl
  rw [e]
  by_cases h : ∀ i, i < s.length → (∃ h : i < s.length, okC s[i] ∧ s[i].length ≤ 50)
  · rw [dec_true h, eq_int, dec_eq]
    simp only [cond_true]
    congr 2
    apply dec_congr
    constructor
    · intro e
      refine ⟨by omega, fun c hc => ?_⟩
      obtain ⟨i, hi, rfl⟩ := List.getElem_of_mem hc
      exact (h i hi).2
    · rintro ⟨e, _⟩; omega
  · rw [dec_false h, dec_false (fun h1 : okSt s => h fun i hi => ⟨hi, h1.2 _ (List.getElem_mem hi)⟩)]; rfl

theorem p_valid1 {l : List VV} (hl : SmallC l) : impl_IsValidStore_1_S (l, ()) = some (dec (¬ (okC l ∧ l.length ≤ 50)), ()) := by
  unfold impl_IsValidStore_1_S
  simp only [p_implC hl, Option.bind_some]
  by_cases h : okC l
  · by_cases h2 : l.length ≤ 50
    · rw [dec_true h, decide_eq_false (show ¬ ((l.length : Nat) : Int) > 50 by omega), dec_false (fun hh => hh ⟨h, h2⟩)]; rfl
    · rw [dec_true h, decide_eq_true (show ((l.length : Nat) : Int) > 50 by omega), dec_true (fun hh => h2 hh.2)]; rfl
  · rw [dec_false h, dec_true (fun hh => h hh.1)]; rfl
/-- slices.IndexFunc and ContainsFunc: the first element of which something is so. -/
theorem indexFunc {α ρ : Type} {l : List α} {p : α → Prop} (hn : l.length ≤ 1048576) {B : Int × Unit → Option ((Int × Unit) ⊕ ((Int × Unit) ⊕ Unit))}
    (hB : ∀ i (h : i < l.length), B ((i : Int), ()) = some (bif dec (p l[i]) then .inr (.inl ((i : Int), ())) else .inl (((i + 1 : Nat) : Int), ()))) (hend : B ((l.length : Int), ()) = some (.inr (.inr ()))) :
    ∃ n : Int, ((iter B (0, ())).bind fun q => sumC q (fun q => some (q.1, ())) fun _ => some (-1, ())) = some (n, ()) ∧ ((∃ i : Nat, ∃ h : i < l.length, n = (i : Int) ∧ p l[i] ∧ ∀ j (hj : j < i), ¬ p (l[j]'(by omega))) ∨ (n = -1 ∧ ∀ x ∈ l, ¬ p x)) := by
  have key : ∀ m i : Nat, i + m = l.length → (∀ j (hj : j < l.length), j < i → ¬ p l[j]) → ∃ n : Int, ((iter B ((i : Int), ())).bind fun q => sumC q (fun q => some (q.1, ())) fun _ => some (-1, ())) = some (n, ()) ∧ ((∃ i : Nat, ∃ h : i < l.length, n = (i : Int) ∧ p l[i] ∧ ∀ j (hj : j < i), ¬ p (l[j]'(by omega))) ∨ (n = -1 ∧ ∀ x ∈ l, ¬ p x)) := by
    intro m
    induction m with
    | zero =>
      intro i hi hno
      obtain rfl : i = l.length := by omega
      rw [iter_eq, hend]
      refine ⟨-1, rfl, .inr ⟨rfl, fun x hx => ?_⟩⟩
      obtain ⟨j, hj, rfl⟩ := List.getElem_of_mem hx
      exact hno j hj hj
    | succ m ih =>
      intro i hi hno
      have hlt : i < l.length := by omega
      rw [iter_eq, hB i hlt]
      by_cases hp : p l[i]
      · rw [dec_true hp]
        exact ⟨(i : Int), rfl, .inl ⟨i, hlt, rfl, hp, fun j hj => hno j (by omega) hj⟩⟩
      · rw [dec_false hp]
        refine ih (i + 1) (by omega) fun j hj h => ?_
        by_cases e : j = i
        · subst e; exact hp
        · exact hno j hj (by omega)
  exact key l.length 0 (by omega) (fun j hj h => by omega)
theorem p_implS {s : List (List VV)} (hs : SmallCs s) : impl_IsValidStore_S ((s, ()), ()) = some (dec (okSt s), ()) := by
  have hn := hs.1
  unfold impl_IsValidStore_S slices_ContainsFunc_impl_Version_impl_Version__impl_IsValidStore_1_S slices_IndexFunc_impl_Version_impl_Version__impl_IsValidStore_1_S
  obtain ⟨n, e, h⟩ := indexFunc (ρ := Unit) (l := s) (p := fun c => ¬ (okC c ∧ c.length ≤ 50)) hn (B := fun v => slices_IndexFunc_impl_Version_impl_Version__impl_IsValidStore_1_D2 (s, (), ((s.length : Nat) : Int), ()) v _ some) (fun i hi => by
      unfold slices_IndexFunc_impl_Version_impl_Version__impl_IsValidStore_1_D2
      simp only [lAt_nat hi, Option.bind_some, p_valid1 (hs.2 _ (List.getElem_mem hi))]
      rw [decide_eq_true (by omega), wrap_succ hi (by omega)]
      simp only [cond_true]
      cases dec (¬ (okC s[i] ∧ s[i].length ≤ 50)) <;> rfl) (by
      unfold slices_IndexFunc_impl_Version_impl_Version__impl_IsValidStore_1_D2
      simp only
      rw [decide_eq_false (by omega)]; rfl)
  simp only [e, Option.bind_some, eq_int]
  by_cases h6 : s.length = 6
  · rw [decide_eq_true (show ((s.length : Nat) : Int) = 6 by omega)]
    simp only [cond_true]
    congr 2
    rcases h with ⟨i, hi, rfl, hp, _⟩ | ⟨rfl, hp⟩
    · rw [decide_eq_true (by omega), dec_false (fun hh : okSt s => hp (hh.2 _ (List.getElem_mem hi)))]; rfl
    · rw [decide_eq_false (by omega), dec_true (show okSt s from ⟨h6, fun c hc => Classical.not_not.1 (hp c hc)⟩)]; rfl
  · rw [decide_eq_false (by omega), dec_false (fun hh : okSt s => h6 hh.1)]; rfl
end Go.Ab
