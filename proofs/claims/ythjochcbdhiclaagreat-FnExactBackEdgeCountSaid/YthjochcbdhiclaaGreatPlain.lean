import Derived.Test.YthjochcbdhiclaaGreatBe2
import Derived.KernelRfl
set_option linter.unusedVariables false
set_option linter.unusedSimpArgs false
set_option linter.unusedSectionVars false
namespace Go.Ab
abbrev VM := Int × Int × Unit
abbrev VV := Int × Int × Int × Int × Int × Unit
theorem wr1 {k : Int} (h0 : 0 ≤ k) (h : k < 9223372036854775807) : IntKind.wrap IntKind.i64 (k + 1) = k + 1 := wrap_id (by omega) (by omega)
theorem iter_up' {σ ρ : Type} {B : σ → Option (σ ⊕ ρ)} {s0 : σ} {r : ρ} (n : Nat) (st : Nat → σ) (h0 : s0 = st 0) (hstep : ∀ i, i < n → B (st i) = some (.inl (st (i + 1)))) (hend : B (st n) = some (.inr r)) : iter B s0 = some r := by
  subst h0; exact iter_up st hstep hend
theorem iter_upK {σ ρ τ : Type} {B : σ → Option (σ ⊕ ρ)} {s0 : σ} {k : ρ → Option τ} {q : Option τ} (n : Nat) (st : Nat → σ) (h0 : s0 = st 0) (hstep : ∀ i, i < n → B (st i) = some (.inl (st (i + 1)))) (hend : ∃ r, B (st n) = some (.inr r) ∧ k r = q) : (iter B s0).bind k = q := by
  obtain ⟨r, h1, h2⟩ := hend
  rw [iter_up' n st h0 hstep h1]; exact h2
def enSS : Int → List (List VV) → Int
  | k, [] => k
  | k, r :: rs => enSS (k + 5 * r.length) rs
theorem enSS_ge (k : Int) (xss : List (List VV)) : k ≤ enSS k xss := by
  induction xss generalizing k with
  | nil => exact Int.le_refl k
  | cons r rs ih => have := ih (k + 5 * r.length); simp only [enSS]; omega
theorem all_loopK {ρ τ : Type} {B : Int × Unit → Option ((Int × Unit) ⊕ ρ)} {k : ρ → Option τ} {n : Nat} {c : Nat → Prop} {X no : Option τ}
    (hB : ∀ i, i < n → (c i → B ((i : Int), ()) = some (.inl (((i + 1 : Nat) : Int), ()))) ∧ (¬ c i → ∃ r, B ((i : Int), ()) = some (.inr r) ∧ k r = no))
    (hend : ∃ r, B ((n : Int), ()) = some (.inr r) ∧ k r = X) :
    (iter B (0, ())).bind k = bif dec (∀ i, i < n → c i) then X else no := by
  have key : ∀ m i : Nat, i + m = n → (iter B ((i : Int), ())).bind k = bif dec (∀ j, i ≤ j → j < n → c j) then X else no := by
    intro m
    induction m with
    | zero =>
      intro i hi
      obtain rfl : i = n := by omega
      obtain ⟨r, h1, h2⟩ := hend
      rw [iter_eq, h1, dec_true (fun j h1 h2 => by omega)]; exact h2
    | succ m ih =>
      intro i hi
      by_cases hc : c i
      · rw [iter_eq, (hB i (by omega)).1 hc]
        simp only [Option.bind_some]
        rw [ih (i + 1) (by omega)]
        congr 1
        apply dec_congr
        constructor
        · intro h j h1 h2
          by_cases e : j = i
          · rw [e]; exact hc
          · exact h j (by omega) h2
        · intro h j h1 h2; exact h j (by omega) h2
      · obtain ⟨r, h1, h2⟩ := (hB i (by omega)).2 hc
        rw [iter_eq, h1, dec_false (fun h => hc (h i (Nat.le_refl _) (by omega)))]; exact h2
  have := key n 0 (by omega)
  simp only [Int.natCast_zero, Nat.zero_le, true_implies] at this
  exact this
theorem fold_loopK {σ α ρ τ : Type} {l : List α} {f : σ → α → σ} {B : σ × Int × Unit → Option ((σ × Int × Unit) ⊕ ρ)} {k : ρ → Option τ} {X : σ → Option τ} {q : Option τ} (n0 : σ) (hB : ∀ (i : Nat) (h : i < l.length) (n : σ), B (n, (i : Int), ()) = some (.inl (f n l[i], ((i + 1 : Nat) : Int), ())))
    (hend : ∀ n, ∃ r, B (n, (l.length : Int), ()) = some (.inr r) ∧ k r = X n) (hq : X (l.foldl f n0) = q) : (iter B (n0, 0, ())).bind k = q := by
  have key : ∀ m i : Nat, i + m = l.length → ∀ n, (iter B (n, (i : Int), ())).bind k = X ((l.drop i).foldl f n) := by
    intro m
    induction m with
    | zero =>
      intro i hi n
      obtain rfl : i = l.length := by omega
      obtain ⟨r, h1, h2⟩ := hend n
      rw [iter_eq, h1]; simpa using h2
    | succ m ih =>
      intro i hi n
      have h : i < l.length := by omega
      rw [iter_eq, hB i h, List.drop_eq_getElem_cons h]
      simp only [Option.bind_some]
      rw [ih (i + 1) (by omega)]; rfl
  have := key l.length 0 (by omega) n0
  simpa [hq] using this
def SmallC (a : List VV) : Prop := a.length ≤ 1048576
def SmallCs (a : List (List VV)) : Prop := a.length ≤ 1048576 ∧ ∀ e ∈ a, SmallC e
theorem p_specIn (x lo hi : Int) : spec_l1In_S (x, lo, hi, ()) = some (inB x lo hi, ()) := by
  unfold spec_l1In_S inB
  by_cases h : lo ≤ x <;> simp [h]
theorem p_implIn (x lo hi : Int) : impl_in_S (x, lo, hi, ()) = some (inB x lo hi, ()) := by
  unfold impl_in_S inB
  by_cases h : lo ≤ x <;> simp [h]
theorem p_isKey (x : Int) : impl_isKey_S (x, ()) = some (inB x 0 5, ()) := by simp [impl_isKey_S, p_implIn]
theorem p_isID (x : Int) : impl_isID_S (x, ()) = some (inB x 1 9, ()) := by simp [impl_isID_S, p_implIn]
theorem p_isValue (x : Int) : impl_isValue_S (x, ()) = some (inB x (-1) 99, ()) := by simp [impl_isValue_S, p_implIn]
def okV (v : VV) : Bool := inB v.2.1 (-1) 99 && inB v.2.2.1 0 999 && inB v.2.2.2.1 v.2.2.1 999 && inB v.2.2.2.2.1 1 1000 && (bif v.2.2.1 == 0 then (bif v.1 == 0 then v.2.1 == -1 else false) else inB v.1 1 9)
theorem p_specV (v : VV) : spec_IsValidVersion_S (v, ()) = some (okV v, ()) := by
  unfold spec_IsValidVersion_S okV
  simp only [p_specIn, Option.bind_some]
  cases inB v.2.1 (-1) 99 <;> cases inB v.2.2.1 0 999 <;> cases inB v.2.2.2.1 v.2.2.1 999 <;> cases inB v.2.2.2.2.1 1 1000 <;> cases (v.2.2.1 == 0 : Bool) <;> cases (v.1 == 0 : Bool) <;> simp
theorem p_implV (v : VV) : impl_IsValidVersion_S (v, ()) = some (okV v, ()) := by
  unfold impl_IsValidVersion_S okV
  simp only [p_implIn, p_isValue, p_isID, Option.bind_some]
  cases inB v.2.1 (-1) 99 <;> cases inB v.2.2.1 0 999 <;> cases inB v.2.2.2.1 v.2.2.1 999 <;> cases inB v.2.2.2.2.1 1 1000 <;> cases (v.2.2.1 == 0 : Bool) <;> cases (v.1 == 0 : Bool) <;> simp
theorem okV_le {v : VV} (h : okV v = true) : v.2.2.1 ≤ v.2.2.2.1 := by
  unfold okV at h
  simp only [Bool.and_eq_true] at h
  have := h.1.1.2
  unfold inB at this
  simp only [Bool.and_eq_true, decide_eq_true_eq] at this
  exact this.1
def okP (v w : VV) : Prop := v.2.2.1 < w.2.2.1 ∧ v.2.2.2.2.1 ≤ w.2.2.1
def okAt (l : List VV) (i : Nat) : Prop := ∃ h : i < l.length, okV l[i] = true ∧ ∀ h2 : i + 1 < l.length, okP l[i] l[i + 1]
def okAt' (l : List VV) (i : Nat) : Prop := ∃ h : i < l.length, okV l[i] = true ∧ ∀ h2 : 0 < i, okP (l[i - 1]'(by omega)) l[i]
theorem okAt_iff (l : List VV) : (∀ i, i < l.length → okAt l i) ↔ ∀ i, i < l.length → okAt' l i := by
  constructor
  · intro H i h
    obtain ⟨_, h1, _⟩ := H i h
    refine ⟨h, h1, fun h2 => ?_⟩
    obtain ⟨_, _, h4⟩ := H (i - 1) (by omega)
    have := h4 (by omega)
    simpa [show i - 1 + 1 = i by omega] using this
  · intro H i h
    obtain ⟨_, h1, _⟩ := H i h
    refine ⟨h, h1, fun h2 => ?_⟩
    obtain ⟨_, _, h4⟩ := H (i + 1) h2
    exact h4 (by omega)
def lastOK (l : List VV) : Option (Bool × Unit) := bif decide (((l.length : Nat) : Int) > 0) then (lAt l (IntKind.i64.wrap (((l.length : Nat) : Int) - 1))).bind fun e => some ((e.2.2.2.2.1 == 1000), ()) else some (false, ())
theorem p_specC' {l : List VV} (hl : SmallC l) : spec_IsValidChain_S (l, ()) = bif dec (∀ i, i < l.length → okAt l i) then lastOK l else some (false, ()) := by
  unfold SmallC at hl
  unfold spec_IsValidChain_S
  refine all_loopK (n := l.length) (c := okAt l) (fun i hi => ?_) ⟨.inr (.inr (.inr ())), ?_, rfl⟩
  · unfold spec_IsValidChain_D2
    simp only [lAt_nat hi, Option.bind_some, p_specV]
    rw [decide_eq_true (by omega)]
    simp only [cond_true, Option.bind_some]
    cases hv : okV l[i] with
    | false =>
      refine ⟨fun ⟨_, h, _⟩ => ?_, fun _ => ⟨.inl (), rfl, rfl⟩⟩
      rw [hv] at h; cases h
    | true =>
      simp only [Bool.not_true, cond_false]
      rw [wrap_succ hi (by omega)]
      by_cases h2 : i + 1 < l.length
      · rw [decide_eq_true (by omega), lAt_nat h2]
        simp only [cond_true, Option.bind_some]
        by_cases p1 : l[i].2.2.1 ≥ l[i + 1].2.2.1
        · rw [decide_eq_true p1]
          refine ⟨fun ⟨_, _, h⟩ => ?_, fun _ => ⟨.inr (.inl ()), rfl, rfl⟩⟩
          exact (Int.not_lt.2 p1 (h h2).1).elim
        · rw [decide_eq_false p1]
          simp only [cond_false]
          by_cases p2 : l[i].2.2.2.2.1 > l[i + 1].2.2.1
          · rw [decide_eq_true p2]
            refine ⟨fun ⟨_, _, h⟩ => ?_, fun _ => ⟨.inr (.inr (.inl ())), rfl, rfl⟩⟩
            exact (Int.not_le.2 p2 (h h2).2).elim
          · rw [decide_eq_false p2]
            refine ⟨fun _ => rfl, fun h => absurd ⟨hi, hv, fun _ => ⟨Int.not_le.1 p1, Int.not_lt.1 p2⟩⟩ h⟩
      · rw [decide_eq_false (by omega)]
        refine ⟨fun _ => rfl, fun h => absurd ⟨hi, hv, fun h3 => absurd h3 h2⟩ h⟩
  · unfold spec_IsValidChain_D2
    simp only
    rw [decide_eq_false (by omega)]; rfl
theorem p_implC' {l : List VV} (hl : SmallC l) : impl_IsValidChain_S (l, ()) = bif dec (∀ i, i < l.length → okAt l i) then lastOK l else some (false, ()) := by
  unfold SmallC at hl
  rw [dec_congr (okAt_iff l)]
  unfold impl_IsValidChain_S
  refine all_loopK (n := l.length) (c := okAt' l) (fun i hi => ?_) ⟨.inr (.inr (.inr ())), ?_, rfl⟩
  · unfold impl_IsValidChain_D2
    simp only [lAt_nat hi, Option.bind_some, p_implV]
    rw [decide_eq_true (by omega)]
    simp only [cond_true, Option.bind_some]
    cases hv : okV l[i] with
    | false =>
      refine ⟨fun ⟨_, h, _⟩ => ?_, fun _ => ⟨_, rfl, rfl⟩⟩
      rw [hv] at h; cases h
    | true =>
      simp only [Bool.not_true, cond_false]
      rw [wrap_succ hi (by omega)]
      by_cases h2 : 0 < i
      · have hlt : i - 1 < l.length := by omega
        rw [decide_eq_true (show (i : Int) > 0 by omega), show IntKind.i64.wrap ((i : Int) - 1) = ((i - 1 : Nat) : Int) from by rw [wrap_id (by omega) (by omega)]; omega, lAt_nat hlt]
        simp only [cond_true, Option.bind_some]
        by_cases p1 : l[i - 1].2.2.1 ≥ l[i].2.2.1
        · rw [decide_eq_true p1]
          refine ⟨fun ⟨_, _, h⟩ => ?_, fun _ => ⟨_, rfl, rfl⟩⟩
          exact (Int.not_lt.2 p1 (h h2).1).elim
        · rw [decide_eq_false p1]
          simp only [cond_false]
          by_cases p2 : l[i - 1].2.2.2.2.1 > l[i].2.2.1
          · rw [decide_eq_true p2]
            refine ⟨fun ⟨_, _, h⟩ => ?_, fun _ => ⟨_, rfl, rfl⟩⟩
            exact (Int.not_le.2 p2 (h h2).2).elim
          · rw [decide_eq_false p2]
            refine ⟨fun _ => rfl, fun h => absurd ⟨hi, hv, fun _ => ⟨Int.not_le.1 p1, Int.not_lt.1 p2⟩⟩ h⟩
      · rw [decide_eq_false (show ¬ (i : Int) > 0 by omega)]
        refine ⟨fun _ => rfl, fun h => absurd ⟨hi, hv, fun h3 => absurd h3 h2⟩ h⟩
  · unfold impl_IsValidChain_D2
    simp only
    rw [decide_eq_false (by omega)]; rfl
def okC (l : List VV) : Prop := (∀ i, i < l.length → okAt l i) ∧ ∃ h : 0 < l.length, (l[l.length - 1]'(by omega)).2.2.2.2.1 = 1000
theorem p_chain {l : List VV} (hl : SmallC l) : (bif dec (∀ i, i < l.length → okAt l i) then lastOK l else some (false, ())) = some (dec (okC l), ()) := by
  unfold SmallC at hl
  by_cases h : ∀ i, i < l.length → okAt l i
  · rw [dec_true h]
    unfold lastOK
    simp only [cond_true]
    by_cases h0 : 0 < l.length
    · have hlt : l.length - 1 < l.length := by omega
      rw [decide_eq_true (by omega), show IntKind.i64.wrap (((l.length : Nat) : Int) - 1) = ((l.length - 1 : Nat) : Int) from by rw [wrap_id (by omega) (by omega)]; omega, lAt_nat hlt]
      simp only [cond_true, Option.bind_some, eq_int]
      rw [dec_eq]
      congr 2
      apply dec_congr
      exact ⟨fun e => ⟨h, h0, e⟩, fun ⟨_, _, e⟩ => e⟩
    · rw [decide_eq_false (show ¬ ((l.length : Nat) : Int) > 0 by omega), dec_false (fun ⟨_, h1, _⟩ => h0 h1)]; rfl
  · rw [dec_false h, dec_false (fun h1 => h h1.1)]; rfl
theorem p_specC {l : List VV} (hl : SmallC l) : spec_IsValidChain_S (l, ()) = some (dec (okC l), ()) := (p_specC' hl).trans (p_chain hl)
theorem p_implC {l : List VV} (hl : SmallC l) : impl_IsValidChain_S (l, ()) = some (dec (okC l), ()) := (p_implC' hl).trans (p_chain hl)
def okSt (s : List (List VV)) : Prop := s.length = 6 ∧ ∀ c ∈ s, okC c ∧ c.length ≤ 50
theorem p_specS {s : List (List VV)} (hs : SmallCs s) : spec_IsValidStore_S ((s, ()), ()) = some (dec (okSt s), ()) := by
  have hn := hs.1
  have e : spec_IsValidStore_S ((s, ()), ()) = bif dec (∀ i, i < s.length → (∃ h : i < s.length, okC s[i] ∧ s[i].length ≤ 50)) then some ((((s.length : Nat) : Int) == 6), ()) else some (false, ()) := by
    unfold spec_IsValidStore_S
    refine all_loopK (n := s.length) (fun i hi => ?_) ⟨.inr (.inr (.inr (.inr ()))), ?_, rfl⟩
    · unfold spec_IsValidStore_D2
      have hsm := hs.2 _ (List.getElem_mem hi)
      simp only [lAt_nat hi, Option.bind_some, p_specC hsm]
      rw [decide_eq_true (by omega)]
      simp only [cond_true]
      by_cases hc : okC s[i]
      · have h0 : 0 < s[i].length := hc.2.1
        rw [dec_true hc, wrap_succ hi (by omega), show lAt s[i] 0 = some s[i][0] from lAt_nat h0]
        simp only [Bool.not_true, cond_false, Option.bind_some]
        by_cases hl : s[i].length ≤ 50
        · refine ⟨fun _ => ?_, fun h => absurd ⟨hi, hc, hl⟩ h⟩
          rw [decide_eq_false (show ¬ ((s[i].length : Nat) : Int) > 50 by omega)]
          cases decide ((s[i][0]).2.2.1 > 0) <;> rfl
        · refine ⟨fun ⟨_, _, h⟩ => absurd h hl, fun _ => ?_⟩
          rw [decide_eq_true (show ((s[i].length : Nat) : Int) > 50 by omega)]
          cases decide ((s[i][0]).2.2.1 > 0)
          · exact ⟨.inr (.inr (.inr (.inl ()))), rfl, rfl⟩
          · exact ⟨.inr (.inl ()), rfl, rfl⟩
      · rw [dec_false hc]
        exact ⟨fun ⟨_, h, _⟩ => absurd h hc, fun _ => ⟨.inl (), rfl, rfl⟩⟩
    · unfold spec_IsValidStore_D2
      simp only
      rw [decide_eq_false (by omega)]; rfl
  rw [e]
  by_cases h : ∀ i, i < s.length → (∃ h : i < s.length, okC s[i] ∧ s[i].length ≤ 50)
  · rw [dec_true h, eq_int, dec_eq]
    simp only [cond_true]
    congr 2
    apply dec_congr
    constructor
    · intro e
      refine ⟨by omega, fun c hc => ?_⟩
      obtain ⟨i, hi, rfl⟩ := List.getElem_of_mem hc
      exact (h i hi).2
    · rintro ⟨e, _⟩; omega
  · rw [dec_false h, dec_false (fun h1 : okSt s => h fun i hi => ⟨hi, h1.2 _ (List.getElem_mem hi)⟩)]; rfl
theorem p_valid1 {l : List VV} (hl : SmallC l) : impl_IsValidStore_1_S (l, ()) = some (dec (¬ (okC l ∧ l.length ≤ 50)), ()) := by
  unfold impl_IsValidStore_1_S
  simp only [p_implC hl, Option.bind_some]
  by_cases h : okC l
  · by_cases h2 : l.length ≤ 50
    · rw [dec_true h, decide_eq_false (show ¬ ((l.length : Nat) : Int) > 50 by omega), dec_false (fun hh => hh ⟨h, h2⟩)]; rfl
    · rw [dec_true h, decide_eq_true (show ((l.length : Nat) : Int) > 50 by omega), dec_true (fun hh => h2 hh.2)]; rfl
  · rw [dec_false h, dec_true (fun hh => h hh.1)]; rfl
theorem indexFunc {α ρ : Type} {l : List α} {p : α → Prop} (hn : l.length ≤ 1048576) {B : Int × Unit → Option ((Int × Unit) ⊕ ((Int × Unit) ⊕ Unit))}
    (hB : ∀ i (h : i < l.length), B ((i : Int), ()) = some (bif dec (p l[i]) then .inr (.inl ((i : Int), ())) else .inl (((i + 1 : Nat) : Int), ()))) (hend : B ((l.length : Int), ()) = some (.inr (.inr ()))) :
    ∃ n : Int, ((iter B (0, ())).bind fun q => sumC q (fun q => some (q.1, ())) fun _ => some (-1, ())) = some (n, ()) ∧ ((∃ i : Nat, ∃ h : i < l.length, n = (i : Int) ∧ p l[i] ∧ ∀ j (hj : j < i), ¬ p (l[j]'(by omega))) ∨ (n = -1 ∧ ∀ x ∈ l, ¬ p x)) := by
  have key : ∀ m i : Nat, i + m = l.length → (∀ j (hj : j < l.length), j < i → ¬ p l[j]) → ∃ n : Int, ((iter B ((i : Int), ())).bind fun q => sumC q (fun q => some (q.1, ())) fun _ => some (-1, ())) = some (n, ()) ∧ ((∃ i : Nat, ∃ h : i < l.length, n = (i : Int) ∧ p l[i] ∧ ∀ j (hj : j < i), ¬ p (l[j]'(by omega))) ∨ (n = -1 ∧ ∀ x ∈ l, ¬ p x)) := by
    intro m
    induction m with
    | zero =>
      intro i hi hno
      obtain rfl : i = l.length := by omega
      rw [iter_eq, hend]
      refine ⟨-1, rfl, .inr ⟨rfl, fun x hx => ?_⟩⟩
      obtain ⟨j, hj, rfl⟩ := List.getElem_of_mem hx
      exact hno j hj hj
    | succ m ih =>
      intro i hi hno
      have hlt : i < l.length := by omega
      rw [iter_eq, hB i hlt]
      by_cases hp : p l[i]
      · rw [dec_true hp]
        exact ⟨(i : Int), rfl, .inl ⟨i, hlt, rfl, hp, fun j hj => hno j (by omega) hj⟩⟩
      · rw [dec_false hp]
        refine ih (i + 1) (by omega) fun j hj h => ?_
        by_cases e : j = i
        · subst e; exact hp
        · exact hno j hj (by omega)
  exact key l.length 0 (by omega) (fun j hj h => by omega)
theorem p_implS {s : List (List VV)} (hs : SmallCs s) : impl_IsValidStore_S ((s, ()), ()) = some (dec (okSt s), ()) := by
  have hn := hs.1
  unfold impl_IsValidStore_S slices_ContainsFunc__impl_IsValidStore_1_S slices_IndexFunc__impl_IsValidStore_1_S
  obtain ⟨n, e, h⟩ := indexFunc (ρ := Unit) (l := s) (p := fun c => ¬ (okC c ∧ c.length ≤ 50)) hn (B := fun v => slices_IndexFunc__impl_IsValidStore_1_D2 (s, (), ((s.length : Nat) : Int), ()) v _ some) (fun i hi => by
      unfold slices_IndexFunc__impl_IsValidStore_1_D2
      simp only [lAt_nat hi, Option.bind_some, p_valid1 (hs.2 _ (List.getElem_mem hi))]
      rw [decide_eq_true (by omega), wrap_succ hi (by omega)]
      simp only [cond_true]
      cases dec (¬ (okC s[i] ∧ s[i].length ≤ 50)) <;> rfl) (by
      unfold slices_IndexFunc__impl_IsValidStore_1_D2
      simp only
      rw [decide_eq_false (by omega)]; rfl)
  simp only [e, Option.bind_some, eq_int]
  by_cases h6 : s.length = 6
  · rw [decide_eq_true (show ((s.length : Nat) : Int) = 6 by omega)]
    simp only [cond_true]
    congr 2
    rcases h with ⟨i, hi, rfl, hp, _⟩ | ⟨rfl, hp⟩
    · rw [decide_eq_true (by omega), dec_false (fun hh : okSt s => hp (hh.2 _ (List.getElem_mem hi)))]; rfl
    · rw [decide_eq_false (by omega), dec_true (show okSt s from ⟨h6, fun c hc => Classical.not_not.1 (hp c hc)⟩)]; rfl
  · rw [decide_eq_false (by omega), dec_false (fun hh : okSt s => h6 hh.1)]; rfl
def lastC (n : Int) (l : List VV) : Int := l.foldl (fun n v => mx n v.2.2.2.1) n
theorem p_implLast {s : List (List VV)} (hs : SmallCs s) : impl_Store_lastStamp_S ((s, ()), ()) = some (s.foldl lastC 0, ()) := by
  have hn := hs.1
  unfold impl_Store_lastStamp_S
  refine fold_loopK (l := s) (f := lastC) (X := fun n => some (n, ())) 0 (fun i h n => ?_) (fun n => ⟨(n, ()), ?_, rfl⟩) rfl
  · unfold impl_Store_lastStamp_D3
    have hsm : s[i].length ≤ 1048576 := hs.2 _ (List.getElem_mem h)
    simp only [lAt_nat h, Option.bind_some]
    rw [decide_eq_true (by omega), wrap_succ h (by omega)]
    simp only [cond_true]
    refine fold_loopK (l := s[i]) (f := fun n v => mx n v.2.2.2.1) (X := fun n => some (.inl (n, ((i + 1 : Nat) : Int), ()))) n (fun j hj n => ?_) (fun n => ⟨(n, ()), ?_, rfl⟩) rfl
    · unfold impl_Store_lastStamp_D6
      simp only [lAt_nat hj, Option.bind_some]
      rw [decide_eq_true (by omega), wrap_succ hj (by omega)]; rfl
    · unfold impl_Store_lastStamp_D6
      simp only
      rw [decide_eq_false (by omega)]; rfl
  · unfold impl_Store_lastStamp_D3
    simp only
    rw [decide_eq_false (by omega)]; rfl
theorem foldl_mem {α σ : Type} {f g : σ → α → σ} : (l : List α) → (∀ x ∈ l, ∀ n, f n x = g n x) → ∀ n, l.foldl f n = l.foldl g n
  | [], _, _ => rfl
  | x :: l, h, n => by
    simp only [List.foldl_cons]
    rw [h x (by simp)]
    exact foldl_mem l (fun y hy => h y (by simp [hy])) _
theorem mx_mx {n a b : Int} (h : a ≤ b) : mx (mx n a) b = mx n b := by
  unfold mx; repeat' split
  all_goals omega
theorem p_specLast {s : List (List VV)} (hs : SmallCs s) (hok : okSt s) : spec_LastStamp_S ((s, ()), ()) = some (s.foldl lastC 0, ()) := by
  have hn := hs.1
  unfold spec_LastStamp_S
  refine fold_loopK (l := s) (f := lastC) (X := fun n => some (n, ())) 0 (fun i h n => ?_) (fun n => ⟨.inr (n, ()), ?_, rfl⟩) rfl
  · unfold spec_LastStamp_D3
    have hsm : s[i].length ≤ 1048576 := hs.2 _ (List.getElem_mem h)
    simp only [p_specS hs, dec_true hok, Option.bind_some]
    rw [decide_eq_true (by omega), wrap_succ h (by omega)]
    simp only [cond_true]
    have hc := (hok.2 _ (List.getElem_mem h)).1
    refine fold_loopK (l := s[i]) (f := fun n v => mx (mx n v.2.2.1) v.2.2.2.1) (X := fun n => some (.inl (n, ((i + 1 : Nat) : Int), ()))) n (fun j hj n => ?_) (fun n => ⟨(n, ()), ?_, rfl⟩) ?_
    · unfold spec_LastStamp_D6
      simp only [lAt_nat h, lAt_nat hj, Option.bind_some]
      rw [decide_eq_true (by omega), wrap_succ hj (by omega)]; rfl
    · unfold spec_LastStamp_D6
      simp only [lAt_nat h, Option.bind_some]
      rw [decide_eq_false (by omega)]; rfl
    · rw [foldl_mem (g := fun n (v : VV) => mx n v.2.2.2.1) s[i] (fun v hv n => ?_) n]
      · rfl
      · obtain ⟨k, hk, rfl⟩ := List.getElem_of_mem hv
        obtain ⟨_, h1, _⟩ := hc.1 k hk
        exact mx_mx (okV_le h1)
  · unfold spec_LastStamp_D3
    simp only
    rw [decide_eq_false (by omega)]; rfl
theorem copy_loopK {α : Type} {a : List α} {z : α} (ha : a.length ≤ 1048576) {B : Int × List α × Unit → Option ((Int × List α × Unit) ⊕ (List α × Unit))}
    (hB : ∀ (i : Nat) (h : i < a.length) (out : List α), out.length = a.length → B ((i : Int), out, ()) = some (.inl (((i + 1 : Nat) : Int), out.set i a[i], ()))) (hend : ∀ out, B ((a.length : Int), out, ()) = some (.inr (out, ()))) :
    ((iter B (0, List.replicate a.length z, ())).bind fun p => some (p.1, ())) = some (a, ()) := by
  rw [iter_up' (r := (a, ())) a.length (fun i => ((i : Int), a.take i ++ List.replicate (a.length - i) z, ()))]
  · rfl
  · simp
  · intro i hi
    rw [hB i hi _ (by simp; omega)]
    congr 3
    congr 1
    apply List.ext_getElem
    · simp; omega
    · intro j h1 h2
      simp at h1 h2
      rw [List.getElem_set]
      by_cases he : i = j
      · subst he
        simp only [if_true]
        rw [List.getElem_append_left (by simp; omega)]
        simp
      · rw [if_neg he]
        by_cases hlt : j < i
        · rw [List.getElem_append_left (by simp; omega), List.getElem_append_left (by simp; omega)]; simp
        · rw [List.getElem_append_right (by simp; omega), List.getElem_append_right (by simp; omega)]; simp
  · simp [hend]
theorem sz_listK {α : Type} {Small : α → Prop} {F : α → Int → Option (Int × Unit)} {a : List α} (ha : a.length ≤ maxLen) (hF : ∀ e ∈ a, ∀ l, 0 ≤ l → l ≤ 1048576 → SzOK (Small e) (F e l)) {B : Int × Int × Unit → Option ((Int × Int × Unit) ⊕ ((Int × Unit) ⊕ (Int × Unit)))}
    (hB : ∀ l i : Int, B (l, i, ()) = bif decide (i < ((a.length : Nat) : Int)) then (lAt a i).bind fun e => (F e l).bind fun r => bif decide (r.1 < 0) then some (.inr (.inl (r.1, ()))) else some (.inl (r.1, IntKind.i64.wrap (i + 1), ())) else some (.inr (.inr (l, ())))) {l : Int} (h0 : 0 ≤ l) (h1 : l ≤ 1048576) :
    SzOK (a.length ≤ 1048576 ∧ ∀ e ∈ a, Small e) (bif decide (IntKind.i64.wrap (l - ((a.length : Nat) : Int)) < 0) then some (-1, ()) else (iter B (IntKind.i64.wrap (l - ((a.length : Nat) : Int)), 0, ())).bind fun q => sumC q (fun _ => some (-1, ())) fun b => some (b.1, ())) := by
  unfold maxLen at ha
  rw [wrap_id (by omega) (by omega)]
  by_cases h : l - (a.length : Int) < 0
  · rw [decide_eq_true h]; exact ⟨_, rfl, .inl (by omega)⟩
  rw [decide_eq_false h]
  have key : ∀ k i : Nat, i + k = a.length → ∀ l : Int, 0 ≤ l → l ≤ 1048576 → ∃ p, iter B (l, (i : Int), ()) = some p ∧ ((∃ n, p = .inl n) ∨ ∃ n, p = .inr (n, ()) ∧ 0 ≤ n ∧ n ≤ 1048576 ∧ ∀ e ∈ a.drop i, Small e) := by
    intro k
    induction k with
    | zero =>
      intro i hi l h0 h1
      rw [iter_eq, hB, decide_eq_false (by omega)]
      exact ⟨_, rfl, .inr ⟨l, rfl, h0, h1, fun e he => by rw [List.drop_eq_nil_iff.2 (by omega)] at he; cases he⟩⟩
    | succ k ih =>
      intro i hi l h0 h1
      have hlt : i < a.length := by omega
      rw [iter_eq, hB, decide_eq_true (by omega), lAt_nat hlt]
      obtain ⟨n, e1, h2⟩ := hF a[i] (List.getElem_mem hlt) l h0 h1
      simp only [cond_true, Option.bind_some, e1]
      rcases h2 with h2 | ⟨h2, h3, h4⟩
      · rw [decide_eq_true h2]; exact ⟨_, rfl, .inl ⟨(n, ()), rfl⟩⟩
      · rw [decide_eq_false (show ¬ n < 0 by omega), wrap_succ hlt (by omega)]
        obtain ⟨p, e2, h5⟩ := ih (i + 1) (by omega) n h2 h3
        refine ⟨p, e2, h5.imp id ?_⟩
        rintro ⟨m, rfl, h6, h7, h8⟩
        refine ⟨m, rfl, h6, h7, fun e he => ?_⟩
        rw [List.drop_eq_getElem_cons hlt] at he
        rcases List.mem_cons.1 he with rfl | he
        · exact h4
        · exact h8 e he
  obtain ⟨p, e1, h2⟩ := key a.length 0 (by omega) (l - a.length) (by omega) (by omega)
  simp only [Int.natCast_zero] at e1
  have e1' : iter B (l - (a.length : Int), 0, ()) = some p := e1
  rw [cond_false, e1']
  rcases h2 with ⟨n, rfl⟩ | ⟨n, rfl, h3, h4, h5⟩
  · exact ⟨_, rfl, .inl (by omega)⟩
  · exact ⟨_, rfl, .inr ⟨h3, h4, by omega, by simpa using h5⟩⟩
theorem p_toVersionS (a : List VV) (ha : a.length ≤ 1048576) : laws_toVersionS_S (a, ()) = some (a, ()) := by
  unfold laws_toVersionS_S
  simp only
  rw [if_pos (by omega), Int.toNat_natCast]
  refine copy_loopK ha (fun i h out ho => ?_) fun out => ?_
  · unfold laws_toVersionS_D3
    simp only [lAt_nat h, Option.bind_some, laws_toVersion_S]
    rw [decide_eq_true (by omega), if_pos (by omega), wrap_succ h (by omega)]
    simp [ho, h]
  · unfold laws_toVersionS_D3
    simp only
    rw [decide_eq_false (by omega)]; rfl
theorem p_szVersionS {a : List VV} {l : Int} (ha : a.length ≤ maxLen) (h0 : 0 ≤ l) (h1 : l ≤ 1048576) : SzOK (a.length ≤ 1048576) (laws_szVersionS_S (a, l, ())) := sz_flat ha h0 h1
theorem p_toVersionSS (a : List (List VV)) (ha : SmallCs a) : laws_toVersionSS_S (a, ()) = some (a, ()) := by
  have hn := ha.1
  unfold laws_toVersionSS_S
  simp only
  rw [if_pos (by omega), Int.toNat_natCast]
  refine copy_loopK hn (fun i h out ho => ?_) fun out => ?_
  · unfold laws_toVersionSS_D3
    simp only [lAt_nat h, Option.bind_some, p_toVersionS _ (ha.2 _ (List.getElem_mem h))]
    rw [decide_eq_true (by omega), if_pos (by omega), wrap_succ h (by omega)]
    simp [ho, h]
  · unfold laws_toVersionSS_D3
    simp only
    rw [decide_eq_false (by omega)]; rfl
theorem p_szVersionSS {a : List (List VV)} {l : Int} (ha : a.length ≤ maxLen) (hb : ∀ e ∈ a, e.length ≤ maxLen) (h0 : 0 ≤ l) (h1 : l ≤ 1048576) : SzOK (SmallCs a) (laws_szVersionSS_S (a, l, ())) :=
  sz_listK (Small := SmallC) (F := fun e l => laws_szVersionS_S (e, l, ())) ha (fun e he l h0 h1 => p_szVersionS (hb e he) h0 h1) (fun l i => rfl) h0 h1
theorem p_szStore {a : List (List VV)} {l : Int} (ha : a.length ≤ maxLen) (hb : ∀ e ∈ a, e.length ≤ maxLen) (h0 : 0 ≤ l) (h1 : l ≤ 1048576) : SzOK (SmallCs a) (laws_szStore_S ((a, ()), l, ())) := sz_again (p_szVersionSS ha hb h0 h1)
theorem p_toStore (a : List (List VV)) (ha : SmallCs a) : laws_toStore_S ((a, ()), ()) = some (a, ()) := by
  simp [laws_toStore_S, p_toVersionSS a ha]
theorem enSS_le {a : List (List VV)} : ∀ (k : Int), (∀ e ∈ a, e.length ≤ 1048576) → enSS k a ≤ k + 5242880 * a.length := by
  induction a with
  | nil => intro k _; simp [enSS]
  | cons r rs ih =>
    intro k h
    have h1 := ih (k + 5 * r.length) (fun e he => h e (List.mem_cons_of_mem _ he))
    have h2 := h r (List.mem_cons_self ..)
    simp only [enSS, List.length_cons]
    push_cast
    omega
def smallC (a : List (List VV)) : Prop := a.length < 9223372036854775000 ∧ enSS 1 a < 9223372036854775000
theorem SmallCs.small {a : List (List VV)} (h : SmallCs a) : smallC a := by
  have h1 := enSS_le 1 h.2
  have h2 := h.1
  exact ⟨by omega, by omega⟩
theorem p_eqVersion (v : VV) : laws_eqVersion_S (v, v, ()) = some (true, ()) := by
  simp [laws_eqVersion_S]
theorem p_eqVersionS (a : List VV) (ha : a.length < 9223372036854775000) : laws_eqVersionS_S (a, a, ()) = some (true, ()) := by
  unfold laws_eqVersionS_S
  simp only [bne_self_eq_false, cond_false]
  refine iter_upK a.length (fun j => ((j : Int), ())) rfl (fun j hj => ?_) ⟨.inr (), ?_, rfl⟩
  · unfold laws_eqVersionS_D4
    simp only [lAt_nat hj, Option.bind_some, p_eqVersion]
    rw [decide_eq_true (by omega), wr1 (by omega) (by omega)]
    rfl
  · unfold laws_eqVersionS_D4
    simp only
    rw [decide_eq_false (by omega)]
    rfl
theorem p_eqVersionSS (a : List (List VV)) (ha : a.length < 9223372036854775000) (hb : ∀ r ∈ a, r.length < 9223372036854775000) : laws_eqVersionSS_S (a, a, ()) = some (true, ()) := by
  unfold laws_eqVersionSS_S
  simp only [bne_self_eq_false, cond_false]
  refine iter_upK a.length (fun j => ((j : Int), ())) rfl (fun j hj => ?_) ⟨.inr (), ?_, rfl⟩
  · unfold laws_eqVersionSS_D4
    simp only [lAt_nat hj, Option.bind_some, p_eqVersionS _ (hb _ (List.getElem_mem hj))]
    rw [decide_eq_true (by omega), wr1 (by omega) (by omega)]
    rfl
  · unfold laws_eqVersionSS_D4
    simp only
    rw [decide_eq_false (by omega)]
    rfl
theorem enSS_mem {a : List (List VV)} {r : List VV} (h : r ∈ a) (k : Int) : k + 5 * r.length ≤ enSS k a := by
  induction a generalizing k with
  | nil => cases h
  | cons s rs ih =>
    simp only [enSS]
    rcases List.mem_cons.1 h with rfl | h
    · exact enSS_ge _ _
    · have := ih h (k + 5 * s.length); omega
theorem smallC.row {a : List (List VV)} (h : smallC a) : ∀ r ∈ a, r.length < 9223372036854775000 := fun r hr => by
  have := enSS_mem hr 1; have := h.2; omega
theorem p_eqReadMark (v : VM) : laws_eqReadMark_S (v, v, ()) = some (true, ()) := by
  simp [laws_eqReadMark_S]
theorem p_eqReadMarkS (a : List VM) (ha : a.length < 9223372036854775000) : laws_eqReadMarkS_S (a, a, ()) = some (true, ()) := by
  unfold laws_eqReadMarkS_S
  simp only [bne_self_eq_false, cond_false]
  refine iter_upK a.length (fun j => ((j : Int), ())) rfl (fun j hj => ?_) ⟨.inr (), ?_, rfl⟩
  · unfold laws_eqReadMarkS_D4
    simp only [lAt_nat hj, Option.bind_some, p_eqReadMark]
    rw [decide_eq_true (by omega), wr1 (by omega) (by omega)]
    rfl
  · unfold laws_eqReadMarkS_D4
    simp only
    rw [decide_eq_false (by omega)]
    rfl
theorem p_eqWrite (v : VM) : laws_eqWrite_S (v, v, ()) = some (true, ()) := by
  simp [laws_eqWrite_S]
theorem p_eqWriteS (a : List VM) (ha : a.length < 9223372036854775000) : laws_eqWriteS_S (a, a, ()) = some (true, ()) := by
  unfold laws_eqWriteS_S
  simp only [bne_self_eq_false, cond_false]
  refine iter_upK a.length (fun j => ((j : Int), ())) rfl (fun j hj => ?_) ⟨.inr (), ?_, rfl⟩
  · unfold laws_eqWriteS_D4
    simp only [lAt_nat hj, Option.bind_some, p_eqWrite]
    rw [decide_eq_true (by omega), wr1 (by omega) (by omega)]
    rfl
  · unfold laws_eqWriteS_D4
    simp only
    rw [decide_eq_false (by omega)]
    rfl
def before (a b : VM) : Prop := a.1 < b.1 ∨ (a.1 = b.1 ∧ a.2.1 < b.2.1)
instance (a b : VM) : Decidable (before a b) := by unfold before; infer_instance
theorem p_before (a b : VM) : spec_l5Before_S ((a.1, a.2.1, ()), (b.1, b.2.1, ()), ()) = some (decide (before a b), ()) := by
  unfold spec_l5Before_S before
  by_cases h1 : a.1 < b.1
  · simp [h1]
  · by_cases h2 : a.1 = b.1
    · simp [h2]
    · have h3 : (a.1 == b.1) = false := by simpa using h2
      simp [h1, h2, h3]
theorem p_cmp (a b : Int) : cmp_Compare_int_S (a, b, ()) = some (if a < b then -1 else if a > b then 1 else 0, ()) := by
  unfold cmp_Compare_int_S cmp_isNaN_int_S
  by_cases h1 : a < b
  · simp [h1]
  · by_cases h2 : a > b <;> simp [h1, h2]
theorem p_or (a b : Int) : cmp_Or_int_S ([a, b], ()) = some (if a ≠ 0 then a else b, ()) := by
  unfold cmp_Or_int_S
  have l0 : lAt [a, b] 0 = some a := rfl
  have l1 : lAt [a, b] 1 = some b := rfl
  have w0 : IntKind.i64.wrap ((0 : Int) + 1) = 1 := wr1 (by omega) (by omega)
  have w1 : IntKind.i64.wrap ((1 : Int) + 1) = 2 := wr1 (by omega) (by omega)
  have B0 : cmp_Or_int_D3 (0, [a, b], 2, ()) (0, ()) ((Int × Unit) ⊕ ((Int × Unit) ⊕ Unit)) some = some (bif a != 0 then .inr (.inl (a, ())) else .inl (1, ())) := by
    unfold cmp_Or_int_D3
    simp only [l0, Option.bind_some, w0]
    cases (a != 0 : Bool) <;> rfl
  have B1 : cmp_Or_int_D3 (0, [a, b], 2, ()) (1, ()) ((Int × Unit) ⊕ ((Int × Unit) ⊕ Unit)) some = some (bif b != 0 then .inr (.inl (b, ())) else .inl (2, ())) := by
    unfold cmp_Or_int_D3
    simp only [l1, Option.bind_some, w1]
    cases (b != 0 : Bool) <;> rfl
  have B2 : cmp_Or_int_D3 (0, [a, b], 2, ()) (2, ()) ((Int × Unit) ⊕ ((Int × Unit) ⊕ Unit)) some = some (.inr (.inr ())) := by
    unfold cmp_Or_int_D3
    rfl
  have e : (((List.length [a, b] : Nat) : Int)) = 2 := rfl
  simp only [e]
  rw [iter_eq, B0]
  by_cases ha : a = 0
  · subst ha
    simp only [bne_self_eq_false, cond_false, Option.bind_some]
    rw [iter_eq, B1]
    by_cases hb : b = 0
    · subst hb
      simp only [bne_self_eq_false, cond_false, Option.bind_some]
      rw [iter_eq, B2]; rfl
    · have : (b != 0) = true := by simpa using hb
      rw [this]; simp [sumC]
  · have : (a != 0) = true := by simpa using ha
    rw [this]; simp [sumC, ha]
theorem p_compareMarks (a b : VM) : ∃ n : Int, impl_compareMarks_S ((a.1, a.2.1, ()), (b.1, b.2.1, ()), ()) = some (n, ()) ∧ (n ≥ 0 ↔ ¬ before a b) := by
  unfold impl_compareMarks_S
  simp only [p_cmp, p_or, Option.bind_some]
  refine ⟨_, rfl, ?_⟩
  unfold before
  by_cases h1 : a.1 < b.1
  · simp [h1]
  · by_cases h2 : a.1 > b.1
    · simp [h1, h2]; omega
    · have h3 : a.1 = b.1 := by omega
      simp [h3]
      by_cases h4 : a.2.1 < b.2.1
      · simp [h4]
      · by_cases h5 : a.2.1 > b.2.1 <;> simp [h4, h5] <;> omega
def rdAt (l : List VM) (i : Nat) : Prop := ∃ h : i < l.length, inB l[i].1 0 5 = true ∧ inB l[i].2.1 0 999 = true ∧ ∀ h2 : 0 < i, before (l[i - 1]'(by omega)) l[i]
def wrAt (l : List VM) (i : Nat) : Prop := ∃ h : i < l.length, inB l[i].1 0 5 = true ∧ inB l[i].2.1 (-1) 99 = true ∧ ∀ h2 : 0 < i, (l[i - 1]'(by omega)).1 < l[i].1
def okRd (l : List VM) : Prop := ∀ i, i < l.length → rdAt l i
def okWr (l : List VM) : Prop := ∀ i, i < l.length → wrAt l i
theorem p_implReads {l : List VM} (hl : l.length ≤ 1048576) : impl_areReads_S (l, ()) = some (dec (okRd l) && decide (l.length ≤ 60), ()) := by
  have e : impl_areReads_S (l, ()) = bif dec (okRd l) then some (decide (((l.length : Nat) : Int) ≤ 60), ()) else some (false, ()) := by
    unfold impl_areReads_S
    refine all_loopK (n := l.length) (c := rdAt l) (fun i hi => ?_) ⟨.inr (.inr (.inr ())), ?_, rfl⟩
    · unfold impl_areReads_D2
      simp only [lAt_nat hi, Option.bind_some, p_isKey, p_implIn]
      rw [decide_eq_true (by omega)]
      simp only [cond_true]
      cases h1 : inB l[i].1 0 5 with
      | false => exact ⟨fun ⟨_, h, _⟩ => (by rw [h1] at h; cases h), fun _ => ⟨.inl _, rfl, rfl⟩⟩
      | true =>
        simp only [Bool.not_true, cond_false]
        cases h2 : inB l[i].2.1 0 999 with
        | false => exact ⟨fun ⟨_, _, h, _⟩ => (by rw [h2] at h; cases h), fun _ => ⟨.inr (.inl _), rfl, rfl⟩⟩
        | true =>
          simp only [Bool.not_true, cond_false]
          rw [wrap_succ hi (by omega)]
          by_cases h3 : 0 < i
          · have hlt : i - 1 < l.length := by omega
            rw [decide_eq_true (show (i : Int) > 0 by omega), show IntKind.i64.wrap ((i : Int) - 1) = ((i - 1 : Nat) : Int) from by rw [wrap_id (by omega) (by omega)]; omega, lAt_nat hlt]
            obtain ⟨n, e1, e2⟩ := p_compareMarks l[i - 1] l[i]
            simp only [cond_true, Option.bind_some, e1]
            by_cases hb : before l[i - 1] l[i]
            · rw [decide_eq_false (fun h => e2.1 h hb)]
              exact ⟨fun _ => rfl, fun h => absurd ⟨hi, h1, h2, fun _ => hb⟩ h⟩
            · rw [decide_eq_true (e2.2 hb)]
              exact ⟨fun ⟨_, _, _, h⟩ => absurd (h h3) hb, fun _ => ⟨.inr (.inr (.inl _)), rfl, rfl⟩⟩
          · rw [decide_eq_false (show ¬ (i : Int) > 0 by omega)]
            exact ⟨fun _ => rfl, fun h => absurd ⟨hi, h1, h2, fun h => absurd h h3⟩ h⟩
    · unfold impl_areReads_D2
      simp only
      rw [decide_eq_false (by omega)]; rfl
  rw [e]
  have d : decide (((l.length : Nat) : Int) ≤ 60) = decide (l.length ≤ 60) := decide_eq_decide.2 (by omega)
  rw [d]
  cases dec (okRd l) <;> simp
theorem p_implWrites {l : List VM} (hl : l.length ≤ 1048576) : impl_areWrites_S (l, ()) = some (dec (okWr l), ()) := by
  have e : impl_areWrites_S (l, ()) = bif dec (okWr l) then some (true, ()) else some (false, ()) := by
    unfold impl_areWrites_S
    refine all_loopK (n := l.length) (c := wrAt l) (fun i hi => ?_) ⟨.inr (.inr (.inr ())), ?_, rfl⟩
    · unfold impl_areWrites_D2
      simp only [lAt_nat hi, Option.bind_some, p_isKey, p_isValue]
      rw [decide_eq_true (by omega)]
      simp only [cond_true]
      cases h1 : inB l[i].1 0 5 with
      | false => exact ⟨fun ⟨_, h, _⟩ => (by rw [h1] at h; cases h), fun _ => ⟨.inl _, rfl, rfl⟩⟩
      | true =>
        simp only [Bool.not_true, cond_false]
        cases h2 : inB l[i].2.1 (-1) 99 with
        | false => exact ⟨fun ⟨_, _, h, _⟩ => (by rw [h2] at h; cases h), fun _ => ⟨.inr (.inl _), rfl, rfl⟩⟩
        | true =>
          simp only [Bool.not_true, cond_false]
          rw [wrap_succ hi (by omega)]
          by_cases h3 : 0 < i
          · have hlt : i - 1 < l.length := by omega
            rw [decide_eq_true (show (i : Int) > 0 by omega), show IntKind.i64.wrap ((i : Int) - 1) = ((i - 1 : Nat) : Int) from by rw [wrap_id (by omega) (by omega)]; omega, lAt_nat hlt]
            simp only [cond_true, Option.bind_some]
            by_cases hb : l[i - 1].1 < l[i].1
            · rw [decide_eq_false (by omega)]
              exact ⟨fun _ => rfl, fun h => absurd ⟨hi, h1, h2, fun _ => hb⟩ h⟩
            · rw [decide_eq_true (by omega)]
              exact ⟨fun ⟨_, _, _, h⟩ => absurd (h h3) hb, fun _ => ⟨.inr (.inr (.inl _)), rfl, rfl⟩⟩
          · rw [decide_eq_false (show ¬ (i : Int) > 0 by omega)]
            exact ⟨fun _ => rfl, fun h => absurd ⟨hi, h1, h2, fun h => absurd h h3⟩ h⟩
    · unfold impl_areWrites_D2
      simp only
      rw [decide_eq_false (by omega)]; rfl
  rw [e]
  cases dec (okWr l) <;> rfl
noncomputable def okT (id sc st be lo hi co : Int) (rd wr : List VM) : Bool :=
  dec (okRd rd) && dec (okWr wr) && inB id 1 9 && inB sc 1 4 && inB be 0 999 && inB st 1 3 && inB lo 0 999 && inB hi 1 1000 && ((st == 2) == decide (co > 0)) && inB co 0 999 && decide (rd.length ≤ 60)
theorem p_specT {id sc st be lo hi co : Int} {rd wr : List VM} (hr : rd.length ≤ 1048576) (hw : wr.length ≤ 1048576) : spec_IsValidTransaction_S ((id, sc, st, be, lo, hi, co, rd, wr, ()), ()) = some (okT id sc st be lo hi co rd wr, ()) := by
  unfold spec_IsValidTransaction_S
  simp only
  refine (all_loopK (n := rd.length) (c := rdAt rd) (no := some (false, ())) (X := bif dec (okWr wr) then some (inB id 1 9 && inB sc 1 4 && inB be 0 999 && inB st 1 3 && inB lo 0 999 && inB hi 1 1000 && ((st == 2) == decide (co > 0)) && inB co 0 999 && decide (rd.length ≤ 60), ()) else some (false, ())) (fun i hi' => ?_) ⟨.inr (.inr (.inr ())), ?_, ?_⟩).trans ?_
  · unfold spec_IsValidTransaction_D2
    simp only [lAt_nat hi', Option.bind_some, p_specIn]
    rw [decide_eq_true (by omega)]
    simp only [cond_true]
    cases h1 : inB rd[i].1 0 5 with
    | false => exact ⟨fun ⟨_, h, _⟩ => (by rw [h1] at h; cases h), fun _ => ⟨.inl _, rfl, rfl⟩⟩
    | true =>
      simp only [Bool.not_true, cond_false]
      cases h2 : inB rd[i].2.1 0 999 with
      | false => exact ⟨fun ⟨_, _, h, _⟩ => (by rw [h2] at h; cases h), fun _ => ⟨.inr (.inl _), rfl, rfl⟩⟩
      | true =>
        simp only [Bool.not_true, cond_false]
        rw [wrap_succ hi' (by omega)]
        by_cases h3 : 0 < i
        · have hlt : i - 1 < rd.length := by omega
          rw [decide_eq_true (show (i : Int) > 0 by omega), show IntKind.i64.wrap ((i : Int) - 1) = ((i - 1 : Nat) : Int) from by rw [wrap_id (by omega) (by omega)]; omega, lAt_nat hlt]
          simp only [cond_true, Option.bind_some, p_before]
          by_cases hb : before rd[i - 1] rd[i]
          · rw [decide_eq_true hb]
            exact ⟨fun _ => rfl, fun h => absurd ⟨hi', h1, h2, fun _ => hb⟩ h⟩
          · rw [decide_eq_false hb]
            exact ⟨fun ⟨_, _, _, h⟩ => absurd (h h3) hb, fun _ => ⟨.inr (.inr (.inl _)), rfl, rfl⟩⟩
        · rw [decide_eq_false (show ¬ (i : Int) > 0 by omega)]
          exact ⟨fun _ => rfl, fun h => absurd ⟨hi', h1, h2, fun h => absurd h h3⟩ h⟩
  · unfold spec_IsValidTransaction_D2
    simp only
    rw [decide_eq_false (by omega)]; rfl
  · refine all_loopK (n := wr.length) (c := wrAt wr) (fun i hi' => ?_) ⟨.inr (.inr (.inr ())), ?_, ?_⟩
    · unfold spec_IsValidTransaction_D8
      simp only [lAt_nat hi', Option.bind_some, p_specIn]
      rw [decide_eq_true (by omega)]
      simp only [cond_true]
      cases h1 : inB wr[i].1 0 5 with
      | false => exact ⟨fun ⟨_, h, _⟩ => (by rw [h1] at h; cases h), fun _ => ⟨.inl _, rfl, rfl⟩⟩
      | true =>
        simp only [Bool.not_true, cond_false]
        cases h2 : inB wr[i].2.1 (-1) 99 with
        | false => exact ⟨fun ⟨_, _, h, _⟩ => (by rw [h2] at h; cases h), fun _ => ⟨.inr (.inl _), rfl, rfl⟩⟩
        | true =>
          simp only [Bool.not_true, cond_false]
          rw [wrap_succ hi' (by omega)]
          by_cases h3 : 0 < i
          · have hlt : i - 1 < wr.length := by omega
            rw [decide_eq_true (show (i : Int) > 0 by omega), show IntKind.i64.wrap ((i : Int) - 1) = ((i - 1 : Nat) : Int) from by rw [wrap_id (by omega) (by omega)]; omega, lAt_nat hlt]
            simp only [cond_true, Option.bind_some]
            by_cases hb : wr[i - 1].1 < wr[i].1
            · rw [decide_eq_false (by omega)]
              exact ⟨fun _ => rfl, fun h => absurd ⟨hi', h1, h2, fun _ => hb⟩ h⟩
            · rw [decide_eq_true (by omega)]
              exact ⟨fun ⟨_, _, _, h⟩ => absurd (h h3) hb, fun _ => ⟨.inr (.inr (.inl _)), rfl, rfl⟩⟩
          · rw [decide_eq_false (show ¬ (i : Int) > 0 by omega)]
            exact ⟨fun _ => rfl, fun h => absurd ⟨hi', h1, h2, fun h => absurd h h3⟩ h⟩
    · unfold spec_IsValidTransaction_D8
      simp only
      rw [decide_eq_false (by omega)]; rfl
    · simp only [sumC, p_specIn, Option.bind_some]
      have d : decide (((rd.length : Nat) : Int) ≤ 60) = decide (rd.length ≤ 60) := decide_eq_decide.2 (by omega)
      rw [d]
      cases inB id 1 9 <;> cases inB sc 1 4 <;> cases inB be 0 999 <;> cases inB st 1 3 <;> cases inB lo 0 999 <;> cases inB hi 1 1000 <;> cases ((st == 2) == decide (co > 0) : Bool) <;> cases inB co 0 999 <;> rfl
  · unfold okT
    show (bif dec (okRd rd) then _ else _) = _
    cases dec (okRd rd) <;> cases dec (okWr wr) <;> simp
def fvI (l : List VV) (c : Int) : Option Nat := (l.map (fun v => v.2.2.1)).findIdx? (fun x => x == c)
def fx : Option Nat → Int | some i => (i : Int) | none => -1
theorem dec_bool (b : Bool) : dec (b = true) = b := by
  cases b
  · exact dec_false (by simp)
  · exact dec_true rfl
theorem find_loop {α : Type} {l : List α} {p : α → Bool} (hn : l.length ≤ 1048576) {B : Int × Unit → Option ((Int × Unit) ⊕ ((Int × Unit) ⊕ Unit))}
    (hB : ∀ i (h : i < l.length), B ((i : Int), ()) = some (bif p l[i] then .inr (.inl ((i : Int), ())) else .inl (((i + 1 : Nat) : Int), ()))) (hend : B ((l.length : Int), ()) = some (.inr (.inr ()))) :
    ((iter B (0, ())).bind fun q => sumC q (fun q => some (q.1, ())) fun _ => some (-1, ())) = some (fx (l.findIdx? p), ()) := by
  obtain ⟨n, e, h⟩ := indexFunc (ρ := Unit) (l := l) (p := fun x => p x = true) hn (B := B) (fun i h => by rw [hB i h, dec_bool]) hend
  rw [e]
  rcases h with ⟨i, hi, rfl, hp, hq⟩ | ⟨rfl, hq⟩
  · have : l.findIdx? p = some i := List.findIdx?_eq_some_iff_getElem.2 ⟨hi, hp, fun j hj => by simpa using hq j hj⟩
    rw [this]; rfl
  · have : l.findIdx? p = none := List.findIdx?_eq_none_iff.2 fun x hx => by simpa using hq x hx
    rw [this]; rfl
theorem p_specFV {l : List VV} (hl : l.length ≤ 1048576) (c : Int) : spec_FindVersion_S (l, c, ()) = some (fx (fvI l c), ()) := by
  unfold spec_FindVersion_S fvI
  rw [List.findIdx?_map]
  refine find_loop hl (fun i h => ?_) ?_
  · unfold spec_FindVersion_D2
    simp only [lAt_nat h, Option.bind_some]
    rw [decide_eq_true (by omega), wrap_succ h (by omega)]
    simp only [cond_true, Function.comp]
    cases (l[i].2.2.1 == c : Bool) <;> rfl
  · unfold spec_FindVersion_D2
    simp only
    rw [decide_eq_false (by omega)]; rfl
theorem p_implFV {l : List VV} (hl : l.length ≤ 1048576) (c : Int) : impl_FindVersion_S (l, c, ()) = some (fx (fvI l c), ()) := by
  unfold impl_FindVersion_S slices_IndexFunc__impl_FindVersion_1_S fvI
  rw [List.findIdx?_map]
  have := find_loop hl (p := (fun x => x == c) ∘ fun v : VV => v.2.2.1) (B := fun v => slices_IndexFunc__impl_FindVersion_1_D2 (l, (some c, ()), ((l.length : Nat) : Int), ()) v _ some) (fun i h => by
    unfold slices_IndexFunc__impl_FindVersion_1_D2 impl_FindVersion_1_S
    simp only [lAt_nat h, Option.bind_some]
    rw [decide_eq_true (by omega), wrap_succ h (by omega)]
    simp only [cond_true, Function.comp]
    cases (l[i].2.2.1 == c : Bool) <;> rfl) (by
    unfold slices_IndexFunc__impl_FindVersion_1_D2
    simp only
    rw [decide_eq_false (by omega)]; rfl)
  simp only [this, Option.bind_some]
theorem fvI_lt {l : List VV} {c : Int} {j : Nat} (h : fvI l c = some j) : j < l.length := by
  unfold fvI at h
  obtain ⟨h1, _⟩ := List.findIdx?_eq_some_iff_getElem.1 h
  simpa using h1
theorem fx_neg (o : Option Nat) : decide (fx o < 0) = o.isNone := by
  cases o with
  | none => rfl
  | some i => exact decide_eq_false (by simp only [fx]; omega)
def chAt (s : List (List VV)) (m : VM) : Option (List VV) := s[m.1.toNat]?
def exAt (s : List (List VV)) (m : VM) : Prop := ∃ l j, chAt s m = some l ∧ fvI l m.2.1 = some j
theorem chain_of {s : List (List VV)} {m : VM} (h6 : s.length = 6) (hm : inB m.1 0 5 = true) : ∃ k : Nat, m.1 = (k : Int) ∧ k < s.length ∧ ∃ l, s[k]? = some l ∧ lAt s m.1 = some l ∧ chAt s m = some l ∧ l ∈ s := by
  unfold inB at hm
  simp only [Bool.and_eq_true, decide_eq_true_eq] at hm
  obtain ⟨k, hk⟩ := Int.eq_ofNat_of_zero_le hm.1
  have hlt : k < s.length := by omega
  refine ⟨k, hk, hlt, s[k], by simp [hlt], by rw [hk]; exact lAt_nat hlt, ?_, List.getElem_mem hlt⟩
  unfold chAt
  rw [hk]; simp [hlt]
theorem p_specEx {s : List (List VV)} (hs : SmallCs s) (hok : okSt s) {id sc st be lo hi co : Int} {rd wr : List VM} (hr : rd.length ≤ 1048576) (hw : wr.length ≤ 1048576) (hT : okT id sc st be lo hi co rd wr = true) (hrd : okRd rd) :
    spec_ReadsExist_S ((s, ()), (id, sc, st, be, lo, hi, co, rd, wr, ()), ()) = some (dec (∀ m ∈ rd, exAt s m), ()) := by
  unfold spec_ReadsExist_S
  simp only [p_specS hs, dec_true hok, p_specT hr hw, hT, Option.bind_some, Bool.not_true, cond_false]
  refine (all_loopK (n := rd.length) (c := fun i => ∃ h : i < rd.length, exAt s rd[i]) (X := some (true, ())) (no := some (false, ())) (fun i hi' => ?_) ⟨.inr (), ?_, rfl⟩).trans ?_
  · obtain ⟨_, h1, _⟩ := hrd i hi'
    obtain ⟨k, hk, hlt, l, e1, e2, e3, hm⟩ := chain_of hok.1 h1
    unfold spec_ReadsExist_D4
    simp only [lAt_nat hi', Option.bind_some, e2, p_specFV (hs.2 _ hm), fx_neg]
    rw [decide_eq_true (by omega), wrap_succ hi' (by omega)]
    simp only [cond_true]
    cases hf : fvI l rd[i].2.1 with
    | none =>
      refine ⟨fun ⟨_, l', j, h2, h3⟩ => ?_, fun _ => ⟨.inl (), rfl, rfl⟩⟩
      rw [e3] at h2; obtain rfl : l = l' := by simpa using h2
      rw [hf] at h3; cases h3
    | some j => exact ⟨fun _ => rfl, fun h => absurd ⟨hi', l, j, e3, hf⟩ h⟩
  · unfold spec_ReadsExist_D4
    simp only
    rw [decide_eq_false (by omega)]; rfl
  · rw [dec_congr (q := ∀ m ∈ rd, exAt s m)]
    · cases dec (∀ m ∈ rd, exAt s m) <;> rfl
    · constructor
      · intro h m hm
        obtain ⟨i, hi', rfl⟩ := List.getElem_of_mem hm
        exact (h i hi').2
      · intro h i hi'; exact ⟨hi', h _ (List.getElem_mem hi')⟩
theorem p_implFind {s : List (List VV)} (hs : SmallCs s) (h6 : s.length = 6) {m : VM} (hm : inB m.1 0 5 = true) : ∃ o : Option VV, impl_Store_find_S ((s, ()), (m.1, m.2.1, ()), ()) = some (o, ()) ∧ (o.isNone = false ↔ exAt s m) := by
  obtain ⟨k, hk, hlt, l, e1, e2, e3, hl⟩ := chain_of h6 hm
  unfold impl_Store_find_S
  simp only [e2, Option.bind_some, p_implFV (hs.2 _ hl), fx_neg]
  cases hf : fvI l m.2.1 with
  | none =>
    refine ⟨none, rfl, by simp, fun ⟨l', j, h2, h3⟩ => ?_⟩
    rw [e3] at h2; obtain rfl : l = l' := by simpa using h2
    rw [hf] at h3; cases h3
  | some j =>
    have hj := fvI_lt hf
    refine ⟨some l[j], ?_, fun _ => ⟨l, j, e3, hf⟩, fun _ => rfl⟩
    simp only [Option.isNone_some, cond_false, fx]
    rw [lAt_nat hj]; rfl
theorem p_implEx {s : List (List VV)} (hs : SmallCs s) (h6 : s.length = 6) {rd : List VM} (hr : rd.length ≤ 1048576) (hrd : okRd rd) :
    impl_Store_readsExist_S ((s, ()), rd, ()) = some (dec (∀ m ∈ rd, exAt s m), ()) := by
  unfold impl_Store_readsExist_S slices_ContainsFunc__impl_Store_readsExist_1_S slices_IndexFunc__impl_Store_readsExist_1_S
  obtain ⟨n, e, h⟩ := indexFunc (ρ := Unit) (l := rd) (p := fun m => ¬ exAt s m) hr (B := fun v => slices_IndexFunc__impl_Store_readsExist_1_D2 (rd, (some (s, ()), ()), ((rd.length : Nat) : Int), ()) v _ some) (fun i hi => by
      obtain ⟨_, h1, _⟩ := hrd i hi
      obtain ⟨o, e1, e2⟩ := p_implFind hs h6 h1
      unfold slices_IndexFunc__impl_Store_readsExist_1_D2 impl_Store_readsExist_1_S
      simp only [lAt_nat hi, Option.bind_some, e1]
      rw [decide_eq_true (by omega), wrap_succ hi (by omega)]
      simp only [cond_true]
      cases ho : o.isNone with
      | true => rw [dec_true (fun hh => by rw [e2.2 hh] at ho; cases ho)]; rfl
      | false => rw [dec_false (fun hh => hh (e2.1 ho))]; rfl) (by
      unfold slices_IndexFunc__impl_Store_readsExist_1_D2
      simp only
      rw [decide_eq_false (by omega)]; rfl)
  simp only [e, Option.bind_some]
  rcases h with ⟨i, hi, rfl, hp, _⟩ | ⟨rfl, hp⟩
  · rw [decide_eq_true (by omega), dec_false (fun hh => hp (hh _ (List.getElem_mem hi)))]; rfl
  · rw [decide_eq_false (by omega), dec_true (fun m hm => Classical.not_not.1 (hp m hm))]; rfl
def stOK (s : List (List VV)) (n : Nat) : Prop := s.length = 6 ∧ ∀ l ∈ s, 0 < l.length ∧ l.length ≤ 50 + n
theorem stOK.set {s : List (List VV)} {n k : Nat} {l : List VV} (h : stOK s n) {n' : Nat} (hn : n ≤ n') (h0 : 0 < l.length) (h1 : l.length ≤ 50 + n') : stOK (s.set k l) n' := by
  refine ⟨by simpa using h.1, fun x hx => ?_⟩
  rcases List.mem_or_eq_of_mem_set hx with h2 | rfl
  · have := h.2 x h2; omega
  · exact ⟨h0, h1⟩
theorem stOK.small {s : List (List VV)} {n : Nat} (h : stOK s n) (hn : n ≤ 1000) : SmallCs s :=
  ⟨by have := h.1; omega, fun l hl => by have := h.2 l hl; unfold SmallC; omega⟩
theorem p_toReadMarkS (a : List VM) (ha : a.length ≤ 1048576) : laws_toReadMarkS_S (a, ()) = some (a, ()) := by
  unfold laws_toReadMarkS_S
  simp only
  rw [if_pos (by omega), Int.toNat_natCast]
  refine copy_loopK ha (fun i h out ho => ?_) fun out => ?_
  · unfold laws_toReadMarkS_D3
    simp only [lAt_nat h, Option.bind_some, laws_toReadMark_S]
    rw [decide_eq_true (by omega), if_pos (by omega), wrap_succ h (by omega)]
    simp [ho, h]
  · unfold laws_toReadMarkS_D3
    simp only
    rw [decide_eq_false (by omega)]; rfl
theorem p_toWriteS (a : List VM) (ha : a.length ≤ 1048576) : laws_toWriteS_S (a, ()) = some (a, ()) := by
  unfold laws_toWriteS_S
  simp only
  rw [if_pos (by omega), Int.toNat_natCast]
  refine copy_loopK ha (fun i h out ho => ?_) fun out => ?_
  · unfold laws_toWriteS_D3
    simp only [lAt_nat h, Option.bind_some, laws_toWrite_S]
    rw [decide_eq_true (by omega), if_pos (by omega), wrap_succ h (by omega)]
    simp [ho, h]
  · unfold laws_toWriteS_D3
    simp only
    rw [decide_eq_false (by omega)]; rfl
theorem p_szReadMarkS {a : List VM} {l : Int} (ha : a.length ≤ maxLen) (h0 : 0 ≤ l) (h1 : l ≤ 1048576) : SzOK (a.length ≤ 1048576) (laws_szReadMarkS_S (a, l, ())) := sz_flat ha h0 h1
theorem p_szWriteS {a : List VM} {l : Int} (ha : a.length ≤ maxLen) (h0 : 0 ≤ l) (h1 : l ≤ 1048576) : SzOK (a.length ≤ 1048576) (laws_szWriteS_S (a, l, ())) := sz_flat ha h0 h1
theorem p_eqStore {c : List (List VV)} (h : SmallCs c) : laws_eqStore_S ((c, ()), (c, ()), ()) = some (true, ()) := by
  have hh := h.small
  simp [laws_eqStore_S, p_eqVersionSS c hh.1 hh.row]
def lkAt (l : List VM) (i : Nat) : Prop := ∃ h : i < l.length, inB l[i].1 0 5 = true ∧ inB l[i].2.1 1 9 = true ∧ ∀ h2 : 0 < i, (l[i - 1]'(by omega)).1 < l[i].1
def okLk (l : List VM) : Prop := ∀ i, i < l.length → lkAt l i
def wtAt (l : List VM) (i : Nat) : Prop := ∃ h : i < l.length, inB l[i].1 1 9 = true ∧ inB l[i].2.1 1 9 = true ∧ l[i].1 ≠ l[i].2.1 ∧ ∀ h2 : 0 < i, (l[i - 1]'(by omega)).1 < l[i].1
def okWt (l : List VM) : Prop := ∀ i, i < l.length → wtAt l i
theorem p_impl_AreLocks {l : List VM} (hl : l.length ≤ 1048576) : impl_AreLocks_S (l, ()) = some (dec (okLk l), ()) := by
  have e : impl_AreLocks_S (l, ()) = bif dec (okLk l) then some (true, ()) else some (false, ()) := by
    unfold impl_AreLocks_S
    refine all_loopK (n := l.length) (c := lkAt l) (fun i hi => ?_) ⟨.inr (.inr (.inr ())), ?_, rfl⟩
    · unfold impl_AreLocks_D2
      simp only [lAt_nat hi, Option.bind_some, p_isKey, p_isID]
      rw [decide_eq_true (by omega)]
      simp only [cond_true]
      cases h1 : inB l[i].1 0 5 with
      | false => exact ⟨fun ⟨_, h, _⟩ => (by rw [h1] at h; cases h), fun _ => ⟨_, rfl, rfl⟩⟩
      | true =>
        simp only [Bool.not_true, cond_false]
        cases h2 : inB l[i].2.1 1 9 with
        | false => exact ⟨fun ⟨_, _, h, _⟩ => (by rw [h2] at h; cases h), fun _ => ⟨_, rfl, rfl⟩⟩
        | true =>
        simp only [Bool.not_true, cond_false]
        rw [wrap_succ hi (by omega)]
        by_cases h3 : 0 < i
        · have hlt : i - 1 < l.length := by omega
          rw [decide_eq_true (show (i : Int) > 0 by omega), show IntKind.i64.wrap ((i : Int) - 1) = ((i - 1 : Nat) : Int) from by rw [wrap_id (by omega) (by omega)]; omega, lAt_nat hlt]
          simp only [cond_true, Option.bind_some]
          by_cases hb : l[i - 1].1 < l[i].1
          · rw [decide_eq_false (by omega)]
            exact ⟨fun _ => rfl, fun h => absurd ⟨hi, h1, h2, fun _ => hb⟩ h⟩
          · rw [decide_eq_true (by omega)]
            exact ⟨fun ⟨_, _, _, h⟩ => absurd (h h3) hb, fun _ => ⟨_, rfl, rfl⟩⟩
        · rw [decide_eq_false (show ¬ (i : Int) > 0 by omega)]
          exact ⟨fun _ => rfl, fun h => absurd ⟨hi, h1, h2, fun h => absurd h h3⟩ h⟩
    · unfold impl_AreLocks_D2
      simp only
      rw [decide_eq_false (by omega)]; rfl
  rw [e]
  cases dec (okLk l) <;> rfl
theorem p_spec_AreLocks {l : List VM} (hl : l.length ≤ 1048576) : spec_AreLocks_S (l, ()) = some (dec (okLk l), ()) := by
  have e : spec_AreLocks_S (l, ()) = bif dec (okLk l) then some (true, ()) else some (false, ()) := by
    unfold spec_AreLocks_S
    refine all_loopK (n := l.length) (c := lkAt l) (fun i hi => ?_) ⟨.inr (.inr (.inr ())), ?_, rfl⟩
    · unfold spec_AreLocks_D2
      simp only [lAt_nat hi, Option.bind_some, p_specIn]
      rw [decide_eq_true (by omega)]
      simp only [cond_true]
      cases h1 : inB l[i].1 0 5 with
      | false => exact ⟨fun ⟨_, h, _⟩ => (by rw [h1] at h; cases h), fun _ => ⟨_, rfl, rfl⟩⟩
      | true =>
        simp only [Bool.not_true, cond_false]
        cases h2 : inB l[i].2.1 1 9 with
        | false => exact ⟨fun ⟨_, _, h, _⟩ => (by rw [h2] at h; cases h), fun _ => ⟨_, rfl, rfl⟩⟩
        | true =>
        simp only [Bool.not_true, cond_false]
        rw [wrap_succ hi (by omega)]
        by_cases h3 : 0 < i
        · have hlt : i - 1 < l.length := by omega
          rw [decide_eq_true (show (i : Int) > 0 by omega), show IntKind.i64.wrap ((i : Int) - 1) = ((i - 1 : Nat) : Int) from by rw [wrap_id (by omega) (by omega)]; omega, lAt_nat hlt]
          simp only [cond_true, Option.bind_some]
          by_cases hb : l[i - 1].1 < l[i].1
          · rw [decide_eq_false (by omega)]
            exact ⟨fun _ => rfl, fun h => absurd ⟨hi, h1, h2, fun _ => hb⟩ h⟩
          · rw [decide_eq_true (by omega)]
            exact ⟨fun ⟨_, _, _, h⟩ => absurd (h h3) hb, fun _ => ⟨_, rfl, rfl⟩⟩
        · rw [decide_eq_false (show ¬ (i : Int) > 0 by omega)]
          exact ⟨fun _ => rfl, fun h => absurd ⟨hi, h1, h2, fun h => absurd h h3⟩ h⟩
    · unfold spec_AreLocks_D2
      simp only
      rw [decide_eq_false (by omega)]; rfl
  rw [e]
  cases dec (okLk l) <;> rfl
theorem p_impl_AreWaits {l : List VM} (hl : l.length ≤ 1048576) : impl_AreWaits_S (l, ()) = some (dec (okWt l), ()) := by
  have e : impl_AreWaits_S (l, ()) = bif dec (okWt l) then some (true, ()) else some (false, ()) := by
    unfold impl_AreWaits_S
    refine all_loopK (n := l.length) (c := wtAt l) (fun i hi => ?_) ⟨.inr (.inr (.inr (.inr ()))), ?_, rfl⟩
    · unfold impl_AreWaits_D2
      simp only [lAt_nat hi, Option.bind_some, p_isID]
      rw [decide_eq_true (by omega)]
      simp only [cond_true]
      cases h1 : inB l[i].1 1 9 with
      | false => exact ⟨fun ⟨_, h, _⟩ => (by rw [h1] at h; cases h), fun _ => ⟨_, rfl, rfl⟩⟩
      | true =>
        simp only [Bool.not_true, cond_false]
        cases h2 : inB l[i].2.1 1 9 with
        | false => exact ⟨fun ⟨_, _, h, _⟩ => (by rw [h2] at h; cases h), fun _ => ⟨_, rfl, rfl⟩⟩
        | true =>
        simp only [Bool.not_true, cond_false]
        by_cases hq : l[i].1 = l[i].2.1
        · rw [show (l[i].1 == l[i].2.1) = true from by simpa using hq]
          exact ⟨fun ⟨_, _, _, h, _⟩ => absurd hq h, fun _ => ⟨_, rfl, rfl⟩⟩
        rw [show (l[i].1 == l[i].2.1) = false from by simpa using hq]
        simp only [cond_false]
        rw [wrap_succ hi (by omega)]
        by_cases h3 : 0 < i
        · have hlt : i - 1 < l.length := by omega
          rw [decide_eq_true (show (i : Int) > 0 by omega), show IntKind.i64.wrap ((i : Int) - 1) = ((i - 1 : Nat) : Int) from by rw [wrap_id (by omega) (by omega)]; omega, lAt_nat hlt]
          simp only [cond_true, Option.bind_some]
          by_cases hb : l[i - 1].1 < l[i].1
          · rw [decide_eq_false (by omega)]
            exact ⟨fun _ => rfl, fun h => absurd ⟨hi, h1, h2, hq, fun _ => hb⟩ h⟩
          · rw [decide_eq_true (by omega)]
            exact ⟨fun ⟨_, _, _, _, h⟩ => absurd (h h3) hb, fun _ => ⟨_, rfl, rfl⟩⟩
        · rw [decide_eq_false (show ¬ (i : Int) > 0 by omega)]
          exact ⟨fun _ => rfl, fun h => absurd ⟨hi, h1, h2, hq, fun h => absurd h h3⟩ h⟩
    · unfold impl_AreWaits_D2
      simp only
      rw [decide_eq_false (by omega)]; rfl
  rw [e]
  cases dec (okWt l) <;> rfl
theorem p_spec_AreWaits {l : List VM} (hl : l.length ≤ 1048576) : spec_AreWaits_S (l, ()) = some (dec (okWt l), ()) := by
  have e : spec_AreWaits_S (l, ()) = bif dec (okWt l) then some (true, ()) else some (false, ()) := by
    unfold spec_AreWaits_S
    refine all_loopK (n := l.length) (c := wtAt l) (fun i hi => ?_) ⟨.inr (.inr (.inr (.inr ()))), ?_, rfl⟩
    · unfold spec_AreWaits_D2
      simp only [lAt_nat hi, Option.bind_some, p_specIn]
      rw [decide_eq_true (by omega)]
      simp only [cond_true]
      cases h1 : inB l[i].1 1 9 with
      | false => exact ⟨fun ⟨_, h, _⟩ => (by rw [h1] at h; cases h), fun _ => ⟨_, rfl, rfl⟩⟩
      | true =>
        simp only [Bool.not_true, cond_false]
        cases h2 : inB l[i].2.1 1 9 with
        | false => exact ⟨fun ⟨_, _, h, _⟩ => (by rw [h2] at h; cases h), fun _ => ⟨_, rfl, rfl⟩⟩
        | true =>
        simp only [Bool.not_true, cond_false]
        by_cases hq : l[i].1 = l[i].2.1
        · rw [show (l[i].1 == l[i].2.1) = true from by simpa using hq]
          exact ⟨fun ⟨_, _, _, h, _⟩ => absurd hq h, fun _ => ⟨_, rfl, rfl⟩⟩
        rw [show (l[i].1 == l[i].2.1) = false from by simpa using hq]
        simp only [cond_false]
        rw [wrap_succ hi (by omega)]
        by_cases h3 : 0 < i
        · have hlt : i - 1 < l.length := by omega
          rw [decide_eq_true (show (i : Int) > 0 by omega), show IntKind.i64.wrap ((i : Int) - 1) = ((i - 1 : Nat) : Int) from by rw [wrap_id (by omega) (by omega)]; omega, lAt_nat hlt]
          simp only [cond_true, Option.bind_some]
          by_cases hb : l[i - 1].1 < l[i].1
          · rw [decide_eq_false (by omega)]
            exact ⟨fun _ => rfl, fun h => absurd ⟨hi, h1, h2, hq, fun _ => hb⟩ h⟩
          · rw [decide_eq_true (by omega)]
            exact ⟨fun ⟨_, _, _, _, h⟩ => absurd (h h3) hb, fun _ => ⟨_, rfl, rfl⟩⟩
        · rw [decide_eq_false (show ¬ (i : Int) > 0 by omega)]
          exact ⟨fun _ => rfl, fun h => absurd ⟨hi, h1, h2, hq, fun h => absurd h h3⟩ h⟩
    · unfold spec_AreWaits_D2
      simp only
      rw [decide_eq_false (by omega)]; rfl
  rw [e]
  cases dec (okWt l) <;> rfl
abbrev TX := Int × Int × Int × Int × Int × Int × Int × List VM × List VM × Unit
noncomputable def okTx (t : TX) : Bool := okT t.1 t.2.1 t.2.2.1 t.2.2.2.1 t.2.2.2.2.1 t.2.2.2.2.2.1 t.2.2.2.2.2.2.1 t.2.2.2.2.2.2.2.1 t.2.2.2.2.2.2.2.2.1
def smT (t : TX) : Prop := t.2.2.2.2.2.2.2.1.length ≤ 1048576 ∧ t.2.2.2.2.2.2.2.2.1.length ≤ 1048576
theorem p_implT {id sc st be lo hi co : Int} {rd wr : List VM} (hr : rd.length ≤ 1048576) (hw : wr.length ≤ 1048576) : impl_IsValidTransaction_S ((id, sc, st, be, lo, hi, co, rd, wr, ()), ()) = some (okT id sc st be lo hi co rd wr, ()) := by
  unfold impl_IsValidTransaction_S impl_isScheme_S impl_IsStamp_S
  simp only [p_isID, p_implIn, p_implReads hr, p_implWrites hw, Option.bind_some]
  unfold okT
  have e1 : ∀ n : Int, inB n 1 999 = (inB n 0 999 && decide (n > 0)) := fun n => by
    unfold inB
    rw [Bool.eq_iff_iff]
    simp only [Bool.and_eq_true, decide_eq_true_eq]
    omega
  have e2 : (co == 0) = (inB co 0 999 && !decide (co > 0)) := by
    unfold inB
    rw [Bool.eq_iff_iff]
    simp only [beq_iff_eq, Bool.and_eq_true, decide_eq_true_eq, Bool.not_eq_true', decide_eq_false_iff_not]
    omega
  simp only [e1, e2, bne]
  cases inB id 1 9 <;> cases inB sc 1 4 <;> cases inB be 0 999 <;> cases inB st 1 3 <;> cases inB lo 0 999 <;> cases inB hi 1 1000 <;> cases (st == 2 : Bool) <;> cases inB co 0 999 <;> cases decide (co > 0) <;> cases dec (okRd rd) <;> cases decide (rd.length ≤ 60) <;> cases dec (okWr wr) <;> rfl
theorem okT_rd {id sc st be lo hi co : Int} {rd wr : List VM} (h : okT id sc st be lo hi co rd wr = true) : okRd rd := by
  unfold okT at h
  simp only [Bool.and_eq_true] at h
  by_cases h2 : okRd rd
  · exact h2
  · have := h.1.1.1.1.1.1.1.1.1.1
    rw [dec_false h2] at this; cases this
def txAt (s : List (List VV)) (stamp : Int) (l : List TX) (i : Nat) : Prop := ∃ h : i < l.length, okTx l[i] = true ∧ (∀ h2 : 0 < i, (l[i - 1]'(by omega)).1 < l[i].1) ∧ l[i].2.2.2.1 ≤ stamp ∧ l[i].2.2.2.2.2.2.1 ≤ stamp ∧ (l[i].2.2.1 = 1 → ∀ m ∈ l[i].2.2.2.2.2.2.2.1, exAt s m)
def okTxs (s : List (List VV)) (stamp : Int) (l : List TX) : Prop := ∀ i, i < l.length → txAt s stamp l i
section
variable {s : List (List VV)} (hs : SmallCs s) (hok : okSt s) {l : List TX} (hl : l.length ≤ 1048576) (hsm : ∀ t ∈ l, smT t)
include hs hok hl hsm
theorem p_implTxs (ce : Bool) (lk wt : List VM) (stamp : Int) : impl_Engine_areTransactions_S ((ce, (s, ()), l, lk, wt, stamp, ()), ()) = some (dec (okTxs s stamp l) && decide (l.length ≤ 6), ()) := by
  have e : impl_Engine_areTransactions_S ((ce, (s, ()), l, lk, wt, stamp, ()), ()) = bif dec (okTxs s stamp l) then some (decide (((l.length : Nat) : Int) ≤ 6), ()) else some (false, ()) := by
    unfold impl_Engine_areTransactions_S
    refine all_loopK (n := l.length) (c := txAt s stamp l) (fun i hi => ?_) ⟨.inr (.inr (.inr (.inr (.inr (.inr (.inr (.inr ()))))))), ?_, rfl⟩
    · have hm := hsm _ (List.getElem_mem hi)
      unfold impl_Engine_areTransactions_D2
      simp only [lAt_nat hi, Option.bind_some, p_implT hm.1 hm.2]
      rw [decide_eq_true (by omega)]
      simp only [cond_true]
      cases h1 : okTx l[i] with
      | false =>
        have h1' := h1
        unfold okTx at h1'
        rw [h1']
        exact ⟨fun ⟨_, h, _⟩ => (by rw [h1] at h; cases h), fun _ => ⟨_, rfl, rfl⟩⟩
      | true =>
        have h1' := h1
        unfold okTx at h1'
        rw [h1']
        simp only [Bool.not_true, cond_false, p_implEx hs hok.1 hm.1 (okT_rd h1'), Option.bind_some]
        rw [wrap_succ hi (by omega)]
        by_cases h3 : 0 < i
        · have hlt : i - 1 < l.length := by omega
          rw [decide_eq_true (show (i : Int) > 0 by omega), show IntKind.i64.wrap ((i : Int) - 1) = ((i - 1 : Nat) : Int) from by rw [wrap_id (by omega) (by omega)]; omega, lAt_nat hlt]
          simp only [cond_true, Option.bind_some]
          by_cases hb : l[i - 1].1 < l[i].1
          case neg =>
            rw [decide_eq_true (by omega)]
            exact ⟨fun ⟨_, _, h, _⟩ => absurd (h h3) hb, fun _ => ⟨_, rfl, rfl⟩⟩
          rw [decide_eq_false (by omega)]
          simp only [cond_false]
          by_cases q1 : l[i].2.2.2.1 ≤ stamp
          case neg =>
            rw [decide_eq_true (by omega)]
            exact ⟨fun ⟨_, _, _, h, _⟩ => absurd h q1, fun _ => ⟨_, rfl, rfl⟩⟩
          rw [decide_eq_false (by omega)]
          simp only [cond_false]
          by_cases q2 : l[i].2.2.2.2.2.2.1 ≤ stamp
          case neg =>
            rw [decide_eq_true (by omega)]
            exact ⟨fun ⟨_, _, _, _, h, _⟩ => absurd h q2, fun _ => ⟨_, rfl, rfl⟩⟩
          rw [decide_eq_false (by omega)]
          simp only [cond_false]
          by_cases q3 : l[i].2.2.1 = 1
          · rw [show (l[i].2.2.1 == 1) = true from by simpa using q3]
            simp only [cond_true]
            by_cases q4 : ∀ m ∈ l[i].2.2.2.2.2.2.2.1, exAt s m
            · rw [dec_true q4]
              exact ⟨fun _ => rfl, fun h => absurd ⟨hi, h1, fun _ => hb, q1, q2, fun _ => q4⟩ h⟩
            · rw [dec_false q4]
              exact ⟨fun ⟨_, _, _, _, _, h⟩ => absurd (h q3) q4, fun _ => ⟨_, rfl, rfl⟩⟩
          · rw [show (l[i].2.2.1 == 1) = false from by simpa using q3]
            exact ⟨fun _ => rfl, fun h => absurd ⟨hi, h1, fun _ => hb, q1, q2, fun h => absurd h q3⟩ h⟩
        · rw [decide_eq_false (show ¬ (i : Int) > 0 by omega)]
          simp only [cond_false]
          by_cases q1 : l[i].2.2.2.1 ≤ stamp
          case neg =>
            rw [decide_eq_true (by omega)]
            exact ⟨fun ⟨_, _, _, h, _⟩ => absurd h q1, fun _ => ⟨_, rfl, rfl⟩⟩
          rw [decide_eq_false (by omega)]
          simp only [cond_false]
          by_cases q2 : l[i].2.2.2.2.2.2.1 ≤ stamp
          case neg =>
            rw [decide_eq_true (by omega)]
            exact ⟨fun ⟨_, _, _, _, h, _⟩ => absurd h q2, fun _ => ⟨_, rfl, rfl⟩⟩
          rw [decide_eq_false (by omega)]
          simp only [cond_false]
          by_cases q3 : l[i].2.2.1 = 1
          · rw [show (l[i].2.2.1 == 1) = true from by simpa using q3]
            simp only [cond_true]
            by_cases q4 : ∀ m ∈ l[i].2.2.2.2.2.2.2.1, exAt s m
            · rw [dec_true q4]
              exact ⟨fun _ => rfl, fun h => absurd ⟨hi, h1, fun h => absurd h h3, q1, q2, fun _ => q4⟩ h⟩
            · rw [dec_false q4]
              exact ⟨fun ⟨_, _, _, _, _, h⟩ => absurd (h q3) q4, fun _ => ⟨_, rfl, rfl⟩⟩
          · rw [show (l[i].2.2.1 == 1) = false from by simpa using q3]
            exact ⟨fun _ => rfl, fun h => absurd ⟨hi, h1, fun h => absurd h h3, q1, q2, fun h => absurd h q3⟩ h⟩
    · unfold impl_Engine_areTransactions_D2
      simp only
      rw [decide_eq_false (by omega)]; rfl
  rw [e]
  have d : decide (((l.length : Nat) : Int) ≤ 6) = decide (l.length ≤ 6) := decide_eq_decide.2 (by omega)
  rw [d]
  cases dec (okTxs s stamp l) <;> rfl
end
section
variable {s : List (List VV)} (hs : SmallCs s) (hok : okSt s) {l : List TX} (hl : l.length ≤ 1048576) (hsm : ∀ t ∈ l, smT t)
include hs hok hl hsm
theorem p_specTxs (ce : Bool) (lk wt : List VM) (stamp : Int) {τ : Type} (X no : Option τ) : ((iter (fun v => spec_IsValidEngine_D4 (ce, s, l, lk, wt, stamp, ()) v _ some) (0, ())).bind fun p => sumC p (fun p => no) fun p => sumC p (fun p => no) fun p => sumC p (fun p => no) fun p => sumC p (fun p => no) fun p => sumC p (fun p => no) fun p => sumC p (fun p => no) fun p => sumC p (fun p => no) fun p => sumC p (fun p => no) fun p => X) = bif dec (okTxs s stamp l) then X else no := by
  refine all_loopK (n := l.length) (c := txAt s stamp l) (fun i hi => ?_) ⟨.inr (.inr (.inr (.inr (.inr (.inr (.inr (.inr ()))))))), ?_, rfl⟩
  · have hm := hsm _ (List.getElem_mem hi)
    unfold spec_IsValidEngine_D4
    simp only [lAt_nat hi, Option.bind_some, p_specT hm.1 hm.2]
    rw [decide_eq_true (by omega)]
    simp only [cond_true]
    cases h1 : okTx l[i] with
    | false =>
      have h1' := h1
      unfold okTx at h1'
      rw [h1']
      exact ⟨fun ⟨_, h, _⟩ => (by rw [h1] at h; cases h), fun _ => ⟨_, rfl, rfl⟩⟩
    | true =>
      have h1' := h1
      unfold okTx at h1'
      rw [h1']
      simp only [Bool.not_true, cond_false, p_specEx hs hok hm.1 hm.2 h1' (okT_rd h1'), Option.bind_some]
      rw [wrap_succ hi (by omega)]
      by_cases h3 : 0 < i
      · have hlt : i - 1 < l.length := by omega
        rw [decide_eq_true (show (i : Int) > 0 by omega), show IntKind.i64.wrap ((i : Int) - 1) = ((i - 1 : Nat) : Int) from by rw [wrap_id (by omega) (by omega)]; omega, lAt_nat hlt]
        simp only [cond_true, Option.bind_some]
        by_cases hb : l[i - 1].1 < l[i].1
        case neg =>
          rw [decide_eq_true (by omega)]
          exact ⟨fun ⟨_, _, h, _⟩ => absurd (h h3) hb, fun _ => ⟨_, rfl, rfl⟩⟩
        rw [decide_eq_false (by omega)]
        simp only [cond_false]
        by_cases q1 : l[i].2.2.2.1 ≤ stamp
        case neg =>
          rw [decide_eq_true (by omega)]
          exact ⟨fun ⟨_, _, _, h, _⟩ => absurd h q1, fun _ => ⟨_, rfl, rfl⟩⟩
        rw [decide_eq_false (by omega)]
        simp only [cond_false]
        by_cases q2 : l[i].2.2.2.2.2.2.1 ≤ stamp
        case neg =>
          rw [decide_eq_true (by omega)]
          exact ⟨fun ⟨_, _, _, _, h, _⟩ => absurd h q2, fun _ => ⟨_, rfl, rfl⟩⟩
        rw [decide_eq_false (by omega)]
        simp only [cond_false]
        by_cases q3 : l[i].2.2.1 = 1
        · rw [show (l[i].2.2.1 == 1) = true from by simpa using q3]
          simp only [cond_true]
          by_cases q4 : ∀ m ∈ l[i].2.2.2.2.2.2.2.1, exAt s m
          · rw [dec_true q4]
            exact ⟨fun _ => rfl, fun h => absurd ⟨hi, h1, fun _ => hb, q1, q2, fun _ => q4⟩ h⟩
          · rw [dec_false q4]
            exact ⟨fun ⟨_, _, _, _, _, h⟩ => absurd (h q3) q4, fun _ => ⟨_, rfl, rfl⟩⟩
        · rw [show (l[i].2.2.1 == 1) = false from by simpa using q3]
          exact ⟨fun _ => rfl, fun h => absurd ⟨hi, h1, fun _ => hb, q1, q2, fun h => absurd h q3⟩ h⟩
      · rw [decide_eq_false (show ¬ (i : Int) > 0 by omega)]
        simp only [cond_false]
        by_cases q1 : l[i].2.2.2.1 ≤ stamp
        case neg =>
          rw [decide_eq_true (by omega)]
          exact ⟨fun ⟨_, _, _, h, _⟩ => absurd h q1, fun _ => ⟨_, rfl, rfl⟩⟩
        rw [decide_eq_false (by omega)]
        simp only [cond_false]
        by_cases q2 : l[i].2.2.2.2.2.2.1 ≤ stamp
        case neg =>
          rw [decide_eq_true (by omega)]
          exact ⟨fun ⟨_, _, _, _, h, _⟩ => absurd h q2, fun _ => ⟨_, rfl, rfl⟩⟩
        rw [decide_eq_false (by omega)]
        simp only [cond_false]
        by_cases q3 : l[i].2.2.1 = 1
        · rw [show (l[i].2.2.1 == 1) = true from by simpa using q3]
          simp only [cond_true]
          by_cases q4 : ∀ m ∈ l[i].2.2.2.2.2.2.2.1, exAt s m
          · rw [dec_true q4]
            exact ⟨fun _ => rfl, fun h => absurd ⟨hi, h1, fun h => absurd h h3, q1, q2, fun _ => q4⟩ h⟩
          · rw [dec_false q4]
            exact ⟨fun ⟨_, _, _, _, _, h⟩ => absurd (h q3) q4, fun _ => ⟨_, rfl, rfl⟩⟩
        · rw [show (l[i].2.2.1 == 1) = false from by simpa using q3]
          exact ⟨fun _ => rfl, fun h => absurd ⟨hi, h1, fun h => absurd h h3, q1, q2, fun h => absurd h q3⟩ h⟩
  · unfold spec_IsValidEngine_D4
    simp only
    rw [decide_eq_false (by omega)]; rfl
end
def actB (l : List TX) (id : Int) : Bool := match l.findIdx? (fun t => t.1 == id) with
  | some i => match l[i]? with
    | some t => t.2.2.1 == 1
    | none => false
  | none => false
theorem p_specFT {s : List (List VV)} {l : List TX} (hl : l.length ≤ 1048576) (ce : Bool) (lk wt : List VM) (stamp id : Int) : spec_FindTransaction_S ((ce, (s, ()), l, lk, wt, stamp, ()), id, ()) = some (fx (l.findIdx? (fun t => t.1 == id)), ()) := by
  unfold spec_FindTransaction_S
  refine find_loop hl (fun i h => ?_) ?_
  · unfold spec_FindTransaction_D2
    simp only [lAt_nat h, Option.bind_some]
    rw [decide_eq_true (by omega), wrap_succ h (by omega)]
    simp only [cond_true]
    cases (l[i].1 == id : Bool) <;> rfl
  · unfold spec_FindTransaction_D2
    simp only
    rw [decide_eq_false (by omega)]; rfl
theorem p_implFT {s : List (List VV)} {l : List TX} (hl : l.length ≤ 1048576) (ce : Bool) (lk wt : List VM) (stamp id : Int) : impl_FindTransaction_S ((ce, (s, ()), l, lk, wt, stamp, ()), id, ()) = some (fx (l.findIdx? (fun t => t.1 == id)), ()) := by
  unfold impl_FindTransaction_S slices_IndexFunc__impl_FindTransaction_1_S
  have := find_loop hl (p := fun t : TX => t.1 == id) (B := fun v => slices_IndexFunc__impl_FindTransaction_1_D2 (l, (some id, ()), ((l.length : Nat) : Int), ()) v _ some) (fun i h => by
    unfold slices_IndexFunc__impl_FindTransaction_1_D2 impl_FindTransaction_1_S
    simp only [lAt_nat h, Option.bind_some]
    rw [decide_eq_true (by omega), wrap_succ h (by omega)]
    simp only [cond_true]
    cases (l[i].1 == id : Bool) <;> rfl) (by
    unfold slices_IndexFunc__impl_FindTransaction_1_D2
    simp only
    rw [decide_eq_false (by omega)]; rfl)
  simp only [this, Option.bind_some]
theorem act_some (l : List TX) (id : Int) : (bif decide (fx (l.findIdx? (fun t => t.1 == id)) ≥ 0) then (lAt l (fx (l.findIdx? (fun t => t.1 == id)))).bind fun v => some (v.2.2.1 == 1, ()) else some (false, ())) = some (actB l id, ()) := by
  unfold actB
  cases h : l.findIdx? (fun t => t.1 == id) with
  | none => rfl
  | some i =>
    obtain ⟨hi, _⟩ := List.findIdx?_eq_some_iff_getElem.1 h
    have e1 : decide (fx (some i) ≥ 0) = true := decide_eq_true (by simp only [fx]; omega)
    have e2 : lAt l (fx (some i)) = some l[i] := lAt_nat hi
    rw [e1, e2]
    simp [hi]
theorem p_specAct {s : List (List VV)} {l : List TX} (hl : l.length ≤ 1048576) (ce : Bool) (lk wt : List VM) (stamp id : Int) : spec_l13Active_S ((ce, (s, ()), l, lk, wt, stamp, ()), id, ()) = some (actB l id, ()) := by
  unfold spec_l13Active_S
  simp only [p_specFT hl, Option.bind_some]
  exact act_some l id
theorem p_implAct {s : List (List VV)} {l : List TX} (hl : l.length ≤ 1048576) (ce : Bool) (lk wt : List VM) (stamp id : Int) : impl_Engine_isActive_S ((ce, (s, ()), l, lk, wt, stamp, ()), id, ()) = some (actB l id, ()) := by
  unfold impl_Engine_isActive_S
  simp only [p_implFT hl, Option.bind_some]
  exact act_some l id
section
variable {s : List (List VV)} {l : List TX} (hl : l.length ≤ 1048576)
include hl
theorem p_specLks (ce : Bool) (lk wt : List VM) (hk : lk.length ≤ 1048576) (stamp : Int) {τ : Type} (X no : Option τ) : ((iter (fun v => spec_IsValidEngine_D10 (ce, s, l, lk, wt, stamp, ()) v _ some) (0, ())).bind fun p => sumC p (fun p => no) fun p => X) = bif dec (∀ m ∈ lk, actB l m.2.1 = true) then X else no := by
  refine (all_loopK (n := lk.length) (c := fun i => ∃ h : i < lk.length, actB l lk[i].2.1 = true) (X := X) (no := no) (fun i hi => ?_) ⟨.inr (), ?_, rfl⟩).trans ?_
  · unfold spec_IsValidEngine_D10
    simp only [lAt_nat hi, Option.bind_some, p_specAct hl]
    rw [decide_eq_true (by omega), wrap_succ hi (by omega)]
    cases h : actB l lk[i].2.1 with
    | true => exact ⟨fun _ => rfl, fun hh => absurd ⟨hi, h⟩ hh⟩
    | false => exact ⟨fun ⟨_, hh⟩ => (by rw [h] at hh; cases hh), fun _ => ⟨_, rfl, rfl⟩⟩
  · unfold spec_IsValidEngine_D10
    simp only
    rw [decide_eq_false (by omega)]; rfl
  · rw [dec_congr (q := ∀ m ∈ lk, actB l m.2.1 = true)]
    constructor
    · intro h m hm
      obtain ⟨i, hi', rfl⟩ := List.getElem_of_mem hm
      exact (h i hi').2
    · intro h i hi'; exact ⟨hi', h _ (List.getElem_mem hi')⟩
theorem p_specWts (ce : Bool) (lk wt : List VM) (hk : wt.length ≤ 1048576) (stamp : Int) {τ : Type} (X no : Option τ) : ((iter (fun v => spec_IsValidEngine_D15 (ce, s, l, lk, wt, stamp, ()) v _ some) (0, ())).bind fun p => sumC p (fun p => no) fun p => sumC p (fun p => no) fun p => X) = bif dec (∀ m ∈ wt, actB l m.1 = true ∧ actB l m.2.1 = true) then X else no := by
  refine (all_loopK (n := wt.length) (c := fun i => ∃ h : i < wt.length, actB l wt[i].1 = true ∧ actB l wt[i].2.1 = true) (X := X) (no := no) (fun i hi => ?_) ⟨.inr (.inr ()), ?_, rfl⟩).trans ?_
  · unfold spec_IsValidEngine_D15
    simp only [lAt_nat hi, Option.bind_some, p_specAct hl]
    rw [decide_eq_true (by omega), wrap_succ hi (by omega)]
    cases h : actB l wt[i].1 with
    | false => exact ⟨fun ⟨_, hh, _⟩ => (by rw [h] at hh; cases hh), fun _ => ⟨_, rfl, rfl⟩⟩
    | true =>
      cases h' : actB l wt[i].2.1 with
      | true => exact ⟨fun _ => rfl, fun hh => absurd ⟨hi, h, h'⟩ hh⟩
      | false => exact ⟨fun ⟨_, _, hh⟩ => (by rw [h'] at hh; cases hh), fun _ => ⟨_, rfl, rfl⟩⟩
  · unfold spec_IsValidEngine_D15
    simp only
    rw [decide_eq_false (by omega)]; rfl
  · rw [dec_congr (q := ∀ m ∈ wt, actB l m.1 = true ∧ actB l m.2.1 = true)]
    constructor
    · intro h m hm
      obtain ⟨i, hi', rfl⟩ := List.getElem_of_mem hm
      exact (h i hi').2
    · intro h i hi'; exact ⟨hi', h _ (List.getElem_mem hi')⟩
theorem p_implLks (ce : Bool) (lk wt : List VM) (hk : lk.length ≤ 1048576) (stamp : Int) : slices_ContainsFunc__impl_IsValidEngine_1_S (lk, (some (ce, (s, ()), l, lk, wt, stamp, ()), ()), ()) = some (!dec (∀ m ∈ lk, actB l m.2.1 = true), ()) := by
  unfold slices_ContainsFunc__impl_IsValidEngine_1_S slices_IndexFunc__impl_IsValidEngine_1_S
  obtain ⟨n, e, h⟩ := indexFunc (ρ := Unit) (l := lk) (p := fun m => ¬ actB l m.2.1 = true) hk (B := fun v => slices_IndexFunc__impl_IsValidEngine_1_D2 (lk, (some (ce, (s, ()), l, lk, wt, stamp, ()), ()), ((lk.length : Nat) : Int), ()) v _ some) (fun i hi => by
      unfold slices_IndexFunc__impl_IsValidEngine_1_D2 impl_IsValidEngine_1_S
      simp only [lAt_nat hi, Option.bind_some, p_implAct hl]
      rw [decide_eq_true (by omega), wrap_succ hi (by omega)]
      cases ho : actB l lk[i].2.1 with
      | true => rw [dec_false (fun hh => hh rfl)]; rfl
      | false => rw [dec_true (by simp)]; rfl) (by
      unfold slices_IndexFunc__impl_IsValidEngine_1_D2
      simp only
      rw [decide_eq_false (by omega)]; rfl)
  simp only [e, Option.bind_some]
  rcases h with ⟨i, hi, rfl, hp, _⟩ | ⟨rfl, hp⟩
  · rw [decide_eq_true (by omega), dec_false (fun hh => hp (hh _ (List.getElem_mem hi)))]; rfl
  · rw [decide_eq_false (by omega), dec_true (fun m hm => Classical.not_not.1 (hp m hm))]; rfl
theorem p_implWts (ce : Bool) (lk wt : List VM) (hk : wt.length ≤ 1048576) (stamp : Int) : slices_ContainsFunc__impl_IsValidEngine_2_S (wt, (some (ce, (s, ()), l, lk, wt, stamp, ()), ()), ()) = some (!dec (∀ m ∈ wt, actB l m.1 = true ∧ actB l m.2.1 = true), ()) := by
  unfold slices_ContainsFunc__impl_IsValidEngine_2_S slices_IndexFunc__impl_IsValidEngine_2_S
  obtain ⟨n, e, h⟩ := indexFunc (ρ := Unit) (l := wt) (p := fun m => ¬ (actB l m.1 = true ∧ actB l m.2.1 = true)) hk (B := fun v => slices_IndexFunc__impl_IsValidEngine_2_D2 (wt, (some (ce, (s, ()), l, lk, wt, stamp, ()), ()), ((wt.length : Nat) : Int), ()) v _ some) (fun i hi => by
      unfold slices_IndexFunc__impl_IsValidEngine_2_D2 impl_IsValidEngine_2_S
      simp only [lAt_nat hi, Option.bind_some, p_implAct hl]
      rw [decide_eq_true (by omega), wrap_succ hi (by omega)]
      cases ho : actB l wt[i].1 with
      | false => rw [dec_true (by simp)]; rfl
      | true =>
        cases ho' : actB l wt[i].2.1 with
        | true => rw [dec_false (fun hh => hh ⟨rfl, rfl⟩)]; rfl
        | false => rw [dec_true (by simp)]; rfl) (by
      unfold slices_IndexFunc__impl_IsValidEngine_2_D2
      simp only
      rw [decide_eq_false (by omega)]; rfl)
  simp only [e, Option.bind_some]
  rcases h with ⟨i, hi, rfl, hp, _⟩ | ⟨rfl, hp⟩
  · rw [decide_eq_true (by omega), dec_false (fun hh => hp (hh _ (List.getElem_mem hi)))]; rfl
  · rw [decide_eq_false (by omega), dec_true (fun m hm => Classical.not_not.1 (hp m hm))]; rfl
end
noncomputable def okE (s : List (List VV)) (l : List TX) (lk wt : List VM) (stamp : Int) : Bool :=
  dec (okSt s) && dec (okLk lk) && dec (okWt wt) && inB stamp (s.foldl lastC 0) 999 && dec (okTxs s stamp l) && decide (l.length ≤ 6) && dec (∀ m ∈ lk, actB l m.2.1 = true) && dec (∀ m ∈ wt, actB l m.1 = true ∧ actB l m.2.1 = true)
structure SmallE (s : List (List VV)) (l : List TX) (lk wt : List VM) : Prop where
  fs : SmallCs s
  fl : l.length ≤ 1048576
  ft : ∀ t ∈ l, smT t
  fk : lk.length ≤ 1048576
  fw : wt.length ≤ 1048576
theorem p_implE {s : List (List VV)} {l : List TX} {lk wt : List VM} (h : SmallE s l lk wt) (ce : Bool) (stamp : Int) : impl_IsValidEngine_S ((ce, (s, ()), l, lk, wt, stamp, ()), ()) = some (okE s l lk wt stamp, ()) := by
  unfold impl_IsValidEngine_S okE
  simp only [p_implS h.fs, p_impl_AreLocks h.fk, p_impl_AreWaits h.fw, p_implLast h.fs, p_implIn, p_implLks h.fl _ _ _ h.fk, p_implWts h.fl _ _ _ h.fw, Option.bind_some]
  by_cases h1 : okSt s
  case neg => rw [dec_false h1]; rfl
  rw [dec_true h1, p_implTxs h.fs h1 h.fl h.ft]
  simp only [Option.bind_some]
  cases dec (okLk lk) <;> cases dec (okWt wt) <;> cases inB stamp (s.foldl lastC 0) 999 <;> cases dec (okTxs s stamp l) <;> cases decide (l.length ≤ 6) <;> cases dec (∀ m ∈ lk, actB l m.2.1 = true) <;> cases dec (∀ m ∈ wt, actB l m.1 = true ∧ actB l m.2.1 = true) <;> rfl
theorem p_specE {s : List (List VV)} {l : List TX} {lk wt : List VM} (h : SmallE s l lk wt) (ce : Bool) (stamp : Int) : spec_IsValidEngine_S ((ce, (s, ()), l, lk, wt, stamp, ()), ()) = some (okE s l lk wt stamp, ()) := by
  unfold spec_IsValidEngine_S okE
  simp only [p_specS h.fs, p_spec_AreLocks h.fk, p_spec_AreWaits h.fw, p_specIn, Option.bind_some]
  by_cases h1 : okSt s
  case neg => rw [dec_false h1]; rfl
  rw [dec_true h1]
  simp only [p_specLast h.fs h1, p_specIn, Option.bind_some, p_specTxs h.fs h1 h.fl h.ft, p_specLks h.fl _ _ _ h.fk, p_specWts h.fl _ _ _ h.fw]
  have d : decide (((l.length : Nat) : Int) > 6) = !decide (l.length ≤ 6) := by
    rw [Bool.eq_iff_iff]
    simp only [decide_eq_true_eq, Bool.not_eq_true', decide_eq_false_iff_not]
    omega
  rw [d]
  cases dec (okLk lk) <;> cases dec (okWt wt) <;> cases inB stamp (s.foldl lastC 0) 999 <;> cases dec (okTxs s stamp l) <;> cases decide (l.length ≤ 6) <;> cases dec (∀ m ∈ lk, actB l m.2.1 = true) <;> cases dec (∀ m ∈ wt, actB l m.1 = true ∧ actB l m.2.1 = true) <;> rfl
theorem p_toLockS (a : List VM) (ha : a.length ≤ 1048576) : laws_toLockS_S (a, ()) = some (a, ()) := by
  unfold laws_toLockS_S
  simp only
  rw [if_pos (by omega), Int.toNat_natCast]
  refine copy_loopK ha (fun i h out ho => ?_) fun out => ?_
  · unfold laws_toLockS_D3
    simp only [lAt_nat h, Option.bind_some, laws_toLock_S]
    rw [decide_eq_true (by omega), if_pos (by omega), wrap_succ h (by omega)]
    simp [ho, h]
  · unfold laws_toLockS_D3
    simp only
    rw [decide_eq_false (by omega)]; rfl
theorem p_toWaitS (a : List VM) (ha : a.length ≤ 1048576) : laws_toWaitS_S (a, ()) = some (a, ()) := by
  unfold laws_toWaitS_S
  simp only
  rw [if_pos (by omega), Int.toNat_natCast]
  refine copy_loopK ha (fun i h out ho => ?_) fun out => ?_
  · unfold laws_toWaitS_D3
    simp only [lAt_nat h, Option.bind_some, laws_toWait_S]
    rw [decide_eq_true (by omega), if_pos (by omega), wrap_succ h (by omega)]
    simp [ho, h]
  · unfold laws_toWaitS_D3
    simp only
    rw [decide_eq_false (by omega)]; rfl
theorem p_szLockS {a : List VM} {l : Int} (ha : a.length ≤ maxLen) (h0 : 0 ≤ l) (h1 : l ≤ 1048576) : SzOK (a.length ≤ 1048576) (laws_szLockS_S (a, l, ())) := sz_flat ha h0 h1
theorem p_szWaitS {a : List VM} {l : Int} (ha : a.length ≤ maxLen) (h0 : 0 ≤ l) (h1 : l ≤ 1048576) : SzOK (a.length ≤ 1048576) (laws_szWaitS_S (a, l, ())) := sz_flat ha h0 h1
theorem p_eqLock (v : VM) : laws_eqLock_S (v, v, ()) = some (true, ()) := by
  simp [laws_eqLock_S]
theorem p_eqLockS (a : List VM) (ha : a.length < 9223372036854775000) : laws_eqLockS_S (a, a, ()) = some (true, ()) := by
  unfold laws_eqLockS_S
  simp only [bne_self_eq_false, cond_false]
  refine iter_upK a.length (fun j => ((j : Int), ())) rfl (fun j hj => ?_) ⟨.inr (), ?_, rfl⟩
  · unfold laws_eqLockS_D4
    simp only [lAt_nat hj, Option.bind_some, p_eqLock]
    rw [decide_eq_true (by omega), wr1 (by omega) (by omega)]
    rfl
  · unfold laws_eqLockS_D4
    simp only
    rw [decide_eq_false (by omega)]
    rfl
theorem p_eqWait (v : VM) : laws_eqWait_S (v, v, ()) = some (true, ()) := by
  simp [laws_eqWait_S]
theorem p_eqWaitS (a : List VM) (ha : a.length < 9223372036854775000) : laws_eqWaitS_S (a, a, ()) = some (true, ()) := by
  unfold laws_eqWaitS_S
  simp only [bne_self_eq_false, cond_false]
  refine iter_upK a.length (fun j => ((j : Int), ())) rfl (fun j hj => ?_) ⟨.inr (), ?_, rfl⟩
  · unfold laws_eqWaitS_D4
    simp only [lAt_nat hj, Option.bind_some, p_eqWait]
    rw [decide_eq_true (by omega), wr1 (by omega) (by omega)]
    rfl
  · unfold laws_eqWaitS_D4
    simp only
    rw [decide_eq_false (by omega)]
    rfl
theorem p_szTransaction {t : TX} {l : Int} (h1 : t.2.2.2.2.2.2.2.1.length ≤ maxLen) (h2 : t.2.2.2.2.2.2.2.2.1.length ≤ maxLen) (h0 : 0 ≤ l) (hl : l ≤ 1048576) : SzOK (smT t) (laws_szTransaction_S (t, l, ())) :=
  sz_then (p_szReadMarkS h1 h0 hl) fun n h0 h1 => sz_again (p_szWriteS h2 h0 h1)
theorem p_szTransactionS {a : List TX} {l : Int} (ha : a.length ≤ maxLen) (hb : ∀ t ∈ a, t.2.2.2.2.2.2.2.1.length ≤ maxLen ∧ t.2.2.2.2.2.2.2.2.1.length ≤ maxLen) (h0 : 0 ≤ l) (h1 : l ≤ 1048576) : SzOK (a.length ≤ 1048576 ∧ ∀ t ∈ a, smT t) (laws_szTransactionS_S (a, l, ())) :=
  sz_listK (Small := smT) (F := fun e l => laws_szTransaction_S (e, l, ())) ha (fun e he l h0 h1 => p_szTransaction (hb e he).1 (hb e he).2 h0 h1) (fun l i => rfl) h0 h1
theorem p_szEngine {ce : Bool} {s : List (List VV)} {t : List TX} {lk wt : List VM} {stamp l : Int} (hs : s.length ≤ maxLen) (hss : ∀ e ∈ s, e.length ≤ maxLen) (ha : t.length ≤ maxLen) (hb : ∀ x ∈ t, x.2.2.2.2.2.2.2.1.length ≤ maxLen ∧ x.2.2.2.2.2.2.2.2.1.length ≤ maxLen) (hk : lk.length ≤ maxLen) (hw : wt.length ≤ maxLen) (h0 : 0 ≤ l) (h1 : l ≤ 1048576) :
    SzOK (SmallE s t lk wt) (laws_szEngine_S ((ce, (s, ()), t, lk, wt, stamp, ()), l, ())) := by
  have := sz_then (B := ((t.length ≤ 1048576 ∧ ∀ x ∈ t, smT x) ∧ (lk.length ≤ 1048576 ∧ wt.length ≤ 1048576))) (p_szStore hs hss h0 h1) (G := fun v => (laws_szTransactionS_S (t, v.1, ())).bind fun v => bif decide (v.1 < 0) then some (-1, ()) else (laws_szLockS_S (lk, v.1, ())).bind fun v => bif decide (v.1 < 0) then some (-1, ()) else (laws_szWaitS_S (wt, v.1, ())).bind fun v => bif decide (v.1 < 0) then some (-1, ()) else some (v.1, ())) fun n h0 h1 =>
    sz_then (p_szTransactionS ha hb h0 h1) fun n h0 h1 => sz_then (p_szLockS hk h0 h1) fun n h0 h1 => sz_again (p_szWaitS hw h0 h1)
  exact this.mono fun ⟨q1, ⟨q2, q3⟩, q4, q5⟩ => ⟨q1, q2, q3, q4, q5⟩
theorem p_toTransaction (t : TX) (h : smT t) : laws_toTransaction_S ((t.1, t.2.1, t.2.2.1, t.2.2.2.1, t.2.2.2.2.1, t.2.2.2.2.2.1, t.2.2.2.2.2.2.1, t.2.2.2.2.2.2.2.1, t.2.2.2.2.2.2.2.2.1, ()), ()) = some t := by
  simp [laws_toTransaction_S, p_toReadMarkS _ h.1, p_toWriteS _ h.2]
theorem p_toTransactionS (a : List TX) (ha : a.length ≤ 1048576) (hb : ∀ t ∈ a, smT t) : laws_toTransactionS_S (a, ()) = some (a, ()) := by
  unfold laws_toTransactionS_S
  simp only
  rw [if_pos (by omega), Int.toNat_natCast]
  refine copy_loopK ha (fun i h out ho => ?_) fun out => ?_
  · unfold laws_toTransactionS_D3
    simp only [lAt_nat h, Option.bind_some, p_toTransaction _ (hb _ (List.getElem_mem h))]
    rw [decide_eq_true (by omega), if_pos (by omega), wrap_succ h (by omega)]
    simp [ho, h]
  · unfold laws_toTransactionS_D3
    simp only
    rw [decide_eq_false (by omega)]; rfl
theorem p_eqTransaction (t : TX) (h : smT t) : laws_eqTransaction_S ((t.1, t.2.1, t.2.2.1, t.2.2.2.1, t.2.2.2.2.1, t.2.2.2.2.2.1, t.2.2.2.2.2.2.1, t.2.2.2.2.2.2.2.1, t.2.2.2.2.2.2.2.2.1, ()), (t.1, t.2.1, t.2.2.1, t.2.2.2.1, t.2.2.2.2.1, t.2.2.2.2.2.1, t.2.2.2.2.2.2.1, t.2.2.2.2.2.2.2.1, t.2.2.2.2.2.2.2.2.1, ()), ()) = some (true, ()) := by
  have h1 := h.1
  have h2 := h.2
  simp [laws_eqTransaction_S, p_eqReadMarkS _ (show t.2.2.2.2.2.2.2.1.length < 9223372036854775000 by omega), p_eqWriteS _ (show t.2.2.2.2.2.2.2.2.1.length < 9223372036854775000 by omega)]
theorem p_eqTransactionS (a : List TX) (ha : a.length ≤ 1048576) (hb : ∀ t ∈ a, smT t) : laws_eqTransactionS_S (a, a, ()) = some (true, ()) := by
  unfold laws_eqTransactionS_S
  simp only [bne_self_eq_false, cond_false]
  refine iter_upK a.length (fun j => ((j : Int), ())) rfl (fun j hj => ?_) ⟨.inr (), ?_, rfl⟩
  · unfold laws_eqTransactionS_D4
    simp only [lAt_nat hj, Option.bind_some, p_eqTransaction _ (hb _ (List.getElem_mem hj))]
    rw [decide_eq_true (by omega), wr1 (by omega) (by omega)]
    rfl
  · unfold laws_eqTransactionS_D4
    simp only
    rw [decide_eq_false (by omega)]
    rfl
theorem p_toEngine {ce : Bool} {s : List (List VV)} {t : List TX} {lk wt : List VM} {stamp : Int} (h : SmallE s t lk wt) : laws_toEngine_S ((ce, (s, ()), t, lk, wt, stamp, ()), ()) = some (ce, stamp, s, t, lk, wt, ()) := by
  simp [laws_toEngine_S, p_toStore s h.fs, p_toTransactionS t h.fl h.ft, p_toLockS lk h.fk, p_toWaitS wt h.fw]
theorem p_eqEngine {ce : Bool} {s : List (List VV)} {t : List TX} {lk wt : List VM} {stamp : Int} (h : SmallE s t lk wt) : laws_eqEngine_S ((ce, (s, ()), t, lk, wt, stamp, ()), (ce, (s, ()), t, lk, wt, stamp, ()), ()) = some (true, ()) := by
  have h1 := h.fk
  have h2 := h.fw
  simp [laws_eqEngine_S, p_eqStore h.fs, p_eqTransactionS t h.fl h.ft, p_eqLockS lk (by omega), p_eqWaitS wt (by omega)]
theorem p_cloneR {l : List VM} (hl : l.length ≤ 1048576) : slices_Clone_impl_ReadMark_S (l, ()) = some (l, ()) := by
  unfold slices_Clone_impl_ReadMark_S
  simp only
  rw [if_pos (by omega)]
  cases l with
  | nil => exact both_self _
  | cons a l => rfl
theorem p_cloneWr {l : List VM} (hl : l.length ≤ 1048576) : slices_Clone_impl_Write_S (l, ()) = some (l, ()) := by
  unfold slices_Clone_impl_Write_S
  simp only
  rw [if_pos (by omega)]
  cases l with
  | nil => exact both_self _
  | cons a l => rfl
theorem p_txCopied (t : TX) (h : smT t) : impl_Transaction_copied_S ((t.1, t.2.1, t.2.2.1, t.2.2.2.1, t.2.2.2.2.1, t.2.2.2.2.2.1, t.2.2.2.2.2.2.1, t.2.2.2.2.2.2.2.1, t.2.2.2.2.2.2.2.2.1, ()), ()) = some t := by
  simp [impl_Transaction_copied_S, p_cloneR h.1, p_cloneWr h.2]
theorem first_loop {α ρ τ : Type} {l : List α} {p : α → Bool} {B : Int × Unit → Option ((Int × Unit) ⊕ ρ)} {k : ρ → Option τ} {yes : α → Option τ} {no : Option τ}
    (hB : ∀ i (h : i < l.length), (p l[i] = true → ∃ r, B ((i : Int), ()) = some (.inr r) ∧ k r = yes l[i]) ∧ (p l[i] = false → B ((i : Int), ()) = some (.inl (((i + 1 : Nat) : Int), ())))) (hend : ∃ r, B ((l.length : Int), ()) = some (.inr r) ∧ k r = no) :
    (iter B (0, ())).bind k = match l.find? p with | some a => yes a | none => no := by
  have key : ∀ m i : Nat, i + m = l.length → (iter B ((i : Int), ())).bind k = match (l.drop i).find? p with | some a => yes a | none => no := by
    intro m
    induction m with
    | zero =>
      intro i hi
      obtain rfl : i = l.length := by omega
      obtain ⟨r, h1, h2⟩ := hend
      rw [iter_eq, h1]; simpa using h2
    | succ m ih =>
      intro i hi
      have h : i < l.length := by omega
      rw [List.drop_eq_getElem_cons h, List.find?_cons]
      cases hp : p l[i] with
      | true =>
        obtain ⟨r, h1, h2⟩ := (hB i h).1 hp
        rw [iter_eq, h1]; exact h2
      | false =>
        rw [iter_eq, (hB i h).2 hp]
        simp only [Option.bind_some]
        exact ih (i + 1) (by omega)
  simpa using key l.length 0 (by omega)
theorem okE_parts {s : List (List VV)} {l : List TX} {lk wt : List VM} {stamp : Int} (h : okE s l lk wt stamp = true) : okSt s ∧ okTxs s stamp l ∧ 0 ≤ stamp ∧ stamp ≤ 999 ∧ l.length ≤ 6 := by
  unfold okE at h
  simp only [Bool.and_eq_true] at h
  obtain ⟨⟨⟨⟨⟨⟨⟨h1, h2⟩, h3⟩, h4⟩, h5⟩, h6⟩, h7⟩, h8⟩ := h
  have a1 : okSt s := by
    by_cases h : okSt s
    · exact h
    · rw [dec_false h] at h1; cases h1
  have a2 : okTxs s stamp l := by
    by_cases h : okTxs s stamp l
    · exact h
    · rw [dec_false h] at h5; cases h5
  unfold inB at h4
  simp only [Bool.and_eq_true, decide_eq_true_eq] at h4 h6
  have key : ∀ (c : List (List VV)) (n : Int), 0 ≤ n → 0 ≤ c.foldl lastC n := by
    have k1 : ∀ (r : List VV) (n : Int), 0 ≤ n → 0 ≤ lastC n r := by
      intro r
      unfold lastC
      induction r with
      | nil => intro n hn; exact hn
      | cons v r ih => intro n hn; exact ih _ (by show 0 ≤ mx n v.2.2.2.1; unfold mx; split <;> omega)
    intro c
    induction c with
    | nil => intro n hn; exact hn
    | cons r c ih => intro n hn; exact ih _ (k1 r n hn)
  have := key s 0 (by omega)
  exact ⟨a1, a2, by omega, h4.2, h6⟩
theorem fx_any {α : Type} (l : List α) (p : α → Bool) : decide (fx (l.findIdx? p) ≥ 0) = l.any p := by
  cases h : l.findIdx? p with
  | none =>
    have : l.any p = false := by
      rw [List.any_eq_false]
      intro x hx
      have := List.findIdx?_eq_none_iff.1 h x hx
      simpa using this
    rw [this]; rfl
  | some i =>
    obtain ⟨hi, hp, _⟩ := List.findIdx?_eq_some_iff_getElem.1 h
    have : l.any p = true := List.any_eq_true.2 ⟨l[i], List.getElem_mem hi, hp⟩
    rw [this]
    exact decide_eq_true (by simp only [fx]; omega)
section
variable {α : Type} {lt : α → α → Bool}
structure StO (lt : α → α → Bool) : Prop where
  irr : ∀ x, lt x x = false
  tr : ∀ x y z, lt x y = true → lt y z = true → lt x z = true
  tri : ∀ x y, lt x y = true ∨ x = y ∨ lt y x = true
theorem StO.asym (h : StO lt) {x y : α} (h1 : lt x y = true) : lt y x = false := by
  cases h2 : lt y x with
  | false => rfl
  | true => have := h.tr x y x h1 h2; rw [h.irr] at this; cases this
theorem sorted_ext (h : StO lt) : ∀ {l m : List α}, l.Pairwise (fun a b => lt a b = true) → m.Pairwise (fun a b => lt a b = true) → (∀ x, x ∈ l ↔ x ∈ m) → l = m
  | [], [], _, _, _ => rfl
  | [], b :: m, _, _, hm => by have := (hm b).2 (List.mem_cons_self ..); cases this
  | a :: l, [], _, _, hm => by have := (hm a).1 (List.mem_cons_self ..); cases this
  | a :: l, b :: m, h1, h2, hm => by
    rw [List.pairwise_cons] at h1 h2
    have hab : a = b := by
      rcases List.mem_cons.1 ((hm a).1 (List.mem_cons_self ..)) with e | e
      · exact e
      · rcases List.mem_cons.1 ((hm b).2 (List.mem_cons_self ..)) with e' | e'
        · exact e'.symm
        · have k1 := h2.1 a e
          have k2 := h1.1 b e'
          rw [h.asym k1] at k2; cases k2
    subst hab
    congr 1
    refine sorted_ext h h1.2 h2.2 fun x => ?_
    constructor
    · intro hx
      rcases List.mem_cons.1 ((hm x).1 (List.mem_cons_of_mem _ hx)) with e | e
      · subst e; have := h1.1 x hx; rw [h.irr] at this; cases this
      · exact e
    · intro hx
      rcases List.mem_cons.1 ((hm x).2 (List.mem_cons_of_mem _ hx)) with e | e
      · subst e; have := h2.1 x hx; rw [h.irr] at this; cases this
      · exact e
theorem tw_all {p : α → Bool} : ∀ {l : List α}, ∀ x ∈ l.takeWhile p, p x = true
  | [], x, hx => by cases hx
  | a :: l, x, hx => by
    rw [List.takeWhile_cons] at hx
    split at hx
    · rename_i h
      rcases List.mem_cons.1 hx with rfl | hx
      · exact h
      · exact tw_all x hx
    · cases hx
variable [DecidableEq α]
def insE (lt : α → α → Bool) (g : List α) (e : α) : List α :=
  if (g.dropWhile fun x => lt x e).head? = some e then g else (g.takeWhile fun x => lt x e) ++ e :: (g.dropWhile fun x => lt x e)
theorem dropWhile_ge (h : StO lt) (e : α) : ∀ {g : List α}, g.Pairwise (fun a b => lt a b = true) → ∀ x ∈ g.dropWhile (fun x => lt x e), lt x e = false
  | [], _, x, hx => by cases hx
  | a :: g, hp, x, hx => by
    rw [List.pairwise_cons] at hp
    rw [List.dropWhile_cons] at hx
    split at hx
    · exact dropWhile_ge h e hp.2 x hx
    · rename_i hae
      rcases List.mem_cons.1 hx with rfl | hx
      · simpa using hae
      · cases hxe : lt x e with
        | false => rfl
        | true => exact absurd (h.tr a x e (hp.1 x hx) hxe) hae
theorem insE_mem (h : StO lt) {g : List α} {e : α} : ∀ x, x ∈ insE lt g e ↔ x ∈ g ∨ x = e := by
  intro x
  unfold insE
  split
  · rename_i hd
    have : e ∈ g := by
      have := List.mem_of_mem_head? (Option.mem_def.2 hd)
      exact (List.dropWhile_sublist _).mem this
    constructor
    · exact .inl
    · rintro (h | rfl)
      · exact h
      · exact this
  · have e1 : x ∈ g ↔ x ∈ g.takeWhile (fun x => lt x e) ∨ x ∈ g.dropWhile (fun x => lt x e) := by
      rw [← List.mem_append, List.takeWhile_append_dropWhile]
    rw [List.mem_append, List.mem_cons, e1]
    constructor
    · rintro (k | rfl | k)
      · exact .inl (.inl k)
      · exact .inr rfl
      · exact .inl (.inr k)
    · rintro ((k | k) | rfl)
      · exact .inl k
      · exact .inr (.inr k)
      · exact .inr (.inl rfl)
theorem insE_sorted (h : StO lt) {g : List α} {e : α} (hp : g.Pairwise (fun a b => lt a b = true)) : (insE lt g e).Pairwise (fun a b => lt a b = true) := by
  unfold insE
  split
  · exact hp
  · rename_i hd
    have hT : ∀ x ∈ g.takeWhile (fun x => lt x e), lt x e = true := tw_all
    have hD := dropWhile_ge h e hp
    have hne : ∀ x ∈ g.dropWhile (fun x => lt x e), lt e x = true := by
      have hpd : (g.dropWhile fun x => lt x e).Pairwise (fun a b => lt a b = true) := hp.sublist (List.dropWhile_sublist _)
      generalize g.dropWhile (fun x => lt x e) = r at hd hD hpd
      intro x hx
      cases r with
      | nil => cases hx
      | cons a r =>
        have ha : lt e a = true := by
          rcases h.tri e a with k | k | k
          · exact k
          · subst k; exact absurd rfl hd
          · rw [hD a (List.mem_cons_self ..)] at k; cases k
        rcases List.mem_cons.1 hx with rfl | hx
        · exact ha
        · exact h.tr _ _ _ ha ((List.pairwise_cons.1 hpd).1 x hx)
    have hsp := hp
    rw [← List.takeWhile_append_dropWhile (p := fun x => lt x e) (l := g)] at hsp
    rw [List.pairwise_append] at hsp ⊢
    refine ⟨hsp.1, List.pairwise_cons.2 ⟨hne, hsp.2.1⟩, fun a ha b hb => ?_⟩
    rcases List.mem_cons.1 hb with rfl | hb
    · exact hT a ha
    · exact hsp.2.2 a ha b hb
theorem foldl_insE (h : StO lt) : ∀ (r g : List α), g.Pairwise (fun a b => lt a b = true) → (r.foldl (insE lt) g).Pairwise (fun a b => lt a b = true) ∧ ∀ x, x ∈ r.foldl (insE lt) g ↔ x ∈ g ∨ x ∈ r
  | [], g, hp => ⟨hp, fun x => by simp⟩
  | e :: r, g, hp => by
    obtain ⟨h1, h2⟩ := foldl_insE h r (insE lt g e) (insE_sorted h hp)
    refine ⟨h1, fun x => ?_⟩
    rw [List.foldl_cons, h2, insE_mem h, List.mem_cons]
    constructor
    · rintro ((k | k) | k)
      · exact .inl k
      · exact .inr (.inl k)
      · exact .inr (.inr k)
    · rintro (k | k | k)
      · exact .inl (.inl k)
      · exact .inl (.inr k)
      · exact .inr k
def dedS (acc : List α) (x : α) : List α := if acc.getLast? = some x then acc else acc ++ [x]
def ded (l : List α) : List α := l.foldl dedS []
theorem ded_snoc (l : List α) (x : α) : ded (l ++ [x]) = dedS (ded l) x := by simp [ded]
theorem ded_last : ∀ (l : List α), (ded l).getLast? = l.getLast? := by
  intro l
  rcases List.eq_nil_or_concat l with rfl | ⟨l, x, rfl⟩
  · rfl
  · rw [List.concat_eq_append, ded_snoc]
    unfold dedS
    split
    · rename_i e; rw [e]; simp
    · simp
theorem ded_spec (h : StO lt) (l : List α) : l.Pairwise (fun a b => lt b a = false) → (ded l).Pairwise (fun a b => lt a b = true) ∧ (∀ x, x ∈ ded l ↔ x ∈ l) ∧ ∀ x ∈ ded l, ∀ y, l.getLast? = some y → lt y x = false := by
  suffices ∀ n (l : List α), l.length = n → l.Pairwise (fun a b => lt b a = false) → (ded l).Pairwise (fun a b => lt a b = true) ∧ (∀ x, x ∈ ded l ↔ x ∈ l) ∧ ∀ x ∈ ded l, ∀ y, l.getLast? = some y → lt y x = false from this _ l rfl
  intro n
  induction n with
  | zero =>
    intro l hl hp
    have : l = [] := List.eq_nil_of_length_eq_zero hl
    subst this
    exact ⟨by simp [ded], by simp [ded], by simp [ded]⟩
  | succ n ih =>
    intro l hl hp
    rcases List.eq_nil_or_concat l with rfl | ⟨l, z, rfl⟩
    · simp at hl
    rw [List.concat_eq_append] at hl hp ⊢
    rw [List.pairwise_append] at hp
    obtain ⟨h1, h2, h3⟩ := ih l (by simpa using hl) hp.1
    rw [ded_snoc]
    unfold dedS
    split
    · rename_i e
      rw [ded_last] at e
      refine ⟨h1, fun x => ?_, fun x hx y hy => ?_⟩
      · rw [h2, List.mem_append, List.mem_singleton]
        constructor
        · exact .inl
        · rintro (k | rfl)
          · exact k
          · exact List.mem_of_getLast? e
      · have : z = y := by simpa using hy
        subst this
        exact h3 x hx z e
    · rename_i e
      have hz : ∀ x ∈ ded l, lt x z = true := by
        intro x hx
        have k1 := hp.2.2 x ((h2 x).1 hx) z (List.mem_singleton.2 rfl)
        rcases h.tri x z with k | k | k
        · exact k
        · subst k
          exfalso
          cases hlast : l.getLast? with
          | none => rw [List.getLast?_eq_none_iff] at hlast; subst hlast; simp [ded] at hx
          | some y =>
            have k2 := h3 x hx y hlast
            have k3 := hp.2.2 y (List.mem_of_getLast? hlast) x (List.mem_singleton.2 rfl)
            rcases h.tri x y with k | k | k
            · rw [k3] at k; cases k
            · subst k; rw [ded_last, hlast] at e; exact e rfl
            · rw [k2] at k; cases k
        · rw [k1] at k; cases k
      refine ⟨?_, fun x => ?_, fun x hx y hy => ?_⟩
      · rw [List.pairwise_append]
        exact ⟨h1, List.pairwise_singleton _ _, fun a ha b hb => by rw [List.mem_singleton.1 hb]; exact hz a ha⟩
      · rw [List.mem_append, List.mem_append, h2]
      · have : z = y := by simpa using hy
        subst this
        rcases List.mem_append.1 hx with k | k
        · exact h.asym (hz x k)
        · rw [List.mem_singleton.1 k]; exact h.irr _
theorem ded_sort (h : StO lt) (r : List α) : ded (r.mergeSort fun a b => !lt b a) = r.foldl (insE lt) [] := by
  have hs : (r.mergeSort fun a b => !lt b a).Pairwise (fun a b => lt b a = false) := by
    have := List.pairwise_mergeSort (le := fun a b => !lt b a) (fun a b c h1 h2 => by
      simp only [Bool.not_eq_true', Bool.not_eq_true] at h1 h2 ⊢
      cases hc : lt c a with
      | false => rfl
      | true =>
        rcases h.tri a b with k | k | k
        · have := h.tr c a b hc k; rw [h2] at this; cases this
        · subst k; rw [h2] at hc; cases hc
        · rw [h1] at k; cases k) (fun a b => by
      cases hc : lt b a with
      | false => simp
      | true => simp [h.asym hc]) r
    exact this.imp (fun h => by simpa using h)
  obtain ⟨h1, h2, _⟩ := ded_spec h _ hs
  obtain ⟨h3, h4⟩ := foldl_insE h r [] List.Pairwise.nil
  refine sorted_ext h h1 h3 fun x => ?_
  rw [h2, h4, (List.mergeSort_perm r _).mem_iff]
  simp
end
abbrev EDg := Int × Int × Int × Int × Unit
def edIn (e : EDg) : Prop := 1 ≤ e.1 ∧ e.1 ≤ 9 ∧ 1 ≤ e.2.1 ∧ e.2.1 ≤ 9
def swS (p : Int → Bool) (d : Int) (s : List Int × List Int) (e : EDg) : List Int × List Int := if p e.2.1 = true ∧ s.1.getD e.1.toNat 0 < 0 then (s.1.set e.1.toNat d, s.2 ++ [e.1]) else s
def sw (g : List EDg) (p : Int → Bool) (d : Int) (far : List Int) : List Int × List Int := g.foldl (swS p d) (far, [])
def cntN (l : List Int) : Nat := (l.filter fun x => decide (x < 0)).length
theorem cntN_set : ∀ {l : List Int} {i : Nat} {d : Int}, i < l.length → l.getD i 0 < 0 → 0 ≤ d → cntN (l.set i d) + 1 = cntN l
  | [], i, d, h, _, _ => by simp at h
  | a :: l, 0, d, _, h, hd => by
    simp only [List.getD_cons_zero] at h
    simp [cntN, List.filter_cons, h, show ¬ d < 0 by omega]
  | a :: l, i + 1, d, hl, h, hd => by
    have ih := cntN_set (l := l) (i := i) (d := d) (by simpa using hl) (by simpa using h) hd
    simp only [cntN, List.set_cons_succ, List.filter_cons] at ih ⊢
    split <;> simp only [List.length_cons] at * <;> omega
theorem getD_set_ne {l : List Int} {i j : Nat} {d z : Int} (h : i ≠ j) : (l.set i d).getD j z = l.getD j z := by
  simp [List.getD_eq_getElem?_getD, List.getElem?_set_ne h]
theorem getD_set_eq {l : List Int} {i : Nat} {d z : Int} (h : i < l.length) : (l.set i d).getD i z = d := by
  simp [List.getD_eq_getElem?_getD, h]
section
variable {g : List EDg} {p : Int → Bool} {d : Int}
theorem foldl_inv {α σ : Type} {f : σ → α → σ} {I : σ → Prop} : ∀ (l : List α) (s : σ), I s → (∀ x ∈ l, ∀ s, I s → I (f s x)) → I (l.foldl f s)
  | [], s, h, _ => h
  | x :: l, s, h, hs => foldl_inv l (f s x) (hs x (List.mem_cons_self ..) s h) fun y hy => hs y (List.mem_cons_of_mem _ hy)
theorem sw_len (far : List Int) : (sw g p d far).1.length = far.length := by
  refine foldl_inv (I := fun s : List Int × List Int => s.1.length = far.length) g (far, []) rfl fun e _ s h => ?_
  unfold swS; split
  · simpa using h
  · exact h
theorem sw_cnt (hd : 0 ≤ d) {far : List Int} (h10 : far.length = 10) (hg : ∀ e ∈ g, edIn e) : cntN (sw g p d far).1 + (sw g p d far).2.length = cntN far ∧ (sw g p d far).1.getD 0 0 = far.getD 0 0 := by
  have := foldl_inv (f := swS p d) (I := fun s : List Int × List Int => s.1.length = 10 ∧ cntN s.1 + s.2.length = cntN far ∧ s.1.getD 0 0 = far.getD 0 0) g (far, []) ⟨h10, by simp, rfl⟩ (fun e he s ⟨h1, h2, h3⟩ => by
    obtain ⟨a1, a2, _, _⟩ := hg e he
    unfold swS; split
    · rename_i hc
      have hi : e.1.toNat < s.1.length := by omega
      have := cntN_set hi hc.2 hd
      refine ⟨by simpa using h1, by simp; omega, ?_⟩
      rw [getD_set_ne (by omega)]; exact h3
    · exact ⟨h1, h2, h3⟩)
  exact this.2
theorem sw_nil {far : List Int} (h : (sw g p d far).2 = []) : (sw g p d far).1 = far := by
  have := foldl_inv (f := swS p d) (I := fun s : List Int × List Int => s.2 = [] → s.1 = far) g (far, []) (fun _ => rfl) (fun e he s h1 => by
    unfold swS; split
    · intro h; simp at h
    · exact h1)
  exact this h
theorem sw_none {far : List Int} (h : ∀ x, p x = false) : sw g p d far = (far, []) := by
  refine foldl_inv (f := swS p d) (I := fun s : List Int × List Int => s = (far, [])) g (far, []) rfl fun e _ s h1 => ?_
  unfold swS; rw [if_neg (by simp [h])]; exact h1
theorem sw_mem (hd : 0 ≤ d) {far : List Int} (h10 : far.length = 10) (hg : ∀ e ∈ g, edIn e) (hno : ∀ x : Int, far.getD x.toNat 0 ≠ d ∨ x < 1 ∨ 9 < x) : ∀ x : Int, 1 ≤ x → x ≤ 9 → ((sw g p d far).2.contains x = ((sw g p d far).1.getD x.toNat 0 == d)) := by
  have := foldl_inv (f := swS p d) (I := fun s : List Int × List Int => s.1.length = 10 ∧ ∀ x : Int, 1 ≤ x → x ≤ 9 → (s.2.contains x = (s.1.getD x.toNat 0 == d))) g (far, []) ⟨h10, fun x h1 h2 => by
      rcases hno x with h | h | h
      · have : (far.getD x.toNat 0 == d) = false := by simpa using h
        rw [this]; rfl
      · omega
      · omega⟩ (fun e he s ⟨h1, h2⟩ => by
    obtain ⟨a1, a2, _, _⟩ := hg e he
    unfold swS; split
    · rename_i hc
      refine ⟨by simpa using h1, fun x k1 k2 => ?_⟩
      by_cases hx : x = e.1
      · subst hx
        rw [getD_set_eq (by omega)]; simp
      · rw [getD_set_ne (by omega)]
        simp only [List.contains_append, h2 x k1 k2]
        have : ([e.1].contains x) = false := by simp [hx]
        rw [this, Bool.or_false]
    · exact ⟨h1, h2⟩)
  exact this.2
theorem sw_same {to : Int} {far : List Int} {q : List Int → Int → Bool} (h10 : far.length = 10) (hg : ∀ e ∈ g, edIn e) (hq : ∀ (s : List Int), s.length = 10 → (∀ x : Int, 1 ≤ x → x ≤ 9 → (s.getD x.toNat 0 = far.getD x.toNat 0 ∨ (far.getD x.toNat 0 < 0 ∧ s.getD x.toNat 0 = d))) → ∀ x : Int, 1 ≤ x → x ≤ 9 → q s x = p x) :
    g.foldl (fun (s : List Int) (e : EDg) => if s.getD e.1.toNat 0 < 0 ∧ q s e.2.1 = true then s.set e.1.toNat d else s) far = (sw g p d far).1 := by
  have key : ∀ (l : List EDg) (s : List Int × List Int), (∀ e ∈ l, edIn e) → s.1.length = 10 → (∀ x : Int, 1 ≤ x → x ≤ 9 → (s.1.getD x.toNat 0 = far.getD x.toNat 0 ∨ (far.getD x.toNat 0 < 0 ∧ s.1.getD x.toNat 0 = d))) →
      l.foldl (fun (s : List Int) (e : EDg) => if s.getD e.1.toNat 0 < 0 ∧ q s e.2.1 = true then s.set e.1.toNat d else s) s.1 = (l.foldl (swS p d) s).1 := by
    intro l
    induction l with
    | nil => intro s _ _ _; rfl
    | cons e l ih =>
      intro s hl h1 h2
      obtain ⟨a1, a2, a3, a4⟩ := hl e (List.mem_cons_self ..)
      simp only [List.foldl_cons]
      have hqq := hq s.1 h1 h2 e.2.1 a3 a4
      by_cases hc : p e.2.1 = true ∧ s.1.getD e.1.toNat 0 < 0
      · rw [if_pos ⟨hc.2, by rw [hqq]; exact hc.1⟩]
        have e1 : swS p d s e = (s.1.set e.1.toNat d, s.2 ++ [e.1]) := by unfold swS; rw [if_pos hc]
        rw [e1]
        refine ih (s.1.set e.1.toNat d, s.2 ++ [e.1]) (fun x hx => hl x (List.mem_cons_of_mem _ hx)) (by simpa using h1) (fun x k1 k2 => ?_)
        by_cases hx : x = e.1
        · subst hx
          right
          refine ⟨?_, getD_set_eq (by omega)⟩
          rcases h2 _ k1 k2 with h3 | h3
          · rw [← h3]; exact hc.2
          · exact h3.1
        · show (s.1.set e.1.toNat d).getD _ _ = _ ∨ _
          rw [getD_set_ne (by omega)]; exact h2 x k1 k2
      · rw [if_neg (fun h => hc ⟨by rw [← hqq]; exact h.2, h.1⟩)]
        have e1 : swS p d s e = s := by unfold swS; rw [if_neg hc]
        rw [e1]
        exact ih s (fun x hx => hl x (List.mem_cons_of_mem _ hx)) h1 h2
  exact key g (far, []) hg h10 (fun x _ _ => .inl rfl)
end
theorem iter_fold {α σ τ ρ : Type} {B : τ → Option (τ ⊕ ρ)} {l : List α} (st : σ → Nat → τ) (f : σ → α → σ) (J : Nat → σ → Prop) {s0 : σ} (h0 : J 0 s0)
    (hB : ∀ i (h : i < l.length) s, J i s → B (st s i) = some (.inl (st (f s l[i]) (i + 1))) ∧ J (i + 1) (f s l[i])) {r : σ → ρ} (hend : ∀ s, J l.length s → B (st s l.length) = some (.inr (r s))) {t0 : τ} (ht : t0 = st s0 0) : iter B t0 = some (r (l.foldl f s0)) := by
  subst ht
  have key : ∀ m i : Nat, i + m = l.length → ∀ s, J i s → iter B (st s i) = some (r ((l.drop i).foldl f s)) := by
    intro m
    induction m with
    | zero =>
      intro i hi s hs
      obtain rfl : i = l.length := by omega
      rw [iter_eq, hend s hs]; simp
    | succ m ih =>
      intro i hi s hs
      have h : i < l.length := by omega
      obtain ⟨h1, h2⟩ := hB i h s hs
      rw [iter_eq, h1, List.drop_eq_getElem_cons h]
      simp only [Option.bind_some]
      rw [ih (i + 1) (by omega) _ h2]; rfl
  have := key l.length 0 (by omega) s0 h0
  simpa using this
theorem iter_fold' {α σ τ ρ : Type} {B : τ → Option (τ ⊕ ρ)} {l : List α} (st : σ → Nat → τ) (f : σ → α → σ) {s0 : σ}
    (hB : ∀ i (h : i < l.length) s, B (st s i) = some (.inl (st (f s l[i]) (i + 1)))) {r : σ → ρ} (hend : ∀ s, B (st s l.length) = some (.inr (r s))) {t0 : τ} (ht : t0 = st s0 0) : iter B t0 = some (r (l.foldl f s0)) :=
  iter_fold st f (fun _ _ => True) trivial (fun i h s _ => ⟨hB i h s, trivial⟩) (fun s _ => hend s) ht
theorem iter_first {α τ ρ : Type} {B : τ → Option (τ ⊕ ρ)} {l : List α} (st : Nat → τ) (p : α → Bool) {fd : Nat → ρ} {no : ρ}
    (hB : ∀ i (h : i < l.length), B (st i) = some (if p l[i] = true then .inr (fd i) else .inl (st (i + 1)))) (hend : B (st l.length) = some (.inr no)) {t0 : τ} (ht : t0 = st 0) :
    iter B t0 = some (match l.findIdx? p with | some i => fd i | none => no) := by
  subst ht
  have key : ∀ m i : Nat, i + m = l.length → iter B (st i) = some (match (l.drop i).findIdx? p with | some j => fd (i + j) | none => no) := by
    intro m
    induction m with
    | zero =>
      intro i hi
      obtain rfl : i = l.length := by omega
      rw [iter_eq, hend]; simp
    | succ m ih =>
      intro i hi
      have h : i < l.length := by omega
      rw [iter_eq, hB i h, List.drop_eq_getElem_cons h, List.findIdx?_cons]
      by_cases hp : p l[i] = true
      · simp [hp]
      · simp only [hp, if_false, Option.bind_some, Bool.false_eq_true]
        rw [ih (i + 1) (by omega)]
        cases (l.drop (i + 1)).findIdx? p with
        | none => rfl
        | some j => simp only [Option.map_some]; congr 2; omega
  have := key l.length 0 (by omega)
  simpa using this
theorem findIdx_any {α : Type} (l : List α) (p : α → Bool) : (l.findIdx? p).isSome = l.any p := by
  induction l with
  | nil => rfl
  | cons a l ih =>
    rw [List.findIdx?_cons, List.any_cons]
    cases p a with
    | true => rfl
    | false => simp [ih]
theorem findIdx_get {α : Type} {l : List α} {p : α → Bool} {i : Nat} (h : l.findIdx? p = some i) : ∃ hi : i < l.length, p l[i] = true ∧ ∀ j (hj : j < i), p (l[j]'(by omega)) = false := by
  induction l generalizing i with
  | nil => simp at h
  | cons a l ih =>
    rw [List.findIdx?_cons] at h
    cases hp : p a with
    | true => simp [hp] at h; subst h; exact ⟨by simp, hp, fun j hj => absurd hj (Nat.not_lt_zero _)⟩
    | false =>
      simp only [hp, Bool.false_eq_true, if_false, Option.map_eq_some_iff] at h
      obtain ⟨k, h1, rfl⟩ := h
      obtain ⟨hi, h2, h3⟩ := ih h1
      refine ⟨by simpa using hi, by simpa using h2, fun j hj => ?_⟩
      cases j with
      | zero => exact hp
      | succ j => simpa using h3 j (by omega)
theorem findIdx_none {α : Type} {l : List α} {p : α → Bool} (h : l.findIdx? p = none) : ∀ x ∈ l, p x = false := by
  intro x hx
  have := findIdx_any l p
  rw [h] at this
  cases hp : p x with
  | false => rfl
  | true =>
    have : l.any p = true := List.any_eq_true.2 ⟨x, hx, hp⟩
    simp_all
theorem fx_ge (o : Option Nat) : decide (fx o ≥ 0) = o.isSome := by
  cases o with
  | none => rfl
  | some i => simp [fx]
theorem p_ix_impl_FindEntry_1 {l : List _} (hl : l.length ≤ 1048576) (c : _) {p : _ → Bool} (hc : ∀ x ∈ l, impl_FindEntry_1_S (x, c) = some (p x, ())) : slices_IndexFunc__impl_FindEntry_1_S (l, c, ()) = some (fx (l.findIdx? p), ()) := by
  unfold slices_IndexFunc__impl_FindEntry_1_S
  refine find_loop hl (p := p) (fun i h => ?_) ?_
  · unfold slices_IndexFunc__impl_FindEntry_1_D2
    have e := hc _ (List.getElem_mem h)
    simp only [lAt_nat h, Option.bind_some]
    rw [decide_eq_true (by omega), wrap_succ h (by omega)]
    simp only [cond_true]
    erw [e]
    simp only [Option.bind_some]
    cases p l[i] <;> rfl
  · unfold slices_IndexFunc__impl_FindEntry_1_D2
    simp only
    rw [decide_eq_false (by omega)]; rfl
theorem p_ix_impl_Entry_writes_1 {l : List _} (hl : l.length ≤ 1048576) (c : _) {p : _ → Bool} (hc : ∀ x ∈ l, impl_Entry_writes_1_S (x, c) = some (p x, ())) : slices_IndexFunc__impl_Entry_writes_1_S (l, c, ()) = some (fx (l.findIdx? p), ()) := by
  unfold slices_IndexFunc__impl_Entry_writes_1_S
  refine find_loop hl (p := p) (fun i h => ?_) ?_
  · unfold slices_IndexFunc__impl_Entry_writes_1_D2
    have e := hc _ (List.getElem_mem h)
    simp only [lAt_nat h, Option.bind_some]
    rw [decide_eq_true (by omega), wrap_succ h (by omega)]
    simp only [cond_true]
    erw [e]
    simp only [Option.bind_some]
    cases p l[i] <;> rfl
  · unfold slices_IndexFunc__impl_Entry_writes_1_D2
    simp only
    rw [decide_eq_false (by omega)]; rfl
theorem p_cf_impl_Entry_writes_1 {l : List _} (hl : l.length ≤ 1048576) (c : _) {p : _ → Bool} (hc : ∀ x ∈ l, impl_Entry_writes_1_S (x, c) = some (p x, ())) : slices_ContainsFunc__impl_Entry_writes_1_S (l, c, ()) = some (l.any p, ()) := by
  unfold slices_ContainsFunc__impl_Entry_writes_1_S
  have e := p_ix_impl_Entry_writes_1 hl c hc
  erw [e]
  simp only [Option.bind_some, fx_any]
abbrev EN := Int × Int × List VM × List VM × Unit
def smE (e : EN) : Prop := e.2.2.1.length ≤ 1048576 ∧ e.2.2.2.1.length ≤ 1048576
def smEs (l : List EN) : Prop := l.length ≤ 1048576 ∧ ∀ e ∈ l, smE e
theorem smEs.at {l : List EN} (h : smEs l) {i : Nat} (hi : i < l.length) : smE l[i] := h.2 _ (List.getElem_mem hi)
def wrt (key : Int) (e : EN) : Bool := e.2.2.2.1.any fun m => m.1 == key
theorem p_writes {e : EN} (h : smE e) (key : Int) : impl_Entry_writes_S ((e.1, e.2.1, e.2.2.1, e.2.2.2.1, ()), key, ()) = some (wrt key e, ()) := by
  unfold impl_Entry_writes_S
  have e1 := p_cf_impl_Entry_writes_1 h.2 (some key, ()) (p := fun m => m.1 == key) (fun m _ => rfl)
  simp only [e1, Option.bind_some]; rfl
def feI (l : List EN) (id : Int) : Option Nat := l.findIdx? fun e => e.1 == id
theorem p_implFE {l : List EN} (hl : l.length ≤ 1048576) (id : Int) : impl_FindEntry_S (l, id, ()) = some (fx (feI l id), ()) := by
  unfold impl_FindEntry_S
  have e1 := p_ix_impl_FindEntry_1 hl (some id, ()) (p := fun e => e.1 == id) (fun m _ => rfl)
  simp only [e1, Option.bind_some]; rfl
theorem p_specFE {l : List EN} (hl : l.length ≤ 1048576) (id : Int) : spec_FindEntry_S (l, id, ()) = some (fx (feI l id), ()) := by
  unfold spec_FindEntry_S
  refine find_loop hl (p := fun e => e.1 == id) (fun i h => ?_) ?_
  · unfold spec_FindEntry_D2
    simp only [lAt_nat h, Option.bind_some]
    rw [decide_eq_true (by omega), wrap_succ h (by omega)]
    simp only [cond_true]
    cases (l[i].1 == id : Bool) <;> rfl
  · unfold spec_FindEntry_D2
    simp only
    rw [decide_eq_false (by omega)]; rfl
def isW (key cr : Int) (e : EN) : Bool := e.2.1 == cr && wrt key e
def wrOf (l : List EN) (key cr : Int) : Int := match l.find? (isW key cr) with | some e => e.1 | none => 0
theorem p_implWO {l : List EN} (hl : smEs l) (key cr : Int) : impl_WriterOf_S (l, (key, cr, ()), ()) = some (wrOf l key cr, ()) := by
  unfold impl_WriterOf_S wrOf
  have e := first_loop (l := l) (p := isW key cr) (B := fun v => impl_WriterOf_D2 (l, ((l.length : Nat) : Int), key, cr, ()) v _ some) (k := fun p => sumC p (fun p => some (p.1, ())) fun p => some (0, ())) (yes := fun e => some (e.1, ())) (no := some (0, ())) (fun i h => by
    have hs := hl.1
    have hw := p_writes (hl.at h) key
    unfold impl_WriterOf_D2 isW
    simp only [lAt_nat h, Option.bind_some]
    rw [decide_eq_true (by omega), wrap_succ h (by omega)]
    simp only [cond_true, hw, Option.bind_some]
    cases (l[i].2.1 == cr : Bool) <;> cases wrt key l[i] <;> simp [sumC]) (by
    unfold impl_WriterOf_D2
    simp only
    rw [decide_eq_false (by omega)]; exact ⟨_, rfl, rfl⟩)
  rw [e]
  cases l.find? (isW key cr) <;> rfl
theorem p_specWO {l : List EN} (hl : smEs l) (key cr : Int) : spec_WriterOf_S (l, (key, cr, ()), ()) = some (wrOf l key cr, ()) := by
  unfold spec_WriterOf_S wrOf
  have e := first_loop (l := l) (p := isW key cr) (B := fun v => spec_WriterOf_D2 (l, key, cr, ()) v _ some) (k := fun p => sumC p (fun p => some (p.1, ())) fun p => some (0, ())) (yes := fun e => some (e.1, ())) (no := some (0, ())) (fun i h => by
    have hs := hl.1
    have h2 := (hl.at h).2
    have e3 := iter_first (l := l[i].2.2.2.1) (B := fun v => spec_WriterOf_D5 (l, (i : Int), key, cr, ()) v _ some) (fun j => ((j : Int), ())) (fun m => l[i].2.1 == cr && m.1 == key) (fd := fun _ => Sum.inl (l[i].1, ())) (no := Sum.inr ()) (fun j hj => by
      unfold spec_WriterOf_D5
      simp only [lAt_nat h, lAt_nat hj, Option.bind_some]
      rw [decide_eq_true (by omega), wrap_succ hj (by omega)]
      simp only [cond_true]
      cases (l[i].2.1 == cr : Bool) <;> cases (l[i].2.2.2.1[j].1 == key : Bool) <;> simp) (by
      unfold spec_WriterOf_D5
      simp only [lAt_nat h, Option.bind_some]
      rw [decide_eq_false (by omega)]; rfl) (t0 := (0, ())) rfl
    unfold spec_WriterOf_D2
    simp only
    rw [decide_eq_true (by omega), wrap_succ h (by omega)]
    simp only [cond_true, e3, Option.bind_some]
    have hw := findIdx_any l[i].2.2.2.1 (fun m => l[i].2.1 == cr && m.1 == key)
    have hw2 : (l[i].2.2.2.1.any fun m => l[i].2.1 == cr && m.1 == key) = isW key cr l[i] := by
      unfold isW wrt
      cases (l[i].2.1 == cr : Bool) <;> simp
    rw [hw2] at hw
    revert hw
    cases l[i].2.2.2.1.findIdx? (fun m => l[i].2.1 == cr && m.1 == key) with
    | none => intro hw; rw [← hw]; simp [sumC]
    | some j => intro hw; rw [← hw]; simp [sumC]) (by
    unfold spec_WriterOf_D2
    simp only
    rw [decide_eq_false (by omega)]; exact ⟨_, rfl, rfl⟩)
  rw [e]
  cases l.find? (isW key cr) <;> rfl
def nwS (key after : Int) (s : Option EN) (e : EN) : Option EN :=
  if e.2.1 > after ∧ wrt key e = true then (match s with | none => some e | some b => if e.2.1 < b.2.1 then some e else some b) else s
def nwOf (l : List EN) (key after : Int) : Int := match l.foldl (nwS key after) none with | some e => e.1 | none => 0
theorem p_implNW {l : List EN} (hl : smEs l) (key after : Int) : impl_NextWriter_S (l, key, after, ()) = some (nwOf l key after, ()) := by
  unfold impl_NextWriter_S nwOf
  have e := iter_fold' (l := l) (B := fun v => impl_NextWriter_D3 (key, after, l, ((l.length : Nat) : Int), ()) v _ some) (fun (s : Option EN) (i : Nat) => ((match s with | some e => e.1 | none => 0), (match s with | some e => e.2.1 | none => 0), s.isSome, (i : Int), ())) (nwS key after) (s0 := none) (fun i h s => by
    have hs := hl.1
    have hw := p_writes (hl.at h) key
    unfold impl_NextWriter_D3 nwS
    simp only [lAt_nat h, Option.bind_some]
    rw [decide_eq_true (by omega), wrap_succ h (by omega)]
    simp only [cond_true, hw, Option.bind_some]
    by_cases h1 : l[i].2.1 > after
    · cases hk : wrt key l[i]
      · simp [h1]
      · cases s with
        | none => simp [h1]
        | some b => by_cases h2 : l[i].2.1 < b.2.1 <;> simp [h1, h2]
    · simp [h1]) (r := fun s => ((match s with | some e => e.1 | none => 0), ())) (fun s => by
    unfold impl_NextWriter_D3
    simp only
    rw [decide_eq_false (by omega)]; rfl) (t0 := (0, 0, false, 0, ())) rfl
  rw [e]; rfl
theorem nwS_idem (key after : Int) (s : Option EN) (e : EN) (h : e.2.1 > after) (hw : wrt key e = true) (hb : ∃ b, s = some b ∧ b.2.1 ≤ e.2.1) : nwS key after s e = s := by
  obtain ⟨b, rfl, hb⟩ := hb
  unfold nwS
  rw [if_pos ⟨h, hw⟩]
  simp only
  rw [if_neg (by omega)]
def atI (l : List EN) (s : Option EN) (n : Int) : Prop := match s with
  | none => n = -1
  | some b => ∃ j : Nat, ∃ h : j < l.length, n = (j : Int) ∧ l[j] = b
theorem p_specNW {l : List EN} (hl : smEs l) (key after : Int) : spec_NextWriter_S (l, key, after, ()) = some (nwOf l key after, ()) := by
  unfold spec_NextWriter_S nwOf
  have hs := hl.1
  have inner : ∀ i (h : i < l.length) (s : Option EN) (n : Int), atI l s n → ∃ n', iter (fun v_1 => spec_NextWriter_D6 (l, key, after, (i : Int), ()) v_1 _ some) (n, 0, ()) = some (n', ()) ∧ atI l (nwS key after s l[i]) n' := by
    intro i h s n hn
    have h2 := (hl.at h).2
    have key2 : ∀ m j : Nat, j + m = l[i].2.2.2.1.length → ∀ (s : Option EN) (n : Int), atI l s n → ∃ n', iter (fun v_1 => spec_NextWriter_D6 (l, key, after, (i : Int), ()) v_1 _ some) (n, (j : Int), ()) = some (n', ()) ∧ atI l (if (l[i].2.2.2.1.drop j).any (fun m => m.1 == key) = true ∧ l[i].2.1 > after then nwS key after s l[i] else s) n' := by
      intro m
      induction m with
      | zero =>
        intro j hj s n hn
        obtain rfl : j = l[i].2.2.2.1.length := by omega
        refine ⟨n, ?_, ?_⟩
        · rw [iter_eq]
          unfold spec_NextWriter_D6
          simp only [lAt_nat h, Option.bind_some]
          rw [decide_eq_false (by omega)]; rfl
        · simpa using hn
      | succ m ih =>
        intro j hj s n hn
        have hjl : j < l[i].2.2.2.1.length := by omega
        have step : ∃ n1, spec_NextWriter_D6 (l, key, after, (i : Int), ()) (n, (j : Int), ()) _ some = some (Sum.inl (n1, ((j + 1 : Nat) : Int), ())) ∧ atI l (if (l[i].2.2.2.1[j].1 == key) = true ∧ l[i].2.1 > after then nwS key after s l[i] else s) n1 := by
          unfold spec_NextWriter_D6
          simp only [lAt_nat h, lAt_nat hjl, Option.bind_some]
          rw [decide_eq_true (by omega), wrap_succ hjl (by omega)]
          simp only [cond_true]
          by_cases hk : (l[i].2.2.2.1[j].1 == key) = true
          · by_cases ha : l[i].2.1 > after
            · have hwk : wrt key l[i] = true := List.any_eq_true.2 ⟨_, List.getElem_mem hjl, hk⟩
              rw [if_pos ⟨hk, ha⟩]
              simp only [hk, cond_true, decide_eq_true ha]
              unfold nwS
              rw [if_pos ⟨ha, hwk⟩]
              cases s with
              | none =>
                obtain rfl : n = -1 := hn
                exact ⟨(i : Int), rfl, i, h, rfl, rfl⟩
              | some b =>
                obtain ⟨q, hq, rfl, rfl⟩ := hn
                rw [decide_eq_false (by omega)]
                simp only [cond_false, lAt_nat hq, Option.bind_some]
                by_cases hb : l[i].2.1 < l[q].2.1
                · simp only [decide_eq_true hb, cond_true, if_pos hb]
                  exact ⟨(i : Int), rfl, i, h, rfl, rfl⟩
                · simp only [decide_eq_false hb, cond_false, if_neg hb]
                  exact ⟨(q : Int), rfl, q, hq, rfl, rfl⟩
            · rw [if_neg (fun h => ha h.2)]
              simp only [hk, cond_true, decide_eq_false ha, cond_false]
              exact ⟨n, rfl, hn⟩
          · rw [if_neg (fun h => hk h.1)]
            simp only [hk, cond_false]
            exact ⟨n, rfl, hn⟩
        obtain ⟨n1, e1, hn1⟩ := step
        obtain ⟨n2, e2, hn2⟩ := ih (j + 1) (by omega) _ n1 hn1
        refine ⟨n2, ?_, ?_⟩
        · rw [iter_eq, e1]; exact e2
        · rw [List.drop_eq_getElem_cons hjl, List.any_cons]
          by_cases ha : l[i].2.1 > after
          · by_cases hk : (l[i].2.2.2.1[j].1 == key) = true
            · have hwk : wrt key l[i] = true := List.any_eq_true.2 ⟨_, List.getElem_mem hjl, hk⟩
              have hid : nwS key after (nwS key after s l[i]) l[i] = nwS key after s l[i] := by
                refine nwS_idem key after _ _ ha hwk ?_
                unfold nwS
                rw [if_pos ⟨ha, hwk⟩]
                cases s with
                | none => exact ⟨_, rfl, Int.le_refl _⟩
                | some b =>
                  simp only
                  split
                  · exact ⟨_, rfl, Int.le_refl _⟩
                  · exact ⟨_, rfl, by omega⟩
              simp only [hk, ha, and_self, if_true, hid, ite_self, Bool.true_or] at hn2 ⊢
              exact hn2
            · rw [Bool.not_eq_true] at hk
              simpa only [hk, ha, Bool.false_or, Bool.false_eq_true, false_and, if_false] using hn2
          · simpa [ha] using hn2
    obtain ⟨n', e1, h1⟩ := key2 _ 0 (Nat.zero_add _) s n hn
    refine ⟨n', e1, ?_⟩
    have : (if ((l[i].2.2.2.1.drop 0).any (fun m => m.1 == key)) = true ∧ l[i].2.1 > after then nwS key after s l[i] else s) = nwS key after s l[i] := by
      by_cases hc : ((l[i].2.2.2.1.drop 0).any (fun m => m.1 == key)) = true ∧ l[i].2.1 > after
      · rw [if_pos hc]
      · rw [if_neg hc]
        unfold nwS
        rw [if_neg]
        intro h3; exact hc ⟨by simpa [wrt] using h3.2, h3.1⟩
    rw [this] at h1; exact h1
  have outer : ∀ m i : Nat, i + m = l.length → ∀ (s : Option EN) (n : Int), atI l s n → ∃ n', iter (fun v => spec_NextWriter_D3 (l, key, after, ()) v _ some) (n, (i : Int), ()) = some (n', ()) ∧ atI l ((l.drop i).foldl (nwS key after) s) n' := by
    intro m
    induction m with
    | zero =>
      intro i hi s n hn
      obtain rfl : i = l.length := by omega
      refine ⟨n, ?_, by simpa using hn⟩
      rw [iter_eq]
      unfold spec_NextWriter_D3
      simp only
      rw [decide_eq_false (by omega)]; rfl
    | succ m ih =>
      intro i hi s n hn
      have h : i < l.length := by omega
      obtain ⟨n1, e1, hn1⟩ := inner i h s n hn
      obtain ⟨n2, e2, hn2⟩ := ih (i + 1) (by omega) _ n1 hn1
      refine ⟨n2, ?_, ?_⟩
      · rw [iter_eq]
        unfold spec_NextWriter_D3
        simp only
        rw [decide_eq_true (by omega), wrap_succ h (by omega)]
        simp only [cond_true, e1, Option.bind_some]
        exact e2
      · rw [List.drop_eq_getElem_cons h]; exact hn2
  obtain ⟨n, e, hn⟩ := outer _ 0 (Nat.zero_add _) none (-1) rfl
  have e' : iter (fun v => spec_NextWriter_D3 (l, key, after, ()) v _ some) (-1, 0, ()) = some (n, ()) := e
  rw [e']
  simp only [Option.bind_some]
  rw [List.drop_zero] at hn
  revert hn
  cases l.foldl (nwS key after) none with
  | none => intro hn; obtain rfl : n = -1 := hn; rfl
  | some b =>
    rintro ⟨q, hq, rfl, rfl⟩
    rw [decide_eq_false (by omega)]
    simp only [cond_false, lAt_nat hq, Option.bind_some]
theorem all_iter {ρ : Type} {B : Int × Unit → Option ((Int × Unit) ⊕ ρ)} {n : Nat} {c : Nat → Prop} {Bad : ρ → Prop} {fin : ρ}
    (hB : ∀ i, i < n → (c i → B ((i : Int), ()) = some (.inl (((i + 1 : Nat) : Int), ()))) ∧ (¬ c i → ∃ r, B ((i : Int), ()) = some (.inr r) ∧ Bad r)) (hend : B ((n : Int), ()) = some (.inr fin)) :
    ((∀ i, i < n → c i) → iter B (0, ()) = some fin) ∧ (¬ (∀ i, i < n → c i) → ∃ r, iter B (0, ()) = some r ∧ Bad r) := by
  constructor
  · intro hc
    exact iter_up' n (fun i => ((i : Int), ())) rfl (fun i hi => (hB i hi).1 (hc i hi)) hend
  · intro hc
    have key : ∀ m i : Nat, i + m = n → (¬ ∀ j, i ≤ j → j < n → c j) → ∃ r, iter B ((i : Int), ()) = some r ∧ Bad r := by
      intro m
      induction m with
      | zero =>
        intro i hi h
        exact absurd (fun j h1 h2 => by omega) h
      | succ m ih =>
        intro i hi h
        by_cases hci : c i
        · rw [iter_eq, (hB i (by omega)).1 hci]
          refine ih (i + 1) (by omega) fun h' => h fun j h1 h2 => ?_
          by_cases e : j = i
          · rw [e]; exact hci
          · exact h' j (by omega) h2
        · obtain ⟨r, h1, h2⟩ := (hB i (by omega)).2 hci
          exact ⟨r, by rw [iter_eq, h1]; rfl, h2⟩
    exact key n 0 (Nat.zero_add _) fun h => hc fun i hi => h i (Nat.zero_le _) hi
noncomputable def okEn (e : EN) : Bool := okT e.1 1 2 0 0 1000 e.2.1 e.2.2.1 e.2.2.2.1
theorem p_isEntry {e : EN} (h : smE e) : impl_isEntry_S ((e.1, e.2.1, e.2.2.1, e.2.2.2.1, ()), ()) = some (okEn e, ()) := by
  unfold impl_isEntry_S impl_IsStamp_S okEn okT
  simp only [p_isID, p_implIn, p_implReads h.1, p_implWrites h.2, Option.bind_some]
  rcases Bool.eq_false_or_eq_true (inB e.1 1 9) with h1 | h1
  · have hin : ((((2 : Int) == 2) == decide (e.2.1 > 0)) && inB e.2.1 0 999) = inB e.2.1 1 999 := by
      unfold inB
      rw [Bool.eq_iff_iff]; simp; omega
    have hk : inB (1 : Int) 1 4 = true ∧ inB (0 : Int) 0 999 = true ∧ inB (2 : Int) 1 3 = true ∧ inB (1000 : Int) 1 1000 = true := by decide
    rw [h1, hk.1, hk.2.1, hk.2.2.1, hk.2.2.2, ← hin]
    cases (((2 : Int) == 2) == decide (e.2.1 > 0)) <;> cases inB e.2.1 0 999 <;> cases dec (okRd e.2.2.1) <;> cases dec (okWr e.2.2.2.1) <;> cases decide (e.2.2.1.length ≤ 60) <;> rfl
  · rw [h1]; simp
def hC (l : List EN) (i : Nat) : Prop := ∃ h : i < l.length, okEn l[i] = true ∧ feI l l[i].1 = some i ∧ ∀ h2 : 0 < i, (l[i - 1]'(by omega)).2.1 ≤ l[i].2.1 ∧ (l[i].2.1 = (l[i - 1]'(by omega)).2.1 → l[i].2.2.2.1.length = 0)
def mC (l : List EN) (id : Int) (m : VM) : Prop := wrOf l m.1 m.2.1 ≠ id ∧ (m.2.1 > 0 → wrOf l m.1 m.2.1 ≠ 0)
def rC (l : List EN) (i : Nat) : Prop := ∃ h : i < l.length, ∀ j, (hj : j < l[i].2.2.1.length) → mC l l[i].1 l[i].2.2.1[j]
def okH (l : List EN) : Prop := l.length ≤ 9 ∧ (∀ i, i < l.length → hC l i) ∧ ∀ i, i < l.length → rC l i
theorem fe_take {l : List EN} {i : Nat} (h : i < l.length) : feI l l[i].1 = some i ↔ feI (l.take i) l[i].1 = none := by
  unfold feI
  rw [List.findIdx?_eq_some_iff_getElem, List.findIdx?_eq_none_iff]
  constructor
  · rintro ⟨_, _, h3⟩ x hx
    obtain ⟨j, hj, rfl⟩ := List.mem_iff_getElem.1 hx
    have hj' : j < i := by simp at hj; omega
    rw [List.getElem_take]
    simpa using h3 j hj'
  · intro h3
    refine ⟨h, by simp, fun j hj => ?_⟩
    have := h3 l[j] (List.mem_iff_getElem.2 ⟨j, by simp; omega, by simp⟩)
    simpa using this
theorem fx_some (o : Option Nat) (i : Nat) : (fx o = (i : Int)) ↔ o = some i := by
  cases o with
  | none => simp [fx]
  | some j => simp only [fx, Option.some.injEq]; omega
theorem slAt0 {α : Type} {l : List α} {i : Nat} (h : i ≤ l.length) : slAt l 0 (i : Int) = some (l.take i) := by
  unfold slAt
  rw [if_pos (by omega)]; simp
theorem mC_step {l : List EN} {e : EN} {j : Nat} (hj : j < e.2.2.1.length) {σ : Type} {nx : σ} :
    ((∀ hj : j < e.2.2.1.length, mC l e.1 e.2.2.1[j]) → (bif wrOf l e.2.2.1[j].1 e.2.2.1[j].2.1 == e.1 then some (Sum.inr (Sum.inl (e.2.2.1[j].1, e.2.2.1[j].2.1, ()))) else bif decide (e.2.2.1[j].2.1 > 0) then bif wrOf l e.2.2.1[j].1 e.2.2.1[j].2.1 == 0 then some (Sum.inr (Sum.inr (Sum.inl (e.2.2.1[j].1, e.2.2.1[j].2.1, ())))) else some (Sum.inl nx) else some (Sum.inl nx) : Option (σ ⊕ VM ⊕ VM ⊕ Unit)) = some (.inl nx)) ∧
    ((¬ ∀ hj : j < e.2.2.1.length, mC l e.1 e.2.2.1[j]) → ∃ r, (bif wrOf l e.2.2.1[j].1 e.2.2.1[j].2.1 == e.1 then some (Sum.inr (Sum.inl (e.2.2.1[j].1, e.2.2.1[j].2.1, ()))) else bif decide (e.2.2.1[j].2.1 > 0) then bif wrOf l e.2.2.1[j].1 e.2.2.1[j].2.1 == 0 then some (Sum.inr (Sum.inr (Sum.inl (e.2.2.1[j].1, e.2.2.1[j].2.1, ())))) else some (Sum.inl nx) else some (Sum.inl nx) : Option (σ ⊕ VM ⊕ VM ⊕ Unit)) = some (.inr r) ∧ ((∃ a, r = .inl a) ∨ ∃ a, r = .inr (.inl a))) := by
  have h0 : (∀ hj : j < e.2.2.1.length, mC l e.1 e.2.2.1[j]) ↔ mC l e.1 e.2.2.1[j] := ⟨fun h => h hj, fun h _ => h⟩
  rw [h0]
  unfold mC
  by_cases h1 : wrOf l e.2.2.1[j].1 e.2.2.1[j].2.1 = e.1
  · rw [show (wrOf l e.2.2.1[j].1 e.2.2.1[j].2.1 == e.1) = true from by simpa using h1]
    exact ⟨fun h => absurd h1 h.1, fun _ => ⟨_, rfl, .inl ⟨_, rfl⟩⟩⟩
  · rw [show (wrOf l e.2.2.1[j].1 e.2.2.1[j].2.1 == e.1) = false from by simpa using h1]
    simp only [cond_false]
    by_cases h2 : e.2.2.1[j].2.1 > 0
    · rw [decide_eq_true h2]
      simp only [cond_true]
      by_cases h3 : wrOf l e.2.2.1[j].1 e.2.2.1[j].2.1 = 0
      · rw [show (wrOf l e.2.2.1[j].1 e.2.2.1[j].2.1 == 0) = true from by simpa using h3]
        exact ⟨fun h => absurd h3 (h.2 h2), fun _ => ⟨_, rfl, .inr ⟨_, rfl⟩⟩⟩
      · rw [show (wrOf l e.2.2.1[j].1 e.2.2.1[j].2.1 == 0) = false from by simpa using h3]
        exact ⟨fun _ => rfl, fun h => absurd ⟨h1, fun _ => h3⟩ h⟩
    · rw [decide_eq_false h2]
      exact ⟨fun _ => rfl, fun h => absurd ⟨h1, fun h => absurd h h2⟩ h⟩
theorem okH_fin {l : List EN} (h9 : l.length ≤ 9) : (bif dec (∀ i, i < l.length → hC l i) then bif dec (∀ i, i < l.length → rC l i) then some (true, ()) else some (false, ()) else some (false, ())) = some (dec (okH l), ()) := by
  by_cases h1 : ∀ i, i < l.length → hC l i
  · rw [dec_true h1]
    by_cases h2 : ∀ i, i < l.length → rC l i
    · rw [dec_true h2, dec_true (show okH l from ⟨h9, h1, h2⟩)]; rfl
    · rw [dec_false h2, dec_false (fun h : okH l => h2 h.2.2)]; rfl
  · rw [dec_false h1, dec_false (fun h : okH l => h1 h.2.1)]; rfl
theorem p_implH {l : List EN} (hl : smEs l) : impl_IsHistory_S (l, ()) = some (dec (okH l), ()) := by
  unfold impl_IsHistory_S
  have hs := hl.1
  by_cases h9 : l.length ≤ 9
  case neg =>
    simp only
    rw [decide_eq_true (by omega), dec_false (fun h => h9 h.1)]; rfl
  simp only
  rw [decide_eq_false (by omega)]
  simp only [cond_false]
  refine (all_loopK (n := l.length) (c := hC l) (no := some (false, ())) (X := bif dec (∀ i, i < l.length → rC l i) then some (true, ()) else some (false, ())) (fun i hi => ?_) ⟨.inr (.inr (.inr (.inr ()))), ?_, ?_⟩).trans ?_
  · have hm := hl.at hi
    unfold impl_IsHistory_D4
    simp only [lAt_nat hi, Option.bind_some, p_isEntry hm, p_implFE hs]
    rw [decide_eq_true (by omega)]
    simp only [cond_true]
    cases h1 : okEn l[i] with
    | false => exact ⟨fun ⟨_, h, _⟩ => (by rw [h1] at h; cases h), fun _ => ⟨_, rfl, rfl⟩⟩
    | true =>
      simp only [Bool.not_true, cond_false]
      by_cases h2 : feI l l[i].1 = some i
      case neg =>
        rw [show (fx (feI l l[i].1) != (i : Int)) = true from by rw [ne_int]; simp [fx_some, h2]]
        exact ⟨fun ⟨_, _, h, _⟩ => absurd h h2, fun _ => ⟨_, rfl, rfl⟩⟩
      rw [show (fx (feI l l[i].1) != (i : Int)) = false from by rw [ne_int]; simp [fx_some, h2]]
      simp only [cond_false]
      rw [wrap_succ hi (by omega)]
      by_cases h3 : 0 < i
      · have hlt : i - 1 < l.length := by omega
        rw [decide_eq_true (show (i : Int) > 0 by omega), show IntKind.i64.wrap ((i : Int) - 1) = ((i - 1 : Nat) : Int) from by rw [wrap_id (by omega) (by omega)]; omega, lAt_nat hlt]
        simp only [cond_true, Option.bind_some]
        by_cases hb : l[i - 1].2.1 ≤ l[i].2.1
        case neg =>
          rw [decide_eq_true (by omega)]
          exact ⟨fun ⟨_, _, _, h⟩ => absurd (h h3).1 hb, fun _ => ⟨_, rfl, rfl⟩⟩
        rw [decide_eq_false (by omega)]
        simp only [cond_false]
        by_cases q : l[i].2.1 = l[i - 1].2.1
        · rw [show (l[i].2.1 == l[i - 1].2.1) = true from by simpa using q]
          simp only [cond_true]
          by_cases q2 : l[i].2.2.2.1.length = 0
          · rw [decide_eq_false (by omega)]
            exact ⟨fun _ => rfl, fun h => absurd ⟨hi, h1, h2, fun _ => ⟨hb, fun _ => q2⟩⟩ h⟩
          · rw [decide_eq_true (by omega)]
            exact ⟨fun ⟨_, _, _, h⟩ => absurd ((h h3).2 q) q2, fun _ => ⟨_, rfl, rfl⟩⟩
        · rw [show (l[i].2.1 == l[i - 1].2.1) = false from by simpa using q]
          exact ⟨fun _ => rfl, fun h => absurd ⟨hi, h1, h2, fun _ => ⟨hb, fun e => absurd e q⟩⟩ h⟩
      · rw [decide_eq_false (show ¬ (i : Int) > 0 by omega)]
        exact ⟨fun _ => rfl, fun h => absurd ⟨hi, h1, h2, fun e => absurd e h3⟩ h⟩
  · unfold impl_IsHistory_D4
    simp only
    rw [decide_eq_false (by omega)]; rfl
  · simp only [sumC]
    refine all_loopK (n := l.length) (c := rC l) (no := some (false, ())) (X := some (true, ())) (fun i hi => ?_) ⟨.inr (.inr ()), ?_, rfl⟩
    · have hm := hl.at hi
      have hm1 := hm.1
      have e := all_iter (ρ := VM ⊕ VM ⊕ Unit) (n := l[i].2.2.1.length) (c := fun j => ∀ hj : j < l[i].2.2.1.length, mC l l[i].1 l[i].2.2.1[j]) (B := fun v_2 => impl_IsHistory_D15 (l, l, ((l.length : Nat) : Int), (i : Int), l[i].2.2.1, ((l[i].2.2.1.length : Nat) : Int), l[i].1, l[i].2.1, l[i].2.2.1, l[i].2.2.2.1, ()) v_2 _ some) (Bad := fun r => (∃ a, r = .inl a) ∨ ∃ a, r = .inr (.inl a)) (fin := .inr (.inr ())) (fun j hj => by
        unfold impl_IsHistory_D15
        simp only [lAt_nat hj, Option.bind_some, p_implWO hl]
        rw [decide_eq_true (by omega), wrap_succ hj (by omega)]
        simp only [cond_true]
        exact mC_step hj) (by
        unfold impl_IsHistory_D15
        simp only
        rw [decide_eq_false (by omega)]; rfl)
      unfold impl_IsHistory_D12
      simp only [lAt_nat hi, Option.bind_some]
      rw [decide_eq_true (by omega), wrap_succ hi (by omega)]
      simp only [cond_true]
      constructor
      · rintro ⟨_, hc⟩
        rw [e.1 (fun j _ => hc j)]; rfl
      · intro hc
        obtain ⟨r, h1, h2⟩ := e.2 (fun h => hc ⟨hi, fun j hj => h j hj hj⟩)
        rw [h1]
        rcases h2 with ⟨a, rfl⟩ | ⟨a, rfl⟩ <;> exact ⟨_, rfl, rfl⟩
    · unfold impl_IsHistory_D12
      simp only
      rw [decide_eq_false (by omega)]; rfl
  · exact okH_fin h9
theorem mC_step' {l : List EN} {e : EN} {j : Nat} (hj : j < e.2.2.1.length) {σ : Type} {nx : σ} :
    ((∀ hj : j < e.2.2.1.length, mC l e.1 e.2.2.1[j]) → (bif wrOf l e.2.2.1[j].1 e.2.2.1[j].2.1 == e.1 then some (Sum.inr (Sum.inl ())) else bif decide (e.2.2.1[j].2.1 > 0) then bif wrOf l e.2.2.1[j].1 e.2.2.1[j].2.1 == 0 then some (Sum.inr (Sum.inr (Sum.inl ()))) else some (Sum.inl nx) else some (Sum.inl nx) : Option (σ ⊕ Unit ⊕ Unit ⊕ Unit)) = some (.inl nx)) ∧
    ((¬ ∀ hj : j < e.2.2.1.length, mC l e.1 e.2.2.1[j]) → ∃ r, (bif wrOf l e.2.2.1[j].1 e.2.2.1[j].2.1 == e.1 then some (Sum.inr (Sum.inl ())) else bif decide (e.2.2.1[j].2.1 > 0) then bif wrOf l e.2.2.1[j].1 e.2.2.1[j].2.1 == 0 then some (Sum.inr (Sum.inr (Sum.inl ()))) else some (Sum.inl nx) else some (Sum.inl nx) : Option (σ ⊕ Unit ⊕ Unit ⊕ Unit)) = some (.inr r) ∧ ((∃ a, r = .inl a) ∨ ∃ a, r = .inr (.inl a))) := by
  have h0 : (∀ hj : j < e.2.2.1.length, mC l e.1 e.2.2.1[j]) ↔ mC l e.1 e.2.2.1[j] := ⟨fun h => h hj, fun h _ => h⟩
  rw [h0]
  unfold mC
  by_cases h1 : wrOf l e.2.2.1[j].1 e.2.2.1[j].2.1 = e.1
  · rw [show (wrOf l e.2.2.1[j].1 e.2.2.1[j].2.1 == e.1) = true from by simpa using h1]
    exact ⟨fun h => absurd h1 h.1, fun _ => ⟨_, rfl, .inl ⟨_, rfl⟩⟩⟩
  · rw [show (wrOf l e.2.2.1[j].1 e.2.2.1[j].2.1 == e.1) = false from by simpa using h1]
    simp only [cond_false]
    by_cases h2 : e.2.2.1[j].2.1 > 0
    · rw [decide_eq_true h2]
      simp only [cond_true]
      by_cases h3 : wrOf l e.2.2.1[j].1 e.2.2.1[j].2.1 = 0
      · rw [show (wrOf l e.2.2.1[j].1 e.2.2.1[j].2.1 == 0) = true from by simpa using h3]
        exact ⟨fun h => absurd h3 (h.2 h2), fun _ => ⟨_, rfl, .inr ⟨_, rfl⟩⟩⟩
      · rw [show (wrOf l e.2.2.1[j].1 e.2.2.1[j].2.1 == 0) = false from by simpa using h3]
        exact ⟨fun _ => rfl, fun h => absurd ⟨h1, fun _ => h3⟩ h⟩
    · rw [decide_eq_false h2]
      exact ⟨fun _ => rfl, fun h => absurd ⟨h1, fun h => absurd h h2⟩ h⟩
theorem p_specH {l : List EN} (hl : smEs l) : spec_IsHistory_S (l, ()) = some (dec (okH l), ()) := by
  unfold spec_IsHistory_S
  have hs := hl.1
  refine (all_loopK (n := l.length) (c := hC l) (no := some (false, ())) (X := bif dec (∀ i, i < l.length → rC l i) then some (decide ((l.length : Int) ≤ 9), ()) else some (false, ())) (fun i hi => ?_) ⟨.inr (.inr (.inr (.inr ()))), ?_, ?_⟩).trans ?_
  · have hm := hl.at hi
    unfold spec_IsHistory_D2 spec_l18Tx_S
    simp only [lAt_nat hi, Option.bind_some, p_specT hm.1 hm.2, slAt0 (Nat.le_of_lt hi), p_specFE (show (l.take i).length ≤ 1048576 by simp; omega)]
    rw [decide_eq_true (by omega)]
    simp only [cond_true]
    cases h1 : okT l[i].1 1 2 0 0 1000 l[i].2.1 l[i].2.2.1 l[i].2.2.2.1 with
    | false => exact ⟨fun ⟨_, h, _⟩ => (by unfold okEn at h; rw [h1] at h; cases h), fun _ => ⟨_, rfl, rfl⟩⟩
    | true =>
      simp only [Bool.not_true, cond_false]
      by_cases h2 : feI l l[i].1 = some i
      case neg =>
        have h2' : ¬ feI (l.take i) l[i].1 = none := fun h => h2 ((fe_take hi).2 h)
        rw [fx_ge]
        rw [show (feI (l.take i) l[i].1).isSome = true from by cases h : feI (l.take i) l[i].1 with | none => exact absurd h h2' | some _ => rfl]
        exact ⟨fun ⟨_, _, h, _⟩ => absurd h h2, fun _ => ⟨_, rfl, rfl⟩⟩
      rw [fx_ge, (fe_take hi).1 h2]
      simp only [Option.isSome_none, cond_false]
      rw [wrap_succ hi (by omega)]
      by_cases h3 : 0 < i
      · have hlt : i - 1 < l.length := by omega
        rw [decide_eq_true (show (i : Int) > 0 by omega), show IntKind.i64.wrap ((i : Int) - 1) = ((i - 1 : Nat) : Int) from by rw [wrap_id (by omega) (by omega)]; omega, lAt_nat hlt]
        simp only [cond_true, Option.bind_some]
        by_cases hb : l[i - 1].2.1 ≤ l[i].2.1
        case neg =>
          rw [decide_eq_true (by omega)]
          exact ⟨fun ⟨_, _, _, h⟩ => absurd (h h3).1 hb, fun _ => ⟨_, rfl, rfl⟩⟩
        rw [decide_eq_false (by omega)]
        simp only [cond_false]
        by_cases q : l[i].2.1 = l[i - 1].2.1
        · rw [show (l[i - 1].2.1 == l[i].2.1) = true from by simpa using q.symm]
          simp only [cond_true]
          by_cases q2 : l[i].2.2.2.1.length = 0
          · rw [decide_eq_false (by omega)]
            exact ⟨fun _ => rfl, fun h => absurd ⟨hi, h1, h2, fun _ => ⟨hb, fun _ => q2⟩⟩ h⟩
          · rw [decide_eq_true (by omega)]
            exact ⟨fun ⟨_, _, _, h⟩ => absurd ((h h3).2 q) q2, fun _ => ⟨_, rfl, rfl⟩⟩
        · rw [show (l[i - 1].2.1 == l[i].2.1) = false from by simpa using fun h => q h.symm]
          exact ⟨fun _ => rfl, fun h => absurd ⟨hi, h1, h2, fun _ => ⟨hb, fun e => absurd e q⟩⟩ h⟩
      · rw [decide_eq_false (show ¬ (i : Int) > 0 by omega)]
        exact ⟨fun _ => rfl, fun h => absurd ⟨hi, h1, h2, fun e => absurd e h3⟩ h⟩
  · unfold spec_IsHistory_D2
    simp only
    rw [decide_eq_false (by omega)]; rfl
  · simp only [sumC]
    refine all_loopK (n := l.length) (c := rC l) (no := some (false, ())) (X := some (decide ((l.length : Int) ≤ 9), ())) (fun i hi => ?_) ⟨.inr (.inr ()), ?_, rfl⟩
    · have hm := hl.at hi
      have hm1 := hm.1
      have e := all_iter (ρ := Unit ⊕ Unit ⊕ Unit) (n := l[i].2.2.1.length) (c := fun j => ∀ hj : j < l[i].2.2.1.length, mC l l[i].1 l[i].2.2.1[j]) (B := fun v_2 => spec_IsHistory_D12 (l, (i : Int), ()) v_2 _ some) (Bad := fun r => (∃ a, r = .inl a) ∨ ∃ a, r = .inr (.inl a)) (fin := .inr (.inr ())) (fun j hj => by
        unfold spec_IsHistory_D12
        simp only [lAt_nat hi, lAt_nat hj, Option.bind_some, p_specWO hl]
        rw [decide_eq_true (by omega), wrap_succ hj (by omega)]
        simp only [cond_true]
        exact mC_step' hj) (by
        unfold spec_IsHistory_D12
        simp only [lAt_nat hi, Option.bind_some]
        rw [decide_eq_false (by omega)]; rfl)
      unfold spec_IsHistory_D9
      simp only [lAt_nat hi, Option.bind_some]
      rw [decide_eq_true (by omega), wrap_succ hi (by omega)]
      simp only [cond_true]
      constructor
      · rintro ⟨_, hc⟩
        rw [e.1 (fun j _ => hc j)]; rfl
      · intro hc
        obtain ⟨r, h1, h2⟩ := e.2 (fun h => hc ⟨hi, fun j hj => h j hj hj⟩)
        rw [h1]
        rcases h2 with ⟨a, rfl⟩ | ⟨a, rfl⟩ <;> exact ⟨_, rfl, rfl⟩
    · unfold spec_IsHistory_D9
      simp only
      rw [decide_eq_false (by omega)]; rfl
  · by_cases h9 : l.length ≤ 9
    · rw [decide_eq_true (show (l.length : Int) ≤ 9 by omega)]; exact okH_fin h9
    · rw [decide_eq_false (show ¬ (l.length : Int) ≤ 9 by omega), dec_false (fun h : okH l => h9 h.1)]
      cases dec (∀ i, i < l.length → hC l i) <;> cases dec (∀ i, i < l.length → rC l i) <;> rfl
def ltE (a b : EDg) : Bool := decide (a.1 < b.1 ∨ (a.1 = b.1 ∧ (a.2.1 < b.2.1 ∨ (a.2.1 = b.2.1 ∧ (a.2.2.1 < b.2.2.1 ∨ (a.2.2.1 = b.2.2.1 ∧ a.2.2.2.1 < b.2.2.2.1))))))
theorem ltE_iff (a b : EDg) : ltE a b = true ↔ (a.1 < b.1 ∨ (a.1 = b.1 ∧ (a.2.1 < b.2.1 ∨ (a.2.1 = b.2.1 ∧ (a.2.2.1 < b.2.2.1 ∨ (a.2.2.1 = b.2.2.1 ∧ a.2.2.2.1 < b.2.2.2.1)))))) := by unfold ltE; exact decide_eq_true_iff
theorem edg_ext {a b : EDg} (h1 : a.1 = b.1) (h2 : a.2.1 = b.2.1) (h3 : a.2.2.1 = b.2.2.1) (h4 : a.2.2.2.1 = b.2.2.2.1) : a = b := by
  obtain ⟨a1, a2, a3, a4, _⟩ := a
  obtain ⟨b1, b2, b3, b4, _⟩ := b
  simp only at h1 h2 h3 h4
  subst h1; subst h2; subst h3; subst h4; rfl
theorem stoE : StO ltE where
  irr := fun x => by rw [← Bool.not_eq_true, ltE_iff]; omega
  tr := fun x y z h1 h2 => by rw [ltE_iff] at *; omega
  tri := fun x y => by
    rw [ltE_iff, ltE_iff]
    by_cases h : x.1 = y.1 ∧ x.2.1 = y.2.1 ∧ x.2.2.1 = y.2.2.1 ∧ x.2.2.2.1 = y.2.2.2.1
    · exact .inr (.inl (edg_ext h.1 h.2.1 h.2.2.1 h.2.2.2))
    · omega
def orL (l : List Int) : Int := match l.find? (fun x => x != 0) with | some x => x | none => 0
theorem p_orL {l : List Int} (hl : l.length ≤ 1048576) : cmp_Or_int_S (l, ()) = some (orL l, ()) := by
  unfold cmp_Or_int_S orL
  have e := first_loop (l := l) (p := fun x => x != 0) (B := fun v => cmp_Or_int_D3 (0, l, ((l.length : Nat) : Int), ()) v _ some) (k := fun p => sumC p (fun p => some (p.1, ())) fun p => some (0, ())) (yes := fun e => some (e, ())) (no := some (0, ())) (fun i h => by
    unfold cmp_Or_int_D3
    simp only [lAt_nat h, Option.bind_some]
    rw [decide_eq_true (by omega), wrap_succ h (by omega)]
    simp only [cond_true]
    cases (l[i] != 0 : Bool) <;> simp [sumC]) (by
    unfold cmp_Or_int_D3
    simp only
    rw [decide_eq_false (by omega)]; exact ⟨_, rfl, rfl⟩)
  rw [e]
  cases l.find? (fun x => x != 0) <;> rfl
def cm1 (a b : Int) : Int := if a < b then -1 else if a > b then 1 else 0
def cmE (a b : EDg) : Int := orL [cm1 a.1 b.1, cm1 a.2.1 b.2.1, cm1 a.2.2.1 b.2.2.1, cm1 a.2.2.2.1 b.2.2.2.1]
theorem p_cmE (a b : EDg) : impl_compareEdges_S (a, b, ()) = some (cmE a b, ()) := by
  unfold impl_compareEdges_S
  simp only [p_cmp, Option.bind_some]
  rw [p_orL (by simp)]; rfl
theorem orL_cons (x : Int) (l : List Int) : orL (x :: l) = if x = 0 then orL l else x := by
  unfold orL
  by_cases h : x = 0 <;> simp [h]
theorem cm1_zero (a b : Int) : cm1 a b = 0 ↔ a = b := by unfold cm1; split <;> omega
theorem cm1_lt (a b : Int) : cm1 a b < 0 ↔ a < b := by unfold cm1; split <;> omega
theorem cmE_lt (a b : EDg) : cmE a b < 0 ↔ ltE a b = true := by
  rw [ltE_iff]
  unfold cmE
  simp only [orL_cons, cm1_zero]
  rw [show orL [] = 0 from rfl]
  by_cases h1 : a.1 = b.1
  · rw [if_pos h1]
    by_cases h2 : a.2.1 = b.2.1
    · rw [if_pos h2]
      by_cases h3 : a.2.2.1 = b.2.2.1
      · rw [if_pos h3]
        by_cases h4 : a.2.2.2.1 = b.2.2.2.1
        · rw [if_pos h4]; omega
        · rw [if_neg h4, cm1_lt]; omega
      · rw [if_neg h3, cm1_lt]; omega
    · rw [if_neg h2, cm1_lt]; omega
  · rw [if_neg h1, cm1_lt]; omega
theorem ltS_cmE (a b : EDg) : ltS (t := YEdge) impl_compareEdges_S a b = ltE a b := by
  have : cfOf (t := YEdge) impl_compareEdges_S a b = cmE a b := by
    have e := p_cmE a b
    unfold cfOf
    erw [e]
  unfold ltS
  rw [this, Bool.eq_iff_iff, decide_eq_true_iff]
  exact cmE_lt a b
theorem sortOK_cmE : SortOK (t := YEdge) impl_compareEdges_S where
  tot := fun a b => ⟨_, p_cmE a b⟩
  irrefl := fun x => by rw [ltS_cmE]; exact stoE.irr x
  trans := fun x y z => by rw [ltS_cmE, ltS_cmE, ltS_cmE]; exact stoE.tr x y z
  ntrans := fun x y z => by
    rw [ltS_cmE, ltS_cmE, ltS_cmE, ← Bool.not_eq_true, ← Bool.not_eq_true, ← Bool.not_eq_true, ltE_iff, ltE_iff, ltE_iff]; omega
  anti := fun x y h1 h2 => by
    rw [ltS_cmE] at h1 h2
    rcases stoE.tri x y with h | h | h
    · rw [h1] at h; cases h
    · exact h
    · rw [h2] at h; cases h
theorem p_sortE {l : List EDg} (hl : l.length < 4611686018427387904) : slices_SortFunc__impl_compareEdges_S (l, ()) = some (l.mergeSort fun a b => !ltE b a, ()) := by
  unfold slices_SortFunc__impl_compareEdges_S sortS
  rw [if_pos ⟨sortOK_cmE, hl⟩]
  congr 2
  congr 1
  funext a b
  rw [ltS_cmE]
theorem beqE (a b : EDg) : (a.1 == b.1 && (a.2.1 == b.2.1 && (a.2.2.1 == b.2.2.1 && (a.2.2.2.1 == b.2.2.2.1 && true)))) = decide (a = b) := by
  rw [Bool.eq_iff_iff]
  simp only [Bool.and_eq_true, beq_iff_eq, decide_eq_true_iff, and_true]
  exact ⟨fun ⟨h1, h2, h3, h4⟩ => edg_ext h1 h2 h3 h4, fun h => by subst h; exact ⟨rfl, rfl, rfl, rfl⟩⟩
theorem take_last {α : Type} {l : List α} {k : Nat} (h : k < l.length) : (l.take (k + 1)).getLast? = some l[k] := by
  rw [List.take_add_one, List.getElem?_eq_getElem h]
  simp only [Option.toList_some, List.getLast?_append, List.getLast?_singleton, Option.some_or]
theorem ded_take (l : List EDg) {k : Nat} (h : k < l.length) (h0 : 0 < k) : ded (l.take (k + 1)) = if l[k - 1]'(by omega) = l[k] then ded (l.take k) else ded (l.take k) ++ [l[k]] := by
  rw [List.take_add_one, List.getElem?_eq_getElem h]
  simp only [Option.toList_some]
  rw [ded_snoc]
  unfold dedS
  rw [ded_last]
  have := take_last (l := l) (k := k - 1) (by omega)
  rw [show k - 1 + 1 = k by omega] at this
  rw [this]
  simp only [Option.some.injEq]
theorem compact9 {l : List EDg} (hl : l.length < 4611686018427387904) {o : Nat} (ho : 0 < o) (hol : o < l.length) : ∀ m k2 : Nat, o + k2 + m = l.length → 1 ≤ k2 → (ded (l.take (o + k2))).length ≤ o + k2 - 1 →
    iter (fun v => slices_Compact_impl_Edge_l_D9 () v _ some) (((ded (l.take (o + k2))).length : Int), (o, l.length - o), (k2 : Int), ded (l.take (o + k2)) ++ l.drop (ded (l.take (o + k2))).length, ()) = some (((ded l).length : Int), ded l ++ l.drop (ded l).length, ()) := by
  intro m
  induction m with
  | zero =>
    intro k2 h1 h2 h3
    rw [show l.take (o + k2) = l from List.take_of_length_le (by omega)]
    rw [iter_eq]
    unfold slices_Compact_impl_Edge_l_D9
    simp only
    rw [decide_eq_false (by omega)]; rfl
  | succ m ih =>
    intro k2 h1 h2 h3
    have hi : o + k2 < l.length := by omega
    have ih := ih (k2 + 1) (by omega) (by omega)
    rw [show o + (k2 + 1) = (o + k2) + 1 by omega, ded_take l hi (by omega)] at ih
    generalize hD : ded (l.take (o + k2)) = D at h3 ih ⊢
    have hrow : ∀ j, D.length ≤ j → j < l.length → (D ++ l.drop D.length)[j]? = l[j]? := by
      intro j hj hjl
      rw [List.getElem?_append_right hj, List.getElem?_drop]
      congr 1; omega
    have hlen : (D ++ l.drop D.length).length = l.length := by simp; omega
    by_cases he : l[o + k2] = l[o + k2 - 1]'(by omega)
    · have step : slices_Compact_impl_Edge_l_D9 () ((D.length : Int), (o, l.length - o), (k2 : Int), D ++ l.drop D.length, ()) ((Int × (Nat × Nat) × Int × List EDg × Unit) ⊕ (Int × List EDg × Unit)) some = some (.inl ((D.length : Int), (o, l.length - o), ((k2 + 1 : Nat) : Int), D ++ l.drop D.length, ())) := by
        unfold slices_Compact_impl_Edge_l_D9
        simp only
        rw [decide_eq_true (by omega), wrap_id (n := (k2 : Int) - 1) (by omega) (by omega), wrap_id (n := (k2 : Int) + 1) (by omega) (by omega), wrap_id (n := (D.length : Int) + 1) (by omega) (by omega), hlen]
        simp only [cond_true]
        rw [if_pos (by omega)]
        rw [show o + ((k2 : Int)).toNat = o + k2 by omega, show o + ((k2 : Int) - 1).toNat = o + k2 - 1 by omega, hrow _ (by omega) hi, hrow _ (by omega) (by omega), List.getElem?_eq_getElem hi, List.getElem?_eq_getElem (show o + k2 - 1 < l.length by omega)]
        simp only [Option.bind_some]
        rw [if_pos (by omega)]
        rw [beqE, decide_eq_true he]
        rfl
      rw [if_pos he.symm] at ih
      rw [iter_eq, step]
      exact ih (by omega)
    · have hset : (D ++ l.drop D.length).set D.length (l[o + k2].1, l[o + k2].2.1, l[o + k2].2.2.1, l[o + k2].2.2.2.1, ()) = (D ++ [l[o + k2]]) ++ l.drop (D.length + 1) := by
        rw [List.set_append_right _ _ (Nat.le_refl _), Nat.sub_self, List.drop_eq_getElem_cons (show D.length < l.length by omega), List.set_cons_zero]
        simp
      have step : slices_Compact_impl_Edge_l_D9 () ((D.length : Int), (o, l.length - o), (k2 : Int), D ++ l.drop D.length, ()) ((Int × (Nat × Nat) × Int × List EDg × Unit) ⊕ (Int × List EDg × Unit)) some = some (.inl (((D.length + 1 : Nat) : Int), (o, l.length - o), ((k2 + 1 : Nat) : Int), (D ++ [l[o + k2]]) ++ l.drop (D.length + 1), ())) := by
        unfold slices_Compact_impl_Edge_l_D9
        simp only
        rw [decide_eq_true (by omega), wrap_id (n := (k2 : Int) - 1) (by omega) (by omega), wrap_id (n := (k2 : Int) + 1) (by omega) (by omega), wrap_id (n := (D.length : Int) + 1) (by omega) (by omega), hlen]
        simp only [cond_true]
        rw [if_pos (by omega)]
        rw [show o + ((k2 : Int)).toNat = o + k2 by omega, show o + ((k2 : Int) - 1).toNat = o + k2 - 1 by omega, hrow _ (by omega) hi, hrow _ (by omega) (by omega), List.getElem?_eq_getElem hi, List.getElem?_eq_getElem (show o + k2 - 1 < l.length by omega)]
        simp only [Option.bind_some]
        rw [if_pos (by omega)]
        rw [beqE, decide_eq_false he]
        simp only [Bool.not_false, cond_true]
        rw [if_pos (by omega)]
        rw [if_pos (by omega), show 0 + ((D.length : Int)).toNat = D.length by omega, hrow _ (Nat.le_refl _) (by omega), List.getElem?_eq_getElem (show D.length < l.length by omega)]
        simp only [Option.bind_some]
        rw [hset]
        rfl
      rw [if_neg (fun h => he h.symm)] at ih
      rw [iter_eq, step]
      have := ih (by simp; omega)
      simp only [List.length_append, List.length_singleton] at this
      exact this
theorem ded_len {α : Type} [DecidableEq α] (l : List α) : (ded l).length ≤ l.length := by
  unfold ded
  suffices ∀ (l acc : List α), (l.foldl dedS acc).length ≤ acc.length + l.length by simpa using this l []
  intro l
  induction l with
  | nil => intro acc; simp
  | cons a l ih =>
    intro acc
    have := ih (dedS acc a)
    have h2 : (dedS acc a).length ≤ acc.length + 1 := by unfold dedS; split <;> simp
    simp only [List.foldl_cons, List.length_cons]; omega
theorem p_compact {l : List EDg} (hl : l.length < 4611686018427387904) : slices_Compact_impl_Edge_l_S (l, ()) = some (ded l, ()) := by
  unfold slices_Compact_impl_Edge_l_S
  simp only
  by_cases h2 : l.length < 2
  · rw [decide_eq_true (by omega)]
    match l, h2 with
    | [], _ => rfl
    | [a], _ => rfl
  rw [decide_eq_false (by omega)]
  simp only [cond_false]
  have key : ∀ m k : Nat, k + m = l.length → 1 ≤ k → ded (l.take k) = l.take k → ((iter (fun v => slices_Compact_impl_Edge_l_D4 (l, ()) v _ some) ((k : Int), ())).bind fun p => sumC p (fun p => some (List.take p.1 p.2.1, ())) fun p => some (l, ())) = some (ded l, ()) := by
    intro m
    induction m with
    | zero =>
      intro k h1 _ h3
      rw [iter_eq]
      unfold slices_Compact_impl_Edge_l_D4
      simp only
      rw [decide_eq_false (by omega)]
      rw [List.take_of_length_le (by omega)] at h3
      simp only [cond_false, Option.bind_some, sumC]
      rw [h3]
    | succ m ih =>
      intro k h1 hk h3
      have h : k < l.length := by omega
      rw [iter_eq]
      unfold slices_Compact_impl_Edge_l_D4
      simp only
      rw [decide_eq_true (by omega), wrap_id (n := (k : Int) - 1) (by omega) (by omega), wrap_id (n := (k : Int) + 1) (by omega) (by omega), if_pos (by omega), show 0 + ((k : Int)).toNat = k by omega, show 0 + ((k : Int) - 1).toNat = k - 1 by omega, List.getElem?_eq_getElem h, List.getElem?_eq_getElem (show k - 1 < l.length by omega)]
      simp only [cond_true, Option.bind_some]
      rw [if_pos (by omega), beqE]
      have hd := ded_take l h hk
      by_cases he : l[k] = l[k - 1]'(by omega)
      · rw [decide_eq_true he]
        rw [if_pos he.symm, h3] at hd
        simp only [cond_true]
        rw [if_pos (by omega)]
        have h9 := compact9 hl (o := k) (by omega) h (l.length - (k + 1)) 1 (by omega) (Nat.le_refl _) (by rw [hd]; simp; omega)
        rw [hd] at h9
        have e1 : (l.take k).length = k := by simp; omega
        rw [e1, List.take_append_drop] at h9
        rw [show ((l.length : Int)).toNat - ((k : Int)).toNat = l.length - k by omega]
        have h9' : iter (fun v => slices_Compact_impl_Edge_l_D9 () v _ some) ((k : Int), (k, l.length - k), 1, l, ()) = some (((ded l).length : Int), ded l ++ l.drop (ded l).length, ()) := h9
        rw [h9']
        simp only [Option.bind_some]
        have hle : (ded l).length ≤ l.length := ded_len l
        have hlen : (ded l ++ l.drop (ded l).length).length = l.length := by simp; omega
        rw [if_pos (by omega)]
        rw [if_pos (by
          refine ⟨Int.le_refl _, by omega, ?_⟩
          rw [hlen]
          simp only [List.length_append, List.length_take, List.length_replicate, List.length_drop]
          omega)]
        simp only [Option.bind_some, sumC]
        congr 2
        rw [show ((((ded l).length : Nat) : Int)).toNat - (0 : Int).toNat = (ded l).length by omega, show 0 + ((((ded l).length : Nat) : Int)).toNat = (ded l).length by omega]
        rw [List.append_assoc, List.take_append_of_le_length (by simp), List.take_take, Nat.min_self, List.take_left]
      · rw [decide_eq_false he]
        simp only [cond_false, Option.bind_some]
        rw [if_neg (fun h => he h.symm), h3] at hd
        refine ih (k + 1) (by omega) (by omega) ?_
        rw [hd, List.take_add_one, List.getElem?_eq_getElem h]; rfl
  have := key (l.length - 1) 1 (by omega) (Nat.le_refl _) (by
    match l, h2 with
    | a :: r, _ => simp [ded, dedS])
  exact this
def okEd (e : EDg) : Bool := e.1 != 0 && (e.2.1 != 0 && e.1 != e.2.1)
def putG (g : List EDg) (e : EDg) : List EDg := if okEd e = true then g ++ [e] else g
def putS (g : List EDg) (e : EDg) : List EDg := if okEd e = true then insE ltE g e else g
section
variable (P : List EDg → EDg → List EDg) (l : List EN)
def gR (id : Int) (g : List EDg) (m : VM) : List EDg := P (P g (wrOf l m.1 m.2.1, id, 1, m.1, ())) (id, nwOf l m.1 m.2.1, 3, m.1, ())
def gW (id st : Int) (g : List EDg) (m : VM) : List EDg := P g (id, nwOf l m.1 st, 2, m.1, ())
def gX (g : List EDg) (e : EN) : List EDg := e.2.2.2.1.foldl (gW P l e.1 e.2.1) (e.2.2.1.foldl (gR P l e.1) g)
def gA : List EDg := l.foldl (gX P l) []
end
theorem putG_len (g : List EDg) (e : EDg) : (putG g e).length ≤ g.length + 1 := by unfold putG; split <;> simp
theorem foldl_len {α β : Type} {f : List β → α → List β} {c : Nat} : ∀ (l : List α) (g : List β), (∀ g, ∀ x ∈ l, (f g x).length ≤ g.length + c) → (l.foldl f g).length ≤ g.length + c * l.length
  | [], g, _ => by simp
  | x :: l, g, h => by
    have h1 := h g x (List.mem_cons_self ..)
    have h2 := foldl_len l (f g x) fun g y hy => h g y (List.mem_cons_of_mem _ hy)
    simp only [List.foldl_cons, List.length_cons, Nat.mul_add, Nat.mul_one]
    omega
theorem gR_len (l : List EN) (id : Int) (g : List EDg) (m : VM) : (gR putG l id g m).length ≤ g.length + 2 := by
  unfold gR
  have h1 := putG_len g (wrOf l m.1 m.2.1, id, 1, m.1, ())
  have h2 := putG_len (putG g (wrOf l m.1 m.2.1, id, 1, m.1, ())) (id, nwOf l m.1 m.2.1, 3, m.1, ())
  omega
theorem gW_len (l : List EN) (id st : Int) (g : List EDg) (m : VM) : (gW putG l id st g m).length ≤ g.length + 1 := putG_len _ _
theorem gX_len (l : List EN) {e : EN} (h : smE e) (g : List EDg) : (gX putG l g e).length ≤ g.length + 3145728 := by
  unfold gX
  have h1 := foldl_len (f := gR putG l e.1) (c := 2) e.2.2.1 g fun g m _ => gR_len l e.1 g m
  have h2 := foldl_len (f := gW putG l e.1 e.2.1) (c := 1) e.2.2.2.1 (e.2.2.1.foldl (gR putG l e.1) g) fun g m _ => gW_len l e.1 e.2.1 g m
  have := h.1; have := h.2
  omega
theorem gA_len {l : List EN} (h : smEs l) (h9 : l.length ≤ 9) : (gA putG l).length ≤ 28311552 := by
  have := foldl_len (f := gX putG l) (c := 3145728) l [] fun g e he => gX_len l (h.2 e he) g
  unfold gA
  simp only [List.length_nil] at this
  omega
theorem p_put1 {g : List EDg} (h : g.length ≤ 1000000000) (e : EDg) : impl_graph_1_l_S (e.1, e.2.1, e.2.2.1, e.2.2.2.1, g, ()) = some (putG g e, ()) := by
  unfold impl_graph_1_l_S putG okEd
  simp only
  cases (e.1 != 0 : Bool) <;> cases (e.2.1 != 0 : Bool) <;> cases (e.1 != e.2.1 : Bool) <;> simp
  omega
theorem p_graph {l : List EN} (hl : smEs l) (h9 : l.length ≤ 9) : impl_graph_S (l, ()) = some (ded ((gA putG l).mergeSort fun a b => !ltE b a), ()) := by
  unfold impl_graph_S
  have hs := hl.1
  have eR : ∀ i (h : i < l.length) (g : List EDg), g.length ≤ 28311552 → iter (fun v_2 => impl_graph_D7 (l, l, ((l.length : Nat) : Int), (i : Int), l[i].2.2.1, ((l[i].2.2.1.length : Nat) : Int), l[i].1, l[i].2.1, l[i].2.2.1, l[i].2.2.2.1, ()) v_2 _ some) (0, g, ()) = some (l[i].2.2.1.foldl (gR putG l l[i].1) g, ()) := by
    intro i h g hg
    have h1 := (hl.at h).1
    refine iter_fold (l := l[i].2.2.1) (fun (g : List EDg) (j : Nat) => ((j : Int), g, ())) (gR putG l l[i].1) (fun j g' => g'.length ≤ g.length + 2 * j) (by simp) (fun j hj g' hg' => ⟨?_, ?_⟩) (r := fun g => (g, ())) (fun g' _ => ?_) rfl
    · unfold impl_graph_D7
      simp only [lAt_nat hj, Option.bind_some, p_implWO hl, p_implNW hl]
      rw [decide_eq_true (by omega), wrap_succ hj (by omega)]
      simp only [cond_true]
      have e1 := p_put1 (g := g') (by omega) (wrOf l l[i].2.2.1[j].1 l[i].2.2.1[j].2.1, l[i].1, 1, l[i].2.2.1[j].1, ())
      have l1 := putG_len g' (wrOf l l[i].2.2.1[j].1 l[i].2.2.1[j].2.1, l[i].1, 1, l[i].2.2.1[j].1, ())
      have e2 := p_put1 (g := putG g' (wrOf l l[i].2.2.1[j].1 l[i].2.2.1[j].2.1, l[i].1, 1, l[i].2.2.1[j].1, ())) (by omega) (l[i].1, nwOf l l[i].2.2.1[j].1 l[i].2.2.1[j].2.1, 3, l[i].2.2.1[j].1, ())
      simp only at e1 e2
      rw [e1]
      simp only [Option.bind_some]
      rw [e2]; rfl
    · have := gR_len l l[i].1 g' l[i].2.2.1[j]
      omega
    · unfold impl_graph_D7
      simp only
      rw [decide_eq_false (by omega)]; rfl
  have eW : ∀ i (h : i < l.length) (g : List EDg), g.length ≤ 38311552 → iter (fun v_2 => impl_graph_D13 (l, l, ((l.length : Nat) : Int), (i : Int), l[i].2.2.2.1, ((l[i].2.2.2.1.length : Nat) : Int), l[i].1, l[i].2.1, l[i].2.2.1, l[i].2.2.2.1, ()) v_2 _ some) (0, g, ()) = some (l[i].2.2.2.1.foldl (gW putG l l[i].1 l[i].2.1) g, ()) := by
    intro i h g hg
    have h1 := (hl.at h).2
    refine iter_fold (l := l[i].2.2.2.1) (fun (g : List EDg) (j : Nat) => ((j : Int), g, ())) (gW putG l l[i].1 l[i].2.1) (fun j g' => g'.length ≤ g.length + j) (by simp) (fun j hj g' hg' => ⟨?_, ?_⟩) (r := fun g => (g, ())) (fun g' _ => ?_) rfl
    · unfold impl_graph_D13
      simp only [lAt_nat hj, Option.bind_some, p_implNW hl]
      rw [decide_eq_true (by omega), wrap_succ hj (by omega)]
      simp only [cond_true]
      have e1 := p_put1 (g := g') (by omega) (l[i].1, nwOf l l[i].2.2.2.1[j].1 l[i].2.1, 2, l[i].2.2.2.1[j].1, ())
      simp only at e1
      rw [e1]; rfl
    · have := gW_len l l[i].1 l[i].2.1 g' l[i].2.2.2.1[j]
      omega
    · unfold impl_graph_D13
      simp only
      rw [decide_eq_false (by omega)]; rfl
  have e := iter_fold (l := l) (B := fun v => impl_graph_D4 (l, l, ((l.length : Nat) : Int), ()) v _ some) (fun (g : List EDg) (i : Nat) => ((i : Int), g, ())) (gX putG l) (fun i g => g.length ≤ 3145728 * i) (s0 := []) (by simp) (fun i h g hg => ⟨by
    unfold impl_graph_D4
    simp only [lAt_nat h, Option.bind_some]
    rw [decide_eq_true (by omega), wrap_succ h (by omega)]
    simp only [cond_true]
    rw [eR i h g (by omega)]
    simp only [Option.bind_some]
    have h2 := foldl_len (f := gR putG l l[i].1) (c := 2) l[i].2.2.1 g fun g m _ => gR_len l l[i].1 g m
    have h1 := (hl.at h).1
    rw [eW i h _ (by omega)]; rfl, by
    have := gX_len l (hl.at h) g
    omega⟩) (r := fun g => (g, ())) (fun g hg => by
    unfold impl_graph_D4
    simp only
    rw [decide_eq_false (by omega)]; rfl) (t0 := (0, [], ())) rfl
  simp only
  rw [e]
  simp only [Option.bind_some]
  have hlen := gA_len hl h9
  rw [show l.foldl (gX putG l) [] = gA putG l from rfl, p_sortE (by omega)]
  simp only [Option.bind_some]
  rw [p_compact (by simp; omega)]; rfl
def grS (l : List EN) : List EDg := gA putS l
theorem fuse {α : Type} {F G : List EDg → α → List EDg} (h : ∀ g x, (F g x).foldl (insE ltE) [] = G (g.foldl (insE ltE) []) x) : ∀ (l : List α) g, (l.foldl F g).foldl (insE ltE) [] = l.foldl G (g.foldl (insE ltE) [])
  | [], _ => rfl
  | x :: l, g => by rw [List.foldl_cons, List.foldl_cons, fuse h l, h]
theorem put_fuse (g : List EDg) (e : EDg) : (putG g e).foldl (insE ltE) [] = putS (g.foldl (insE ltE) []) e := by
  unfold putG putS; split
  · rw [List.foldl_append]; rfl
  · rfl
theorem gA_fuse (l : List EN) : (gA putG l).foldl (insE ltE) [] = grS l := by
  unfold gA grS gA
  refine fuse (fun g e => ?_) l []
  unfold gX
  rw [fuse (F := gW putG l e.1 e.2.1) (G := gW putS l e.1 e.2.1) (fun g m => put_fuse _ _), fuse (F := gR putG l e.1) (G := gR putS l e.1) (fun g m => by unfold gR; rw [put_fuse, put_fuse])]
theorem p_implGraph {l : List EN} (hl : smEs l) (h9 : l.length ≤ 9) : impl_graph_S (l, ()) = some (grS l, ()) := by
  rw [p_graph hl h9, ded_sort stoE, gA_fuse]
noncomputable def bgr (l : List EN) : List EDg := bif dec (okH l) then grS l else []
theorem p_implBG {l : List EN} (hl : smEs l) : impl_BuildGraph_S (l, ()) = some (bgr l, ()) := by
  unfold impl_BuildGraph_S bgr
  simp only [p_implH hl, Option.bind_some]
  by_cases h : okH l
  · rw [dec_true h]
    simp only [Bool.not_true, cond_false, cond_true, p_implGraph hl h.1, Option.bind_some]
  · rw [dec_false h]; rfl
theorem p_less (a b : EDg) : spec_l19Less_S (a, b, ()) = some (ltE a b, ()) := by
  unfold spec_l19Less_S
  have : ltE a b = bif a.1 != b.1 then decide (a.1 < b.1) else bif a.2.1 != b.2.1 then decide (a.2.1 < b.2.1) else bif a.2.2.1 != b.2.2.1 then decide (a.2.2.1 < b.2.2.1) else decide (a.2.2.2.1 < b.2.2.2.1) := by
    rw [Bool.eq_iff_iff, ltE_iff]
    by_cases h1 : a.1 = b.1
    · by_cases h2 : a.2.1 = b.2.1
      · by_cases h3 : a.2.2.1 = b.2.2.1
        · simp [h1, h2, h3]
        · simp [h1, h2, h3]
      · simp [h1, h2]
    · simp [h1]
  rw [this]
  cases (a.1 != b.1 : Bool) <;> cases (a.2.1 != b.2.1 : Bool) <;> cases (a.2.2.1 != b.2.2.1 : Bool) <;> rfl
theorem tw_find {α : Type} (p : α → Bool) : ∀ (l : List α), match l.findIdx? (fun x => !p x) with
    | some i => l.takeWhile p = l.take i ∧ l.dropWhile p = l.drop i
    | none => l.takeWhile p = l ∧ l.dropWhile p = []
  | [] => ⟨rfl, rfl⟩
  | a :: l => by
    have ih := tw_find p l
    rw [List.findIdx?_cons]
    cases h : p a with
    | false => simp [h]
    | true =>
      simp only [Bool.not_true, Bool.false_eq_true, if_false]
      revert ih
      cases l.findIdx? (fun x => !p x) with
      | none => intro ih; simpa [h] using ih
      | some i => intro ih; simpa [h] using ih
theorem insE_len (g : List EDg) (e : EDg) : (insE ltE g e).length ≤ g.length + 1 := by
  unfold insE; split
  · omega
  · have := congrArg List.length (List.takeWhile_append_dropWhile (p := fun x => ltE x e) (l := g))
    simp only [List.length_append, List.length_cons] at this ⊢
    omega
theorem putS_len (g : List EDg) (e : EDg) : (putS g e).length ≤ g.length + 1 := by
  unfold putS; split
  · exact insE_len g e
  · omega
theorem slAt1 {α : Type} {l : List α} {i : Nat} (h : i ≤ l.length) : slAt l (i : Int) ((l.length : Nat) : Int) = some (l.drop i) := by
  unfold slAt
  rw [if_pos (by omega)]
  congr 1
  rw [List.take_of_length_le (by simp)]; simp
theorem p_specPut {g : List EDg} (h : g.length ≤ 1000000000) (e : EDg) : spec_l19Put_S (g, (e.1, e.2.1, e.2.2.1, e.2.2.2.1, ()), ()) = some (putS g e, ()) := by
  unfold spec_l19Put_S putS okEd
  simp only
  by_cases h1 : e.1 = 0
  · simp [h1]
  by_cases h2 : e.2.1 = 0
  · simp [h2]
  by_cases h3 : e.1 = e.2.1
  · simp [h3]
  rw [show (e.1 == 0) = false from by simpa using h1, show (e.2.1 == 0) = false from by simpa using h2, show (e.1 == e.2.1) = false from by simpa using h3, if_pos (by simp [h1, h2, h3])]
  simp only [cond_false]
  have hf := iter_first (l := g) (B := fun v => spec_l19Put_D4 (g, e.1, e.2.1, e.2.2.1, e.2.2.2.1, ()) v _ some) (fun j => ((j : Int), ())) (fun x => !ltE x e) (fd := fun j => Sum.inl ((j : Int), ())) (no := Sum.inr ((g.length : Int), ())) (fun j hj => by
    unfold spec_l19Put_D4
    have e1 := p_less g[j] e
    simp only [lAt_nat hj, Option.bind_some]
    rw [decide_eq_true (by omega), wrap_succ hj (by omega)]
    simp only [cond_true]
    erw [e1]
    simp only [Option.bind_some]
    cases ltE g[j] e <;> rfl) (by
    unfold spec_l19Put_D4
    simp only
    rw [decide_eq_false (by omega)]; rfl) (t0 := (0, ())) rfl
  rw [hf]
  have ht := tw_find (fun x => ltE x e) g
  unfold insE
  revert ht
  cases hx : g.findIdx? (fun x => !ltE x e) with
  | none =>
    rintro ⟨t1, t2⟩
    simp only [Option.bind_some, sumC]
    rw [decide_eq_false (by omega), t1, t2, if_neg (by simp)]
    simp only [cond_false]
    rw [slAt0 (Nat.le_refl _), List.take_length]
    simp only [Option.bind_some]
    rw [if_pos (by omega), if_pos (by simp; omega), slAt1 (Nat.le_refl _)]
    simp only [Option.bind_some]
    rw [if_pos (by simp; omega), List.drop_length]; simp
  | some i =>
    rintro ⟨t1, t2⟩
    obtain ⟨hi, _, _⟩ := findIdx_get hx
    simp only [Option.bind_some, sumC]
    rw [decide_eq_true (by omega), t1, t2, lAt_nat hi]
    simp only [cond_true, Option.bind_some]
    rw [beqE, List.drop_eq_getElem_cons hi]
    by_cases he : g[i] = e
    · rw [decide_eq_true he, if_pos (by simp [he])]; rfl
    · rw [decide_eq_false he, if_neg (fun h => he (Option.some.inj (by simpa only [List.head?_cons] using h)))]
      simp only [cond_false]
      rw [slAt0 (Nat.le_of_lt hi)]
      simp only [Option.bind_some]
      rw [if_pos (by simp; omega), if_pos (by simp; omega), slAt1 (Nat.le_of_lt hi)]
      simp only [Option.bind_some]
      rw [if_pos (by simp; omega), List.drop_eq_getElem_cons hi]; simp
theorem gRS_len (l : List EN) (id : Int) (g : List EDg) (m : VM) : (gR putS l id g m).length ≤ g.length + 2 := by
  unfold gR
  have h1 := putS_len g (wrOf l m.1 m.2.1, id, 1, m.1, ())
  have h2 := putS_len (putS g (wrOf l m.1 m.2.1, id, 1, m.1, ())) (id, nwOf l m.1 m.2.1, 3, m.1, ())
  omega
theorem gXS_len (l : List EN) {e : EN} (h : smE e) (g : List EDg) : (gX putS l g e).length ≤ g.length + 3145728 := by
  unfold gX
  have h1 := foldl_len (f := gR putS l e.1) (c := 2) e.2.2.1 g fun g m _ => gRS_len l e.1 g m
  have h2 := foldl_len (f := gW putS l e.1 e.2.1) (c := 1) e.2.2.2.1 (e.2.2.1.foldl (gR putS l e.1) g) fun g m _ => putS_len _ _
  have := h.1; have := h.2
  omega
theorem p_specBG {l : List EN} (hl : smEs l) : spec_BuildGraph_S (l, ()) = some (bgr l, ()) := by
  unfold spec_BuildGraph_S bgr
  have hs := hl.1
  by_cases hH : okH l
  case neg =>
    rw [dec_false hH]
    simp only
    rw [iter_eq]
    unfold spec_BuildGraph_D3
    simp only [p_specH hl, Option.bind_some, dec_false hH]
    cases decide ((0 : Int) < (l.length : Int)) <;> rfl
  have h9 := hH.1
  have eR : ∀ i (h : i < l.length) (g : List EDg), g.length ≤ 28311552 → iter (fun v_2 => spec_BuildGraph_D6 (l, (i : Int), ()) v_2 _ some) (g, 0, [], ()) = some (l[i].2.2.1.foldl (gR putS l l[i].1) g, [], ()) := by
    intro i h g hg
    have h1 := (hl.at h).1
    refine iter_fold (l := l[i].2.2.1) (fun (g : List EDg) (j : Nat) => (g, (j : Int), [], ())) (gR putS l l[i].1) (fun j g' => g'.length ≤ g.length + 2 * j) (by simp) (fun j hj g' hg' => ⟨?_, ?_⟩) (r := fun g => (g, [], ())) (fun g' _ => ?_) rfl
    · unfold spec_BuildGraph_D6
      simp only [lAt_nat h, lAt_nat hj, Option.bind_some, p_specWO hl, p_specNW hl]
      rw [decide_eq_true (by omega), wrap_succ hj (by omega)]
      simp only [cond_true]
      have e1 := p_specPut (g := g') (by omega) (wrOf l l[i].2.2.1[j].1 l[i].2.2.1[j].2.1, l[i].1, 1, l[i].2.2.1[j].1, ())
      have l1 := putS_len g' (wrOf l l[i].2.2.1[j].1 l[i].2.2.1[j].2.1, l[i].1, 1, l[i].2.2.1[j].1, ())
      have e2 := p_specPut (g := putS g' (wrOf l l[i].2.2.1[j].1 l[i].2.2.1[j].2.1, l[i].1, 1, l[i].2.2.1[j].1, ())) (by omega) (l[i].1, nwOf l l[i].2.2.1[j].1 l[i].2.2.1[j].2.1, 3, l[i].2.2.1[j].1, ())
      simp only at e1 e2
      rw [e1]
      simp only [Option.bind_some]
      rw [e2]; rfl
    · have := gRS_len l l[i].1 g' l[i].2.2.1[j]
      omega
    · unfold spec_BuildGraph_D6
      simp only [lAt_nat h, Option.bind_some]
      rw [decide_eq_false (by omega)]; rfl
  have eW : ∀ i (h : i < l.length) (g : List EDg), g.length ≤ 38311552 → iter (fun v_2 => spec_BuildGraph_D12 (l, (i : Int), ()) v_2 _ some) (g, 0, ()) = some (l[i].2.2.2.1.foldl (gW putS l l[i].1 l[i].2.1) g, ()) := by
    intro i h g hg
    have h1 := (hl.at h).2
    refine iter_fold (l := l[i].2.2.2.1) (fun (g : List EDg) (j : Nat) => (g, (j : Int), ())) (gW putS l l[i].1 l[i].2.1) (fun j g' => g'.length ≤ g.length + j) (by simp) (fun j hj g' hg' => ⟨?_, ?_⟩) (r := fun g => (g, ())) (fun g' _ => ?_) rfl
    · unfold spec_BuildGraph_D12
      simp only [lAt_nat h, lAt_nat hj, Option.bind_some, p_specNW hl]
      rw [decide_eq_true (by omega), wrap_succ hj (by omega)]
      simp only [cond_true]
      have e1 := p_specPut (g := g') (by omega) (l[i].1, nwOf l l[i].2.2.2.1[j].1 l[i].2.1, 2, l[i].2.2.2.1[j].1, ())
      simp only at e1
      rw [e1]; rfl
    · have := putS_len g' (l[i].1, nwOf l l[i].2.2.2.1[j].1 l[i].2.1, 2, l[i].2.2.2.1[j].1, ())
      show (putS _ _).length ≤ _
      omega
    · unfold spec_BuildGraph_D12
      simp only [lAt_nat h, Option.bind_some]
      rw [decide_eq_false (by omega)]; rfl
  have e := iter_fold (l := l) (B := fun v => spec_BuildGraph_D3 (l, ()) v _ some) (fun (g : List EDg) (i : Nat) => (g, (i : Int), [], ())) (gX putS l) (fun i g => g.length ≤ 3145728 * i) (s0 := []) (by simp) (fun i h g hg => ⟨by
    unfold spec_BuildGraph_D3
    simp only [lAt_nat h, Option.bind_some, p_specH hl, dec_true hH]
    rw [decide_eq_true (by omega), wrap_succ h (by omega)]
    simp only [cond_true]
    rw [eR i h g (by omega)]
    simp only [Option.bind_some]
    have h2 := foldl_len (f := gR putS l l[i].1) (c := 2) l[i].2.2.1 g fun g m _ => gRS_len l l[i].1 g m
    have h1 := (hl.at h).1
    rw [eW i h _ (by omega)]; rfl, by
    have := gXS_len l (hl.at h) g
    omega⟩) (r := fun g => Sum.inr (g, [], ())) (fun g hg => by
    unfold spec_BuildGraph_D3
    simp only
    rw [decide_eq_false (by omega)]; rfl) (t0 := ([], 0, [], ())) rfl
  simp only
  rw [e, dec_true hH]; rfl
def nine : List Int := (List.range 9).map fun k => ((k + 1 : Nat) : Int)
def isE (l : List EN) (id : Int) : Prop := ∃ e ∈ l, e.1 = id
theorem isE_feI {l : List EN} {id : Int} (h : isE l id) : ∃ j, ∃ hj : j < l.length, feI l id = some j ∧ l[j].1 = id := by
  obtain ⟨e, he, rfl⟩ := h
  unfold feI
  cases hx : l.findIdx? (fun x => x.1 == e.1) with
  | none => have := List.findIdx?_eq_none_iff.1 hx e he; simp at this
  | some j =>
    obtain ⟨hj, h2, _⟩ := findIdx_get hx
    exact ⟨j, hj, rfl, by simpa using h2⟩
theorem isE_wr {l : List EN} {k c : Int} (h : wrOf l k c ≠ 0) : isE l (wrOf l k c) := by
  unfold wrOf at h ⊢
  cases hf : l.find? (isW k c) with
  | none => rw [hf] at h; exact absurd rfl h
  | some e => exact ⟨e, List.mem_of_find?_eq_some hf, rfl⟩
theorem nw_mem (k a : Int) : ∀ (l m : List EN) (s : Option EN), (∀ e, s = some e → e ∈ m) → (∀ e ∈ l, e ∈ m) → ∀ e, l.foldl (nwS k a) s = some e → e ∈ m
  | [], m, s, hs, _, e, he => hs e he
  | x :: l, m, s, hs, hl, e, he => by
    refine nw_mem k a l m (nwS k a s x) (fun y hy => ?_) (fun y hy => hl y (List.mem_cons_of_mem _ hy)) e he
    have hx := hl x (List.mem_cons_self ..)
    unfold nwS at hy
    split at hy
    · split at hy
      · obtain rfl := Option.some.inj hy; exact hx
      · split at hy
        · obtain rfl := Option.some.inj hy; exact hx
        · obtain rfl := Option.some.inj hy; exact hs _ rfl
    · exact hs y hy
theorem isE_nw {l : List EN} {k c : Int} (h : nwOf l k c ≠ 0) : isE l (nwOf l k c) := by
  unfold nwOf at h ⊢
  cases hf : l.foldl (nwS k c) none with
  | none => rw [hf] at h; exact absurd rfl h
  | some e => exact ⟨e, nw_mem k c l l none (fun e he => by cases he) (fun e he => he) e hf, rfl⟩
theorem putS_mem {g : List EDg} {e x : EDg} (h : x ∈ putS g e) : x ∈ g ∨ (x = e ∧ okEd e = true) := by
  unfold putS at h
  split at h
  · rename_i hok
    rcases (insE_mem stoE x).1 h with h | h
    · exact .inl h
    · exact .inr ⟨h, hok⟩
  · exact .inl h
theorem okEd_iff (e : EDg) : okEd e = true ↔ e.1 ≠ 0 ∧ e.2.1 ≠ 0 ∧ e.1 ≠ e.2.1 := by
  unfold okEd; simp
theorem grS_ends (l : List EN) : ∀ e ∈ grS l, isE l e.1 ∧ isE l e.2.1 ∧ e.1 ≠ e.2.1 := by
  let I : List EDg → Prop := fun g => ∀ e ∈ g, isE l e.1 ∧ isE l e.2.1 ∧ e.1 ≠ e.2.1
  have hR : ∀ x ∈ l, ∀ g m, I g → I (gR putS l x.1 g m) := by
    intro x hx g m hg e he
    unfold gR at he
    rcases putS_mem he with he | ⟨rfl, h⟩
    · rcases putS_mem he with he | ⟨rfl, h⟩
      · exact hg e he
      · rw [okEd_iff] at h
        exact ⟨isE_wr h.1, ⟨x, hx, rfl⟩, h.2.2⟩
    · rw [okEd_iff] at h
      exact ⟨⟨x, hx, rfl⟩, isE_nw h.2.1, h.2.2⟩
  have hW : ∀ x ∈ l, ∀ g m, I g → I (gW putS l x.1 x.2.1 g m) := by
    intro x hx g m hg e he
    unfold gW at he
    rcases putS_mem he with he | ⟨rfl, h⟩
    · exact hg e he
    · rw [okEd_iff] at h
      exact ⟨⟨x, hx, rfl⟩, isE_nw h.2.1, h.2.2⟩
  refine foldl_inv (I := I) l [] (fun e he => by cases he) fun x hx g hg => ?_
  unfold gX
  exact foldl_inv (I := I) _ _ (foldl_inv (I := I) _ _ hg fun m _ g hg => hR x hx g m hg) fun m _ g hg => hW x hx g m hg
theorem bgr_ends (l : List EN) : ∀ e ∈ bgr l, isE l e.1 ∧ isE l e.2.1 ∧ e.1 ≠ e.2.1 := by
  intro e he
  unfold bgr at he
  cases hd : dec (okH l) with
  | false => rw [hd] at he; cases he
  | true => rw [hd] at he; exact grS_ends l e he
theorem bgr_len {l : List EN} (hl : smEs l) : (bgr l).length ≤ 10000000 := by
  unfold bgr
  by_cases h : okH l
  · rw [dec_true h]
    have h9 := h.1
    have hb : ∀ e ∈ l, e.2.2.1.length ≤ 60 ∧ e.2.2.2.1.length ≤ 1048576 := by
      intro e he
      obtain ⟨i, hi, rfl⟩ := List.mem_iff_getElem.1 he
      obtain ⟨_, h1, _⟩ := h.2.1 i hi
      unfold okEn okT at h1
      simp only [Bool.and_eq_true, decide_eq_true_iff] at h1
      exact ⟨h1.2, (hl.at hi).2⟩
    have := foldl_len (f := gX putS l) (c := 1048696) l [] fun g e he => by
      unfold gX
      have h1 := foldl_len (f := gR putS l e.1) (c := 2) e.2.2.1 g fun g m _ => gRS_len l e.1 g m
      have h2 := foldl_len (f := gW putS l e.1 e.2.1) (c := 1) e.2.2.2.1 (e.2.2.1.foldl (gR putS l e.1) g) fun g m _ => putS_len _ _
      have h3 := (hb e he).1
      have h4 := (hb e he).2
      omega
    show (grS l).length ≤ _
    unfold grS gA
    simp only [List.length_nil] at this
    omega
  · rw [dec_false h]; simp
theorem find_idx {α : Type} (l : List α) (p : α → Bool) : match l.findIdx? p with | none => l.find? p = none | some i => ∃ h : i < l.length, l.find? p = some l[i] := by
  induction l with
  | nil => rfl
  | cons a l ih =>
    rw [List.findIdx?_cons, List.find?_cons]
    cases p a with
    | true => exact ⟨by simp, rfl⟩
    | false =>
      simp only [Bool.false_eq_true, if_false]
      revert ih
      cases l.findIdx? p with
      | none => intro ih; exact ih
      | some i => rintro ⟨h, e⟩; exact ⟨by simpa using h, e⟩
def entD : EN := (0, 0, [], [], ())
def entOf (l : List EN) (id : Int) : EN := (l.find? fun e => e.1 == id).getD entD
theorem entOf_lAt {l : List EN} {id : Int} (h : isE l id) : lAt l (fx (feI l id)) = some (entOf l id) ∧ entOf l id ∈ l := by
  obtain ⟨j, hj, h1, h2⟩ := isE_feI h
  have hf := find_idx l (fun e => e.1 == id)
  unfold feI at h1 ⊢
  rw [h1] at hf ⊢
  obtain ⟨_, hf⟩ := hf
  unfold entOf
  rw [hf]
  exact ⟨lAt_nat hj, List.getElem_mem hj⟩
def insB (x : EN) (l : List EN) : List EN := (l.takeWhile fun e => decide (e.2.1 ≤ x.2.1)) ++ x :: (l.dropWhile fun e => decide (e.2.1 ≤ x.2.1))
def srt (r : List EN) : List EN := r.foldl (fun l x => insB x l) []
def ascE (l : List EN) : Prop := l.Pairwise fun a b => a.2.1 ≤ b.2.1
theorem tw_snoc {α : Type} {q : α → Bool} {p : α} (hp : q p = false) : ∀ l : List α, (l ++ [p]).takeWhile q = l.takeWhile q ∧ (l ++ [p]).dropWhile q = l.dropWhile q ++ [p]
  | [] => by simp [hp]
  | a :: l => by
    obtain ⟨h1, h2⟩ := tw_snoc hp l
    cases h : q a with
    | true => simp [h, h1, h2]
    | false => simp [h]
theorem tw_of_all {α : Type} {q : α → Bool} {l : List α} (h : ∀ x ∈ l, q x = true) : l.takeWhile q = l ∧ l.dropWhile q = [] := by
  induction l with
  | nil => simp
  | cons a l ih =>
    obtain ⟨h1, h2⟩ := ih fun x hx => h x (List.mem_cons_of_mem _ hx)
    have := h a (List.mem_cons_self ..)
    simp [this, h1, h2]
theorem insB_asc {x : EN} {l : List EN} (h : ascE l) : ascE (insB x l) := by
  unfold insB ascE at *
  have hsp := h
  rw [← List.takeWhile_append_dropWhile (p := fun e : EN => decide (e.2.1 ≤ x.2.1)) (l := l), List.pairwise_append] at hsp
  rw [List.pairwise_append, List.pairwise_cons]
  have hT : ∀ y ∈ l.takeWhile (fun e => decide (e.2.1 ≤ x.2.1)), y.2.1 ≤ x.2.1 := fun y hy => by simpa using tw_all y hy
  have hD : ∀ y ∈ l.dropWhile (fun e => decide (e.2.1 ≤ x.2.1)), x.2.1 ≤ y.2.1 := by
    have hpd := hsp.2.1
    cases hd : l.dropWhile (fun e => decide (e.2.1 ≤ x.2.1)) with
    | nil => intro y hy; cases hy
    | cons a r =>
      rw [hd] at hpd
      have ha : ¬ a.2.1 ≤ x.2.1 := by
        have := List.head?_dropWhile_not (fun e : EN => decide (e.2.1 ≤ x.2.1)) l
        rw [hd] at this
        simpa using this
      intro y hy
      rcases List.mem_cons.1 hy with rfl | hy
      · omega
      · have := (List.pairwise_cons.1 hpd).1 y hy; omega
  refine ⟨hsp.1, ⟨hD, hsp.2.1⟩, fun a ha b hb => ?_⟩
  rcases List.mem_cons.1 hb with rfl | hb
  · exact hT a ha
  · exact hsp.2.2 a ha b hb
theorem srt_asc (r : List EN) : ascE (srt r) := foldl_inv (I := ascE) r [] List.Pairwise.nil fun x _ s h => insB_asc h
theorem srt_len (r : List EN) : (srt r).length = r.length := by
  unfold srt
  suffices ∀ (r l : List EN), (r.foldl (fun l x => insB x l) l).length = l.length + r.length by simpa using this r []
  intro r
  induction r with
  | nil => intro l; rfl
  | cons x r ih =>
    intro l
    rw [List.foldl_cons, ih]
    have := congrArg List.length (List.takeWhile_append_dropWhile (p := fun e : EN => decide (e.2.1 ≤ x.2.1)) (l := l))
    simp only [List.length_append] at this
    simp only [insB, List.length_append, List.length_cons]; omega
theorem srt_snoc (r : List EN) (x : EN) : srt (r ++ [x]) = insB x (srt r) := by simp [srt]
theorem p_cmpH (a b : EN) : impl_HistoryOf_1_S (a, b, ()) = some (cm1 a.2.1 b.2.1, ()) := by
  unfold impl_HistoryOf_1_S
  simp only [p_cmp, Option.bind_some]; rfl
theorem swap_at {α : Type} (P Q : List α) (p x : α) : ((P ++ p :: x :: Q).set (P.length + 1) p).set P.length x = P ++ x :: p :: Q := by
  rw [List.set_append_right _ _ (by omega), show P.length + 1 - P.length = 1 by omega]
  simp
theorem ins_down (n : Int) (i : Int) (x : EN) : ∀ (k : Nat) (P Q : List EN), P.length = k → ascE P → (P ++ x :: Q).length ≤ 1000000 →
    ∃ r, iter (fun v_1 => slices_insertionSortCmpFunc_impl_Entry_l_D4 (0, n, i, ()) v_1 _ some) ((P.length : Int), P ++ x :: Q, ()) = some r ∧ (r = .inl (insB x P ++ Q, ()) ∨ r = .inr (insB x P ++ Q, ())) := by
  intro k
  induction k with
  | zero =>
    intro P Q hk _ _
    have : P = [] := List.eq_nil_of_length_eq_zero hk
    subst this
    refine ⟨.inr (x :: Q, ()), ?_, .inr rfl⟩
    rw [iter_eq]
    unfold slices_insertionSortCmpFunc_impl_Entry_l_D4
    rfl
  | succ k ih =>
    intro P Q hk hP hlen
    obtain ⟨P0, p, rfl⟩ : ∃ P0 p, P = P0 ++ [p] := by
      rcases List.eq_nil_or_concat P with rfl | ⟨P0, p, rfl⟩
      · simp at hk
      · exact ⟨P0, p, by simp⟩
    have hk0 : P0.length = k := by simpa using hk
    have hrow : P0 ++ [p] ++ x :: Q = P0 ++ p :: x :: Q := by simp
    simp only [List.length_append, List.length_cons, List.length_nil] at hlen
    have hl : (P0 ++ p :: x :: Q).length = P0.length + 2 + Q.length := by simp; omega
    have g1 : (P0 ++ p :: x :: Q)[P0.length + 1]? = some x := by rw [List.getElem?_append_right (by omega), show P0.length + 1 - P0.length = 1 by omega]; rfl
    have g0 : (P0 ++ p :: x :: Q)[P0.length]? = some p := by rw [List.getElem?_append_right (by omega), Nat.sub_self]; rfl
    have hcm := cm1_lt x.2.1 p.2.1
    have hpl : (P0 ++ [p]).length = P0.length + 1 := by simp
    rw [hrow, hpl, iter_eq]
    by_cases hc : x.2.1 < p.2.1
    · have step : slices_insertionSortCmpFunc_impl_Entry_l_D4 (0, n, i, ()) (((P0.length + 1 : Nat) : Int), P0 ++ p :: x :: Q, ()) ((Int × List EN × Unit) ⊕ ((List EN × Unit) ⊕ (List EN × Unit))) some = some (.inl ((P0.length : Int), P0 ++ x :: p :: Q, ())) := by
        unfold slices_insertionSortCmpFunc_impl_Entry_l_D4
        simp only
        rw [decide_eq_true (by omega), show IntKind.i64.wrap (((P0.length + 1 : Nat) : Int) - 1) = (P0.length : Int) from by rw [wrap_id (by omega) (by omega)]; omega]
        simp only [cond_true]
        rw [if_pos (by omega), show 0 + (((P0.length + 1 : Nat) : Int)).toNat = P0.length + 1 by omega, show 0 + ((P0.length : Int)).toNat = P0.length by omega, g1, g0]
        simp only [Option.bind_some]
        rw [if_pos (by omega)]
        have e := p_cmpH x p
        erw [e]
        simp only [Option.bind_some]
        rw [decide_eq_true (hcm.2 hc)]
        simp only [cond_true]
        have c1 : (0 : Int) ≤ (P0.length : Int) ∧ (P0.length : Int) < (((P0 ++ p :: x :: Q).length : Nat) : Int) := by omega
        have c2 : (0 : Int) ≤ ((P0.length + 1 : Nat) : Int) ∧ ((P0.length + 1 : Nat) : Int) < (((P0 ++ p :: x :: Q).length : Nat) : Int) := by omega
        simp only [if_pos c1, if_pos c2, Option.bind_some, List.length_set]
        have g2 : ((P0 ++ p :: x :: Q).set (P0.length + 1) (p.1, p.2.1, p.2.2.1, p.2.2.2.1, ()))[P0.length]? = some p := by rw [List.getElem?_set_ne (by omega)]; exact g0
        rw [g2]
        simp only [Option.bind_some]
        have hsw := swap_at P0 Q p x
        have hsw' : ((P0 ++ p :: x :: Q).set (P0.length + 1) (p.1, p.2.1, p.2.2.1, p.2.2.2.1, ())).set P0.length (x.1, x.2.1, x.2.2.1, x.2.2.2.1, ()) = P0 ++ x :: p :: Q := hsw
        rw [hsw']
      rw [step]
      obtain ⟨h3, h4⟩ := tw_snoc (q := fun e : EN => decide (e.2.1 ≤ x.2.1)) (p := p) (by simpa using hc) P0
      have hins : insB x (P0 ++ [p]) ++ Q = insB x P0 ++ p :: Q := by unfold insB; rw [h3, h4]; simp
      rw [hins]
      exact ih P0 (p :: Q) hk0 (List.pairwise_append.1 hP).1 (by simp; omega)
    · have step : slices_insertionSortCmpFunc_impl_Entry_l_D4 (0, n, i, ()) (((P0.length + 1 : Nat) : Int), P0 ++ p :: x :: Q, ()) ((Int × List EN × Unit) ⊕ ((List EN × Unit) ⊕ (List EN × Unit))) some = some (.inr (.inl (P0 ++ p :: x :: Q, ()))) := by
        unfold slices_insertionSortCmpFunc_impl_Entry_l_D4
        simp only
        rw [decide_eq_true (by omega), show IntKind.i64.wrap (((P0.length + 1 : Nat) : Int) - 1) = (P0.length : Int) from by rw [wrap_id (by omega) (by omega)]; omega]
        simp only [cond_true]
        rw [if_pos (by omega), show 0 + (((P0.length + 1 : Nat) : Int)).toNat = P0.length + 1 by omega, show 0 + ((P0.length : Int)).toNat = P0.length by omega, g1, g0]
        simp only [Option.bind_some]
        rw [if_pos (by omega)]
        have e := p_cmpH x p
        erw [e]
        simp only [Option.bind_some]
        rw [decide_eq_false (fun h => hc (hcm.1 h))]; rfl
      rw [step]
      refine ⟨.inl (P0 ++ p :: x :: Q, ()), rfl, .inl ?_⟩
      have hall : ∀ y ∈ P0 ++ [p], (fun e : EN => decide (e.2.1 ≤ x.2.1)) y = true := by
        intro y hy
        rw [decide_eq_true_iff]
        rcases List.mem_append.1 hy with hy | hy
        · have := (List.pairwise_append.1 hP).2.2 y hy p (List.mem_singleton.2 rfl); omega
        · rw [List.mem_singleton.1 hy]; omega
      obtain ⟨h3, h4⟩ := tw_of_all hall
      unfold insB
      rw [h3, h4]; simp
theorem p_insertion {r : List EN} (hr : r.length ≤ 100000) : slices_insertionSortCmpFunc_impl_Entry_l_S (0, (r.length : Int), r, ()) = some (srt r, ()) := by
  unfold slices_insertionSortCmpFunc_impl_Entry_l_S
  match r, hr with
  | [], _ =>
    simp only
    rw [iter_eq]
    unfold slices_insertionSortCmpFunc_impl_Entry_l_D1
    rfl
  | a :: r', hr =>
  generalize hrr : a :: r' = r at *
  have hpos : 1 ≤ r.length := by rw [← hrr]; simp
  have key : ∀ m i : Nat, i + m = r.length → 1 ≤ i → iter (fun v => slices_insertionSortCmpFunc_impl_Entry_l_D1 (0, (r.length : Int), ()) v _ some) ((i : Int), srt (r.take i) ++ r.drop i, ()) = some (srt r, ()) := by
    intro m
    induction m with
    | zero =>
      intro i hi _
      obtain rfl : i = r.length := by omega
      rw [iter_eq]
      unfold slices_insertionSortCmpFunc_impl_Entry_l_D1
      simp only
      rw [decide_eq_false (by omega), List.take_length, List.drop_length, List.append_nil]; rfl
    | succ m ih =>
      intro i hi h1
      have h : i < r.length := by omega
      have hlen : (srt (r.take i)).length = i := by rw [srt_len]; simp; omega
      have hd := List.drop_eq_getElem_cons h
      obtain ⟨q, e1, e2⟩ := ins_down (r.length : Int) (i : Int) r[i] i (srt (r.take i)) (r.drop (i + 1)) hlen (srt_asc _) (by simp [hlen]; omega)
      rw [hlen, ← hd] at e1
      have hs : srt (r.take (i + 1)) = insB r[i] (srt (r.take i)) := by
        rw [List.take_add_one, List.getElem?_eq_getElem h]; exact srt_snoc _ _
      have ih := ih (i + 1) (by omega) (by omega)
      rw [hs] at ih
      have step : slices_insertionSortCmpFunc_impl_Entry_l_D1 (0, (r.length : Int), ()) ((i : Int), srt (r.take i) ++ r.drop i, ()) ((Int × List EN × Unit) ⊕ (List EN × Unit)) some = some (.inl (((i + 1 : Nat) : Int), insB r[i] (srt (r.take i)) ++ r.drop (i + 1), ())) := by
        unfold slices_insertionSortCmpFunc_impl_Entry_l_D1
        simp only
        rw [decide_eq_true (by omega), wrap_succ h (by omega)]
        simp only [cond_true]
        rw [e1]
        rcases e2 with rfl | rfl <;> rfl
      rw [iter_eq, step]
      exact ih
  have := key (r.length - 1) 1 (by omega) (Nat.le_refl _)
  have h1 : srt (r.take 1) ++ r.drop 1 = r := by rw [← hrr]; simp [srt, insB]
  rw [h1] at this
  have e0 : IntKind.i64.wrap ((0 : Int) + 1) = ((1 : Nat) : Int) := by rw [wrap_id (by omega) (by omega)]; rfl
  simp only [e0, this, Option.bind_some]
theorem p_stable {r : List EN} (hr : r.length ≤ 19) : slices_SortStableFunc_impl_Entry_l_S (r, ()) = some (srt r, ()) := by
  unfold slices_SortStableFunc_impl_Entry_l_S slices_stableCmpFunc_impl_Entry_l_S
  have e1 : iter (fun v => slices_stableCmpFunc_impl_Entry_l_D2 ((r.length : Int), 20, ()) v _ some) (0, 20, r, ()) = some (0, r, ()) := by
    rw [iter_eq]
    unfold slices_stableCmpFunc_impl_Entry_l_D2
    simp only
    rw [decide_eq_false (by omega)]; rfl
  have e2 : iter (fun v_1 => slices_stableCmpFunc_impl_Entry_l_D7 ((r.length : Int), srt r, ()) v_1 _ some) (20, ()) = some () := by
    rw [iter_eq]
    unfold slices_stableCmpFunc_impl_Entry_l_D7
    simp only
    rw [decide_eq_false (by omega)]; rfl
  simp only [e1, Option.bind_some, p_insertion (show r.length ≤ 100000 by omega), e2]
def enC (t : TX) : EN := (t.1, t.2.2.2.2.2.2.1, t.2.2.2.2.2.2.2.1, t.2.2.2.2.2.2.2.2.1, ())
def com (t : TX) : Bool := t.2.2.1 == 2
def raw : List TX → List EN
  | [] => []
  | t :: l => bif com t then enC t :: raw l else raw l
def bkt (r : List EN) : Nat → List EN
  | 0 => []
  | n + 1 => bkt r n ++ r.filter fun e => e.2.1 == ((n + 1 : Nat) : Int)
theorem raw_len : ∀ l : List TX, (raw l).length ≤ l.length
  | [] => Nat.le_refl _
  | t :: l => by
    have := raw_len l
    rw [raw]
    cases com t with
    | true => simp; omega
    | false => simp; omega
theorem raw_mem : ∀ (l : List TX) (e : EN), e ∈ raw l → ∃ t ∈ l, com t = true ∧ e = enC t
  | [], e, h => by cases h
  | t :: l, e, h => by
    rw [raw] at h
    cases hc : com t with
    | true =>
      rw [hc] at h
      rcases List.mem_cons.1 h with rfl | h
      · exact ⟨t, List.mem_cons_self .., hc, rfl⟩
      · obtain ⟨u, h1, h2⟩ := raw_mem l e h
        exact ⟨u, List.mem_cons_of_mem _ h1, h2⟩
    | false =>
      rw [hc] at h
      obtain ⟨u, h1, h2⟩ := raw_mem l e h
      exact ⟨u, List.mem_cons_of_mem _ h1, h2⟩
theorem tw_app {α : Type} {q : α → Bool} {F : List α} (hF : ∀ x ∈ F, q x = false) : ∀ A : List α, (A ++ F).takeWhile q = A.takeWhile q ∧ (A ++ F).dropWhile q = A.dropWhile q ++ F
  | [] => by
    cases F with
    | nil => simp
    | cons a F => simp [hF a (List.mem_cons_self ..)]
  | a :: l => by
    obtain ⟨h1, h2⟩ := tw_app hF l
    cases h : q a with
    | true => simp [h, h1, h2]
    | false => simp [h]
theorem bkt_mem (r : List EN) : ∀ n, ∀ e ∈ bkt r n, e ∈ r ∧ e.2.1 ≤ n
  | 0, e, h => by cases h
  | n + 1, e, h => by
    rw [bkt] at h
    rcases List.mem_append.1 h with h | h
    · obtain ⟨h1, h2⟩ := bkt_mem r n e h
      exact ⟨h1, by omega⟩
    · obtain ⟨h1, h2⟩ := List.mem_filter.1 h
      have : e.2.1 = ((n + 1 : Nat) : Int) := by simpa using h2
      exact ⟨h1, by omega⟩
theorem bkt_len (r : List EN) : ∀ n, (bkt r n).length ≤ n * r.length
  | 0 => by simp [bkt]
  | n + 1 => by
    have h1 := bkt_len r n
    have h2 := List.length_filter_le (fun e : EN => e.2.1 == ((n + 1 : Nat) : Int)) r
    rw [bkt, List.length_append, Nat.add_mul, Nat.one_mul]; omega
theorem bkt_skip (r : List EN) (x : EN) : ∀ n : Nat, (n : Int) < x.2.1 → bkt (r ++ [x]) n = bkt r n
  | 0, _ => rfl
  | n + 1, h => by
    rw [bkt, bkt, bkt_skip r x n (by omega), List.filter_append]
    have : ([x].filter fun e : EN => e.2.1 == ((n + 1 : Nat) : Int)) = [] := by
      rw [List.filter_cons, show (x.2.1 == ((n + 1 : Nat) : Int)) = false from by rw [eq_int]; exact decide_eq_false (by omega)]; rfl
    rw [this, List.append_nil]
theorem bkt_snoc (r : List EN) (x : EN) (h1 : 1 ≤ x.2.1) : ∀ n : Nat, x.2.1 ≤ n → bkt (r ++ [x]) n = insB x (bkt r n)
  | 0, h => by omega
  | n + 1, h => by
    rw [bkt, bkt, List.filter_append]
    by_cases hx : x.2.1 = ((n + 1 : Nat) : Int)
    · rw [bkt_skip r x n (by omega)]
      have hall : ∀ e ∈ bkt r n ++ r.filter (fun e => e.2.1 == ((n + 1 : Nat) : Int)), (fun e : EN => decide (e.2.1 ≤ x.2.1)) e = true := by
        intro e he
        rw [decide_eq_true_iff]
        rcases List.mem_append.1 he with he | he
        · have := (bkt_mem r n e he).2; omega
        · have : e.2.1 = ((n + 1 : Nat) : Int) := by simpa using (List.mem_filter.1 he).2
          omega
      obtain ⟨h3, h4⟩ := tw_of_all hall
      unfold insB
      rw [h3, h4]
      simp [hx]
    · rw [bkt_snoc r x h1 n (by omega)]
      have hF : ∀ e ∈ r.filter (fun e => e.2.1 == ((n + 1 : Nat) : Int)), (fun e : EN => decide (e.2.1 ≤ x.2.1)) e = false := by
        intro e he
        have : e.2.1 = ((n + 1 : Nat) : Int) := by simpa using (List.mem_filter.1 he).2
        exact decide_eq_false (by omega)
      obtain ⟨h3, h4⟩ := tw_app hF (bkt r n)
      unfold insB
      rw [h3, h4]
      have : ([x].filter fun e : EN => e.2.1 == ((n + 1 : Nat) : Int)) = [] := by
        rw [List.filter_cons, show (x.2.1 == ((n + 1 : Nat) : Int)) = false from by rw [eq_int]; exact decide_eq_false hx]; rfl
      rw [this, List.append_nil]; simp
theorem srt_bkt {n : Nat} : ∀ (k : Nat) (r : List EN), r.length = k → (∀ e ∈ r, 1 ≤ e.2.1 ∧ e.2.1 ≤ n) → srt r = bkt r n := by
  intro k
  induction k with
  | zero =>
    intro r hr _
    have : r = [] := List.eq_nil_of_length_eq_zero hr
    subst this
    have : ∀ n, bkt [] n = [] := by
      intro n
      induction n with
      | zero => rfl
      | succ n ih => rw [bkt, ih]; rfl
    rw [this]; rfl
  | succ k ih =>
    intro r hr h
    rcases List.eq_nil_or_concat r with rfl | ⟨r, x, rfl⟩
    · simp at hr
    · rw [List.concat_eq_append] at hr h ⊢
      obtain ⟨a, b⟩ := h x (by simp)
      rw [srt_snoc, bkt_snoc r x a n b, ih r (by simpa using hr) fun e he => h e (by simp [he])]
section
variable {s : List (List VV)} {l : List TX} {lk wt : List VM} {stamp : Int}
noncomputable def hist (s : List (List VV)) (l : List TX) (lk wt : List VM) (stamp : Int) : List EN := bif okE s l lk wt stamp then srt (raw l) else []
theorem com_range (hE : okE s l lk wt stamp = true) : ∀ t ∈ l, com t = true → 1 ≤ t.2.2.2.2.2.2.1 ∧ t.2.2.2.2.2.2.1 ≤ stamp := by
  intro t ht hc
  obtain ⟨_, h2, _, _, _⟩ := okE_parts hE
  obtain ⟨i, hi, rfl⟩ := List.mem_iff_getElem.1 ht
  obtain ⟨_, h3, _, _, h4, _⟩ := h2 i hi
  refine ⟨?_, h4⟩
  unfold okTx okT at h3
  simp only [Bool.and_eq_true] at h3
  have h5 := h3.1.1.2
  unfold com at hc
  rw [hc] at h5
  have : decide (l[i].2.2.2.2.2.2.1 > 0) = true := by simpa using h5
  have := of_decide_eq_true this
  omega
theorem p_implHist (h : SmallE s l lk wt) (ce : Bool) : impl_HistoryOf_S ((ce, (s, ()), l, lk, wt, stamp, ()), ()) = some (hist s l lk wt stamp, ()) := by
  unfold impl_HistoryOf_S hist
  simp only [p_implE h, Option.bind_some]
  cases hE : okE s l lk wt stamp with
  | false => rfl
  | true =>
    obtain ⟨_, _, _, _, h6⟩ := okE_parts hE
    simp only [Bool.not_true, cond_false, cond_true]
    have e := iter_fold (l := l) (B := fun v => impl_HistoryOf_D5 (l, ((l.length : Nat) : Int), ()) v _ some) (fun (r : List EN) (i : Nat) => ((i : Int), r, ())) (fun r t => bif com t then r ++ [enC t] else r) (fun i r => r.length ≤ i) (s0 := []) (Nat.le_refl _) (fun i hi r hr => ⟨by
      unfold impl_HistoryOf_D5 com
      simp only [lAt_nat hi, Option.bind_some, p_txCopied _ (h.ft _ (List.getElem_mem hi))]
      rw [decide_eq_true (by omega), wrap_succ hi (by omega)]
      simp only [cond_true]
      cases (l[i].2.2.1 == 2 : Bool) with
      | false => rfl
      | true =>
        simp only [cond_true]
        rw [if_pos (by simp; omega)]; rfl, by
      cases com l[i] with
      | true => simp; omega
      | false => simp; omega⟩) (r := fun r => (r, ())) (fun r _ => by
      unfold impl_HistoryOf_D5
      simp only
      rw [decide_eq_false (by omega)]; rfl) (t0 := (0, [], ())) rfl
    have hraw : ∀ (l : List TX) (r : List EN), l.foldl (fun r t => bif com t then r ++ [enC t] else r) r = r ++ raw l := by
      intro l
      induction l with
      | nil => intro r; simp [raw]
      | cons t l ih =>
        intro r
        rw [List.foldl_cons, ih, raw]
        cases com t <;> simp
    rw [hraw, List.nil_append] at e
    rw [e]
    have := raw_len l
    simp only [Option.bind_some, p_stable (show (raw l).length ≤ 19 by omega)]
theorem p_specHist (h : SmallE s l lk wt) (ce : Bool) : spec_HistoryOf_S ((ce, (s, ()), l, lk, wt, stamp, ()), ()) = some (hist s l lk wt stamp, ()) := by
  unfold spec_HistoryOf_S hist
  simp only [p_specE h, Option.bind_some]
  cases hE : okE s l lk wt stamp with
  | false => rfl
  | true =>
    obtain ⟨_, _, h0, h9, h6⟩ := okE_parts hE
    simp only [Bool.not_true, cond_false, cond_true]
    obtain ⟨n, rfl⟩ : ∃ n : Nat, stamp = (n : Int) := ⟨stamp.toNat, by omega⟩
    have hrl := raw_len l
    have e := iter_up' (B := fun v => spec_HistoryOf_D5 (ce, s, l, lk, wt, (n : Int), ()) v _ some) (s0 := (1, [], ())) (r := (bkt (raw l) n, ())) n (fun i => (((i + 1 : Nat) : Int), bkt (raw l) i, ())) rfl (fun i hi => by
      have hb := bkt_len (raw l) i
      have hb2 : i * (raw l).length ≤ 999 * 6 := Nat.mul_le_mul (by omega) (by omega)
      have ei := iter_fold (l := l) (B := fun v_1 => spec_HistoryOf_D8 (((i + 1 : Nat) : Int), ce, s, l, lk, wt, (n : Int), ()) v_1 _ some) (fun (r : List EN) (i : Nat) => ((i : Int), r, ())) (fun r t => bif com t && t.2.2.2.2.2.2.1 == ((i + 1 : Nat) : Int) then r ++ [enC t] else r) (fun j r => r.length ≤ (bkt (raw l) i).length + j) (s0 := bkt (raw l) i) (Nat.le_refl _) (fun j hj r hr => ⟨by
        have hs := h.ft _ (List.getElem_mem hj)
        have hs1 := hs.1
        have hs2 := hs.2
        unfold spec_HistoryOf_D8 com spec_l18Copy_S
        simp only [lAt_nat hj, Option.bind_some]
        rw [decide_eq_true (by omega), wrap_succ hj (by omega)]
        simp only [cond_true]
        cases (l[j].2.2.1 == 2 : Bool) with
        | false => rfl
        | true =>
          simp only [cond_true, Bool.true_and]
          cases hc : (l[j].2.2.2.2.2.2.1 == ((i + 1 : Nat) : Int)) with
          | false => rfl
          | true =>
            have hc' : l[j].2.2.2.2.2.2.1 = ((i + 1 : Nat) : Int) := by simpa using hc
            simp only [cond_true]
            rw [if_pos (by omega), if_pos (by omega)]
            simp only [Option.bind_some]
            rw [if_pos (by simp; omega)]
            unfold enC
            rw [hc'], by
        cases (com l[j] && l[j].2.2.2.2.2.2.1 == ((i + 1 : Nat) : Int)) with
        | true => simp; omega
        | false => simp; omega⟩) (r := fun r => (r, ())) (fun r _ => by
        unfold spec_HistoryOf_D8
        simp only
        rw [decide_eq_false (by omega)]; rfl) (t0 := (0, bkt (raw l) i, ())) rfl
      have hfl : ∀ (l : List TX) (r : List EN), l.foldl (fun r t => bif com t && t.2.2.2.2.2.2.1 == ((i + 1 : Nat) : Int) then r ++ [enC t] else r) r = r ++ (raw l).filter fun e => e.2.1 == ((i + 1 : Nat) : Int) := by
        intro l
        induction l with
        | nil => intro r; simp [raw]
        | cons t l ih =>
          intro r
          rw [List.foldl_cons, ih, raw]
          cases com t with
          | false => simp
          | true =>
            have hf : (enC t :: raw l).filter (fun e => e.2.1 == ((i + 1 : Nat) : Int)) = bif t.2.2.2.2.2.2.1 == ((i + 1 : Nat) : Int) then enC t :: (raw l).filter (fun e => e.2.1 == ((i + 1 : Nat) : Int)) else (raw l).filter (fun e => e.2.1 == ((i + 1 : Nat) : Int)) := by
              rw [List.filter_cons]
              show (if (t.2.2.2.2.2.2.1 == ((i + 1 : Nat) : Int)) = true then _ else _) = _
              cases (t.2.2.2.2.2.2.1 == ((i + 1 : Nat) : Int)) <;> rfl
            simp only [Bool.true_and, cond_true]
            rw [hf]
            cases (t.2.2.2.2.2.2.1 == ((i + 1 : Nat) : Int)) with
            | true => simp only [cond_true]; rw [List.append_assoc]; rfl
            | false => rfl
      rw [hfl] at ei
      unfold spec_HistoryOf_D5
      simp only
      rw [decide_eq_true (by omega), wrap_succ (i := i + 1) (n := i + 2) (by omega) (by omega)]
      simp only [cond_true]
      rw [ei]; rfl) (by
      unfold spec_HistoryOf_D5
      simp only
      rw [decide_eq_false (by omega)]; rfl)
    rw [e]
    have hr : ∀ e ∈ raw l, 1 ≤ e.2.1 ∧ e.2.1 ≤ ((n : Nat) : Int) := by
      intro e he
      obtain ⟨t, ht, hc, rfl⟩ := raw_mem l e he
      exact com_range hE t ht hc
    rw [srt_bkt _ (raw l) rfl hr]; rfl
theorem insB_mem {x e : EN} {r : List EN} (h : e ∈ insB x r) : e = x ∨ e ∈ r := by
  unfold insB at h
  rcases List.mem_append.1 h with h | h
  · exact .inr ((List.takeWhile_sublist _).mem h)
  · rcases List.mem_cons.1 h with h | h
    · exact .inl h
    · exact .inr ((List.dropWhile_sublist _).mem h)
theorem srt_mem (r : List EN) : ∀ e ∈ srt r, e ∈ r := by
  refine foldl_inv (I := fun s : List EN => ∀ e ∈ s, e ∈ r) r [] (fun e he => by cases he) fun x hx s hs e he => ?_
  rcases insB_mem he with rfl | he
  · exact hx
  · exact hs e he
theorem hist_sm (h : SmallE s l lk wt) : smEs (hist s l lk wt stamp) := by
  unfold hist
  cases hE : okE s l lk wt stamp with
  | false => exact ⟨by simp, fun e he => by cases he⟩
  | true =>
    obtain ⟨_, _, _, _, h6⟩ := okE_parts hE
    have := raw_len l
    refine ⟨by simp only [cond_true, srt_len]; omega, fun e he => ?_⟩
    obtain ⟨t, ht, _, rfl⟩ := raw_mem l e (srt_mem _ e he)
    exact h.ft t ht
end
def del (l : List EN) (e : EDg) : Bool := decide ((entOf l e.2.1).2.1 ≥ (entOf l e.1).2.1)
def kept (l : List EN) (g : List EDg) : List EDg := g.filter fun e => !del l e
theorem p_del {l : List EN} (hl : smEs l) {e : EDg} (h1 : isE l e.1) (h2 : isE l e.2.1) : impl_BackEdges_1_S ((e.1, e.2.1, e.2.2.1, e.2.2.2.1, ()), some l, ()) = some (del l e, ()) := by
  unfold impl_BackEdges_1_S del
  simp only [Option.bind_some, p_implFE hl.1, (entOf_lAt h1).1, (entOf_lAt h2).1]
theorem del5 {l : List EN} (hl : smEs l) {g : List EDg} (hg : g.length ≤ 10000000) (hE : ∀ e ∈ g, isE l e.1 ∧ isE l e.2.1) : ∀ m j : Nat, j + m = g.length → ((g.take j).filter fun e => !del l e).length ≤ j →
    iter (fun v => slices_DeleteFunc_impl_Edge_l_D5 (l, ()) v _ some) ((((g.take j).filter fun e => !del l e).length : Int), (j : Int), ((g.take j).filter fun e => !del l e) ++ g.drop ((g.take j).filter fun e => !del l e).length, ()) = some (((kept l g).length : Int), kept l g ++ g.drop (kept l g).length, ()) := by
  intro m
  induction m with
  | zero =>
    intro j hj _
    obtain rfl : j = g.length := by omega
    rw [List.take_length, iter_eq]
    unfold slices_DeleteFunc_impl_Edge_l_D5
    simp only
    have : (kept l g).length ≤ g.length := List.length_filter_le _ _
    rw [decide_eq_false (by
      show ¬ ((g.length : Int) < (((kept l g ++ g.drop (kept l g).length).length : Nat) : Int))
      simp; omega)]; rfl
  | succ m ih =>
    intro j hj hle
    have h : j < g.length := by omega
    have ih := ih (j + 1) (by omega)
    have htk : (g.take (j + 1)).filter (fun e => !del l e) = ((g.take j).filter fun e => !del l e) ++ (bif del l g[j] then [] else [g[j]]) := by
      rw [List.take_add_one, List.getElem?_eq_getElem h, List.filter_append]
      congr 1
      simp only [Option.toList_some, List.filter_cons, List.filter_nil]
      cases del l g[j] <;> rfl
    rw [htk] at ih
    generalize (g.take j).filter (fun e => !del l e) = F at hle ih ⊢
    have hrow : ∀ q, F.length ≤ q → q < g.length → (F ++ g.drop F.length)[q]? = g[q]? := by
      intro q hq hql
      rw [List.getElem?_append_right hq, List.getElem?_drop]
      congr 1; omega
    have hlen : (F ++ g.drop F.length).length = g.length := by simp; omega
    obtain ⟨hE1, hE2⟩ := hE _ (List.getElem_mem h)
    have e1 := p_del hl hE1 hE2
    cases hd : del l g[j] with
    | true =>
      have step : slices_DeleteFunc_impl_Edge_l_D5 (l, ()) ((F.length : Int), (j : Int), F ++ g.drop F.length, ()) ((Int × Int × List EDg × Unit) ⊕ (Int × List EDg × Unit)) some = some (.inl ((F.length : Int), ((j + 1 : Nat) : Int), F ++ g.drop F.length, ())) := by
        unfold slices_DeleteFunc_impl_Edge_l_D5
        simp only
        rw [hlen, decide_eq_true (by omega), wrap_succ h (by omega)]
        simp only [cond_true]
        rw [if_pos (by omega), show 0 + ((j : Int)).toNat = j by omega, hrow j hle h, List.getElem?_eq_getElem h]
        simp only [Option.bind_some]
        rw [e1, hd]; rfl
      rw [iter_eq, step]
      rw [hd] at ih
      simp only [cond_true, List.append_nil] at ih
      exact ih (by omega)
    | false =>
      have hset : (F ++ g.drop F.length).set F.length (g[j].1, g[j].2.1, g[j].2.2.1, g[j].2.2.2.1, ()) = (F ++ [g[j]]) ++ g.drop (F.length + 1) := by
        rw [List.set_append_right _ _ (Nat.le_refl _), Nat.sub_self, List.drop_eq_getElem_cons (show F.length < g.length by omega), List.set_cons_zero]
        simp
      have step : slices_DeleteFunc_impl_Edge_l_D5 (l, ()) ((F.length : Int), (j : Int), F ++ g.drop F.length, ()) ((Int × Int × List EDg × Unit) ⊕ (Int × List EDg × Unit)) some = some (.inl (((F.length + 1 : Nat) : Int), ((j + 1 : Nat) : Int), (F ++ [g[j]]) ++ g.drop (F.length + 1), ())) := by
        unfold slices_DeleteFunc_impl_Edge_l_D5
        simp only
        rw [hlen, decide_eq_true (by omega), wrap_succ h (by omega), wrap_succ (i := F.length) (n := F.length + 1) (by omega) (by omega)]
        simp only [cond_true]
        rw [if_pos (by omega), show 0 + ((j : Int)).toNat = j by omega, hrow j hle h, List.getElem?_eq_getElem h]
        simp only [Option.bind_some]
        rw [e1, hd]
        simp only [Option.bind_some, Bool.not_false, cond_true]
        rw [if_pos (by omega), show 0 + ((F.length : Int)).toNat = F.length by omega, hrow _ (Nat.le_refl _) (by omega), List.getElem?_eq_getElem (show F.length < g.length by omega)]
        simp only [Option.bind_some]
        rw [hset]
      rw [iter_eq, step]
      rw [hd] at ih
      simp only [cond_false, List.length_append, List.length_singleton] at ih
      exact ih (by omega)
theorem p_delF {l : List EN} (hl : smEs l) {g : List EDg} (hg : g.length ≤ 10000000) (hE : ∀ e ∈ g, isE l e.1 ∧ isE l e.2.1) : slices_DeleteFunc_impl_Edge_l_S (g, l, ()) = some (l, kept l g, ()) := by
  unfold slices_DeleteFunc_impl_Edge_l_S
  have ei : slices_IndexFunc__impl_BackEdges_1_S (g, (some l, ()), ()) = some (fx (g.findIdx? (del l)), ()) := by
    unfold slices_IndexFunc__impl_BackEdges_1_S
    have e := iter_first (l := g) (B := fun v => slices_IndexFunc__impl_BackEdges_1_D2 (g, (some l, ()), ((g.length : Nat) : Int), ()) v _ some) (fun j => ((j : Int), ())) (del l) (fd := fun j => Sum.inl ((j : Int), ())) (no := Sum.inr ()) (fun j hj => by
      obtain ⟨hE1, hE2⟩ := hE _ (List.getElem_mem hj)
      unfold slices_IndexFunc__impl_BackEdges_1_D2
      simp only [lAt_nat hj, Option.bind_some, p_del hl hE1 hE2]
      rw [decide_eq_true (by omega), wrap_succ hj (by omega)]
      simp only [cond_true]
      cases del l g[j] <;> rfl) (by
      unfold slices_IndexFunc__impl_BackEdges_1_D2
      simp only
      rw [decide_eq_false (by omega)]; rfl) (t0 := (0, ())) rfl
    simp only
    rw [e]
    cases g.findIdx? (del l) <;> rfl
  simp only [ei, Option.bind_some]
  cases hx : g.findIdx? (del l) with
  | none =>
    have : kept l g = g := by
      unfold kept
      rw [List.filter_eq_self]
      intro e he
      rw [findIdx_none hx e he]; rfl
    rw [this]; rfl
  | some i =>
    obtain ⟨hi, h1, h2⟩ := findIdx_get hx
    have hti : (g.take (i + 1)).filter (fun e => !del l e) = g.take i := by
      rw [List.take_add_one, List.getElem?_eq_getElem hi, List.filter_append]
      have : (g.take i).filter (fun e => !del l e) = g.take i := by
        rw [List.filter_eq_self]
        intro e he
        obtain ⟨j, hj, rfl⟩ := List.mem_iff_getElem.1 he
        have hj' : j < i := by simp at hj; omega
        rw [List.getElem_take, h2 j hj']; rfl
      rw [this]
      simp [h1]
    have hlt : (g.take i).length = i := by simp; omega
    have e5 := del5 hl hg hE (g.length - (i + 1)) (i + 1) (by omega) (by rw [hti, hlt]; omega)
    rw [hti, hlt, List.take_append_drop] at e5
    rw [show (fx (some i) == -1) = false from by rw [eq_int]; exact decide_eq_false (by simp only [fx]; omega)]
    simp only [cond_false, fx]
    rw [wrap_succ (i := i) (n := i + 1) (by omega) (by omega), e5]
    simp only [Option.bind_some]
    have hle : (kept l g).length ≤ g.length := List.length_filter_le _ _
    have hlen : (kept l g ++ g.drop (kept l g).length).length = g.length := by simp; omega
    rw [if_pos (by omega)]
    rw [if_pos (by
      refine ⟨Int.le_refl _, by omega, ?_⟩
      rw [hlen]
      simp only [List.length_append, List.length_take, List.length_replicate, List.length_drop]
      omega)]
    congr 3
    rw [show ((((kept l g).length : Nat) : Int)).toNat - (0 : Int).toNat = (kept l g).length by omega, show 0 + ((((kept l g).length : Nat) : Int)).toNat = (kept l g).length by omega]
    rw [List.append_assoc, List.take_append_of_le_length (by simp), List.take_take, Nat.min_self, List.take_left]
theorem p_implBE {l : List EN} (hl : smEs l) : impl_BackEdges_S (l, ()) = some (kept l (bgr l), ()) := by
  unfold impl_BackEdges_S
  simp only [p_implBG hl, Option.bind_some, p_delF hl (bgr_len hl) (fun e he => ⟨(bgr_ends l e he).1, (bgr_ends l e he).2.1⟩)]
theorem p_specBE {l : List EN} (hl : smEs l) : spec_BackEdges_S (l, ()) = some (kept l (bgr l), ()) := by
  unfold spec_BackEdges_S
  simp only [p_specBG hl, Option.bind_some]
  have hg := bgr_len hl
  have hE := bgr_ends l
  generalize bgr l = g at hg hE
  have e := iter_fold (l := g) (B := fun v_1 => spec_BackEdges_D4 (l, g, ()) v_1 _ some) (fun (r : List EDg) (i : Nat) => ((i : Int), r, ())) (fun r e => bif del l e then r else r ++ [e]) (fun i r => r.length ≤ i) (s0 := []) (Nat.le_refl _) (fun i hi r hr => ⟨by
    obtain ⟨hE1, hE2, _⟩ := hE _ (List.getElem_mem hi)
    unfold spec_BackEdges_D4 del
    simp only [lAt_nat hi, Option.bind_some, p_specFE hl.1, (entOf_lAt hE1).1, (entOf_lAt hE2).1]
    rw [decide_eq_true (by omega), wrap_succ hi (by omega)]
    simp only [cond_true]
    by_cases hc : (entOf l g[i].2.1).2.1 < (entOf l g[i].1).2.1
    · rw [decide_eq_true hc, decide_eq_false (by omega)]
      simp only [cond_true, cond_false]
      rw [if_pos (by simp; omega)]
    · rw [decide_eq_false hc, decide_eq_true (by omega)]; rfl, by
    cases del l g[i] with
    | true => simp; omega
    | false => simp; omega⟩) (r := fun r => (r, ())) (fun r _ => by
    unfold spec_BackEdges_D4
    simp only
    rw [decide_eq_false (by omega)]; rfl) (t0 := (0, [], ())) rfl
  have hf : ∀ (g r : List EDg), g.foldl (fun r e => bif del l e then r else r ++ [e]) r = r ++ kept l g := by
    intro g
    induction g with
    | nil => intro r; simp [kept]
    | cons a g ih =>
      intro r
      rw [List.foldl_cons, ih]
      unfold kept
      rw [List.filter_cons]
      cases del l a <;> simp
  rw [hf, List.nil_append] at e
  rw [e]; rfl
section
variable {s : List (List VV)} {l : List TX} {lk wt : List VM} {stamp : Int}
noncomputable def bkC (s : List (List VV)) (l : List TX) (lk wt : List VM) (stamp : Int) : Int := ((kept (hist s l lk wt stamp) (bgr (hist s l lk wt stamp))).length : Int)
theorem p_implBC (h : SmallE s l lk wt) (ce : Bool) : impl_BackEdgeCount_S ((ce, (s, ()), l, lk, wt, stamp, ()), ()) = some (bkC s l lk wt stamp, ()) := by
  unfold impl_BackEdgeCount_S bkC
  simp only [p_implHist h, Option.bind_some, p_implBE (hist_sm h)]
theorem p_specBC (h : SmallE s l lk wt) (ce : Bool) : spec_BackEdgeCount_S ((ce, (s, ()), l, lk, wt, stamp, ()), ()) = some (bkC s l lk wt stamp, ()) := by
  unfold spec_BackEdgeCount_S bkC
  simp only [p_specHist h, Option.bind_some, p_specBE (hist_sm h)]
end
def law_tsB : List Ty := [YEngine]
theorem law_BackEdgeCount (x : den (slotsT law_tsB).ty) (hx : wf (slotsT law_tsB).ty x) : laws_FnExactBackEdgeCount_S x = some (true, ()) := by
  obtain ⟨⟨ce, ⟨s, _⟩, t, lk, wt, stamp, _⟩, _⟩ := x
  have hs := hx.1.2.1.1
  have ht := hx.1.2.2.1
  have hk := hx.1.2.2.2.1.1
  have hw := hx.1.2.2.2.2.1.1
  unfold laws_FnExactBackEdgeCount_S
  refine law_sz (p_szEngine hs.1 (fun e he => (hs.2 e he).1) ht.1 (fun e he => ⟨(ht.2 e he).2.2.2.2.2.2.2.1.1, (ht.2 e he).2.2.2.2.2.2.2.2.1.1⟩) hk hw (by omega) (by omega)) fun n h0 h1 hA => ?_
  have hA : SmallE s t lk wt := hA
  simp only [p_toEngine hA, Option.bind_some, p_specBC hA, p_implBC hA, p_eqEngine hA]
  simp
end Go.Ab
