import Derived.Test.YtaefbkkplgaplaaGreatGenC3
set_option linter.unusedVariables false
set_option linter.unusedSimpArgs false
namespace Go.Ab

abbrev VM := Int × Int × Unit

abbrev VV := Int × Int × Int × Int × Int × Unit

def mk2 (k : Int) : VM := (k, k + 1, ())

def mk5 (k : Int) : VV := (k, k + 1, k + 2, k + 3, k + 4, ())

def mkL {α : Type} (f : Int → α) (c : Int) (k : Int) : Nat → List α
  | 0 => []
  | n + 1 => f k :: mkL f c (k + c) n

theorem mkL_length {α : Type} (f : Int → α) (c k : Int) (n : Nat) : (mkL f c k n).length = n := by
  induction n generalizing k with
  | zero => rfl
  | succ n ih => simp [mkL, ih]

theorem mkL_get {α : Type} (f : Int → α) (c k : Int) (n i : Nat) (h : i < n) : (mkL f c k n)[i]? = some (f (k + c * i)) := by
  induction n generalizing k i with
  | zero => omega
  | succ n ih =>
    cases i with
    | zero => simp [mkL]
    | succ i =>
      simp only [mkL, List.getElem?_cons_succ]
      rw [ih (k + c) i (by omega)]
      congr 2
      push_cast
      rw [Int.mul_add, Int.mul_one]; omega

theorem mkL_snoc {α : Type} (f : Int → α) (c k : Int) (n : Nat) : mkL f c k (n + 1) = mkL f c k n ++ [f (k + c * n)] := by
  induction n generalizing k with
  | zero => simp [mkL]
  | succ n ih =>
    rw [mkL, ih (k + c), mkL]
    simp only [List.cons_append]
    congr 4
    push_cast
    rw [Int.mul_add, Int.mul_one]; omega

/-- The row, the first j marked. -/
def mkd {α : Type} (f : Int → α) (c k : Int) (row : List α) (j : Nat) : List α := mkL f c k j ++ row.drop j

theorem mkd_zero {α : Type} (f : Int → α) (c k : Int) (row : List α) : mkd f c k row 0 = row := by simp [mkd, mkL]

theorem mkd_length {α : Type} (f : Int → α) (c k : Int) (row : List α) (j : Nat) (h : j ≤ row.length) : (mkd f c k row j).length = row.length := by
  simp [mkd, mkL_length]; omega

theorem mkd_end {α : Type} (f : Int → α) (c k : Int) (row : List α) : mkd f c k row row.length = mkL f c k row.length := by simp [mkd]

theorem mkd_get {α : Type} (f : Int → α) (c k : Int) (row : List α) (j : Nat) (h : j < row.length) : (mkd f c k row j)[j]? = some row[j] := by
  unfold mkd
  rw [List.getElem?_append_right (by rw [mkL_length]; omega)]
  simp [mkL_length, h]

theorem mkd_set {α : Type} (f : Int → α) (c k : Int) (row : List α) (j : Nat) (h : j < row.length) : (mkd f c k row j).set j (f (k + c * j)) = mkd f c k row (j + 1) := by
  unfold mkd
  rw [mkL_snoc, List.set_append_right _ _ (by rw [mkL_length]; omega), mkL_length, Nat.sub_self]
  rw [show row.drop j = row[j] :: row.drop (j + 1) from List.drop_eq_getElem_cons h, List.set_cons_zero]
  simp

theorem wr1 {k : Int} (h0 : 0 ≤ k) (h : k < 9223372036854775807) : IntKind.wrap IntKind.i64 (k + 1) = k + 1 := wrap_id (by omega) (by omega)

theorem iter_up' {σ ρ : Type} {B : σ → Option (σ ⊕ ρ)} {s0 : σ} {r : ρ} (n : Nat) (st : Nat → σ) (h0 : s0 = st 0) (hstep : ∀ i, i < n → B (st i) = some (.inl (st (i + 1)))) (hend : B (st n) = some (.inr r)) : iter B s0 = some r := by
  subst h0; exact iter_up st hstep hend

theorem p_markVersionS (xss : List (List VV)) (i : Nat) (hi : i < xss.length) (k : Int) (h0 : 0 ≤ k) (hk : k + 5 * xss[i].length < 9223372036854775000) :
    laws_markVersionS_n_S (i, k, xss, ()) = some (k + 5 * xss[i].length, xss.set i (mkL mk5 5 k xss[i].length), ()) := by
  unfold laws_markVersionS_n_S
  simp only
  generalize hrow : xss[i] = row at *
  have key : ∀ j : Nat, (xss.set i (mkd mk5 5 k row j))[i]? = some (mkd mk5 5 k row j) := fun j => by simp [hi]
  rw [iter_up' (r := (k + 5 * row.length, xss.set i (mkL mk5 5 k row.length), ())) row.length (fun j => (k + 5 * (j : Int), (j : Int), xss.set i (mkd mk5 5 k row j), ()))]
  · rfl
  · simp only [mkd_zero, ← hrow]; simp
  · intro j hj
    unfold laws_markVersionS_n_D2
    have hl := mkd_length mk5 5 k row j (by omega)
    have hg := mkd_get mk5 5 k row j hj
    have hs := mkd_set mk5 5 k row j hj
    simp only [key, Option.bind_some, hl]
    rw [decide_eq_true (by omega), if_pos (by omega)]
    simp only [cond_true, Option.bind_some, Nat.zero_add, Int.toNat_natCast, hg, List.set_set, List.length_set, List.getElem?_set_self, hi, hl, hj]
    rw [wr1 (k := k + 5 * (j : Int)) (by omega) (by omega), wr1 (k := k + 5 * (j : Int) + 1) (by omega) (by omega), wr1 (k := k + 5 * (j : Int) + 1 + 1) (by omega) (by omega), wr1 (k := k + 5 * (j : Int) + 1 + 1 + 1) (by omega) (by omega), wr1 (k := k + 5 * (j : Int) + 1 + 1 + 1 + 1) (by omega) (by omega), wr1 (k := (j : Int)) (by omega) (by omega)]
    have e1 : k + 5 * (j : Int) + 1 + 1 + 1 + 1 + 1 = k + 5 * ((j + 1 : Nat) : Int) := by push_cast; omega
    have e2 : (k + 5 * (j : Int), k + 5 * (j : Int) + 1, k + 5 * (j : Int) + 1 + 1, k + 5 * (j : Int) + 1 + 1 + 1, k + 5 * (j : Int) + 1 + 1 + 1 + 1, ()) = mk5 (k + 5 * (j : Int)) := by simp [mk5]; omega
    rw [e1, e2, hs]
    simp [hj]
  · unfold laws_markVersionS_n_D2
    simp only [key, Option.bind_some, mkd_end, mkL_length]
    have key2 : (xss.set i (mkL mk5 5 k row.length))[i]? = some (mkL mk5 5 k row.length) := by simp [hi]
    simp only [key2, Option.bind_some, mkL_length]
    rw [decide_eq_false (by omega)]
    rfl

/-- A loop whose exits all come to something. -/
theorem iter_upK {σ ρ τ : Type} {B : σ → Option (σ ⊕ ρ)} {s0 : σ} {k : ρ → Option τ} {q : Option τ} (n : Nat) (st : Nat → σ) (h0 : s0 = st 0) (hstep : ∀ i, i < n → B (st i) = some (.inl (st (i + 1)))) (hend : ∃ r, B (st n) = some (.inr r) ∧ k r = q) : (iter B s0).bind k = q := by
  obtain ⟨r, h1, h2⟩ := hend
  rw [iter_up' n st h0 hstep h1]; exact h2

def mkSS : Int → List (List VV) → List (List VV)
  | _, [] => []
  | k, r :: rs => mkL mk5 5 k r.length :: mkSS (k + 5 * r.length) rs

def enSS : Int → List (List VV) → Int
  | k, [] => k
  | k, r :: rs => enSS (k + 5 * r.length) rs

theorem enSS_ge (k : Int) (xss : List (List VV)) : k ≤ enSS k xss := by
  induction xss generalizing k with
  | nil => exact Int.le_refl k
  | cons r rs ih => have := ih (k + 5 * r.length); simp only [enSS]; omega

theorem p_markVersionSS (xss : List (List VV)) (k : Int) (h0 : 0 ≤ k) (hk : enSS k xss < 9223372036854775000) (hl : xss.length < 9223372036854775000) : laws_markVersionSS_l_S (k, xss, ()) = some (enSS k xss, mkSS k xss, ()) := by
  unfold laws_markVersionSS_l_S
  simp only
  have key : ∀ (rs pre : List (List VV)) (k : Int), 0 ≤ k → enSS k rs < 9223372036854775000 → pre.length + rs.length < 9223372036854775000 →
      iter (fun v => laws_markVersionSS_l_D2 () v _ some) (k, (pre.length : Int), pre ++ rs, ()) = some (enSS k rs, pre ++ mkSS k rs, ()) := by
    intro rs
    induction rs with
    | nil =>
      intro pre k h0 hk hl
      rw [iter_eq]
      unfold laws_markVersionSS_l_D2
      simp only [List.append_nil]
      rw [decide_eq_false (by omega)]
      simp [enSS, mkSS]
    | cons r rs ih =>
      intro pre k h0 hk hl
      have hge := enSS_ge (k + 5 * r.length) rs
      simp only [enSS] at hk
      simp only [List.length_cons] at hl
      have hi : pre.length < (pre ++ r :: rs).length := by simp
      have hget : (pre ++ r :: rs)[pre.length] = r := by simp
      have hm := p_markVersionS (pre ++ r :: rs) pre.length hi k h0 (by rw [hget]; omega)
      rw [hget] at hm
      have hset : (pre ++ r :: rs).set pre.length (mkL mk5 5 k r.length) = (pre ++ [mkL mk5 5 k r.length]) ++ rs := by simp
      have hB : laws_markVersionSS_l_D2 () (k, (pre.length : Int), pre ++ r :: rs, ()) _ some = some (.inl (k + 5 * r.length, (pre.length : Int) + 1, (pre ++ [mkL mk5 5 k r.length]) ++ rs, ())) := by
        unfold laws_markVersionSS_l_D2
        simp only [List.length_append, List.length_cons]
        rw [decide_eq_true (by omega), if_pos (by omega)]
        have hge2 : (pre ++ r :: rs)[pre.length]? = some r := by simp
        simp only [cond_true, Nat.zero_add, Int.toNat_natCast, hge2, Option.bind_some, hm]
        rw [wr1 (by omega) (by omega), hset]
      rw [iter_eq, hB]
      have := ih (pre ++ [mkL mk5 5 k r.length]) (k + 5 * r.length) (by omega) hk (by simp; omega)
      simp only [List.length_append, List.length_cons, List.length_nil, Nat.zero_add, Int.natCast_add] at this
      rw [show ((1 : Nat) : Int) = 1 from rfl] at this
      simp only [Option.bind_some]
      rw [this]
      simp [enSS, mkSS]
  have := key xss [] k h0 hk (by simpa using hl)
  simp only [List.length_nil, List.nil_append, Int.natCast_zero] at this
  rw [this]; rfl

theorem all_loopK {ρ τ : Type} {B : Int × Unit → Option ((Int × Unit) ⊕ ρ)} {k : ρ → Option τ} {n : Nat} {c : Nat → Prop} {X no : Option τ}
    (hB : ∀ i, i < n → (c i → B ((i : Int), ()) = some (.inl (((i + 1 : Nat) : Int), ()))) ∧ (¬ c i → ∃ r, B ((i : Int), ()) = some (.inr r) ∧ k r = no))
    (hend : ∃ r, B ((n : Int), ()) = some (.inr r) ∧ k r = X) :
    (iter B (0, ())).bind k = bif dec (∀ i, i < n → c i) then X else no := by
  have key : ∀ m i : Nat, i + m = n → (iter B ((i : Int), ())).bind k = bif dec (∀ j, i ≤ j → j < n → c j) then X else no := by
    intro m
    induction m with
    | zero =>
      intro i hi
      obtain rfl : i = n := by omega
      obtain ⟨r, h1, h2⟩ := hend
      rw [iter_eq, h1, dec_true (fun j h1 h2 => by omega)]; exact h2
    | succ m ih =>
      intro i hi
      by_cases hc : c i
      · rw [iter_eq, (hB i (by omega)).1 hc]
        simp only [Option.bind_some]
        rw [ih (i + 1) (by omega)]
        congr 1
        apply dec_congr
        constructor
        · intro h j h1 h2
          by_cases e : j = i
          · rw [e]; exact hc
          · exact h j (by omega) h2
        · intro h j h1 h2; exact h j (by omega) h2
      · obtain ⟨r, h1, h2⟩ := (hB i (by omega)).2 hc
        rw [iter_eq, h1, dec_false (fun h => hc (h i (Nat.le_refl _) (by omega)))]; exact h2
  have := key n 0 (by omega)
  simp only [Int.natCast_zero, Nat.zero_le, true_implies] at this
  exact this

/-- A loop that folds a list. -/
theorem fold_loopK {σ α ρ τ : Type} {l : List α} {f : σ → α → σ} {B : σ × Int × Unit → Option ((σ × Int × Unit) ⊕ ρ)} {k : ρ → Option τ} {X : σ → Option τ} {q : Option τ} (n0 : σ) (hB : ∀ (i : Nat) (h : i < l.length) (n : σ), B (n, (i : Int), ()) = some (.inl (f n l[i], ((i + 1 : Nat) : Int), ())))
    (hend : ∀ n, ∃ r, B (n, (l.length : Int), ()) = some (.inr r) ∧ k r = X n) (hq : X (l.foldl f n0) = q) : (iter B (n0, 0, ())).bind k = q := by
  have key : ∀ m i : Nat, i + m = l.length → ∀ n, (iter B (n, (i : Int), ())).bind k = X ((l.drop i).foldl f n) := by
    intro m
    induction m with
    | zero =>
      intro i hi n
      obtain rfl : i = l.length := by omega
      obtain ⟨r, h1, h2⟩ := hend n
      rw [iter_eq, h1]; simpa using h2
    | succ m ih =>
      intro i hi n
      have h : i < l.length := by omega
      rw [iter_eq, hB i h, List.drop_eq_getElem_cons h]
      simp only [Option.bind_some]
      rw [ih (i + 1) (by omega)]; rfl
  have := key l.length 0 (by omega) n0
  simpa [hq] using this

def SmallC (a : List VV) : Prop := a.length ≤ 1048576

def SmallCs (a : List (List VV)) : Prop := a.length ≤ 1048576 ∧ ∀ e ∈ a, SmallC e

theorem p_specIn (x lo hi : Int) : spec_l1In_S (x, lo, hi, ()) = some (inB x lo hi, ()) := by
  unfold spec_l1In_S inB
  by_cases h : lo ≤ x <;> simp [h]

theorem p_implIn (x lo hi : Int) : impl_in_S (x, lo, hi, ()) = some (inB x lo hi, ()) := by
  unfold impl_in_S inB
  by_cases h : lo ≤ x <;> simp [h]

theorem p_isKey (x : Int) : impl_isKey_S (x, ()) = some (inB x 0 5, ()) := by simp [impl_isKey_S, p_implIn]

theorem p_isID (x : Int) : impl_isID_S (x, ()) = some (inB x 1 9, ()) := by simp [impl_isID_S, p_implIn]

theorem p_isValue (x : Int) : impl_isValue_S (x, ()) = some (inB x (-1) 99, ()) := by simp [impl_isValue_S, p_implIn]

/-- A valid version. -/
def okV (v : VV) : Bool := inB v.2.1 (-1) 99 && inB v.2.2.1 0 999 && inB v.2.2.2.1 v.2.2.1 999 && inB v.2.2.2.2.1 1 1000 && (bif v.2.2.1 == 0 then (bif v.1 == 0 then v.2.1 == -1 else false) else inB v.1 1 9)

theorem p_specV (v : VV) : spec_IsValidVersion_S (v, ()) = some (okV v, ()) := by
  unfold spec_IsValidVersion_S okV
  simp only [p_specIn, Option.bind_some]
  cases inB v.2.1 (-1) 99 <;> cases inB v.2.2.1 0 999 <;> cases inB v.2.2.2.1 v.2.2.1 999 <;> cases inB v.2.2.2.2.1 1 1000 <;> cases (v.2.2.1 == 0 : Bool) <;> cases (v.1 == 0 : Bool) <;> simp

theorem p_implV (v : VV) : impl_IsValidVersion_S (v, ()) = some (okV v, ()) := by
  unfold impl_IsValidVersion_S okV
  simp only [p_implIn, p_isValue, p_isID, Option.bind_some]
  cases inB v.2.1 (-1) 99 <;> cases inB v.2.2.1 0 999 <;> cases inB v.2.2.2.1 v.2.2.1 999 <;> cases inB v.2.2.2.2.1 1 1000 <;> cases (v.2.2.1 == 0 : Bool) <;> cases (v.1 == 0 : Bool) <;> simp

theorem okV_le {v : VV} (h : okV v = true) : v.2.2.1 ≤ v.2.2.2.1 := by
  unfold okV at h
  simp only [Bool.and_eq_true] at h
  have := h.1.1.2
  unfold inB at this
  simp only [Bool.and_eq_true, decide_eq_true_eq] at this
  exact this.1

/-- Two neighbours in a chain. -/
def okP (v w : VV) : Prop := v.2.2.1 < w.2.2.1 ∧ v.2.2.2.2.1 ≤ w.2.2.1

def okAt (l : List VV) (i : Nat) : Prop := ∃ h : i < l.length, okV l[i] = true ∧ ∀ h2 : i + 1 < l.length, okP l[i] l[i + 1]

def okAt' (l : List VV) (i : Nat) : Prop := ∃ h : i < l.length, okV l[i] = true ∧ ∀ h2 : 0 < i, okP (l[i - 1]'(by omega)) l[i]

theorem okAt_iff (l : List VV) : (∀ i, i < l.length → okAt l i) ↔ ∀ i, i < l.length → okAt' l i := by
  constructor
  · intro H i h
    obtain ⟨_, h1, _⟩ := H i h
    refine ⟨h, h1, fun h2 => ?_⟩
    obtain ⟨_, _, h4⟩ := H (i - 1) (by omega)
    have := h4 (by omega)
    simpa [show i - 1 + 1 = i by omega] using this
  · intro H i h
    obtain ⟨_, h1, _⟩ := H i h
    refine ⟨h, h1, fun h2 => ?_⟩
    obtain ⟨_, _, h4⟩ := H (i + 1) h2
    exact h4 (by omega)

/-- What the end of a chain's test answers. -/
def lastOK (l : List VV) : Option (Bool × Unit) := bif decide (((l.length : Nat) : Int) > 0) then (lAt l (IntKind.i64.wrap (((l.length : Nat) : Int) - 1))).bind fun e => some ((e.2.2.2.2.1 == 1000), ()) else some (false, ())

theorem p_specC' {l : List VV} (hl : SmallC l) : spec_IsValidChain_S (l, ()) = bif dec (∀ i, i < l.length → okAt l i) then lastOK l else some (false, ()) := by
  unfold SmallC at hl
  unfold spec_IsValidChain_S
  refine all_loopK (n := l.length) (c := okAt l) (fun i hi => ?_) ⟨.inr (.inr (.inr ())), ?_, rfl⟩
  · unfold spec_IsValidChain_D2
    simp only [lAt_nat hi, Option.bind_some, p_specV]
    rw [decide_eq_true (by omega)]
    simp only [cond_true, Option.bind_some]
    cases hv : okV l[i] with
    | false =>
      refine ⟨fun ⟨_, h, _⟩ => ?_, fun _ => ⟨.inl (), rfl, rfl⟩⟩
      rw [hv] at h; cases h
    | true =>
      simp only [Bool.not_true, cond_false]
      rw [wrap_succ hi (by omega)]
      by_cases h2 : i + 1 < l.length
      · rw [decide_eq_true (by omega), lAt_nat h2]
        simp only [cond_true, Option.bind_some]
        by_cases p1 : l[i].2.2.1 ≥ l[i + 1].2.2.1
        · rw [decide_eq_true p1]
          refine ⟨fun ⟨_, _, h⟩ => ?_, fun _ => ⟨.inr (.inl ()), rfl, rfl⟩⟩
          exact (Int.not_lt.2 p1 (h h2).1).elim
        · rw [decide_eq_false p1]
          simp only [cond_false]
          by_cases p2 : l[i].2.2.2.2.1 > l[i + 1].2.2.1
          · rw [decide_eq_true p2]
            refine ⟨fun ⟨_, _, h⟩ => ?_, fun _ => ⟨.inr (.inr (.inl ())), rfl, rfl⟩⟩
            exact (Int.not_le.2 p2 (h h2).2).elim
          · rw [decide_eq_false p2]
            refine ⟨fun _ => rfl, fun h => absurd ⟨hi, hv, fun _ => ⟨Int.not_le.1 p1, Int.not_lt.1 p2⟩⟩ h⟩
      · rw [decide_eq_false (by omega)]
        refine ⟨fun _ => rfl, fun h => absurd ⟨hi, hv, fun h3 => absurd h3 h2⟩ h⟩
  · unfold spec_IsValidChain_D2
    simp only
    rw [decide_eq_false (by omega)]; rfl

theorem p_implC' {l : List VV} (hl : SmallC l) : impl_IsValidChain_S (l, ()) = bif dec (∀ i, i < l.length → okAt l i) then lastOK l else some (false, ()) := by
  unfold SmallC at hl
  rw [dec_congr (okAt_iff l)]
  unfold impl_IsValidChain_S
  refine all_loopK (n := l.length) (c := okAt' l) (fun i hi => ?_) ⟨.inr (.inr (.inr ())), ?_, rfl⟩
  · unfold impl_IsValidChain_D2
    simp only [lAt_nat hi, Option.bind_some, p_implV]
    rw [decide_eq_true (by omega)]
    simp only [cond_true, Option.bind_some]
    cases hv : okV l[i] with
    | false =>
      refine ⟨fun ⟨_, h, _⟩ => ?_, fun _ => ⟨_, rfl, rfl⟩⟩
      rw [hv] at h; cases h
    | true =>
      simp only [Bool.not_true, cond_false]
      rw [wrap_succ hi (by omega)]
      by_cases h2 : 0 < i
      · have hlt : i - 1 < l.length := by omega
        rw [decide_eq_true (show (i : Int) > 0 by omega), show IntKind.i64.wrap ((i : Int) - 1) = ((i - 1 : Nat) : Int) from by rw [wrap_id (by omega) (by omega)]; omega, lAt_nat hlt]
        simp only [cond_true, Option.bind_some]
        by_cases p1 : l[i - 1].2.2.1 ≥ l[i].2.2.1
        · rw [decide_eq_true p1]
          refine ⟨fun ⟨_, _, h⟩ => ?_, fun _ => ⟨_, rfl, rfl⟩⟩
          exact (Int.not_lt.2 p1 (h h2).1).elim
        · rw [decide_eq_false p1]
          simp only [cond_false]
          by_cases p2 : l[i - 1].2.2.2.2.1 > l[i].2.2.1
          · rw [decide_eq_true p2]
            refine ⟨fun ⟨_, _, h⟩ => ?_, fun _ => ⟨_, rfl, rfl⟩⟩
            exact (Int.not_le.2 p2 (h h2).2).elim
          · rw [decide_eq_false p2]
            refine ⟨fun _ => rfl, fun h => absurd ⟨hi, hv, fun _ => ⟨Int.not_le.1 p1, Int.not_lt.1 p2⟩⟩ h⟩
      · rw [decide_eq_false (show ¬ (i : Int) > 0 by omega)]
        refine ⟨fun _ => rfl, fun h => absurd ⟨hi, hv, fun h3 => absurd h3 h2⟩ h⟩
  · unfold impl_IsValidChain_D2
    simp only
    rw [decide_eq_false (by omega)]; rfl

/-- A valid chain. -/
def okC (l : List VV) : Prop := (∀ i, i < l.length → okAt l i) ∧ ∃ h : 0 < l.length, (l[l.length - 1]'(by omega)).2.2.2.2.1 = 1000

theorem p_chain {l : List VV} (hl : SmallC l) : (bif dec (∀ i, i < l.length → okAt l i) then lastOK l else some (false, ())) = some (dec (okC l), ()) := by
  unfold SmallC at hl
  by_cases h : ∀ i, i < l.length → okAt l i
  · rw [dec_true h]
    unfold lastOK
    simp only [cond_true]
    by_cases h0 : 0 < l.length
    · have hlt : l.length - 1 < l.length := by omega
      rw [decide_eq_true (by omega), show IntKind.i64.wrap (((l.length : Nat) : Int) - 1) = ((l.length - 1 : Nat) : Int) from by rw [wrap_id (by omega) (by omega)]; omega, lAt_nat hlt]
      simp only [cond_true, Option.bind_some, eq_int]
      rw [dec_eq]
      congr 2
      apply dec_congr
      exact ⟨fun e => ⟨h, h0, e⟩, fun ⟨_, _, e⟩ => e⟩
    · rw [decide_eq_false (show ¬ ((l.length : Nat) : Int) > 0 by omega), dec_false (fun ⟨_, h1, _⟩ => h0 h1)]; rfl
  · rw [dec_false h, dec_false (fun h1 => h h1.1)]; rfl

theorem p_specC {l : List VV} (hl : SmallC l) : spec_IsValidChain_S (l, ()) = some (dec (okC l), ()) := (p_specC' hl).trans (p_chain hl)

theorem p_implC {l : List VV} (hl : SmallC l) : impl_IsValidChain_S (l, ()) = some (dec (okC l), ()) := (p_implC' hl).trans (p_chain hl)

/-- A valid store. -/
def okSt (s : List (List VV)) : Prop := s.length = 6 ∧ ∀ c ∈ s, okC c ∧ c.length ≤ 50

theorem p_specS {s : List (List VV)} (hs : SmallCs s) : spec_IsValidStore_S ((s, ()), ()) = some (dec (okSt s), ()) := by
  have hn := hs.1
  have e : spec_IsValidStore_S ((s, ()), ()) = bif dec (∀ i, i < s.length → (∃ h : i < s.length, okC s[i] ∧ s[i].length ≤ 50)) then some ((((s.length : Nat) : Int) == 6), ()) else some (false, ()) := by
    unfold spec_IsValidStore_S
    refine all_loopK (n := s.length) (fun i hi => ?_) ⟨.inr (.inr (.inr (.inr ()))), ?_, rfl⟩
    · unfold spec_IsValidStore_D2
      have hsm := hs.2 _ (List.getElem_mem hi)
      simp only [lAt_nat hi, Option.bind_some, p_specC hsm]
      rw [decide_eq_true (by omega)]
      simp only [cond_true]
      by_cases hc : okC s[i]
      · have h0 : 0 < s[i].length := hc.2.1
        rw [dec_true hc, wrap_succ hi (by omega), show lAt s[i] 0 = some s[i][0] from lAt_nat h0]
        simp only [Bool.not_true, cond_false, Option.bind_some]
        by_cases hl : s[i].length ≤ 50
        · refine ⟨fun _ => ?_, fun h => absurd ⟨hi, hc, hl⟩ h⟩
          rw [decide_eq_false (show ¬ ((s[i].length : Nat) : Int) > 50 by omega)]
          cases decide ((s[i][0]).2.2.1 > 0) <;> rfl
        · refine ⟨fun ⟨_, _, h⟩ => absurd h hl, fun _ => ?_⟩
          rw [decide_eq_true (show ((s[i].length : Nat) : Int) > 50 by omega)]
          cases decide ((s[i][0]).2.2.1 > 0)
          · exact ⟨.inr (.inr (.inr (.inl ()))), rfl, rfl⟩
          · exact ⟨.inr (.inl ()), rfl, rfl⟩
      · rw [dec_false hc]
        exact ⟨fun ⟨_, h, _⟩ => absurd h hc, fun _ => ⟨.inl (), rfl, rfl⟩⟩
    · unfold spec_IsValidStore_D2
      simp only
      rw [decide_eq_false (by omega)]; rfl
  rw [e]
  by_cases h : ∀ i, i < s.length → (∃ h : i < s.length, okC s[i] ∧ s[i].length ≤ 50)
  · rw [dec_true h, eq_int, dec_eq]
    simp only [cond_true]
    congr 2
    apply dec_congr
    constructor
    · intro e
      refine ⟨by omega, fun c hc => ?_⟩
      obtain ⟨i, hi, rfl⟩ := List.getElem_of_mem hc
      exact (h i hi).2
    · rintro ⟨e, _⟩; omega
  · rw [dec_false h, dec_false (fun h1 : okSt s => h fun i hi => ⟨hi, h1.2 _ (List.getElem_mem hi)⟩)]; rfl

theorem p_valid1 {l : List VV} (hl : SmallC l) : impl_IsValidStore_1_S (l, ()) = some (dec (¬ (okC l ∧ l.length ≤ 50)), ()) := by
  unfold impl_IsValidStore_1_S
  simp only [p_implC hl, Option.bind_some]
  by_cases h : okC l
  · by_cases h2 : l.length ≤ 50
    · rw [dec_true h, decide_eq_false (show ¬ ((l.length : Nat) : Int) > 50 by omega), dec_false (fun hh => hh ⟨h, h2⟩)]; rfl
    · rw [dec_true h, decide_eq_true (show ((l.length : Nat) : Int) > 50 by omega), dec_true (fun hh => h2 hh.2)]; rfl
  · rw [dec_false h, dec_true (fun hh => h hh.1)]; rfl

/-- slices.IndexFunc and ContainsFunc: the first element of which something is so. -/
theorem indexFunc {α ρ : Type} {l : List α} {p : α → Prop} (hn : l.length ≤ 1048576) {B : Int × Unit → Option ((Int × Unit) ⊕ ((Int × Unit) ⊕ Unit))}
    (hB : ∀ i (h : i < l.length), B ((i : Int), ()) = some (bif dec (p l[i]) then .inr (.inl ((i : Int), ())) else .inl (((i + 1 : Nat) : Int), ()))) (hend : B ((l.length : Int), ()) = some (.inr (.inr ()))) :
    ∃ n : Int, ((iter B (0, ())).bind fun q => sumC q (fun q => some (q.1, ())) fun _ => some (-1, ())) = some (n, ()) ∧ ((∃ i : Nat, ∃ h : i < l.length, n = (i : Int) ∧ p l[i] ∧ ∀ j (hj : j < i), ¬ p (l[j]'(by omega))) ∨ (n = -1 ∧ ∀ x ∈ l, ¬ p x)) := by
  have key : ∀ m i : Nat, i + m = l.length → (∀ j (hj : j < l.length), j < i → ¬ p l[j]) → ∃ n : Int, ((iter B ((i : Int), ())).bind fun q => sumC q (fun q => some (q.1, ())) fun _ => some (-1, ())) = some (n, ()) ∧ ((∃ i : Nat, ∃ h : i < l.length, n = (i : Int) ∧ p l[i] ∧ ∀ j (hj : j < i), ¬ p (l[j]'(by omega))) ∨ (n = -1 ∧ ∀ x ∈ l, ¬ p x)) := by
    intro m
    induction m with
    | zero =>
      intro i hi hno
      obtain rfl : i = l.length := by omega
      rw [iter_eq, hend]
      refine ⟨-1, rfl, .inr ⟨rfl, fun x hx => ?_⟩⟩
      obtain ⟨j, hj, rfl⟩ := List.getElem_of_mem hx
      exact hno j hj hj
    | succ m ih =>
      intro i hi hno
      have hlt : i < l.length := by omega
      rw [iter_eq, hB i hlt]
      by_cases hp : p l[i]
      · rw [dec_true hp]
        exact ⟨(i : Int), rfl, .inl ⟨i, hlt, rfl, hp, fun j hj => hno j (by omega) hj⟩⟩
      · rw [dec_false hp]
        refine ih (i + 1) (by omega) fun j hj h => ?_
        by_cases e : j = i
        · subst e; exact hp
        · exact hno j hj (by omega)
  exact key l.length 0 (by omega) (fun j hj h => by omega)

theorem p_implS {s : List (List VV)} (hs : SmallCs s) : impl_IsValidStore_S ((s, ()), ()) = some (dec (okSt s), ()) := by
  have hn := hs.1
  unfold impl_IsValidStore_S slices_ContainsFunc__impl_IsValidStore_1_S slices_IndexFunc__impl_IsValidStore_1_S
  obtain ⟨n, e, h⟩ := indexFunc (ρ := Unit) (l := s) (p := fun c => ¬ (okC c ∧ c.length ≤ 50)) hn (B := fun v => slices_IndexFunc__impl_IsValidStore_1_D2 (s, (), ((s.length : Nat) : Int), ()) v _ some) (fun i hi => by
      unfold slices_IndexFunc__impl_IsValidStore_1_D2
      simp only [lAt_nat hi, Option.bind_some, p_valid1 (hs.2 _ (List.getElem_mem hi))]
      rw [decide_eq_true (by omega), wrap_succ hi (by omega)]
      simp only [cond_true]
      cases dec (¬ (okC s[i] ∧ s[i].length ≤ 50)) <;> rfl) (by
      unfold slices_IndexFunc__impl_IsValidStore_1_D2
      simp only
      rw [decide_eq_false (by omega)]; rfl)
  simp only [e, Option.bind_some, eq_int]
  by_cases h6 : s.length = 6
  · rw [decide_eq_true (show ((s.length : Nat) : Int) = 6 by omega)]
    simp only [cond_true]
    congr 2
    rcases h with ⟨i, hi, rfl, hp, _⟩ | ⟨rfl, hp⟩
    · rw [decide_eq_true (by omega), dec_false (fun hh : okSt s => hp (hh.2 _ (List.getElem_mem hi)))]; rfl
    · rw [decide_eq_false (by omega), dec_true (show okSt s from ⟨h6, fun c hc => Classical.not_not.1 (hp c hc)⟩)]; rfl
  · rw [decide_eq_false (by omega), dec_false (fun hh : okSt s => h6 hh.1)]; rfl

/-- The last stamp of a store. -/
def lastC (n : Int) (l : List VV) : Int := l.foldl (fun n v => mx n v.2.2.2.1) n

theorem p_implLast {s : List (List VV)} (hs : SmallCs s) : impl_Store_lastStamp_S ((s, ()), ()) = some (s.foldl lastC 0, ()) := by
  have hn := hs.1
  unfold impl_Store_lastStamp_S
  refine fold_loopK (l := s) (f := lastC) (X := fun n => some (n, ())) 0 (fun i h n => ?_) (fun n => ⟨(n, ()), ?_, rfl⟩) rfl
  · unfold impl_Store_lastStamp_D3
    have hsm : s[i].length ≤ 1048576 := hs.2 _ (List.getElem_mem h)
    simp only [lAt_nat h, Option.bind_some]
    rw [decide_eq_true (by omega), wrap_succ h (by omega)]
    simp only [cond_true]
    refine fold_loopK (l := s[i]) (f := fun n v => mx n v.2.2.2.1) (X := fun n => some (.inl (n, ((i + 1 : Nat) : Int), ()))) n (fun j hj n => ?_) (fun n => ⟨(n, ()), ?_, rfl⟩) rfl
    · unfold impl_Store_lastStamp_D6
      simp only [lAt_nat hj, Option.bind_some]
      rw [decide_eq_true (by omega), wrap_succ hj (by omega)]; rfl
    · unfold impl_Store_lastStamp_D6
      simp only
      rw [decide_eq_false (by omega)]; rfl
  · unfold impl_Store_lastStamp_D3
    simp only
    rw [decide_eq_false (by omega)]; rfl

theorem foldl_mem {α σ : Type} {f g : σ → α → σ} : (l : List α) → (∀ x ∈ l, ∀ n, f n x = g n x) → ∀ n, l.foldl f n = l.foldl g n
  | [], _, _ => rfl
  | x :: l, h, n => by
    simp only [List.foldl_cons]
    rw [h x (by simp)]
    exact foldl_mem l (fun y hy => h y (by simp [hy])) _

theorem mx_mx {n a b : Int} (h : a ≤ b) : mx (mx n a) b = mx n b := by
  unfold mx; repeat' split
  all_goals omega

theorem p_specLast {s : List (List VV)} (hs : SmallCs s) (hok : okSt s) : spec_LastStamp_S ((s, ()), ()) = some (s.foldl lastC 0, ()) := by
  have hn := hs.1
  unfold spec_LastStamp_S
  refine fold_loopK (l := s) (f := lastC) (X := fun n => some (n, ())) 0 (fun i h n => ?_) (fun n => ⟨.inr (n, ()), ?_, rfl⟩) rfl
  · unfold spec_LastStamp_D3
    have hsm : s[i].length ≤ 1048576 := hs.2 _ (List.getElem_mem h)
    simp only [p_specS hs, dec_true hok, Option.bind_some]
    rw [decide_eq_true (by omega), wrap_succ h (by omega)]
    simp only [cond_true]
    have hc := (hok.2 _ (List.getElem_mem h)).1
    refine fold_loopK (l := s[i]) (f := fun n v => mx (mx n v.2.2.1) v.2.2.2.1) (X := fun n => some (.inl (n, ((i + 1 : Nat) : Int), ()))) n (fun j hj n => ?_) (fun n => ⟨(n, ()), ?_, rfl⟩) ?_
    · unfold spec_LastStamp_D6
      simp only [lAt_nat h, lAt_nat hj, Option.bind_some]
      rw [decide_eq_true (by omega), wrap_succ hj (by omega)]; rfl
    · unfold spec_LastStamp_D6
      simp only [lAt_nat h, Option.bind_some]
      rw [decide_eq_false (by omega)]; rfl
    · rw [foldl_mem (g := fun n (v : VV) => mx n v.2.2.2.1) s[i] (fun v hv n => ?_) n]
      · rfl
      · obtain ⟨k, hk, rfl⟩ := List.getElem_of_mem hv
        obtain ⟨_, h1, _⟩ := hc.1 k hk
        exact mx_mx (okV_le h1)
  · unfold spec_LastStamp_D3
    simp only
    rw [decide_eq_false (by omega)]; rfl

/-- A row is copied element by element. -/
theorem copy_loopK {α : Type} {a : List α} {z : α} (ha : a.length ≤ 1048576) {B : Int × List α × Unit → Option ((Int × List α × Unit) ⊕ (List α × Unit))}
    (hB : ∀ (i : Nat) (h : i < a.length) (out : List α), out.length = a.length → B ((i : Int), out, ()) = some (.inl (((i + 1 : Nat) : Int), out.set i a[i], ()))) (hend : ∀ out, B ((a.length : Int), out, ()) = some (.inr (out, ()))) :
    ((iter B (0, List.replicate a.length z, ())).bind fun p => some (p.1, ())) = some (a, ()) := by
  rw [iter_up' (r := (a, ())) a.length (fun i => ((i : Int), a.take i ++ List.replicate (a.length - i) z, ()))]
  · rfl
  · simp
  · intro i hi
    rw [hB i hi _ (by simp; omega)]
    congr 3
    congr 1
    apply List.ext_getElem
    · simp; omega
    · intro j h1 h2
      simp at h1 h2
      rw [List.getElem_set]
      by_cases he : i = j
      · subst he
        simp only [if_true]
        rw [List.getElem_append_left (by simp; omega)]
        simp
      · rw [if_neg he]
        by_cases hlt : j < i
        · rw [List.getElem_append_left (by simp; omega), List.getElem_append_left (by simp; omega)]; simp
        · rw [List.getElem_append_right (by simp; omega), List.getElem_append_right (by simp; omega)]; simp
  · simp [hend]

/-- A size test of rows in a row. -/
theorem sz_listK {α : Type} {Small : α → Prop} {F : α → Int → Option (Int × Unit)} {a : List α} (ha : a.length ≤ maxLen) (hF : ∀ e ∈ a, ∀ l, 0 ≤ l → l ≤ 1048576 → SzOK (Small e) (F e l)) {B : Int × Int × Unit → Option ((Int × Int × Unit) ⊕ ((Int × Unit) ⊕ (Int × Unit)))}
    (hB : ∀ l i : Int, B (l, i, ()) = bif decide (i < ((a.length : Nat) : Int)) then (lAt a i).bind fun e => (F e l).bind fun r => bif decide (r.1 < 0) then some (.inr (.inl (r.1, ()))) else some (.inl (r.1, IntKind.i64.wrap (i + 1), ())) else some (.inr (.inr (l, ())))) {l : Int} (h0 : 0 ≤ l) (h1 : l ≤ 1048576) :
    SzOK (a.length ≤ 1048576 ∧ ∀ e ∈ a, Small e) (bif decide (IntKind.i64.wrap (l - ((a.length : Nat) : Int)) < 0) then some (-1, ()) else (iter B (IntKind.i64.wrap (l - ((a.length : Nat) : Int)), 0, ())).bind fun q => sumC q (fun _ => some (-1, ())) fun b => some (b.1, ())) := by
  unfold maxLen at ha
  rw [wrap_id (by omega) (by omega)]
  by_cases h : l - (a.length : Int) < 0
  · rw [decide_eq_true h]; exact ⟨_, rfl, .inl (by omega)⟩
  rw [decide_eq_false h]
  have key : ∀ k i : Nat, i + k = a.length → ∀ l : Int, 0 ≤ l → l ≤ 1048576 → ∃ p, iter B (l, (i : Int), ()) = some p ∧ ((∃ n, p = .inl n) ∨ ∃ n, p = .inr (n, ()) ∧ 0 ≤ n ∧ n ≤ 1048576 ∧ ∀ e ∈ a.drop i, Small e) := by
    intro k
    induction k with
    | zero =>
      intro i hi l h0 h1
      rw [iter_eq, hB, decide_eq_false (by omega)]
      exact ⟨_, rfl, .inr ⟨l, rfl, h0, h1, fun e he => by rw [List.drop_eq_nil_iff.2 (by omega)] at he; cases he⟩⟩
    | succ k ih =>
      intro i hi l h0 h1
      have hlt : i < a.length := by omega
      rw [iter_eq, hB, decide_eq_true (by omega), lAt_nat hlt]
      obtain ⟨n, e1, h2⟩ := hF a[i] (List.getElem_mem hlt) l h0 h1
      simp only [cond_true, Option.bind_some, e1]
      rcases h2 with h2 | ⟨h2, h3, h4⟩
      · rw [decide_eq_true h2]; exact ⟨_, rfl, .inl ⟨(n, ()), rfl⟩⟩
      · rw [decide_eq_false (show ¬ n < 0 by omega), wrap_succ hlt (by omega)]
        obtain ⟨p, e2, h5⟩ := ih (i + 1) (by omega) n h2 h3
        refine ⟨p, e2, h5.imp id ?_⟩
        rintro ⟨m, rfl, h6, h7, h8⟩
        refine ⟨m, rfl, h6, h7, fun e he => ?_⟩
        rw [List.drop_eq_getElem_cons hlt] at he
        rcases List.mem_cons.1 he with rfl | he
        · exact h4
        · exact h8 e he
  obtain ⟨p, e1, h2⟩ := key a.length 0 (by omega) (l - a.length) (by omega) (by omega)
  simp only [Int.natCast_zero] at e1
  have e1' : iter B (l - (a.length : Int), 0, ()) = some p := e1
  rw [cond_false, e1']
  rcases h2 with ⟨n, rfl⟩ | ⟨n, rfl, h3, h4, h5⟩
  · exact ⟨_, rfl, .inl (by omega)⟩
  · exact ⟨_, rfl, .inr ⟨h3, h4, by omega, by simpa using h5⟩⟩

theorem p_toVersionS (a : List VV) (ha : a.length ≤ 1048576) : laws_toVersionS_S (a, ()) = some (a, ()) := by
  unfold laws_toVersionS_S
  simp only
  rw [if_pos (by omega), Int.toNat_natCast]
  refine copy_loopK ha (fun i h out ho => ?_) fun out => ?_
  · unfold laws_toVersionS_D3
    simp only [lAt_nat h, Option.bind_some, laws_toVersion_S]
    rw [decide_eq_true (by omega), if_pos (by omega), wrap_succ h (by omega)]
    simp [ho, h]
  · unfold laws_toVersionS_D3
    simp only
    rw [decide_eq_false (by omega)]; rfl

theorem p_szVersionS {a : List VV} {l : Int} (ha : a.length ≤ maxLen) (h0 : 0 ≤ l) (h1 : l ≤ 1048576) : SzOK (a.length ≤ 1048576) (laws_szVersionS_S (a, l, ())) := sz_flat ha h0 h1

theorem p_toVersionSS (a : List (List VV)) (ha : SmallCs a) : laws_toVersionSS_S (a, ()) = some (a, ()) := by
  have hn := ha.1
  unfold laws_toVersionSS_S
  simp only
  rw [if_pos (by omega), Int.toNat_natCast]
  refine copy_loopK hn (fun i h out ho => ?_) fun out => ?_
  · unfold laws_toVersionSS_D3
    simp only [lAt_nat h, Option.bind_some, p_toVersionS _ (ha.2 _ (List.getElem_mem h))]
    rw [decide_eq_true (by omega), if_pos (by omega), wrap_succ h (by omega)]
    simp [ho, h]
  · unfold laws_toVersionSS_D3
    simp only
    rw [decide_eq_false (by omega)]; rfl

theorem p_szVersionSS {a : List (List VV)} {l : Int} (ha : a.length ≤ maxLen) (hb : ∀ e ∈ a, e.length ≤ maxLen) (h0 : 0 ≤ l) (h1 : l ≤ 1048576) : SzOK (SmallCs a) (laws_szVersionSS_S (a, l, ())) :=
  sz_listK (Small := SmallC) (F := fun e l => laws_szVersionS_S (e, l, ())) ha (fun e he l h0 h1 => p_szVersionS (hb e he) h0 h1) (fun l i => rfl) h0 h1

theorem p_szStore {a : List (List VV)} {l : Int} (ha : a.length ≤ maxLen) (hb : ∀ e ∈ a, e.length ≤ maxLen) (h0 : 0 ≤ l) (h1 : l ≤ 1048576) : SzOK (SmallCs a) (laws_szStore_S ((a, ()), l, ())) := sz_again (p_szVersionSS ha hb h0 h1)

theorem p_toStore (a : List (List VV)) (ha : SmallCs a) : laws_toStore_S ((a, ()), ()) = some (a, ()) := by
  simp [laws_toStore_S, p_toVersionSS a ha]

theorem enSS_le {a : List (List VV)} : ∀ (k : Int), (∀ e ∈ a, e.length ≤ 1048576) → enSS k a ≤ k + 5242880 * a.length := by
  induction a with
  | nil => intro k _; simp [enSS]
  | cons r rs ih =>
    intro k h
    have h1 := ih (k + 5 * r.length) (fun e he => h e (List.mem_cons_of_mem _ he))
    have h2 := h r (List.mem_cons_self ..)
    simp only [enSS, List.length_cons]
    push_cast
    omega

/-- What the laws' marks need of a store. -/
def smallC (a : List (List VV)) : Prop := a.length < 9223372036854775000 ∧ enSS 1 a < 9223372036854775000

theorem SmallCs.small {a : List (List VV)} (h : SmallCs a) : smallC a := by
  have h1 := enSS_le 1 h.2
  have h2 := h.1
  exact ⟨by omega, by omega⟩

theorem p_eqVersion (v : VV) : laws_eqVersion_S (v, v, ()) = some (true, ()) := by
  simp [laws_eqVersion_S]

theorem p_eqVersionS (a : List VV) (ha : a.length < 9223372036854775000) : laws_eqVersionS_S (a, a, ()) = some (true, ()) := by
  unfold laws_eqVersionS_S
  simp only [bne_self_eq_false, cond_false]
  refine iter_upK a.length (fun j => ((j : Int), ())) rfl (fun j hj => ?_) ⟨.inr (), ?_, rfl⟩
  · unfold laws_eqVersionS_D4
    simp only [lAt_nat hj, Option.bind_some, p_eqVersion]
    rw [decide_eq_true (by omega), wr1 (by omega) (by omega)]
    rfl
  · unfold laws_eqVersionS_D4
    simp only
    rw [decide_eq_false (by omega)]
    rfl

theorem p_eqVersionSS (a : List (List VV)) (ha : a.length < 9223372036854775000) (hb : ∀ r ∈ a, r.length < 9223372036854775000) : laws_eqVersionSS_S (a, a, ()) = some (true, ()) := by
  unfold laws_eqVersionSS_S
  simp only [bne_self_eq_false, cond_false]
  refine iter_upK a.length (fun j => ((j : Int), ())) rfl (fun j hj => ?_) ⟨.inr (), ?_, rfl⟩
  · unfold laws_eqVersionSS_D4
    simp only [lAt_nat hj, Option.bind_some, p_eqVersionS _ (hb _ (List.getElem_mem hj))]
    rw [decide_eq_true (by omega), wr1 (by omega) (by omega)]
    rfl
  · unfold laws_eqVersionSS_D4
    simp only
    rw [decide_eq_false (by omega)]
    rfl

theorem enSS_mem {a : List (List VV)} {r : List VV} (h : r ∈ a) (k : Int) : k + 5 * r.length ≤ enSS k a := by
  induction a generalizing k with
  | nil => cases h
  | cons s rs ih =>
    simp only [enSS]
    rcases List.mem_cons.1 h with rfl | h
    · exact enSS_ge _ _
    · have := ih h (k + 5 * s.length); omega

theorem smallC.row {a : List (List VV)} (h : smallC a) : ∀ r ∈ a, r.length < 9223372036854775000 := fun r hr => by
  have := enSS_mem hr 1; have := h.2; omega

theorem p_eqReadMark (v : VM) : laws_eqReadMark_S (v, v, ()) = some (true, ()) := by
  simp [laws_eqReadMark_S]

theorem p_eqReadMarkS (a : List VM) (ha : a.length < 9223372036854775000) : laws_eqReadMarkS_S (a, a, ()) = some (true, ()) := by
  unfold laws_eqReadMarkS_S
  simp only [bne_self_eq_false, cond_false]
  refine iter_upK a.length (fun j => ((j : Int), ())) rfl (fun j hj => ?_) ⟨.inr (), ?_, rfl⟩
  · unfold laws_eqReadMarkS_D4
    simp only [lAt_nat hj, Option.bind_some, p_eqReadMark]
    rw [decide_eq_true (by omega), wr1 (by omega) (by omega)]
    rfl
  · unfold laws_eqReadMarkS_D4
    simp only
    rw [decide_eq_false (by omega)]
    rfl

theorem p_heldReadMarkS (n : Nat) (k : Int) (h0 : 0 ≤ k) (hk : k + 2 * n < 9223372036854775000) : laws_heldReadMarkS_S (mkL mk2 2 k n, k, ()) = some (k + 2 * n, ()) := by
  unfold laws_heldReadMarkS_S
  simp only
  refine iter_upK n (fun j => (k + 2 * (j : Int), (j : Int), ())) (by simp) (fun j hj => ?_) ⟨.inr (.inr (k + 2 * n, ())), ?_, rfl⟩
  · unfold laws_heldReadMarkS_D2
    have hg : lAt (mkL mk2 2 k n) (j : Int) = some (mk2 (k + 2 * (j : Int))) := by
      rw [lAt_nat (by rw [mkL_length]; exact hj)]
      have := mkL_get mk2 2 k n j hj
      rw [List.getElem?_eq_getElem (by rw [mkL_length]; exact hj)] at this
      exact this
    simp only [mkL_length, hg, Option.bind_some]
    rw [decide_eq_true (by omega)]
    rw [wr1 (k := k + 2 * (j : Int)) (by omega) (by omega), wr1 (k := k + 2 * (j : Int) + 1) (by omega) (by omega), wr1 (k := (j : Int)) (by omega) (by omega)]
    simp only [mk2, cond_true]
    have e0 : (k + 2 * (j : Int) != k + 2 * (j : Int)) = false := by first | simp | (rw [bne_eq_false_iff_eq]; omega)
    have e1 : (k + 2 * (j : Int) + 1 != k + 2 * (j : Int) + 1) = false := by first | simp | (rw [bne_eq_false_iff_eq]; omega)
    simp only [e0, e1, cond_false]
    congr 3
    · push_cast; omega
  · unfold laws_heldReadMarkS_D2
    simp only [mkL_length]
    rw [decide_eq_false (by omega)]
    rfl

theorem p_eqWrite (v : VM) : laws_eqWrite_S (v, v, ()) = some (true, ()) := by
  simp [laws_eqWrite_S]

theorem p_eqWriteS (a : List VM) (ha : a.length < 9223372036854775000) : laws_eqWriteS_S (a, a, ()) = some (true, ()) := by
  unfold laws_eqWriteS_S
  simp only [bne_self_eq_false, cond_false]
  refine iter_upK a.length (fun j => ((j : Int), ())) rfl (fun j hj => ?_) ⟨.inr (), ?_, rfl⟩
  · unfold laws_eqWriteS_D4
    simp only [lAt_nat hj, Option.bind_some, p_eqWrite]
    rw [decide_eq_true (by omega), wr1 (by omega) (by omega)]
    rfl
  · unfold laws_eqWriteS_D4
    simp only
    rw [decide_eq_false (by omega)]
    rfl

theorem p_heldWriteS (n : Nat) (k : Int) (h0 : 0 ≤ k) (hk : k + 2 * n < 9223372036854775000) : laws_heldWriteS_S (mkL mk2 2 k n, k, ()) = some (k + 2 * n, ()) := by
  unfold laws_heldWriteS_S
  simp only
  refine iter_upK n (fun j => (k + 2 * (j : Int), (j : Int), ())) (by simp) (fun j hj => ?_) ⟨.inr (.inr (k + 2 * n, ())), ?_, rfl⟩
  · unfold laws_heldWriteS_D2
    have hg : lAt (mkL mk2 2 k n) (j : Int) = some (mk2 (k + 2 * (j : Int))) := by
      rw [lAt_nat (by rw [mkL_length]; exact hj)]
      have := mkL_get mk2 2 k n j hj
      rw [List.getElem?_eq_getElem (by rw [mkL_length]; exact hj)] at this
      exact this
    simp only [mkL_length, hg, Option.bind_some]
    rw [decide_eq_true (by omega)]
    rw [wr1 (k := k + 2 * (j : Int)) (by omega) (by omega), wr1 (k := k + 2 * (j : Int) + 1) (by omega) (by omega), wr1 (k := (j : Int)) (by omega) (by omega)]
    simp only [mk2, cond_true]
    have e0 : (k + 2 * (j : Int) != k + 2 * (j : Int)) = false := by first | simp | (rw [bne_eq_false_iff_eq]; omega)
    have e1 : (k + 2 * (j : Int) + 1 != k + 2 * (j : Int) + 1) = false := by first | simp | (rw [bne_eq_false_iff_eq]; omega)
    simp only [e0, e1, cond_false]
    congr 3
    · push_cast; omega
  · unfold laws_heldWriteS_D2
    simp only [mkL_length]
    rw [decide_eq_false (by omega)]
    rfl

theorem p_heldVersionS (n : Nat) (k : Int) (h0 : 0 ≤ k) (hk : k + 5 * n < 9223372036854775000) : laws_heldVersionS_S (mkL mk5 5 k n, k, ()) = some (k + 5 * n, ()) := by
  unfold laws_heldVersionS_S
  simp only
  refine iter_upK n (fun j => (k + 5 * (j : Int), (j : Int), ())) (by simp) (fun j hj => ?_) ⟨.inr (.inr (.inr (.inr (.inr (k + 5 * n, ()))))), ?_, rfl⟩
  · unfold laws_heldVersionS_D2
    have hg : lAt (mkL mk5 5 k n) (j : Int) = some (mk5 (k + 5 * (j : Int))) := by
      rw [lAt_nat (by rw [mkL_length]; exact hj)]
      have := mkL_get mk5 5 k n j hj
      rw [List.getElem?_eq_getElem (by rw [mkL_length]; exact hj)] at this
      exact this
    simp only [mkL_length, hg, Option.bind_some]
    rw [decide_eq_true (by omega)]
    rw [wr1 (k := k + 5 * (j : Int)) (by omega) (by omega), wr1 (k := k + 5 * (j : Int) + 1) (by omega) (by omega), wr1 (k := k + 5 * (j : Int) + 1 + 1) (by omega) (by omega), wr1 (k := k + 5 * (j : Int) + 1 + 1 + 1) (by omega) (by omega), wr1 (k := k + 5 * (j : Int) + 1 + 1 + 1 + 1) (by omega) (by omega), wr1 (k := (j : Int)) (by omega) (by omega)]
    simp only [mk5, cond_true]
    have e0 : (k + 5 * (j : Int) != k + 5 * (j : Int)) = false := by simp
    have e1 : (k + 5 * (j : Int) + 1 != k + 5 * (j : Int) + 1) = false := by simp
    have e2 : (k + 5 * (j : Int) + 2 != k + 5 * (j : Int) + 1 + 1) = false := by rw [bne_eq_false_iff_eq]; omega
    have e3 : (k + 5 * (j : Int) + 3 != k + 5 * (j : Int) + 1 + 1 + 1) = false := by rw [bne_eq_false_iff_eq]; omega
    have e4 : (k + 5 * (j : Int) + 4 != k + 5 * (j : Int) + 1 + 1 + 1 + 1) = false := by rw [bne_eq_false_iff_eq]; omega
    simp only [e0, e1, e2, e3, e4, cond_false]
    congr 3
    · push_cast; omega
  · unfold laws_heldVersionS_D2
    simp only [mkL_length]
    rw [decide_eq_false (by omega)]
    rfl

theorem p_heldVersionSS (xss : List (List VV)) (k : Int) (h0 : 0 ≤ k) (hk : enSS k xss < 9223372036854775000) (hl : xss.length < 9223372036854775000) : laws_heldVersionSS_S (mkSS k xss, k, ()) = some (enSS k xss, ()) := by
  unfold laws_heldVersionSS_S
  simp only
  have key : ∀ (rs pre : List (List VV)) (k : Int), 0 ≤ k → enSS k rs < 9223372036854775000 → pre.length + rs.length < 9223372036854775000 →
      iter (fun v => laws_heldVersionSS_D2 (pre ++ mkSS k rs, ()) v _ some) (k, (pre.length : Int), ()) = some (.inr (enSS k rs, ())) := by
    intro rs
    induction rs with
    | nil =>
      intro pre k h0 hk hl
      rw [iter_eq]
      unfold laws_heldVersionSS_D2
      simp only [mkSS, List.append_nil]
      rw [decide_eq_false (by omega)]
      simp [enSS]
    | cons r rs ih =>
      intro pre k h0 hk hl
      have hge := enSS_ge (k + 5 * r.length) rs
      simp only [enSS] at hk
      simp only [List.length_cons] at hl
      rw [iter_eq]
      simp only [mkSS]
      have := ih (pre ++ [mkL mk5 5 k r.length]) (k + 5 * r.length) (by omega) hk (by simp; omega)
      simp only [List.length_append, List.length_cons, List.length_nil, Nat.zero_add, Int.natCast_add, List.append_assoc, List.singleton_append] at this
      rw [show ((1 : Nat) : Int) = 1 from rfl] at this
      simp only [enSS]
      rw [← this]
      have hB : laws_heldVersionSS_D2 (pre ++ mkL mk5 5 k r.length :: mkSS (k + 5 * r.length) rs, ()) (k, (pre.length : Int), ()) _ some = some (.inl (k + 5 * r.length, (pre.length : Int) + 1, ())) := by
        unfold laws_heldVersionSS_D2
        have hg : lAt (pre ++ mkL mk5 5 k r.length :: mkSS (k + 5 * r.length) rs) (pre.length : Int) = some (mkL mk5 5 k r.length) := by
          rw [lAt_nat (by simp)]; simp
        simp only [hg, Option.bind_some, p_heldVersionS r.length k h0 (by omega)]
        rw [decide_eq_true (by simp; omega), decide_eq_false (by omega), wr1 (by omega) (by omega)]
        rfl
      rw [hB]; rfl
  have := key xss [] k h0 hk (by simpa using hl)
  simp only [List.length_nil, List.nil_append, Int.natCast_zero] at this
  rw [this]; rfl

def before (a b : VM) : Prop := a.1 < b.1 ∨ (a.1 = b.1 ∧ a.2.1 < b.2.1)

instance (a b : VM) : Decidable (before a b) := by unfold before; infer_instance

theorem p_before (a b : VM) : spec_l5Before_S ((a.1, a.2.1, ()), (b.1, b.2.1, ()), ()) = some (decide (before a b), ()) := by
  unfold spec_l5Before_S before
  by_cases h1 : a.1 < b.1
  · simp [h1]
  · by_cases h2 : a.1 = b.1
    · simp [h2]
    · have h3 : (a.1 == b.1) = false := by simpa using h2
      simp [h1, h2, h3]

theorem p_cmp (a b : Int) : cmp_Compare_int_S (a, b, ()) = some (if a < b then -1 else if a > b then 1 else 0, ()) := by
  unfold cmp_Compare_int_S cmp_isNaN_int_S
  by_cases h1 : a < b
  · simp [h1]
  · by_cases h2 : a > b <;> simp [h1, h2]

theorem p_or (a b : Int) : cmp_Or_int_S ([a, b], ()) = some (if a ≠ 0 then a else b, ()) := by
  unfold cmp_Or_int_S
  have l0 : lAt [a, b] 0 = some a := rfl
  have l1 : lAt [a, b] 1 = some b := rfl
  have w0 : IntKind.i64.wrap ((0 : Int) + 1) = 1 := wr1 (by omega) (by omega)
  have w1 : IntKind.i64.wrap ((1 : Int) + 1) = 2 := wr1 (by omega) (by omega)
  have B0 : cmp_Or_int_D3 (0, [a, b], 2, ()) (0, ()) ((Int × Unit) ⊕ ((Int × Unit) ⊕ Unit)) some = some (bif a != 0 then .inr (.inl (a, ())) else .inl (1, ())) := by
    unfold cmp_Or_int_D3
    simp only [l0, Option.bind_some, w0]
    cases (a != 0 : Bool) <;> rfl
  have B1 : cmp_Or_int_D3 (0, [a, b], 2, ()) (1, ()) ((Int × Unit) ⊕ ((Int × Unit) ⊕ Unit)) some = some (bif b != 0 then .inr (.inl (b, ())) else .inl (2, ())) := by
    unfold cmp_Or_int_D3
    simp only [l1, Option.bind_some, w1]
    cases (b != 0 : Bool) <;> rfl
  have B2 : cmp_Or_int_D3 (0, [a, b], 2, ()) (2, ()) ((Int × Unit) ⊕ ((Int × Unit) ⊕ Unit)) some = some (.inr (.inr ())) := by
    unfold cmp_Or_int_D3
    rfl
  have e : (((List.length [a, b] : Nat) : Int)) = 2 := rfl
  simp only [e]
  rw [iter_eq, B0]
  by_cases ha : a = 0
  · subst ha
    simp only [bne_self_eq_false, cond_false, Option.bind_some]
    rw [iter_eq, B1]
    by_cases hb : b = 0
    · subst hb
      simp only [bne_self_eq_false, cond_false, Option.bind_some]
      rw [iter_eq, B2]; rfl
    · have : (b != 0) = true := by simpa using hb
      rw [this]; simp [sumC]
  · have : (a != 0) = true := by simpa using ha
    rw [this]; simp [sumC, ha]

theorem p_compareMarks (a b : VM) : ∃ n : Int, impl_compareMarks_S ((a.1, a.2.1, ()), (b.1, b.2.1, ()), ()) = some (n, ()) ∧ (n ≥ 0 ↔ ¬ before a b) := by
  unfold impl_compareMarks_S
  simp only [p_cmp, p_or, Option.bind_some]
  refine ⟨_, rfl, ?_⟩
  unfold before
  by_cases h1 : a.1 < b.1
  · simp [h1]
  · by_cases h2 : a.1 > b.1
    · simp [h1, h2]; omega
    · have h3 : a.1 = b.1 := by omega
      simp [h3]
      by_cases h4 : a.2.1 < b.2.1
      · simp [h4]
      · by_cases h5 : a.2.1 > b.2.1 <;> simp [h4, h5] <;> omega

def rdAt (l : List VM) (i : Nat) : Prop := ∃ h : i < l.length, inB l[i].1 0 5 = true ∧ inB l[i].2.1 0 999 = true ∧ ∀ h2 : 0 < i, before (l[i - 1]'(by omega)) l[i]

def wrAt (l : List VM) (i : Nat) : Prop := ∃ h : i < l.length, inB l[i].1 0 5 = true ∧ inB l[i].2.1 (-1) 99 = true ∧ ∀ h2 : 0 < i, (l[i - 1]'(by omega)).1 < l[i].1

def okRd (l : List VM) : Prop := ∀ i, i < l.length → rdAt l i

def okWr (l : List VM) : Prop := ∀ i, i < l.length → wrAt l i

theorem p_implReads {l : List VM} (hl : l.length ≤ 1048576) : impl_areReads_S (l, ()) = some (dec (okRd l) && decide (l.length ≤ 60), ()) := by
  have e : impl_areReads_S (l, ()) = bif dec (okRd l) then some (decide (((l.length : Nat) : Int) ≤ 60), ()) else some (false, ()) := by
    unfold impl_areReads_S
    refine all_loopK (n := l.length) (c := rdAt l) (fun i hi => ?_) ⟨.inr (.inr (.inr ())), ?_, rfl⟩
    · unfold impl_areReads_D2
      simp only [lAt_nat hi, Option.bind_some, p_isKey, p_implIn]
      rw [decide_eq_true (by omega)]
      simp only [cond_true]
      cases h1 : inB l[i].1 0 5 with
      | false => exact ⟨fun ⟨_, h, _⟩ => (by rw [h1] at h; cases h), fun _ => ⟨.inl _, rfl, rfl⟩⟩
      | true =>
        simp only [Bool.not_true, cond_false]
        cases h2 : inB l[i].2.1 0 999 with
        | false => exact ⟨fun ⟨_, _, h, _⟩ => (by rw [h2] at h; cases h), fun _ => ⟨.inr (.inl _), rfl, rfl⟩⟩
        | true =>
          simp only [Bool.not_true, cond_false]
          rw [wrap_succ hi (by omega)]
          by_cases h3 : 0 < i
          · have hlt : i - 1 < l.length := by omega
            rw [decide_eq_true (show (i : Int) > 0 by omega), show IntKind.i64.wrap ((i : Int) - 1) = ((i - 1 : Nat) : Int) from by rw [wrap_id (by omega) (by omega)]; omega, lAt_nat hlt]
            obtain ⟨n, e1, e2⟩ := p_compareMarks l[i - 1] l[i]
            simp only [cond_true, Option.bind_some, e1]
            by_cases hb : before l[i - 1] l[i]
            · rw [decide_eq_false (fun h => e2.1 h hb)]
              exact ⟨fun _ => rfl, fun h => absurd ⟨hi, h1, h2, fun _ => hb⟩ h⟩
            · rw [decide_eq_true (e2.2 hb)]
              exact ⟨fun ⟨_, _, _, h⟩ => absurd (h h3) hb, fun _ => ⟨.inr (.inr (.inl _)), rfl, rfl⟩⟩
          · rw [decide_eq_false (show ¬ (i : Int) > 0 by omega)]
            exact ⟨fun _ => rfl, fun h => absurd ⟨hi, h1, h2, fun h => absurd h h3⟩ h⟩
    · unfold impl_areReads_D2
      simp only
      rw [decide_eq_false (by omega)]; rfl
  rw [e]
  have d : decide (((l.length : Nat) : Int) ≤ 60) = decide (l.length ≤ 60) := decide_eq_decide.2 (by omega)
  rw [d]
  cases dec (okRd l) <;> simp

theorem p_implWrites {l : List VM} (hl : l.length ≤ 1048576) : impl_areWrites_S (l, ()) = some (dec (okWr l), ()) := by
  have e : impl_areWrites_S (l, ()) = bif dec (okWr l) then some (true, ()) else some (false, ()) := by
    unfold impl_areWrites_S
    refine all_loopK (n := l.length) (c := wrAt l) (fun i hi => ?_) ⟨.inr (.inr (.inr ())), ?_, rfl⟩
    · unfold impl_areWrites_D2
      simp only [lAt_nat hi, Option.bind_some, p_isKey, p_isValue]
      rw [decide_eq_true (by omega)]
      simp only [cond_true]
      cases h1 : inB l[i].1 0 5 with
      | false => exact ⟨fun ⟨_, h, _⟩ => (by rw [h1] at h; cases h), fun _ => ⟨.inl _, rfl, rfl⟩⟩
      | true =>
        simp only [Bool.not_true, cond_false]
        cases h2 : inB l[i].2.1 (-1) 99 with
        | false => exact ⟨fun ⟨_, _, h, _⟩ => (by rw [h2] at h; cases h), fun _ => ⟨.inr (.inl _), rfl, rfl⟩⟩
        | true =>
          simp only [Bool.not_true, cond_false]
          rw [wrap_succ hi (by omega)]
          by_cases h3 : 0 < i
          · have hlt : i - 1 < l.length := by omega
            rw [decide_eq_true (show (i : Int) > 0 by omega), show IntKind.i64.wrap ((i : Int) - 1) = ((i - 1 : Nat) : Int) from by rw [wrap_id (by omega) (by omega)]; omega, lAt_nat hlt]
            simp only [cond_true, Option.bind_some]
            by_cases hb : l[i - 1].1 < l[i].1
            · rw [decide_eq_false (by omega)]
              exact ⟨fun _ => rfl, fun h => absurd ⟨hi, h1, h2, fun _ => hb⟩ h⟩
            · rw [decide_eq_true (by omega)]
              exact ⟨fun ⟨_, _, _, h⟩ => absurd (h h3) hb, fun _ => ⟨.inr (.inr (.inl _)), rfl, rfl⟩⟩
          · rw [decide_eq_false (show ¬ (i : Int) > 0 by omega)]
            exact ⟨fun _ => rfl, fun h => absurd ⟨hi, h1, h2, fun h => absurd h h3⟩ h⟩
    · unfold impl_areWrites_D2
      simp only
      rw [decide_eq_false (by omega)]; rfl
  rw [e]
  cases dec (okWr l) <;> rfl

/-- A valid transaction. -/
noncomputable def okT (id sc st be lo hi co : Int) (rd wr : List VM) : Bool :=
  dec (okRd rd) && dec (okWr wr) && inB id 1 9 && inB sc 1 4 && inB be 0 999 && inB st 1 3 && inB lo 0 999 && inB hi 1 1000 && ((st == 2) == decide (co > 0)) && inB co 0 999 && decide (rd.length ≤ 60)

theorem p_specT {id sc st be lo hi co : Int} {rd wr : List VM} (hr : rd.length ≤ 1048576) (hw : wr.length ≤ 1048576) : spec_IsValidTransaction_S ((id, sc, st, be, lo, hi, co, rd, wr, ()), ()) = some (okT id sc st be lo hi co rd wr, ()) := by
  unfold spec_IsValidTransaction_S
  simp only
  refine (all_loopK (n := rd.length) (c := rdAt rd) (no := some (false, ())) (X := bif dec (okWr wr) then some (inB id 1 9 && inB sc 1 4 && inB be 0 999 && inB st 1 3 && inB lo 0 999 && inB hi 1 1000 && ((st == 2) == decide (co > 0)) && inB co 0 999 && decide (rd.length ≤ 60), ()) else some (false, ())) (fun i hi' => ?_) ⟨.inr (.inr (.inr ())), ?_, ?_⟩).trans ?_
  · unfold spec_IsValidTransaction_D2
    simp only [lAt_nat hi', Option.bind_some, p_specIn]
    rw [decide_eq_true (by omega)]
    simp only [cond_true]
    cases h1 : inB rd[i].1 0 5 with
    | false => exact ⟨fun ⟨_, h, _⟩ => (by rw [h1] at h; cases h), fun _ => ⟨.inl _, rfl, rfl⟩⟩
    | true =>
      simp only [Bool.not_true, cond_false]
      cases h2 : inB rd[i].2.1 0 999 with
      | false => exact ⟨fun ⟨_, _, h, _⟩ => (by rw [h2] at h; cases h), fun _ => ⟨.inr (.inl _), rfl, rfl⟩⟩
      | true =>
        simp only [Bool.not_true, cond_false]
        rw [wrap_succ hi' (by omega)]
        by_cases h3 : 0 < i
        · have hlt : i - 1 < rd.length := by omega
          rw [decide_eq_true (show (i : Int) > 0 by omega), show IntKind.i64.wrap ((i : Int) - 1) = ((i - 1 : Nat) : Int) from by rw [wrap_id (by omega) (by omega)]; omega, lAt_nat hlt]
          simp only [cond_true, Option.bind_some, p_before]
          by_cases hb : before rd[i - 1] rd[i]
          · rw [decide_eq_true hb]
            exact ⟨fun _ => rfl, fun h => absurd ⟨hi', h1, h2, fun _ => hb⟩ h⟩
          · rw [decide_eq_false hb]
            exact ⟨fun ⟨_, _, _, h⟩ => absurd (h h3) hb, fun _ => ⟨.inr (.inr (.inl _)), rfl, rfl⟩⟩
        · rw [decide_eq_false (show ¬ (i : Int) > 0 by omega)]
          exact ⟨fun _ => rfl, fun h => absurd ⟨hi', h1, h2, fun h => absurd h h3⟩ h⟩
  · unfold spec_IsValidTransaction_D2
    simp only
    rw [decide_eq_false (by omega)]; rfl
  · refine all_loopK (n := wr.length) (c := wrAt wr) (fun i hi' => ?_) ⟨.inr (.inr (.inr ())), ?_, ?_⟩
    · unfold spec_IsValidTransaction_D8
      simp only [lAt_nat hi', Option.bind_some, p_specIn]
      rw [decide_eq_true (by omega)]
      simp only [cond_true]
      cases h1 : inB wr[i].1 0 5 with
      | false => exact ⟨fun ⟨_, h, _⟩ => (by rw [h1] at h; cases h), fun _ => ⟨.inl _, rfl, rfl⟩⟩
      | true =>
        simp only [Bool.not_true, cond_false]
        cases h2 : inB wr[i].2.1 (-1) 99 with
        | false => exact ⟨fun ⟨_, _, h, _⟩ => (by rw [h2] at h; cases h), fun _ => ⟨.inr (.inl _), rfl, rfl⟩⟩
        | true =>
          simp only [Bool.not_true, cond_false]
          rw [wrap_succ hi' (by omega)]
          by_cases h3 : 0 < i
          · have hlt : i - 1 < wr.length := by omega
            rw [decide_eq_true (show (i : Int) > 0 by omega), show IntKind.i64.wrap ((i : Int) - 1) = ((i - 1 : Nat) : Int) from by rw [wrap_id (by omega) (by omega)]; omega, lAt_nat hlt]
            simp only [cond_true, Option.bind_some]
            by_cases hb : wr[i - 1].1 < wr[i].1
            · rw [decide_eq_false (by omega)]
              exact ⟨fun _ => rfl, fun h => absurd ⟨hi', h1, h2, fun _ => hb⟩ h⟩
            · rw [decide_eq_true (by omega)]
              exact ⟨fun ⟨_, _, _, h⟩ => absurd (h h3) hb, fun _ => ⟨.inr (.inr (.inl _)), rfl, rfl⟩⟩
          · rw [decide_eq_false (show ¬ (i : Int) > 0 by omega)]
            exact ⟨fun _ => rfl, fun h => absurd ⟨hi', h1, h2, fun h => absurd h h3⟩ h⟩
    · unfold spec_IsValidTransaction_D8
      simp only
      rw [decide_eq_false (by omega)]; rfl
    · simp only [sumC, p_specIn, Option.bind_some]
      have d : decide (((rd.length : Nat) : Int) ≤ 60) = decide (rd.length ≤ 60) := decide_eq_decide.2 (by omega)
      rw [d]
      cases inB id 1 9 <;> cases inB sc 1 4 <;> cases inB be 0 999 <;> cases inB st 1 3 <;> cases inB lo 0 999 <;> cases inB hi 1 1000 <;> cases ((st == 2) == decide (co > 0) : Bool) <;> cases inB co 0 999 <;> rfl
  · unfold okT
    show (bif dec (okRd rd) then _ else _) = _
    cases dec (okRd rd) <;> cases dec (okWr wr) <;> simp

theorem append_loopK {α : Type} {a : List α} (ha : a.length ≤ 1048576) {B : Int × List α × Unit → Option ((Int × List α × Unit) ⊕ (List α × Unit))}
    (hB : ∀ (i : Nat) (h : i < a.length) (out : List α), out.length = i → B ((i : Int), out, ()) = some (.inl (((i + 1 : Nat) : Int), out ++ [a[i]], ()))) (hend : ∀ out, B ((a.length : Int), out, ()) = some (.inr (out, ()))) :
    ((iter B (0, [], ())).bind fun p => some (p.1, ())) = some (a, ()) := by
  rw [iter_up' (r := (a, ())) a.length (fun i => ((i : Int), a.take i, ()))]
  · rfl
  · simp
  · intro i hi
    rw [hB i hi _ (by simp; omega)]
    have e : a.take i ++ [a[i]] = a.take (i + 1) := by rw [List.take_append_getElem hi]
    rw [e]
  · simp [hend]

theorem p_specCopy {s : List (List VV)} (hs : SmallCs s) : spec_l4Copy_S ((s, ()), ()) = some (s, ()) := by
  have hn := hs.1
  unfold spec_l4Copy_S
  refine append_loopK hn (fun i h out ho => ?_) fun out => ?_
  · have hsm : s[i].length ≤ 1048576 := hs.2 _ (List.getElem_mem h)
    unfold spec_l4Copy_D3 spec_l3Copy_S
    simp only [lAt_nat h, Option.bind_some]
    rw [decide_eq_true (by omega), if_pos (by omega)]
    simp only [cond_true, Option.bind_some, List.length_append, List.length_cons, List.length_nil]
    rw [if_pos (by omega), wrap_succ h (by omega)]
  · unfold spec_l4Copy_D3
    simp only
    rw [decide_eq_false (by omega)]; rfl

theorem p_clone {l : List VV} (hl : l.length ≤ 1048576) : slices_Clone_impl_Version_S (l, ()) = some (l, ()) := by
  unfold slices_Clone_impl_Version_S
  simp only
  rw [if_pos (by omega)]
  cases l with
  | nil => exact both_self _
  | cons a l => rfl

theorem p_implCopy {s : List (List VV)} (hs : SmallCs s) : impl_Store_copied_S ((s, ()), ()) = some (s, ()) := by
  have hn := hs.1
  unfold impl_Store_copied_S
  refine append_loopK hn (fun i h out ho => ?_) fun out => ?_
  · have hsm : s[i].length ≤ 1048576 := hs.2 _ (List.getElem_mem h)
    unfold impl_Store_copied_D3
    simp only [lAt_nat h, Option.bind_some, p_clone hsm, List.length_append, List.length_cons, List.length_nil]
    rw [decide_eq_true (by omega), if_pos (by omega), wrap_succ h (by omega)]
    rfl
  · unfold impl_Store_copied_D3
    simp only
    rw [decide_eq_false (by omega)]; rfl

theorem p_txCopy {id sc st be lo hi co : Int} {rd wr : List VM} (hr : rd.length ≤ 1048576) (hw : wr.length ≤ 1048576) : spec_l5Copy_S ((id, sc, st, be, lo, hi, co, rd, wr, ()), ()) = some (id, sc, st, be, lo, hi, co, rd, wr, ()) := by
  unfold spec_l5Copy_S
  simp only
  rw [if_pos (by omega), if_pos (by omega)]

def fvI (l : List VV) (c : Int) : Option Nat := (l.map (fun v => v.2.2.1)).findIdx? (fun x => x == c)

def fx : Option Nat → Int | some i => (i : Int) | none => -1

theorem dec_bool (b : Bool) : dec (b = true) = b := by
  cases b
  · exact dec_false (by simp)
  · exact dec_true rfl

theorem find_loop {α : Type} {l : List α} {p : α → Bool} (hn : l.length ≤ 1048576) {B : Int × Unit → Option ((Int × Unit) ⊕ ((Int × Unit) ⊕ Unit))}
    (hB : ∀ i (h : i < l.length), B ((i : Int), ()) = some (bif p l[i] then .inr (.inl ((i : Int), ())) else .inl (((i + 1 : Nat) : Int), ()))) (hend : B ((l.length : Int), ()) = some (.inr (.inr ()))) :
    ((iter B (0, ())).bind fun q => sumC q (fun q => some (q.1, ())) fun _ => some (-1, ())) = some (fx (l.findIdx? p), ()) := by
  obtain ⟨n, e, h⟩ := indexFunc (ρ := Unit) (l := l) (p := fun x => p x = true) hn (B := B) (fun i h => by rw [hB i h, dec_bool]) hend
  rw [e]
  rcases h with ⟨i, hi, rfl, hp, hq⟩ | ⟨rfl, hq⟩
  · have : l.findIdx? p = some i := List.findIdx?_eq_some_iff_getElem.2 ⟨hi, hp, fun j hj => by simpa using hq j hj⟩
    rw [this]; rfl
  · have : l.findIdx? p = none := List.findIdx?_eq_none_iff.2 fun x hx => by simpa using hq x hx
    rw [this]; rfl

theorem p_specFV {l : List VV} (hl : l.length ≤ 1048576) (c : Int) : spec_FindVersion_S (l, c, ()) = some (fx (fvI l c), ()) := by
  unfold spec_FindVersion_S fvI
  rw [List.findIdx?_map]
  refine find_loop hl (fun i h => ?_) ?_
  · unfold spec_FindVersion_D2
    simp only [lAt_nat h, Option.bind_some]
    rw [decide_eq_true (by omega), wrap_succ h (by omega)]
    simp only [cond_true, Function.comp]
    cases (l[i].2.2.1 == c : Bool) <;> rfl
  · unfold spec_FindVersion_D2
    simp only
    rw [decide_eq_false (by omega)]; rfl

theorem p_implFV {l : List VV} (hl : l.length ≤ 1048576) (c : Int) : impl_FindVersion_S (l, c, ()) = some (fx (fvI l c), ()) := by
  unfold impl_FindVersion_S slices_IndexFunc__impl_FindVersion_1_S fvI
  rw [List.findIdx?_map]
  have := find_loop hl (p := (fun x => x == c) ∘ fun v : VV => v.2.2.1) (B := fun v => slices_IndexFunc__impl_FindVersion_1_D2 (l, (some c, ()), ((l.length : Nat) : Int), ()) v _ some) (fun i h => by
    unfold slices_IndexFunc__impl_FindVersion_1_D2 impl_FindVersion_1_S
    simp only [lAt_nat h, Option.bind_some]
    rw [decide_eq_true (by omega), wrap_succ h (by omega)]
    simp only [cond_true, Function.comp]
    cases (l[i].2.2.1 == c : Bool) <;> rfl) (by
    unfold slices_IndexFunc__impl_FindVersion_1_D2
    simp only
    rw [decide_eq_false (by omega)]; rfl)
  simp only [this, Option.bind_some]

theorem fvI_lt {l : List VV} {c : Int} {j : Nat} (h : fvI l c = some j) : j < l.length := by
  unfold fvI at h
  obtain ⟨h1, _⟩ := List.findIdx?_eq_some_iff_getElem.1 h
  simpa using h1

theorem fx_neg (o : Option Nat) : decide (fx o < 0) = o.isNone := by
  cases o with
  | none => rfl
  | some i => exact decide_eq_false (by simp only [fx]; omega)

/-- The chain of a key. -/
def chAt (s : List (List VV)) (m : VM) : Option (List VV) := s[m.1.toNat]?

def exAt (s : List (List VV)) (m : VM) : Prop := ∃ l j, chAt s m = some l ∧ fvI l m.2.1 = some j

theorem chain_of {s : List (List VV)} {m : VM} (h6 : s.length = 6) (hm : inB m.1 0 5 = true) : ∃ k : Nat, m.1 = (k : Int) ∧ k < s.length ∧ ∃ l, s[k]? = some l ∧ lAt s m.1 = some l ∧ chAt s m = some l ∧ l ∈ s := by
  unfold inB at hm
  simp only [Bool.and_eq_true, decide_eq_true_eq] at hm
  obtain ⟨k, hk⟩ := Int.eq_ofNat_of_zero_le hm.1
  have hlt : k < s.length := by omega
  refine ⟨k, hk, hlt, s[k], by simp [hlt], by rw [hk]; exact lAt_nat hlt, ?_, List.getElem_mem hlt⟩
  unfold chAt
  rw [hk]; simp [hlt]

theorem p_specEx {s : List (List VV)} (hs : SmallCs s) (hok : okSt s) {id sc st be lo hi co : Int} {rd wr : List VM} (hr : rd.length ≤ 1048576) (hw : wr.length ≤ 1048576) (hT : okT id sc st be lo hi co rd wr = true) (hrd : okRd rd) :
    spec_ReadsExist_S ((s, ()), (id, sc, st, be, lo, hi, co, rd, wr, ()), ()) = some (dec (∀ m ∈ rd, exAt s m), ()) := by
  unfold spec_ReadsExist_S
  simp only [p_specS hs, dec_true hok, p_specT hr hw, hT, Option.bind_some, Bool.not_true, cond_false]
  refine (all_loopK (n := rd.length) (c := fun i => ∃ h : i < rd.length, exAt s rd[i]) (X := some (true, ())) (no := some (false, ())) (fun i hi' => ?_) ⟨.inr (), ?_, rfl⟩).trans ?_
  · obtain ⟨_, h1, _⟩ := hrd i hi'
    obtain ⟨k, hk, hlt, l, e1, e2, e3, hm⟩ := chain_of hok.1 h1
    unfold spec_ReadsExist_D4
    simp only [lAt_nat hi', Option.bind_some, e2, p_specFV (hs.2 _ hm), fx_neg]
    rw [decide_eq_true (by omega), wrap_succ hi' (by omega)]
    simp only [cond_true]
    cases hf : fvI l rd[i].2.1 with
    | none =>
      refine ⟨fun ⟨_, l', j, h2, h3⟩ => ?_, fun _ => ⟨.inl (), rfl, rfl⟩⟩
      rw [e3] at h2; obtain rfl : l = l' := by simpa using h2
      rw [hf] at h3; cases h3
    | some j => exact ⟨fun _ => rfl, fun h => absurd ⟨hi', l, j, e3, hf⟩ h⟩
  · unfold spec_ReadsExist_D4
    simp only
    rw [decide_eq_false (by omega)]; rfl
  · rw [dec_congr (q := ∀ m ∈ rd, exAt s m)]
    · cases dec (∀ m ∈ rd, exAt s m) <;> rfl
    · constructor
      · intro h m hm
        obtain ⟨i, hi', rfl⟩ := List.getElem_of_mem hm
        exact (h i hi').2
      · intro h i hi'; exact ⟨hi', h _ (List.getElem_mem hi')⟩

theorem p_implFind {s : List (List VV)} (hs : SmallCs s) (h6 : s.length = 6) {m : VM} (hm : inB m.1 0 5 = true) : ∃ o : Option VV, impl_Store_find_S ((s, ()), (m.1, m.2.1, ()), ()) = some (o, ()) ∧ (o.isNone = false ↔ exAt s m) := by
  obtain ⟨k, hk, hlt, l, e1, e2, e3, hl⟩ := chain_of h6 hm
  unfold impl_Store_find_S
  simp only [e2, Option.bind_some, p_implFV (hs.2 _ hl), fx_neg]
  cases hf : fvI l m.2.1 with
  | none =>
    refine ⟨none, rfl, by simp, fun ⟨l', j, h2, h3⟩ => ?_⟩
    rw [e3] at h2; obtain rfl : l = l' := by simpa using h2
    rw [hf] at h3; cases h3
  | some j =>
    have hj := fvI_lt hf
    refine ⟨some l[j], ?_, fun _ => ⟨l, j, e3, hf⟩, fun _ => rfl⟩
    simp only [Option.isNone_some, cond_false, fx]
    rw [lAt_nat hj]; rfl

theorem p_implEx {s : List (List VV)} (hs : SmallCs s) (h6 : s.length = 6) {rd : List VM} (hr : rd.length ≤ 1048576) (hrd : okRd rd) :
    impl_Store_readsExist_S ((s, ()), rd, ()) = some (dec (∀ m ∈ rd, exAt s m), ()) := by
  unfold impl_Store_readsExist_S slices_ContainsFunc__impl_Store_readsExist_1_S slices_IndexFunc__impl_Store_readsExist_1_S
  obtain ⟨n, e, h⟩ := indexFunc (ρ := Unit) (l := rd) (p := fun m => ¬ exAt s m) hr (B := fun v => slices_IndexFunc__impl_Store_readsExist_1_D2 (rd, (some (s, ()), ()), ((rd.length : Nat) : Int), ()) v _ some) (fun i hi => by
      obtain ⟨_, h1, _⟩ := hrd i hi
      obtain ⟨o, e1, e2⟩ := p_implFind hs h6 h1
      unfold slices_IndexFunc__impl_Store_readsExist_1_D2 impl_Store_readsExist_1_S
      simp only [lAt_nat hi, Option.bind_some, e1]
      rw [decide_eq_true (by omega), wrap_succ hi (by omega)]
      simp only [cond_true]
      cases ho : o.isNone with
      | true => rw [dec_true (fun hh => by rw [e2.2 hh] at ho; cases ho)]; rfl
      | false => rw [dec_false (fun hh => hh (e2.1 ho))]; rfl) (by
      unfold slices_IndexFunc__impl_Store_readsExist_1_D2
      simp only
      rw [decide_eq_false (by omega)]; rfl)
  simp only [e, Option.bind_some]
  rcases h with ⟨i, hi, rfl, hp, _⟩ | ⟨rfl, hp⟩
  · rw [decide_eq_true (by omega), dec_false (fun hh => hp (hh _ (List.getElem_mem hi)))]; rfl
  · rw [decide_eq_false (by omega), dec_true (fun m hm => Classical.not_not.1 (hp m hm))]; rfl

/-- What a store is while a commit is installed: n versions more at most. -/
def stOK (s : List (List VV)) (n : Nat) : Prop := s.length = 6 ∧ ∀ l ∈ s, 0 < l.length ∧ l.length ≤ 50 + n

theorem stOK.set {s : List (List VV)} {n k : Nat} {l : List VV} (h : stOK s n) {n' : Nat} (hn : n ≤ n') (h0 : 0 < l.length) (h1 : l.length ≤ 50 + n') : stOK (s.set k l) n' := by
  refine ⟨by simpa using h.1, fun x hx => ?_⟩
  rcases List.mem_or_eq_of_mem_set hx with h2 | rfl
  · have := h.2 x h2; omega
  · exact ⟨h0, h1⟩

theorem stOK.small {s : List (List VV)} {n : Nat} (h : stOK s n) (hn : n ≤ 1000) : SmallCs s :=
  ⟨by have := h.1; omega, fun l hl => by have := h.2 l hl; unfold SmallC; omega⟩

theorem p_toReadMarkS (a : List VM) (ha : a.length ≤ 1048576) : laws_toReadMarkS_S (a, ()) = some (a, ()) := by
  unfold laws_toReadMarkS_S
  simp only
  rw [if_pos (by omega), Int.toNat_natCast]
  refine copy_loopK ha (fun i h out ho => ?_) fun out => ?_
  · unfold laws_toReadMarkS_D3
    simp only [lAt_nat h, Option.bind_some, laws_toReadMark_S]
    rw [decide_eq_true (by omega), if_pos (by omega), wrap_succ h (by omega)]
    simp [ho, h]
  · unfold laws_toReadMarkS_D3
    simp only
    rw [decide_eq_false (by omega)]; rfl

theorem p_toWriteS (a : List VM) (ha : a.length ≤ 1048576) : laws_toWriteS_S (a, ()) = some (a, ()) := by
  unfold laws_toWriteS_S
  simp only
  rw [if_pos (by omega), Int.toNat_natCast]
  refine copy_loopK ha (fun i h out ho => ?_) fun out => ?_
  · unfold laws_toWriteS_D3
    simp only [lAt_nat h, Option.bind_some, laws_toWrite_S]
    rw [decide_eq_true (by omega), if_pos (by omega), wrap_succ h (by omega)]
    simp [ho, h]
  · unfold laws_toWriteS_D3
    simp only
    rw [decide_eq_false (by omega)]; rfl

theorem p_szReadMarkS {a : List VM} {l : Int} (ha : a.length ≤ maxLen) (h0 : 0 ≤ l) (h1 : l ≤ 1048576) : SzOK (a.length ≤ 1048576) (laws_szReadMarkS_S (a, l, ())) := sz_flat ha h0 h1

theorem p_szWriteS {a : List VM} {l : Int} (ha : a.length ≤ maxLen) (h0 : 0 ≤ l) (h1 : l ≤ 1048576) : SzOK (a.length ≤ 1048576) (laws_szWriteS_S (a, l, ())) := sz_flat ha h0 h1

theorem p_eqStore {c : List (List VV)} (h : SmallCs c) : laws_eqStore_S ((c, ()), (c, ()), ()) = some (true, ()) := by
  have hh := h.small
  simp [laws_eqStore_S, p_eqVersionSS c hh.1 hh.row]

theorem p_markStore {c : List (List VV)} (h : SmallCs c) : laws_markStore_l_S (1, c, ()) = some (enSS 1 c, mkSS 1 c, ()) := by
  have hh := h.small
  simp [laws_markStore_l_S, p_markVersionSS c 1 (by omega) hh.2 hh.1]

theorem p_heldStore {c : List (List VV)} (h : SmallCs c) : laws_heldStore_S ((mkSS 1 c, ()), 1, ()) = some (enSS 1 c, ()) := by
  have hh := h.small
  have := enSS_ge 1 c
  have e : decide (enSS 1 c < 0) = false := decide_eq_false (by omega)
  simp only [laws_heldStore_S, p_heldVersionSS c 1 (by omega) hh.2 hh.1, Option.bind_some, e, cond_false]

theorem enSS_bound {c : List (List VV)} (h : SmallCs c) : 1 ≤ enSS 1 c ∧ enSS 1 c ≤ 1000000000000000000 := by
  have h1 := enSS_le 1 h.2
  have h2 := h.1
  have h3 := enSS_ge 1 c
  omega

def lkAt (l : List VM) (i : Nat) : Prop := ∃ h : i < l.length, inB l[i].1 0 5 = true ∧ inB l[i].2.1 1 9 = true ∧ ∀ h2 : 0 < i, (l[i - 1]'(by omega)).1 < l[i].1

def okLk (l : List VM) : Prop := ∀ i, i < l.length → lkAt l i

def wtAt (l : List VM) (i : Nat) : Prop := ∃ h : i < l.length, inB l[i].1 1 9 = true ∧ inB l[i].2.1 1 9 = true ∧ l[i].1 ≠ l[i].2.1 ∧ ∀ h2 : 0 < i, (l[i - 1]'(by omega)).1 < l[i].1

def okWt (l : List VM) : Prop := ∀ i, i < l.length → wtAt l i

theorem p_impl_AreLocks {l : List VM} (hl : l.length ≤ 1048576) : impl_AreLocks_S (l, ()) = some (dec (okLk l), ()) := by
  have e : impl_AreLocks_S (l, ()) = bif dec (okLk l) then some (true, ()) else some (false, ()) := by
    unfold impl_AreLocks_S
    refine all_loopK (n := l.length) (c := lkAt l) (fun i hi => ?_) ⟨.inr (.inr (.inr ())), ?_, rfl⟩
    · unfold impl_AreLocks_D2
      simp only [lAt_nat hi, Option.bind_some, p_isKey, p_isID]
      rw [decide_eq_true (by omega)]
      simp only [cond_true]
      cases h1 : inB l[i].1 0 5 with
      | false => exact ⟨fun ⟨_, h, _⟩ => (by rw [h1] at h; cases h), fun _ => ⟨_, rfl, rfl⟩⟩
      | true =>
        simp only [Bool.not_true, cond_false]
        cases h2 : inB l[i].2.1 1 9 with
        | false => exact ⟨fun ⟨_, _, h, _⟩ => (by rw [h2] at h; cases h), fun _ => ⟨_, rfl, rfl⟩⟩
        | true =>
        simp only [Bool.not_true, cond_false]
        rw [wrap_succ hi (by omega)]
        by_cases h3 : 0 < i
        · have hlt : i - 1 < l.length := by omega
          rw [decide_eq_true (show (i : Int) > 0 by omega), show IntKind.i64.wrap ((i : Int) - 1) = ((i - 1 : Nat) : Int) from by rw [wrap_id (by omega) (by omega)]; omega, lAt_nat hlt]
          simp only [cond_true, Option.bind_some]
          by_cases hb : l[i - 1].1 < l[i].1
          · rw [decide_eq_false (by omega)]
            exact ⟨fun _ => rfl, fun h => absurd ⟨hi, h1, h2, fun _ => hb⟩ h⟩
          · rw [decide_eq_true (by omega)]
            exact ⟨fun ⟨_, _, _, h⟩ => absurd (h h3) hb, fun _ => ⟨_, rfl, rfl⟩⟩
        · rw [decide_eq_false (show ¬ (i : Int) > 0 by omega)]
          exact ⟨fun _ => rfl, fun h => absurd ⟨hi, h1, h2, fun h => absurd h h3⟩ h⟩
    · unfold impl_AreLocks_D2
      simp only
      rw [decide_eq_false (by omega)]; rfl
  rw [e]
  cases dec (okLk l) <;> rfl

theorem p_spec_AreLocks {l : List VM} (hl : l.length ≤ 1048576) : spec_AreLocks_S (l, ()) = some (dec (okLk l), ()) := by
  have e : spec_AreLocks_S (l, ()) = bif dec (okLk l) then some (true, ()) else some (false, ()) := by
    unfold spec_AreLocks_S
    refine all_loopK (n := l.length) (c := lkAt l) (fun i hi => ?_) ⟨.inr (.inr (.inr ())), ?_, rfl⟩
    · unfold spec_AreLocks_D2
      simp only [lAt_nat hi, Option.bind_some, p_specIn]
      rw [decide_eq_true (by omega)]
      simp only [cond_true]
      cases h1 : inB l[i].1 0 5 with
      | false => exact ⟨fun ⟨_, h, _⟩ => (by rw [h1] at h; cases h), fun _ => ⟨_, rfl, rfl⟩⟩
      | true =>
        simp only [Bool.not_true, cond_false]
        cases h2 : inB l[i].2.1 1 9 with
        | false => exact ⟨fun ⟨_, _, h, _⟩ => (by rw [h2] at h; cases h), fun _ => ⟨_, rfl, rfl⟩⟩
        | true =>
        simp only [Bool.not_true, cond_false]
        rw [wrap_succ hi (by omega)]
        by_cases h3 : 0 < i
        · have hlt : i - 1 < l.length := by omega
          rw [decide_eq_true (show (i : Int) > 0 by omega), show IntKind.i64.wrap ((i : Int) - 1) = ((i - 1 : Nat) : Int) from by rw [wrap_id (by omega) (by omega)]; omega, lAt_nat hlt]
          simp only [cond_true, Option.bind_some]
          by_cases hb : l[i - 1].1 < l[i].1
          · rw [decide_eq_false (by omega)]
            exact ⟨fun _ => rfl, fun h => absurd ⟨hi, h1, h2, fun _ => hb⟩ h⟩
          · rw [decide_eq_true (by omega)]
            exact ⟨fun ⟨_, _, _, h⟩ => absurd (h h3) hb, fun _ => ⟨_, rfl, rfl⟩⟩
        · rw [decide_eq_false (show ¬ (i : Int) > 0 by omega)]
          exact ⟨fun _ => rfl, fun h => absurd ⟨hi, h1, h2, fun h => absurd h h3⟩ h⟩
    · unfold spec_AreLocks_D2
      simp only
      rw [decide_eq_false (by omega)]; rfl
  rw [e]
  cases dec (okLk l) <;> rfl

theorem p_impl_AreWaits {l : List VM} (hl : l.length ≤ 1048576) : impl_AreWaits_S (l, ()) = some (dec (okWt l), ()) := by
  have e : impl_AreWaits_S (l, ()) = bif dec (okWt l) then some (true, ()) else some (false, ()) := by
    unfold impl_AreWaits_S
    refine all_loopK (n := l.length) (c := wtAt l) (fun i hi => ?_) ⟨.inr (.inr (.inr (.inr ()))), ?_, rfl⟩
    · unfold impl_AreWaits_D2
      simp only [lAt_nat hi, Option.bind_some, p_isID]
      rw [decide_eq_true (by omega)]
      simp only [cond_true]
      cases h1 : inB l[i].1 1 9 with
      | false => exact ⟨fun ⟨_, h, _⟩ => (by rw [h1] at h; cases h), fun _ => ⟨_, rfl, rfl⟩⟩
      | true =>
        simp only [Bool.not_true, cond_false]
        cases h2 : inB l[i].2.1 1 9 with
        | false => exact ⟨fun ⟨_, _, h, _⟩ => (by rw [h2] at h; cases h), fun _ => ⟨_, rfl, rfl⟩⟩
        | true =>
        simp only [Bool.not_true, cond_false]
        by_cases hq : l[i].1 = l[i].2.1
        · rw [show (l[i].1 == l[i].2.1) = true from by simpa using hq]
          exact ⟨fun ⟨_, _, _, h, _⟩ => absurd hq h, fun _ => ⟨_, rfl, rfl⟩⟩
        rw [show (l[i].1 == l[i].2.1) = false from by simpa using hq]
        simp only [cond_false]
        rw [wrap_succ hi (by omega)]
        by_cases h3 : 0 < i
        · have hlt : i - 1 < l.length := by omega
          rw [decide_eq_true (show (i : Int) > 0 by omega), show IntKind.i64.wrap ((i : Int) - 1) = ((i - 1 : Nat) : Int) from by rw [wrap_id (by omega) (by omega)]; omega, lAt_nat hlt]
          simp only [cond_true, Option.bind_some]
          by_cases hb : l[i - 1].1 < l[i].1
          · rw [decide_eq_false (by omega)]
            exact ⟨fun _ => rfl, fun h => absurd ⟨hi, h1, h2, hq, fun _ => hb⟩ h⟩
          · rw [decide_eq_true (by omega)]
            exact ⟨fun ⟨_, _, _, _, h⟩ => absurd (h h3) hb, fun _ => ⟨_, rfl, rfl⟩⟩
        · rw [decide_eq_false (show ¬ (i : Int) > 0 by omega)]
          exact ⟨fun _ => rfl, fun h => absurd ⟨hi, h1, h2, hq, fun h => absurd h h3⟩ h⟩
    · unfold impl_AreWaits_D2
      simp only
      rw [decide_eq_false (by omega)]; rfl
  rw [e]
  cases dec (okWt l) <;> rfl

theorem p_spec_AreWaits {l : List VM} (hl : l.length ≤ 1048576) : spec_AreWaits_S (l, ()) = some (dec (okWt l), ()) := by
  have e : spec_AreWaits_S (l, ()) = bif dec (okWt l) then some (true, ()) else some (false, ()) := by
    unfold spec_AreWaits_S
    refine all_loopK (n := l.length) (c := wtAt l) (fun i hi => ?_) ⟨.inr (.inr (.inr (.inr ()))), ?_, rfl⟩
    · unfold spec_AreWaits_D2
      simp only [lAt_nat hi, Option.bind_some, p_specIn]
      rw [decide_eq_true (by omega)]
      simp only [cond_true]
      cases h1 : inB l[i].1 1 9 with
      | false => exact ⟨fun ⟨_, h, _⟩ => (by rw [h1] at h; cases h), fun _ => ⟨_, rfl, rfl⟩⟩
      | true =>
        simp only [Bool.not_true, cond_false]
        cases h2 : inB l[i].2.1 1 9 with
        | false => exact ⟨fun ⟨_, _, h, _⟩ => (by rw [h2] at h; cases h), fun _ => ⟨_, rfl, rfl⟩⟩
        | true =>
        simp only [Bool.not_true, cond_false]
        by_cases hq : l[i].1 = l[i].2.1
        · rw [show (l[i].1 == l[i].2.1) = true from by simpa using hq]
          exact ⟨fun ⟨_, _, _, h, _⟩ => absurd hq h, fun _ => ⟨_, rfl, rfl⟩⟩
        rw [show (l[i].1 == l[i].2.1) = false from by simpa using hq]
        simp only [cond_false]
        rw [wrap_succ hi (by omega)]
        by_cases h3 : 0 < i
        · have hlt : i - 1 < l.length := by omega
          rw [decide_eq_true (show (i : Int) > 0 by omega), show IntKind.i64.wrap ((i : Int) - 1) = ((i - 1 : Nat) : Int) from by rw [wrap_id (by omega) (by omega)]; omega, lAt_nat hlt]
          simp only [cond_true, Option.bind_some]
          by_cases hb : l[i - 1].1 < l[i].1
          · rw [decide_eq_false (by omega)]
            exact ⟨fun _ => rfl, fun h => absurd ⟨hi, h1, h2, hq, fun _ => hb⟩ h⟩
          · rw [decide_eq_true (by omega)]
            exact ⟨fun ⟨_, _, _, _, h⟩ => absurd (h h3) hb, fun _ => ⟨_, rfl, rfl⟩⟩
        · rw [decide_eq_false (show ¬ (i : Int) > 0 by omega)]
          exact ⟨fun _ => rfl, fun h => absurd ⟨hi, h1, h2, hq, fun h => absurd h h3⟩ h⟩
    · unfold spec_AreWaits_D2
      simp only
      rw [decide_eq_false (by omega)]; rfl
  rw [e]
  cases dec (okWt l) <;> rfl

abbrev TX := Int × Int × Int × Int × Int × Int × Int × List VM × List VM × Unit

noncomputable def okTx (t : TX) : Bool := okT t.1 t.2.1 t.2.2.1 t.2.2.2.1 t.2.2.2.2.1 t.2.2.2.2.2.1 t.2.2.2.2.2.2.1 t.2.2.2.2.2.2.2.1 t.2.2.2.2.2.2.2.2.1

def smT (t : TX) : Prop := t.2.2.2.2.2.2.2.1.length ≤ 1048576 ∧ t.2.2.2.2.2.2.2.2.1.length ≤ 1048576

theorem p_implT {id sc st be lo hi co : Int} {rd wr : List VM} (hr : rd.length ≤ 1048576) (hw : wr.length ≤ 1048576) : impl_IsValidTransaction_S ((id, sc, st, be, lo, hi, co, rd, wr, ()), ()) = some (okT id sc st be lo hi co rd wr, ()) := by
  unfold impl_IsValidTransaction_S impl_isScheme_S impl_IsStamp_S
  simp only [p_isID, p_implIn, p_implReads hr, p_implWrites hw, Option.bind_some]
  unfold okT
  have e1 : ∀ n : Int, inB n 1 999 = (inB n 0 999 && decide (n > 0)) := fun n => by
    unfold inB
    rw [Bool.eq_iff_iff]
    simp only [Bool.and_eq_true, decide_eq_true_eq]
    omega
  have e2 : (co == 0) = (inB co 0 999 && !decide (co > 0)) := by
    unfold inB
    rw [Bool.eq_iff_iff]
    simp only [beq_iff_eq, Bool.and_eq_true, decide_eq_true_eq, Bool.not_eq_true', decide_eq_false_iff_not]
    omega
  simp only [e1, e2, bne]
  cases inB id 1 9 <;> cases inB sc 1 4 <;> cases inB be 0 999 <;> cases inB st 1 3 <;> cases inB lo 0 999 <;> cases inB hi 1 1000 <;> cases (st == 2 : Bool) <;> cases inB co 0 999 <;> cases decide (co > 0) <;> cases dec (okRd rd) <;> cases decide (rd.length ≤ 60) <;> cases dec (okWr wr) <;> rfl

theorem okT_rd {id sc st be lo hi co : Int} {rd wr : List VM} (h : okT id sc st be lo hi co rd wr = true) : okRd rd := by
  unfold okT at h
  simp only [Bool.and_eq_true] at h
  by_cases h2 : okRd rd
  · exact h2
  · have := h.1.1.1.1.1.1.1.1.1.1
    rw [dec_false h2] at this; cases this

/-- A transaction at its place. -/
def txAt (s : List (List VV)) (stamp : Int) (l : List TX) (i : Nat) : Prop := ∃ h : i < l.length, okTx l[i] = true ∧ (∀ h2 : 0 < i, (l[i - 1]'(by omega)).1 < l[i].1) ∧ l[i].2.2.2.1 ≤ stamp ∧ l[i].2.2.2.2.2.2.1 ≤ stamp ∧ (l[i].2.2.1 = 1 → ∀ m ∈ l[i].2.2.2.2.2.2.2.1, exAt s m)

def okTxs (s : List (List VV)) (stamp : Int) (l : List TX) : Prop := ∀ i, i < l.length → txAt s stamp l i

section
variable {s : List (List VV)} (hs : SmallCs s) (hok : okSt s) {l : List TX} (hl : l.length ≤ 1048576) (hsm : ∀ t ∈ l, smT t)
include hs hok hl hsm
theorem p_implTxs (ce : Bool) (lk wt : List VM) (stamp : Int) : impl_Engine_areTransactions_S ((ce, (s, ()), l, lk, wt, stamp, ()), ()) = some (dec (okTxs s stamp l) && decide (l.length ≤ 6), ()) := by
  have e : impl_Engine_areTransactions_S ((ce, (s, ()), l, lk, wt, stamp, ()), ()) = bif dec (okTxs s stamp l) then some (decide (((l.length : Nat) : Int) ≤ 6), ()) else some (false, ()) := by
    unfold impl_Engine_areTransactions_S
    refine all_loopK (n := l.length) (c := txAt s stamp l) (fun i hi => ?_) ⟨.inr (.inr (.inr (.inr (.inr (.inr (.inr (.inr ()))))))), ?_, rfl⟩
    · have hm := hsm _ (List.getElem_mem hi)
      unfold impl_Engine_areTransactions_D2
      simp only [lAt_nat hi, Option.bind_some, p_implT hm.1 hm.2]
      rw [decide_eq_true (by omega)]
      simp only [cond_true]
      cases h1 : okTx l[i] with
      | false =>
        have h1' := h1
        unfold okTx at h1'
        rw [h1']
        exact ⟨fun ⟨_, h, _⟩ => (by rw [h1] at h; cases h), fun _ => ⟨_, rfl, rfl⟩⟩
      | true =>
        have h1' := h1
        unfold okTx at h1'
        rw [h1']
        simp only [Bool.not_true, cond_false, p_implEx hs hok.1 hm.1 (okT_rd h1'), Option.bind_some]
        rw [wrap_succ hi (by omega)]
        by_cases h3 : 0 < i
        · have hlt : i - 1 < l.length := by omega
          rw [decide_eq_true (show (i : Int) > 0 by omega), show IntKind.i64.wrap ((i : Int) - 1) = ((i - 1 : Nat) : Int) from by rw [wrap_id (by omega) (by omega)]; omega, lAt_nat hlt]
          simp only [cond_true, Option.bind_some]
          by_cases hb : l[i - 1].1 < l[i].1
          case neg =>
            rw [decide_eq_true (by omega)]
            exact ⟨fun ⟨_, _, h, _⟩ => absurd (h h3) hb, fun _ => ⟨_, rfl, rfl⟩⟩
          rw [decide_eq_false (by omega)]
          simp only [cond_false]
          by_cases q1 : l[i].2.2.2.1 ≤ stamp
          case neg =>
            rw [decide_eq_true (by omega)]
            exact ⟨fun ⟨_, _, _, h, _⟩ => absurd h q1, fun _ => ⟨_, rfl, rfl⟩⟩
          rw [decide_eq_false (by omega)]
          simp only [cond_false]
          by_cases q2 : l[i].2.2.2.2.2.2.1 ≤ stamp
          case neg =>
            rw [decide_eq_true (by omega)]
            exact ⟨fun ⟨_, _, _, _, h, _⟩ => absurd h q2, fun _ => ⟨_, rfl, rfl⟩⟩
          rw [decide_eq_false (by omega)]
          simp only [cond_false]
          by_cases q3 : l[i].2.2.1 = 1
          · rw [show (l[i].2.2.1 == 1) = true from by simpa using q3]
            simp only [cond_true]
            by_cases q4 : ∀ m ∈ l[i].2.2.2.2.2.2.2.1, exAt s m
            · rw [dec_true q4]
              exact ⟨fun _ => rfl, fun h => absurd ⟨hi, h1, fun _ => hb, q1, q2, fun _ => q4⟩ h⟩
            · rw [dec_false q4]
              exact ⟨fun ⟨_, _, _, _, _, h⟩ => absurd (h q3) q4, fun _ => ⟨_, rfl, rfl⟩⟩
          · rw [show (l[i].2.2.1 == 1) = false from by simpa using q3]
            exact ⟨fun _ => rfl, fun h => absurd ⟨hi, h1, fun _ => hb, q1, q2, fun h => absurd h q3⟩ h⟩
        · rw [decide_eq_false (show ¬ (i : Int) > 0 by omega)]
          simp only [cond_false]
          by_cases q1 : l[i].2.2.2.1 ≤ stamp
          case neg =>
            rw [decide_eq_true (by omega)]
            exact ⟨fun ⟨_, _, _, h, _⟩ => absurd h q1, fun _ => ⟨_, rfl, rfl⟩⟩
          rw [decide_eq_false (by omega)]
          simp only [cond_false]
          by_cases q2 : l[i].2.2.2.2.2.2.1 ≤ stamp
          case neg =>
            rw [decide_eq_true (by omega)]
            exact ⟨fun ⟨_, _, _, _, h, _⟩ => absurd h q2, fun _ => ⟨_, rfl, rfl⟩⟩
          rw [decide_eq_false (by omega)]
          simp only [cond_false]
          by_cases q3 : l[i].2.2.1 = 1
          · rw [show (l[i].2.2.1 == 1) = true from by simpa using q3]
            simp only [cond_true]
            by_cases q4 : ∀ m ∈ l[i].2.2.2.2.2.2.2.1, exAt s m
            · rw [dec_true q4]
              exact ⟨fun _ => rfl, fun h => absurd ⟨hi, h1, fun h => absurd h h3, q1, q2, fun _ => q4⟩ h⟩
            · rw [dec_false q4]
              exact ⟨fun ⟨_, _, _, _, _, h⟩ => absurd (h q3) q4, fun _ => ⟨_, rfl, rfl⟩⟩
          · rw [show (l[i].2.2.1 == 1) = false from by simpa using q3]
            exact ⟨fun _ => rfl, fun h => absurd ⟨hi, h1, fun h => absurd h h3, q1, q2, fun h => absurd h q3⟩ h⟩
    · unfold impl_Engine_areTransactions_D2
      simp only
      rw [decide_eq_false (by omega)]; rfl
  rw [e]
  have d : decide (((l.length : Nat) : Int) ≤ 6) = decide (l.length ≤ 6) := decide_eq_decide.2 (by omega)
  rw [d]
  cases dec (okTxs s stamp l) <;> rfl
end

section
variable {s : List (List VV)} (hs : SmallCs s) (hok : okSt s) {l : List TX} (hl : l.length ≤ 1048576) (hsm : ∀ t ∈ l, smT t)
include hs hok hl hsm
theorem p_specTxs (ce : Bool) (lk wt : List VM) (stamp : Int) {τ : Type} (X no : Option τ) : ((iter (fun v => spec_IsValidEngine_D4 (ce, s, l, lk, wt, stamp, ()) v _ some) (0, ())).bind fun p => sumC p (fun p => no) fun p => sumC p (fun p => no) fun p => sumC p (fun p => no) fun p => sumC p (fun p => no) fun p => sumC p (fun p => no) fun p => sumC p (fun p => no) fun p => sumC p (fun p => no) fun p => sumC p (fun p => no) fun p => X) = bif dec (okTxs s stamp l) then X else no := by
  refine all_loopK (n := l.length) (c := txAt s stamp l) (fun i hi => ?_) ⟨.inr (.inr (.inr (.inr (.inr (.inr (.inr (.inr ()))))))), ?_, rfl⟩
  · have hm := hsm _ (List.getElem_mem hi)
    unfold spec_IsValidEngine_D4
    simp only [lAt_nat hi, Option.bind_some, p_specT hm.1 hm.2]
    rw [decide_eq_true (by omega)]
    simp only [cond_true]
    cases h1 : okTx l[i] with
    | false =>
      have h1' := h1
      unfold okTx at h1'
      rw [h1']
      exact ⟨fun ⟨_, h, _⟩ => (by rw [h1] at h; cases h), fun _ => ⟨_, rfl, rfl⟩⟩
    | true =>
      have h1' := h1
      unfold okTx at h1'
      rw [h1']
      simp only [Bool.not_true, cond_false, p_specEx hs hok hm.1 hm.2 h1' (okT_rd h1'), Option.bind_some]
      rw [wrap_succ hi (by omega)]
      by_cases h3 : 0 < i
      · have hlt : i - 1 < l.length := by omega
        rw [decide_eq_true (show (i : Int) > 0 by omega), show IntKind.i64.wrap ((i : Int) - 1) = ((i - 1 : Nat) : Int) from by rw [wrap_id (by omega) (by omega)]; omega, lAt_nat hlt]
        simp only [cond_true, Option.bind_some]
        by_cases hb : l[i - 1].1 < l[i].1
        case neg =>
          rw [decide_eq_true (by omega)]
          exact ⟨fun ⟨_, _, h, _⟩ => absurd (h h3) hb, fun _ => ⟨_, rfl, rfl⟩⟩
        rw [decide_eq_false (by omega)]
        simp only [cond_false]
        by_cases q1 : l[i].2.2.2.1 ≤ stamp
        case neg =>
          rw [decide_eq_true (by omega)]
          exact ⟨fun ⟨_, _, _, h, _⟩ => absurd h q1, fun _ => ⟨_, rfl, rfl⟩⟩
        rw [decide_eq_false (by omega)]
        simp only [cond_false]
        by_cases q2 : l[i].2.2.2.2.2.2.1 ≤ stamp
        case neg =>
          rw [decide_eq_true (by omega)]
          exact ⟨fun ⟨_, _, _, _, h, _⟩ => absurd h q2, fun _ => ⟨_, rfl, rfl⟩⟩
        rw [decide_eq_false (by omega)]
        simp only [cond_false]
        by_cases q3 : l[i].2.2.1 = 1
        · rw [show (l[i].2.2.1 == 1) = true from by simpa using q3]
          simp only [cond_true]
          by_cases q4 : ∀ m ∈ l[i].2.2.2.2.2.2.2.1, exAt s m
          · rw [dec_true q4]
            exact ⟨fun _ => rfl, fun h => absurd ⟨hi, h1, fun _ => hb, q1, q2, fun _ => q4⟩ h⟩
          · rw [dec_false q4]
            exact ⟨fun ⟨_, _, _, _, _, h⟩ => absurd (h q3) q4, fun _ => ⟨_, rfl, rfl⟩⟩
        · rw [show (l[i].2.2.1 == 1) = false from by simpa using q3]
          exact ⟨fun _ => rfl, fun h => absurd ⟨hi, h1, fun _ => hb, q1, q2, fun h => absurd h q3⟩ h⟩
      · rw [decide_eq_false (show ¬ (i : Int) > 0 by omega)]
        simp only [cond_false]
        by_cases q1 : l[i].2.2.2.1 ≤ stamp
        case neg =>
          rw [decide_eq_true (by omega)]
          exact ⟨fun ⟨_, _, _, h, _⟩ => absurd h q1, fun _ => ⟨_, rfl, rfl⟩⟩
        rw [decide_eq_false (by omega)]
        simp only [cond_false]
        by_cases q2 : l[i].2.2.2.2.2.2.1 ≤ stamp
        case neg =>
          rw [decide_eq_true (by omega)]
          exact ⟨fun ⟨_, _, _, _, h, _⟩ => absurd h q2, fun _ => ⟨_, rfl, rfl⟩⟩
        rw [decide_eq_false (by omega)]
        simp only [cond_false]
        by_cases q3 : l[i].2.2.1 = 1
        · rw [show (l[i].2.2.1 == 1) = true from by simpa using q3]
          simp only [cond_true]
          by_cases q4 : ∀ m ∈ l[i].2.2.2.2.2.2.2.1, exAt s m
          · rw [dec_true q4]
            exact ⟨fun _ => rfl, fun h => absurd ⟨hi, h1, fun h => absurd h h3, q1, q2, fun _ => q4⟩ h⟩
          · rw [dec_false q4]
            exact ⟨fun ⟨_, _, _, _, _, h⟩ => absurd (h q3) q4, fun _ => ⟨_, rfl, rfl⟩⟩
        · rw [show (l[i].2.2.1 == 1) = false from by simpa using q3]
          exact ⟨fun _ => rfl, fun h => absurd ⟨hi, h1, fun h => absurd h h3, q1, q2, fun h => absurd h q3⟩ h⟩
  · unfold spec_IsValidEngine_D4
    simp only
    rw [decide_eq_false (by omega)]; rfl
end

/-- Is this transaction active? -/
def actB (l : List TX) (id : Int) : Bool := match l.findIdx? (fun t => t.1 == id) with
  | some i => match l[i]? with
    | some t => t.2.2.1 == 1
    | none => false
  | none => false

theorem p_specFT {s : List (List VV)} {l : List TX} (hl : l.length ≤ 1048576) (ce : Bool) (lk wt : List VM) (stamp id : Int) : spec_FindTransaction_S ((ce, (s, ()), l, lk, wt, stamp, ()), id, ()) = some (fx (l.findIdx? (fun t => t.1 == id)), ()) := by
  unfold spec_FindTransaction_S
  refine find_loop hl (fun i h => ?_) ?_
  · unfold spec_FindTransaction_D2
    simp only [lAt_nat h, Option.bind_some]
    rw [decide_eq_true (by omega), wrap_succ h (by omega)]
    simp only [cond_true]
    cases (l[i].1 == id : Bool) <;> rfl
  · unfold spec_FindTransaction_D2
    simp only
    rw [decide_eq_false (by omega)]; rfl

theorem p_implFT {s : List (List VV)} {l : List TX} (hl : l.length ≤ 1048576) (ce : Bool) (lk wt : List VM) (stamp id : Int) : impl_FindTransaction_S ((ce, (s, ()), l, lk, wt, stamp, ()), id, ()) = some (fx (l.findIdx? (fun t => t.1 == id)), ()) := by
  unfold impl_FindTransaction_S slices_IndexFunc__impl_FindTransaction_1_S
  have := find_loop hl (p := fun t : TX => t.1 == id) (B := fun v => slices_IndexFunc__impl_FindTransaction_1_D2 (l, (some id, ()), ((l.length : Nat) : Int), ()) v _ some) (fun i h => by
    unfold slices_IndexFunc__impl_FindTransaction_1_D2 impl_FindTransaction_1_S
    simp only [lAt_nat h, Option.bind_some]
    rw [decide_eq_true (by omega), wrap_succ h (by omega)]
    simp only [cond_true]
    cases (l[i].1 == id : Bool) <;> rfl) (by
    unfold slices_IndexFunc__impl_FindTransaction_1_D2
    simp only
    rw [decide_eq_false (by omega)]; rfl)
  simp only [this, Option.bind_some]

theorem act_some (l : List TX) (id : Int) : (bif decide (fx (l.findIdx? (fun t => t.1 == id)) ≥ 0) then (lAt l (fx (l.findIdx? (fun t => t.1 == id)))).bind fun v => some (v.2.2.1 == 1, ()) else some (false, ())) = some (actB l id, ()) := by
  unfold actB
  cases h : l.findIdx? (fun t => t.1 == id) with
  | none => rfl
  | some i =>
    obtain ⟨hi, _⟩ := List.findIdx?_eq_some_iff_getElem.1 h
    have e1 : decide (fx (some i) ≥ 0) = true := decide_eq_true (by simp only [fx]; omega)
    have e2 : lAt l (fx (some i)) = some l[i] := lAt_nat hi
    rw [e1, e2]
    simp [hi]

theorem p_specAct {s : List (List VV)} {l : List TX} (hl : l.length ≤ 1048576) (ce : Bool) (lk wt : List VM) (stamp id : Int) : spec_l13Active_S ((ce, (s, ()), l, lk, wt, stamp, ()), id, ()) = some (actB l id, ()) := by
  unfold spec_l13Active_S
  simp only [p_specFT hl, Option.bind_some]
  exact act_some l id

theorem p_implAct {s : List (List VV)} {l : List TX} (hl : l.length ≤ 1048576) (ce : Bool) (lk wt : List VM) (stamp id : Int) : impl_Engine_isActive_S ((ce, (s, ()), l, lk, wt, stamp, ()), id, ()) = some (actB l id, ()) := by
  unfold impl_Engine_isActive_S
  simp only [p_implFT hl, Option.bind_some]
  exact act_some l id

section
variable {s : List (List VV)} {l : List TX} (hl : l.length ≤ 1048576)
include hl
theorem p_specLks (ce : Bool) (lk wt : List VM) (hk : lk.length ≤ 1048576) (stamp : Int) {τ : Type} (X no : Option τ) : ((iter (fun v => spec_IsValidEngine_D10 (ce, s, l, lk, wt, stamp, ()) v _ some) (0, ())).bind fun p => sumC p (fun p => no) fun p => X) = bif dec (∀ m ∈ lk, actB l m.2.1 = true) then X else no := by
  refine (all_loopK (n := lk.length) (c := fun i => ∃ h : i < lk.length, actB l lk[i].2.1 = true) (X := X) (no := no) (fun i hi => ?_) ⟨.inr (), ?_, rfl⟩).trans ?_
  · unfold spec_IsValidEngine_D10
    simp only [lAt_nat hi, Option.bind_some, p_specAct hl]
    rw [decide_eq_true (by omega), wrap_succ hi (by omega)]
    cases h : actB l lk[i].2.1 with
    | true => exact ⟨fun _ => rfl, fun hh => absurd ⟨hi, h⟩ hh⟩
    | false => exact ⟨fun ⟨_, hh⟩ => (by rw [h] at hh; cases hh), fun _ => ⟨_, rfl, rfl⟩⟩
  · unfold spec_IsValidEngine_D10
    simp only
    rw [decide_eq_false (by omega)]; rfl
  · rw [dec_congr (q := ∀ m ∈ lk, actB l m.2.1 = true)]
    constructor
    · intro h m hm
      obtain ⟨i, hi', rfl⟩ := List.getElem_of_mem hm
      exact (h i hi').2
    · intro h i hi'; exact ⟨hi', h _ (List.getElem_mem hi')⟩
theorem p_specWts (ce : Bool) (lk wt : List VM) (hk : wt.length ≤ 1048576) (stamp : Int) {τ : Type} (X no : Option τ) : ((iter (fun v => spec_IsValidEngine_D15 (ce, s, l, lk, wt, stamp, ()) v _ some) (0, ())).bind fun p => sumC p (fun p => no) fun p => sumC p (fun p => no) fun p => X) = bif dec (∀ m ∈ wt, actB l m.1 = true ∧ actB l m.2.1 = true) then X else no := by
  refine (all_loopK (n := wt.length) (c := fun i => ∃ h : i < wt.length, actB l wt[i].1 = true ∧ actB l wt[i].2.1 = true) (X := X) (no := no) (fun i hi => ?_) ⟨.inr (.inr ()), ?_, rfl⟩).trans ?_
  · unfold spec_IsValidEngine_D15
    simp only [lAt_nat hi, Option.bind_some, p_specAct hl]
    rw [decide_eq_true (by omega), wrap_succ hi (by omega)]
    cases h : actB l wt[i].1 with
    | false => exact ⟨fun ⟨_, hh, _⟩ => (by rw [h] at hh; cases hh), fun _ => ⟨_, rfl, rfl⟩⟩
    | true =>
      cases h' : actB l wt[i].2.1 with
      | true => exact ⟨fun _ => rfl, fun hh => absurd ⟨hi, h, h'⟩ hh⟩
      | false => exact ⟨fun ⟨_, _, hh⟩ => (by rw [h'] at hh; cases hh), fun _ => ⟨_, rfl, rfl⟩⟩
  · unfold spec_IsValidEngine_D15
    simp only
    rw [decide_eq_false (by omega)]; rfl
  · rw [dec_congr (q := ∀ m ∈ wt, actB l m.1 = true ∧ actB l m.2.1 = true)]
    constructor
    · intro h m hm
      obtain ⟨i, hi', rfl⟩ := List.getElem_of_mem hm
      exact (h i hi').2
    · intro h i hi'; exact ⟨hi', h _ (List.getElem_mem hi')⟩
theorem p_implLks (ce : Bool) (lk wt : List VM) (hk : lk.length ≤ 1048576) (stamp : Int) : slices_ContainsFunc__impl_IsValidEngine_1_S (lk, (some (ce, (s, ()), l, lk, wt, stamp, ()), ()), ()) = some (!dec (∀ m ∈ lk, actB l m.2.1 = true), ()) := by
  unfold slices_ContainsFunc__impl_IsValidEngine_1_S slices_IndexFunc__impl_IsValidEngine_1_S
  obtain ⟨n, e, h⟩ := indexFunc (ρ := Unit) (l := lk) (p := fun m => ¬ actB l m.2.1 = true) hk (B := fun v => slices_IndexFunc__impl_IsValidEngine_1_D2 (lk, (some (ce, (s, ()), l, lk, wt, stamp, ()), ()), ((lk.length : Nat) : Int), ()) v _ some) (fun i hi => by
      unfold slices_IndexFunc__impl_IsValidEngine_1_D2 impl_IsValidEngine_1_S
      simp only [lAt_nat hi, Option.bind_some, p_implAct hl]
      rw [decide_eq_true (by omega), wrap_succ hi (by omega)]
      cases ho : actB l lk[i].2.1 with
      | true => rw [dec_false (fun hh => hh rfl)]; rfl
      | false => rw [dec_true (by simp)]; rfl) (by
      unfold slices_IndexFunc__impl_IsValidEngine_1_D2
      simp only
      rw [decide_eq_false (by omega)]; rfl)
  simp only [e, Option.bind_some]
  rcases h with ⟨i, hi, rfl, hp, _⟩ | ⟨rfl, hp⟩
  · rw [decide_eq_true (by omega), dec_false (fun hh => hp (hh _ (List.getElem_mem hi)))]; rfl
  · rw [decide_eq_false (by omega), dec_true (fun m hm => Classical.not_not.1 (hp m hm))]; rfl
theorem p_implWts (ce : Bool) (lk wt : List VM) (hk : wt.length ≤ 1048576) (stamp : Int) : slices_ContainsFunc__impl_IsValidEngine_2_S (wt, (some (ce, (s, ()), l, lk, wt, stamp, ()), ()), ()) = some (!dec (∀ m ∈ wt, actB l m.1 = true ∧ actB l m.2.1 = true), ()) := by
  unfold slices_ContainsFunc__impl_IsValidEngine_2_S slices_IndexFunc__impl_IsValidEngine_2_S
  obtain ⟨n, e, h⟩ := indexFunc (ρ := Unit) (l := wt) (p := fun m => ¬ (actB l m.1 = true ∧ actB l m.2.1 = true)) hk (B := fun v => slices_IndexFunc__impl_IsValidEngine_2_D2 (wt, (some (ce, (s, ()), l, lk, wt, stamp, ()), ()), ((wt.length : Nat) : Int), ()) v _ some) (fun i hi => by
      unfold slices_IndexFunc__impl_IsValidEngine_2_D2 impl_IsValidEngine_2_S
      simp only [lAt_nat hi, Option.bind_some, p_implAct hl]
      rw [decide_eq_true (by omega), wrap_succ hi (by omega)]
      cases ho : actB l wt[i].1 with
      | false => rw [dec_true (by simp)]; rfl
      | true =>
        cases ho' : actB l wt[i].2.1 with
        | true => rw [dec_false (fun hh => hh ⟨rfl, rfl⟩)]; rfl
        | false => rw [dec_true (by simp)]; rfl) (by
      unfold slices_IndexFunc__impl_IsValidEngine_2_D2
      simp only
      rw [decide_eq_false (by omega)]; rfl)
  simp only [e, Option.bind_some]
  rcases h with ⟨i, hi, rfl, hp, _⟩ | ⟨rfl, hp⟩
  · rw [decide_eq_true (by omega), dec_false (fun hh => hp (hh _ (List.getElem_mem hi)))]; rfl
  · rw [decide_eq_false (by omega), dec_true (fun m hm => Classical.not_not.1 (hp m hm))]; rfl
end

/-- A valid engine. -/
noncomputable def okE (s : List (List VV)) (l : List TX) (lk wt : List VM) (stamp : Int) : Bool :=
  dec (okSt s) && dec (okLk lk) && dec (okWt wt) && inB stamp (s.foldl lastC 0) 999 && dec (okTxs s stamp l) && decide (l.length ≤ 6) && dec (∀ m ∈ lk, actB l m.2.1 = true) && dec (∀ m ∈ wt, actB l m.1 = true ∧ actB l m.2.1 = true)

structure SmallE (s : List (List VV)) (l : List TX) (lk wt : List VM) : Prop where
  fs : SmallCs s
  fl : l.length ≤ 1048576
  ft : ∀ t ∈ l, smT t
  fk : lk.length ≤ 1048576
  fw : wt.length ≤ 1048576

theorem p_implE {s : List (List VV)} {l : List TX} {lk wt : List VM} (h : SmallE s l lk wt) (ce : Bool) (stamp : Int) : impl_IsValidEngine_S ((ce, (s, ()), l, lk, wt, stamp, ()), ()) = some (okE s l lk wt stamp, ()) := by
  unfold impl_IsValidEngine_S okE
  simp only [p_implS h.fs, p_impl_AreLocks h.fk, p_impl_AreWaits h.fw, p_implLast h.fs, p_implIn, p_implLks h.fl _ _ _ h.fk, p_implWts h.fl _ _ _ h.fw, Option.bind_some]
  by_cases h1 : okSt s
  case neg => rw [dec_false h1]; rfl
  rw [dec_true h1, p_implTxs h.fs h1 h.fl h.ft]
  simp only [Option.bind_some]
  cases dec (okLk lk) <;> cases dec (okWt wt) <;> cases inB stamp (s.foldl lastC 0) 999 <;> cases dec (okTxs s stamp l) <;> cases decide (l.length ≤ 6) <;> cases dec (∀ m ∈ lk, actB l m.2.1 = true) <;> cases dec (∀ m ∈ wt, actB l m.1 = true ∧ actB l m.2.1 = true) <;> rfl

theorem p_specE {s : List (List VV)} {l : List TX} {lk wt : List VM} (h : SmallE s l lk wt) (ce : Bool) (stamp : Int) : spec_IsValidEngine_S ((ce, (s, ()), l, lk, wt, stamp, ()), ()) = some (okE s l lk wt stamp, ()) := by
  unfold spec_IsValidEngine_S okE
  simp only [p_specS h.fs, p_spec_AreLocks h.fk, p_spec_AreWaits h.fw, p_specIn, Option.bind_some]
  by_cases h1 : okSt s
  case neg => rw [dec_false h1]; rfl
  rw [dec_true h1]
  simp only [p_specLast h.fs h1, p_specIn, Option.bind_some, p_specTxs h.fs h1 h.fl h.ft, p_specLks h.fl _ _ _ h.fk, p_specWts h.fl _ _ _ h.fw]
  have d : decide (((l.length : Nat) : Int) > 6) = !decide (l.length ≤ 6) := by
    rw [Bool.eq_iff_iff]
    simp only [decide_eq_true_eq, Bool.not_eq_true', decide_eq_false_iff_not]
    omega
  rw [d]
  cases dec (okLk lk) <;> cases dec (okWt wt) <;> cases inB stamp (s.foldl lastC 0) 999 <;> cases dec (okTxs s stamp l) <;> cases decide (l.length ≤ 6) <;> cases dec (∀ m ∈ lk, actB l m.2.1 = true) <;> cases dec (∀ m ∈ wt, actB l m.1 = true ∧ actB l m.2.1 = true) <;> rfl

theorem p_toLockS (a : List VM) (ha : a.length ≤ 1048576) : laws_toLockS_S (a, ()) = some (a, ()) := by
  unfold laws_toLockS_S
  simp only
  rw [if_pos (by omega), Int.toNat_natCast]
  refine copy_loopK ha (fun i h out ho => ?_) fun out => ?_
  · unfold laws_toLockS_D3
    simp only [lAt_nat h, Option.bind_some, laws_toLock_S]
    rw [decide_eq_true (by omega), if_pos (by omega), wrap_succ h (by omega)]
    simp [ho, h]
  · unfold laws_toLockS_D3
    simp only
    rw [decide_eq_false (by omega)]; rfl

theorem p_toWaitS (a : List VM) (ha : a.length ≤ 1048576) : laws_toWaitS_S (a, ()) = some (a, ()) := by
  unfold laws_toWaitS_S
  simp only
  rw [if_pos (by omega), Int.toNat_natCast]
  refine copy_loopK ha (fun i h out ho => ?_) fun out => ?_
  · unfold laws_toWaitS_D3
    simp only [lAt_nat h, Option.bind_some, laws_toWait_S]
    rw [decide_eq_true (by omega), if_pos (by omega), wrap_succ h (by omega)]
    simp [ho, h]
  · unfold laws_toWaitS_D3
    simp only
    rw [decide_eq_false (by omega)]; rfl

theorem p_szLockS {a : List VM} {l : Int} (ha : a.length ≤ maxLen) (h0 : 0 ≤ l) (h1 : l ≤ 1048576) : SzOK (a.length ≤ 1048576) (laws_szLockS_S (a, l, ())) := sz_flat ha h0 h1

theorem p_szWaitS {a : List VM} {l : Int} (ha : a.length ≤ maxLen) (h0 : 0 ≤ l) (h1 : l ≤ 1048576) : SzOK (a.length ≤ 1048576) (laws_szWaitS_S (a, l, ())) := sz_flat ha h0 h1

theorem p_eqLock (v : VM) : laws_eqLock_S (v, v, ()) = some (true, ()) := by
  simp [laws_eqLock_S]

theorem p_eqLockS (a : List VM) (ha : a.length < 9223372036854775000) : laws_eqLockS_S (a, a, ()) = some (true, ()) := by
  unfold laws_eqLockS_S
  simp only [bne_self_eq_false, cond_false]
  refine iter_upK a.length (fun j => ((j : Int), ())) rfl (fun j hj => ?_) ⟨.inr (), ?_, rfl⟩
  · unfold laws_eqLockS_D4
    simp only [lAt_nat hj, Option.bind_some, p_eqLock]
    rw [decide_eq_true (by omega), wr1 (by omega) (by omega)]
    rfl
  · unfold laws_eqLockS_D4
    simp only
    rw [decide_eq_false (by omega)]
    rfl

theorem p_eqWait (v : VM) : laws_eqWait_S (v, v, ()) = some (true, ()) := by
  simp [laws_eqWait_S]

theorem p_eqWaitS (a : List VM) (ha : a.length < 9223372036854775000) : laws_eqWaitS_S (a, a, ()) = some (true, ()) := by
  unfold laws_eqWaitS_S
  simp only [bne_self_eq_false, cond_false]
  refine iter_upK a.length (fun j => ((j : Int), ())) rfl (fun j hj => ?_) ⟨.inr (), ?_, rfl⟩
  · unfold laws_eqWaitS_D4
    simp only [lAt_nat hj, Option.bind_some, p_eqWait]
    rw [decide_eq_true (by omega), wr1 (by omega) (by omega)]
    rfl
  · unfold laws_eqWaitS_D4
    simp only
    rw [decide_eq_false (by omega)]
    rfl

theorem p_szTransaction {t : TX} {l : Int} (h1 : t.2.2.2.2.2.2.2.1.length ≤ maxLen) (h2 : t.2.2.2.2.2.2.2.2.1.length ≤ maxLen) (h0 : 0 ≤ l) (hl : l ≤ 1048576) : SzOK (smT t) (laws_szTransaction_S (t, l, ())) :=
  sz_then (p_szReadMarkS h1 h0 hl) fun n h0 h1 => sz_again (p_szWriteS h2 h0 h1)

theorem p_szTransactionS {a : List TX} {l : Int} (ha : a.length ≤ maxLen) (hb : ∀ t ∈ a, t.2.2.2.2.2.2.2.1.length ≤ maxLen ∧ t.2.2.2.2.2.2.2.2.1.length ≤ maxLen) (h0 : 0 ≤ l) (h1 : l ≤ 1048576) : SzOK (a.length ≤ 1048576 ∧ ∀ t ∈ a, smT t) (laws_szTransactionS_S (a, l, ())) :=
  sz_listK (Small := smT) (F := fun e l => laws_szTransaction_S (e, l, ())) ha (fun e he l h0 h1 => p_szTransaction (hb e he).1 (hb e he).2 h0 h1) (fun l i => rfl) h0 h1

theorem p_szEngine {ce : Bool} {s : List (List VV)} {t : List TX} {lk wt : List VM} {stamp l : Int} (hs : s.length ≤ maxLen) (hss : ∀ e ∈ s, e.length ≤ maxLen) (ha : t.length ≤ maxLen) (hb : ∀ x ∈ t, x.2.2.2.2.2.2.2.1.length ≤ maxLen ∧ x.2.2.2.2.2.2.2.2.1.length ≤ maxLen) (hk : lk.length ≤ maxLen) (hw : wt.length ≤ maxLen) (h0 : 0 ≤ l) (h1 : l ≤ 1048576) :
    SzOK (SmallE s t lk wt) (laws_szEngine_S ((ce, (s, ()), t, lk, wt, stamp, ()), l, ())) := by
  have := sz_then (B := ((t.length ≤ 1048576 ∧ ∀ x ∈ t, smT x) ∧ (lk.length ≤ 1048576 ∧ wt.length ≤ 1048576))) (p_szStore hs hss h0 h1) (G := fun v => (laws_szTransactionS_S (t, v.1, ())).bind fun v => bif decide (v.1 < 0) then some (-1, ()) else (laws_szLockS_S (lk, v.1, ())).bind fun v => bif decide (v.1 < 0) then some (-1, ()) else (laws_szWaitS_S (wt, v.1, ())).bind fun v => bif decide (v.1 < 0) then some (-1, ()) else some (v.1, ())) fun n h0 h1 =>
    sz_then (p_szTransactionS ha hb h0 h1) fun n h0 h1 => sz_then (p_szLockS hk h0 h1) fun n h0 h1 => sz_again (p_szWaitS hw h0 h1)
  exact this.mono fun ⟨q1, ⟨q2, q3⟩, q4, q5⟩ => ⟨q1, q2, q3, q4, q5⟩

theorem p_toTransaction (t : TX) (h : smT t) : laws_toTransaction_S ((t.1, t.2.1, t.2.2.1, t.2.2.2.1, t.2.2.2.2.1, t.2.2.2.2.2.1, t.2.2.2.2.2.2.1, t.2.2.2.2.2.2.2.1, t.2.2.2.2.2.2.2.2.1, ()), ()) = some t := by
  simp [laws_toTransaction_S, p_toReadMarkS _ h.1, p_toWriteS _ h.2]

theorem p_toTransactionS (a : List TX) (ha : a.length ≤ 1048576) (hb : ∀ t ∈ a, smT t) : laws_toTransactionS_S (a, ()) = some (a, ()) := by
  unfold laws_toTransactionS_S
  simp only
  rw [if_pos (by omega), Int.toNat_natCast]
  refine copy_loopK ha (fun i h out ho => ?_) fun out => ?_
  · unfold laws_toTransactionS_D3
    simp only [lAt_nat h, Option.bind_some, p_toTransaction _ (hb _ (List.getElem_mem h))]
    rw [decide_eq_true (by omega), if_pos (by omega), wrap_succ h (by omega)]
    simp [ho, h]
  · unfold laws_toTransactionS_D3
    simp only
    rw [decide_eq_false (by omega)]; rfl

theorem p_eqTransaction (t : TX) (h : smT t) : laws_eqTransaction_S ((t.1, t.2.1, t.2.2.1, t.2.2.2.1, t.2.2.2.2.1, t.2.2.2.2.2.1, t.2.2.2.2.2.2.1, t.2.2.2.2.2.2.2.1, t.2.2.2.2.2.2.2.2.1, ()), (t.1, t.2.1, t.2.2.1, t.2.2.2.1, t.2.2.2.2.1, t.2.2.2.2.2.1, t.2.2.2.2.2.2.1, t.2.2.2.2.2.2.2.1, t.2.2.2.2.2.2.2.2.1, ()), ()) = some (true, ()) := by
  have h1 := h.1
  have h2 := h.2
  simp [laws_eqTransaction_S, p_eqReadMarkS _ (show t.2.2.2.2.2.2.2.1.length < 9223372036854775000 by omega), p_eqWriteS _ (show t.2.2.2.2.2.2.2.2.1.length < 9223372036854775000 by omega)]

theorem p_eqTransactionS (a : List TX) (ha : a.length ≤ 1048576) (hb : ∀ t ∈ a, smT t) : laws_eqTransactionS_S (a, a, ()) = some (true, ()) := by
  unfold laws_eqTransactionS_S
  simp only [bne_self_eq_false, cond_false]
  refine iter_upK a.length (fun j => ((j : Int), ())) rfl (fun j hj => ?_) ⟨.inr (), ?_, rfl⟩
  · unfold laws_eqTransactionS_D4
    simp only [lAt_nat hj, Option.bind_some, p_eqTransaction _ (hb _ (List.getElem_mem hj))]
    rw [decide_eq_true (by omega), wr1 (by omega) (by omega)]
    rfl
  · unfold laws_eqTransactionS_D4
    simp only
    rw [decide_eq_false (by omega)]
    rfl

theorem p_toEngine {ce : Bool} {s : List (List VV)} {t : List TX} {lk wt : List VM} {stamp : Int} (h : SmallE s t lk wt) : laws_toEngine_S ((ce, (s, ()), t, lk, wt, stamp, ()), ()) = some (ce, stamp, s, t, lk, wt, ()) := by
  simp [laws_toEngine_S, p_toStore s h.fs, p_toTransactionS t h.fl h.ft, p_toLockS lk h.fk, p_toWaitS wt h.fw]

theorem p_eqEngine {ce : Bool} {s : List (List VV)} {t : List TX} {lk wt : List VM} {stamp : Int} (h : SmallE s t lk wt) : laws_eqEngine_S ((ce, (s, ()), t, lk, wt, stamp, ()), (ce, (s, ()), t, lk, wt, stamp, ()), ()) = some (true, ()) := by
  have h1 := h.fk
  have h2 := h.fw
  simp [laws_eqEngine_S, p_eqStore h.fs, p_eqTransactionS t h.fl h.ft, p_eqLockS lk (by omega), p_eqWaitS wt (by omega)]

theorem p_cloneL {l : List VM} (hl : l.length ≤ 1048576) : slices_Clone_impl_Lock_S (l, ()) = some (l, ()) := by
  unfold slices_Clone_impl_Lock_S
  simp only
  rw [if_pos (by omega)]
  cases l with
  | nil => exact both_self _
  | cons a l => rfl

theorem p_cloneW {l : List VM} (hl : l.length ≤ 1048576) : slices_Clone_impl_Wait_S (l, ()) = some (l, ()) := by
  unfold slices_Clone_impl_Wait_S
  simp only
  rw [if_pos (by omega)]
  cases l with
  | nil => exact both_self _
  | cons a l => rfl

theorem p_cloneR {l : List VM} (hl : l.length ≤ 1048576) : slices_Clone_impl_ReadMark_S (l, ()) = some (l, ()) := by
  unfold slices_Clone_impl_ReadMark_S
  simp only
  rw [if_pos (by omega)]
  cases l with
  | nil => exact both_self _
  | cons a l => rfl

theorem p_cloneWr {l : List VM} (hl : l.length ≤ 1048576) : slices_Clone_impl_Write_S (l, ()) = some (l, ()) := by
  unfold slices_Clone_impl_Write_S
  simp only
  rw [if_pos (by omega)]
  cases l with
  | nil => exact both_self _
  | cons a l => rfl

theorem p_txCopied (t : TX) (h : smT t) : impl_Transaction_copied_S ((t.1, t.2.1, t.2.2.1, t.2.2.2.1, t.2.2.2.2.1, t.2.2.2.2.2.1, t.2.2.2.2.2.2.1, t.2.2.2.2.2.2.2.1, t.2.2.2.2.2.2.2.2.1, ()), ()) = some t := by
  simp [impl_Transaction_copied_S, p_cloneR h.1, p_cloneWr h.2]

theorem p_implECopy {ce : Bool} {s : List (List VV)} {t : List TX} {lk wt : List VM} {stamp : Int} (h : SmallE s t lk wt) : impl_Engine_copied_S ((ce, (s, ()), t, lk, wt, stamp, ()), ()) = some (ce, stamp, s, t, lk, wt, ()) := by
  have hl := h.fl
  unfold impl_Engine_copied_S
  simp only [p_implCopy h.fs, p_cloneL h.fk, p_cloneW h.fw, Option.bind_some]
  rw [iter_up' (r := (t, ())) t.length (fun i => ((i : Int), t.take i, ()))]
  · rfl
  · simp
  · intro i hi
    unfold impl_Engine_copied_D3
    simp only [lAt_nat hi, Option.bind_some, p_txCopied _ (h.ft _ (List.getElem_mem hi)), List.length_append, List.length_cons, List.length_nil, List.length_take]
    rw [decide_eq_true (by omega), if_pos (by omega), wrap_succ hi (by omega)]
    have e : t.take i ++ [t[i]] = t.take (i + 1) := by rw [List.take_append_getElem hi]
    simp only [cond_true]
    rw [← e]
  · unfold impl_Engine_copied_D3
    simp only [List.take_length]
    rw [decide_eq_false (by omega)]; rfl

theorem p_txCopy' (t : TX) (h : smT t) : spec_l5Copy_S ((t.1, t.2.1, t.2.2.1, t.2.2.2.1, t.2.2.2.2.1, t.2.2.2.2.2.1, t.2.2.2.2.2.2.1, t.2.2.2.2.2.2.2.1, t.2.2.2.2.2.2.2.2.1, ()), ()) = some t := p_txCopy h.1 h.2

theorem p_specECopy {ce : Bool} {s : List (List VV)} {t : List TX} {lk wt : List VM} {stamp : Int} (h : SmallE s t lk wt) : spec_l13Copy_S ((ce, (s, ()), t, lk, wt, stamp, ()), ()) = some (ce, stamp, s, t, lk, wt, ()) := by
  have hl := h.fl
  have hk := h.fk
  have hw := h.fw
  unfold spec_l13Copy_S spec_l10Copy_S
  simp only [p_specCopy h.fs]
  rw [if_pos (show lk.length ≤ 2199023255552 by omega)]
  simp only [Option.bind_some]
  rw [if_pos (show wt.length ≤ 2199023255552 by omega)]
  rw [iter_up' (r := (t, ())) t.length (fun i => ((i : Int), t.take i, ()))]
  · rfl
  · simp
  · intro i hi
    unfold spec_l13Copy_D3
    simp only [lAt_nat hi, Option.bind_some, p_txCopy' _ (h.ft _ (List.getElem_mem hi)), List.length_append, List.length_cons, List.length_nil, List.length_take]
    rw [decide_eq_true (by omega), if_pos (by omega), wrap_succ hi (by omega)]
    have e : t.take i ++ [t[i]] = t.take (i + 1) := by rw [List.take_append_getElem hi]
    simp only [cond_true]
    rw [← e]
  · unfold spec_l13Copy_D3
    simp only [List.take_length]
    rw [decide_eq_false (by omega)]; rfl

/-- The successor mark of what was read. -/
def sucOf (s : List (List VV)) (m : VM) : Int := match chAt s m with
  | some l => match fvI l m.2.1 with
    | some j => match l[j]? with
      | some v => v.2.2.2.2.1
      | none => 0
    | none => 0
  | none => 0

def rfH (s : List (List VV)) (rd : List VM) : Int := rd.foldl (fun n m => mn n (sucOf s m)) 1000

theorem p_implFind' {s : List (List VV)} (hs : SmallCs s) (h6 : s.length = 6) {m : VM} (hm : inB m.1 0 5 = true) (hx : exAt s m) : ∃ v : VV, impl_Store_find_S ((s, ()), (m.1, m.2.1, ()), ()) = some (some v, ()) ∧ v.2.2.2.2.1 = sucOf s m := by
  obtain ⟨k, hk, hlt, l, e1, e2, e3, hl⟩ := chain_of h6 hm
  obtain ⟨l', j, x1, x2⟩ := hx
  rw [e3] at x1; obtain rfl : l = l' := by simpa using x1
  have hj := fvI_lt x2
  refine ⟨l[j], ?_, ?_⟩
  · unfold impl_Store_find_S
    simp only [e2, Option.bind_some, p_implFV (hs.2 _ hl), fx_neg, x2, Option.isNone_some, cond_false, fx]
    rw [lAt_nat hj]; rfl
  · unfold sucOf
    simp [e3, x2, hj]

theorem p_implRH {s : List (List VV)} (hs : SmallCs s) (h6 : s.length = 6) (t : TX) (ht : smT t) (hrd : okRd t.2.2.2.2.2.2.2.1) (hx : ∀ m ∈ t.2.2.2.2.2.2.2.1, exAt s m) : impl_Store_refreshHigh_S ((s, ()), (t.1, t.2.1, t.2.2.1, t.2.2.2.1, t.2.2.2.2.1, t.2.2.2.2.2.1, t.2.2.2.2.2.2.1, t.2.2.2.2.2.2.2.1, t.2.2.2.2.2.2.2.2.1, ()), ()) = some (rfH s t.2.2.2.2.2.2.2.1, ()) := by
  have hl := ht.1
  unfold impl_Store_refreshHigh_S
  simp only
  generalize t.2.2.2.2.2.2.2.1 = rd at *
  refine fold_loopK (l := rd) (f := fun n m => mn n (sucOf s m)) (X := fun n => some (n, ())) 1000 (fun i h n => ?_) (fun n => ⟨(n, ()), ?_, rfl⟩) rfl
  · obtain ⟨_, h1, _⟩ := hrd i h
    obtain ⟨v, e1, e2⟩ := p_implFind' hs h6 h1 (hx _ (List.getElem_mem h))
    unfold impl_Store_refreshHigh_D3
    simp only [lAt_nat h, Option.bind_some, e1, e2]
    rw [decide_eq_true (by omega), wrap_succ h (by omega)]; rfl
  · unfold impl_Store_refreshHigh_D3
    simp only
    rw [decide_eq_false (by omega)]; rfl

theorem p_specRH {s : List (List VV)} (hs : SmallCs s) (hok : okSt s) (t : TX) (ht : smT t) (hT : okTx t = true) (hx : ∀ m ∈ t.2.2.2.2.2.2.2.1, exAt s m) : spec_RefreshHigh_S ((s, ()), (t.1, t.2.1, t.2.2.1, t.2.2.2.1, t.2.2.2.2.1, t.2.2.2.2.2.1, t.2.2.2.2.2.2.1, t.2.2.2.2.2.2.2.1, t.2.2.2.2.2.2.2.2.1, ()), ()) = some (rfH s t.2.2.2.2.2.2.2.1, ()) := by
  have hl := ht.1
  have hrd := okT_rd hT
  unfold spec_RefreshHigh_S
  simp only [p_specEx hs hok ht.1 ht.2 hT hrd, dec_true hx, Option.bind_some, Bool.not_true, cond_false]
  generalize t.2.2.2.2.2.2.2.1 = rd at *
  refine fold_loopK (l := rd) (f := fun n m => mn n (sucOf s m)) (X := fun n => some (n, ())) 1000 (fun i h n => ?_) (fun n => ⟨(n, ()), ?_, rfl⟩) rfl
  · obtain ⟨_, h1, _⟩ := hrd i h
    obtain ⟨k, hk, hlt, l, e1, e2, e3, hm⟩ := chain_of hok.1 h1
    obtain ⟨l', j, x1, x2⟩ := hx _ (List.getElem_mem h)
    rw [e3] at x1; obtain rfl : l = l' := by simpa using x1
    have hj := fvI_lt x2
    have e4 : lAt l (fx (some j)) = some l[j] := lAt_nat hj
    unfold spec_RefreshHigh_D5
    simp only [lAt_nat h, Option.bind_some, e2, p_specFV (hs.2 _ hm), x2, e4]
    rw [decide_eq_true (by omega), wrap_succ h (by omega)]
    simp [sucOf, e3, x2, hj]
  · unfold spec_RefreshHigh_D5
    simp only
    rw [decide_eq_false (by omega)]; rfl

/-- The first element of which something is so. -/
theorem first_loop {α ρ τ : Type} {l : List α} {p : α → Bool} {B : Int × Unit → Option ((Int × Unit) ⊕ ρ)} {k : ρ → Option τ} {yes : α → Option τ} {no : Option τ}
    (hB : ∀ i (h : i < l.length), (p l[i] = true → ∃ r, B ((i : Int), ()) = some (.inr r) ∧ k r = yes l[i]) ∧ (p l[i] = false → B ((i : Int), ()) = some (.inl (((i + 1 : Nat) : Int), ())))) (hend : ∃ r, B ((l.length : Int), ()) = some (.inr r) ∧ k r = no) :
    (iter B (0, ())).bind k = match l.find? p with | some a => yes a | none => no := by
  have key : ∀ m i : Nat, i + m = l.length → (iter B ((i : Int), ())).bind k = match (l.drop i).find? p with | some a => yes a | none => no := by
    intro m
    induction m with
    | zero =>
      intro i hi
      obtain rfl : i = l.length := by omega
      obtain ⟨r, h1, h2⟩ := hend
      rw [iter_eq, h1]; simpa using h2
    | succ m ih =>
      intro i hi
      have h : i < l.length := by omega
      rw [List.drop_eq_getElem_cons h, List.find?_cons]
      cases hp : p l[i] with
      | true =>
        obtain ⟨r, h1, h2⟩ := (hB i h).1 hp
        rw [iter_eq, h1]; exact h2
      | false =>
        rw [iter_eq, (hB i h).2 hp]
        simp only [Option.bind_some]
        exact ih (i + 1) (by omega)
  simpa using key l.length 0 (by omega)

/-- Does a transaction make a stamp unsafe? -/
def unsB (s : List (List VV)) (stamp : Int) (t : TX) : Bool :=
  bif t.2.2.1 == 2 then (decide (t.2.2.2.2.2.2.1 > stamp) && decide (t.2.2.2.2.2.1 ≤ stamp))
  else bif t.2.2.1 == 1 then (decide (rfH s t.2.2.2.2.2.2.2.1 ≤ stamp) || (t.2.1 == 2 && decide (t.2.2.2.1 < stamp))) else false

def bec (s : List (List VV)) (l : List TX) (stamp : Int) : Int := match l.find? (unsB s stamp) with | some t => t.1 | none => 0

theorem okE_parts {s : List (List VV)} {l : List TX} {lk wt : List VM} {stamp : Int} (h : okE s l lk wt stamp = true) : okSt s ∧ okTxs s stamp l ∧ 0 ≤ stamp ∧ stamp ≤ 999 ∧ l.length ≤ 6 := by
  unfold okE at h
  simp only [Bool.and_eq_true] at h
  obtain ⟨⟨⟨⟨⟨⟨⟨h1, h2⟩, h3⟩, h4⟩, h5⟩, h6⟩, h7⟩, h8⟩ := h
  have a1 : okSt s := by
    by_cases h : okSt s
    · exact h
    · rw [dec_false h] at h1; cases h1
  have a2 : okTxs s stamp l := by
    by_cases h : okTxs s stamp l
    · exact h
    · rw [dec_false h] at h5; cases h5
  unfold inB at h4
  simp only [Bool.and_eq_true, decide_eq_true_eq] at h4 h6
  have key : ∀ (c : List (List VV)) (n : Int), 0 ≤ n → 0 ≤ c.foldl lastC n := by
    have k1 : ∀ (r : List VV) (n : Int), 0 ≤ n → 0 ≤ lastC n r := by
      intro r
      unfold lastC
      induction r with
      | nil => intro n hn; exact hn
      | cons v r ih => intro n hn; exact ih _ (by show 0 ≤ mx n v.2.2.2.1; unfold mx; split <;> omega)
    intro c
    induction c with
    | nil => intro n hn; exact hn
    | cons r c ih => intro n hn; exact ih _ (k1 r n hn)
  have := key s 0 (by omega)
  exact ⟨a1, a2, by omega, h4.2, h6⟩

section
variable {ce : Bool} {s : List (List VV)} {l : List TX} {lk wt : List VM} {stamp : Int} (h : SmallE s l lk wt) (hE : okE s l lk wt stamp = true)
include h hE
theorem p_implBec (n : Int) : impl_Engine_because_S ((ce, (s, ()), l, lk, wt, stamp, ()), n, ()) = some (bec s l n, ()) := by
  obtain ⟨h1, h2, h3, h4, h5⟩ := okE_parts hE
  have hl := h.fl
  unfold impl_Engine_because_S
  refine (first_loop (l := l) (p := unsB s n) (yes := fun t => some (t.1, ())) (no := some (0, ())) (fun i hi => ?_) ⟨.inr (), ?_, rfl⟩).trans ?_
  · obtain ⟨_, q1, q2, q3, q4, q5⟩ := h2 i hi
    have hm := h.ft _ (List.getElem_mem hi)
    have hU : impl_Engine_unsafe_S ((ce, (s, ()), l, lk, wt, stamp, ()), (l[i].1, l[i].2.1, l[i].2.2.1, l[i].2.2.2.1, l[i].2.2.2.2.1, l[i].2.2.2.2.2.1, l[i].2.2.2.2.2.2.1, l[i].2.2.2.2.2.2.2.1, l[i].2.2.2.2.2.2.2.2.1, ()), n, ()) = some (unsB s n l[i], ()) := by
      unfold impl_Engine_unsafe_S unsB
      by_cases e1 : l[i].2.2.1 = 1
      · rw [show (l[i].2.2.1 == 2) = false from by rw [e1]; rfl, show (l[i].2.2.1 == 1) = true from by rw [e1]; rfl]
        simp only [cond_false, cond_true, p_implRH h.fs h1.1 l[i] hm (okT_rd q1) (q5 e1), Option.bind_some]
        cases decide (rfH s l[i].2.2.2.2.2.2.2.1 ≤ n) <;> cases (l[i].2.1 == 2 : Bool) <;> simp
      · rw [show (l[i].2.2.1 == 1) = false from by simpa using e1]
        cases (l[i].2.2.1 == 2 : Bool) <;> cases decide (l[i].2.2.2.2.2.2.1 > n) <;> simp
    unfold impl_Engine_because_D2
    simp only [lAt_nat hi, Option.bind_some, hU]
    rw [decide_eq_true (by omega), wrap_succ hi (by omega)]
    refine ⟨fun e => ?_, fun e => ?_⟩
    · rw [e]; exact ⟨_, rfl, rfl⟩
    · rw [e]; rfl
  · unfold impl_Engine_because_D2
    simp only
    rw [decide_eq_false (by omega)]; rfl
  · unfold bec
    cases l.find? (unsB s n) <;> rfl
theorem p_specBec (n : Int) (hn : inB n 0 stamp = true) : spec_UnsafeBecause_S ((ce, (s, ()), l, lk, wt, stamp, ()), n, ()) = some (bec s l n, ()) := by
  obtain ⟨h1, h2, h3, h4, h5⟩ := okE_parts hE
  have hl := h.fl
  unfold spec_UnsafeBecause_S
  refine (first_loop (l := l) (p := unsB s n) (yes := fun t => some (t.1, ())) (no := some (0, ())) (fun i hi => ?_) ⟨.inr (.inr (.inr (.inr (.inr ())))), ?_, rfl⟩).trans ?_
  · obtain ⟨_, q1, q2, q3, q4, q5⟩ := h2 i hi
    have hm := h.ft _ (List.getElem_mem hi)
    unfold spec_UnsafeBecause_D2 unsB
    simp only [lAt_nat hi, Option.bind_some, p_specE h, hE, p_specIn, hn]
    rw [decide_eq_true (show (i : Int) < ((l.length : Nat) : Int) by omega), wrap_succ hi (by omega)]
    simp only [cond_true]
    by_cases e1 : l[i].2.2.1 = 1
    · rw [show (l[i].2.2.1 == 2) = false from by rw [e1]; rfl, show (l[i].2.2.1 == 1) = true from by rw [e1]; rfl]
      simp only [cond_false, cond_true, p_specRH h.fs h1 l[i] hm q1 (q5 e1), Option.bind_some]
      cases decide (rfH s l[i].2.2.2.2.2.2.2.1 ≤ n) with
      | true => exact ⟨fun _ => ⟨_, rfl, rfl⟩, fun e => by cases e⟩
      | false =>
        cases (l[i].2.1 == 2 : Bool) with
        | false => exact ⟨fun e => (by cases e), fun _ => rfl⟩
        | true =>
          cases decide (l[i].2.2.2.1 < n) with
          | true => exact ⟨fun _ => ⟨_, rfl, rfl⟩, fun e => by cases e⟩
          | false => exact ⟨fun e => (by cases e), fun _ => rfl⟩
    · rw [show (l[i].2.2.1 == 1) = false from by simpa using e1]
      cases (l[i].2.2.1 == 2 : Bool) with
      | false => exact ⟨fun e => (by cases e), fun _ => rfl⟩
      | true =>
        cases decide (l[i].2.2.2.2.2.2.1 > n) with
        | false => exact ⟨fun e => (by cases e), fun _ => rfl⟩
        | true =>
          cases decide (l[i].2.2.2.2.2.1 ≤ n) with
          | true => exact ⟨fun _ => ⟨_, rfl, rfl⟩, fun e => by cases e⟩
          | false => exact ⟨fun e => (by cases e), fun _ => rfl⟩
  · unfold spec_UnsafeBecause_D2
    simp only
    rw [decide_eq_false (by omega)]; rfl
  · unfold bec
    cases l.find? (unsB s n) <;> rfl
end

/-- The greatest safe stamp up to n. -/
def sfS (s : List (List VV)) (l : List TX) : Nat → Int
  | 0 => 0
  | n + 1 => bif bec s l ((n + 1 : Nat) : Int) == 0 then ((n + 1 : Nat) : Int) else sfS s l n

section
variable {ce : Bool} {s : List (List VV)} {l : List TX} {lk wt : List VM} {stamp : Int} (h : SmallE s l lk wt) (hE : okE s l lk wt stamp = true)
include h hE
theorem p_implSafe : impl_Engine_safe_S ((ce, (s, ()), l, lk, wt, stamp, ()), ()) = some (sfS s l stamp.toNat, ()) := by
  obtain ⟨h1, h2, h3, h4, h5⟩ := okE_parts hE
  unfold impl_Engine_safe_S
  have key : ∀ n : Nat, n ≤ 999 → ((iter (fun v => impl_Engine_safe_D2 (ce, s, l, lk, wt, stamp, ()) v _ some) ((n : Int), ())).bind fun p => sumC p (fun p => some (p.1, ())) fun p => some (0, ())) = some (sfS s l n, ()) := by
    intro n
    induction n with
    | zero =>
      intro _
      rw [iter_eq]
      unfold impl_Engine_safe_D2
      rfl
    | succ n ih =>
      intro hn
      rw [iter_eq]
      have hB : impl_Engine_safe_D2 (ce, s, l, lk, wt, stamp, ()) (((n + 1 : Nat) : Int), ()) _ some = some (bif bec s l ((n + 1 : Nat) : Int) == 0 then .inr (.inl (((n + 1 : Nat) : Int), ())) else .inl ((n : Int), ())) := by
        unfold impl_Engine_safe_D2
        simp only [p_implBec h hE, Option.bind_some]
        rw [decide_eq_true (by omega), wrap_id (by omega) (by omega), show ((n + 1 : Nat) : Int) - 1 = (n : Int) by omega]
        cases (bec s l ((n + 1 : Nat) : Int) == 0 : Bool) <;> rfl
      rw [hB]
      unfold sfS
      cases (bec s l ((n + 1 : Nat) : Int) == 0 : Bool) with
      | true => rfl
      | false => exact ih (by omega)
  have := key stamp.toNat (by omega)
  rw [Int.toNat_of_nonneg h3] at this
  exact this
theorem p_specSafe : spec_SafeStamp_S ((ce, (s, ()), l, lk, wt, stamp, ()), ()) = some (sfS s l stamp.toNat, ()) := by
  obtain ⟨h1, h2, h3, h4, h5⟩ := okE_parts hE
  unfold spec_SafeStamp_S
  have key : ∀ n : Nat, (n : Int) ≤ stamp → ((iter (fun v => spec_SafeStamp_D2 (ce, s, l, lk, wt, stamp, ()) v _ some) ((n : Int), ())).bind fun p => sumC p (fun p => some (p.1, ())) fun p => sumC p (fun p => some (0, ())) fun p => some (0, ())) = some (sfS s l n, ()) := by
    intro n
    induction n with
    | zero =>
      intro _
      rw [iter_eq]
      unfold spec_SafeStamp_D2
      rfl
    | succ n ih =>
      intro hn
      rw [iter_eq]
      have hin : inB ((n + 1 : Nat) : Int) 0 stamp = true := by
        unfold inB; simp only [Bool.and_eq_true, decide_eq_true_eq]; omega
      have hB : spec_SafeStamp_D2 (ce, s, l, lk, wt, stamp, ()) (((n + 1 : Nat) : Int), ()) _ some = some (bif bec s l ((n + 1 : Nat) : Int) == 0 then .inr (.inl (((n + 1 : Nat) : Int), ())) else .inl ((n : Int), ())) := by
        unfold spec_SafeStamp_D2 spec_IsSafe_S
        simp only [p_specE h, hE, p_specIn, hin, p_specBec h hE _ hin, Option.bind_some, cond_true]
        rw [decide_eq_true (by omega), wrap_id (by omega) (by omega), show ((n + 1 : Nat) : Int) - 1 = (n : Int) by omega]
        cases (bec s l ((n + 1 : Nat) : Int) == 0 : Bool) <;> rfl
      rw [hB]
      unfold sfS
      cases (bec s l ((n + 1 : Nat) : Int) == 0 : Bool) with
      | true => rfl
      | false => exact ih (by omega)
  have := key stamp.toNat (by omega)
  rw [Int.toNat_of_nonneg h3] at this
  exact this
end

/-- The watermark. -/
def wmk (s : List (List VV)) (l : List TX) (stamp : Int) : Int := l.foldl (fun n t => bif t.2.2.1 == 1 then mn n t.2.2.2.1 else n) (sfS s l stamp.toNat)

section
variable {ce : Bool} {s : List (List VV)} {l : List TX} {lk wt : List VM} {stamp : Int} (h : SmallE s l lk wt) (hE : okE s l lk wt stamp = true)
include h hE
theorem p_implWmk : impl_Engine_watermark_S ((ce, (s, ()), l, lk, wt, stamp, ()), ()) = some (wmk s l stamp, ()) := by
  have hl := h.fl
  unfold impl_Engine_watermark_S wmk
  simp only [p_implSafe h hE, Option.bind_some]
  refine fold_loopK (l := l) (f := fun n t => bif t.2.2.1 == 1 then mn n t.2.2.2.1 else n) (X := fun n => some (n, ())) _ (fun i hi n => ?_) (fun n => ⟨(n, ()), ?_, rfl⟩) rfl
  · unfold impl_Engine_watermark_D3
    simp only [lAt_nat hi, Option.bind_some]
    rw [decide_eq_true (by omega), wrap_succ hi (by omega)]
    cases (l[i].2.2.1 == 1 : Bool) <;> rfl
  · unfold impl_Engine_watermark_D3
    simp only
    rw [decide_eq_false (by omega)]; rfl
theorem p_specWmk : spec_Watermark_S ((ce, (s, ()), l, lk, wt, stamp, ()), ()) = some (wmk s l stamp, ()) := by
  have hl := h.fl
  unfold spec_Watermark_S wmk
  simp only [p_specSafe h hE, Option.bind_some]
  refine fold_loopK (l := l) (f := fun n t => bif t.2.2.1 == 1 then mn n t.2.2.2.1 else n) (X := fun n => some (n, ())) _ (fun i hi n => ?_) (fun n => ⟨.inr (n, ()), ?_, rfl⟩) rfl
  · unfold spec_Watermark_D3
    simp only [lAt_nat hi, Option.bind_some, p_specE h, hE]
    rw [decide_eq_true (by omega), wrap_succ hi (by omega)]
    simp only [cond_true]
    cases (l[i].2.2.1 == 1 : Bool) <;> rfl
  · unfold spec_Watermark_D3
    simp only
    rw [decide_eq_false (by omega)]; rfl
end

def eqM (m x : VM) : Bool := x.1 == m.1 && (x.2.1 == m.2.1 && true)

def hasB (rd : List VM) (m : VM) : Bool := rd.any (eqM m)

theorem beq_sym (a b : Int) : (a == b : Bool) = (b == a) := by rw [eq_int, eq_int]; exact decide_eq_decide.2 eq_comm

theorem find_any {α : Type} {l : List α} {p : α → Bool} : (match l.find? p with | some _ => some (true, ()) | none => some (false, ())) = some (l.any p, ()) := by
  cases h : l.find? p with
  | none =>
    have : l.any p = false := by
      rw [List.any_eq_false]; exact List.find?_eq_none.1 h
    rw [this]
  | some a =>
    have : l.any p = true := List.any_eq_true.2 ⟨a, List.mem_of_find?_eq_some h, List.find?_some h⟩
    rw [this]

theorem fx_any {α : Type} (l : List α) (p : α → Bool) : decide (fx (l.findIdx? p) ≥ 0) = l.any p := by
  cases h : l.findIdx? p with
  | none =>
    have : l.any p = false := by
      rw [List.any_eq_false]
      intro x hx
      have := List.findIdx?_eq_none_iff.1 h x hx
      simpa using this
    rw [this]; rfl
  | some i =>
    obtain ⟨hi, hp, _⟩ := List.findIdx?_eq_some_iff_getElem.1 h
    have : l.any p = true := List.any_eq_true.2 ⟨l[i], List.getElem_mem hi, hp⟩
    rw [this]
    exact decide_eq_true (by simp only [fx]; omega)

theorem p_specHas (t : TX) (ht : smT t) (m : VM) : spec_HasRead_S ((t.1, t.2.1, t.2.2.1, t.2.2.2.1, t.2.2.2.2.1, t.2.2.2.2.2.1, t.2.2.2.2.2.2.1, t.2.2.2.2.2.2.2.1, t.2.2.2.2.2.2.2.2.1, ()), (m.1, m.2.1, ()), ()) = some (hasB t.2.2.2.2.2.2.2.1 m, ()) := by
  have hl := ht.1
  unfold spec_HasRead_S
  simp only
  generalize t.2.2.2.2.2.2.2.1 = rd at *
  refine (first_loop (l := rd) (p := eqM m) (yes := fun _ => some (true, ())) (no := some (false, ())) (fun i hi => ?_) ⟨.inr (), ?_, rfl⟩).trans find_any
  · unfold spec_HasRead_D2
    simp only [lAt_nat hi, Option.bind_some]
    rw [decide_eq_true (by omega), wrap_succ hi (by omega)]
    simp only [cond_true]
    show (eqM m rd[i] = true → _) ∧ _
    refine ⟨fun e => ?_, fun e => ?_⟩
    · unfold eqM at e; rw [e]; exact ⟨_, rfl, rfl⟩
    · unfold eqM at e; rw [e]; rfl
  · unfold spec_HasRead_D2
    simp only
    rw [decide_eq_false (by omega)]; rfl

theorem p_implHas (t : TX) (ht : smT t) (m : VM) : impl_HasRead_S ((t.1, t.2.1, t.2.2.1, t.2.2.2.1, t.2.2.2.2.1, t.2.2.2.2.2.1, t.2.2.2.2.2.2.1, t.2.2.2.2.2.2.2.1, t.2.2.2.2.2.2.2.2.1, ()), (m.1, m.2.1, ()), ()) = some (hasB t.2.2.2.2.2.2.2.1 m, ()) := by
  have hl := ht.1
  unfold impl_HasRead_S slices_Contains_impl_ReadMark_S slices_Index_impl_ReadMark_S
  simp only
  generalize t.2.2.2.2.2.2.2.1 = rd at *
  have := find_loop hl (p := eqM m) (B := fun v => slices_Index_impl_ReadMark_D2 (rd, ((rd.length : Nat) : Int), m.1, m.2.1, ()) v _ some) (fun i h => by
    unfold slices_Index_impl_ReadMark_D2
    simp only [lAt_nat h, Option.bind_some]
    rw [decide_eq_true (by omega), wrap_succ h (by omega), beq_sym m.1, beq_sym m.2.1]
    simp only [cond_true]
    show (bif eqM m rd[i] then _ else _) = _
    cases eqM m rd[i] <;> rfl) (by
    unfold slices_Index_impl_ReadMark_D2
    simp only
    rw [decide_eq_false (by omega)]; rfl)
  simp only [this, Option.bind_some, fx_any]
  rfl

/-- Does an active transaction read this version? -/
def usesB (key cr : Int) (t : TX) : Bool := bif t.2.2.1 == 1 then hasB t.2.2.2.2.2.2.2.1 (key, cr, ()) else false

/-- Can the version at a place be removed? -/
def colB (l : List TX) (mark key : Int) (c : List VV) (i : Nat) : Bool := match c[i + 1]?, c[i]? with
  | some w, some v => bif decide (w.2.2.1 > mark) then false else !(l.any (usesB key v.2.2.1))
  | _, _ => false

theorem asc_lt {c : List VV} (hc : okC c) : ∀ {j i : Nat} (hji : j < i) (hi : i < c.length), (c[j]'(by omega)).2.2.1 < c[i].2.2.1 := by
  intro j i hji
  induction i with
  | zero => omega
  | succ i ih =>
    intro hi
    obtain ⟨_, _, h1⟩ := hc.1 i (by omega)
    have h2 := (h1 hi).1
    by_cases e : j = i
    · subst e; exact h2
    · have := ih (by omega) (by omega)
      omega

theorem fvI_self {c : List VV} (hc : okC c) {i : Nat} (hi : i < c.length) : fvI c c[i].2.2.1 = some i := by
  unfold fvI
  rw [List.findIdx?_eq_some_iff_getElem]
  refine ⟨by simpa using hi, by simp, fun j hj => ?_⟩
  have := asc_lt hc hj hi
  simp only [List.getElem_map, beq_iff_eq]
  omega

section
variable {ce : Bool} {s : List (List VV)} {l : List TX} {lk wt : List VM} {stamp : Int} (h : SmallE s l lk wt)
include h
theorem p_implCol (mark : Int) {k : Nat} (hk : k < s.length) {i : Nat} (hi : i < s[k].length) : impl_Engine_collectable_S ((ce, (s, ()), l, lk, wt, stamp, ()), (k : Int), (i : Int), mark, ()) = some (colB l mark (k : Int) s[k] i, ()) := by
  have hl := h.fl
  have hc : s[k].length ≤ 1048576 := h.fs.2 _ (List.getElem_mem hk)
  unfold impl_Engine_collectable_S colB
  simp only [lAt_nat hk, Option.bind_some, wrap_succ hi (by omega)]
  by_cases h1 : i + 1 < s[k].length
  · rw [decide_eq_false (by omega), lAt_nat h1]
    simp only [cond_false, Option.bind_some, List.getElem?_eq_getElem h1, List.getElem?_eq_getElem hi]
    by_cases h2 : s[k][i + 1].2.2.1 > mark
    · rw [decide_eq_true h2]; rfl
    · rw [decide_eq_false h2]
      simp only [cond_false]
      unfold slices_ContainsFunc__impl_Engine_collectable_1_S slices_IndexFunc__impl_Engine_collectable_1_S
      have := find_loop hl (p := usesB (k : Int) s[k][i].2.2.1) (B := fun v => slices_IndexFunc__impl_Engine_collectable_1_D2 (l, (some (k : Int), some s[k], some (i : Int), ()), ((l.length : Nat) : Int), ()) v _ some) (fun j hj => by
        unfold slices_IndexFunc__impl_Engine_collectable_1_D2 impl_Engine_collectable_1_S usesB
        have hh := p_implHas l[j] (h.ft _ (List.getElem_mem hj)) ((k : Int), s[k][i].2.2.1, ())
        simp only at hh
        simp only [lAt_nat hj, Option.bind_some, lAt_nat hi, hh]
        rw [decide_eq_true (by omega), wrap_succ hj (by omega)]
        cases (l[j].2.2.1 == 1 : Bool) <;> cases hasB l[j].2.2.2.2.2.2.2.1 ((k : Int), s[k][i].2.2.1, ()) <;> rfl) (by
        unfold slices_IndexFunc__impl_Engine_collectable_1_D2
        simp only
        rw [decide_eq_false (by omega)]; rfl)
      simp only [this, Option.bind_some, fx_any]
  · rw [decide_eq_true (by omega), List.getElem?_eq_none (by omega)]; rfl
theorem p_specCol (hE : okE s l lk wt stamp = true) {k : Nat} (hk : k < s.length) {i : Nat} (hi : i < s[k].length) : spec_IsCollectable_S ((ce, (s, ()), l, lk, wt, stamp, ()), (k : Int), s[k][i].2.2.1, ()) = some (colB l (wmk s l stamp) (k : Int) s[k] i, ()) := by
  obtain ⟨g1, g2, g3, g4, g5⟩ := okE_parts hE
  have hl := h.fl
  have hm := List.getElem_mem hk
  have hc := (g1.2 _ hm).1
  have hn : s[k].length ≤ 1048576 := h.fs.2 _ hm
  have h6 := g1.1
  have hin : inB (k : Int) 0 5 = true := by unfold inB; simp only [Bool.and_eq_true, decide_eq_true_eq]; omega
  unfold spec_IsCollectable_S colB
  simp only [p_specE h, hE, p_specIn, hin, lAt_nat hk, Option.bind_some, p_specFV hn, fvI_self hc hi, fx, Bool.not_true, cond_false, wrap_succ hi (by omega)]
  rw [decide_eq_false (by omega), wrap_id (by omega) (by omega)]
  by_cases h1 : i + 1 < s[k].length
  · rw [show ((i : Int) == ((s[k].length : Nat) : Int) - 1) = false from by rw [beq_eq_false_iff_ne]; omega, lAt_nat h1]
    simp only [cond_false, Option.bind_some, List.getElem?_eq_getElem h1, List.getElem?_eq_getElem hi, p_specWmk h hE]
    by_cases h2 : s[k][i + 1].2.2.1 > wmk s l stamp
    · rw [decide_eq_true h2]; rfl
    · rw [decide_eq_false h2]
      simp only [cond_false]
      refine (first_loop (l := l) (p := usesB (k : Int) s[k][i].2.2.1) (yes := fun _ => some (false, ())) (no := some (true, ())) (fun j hj => ?_) ⟨.inr (), ?_, rfl⟩).trans ?_
      · unfold spec_IsCollectable_D8 usesB
        have hh := p_specHas l[j] (h.ft _ (List.getElem_mem hj)) ((k : Int), s[k][i].2.2.1, ())
        simp only at hh
        simp only [lAt_nat hj, Option.bind_some, hh]
        rw [decide_eq_true (by omega), wrap_succ hj (by omega)]
        simp only [cond_true]
        cases (l[j].2.2.1 == 1 : Bool) with
        | false => exact ⟨fun e => (by cases e), fun _ => rfl⟩
        | true =>
          simp only [cond_true]
          cases hasB l[j].2.2.2.2.2.2.2.1 ((k : Int), s[k][i].2.2.1, ()) with
          | true => exact ⟨fun _ => ⟨_, rfl, rfl⟩, fun e => by cases e⟩
          | false => exact ⟨fun e => (by cases e), fun _ => rfl⟩
      · unfold spec_IsCollectable_D8
        simp only
        rw [decide_eq_false (by omega)]; rfl
      · have e := find_any (l := l) (p := usesB (k : Int) s[k][i].2.2.1)
        cases hf : l.find? (usesB (k : Int) s[k][i].2.2.1) with
        | none => rw [hf] at e; simp only [Option.some.injEq, Prod.mk.injEq] at e; rw [← e.1]; rfl
        | some a => rw [hf] at e; simp only [Option.some.injEq, Prod.mk.injEq] at e; rw [← e.1]; rfl
  · rw [show ((i : Int) == ((s[k].length : Nat) : Int) - 1) = true from by rw [beq_iff_eq]; omega, List.getElem?_eq_none (by omega)]; rfl
end

/-- What is kept of a chain's first i versions; the count of the others is added. -/
def kp (col : Nat → Bool) (c : List VV) (n : Int) : Nat → Int × List VV
  | 0 => (n, [])
  | i + 1 => bif col i then (IntKind.wrap IntKind.i64 ((kp col c n i).1 + 1), (kp col c n i).2) else ((kp col c n i).1, (kp col c n i).2 ++ (c[i]?).toList)

theorem kp_len (col : Nat → Bool) (c : List VV) (n : Int) : ∀ i, (kp col c n i).2.length ≤ i
  | 0 => by simp [kp]
  | i + 1 => by
    have := kp_len col c n i
    unfold kp
    cases col i with
    | true => simp only [cond_true]; omega
    | false =>
      simp only [cond_false, List.length_append]
      cases c[i]? <;> simp <;> omega

/-- The count and the chains, k keys done. -/
def ovr (s : List (List VV)) (l : List TX) (mark : Int) : Nat → Int × List (List VV)
  | 0 => (0, s)
  | k + 1 => let c := (s[k]?).getD []
    let q := kp (colB l mark (k : Int) c) c (ovr s l mark k).1 c.length
    (q.1, (ovr s l mark k).2.set k q.2)

theorem ovr_len (s : List (List VV)) (l : List TX) (mark : Int) : ∀ k, (ovr s l mark k).2.length = s.length
  | 0 => rfl
  | k + 1 => by simp [ovr, ovr_len s l mark k]

theorem ovr_rows {s : List (List VV)} (hs : ∀ c ∈ s, c.length ≤ 50) (l : List TX) (mark : Int) : ∀ k, ∀ c ∈ (ovr s l mark k).2, c.length ≤ 50
  | 0 => hs
  | k + 1 => by
    intro c hc
    simp only [ovr] at hc
    rcases List.mem_or_eq_of_mem_set hc with h1 | rfl
    · exact ovr_rows hs l mark k c h1
    · refine Nat.le_trans (kp_len _ _ _ _) ?_
      cases h : s[k]? with
      | none => simp
      | some c => simpa using hs c (List.mem_of_getElem? h)

section
variable {ce : Bool} {s : List (List VV)} {l : List TX} {lk wt : List VM} {stamp : Int} (h : SmallE s l lk wt)
include h
theorem p_implInner (mark : Int) {k : Nat} (hk : k < s.length) (n : Int) (a1 : List (List VV)) (a2 a3 : Int) (b1 : Bool) (b2 : Int) (b3 : Bool) (b4 : Int) (a4 : List (List VV)) (b5 : List TX) (b6 b7 : List VM) :
    iter (fun v => impl_CollectVersions_D10 (mark, (k : Int), a1, a2, a3, s[k], ((s[k].length : Nat) : Int), ce, s, l, lk, wt, stamp, b1, b2, b3, b4, a4, b5, b6, b7, ()) v _ some) (n, 0, [], ()) = some ((kp (colB l mark (k : Int) s[k]) s[k] n s[k].length).1, (kp (colB l mark (k : Int) s[k]) s[k] n s[k].length).2, ()) := by
  have hc : s[k].length ≤ 1048576 := h.fs.2 _ (List.getElem_mem hk)
  refine iter_up' s[k].length (fun i => ((kp (colB l mark (k : Int) s[k]) s[k] n i).1, (i : Int), (kp (colB l mark (k : Int) s[k]) s[k] n i).2, ())) rfl (fun i hi => ?_) ?_
  · have hlen := kp_len (colB l mark (k : Int) s[k]) s[k] n i
    unfold impl_CollectVersions_D10
    simp only [lAt_nat hi, Option.bind_some, p_implCol h mark hk hi]
    rw [decide_eq_true (by omega), wrap_succ hi (by omega)]
    simp only [cond_true, kp]
    cases colB l mark (k : Int) s[k] i with
    | true => rfl
    | false =>
      simp only [cond_false, List.getElem?_eq_getElem hi, Option.toList_some]
      rw [if_pos (by simp; omega)]
  · unfold impl_CollectVersions_D10
    simp only
    rw [decide_eq_false (by omega)]; rfl
theorem p_specInner (hE : okE s l lk wt stamp = true) {k : Nat} (hk : k < s.length) (n : Int) (S : List (List VV)) (hS : S.length = s.length) (b1 : Bool) (b2 : Int) (b3 : Bool) (b4 : Int) (b5 : List TX) (b6 b7 : List VM) :
    iter (fun v => spec_CollectVersions_D8 ((k : Int), ce, s, l, lk, wt, stamp, b1, b2, b3, b4, b5, b6, b7, ()) v _ some) (n, 0, S.set k [], ()) = some ((kp (colB l (wmk s l stamp) (k : Int) s[k]) s[k] n s[k].length).1, S.set k (kp (colB l (wmk s l stamp) (k : Int) s[k]) s[k] n s[k].length).2, ()) := by
  have hc : s[k].length ≤ 1048576 := h.fs.2 _ (List.getElem_mem hk)
  have hkS : k < S.length := by omega
  refine iter_up' s[k].length (fun i => ((kp (colB l (wmk s l stamp) (k : Int) s[k]) s[k] n i).1, (i : Int), S.set k (kp (colB l (wmk s l stamp) (k : Int) s[k]) s[k] n i).2, ())) rfl (fun i hi => ?_) ?_
  · have hlen := kp_len (colB l (wmk s l stamp) (k : Int) s[k]) s[k] n i
    have c1 : (0 : Int) ≤ (k : Int) ∧ (k : Int) < ((S.length : Nat) : Int) := by omega
    unfold spec_CollectVersions_D8
    simp only [lAt_nat hk, lAt_nat hi, Option.bind_some, p_specCol h hE hk hi]
    rw [decide_eq_true (by omega), wrap_succ hi (by omega)]
    simp only [cond_true, kp]
    cases colB l (wmk s l stamp) (k : Int) s[k] i with
    | true => rfl
    | false =>
      simp only [cond_false, List.getElem?_eq_getElem hi, Option.toList_some, List.length_set, if_pos c1, Nat.zero_add, Int.toNat_natCast, List.getElem?_set_self hkS, Option.bind_some, List.length_append, List.length_cons, List.length_nil, List.set_set]
      rw [if_pos (by omega), if_pos (by simp)]
  · unfold spec_CollectVersions_D8
    simp only [lAt_nat hk, Option.bind_some]
    rw [decide_eq_false (by omega)]; rfl
end

/-- What is collected: the count, the chains. -/
noncomputable def cld (s : List (List VV)) (l : List TX) (lk wt : List VM) (stamp : Int) : Int × List (List VV) := bif okE s l lk wt stamp then ovr s l (wmk s l stamp) s.length else (0, s)

section
variable {ce : Bool} {s : List (List VV)} {l : List TX} {lk wt : List VM} {stamp : Int} (h : SmallE s l lk wt)
include h
theorem p_implCollect : impl_CollectVersions_S ((ce, (s, ()), l, lk, wt, stamp, ()), ()) = some (ce, stamp, (cld s l lk wt stamp).1, (cld s l lk wt stamp).2, l, lk, wt, ()) := by
  have hn := h.fs.1
  unfold impl_CollectVersions_S cld
  simp only [p_implECopy h, p_implE h, Option.bind_some]
  cases hE : okE s l lk wt stamp with
  | false => rfl
  | true =>
    simp only [Bool.not_true, cond_false, p_implWmk h hE, Option.bind_some, cond_true]
    rw [iter_up' (r := ((ovr s l (wmk s l stamp) s.length).1, (ovr s l (wmk s l stamp) s.length).2, ())) s.length (fun k => ((ovr s l (wmk s l stamp) k).1, (k : Int), (ovr s l (wmk s l stamp) k).2, ()))]
    · rfl
    · rfl
    · intro k hk
      have hl := ovr_len s l (wmk s l stamp) k
      unfold impl_CollectVersions_D6
      simp only [lAt_nat hk, Option.bind_some]
      rw [decide_eq_true (by omega), p_implInner h (wmk s l stamp) hk]
      simp only [cond_true, Option.bind_some, hl, Nat.zero_add, Int.toNat_natCast]
      rw [if_pos (by omega), wrap_succ hk (by omega)]
      have e : (ovr s l (wmk s l stamp) k).2[k]? = some ((ovr s l (wmk s l stamp) k).2[k]'(by omega)) := List.getElem?_eq_getElem (by omega)
      rw [e]
      simp only [Option.bind_some, ovr, List.getElem?_eq_getElem hk, Option.getD_some]
    · unfold impl_CollectVersions_D6
      simp only
      rw [decide_eq_false (by omega)]; rfl
theorem p_specCollect : spec_CollectVersions_S ((ce, (s, ()), l, lk, wt, stamp, ()), ()) = some (ce, stamp, (cld s l lk wt stamp).1, (cld s l lk wt stamp).2, l, lk, wt, ()) := by
  have hn := h.fs.1
  unfold spec_CollectVersions_S cld
  simp only [p_specECopy h, Option.bind_some]
  cases hE : okE s l lk wt stamp with
  | false =>
    rw [iter_eq]
    unfold spec_CollectVersions_D4
    simp only [p_specE h, hE, Option.bind_some]
    cases decide ((0 : Int) < ((s.length : Nat) : Int)) <;> rfl
  | true =>
    simp only [cond_true]
    rw [iter_up' (r := .inr ((ovr s l (wmk s l stamp) s.length).1, (ovr s l (wmk s l stamp) s.length).2, ())) s.length (fun k => ((ovr s l (wmk s l stamp) k).1, (k : Int), (ovr s l (wmk s l stamp) k).2, ()))]
    · rfl
    · rfl
    · intro k hk
      have hl := ovr_len s l (wmk s l stamp) k
      unfold spec_CollectVersions_D4
      simp only [p_specE h, hE, Option.bind_some, cond_true, hl, Nat.zero_add, Int.toNat_natCast]
      rw [decide_eq_true (by omega), if_pos (by omega), p_specInner h hE hk _ _ hl, wrap_succ hk (by omega)]
      have e : (ovr s l (wmk s l stamp) k).2[k]? = some ((ovr s l (wmk s l stamp) k).2[k]'(by omega)) := List.getElem?_eq_getElem (by omega)
      rw [e]
      simp only [cond_true, Option.bind_some, ovr, List.getElem?_eq_getElem hk, Option.getD_some]
    · unfold spec_CollectVersions_D4
      simp only
      rw [decide_eq_false (by omega)]; rfl
theorem cld_small : SmallE (cld s l lk wt stamp).2 l lk wt := by
  unfold cld
  cases hE : okE s l lk wt stamp with
  | false => exact h
  | true =>
    obtain ⟨g1, g2, g3, g4, g5⟩ := okE_parts hE
    have h6 := g1.1
    refine ⟨⟨?_, fun c hc => ?_⟩, h.fl, h.ft, h.fk, h.fw⟩
    · simp only [cond_true, ovr_len]; omega
    · simp only [cond_true] at hc
      have := ovr_rows (fun c hc => (g1.2 c hc).2) l (wmk s l stamp) s.length c hc
      unfold SmallC; omega
end

def setRd (t : TX) (r : List VM) : TX := (t.1, t.2.1, t.2.2.1, t.2.2.2.1, t.2.2.2.2.1, t.2.2.2.2.2.1, t.2.2.2.2.2.2.1, r, t.2.2.2.2.2.2.2.2.1, ())

def setWr (t : TX) (r : List VM) : TX := (t.1, t.2.1, t.2.2.1, t.2.2.2.1, t.2.2.2.2.1, t.2.2.2.2.2.1, t.2.2.2.2.2.2.1, t.2.2.2.2.2.2.2.1, r, ())

theorem p_markReadMarkS_n (ts : List TX) (i : Nat) (hi : i < ts.length) (k : Int) (h0 : 0 ≤ k) (hk : k + 2 * ts[i].2.2.2.2.2.2.2.1.length < 9223372036854775000) :
    laws_markReadMarkS_n_S (i, k, ts, ()) = some (k + 2 * ts[i].2.2.2.2.2.2.2.1.length, ts.set i (setRd ts[i] (mkL mk2 2 k ts[i].2.2.2.2.2.2.2.1.length)), ()) := by
  unfold laws_markReadMarkS_n_S
  simp only
  have hset0 : ts.set i (setRd ts[i] ts[i].2.2.2.2.2.2.2.1) = ts := by
    have : setRd ts[i] ts[i].2.2.2.2.2.2.2.1 = ts[i] := rfl
    rw [this]; simp
  generalize htt : ts[i] = t at *
  have key : ∀ x : TX, (ts.set i x)[i]? = some x := fun x => by simp [hi]
  rw [iter_up' (r := (k + 2 * t.2.2.2.2.2.2.2.1.length, ts.set i (setRd t (mkL mk2 2 k t.2.2.2.2.2.2.2.1.length)), ())) t.2.2.2.2.2.2.2.1.length (fun j => (k + 2 * (j : Int), (j : Int), ts.set i (setRd t (mkd mk2 2 k t.2.2.2.2.2.2.2.1 j)), ()))]
  · rfl
  · simp only [mkd_zero, hset0]; simp
  · intro j hj
    have hl := mkd_length mk2 2 k t.2.2.2.2.2.2.2.1 j (by omega)
    have hg := mkd_get mk2 2 k t.2.2.2.2.2.2.2.1 j hj
    have hs := mkd_set mk2 2 k t.2.2.2.2.2.2.2.1 j hj
    have c1 : (0 : Int) ≤ (j : Int) ∧ (j : Int) < ((t.2.2.2.2.2.2.2.1.length : Nat) : Int) := by omega
    unfold laws_markReadMarkS_n_D2
    simp only [key, Option.bind_some, setRd, hl, if_pos c1, Nat.zero_add, Int.toNat_natCast, hg, List.set_set, List.length_set, List.getElem?_set_self, hj]
    rw [decide_eq_true (by omega), wr1 (k := k + 2 * (j : Int)) (by omega) (by omega), wr1 (k := k + 2 * (j : Int) + 1) (by omega) (by omega), wr1 (k := (j : Int)) (by omega) (by omega)]
    have e1 : k + 2 * (j : Int) + 1 + 1 = k + 2 * ((j + 1 : Nat) : Int) := by push_cast; omega
    have e2 : (k + 2 * (j : Int), k + 2 * (j : Int) + 1, ()) = mk2 (k + 2 * (j : Int)) := by simp [mk2]
    rw [e1, e2, hs]
    simp [hj]
  · unfold laws_markReadMarkS_n_D2
    simp only [key, Option.bind_some, setRd, mkd_end, mkL_length]
    rw [decide_eq_false (by omega)]
    rfl

theorem p_markWriteS_n (ts : List TX) (i : Nat) (hi : i < ts.length) (k : Int) (h0 : 0 ≤ k) (hk : k + 2 * ts[i].2.2.2.2.2.2.2.2.1.length < 9223372036854775000) :
    laws_markWriteS_n_S (i, k, ts, ()) = some (k + 2 * ts[i].2.2.2.2.2.2.2.2.1.length, ts.set i (setWr ts[i] (mkL mk2 2 k ts[i].2.2.2.2.2.2.2.2.1.length)), ()) := by
  unfold laws_markWriteS_n_S
  simp only
  have hset0 : ts.set i (setWr ts[i] ts[i].2.2.2.2.2.2.2.2.1) = ts := by
    have : setWr ts[i] ts[i].2.2.2.2.2.2.2.2.1 = ts[i] := rfl
    rw [this]; simp
  generalize htt : ts[i] = t at *
  have key : ∀ x : TX, (ts.set i x)[i]? = some x := fun x => by simp [hi]
  rw [iter_up' (r := (k + 2 * t.2.2.2.2.2.2.2.2.1.length, ts.set i (setWr t (mkL mk2 2 k t.2.2.2.2.2.2.2.2.1.length)), ())) t.2.2.2.2.2.2.2.2.1.length (fun j => (k + 2 * (j : Int), (j : Int), ts.set i (setWr t (mkd mk2 2 k t.2.2.2.2.2.2.2.2.1 j)), ()))]
  · rfl
  · simp only [mkd_zero, hset0]; simp
  · intro j hj
    have hl := mkd_length mk2 2 k t.2.2.2.2.2.2.2.2.1 j (by omega)
    have hg := mkd_get mk2 2 k t.2.2.2.2.2.2.2.2.1 j hj
    have hs := mkd_set mk2 2 k t.2.2.2.2.2.2.2.2.1 j hj
    have c1 : (0 : Int) ≤ (j : Int) ∧ (j : Int) < ((t.2.2.2.2.2.2.2.2.1.length : Nat) : Int) := by omega
    unfold laws_markWriteS_n_D2
    simp only [key, Option.bind_some, setWr, hl, if_pos c1, Nat.zero_add, Int.toNat_natCast, hg, List.set_set, List.length_set, List.getElem?_set_self, hj]
    rw [decide_eq_true (by omega), wr1 (k := k + 2 * (j : Int)) (by omega) (by omega), wr1 (k := k + 2 * (j : Int) + 1) (by omega) (by omega), wr1 (k := (j : Int)) (by omega) (by omega)]
    have e1 : k + 2 * (j : Int) + 1 + 1 = k + 2 * ((j + 1 : Nat) : Int) := by push_cast; omega
    have e2 : (k + 2 * (j : Int), k + 2 * (j : Int) + 1, ()) = mk2 (k + 2 * (j : Int)) := by simp [mk2]
    rw [e1, e2, hs]
    simp [hj]
  · unfold laws_markWriteS_n_D2
    simp only [key, Option.bind_some, setWr, mkd_end, mkL_length]
    rw [decide_eq_false (by omega)]
    rfl

theorem p_markLockS (row : List VM) (k : Int) (h0 : 0 ≤ k) (hk : k + 2 * row.length < 9223372036854775000) :
    laws_markLockS_l_S (k, row, ()) = some (k + 2 * row.length, mkL mk2 2 k row.length, ()) := by
  unfold laws_markLockS_l_S
  simp only
  rw [iter_up' (r := (k + 2 * row.length, mkL mk2 2 k row.length, ())) row.length (fun j => (k + 2 * (j : Int), (j : Int), mkd mk2 2 k row j, ()))]
  · rfl
  · simp only [mkd_zero]; simp
  · intro j hj
    unfold laws_markLockS_l_D2
    have hl := mkd_length mk2 2 k row j (by omega)
    have hg := mkd_get mk2 2 k row j hj
    have hs := mkd_set mk2 2 k row j hj
    simp only [hl]
    rw [decide_eq_true (by omega), if_pos (by omega)]
    simp only [cond_true, Option.bind_some, Nat.zero_add, Int.toNat_natCast, hg, List.set_set, List.length_set, List.getElem?_set_self, hl, hj]
    rw [wr1 (k := k + 2 * (j : Int)) (by omega) (by omega), wr1 (k := k + 2 * (j : Int) + 1) (by omega) (by omega), wr1 (k := (j : Int)) (by omega) (by omega)]
    have e1 : k + 2 * (j : Int) + 1 + 1 = k + 2 * ((j + 1 : Nat) : Int) := by push_cast; omega
    have e2 : (k + 2 * (j : Int), k + 2 * (j : Int) + 1, ()) = mk2 (k + 2 * (j : Int)) := by simp [mk2]
    rw [e1, e2, hs]
    simp [hj]
  · unfold laws_markLockS_l_D2
    simp only [mkd_end, mkL_length]
    rw [decide_eq_false (by omega)]
    rfl

theorem p_heldLockS (n : Nat) (k : Int) (h0 : 0 ≤ k) (hk : k + 2 * n < 9223372036854775000) : laws_heldLockS_S (mkL mk2 2 k n, k, ()) = some (k + 2 * n, ()) := by
  unfold laws_heldLockS_S
  simp only
  refine iter_upK n (fun j => (k + 2 * (j : Int), (j : Int), ())) (by simp) (fun j hj => ?_) ⟨.inr (.inr (k + 2 * n, ())), ?_, rfl⟩
  · unfold laws_heldLockS_D2
    have hg : lAt (mkL mk2 2 k n) (j : Int) = some (mk2 (k + 2 * (j : Int))) := by
      rw [lAt_nat (by rw [mkL_length]; exact hj)]
      have := mkL_get mk2 2 k n j hj
      rw [List.getElem?_eq_getElem (by rw [mkL_length]; exact hj)] at this
      exact this
    simp only [mkL_length, hg, Option.bind_some]
    rw [decide_eq_true (by omega)]
    rw [wr1 (k := k + 2 * (j : Int)) (by omega) (by omega), wr1 (k := k + 2 * (j : Int) + 1) (by omega) (by omega), wr1 (k := (j : Int)) (by omega) (by omega)]
    simp only [mk2, cond_true]
    have e0 : (k + 2 * (j : Int) != k + 2 * (j : Int)) = false := by first | simp | (rw [bne_eq_false_iff_eq]; omega)
    have e1 : (k + 2 * (j : Int) + 1 != k + 2 * (j : Int) + 1) = false := by first | simp | (rw [bne_eq_false_iff_eq]; omega)
    simp only [e0, e1, cond_false]
    congr 3
    · push_cast; omega
  · unfold laws_heldLockS_D2
    simp only [mkL_length]
    rw [decide_eq_false (by omega)]
    rfl

theorem p_markWaitS (row : List VM) (k : Int) (h0 : 0 ≤ k) (hk : k + 2 * row.length < 9223372036854775000) :
    laws_markWaitS_l_S (k, row, ()) = some (k + 2 * row.length, mkL mk2 2 k row.length, ()) := by
  unfold laws_markWaitS_l_S
  simp only
  rw [iter_up' (r := (k + 2 * row.length, mkL mk2 2 k row.length, ())) row.length (fun j => (k + 2 * (j : Int), (j : Int), mkd mk2 2 k row j, ()))]
  · rfl
  · simp only [mkd_zero]; simp
  · intro j hj
    unfold laws_markWaitS_l_D2
    have hl := mkd_length mk2 2 k row j (by omega)
    have hg := mkd_get mk2 2 k row j hj
    have hs := mkd_set mk2 2 k row j hj
    simp only [hl]
    rw [decide_eq_true (by omega), if_pos (by omega)]
    simp only [cond_true, Option.bind_some, Nat.zero_add, Int.toNat_natCast, hg, List.set_set, List.length_set, List.getElem?_set_self, hl, hj]
    rw [wr1 (k := k + 2 * (j : Int)) (by omega) (by omega), wr1 (k := k + 2 * (j : Int) + 1) (by omega) (by omega), wr1 (k := (j : Int)) (by omega) (by omega)]
    have e1 : k + 2 * (j : Int) + 1 + 1 = k + 2 * ((j + 1 : Nat) : Int) := by push_cast; omega
    have e2 : (k + 2 * (j : Int), k + 2 * (j : Int) + 1, ()) = mk2 (k + 2 * (j : Int)) := by simp [mk2]
    rw [e1, e2, hs]
    simp [hj]
  · unfold laws_markWaitS_l_D2
    simp only [mkd_end, mkL_length]
    rw [decide_eq_false (by omega)]
    rfl

theorem p_heldWaitS (n : Nat) (k : Int) (h0 : 0 ≤ k) (hk : k + 2 * n < 9223372036854775000) : laws_heldWaitS_S (mkL mk2 2 k n, k, ()) = some (k + 2 * n, ()) := by
  unfold laws_heldWaitS_S
  simp only
  refine iter_upK n (fun j => (k + 2 * (j : Int), (j : Int), ())) (by simp) (fun j hj => ?_) ⟨.inr (.inr (k + 2 * n, ())), ?_, rfl⟩
  · unfold laws_heldWaitS_D2
    have hg : lAt (mkL mk2 2 k n) (j : Int) = some (mk2 (k + 2 * (j : Int))) := by
      rw [lAt_nat (by rw [mkL_length]; exact hj)]
      have := mkL_get mk2 2 k n j hj
      rw [List.getElem?_eq_getElem (by rw [mkL_length]; exact hj)] at this
      exact this
    simp only [mkL_length, hg, Option.bind_some]
    rw [decide_eq_true (by omega)]
    rw [wr1 (k := k + 2 * (j : Int)) (by omega) (by omega), wr1 (k := k + 2 * (j : Int) + 1) (by omega) (by omega), wr1 (k := (j : Int)) (by omega) (by omega)]
    simp only [mk2, cond_true]
    have e0 : (k + 2 * (j : Int) != k + 2 * (j : Int)) = false := by first | simp | (rw [bne_eq_false_iff_eq]; omega)
    have e1 : (k + 2 * (j : Int) + 1 != k + 2 * (j : Int) + 1) = false := by first | simp | (rw [bne_eq_false_iff_eq]; omega)
    simp only [e0, e1, cond_false]
    congr 3
    · push_cast; omega
  · unfold laws_heldWaitS_D2
    simp only [mkL_length]
    rw [decide_eq_false (by omega)]
    rfl

def mkT (k : Int) (t : TX) : TX := (k, k + 1, k + 2, k + 3, k + 4, k + 5, k + 6, mkL mk2 2 (k + 7) t.2.2.2.2.2.2.2.1.length, mkL mk2 2 (k + 7 + 2 * t.2.2.2.2.2.2.2.1.length) t.2.2.2.2.2.2.2.2.1.length, ())

def enT (k : Int) (t : TX) : Int := k + 7 + 2 * t.2.2.2.2.2.2.2.1.length + 2 * t.2.2.2.2.2.2.2.2.1.length

def mkTS : Int → List TX → List TX
  | _, [] => []
  | k, t :: ts => mkT k t :: mkTS (enT k t) ts

def enTS : Int → List TX → Int
  | k, [] => k
  | k, t :: ts => enTS (enT k t) ts

theorem enT_ge (k : Int) (t : TX) : k ≤ enT k t := by unfold enT; omega

theorem enTS_ge (k : Int) (ts : List TX) : k ≤ enTS k ts := by
  induction ts generalizing k with
  | nil => exact Int.le_refl k
  | cons t ts ih => have := ih (enT k t); have := enT_ge k t; simp only [enTS]; omega

theorem enTS_le {a : List TX} : ∀ (k : Int), (∀ t ∈ a, smT t) → enTS k a ≤ k + 4194311 * a.length := by
  induction a with
  | nil => intro k _; simp [enTS]
  | cons r rs ih =>
    intro k h
    have h1 := ih (enT k r) (fun e he => h e (List.mem_cons_of_mem _ he))
    have h2 := h r (List.mem_cons_self ..)
    unfold smT at h2
    unfold enT at h1
    simp only [enTS, List.length_cons]
    unfold enT
    push_cast
    omega

theorem p_markTransactionS (ts : List TX) (k : Int) (h0 : 0 ≤ k) (hk : enTS k ts < 9223372036854775000) (hl : ts.length < 9223372036854775000) : laws_markTransactionS_l_S (k, ts, ()) = some (enTS k ts, mkTS k ts, ()) := by
  unfold laws_markTransactionS_l_S
  simp only
  have key : ∀ (rs pre : List TX) (k : Int), 0 ≤ k → enTS k rs < 9223372036854775000 → pre.length + rs.length < 9223372036854775000 →
      iter (fun v => laws_markTransactionS_l_D2 () v _ some) (k, (pre.length : Int), pre ++ rs, ()) = some (enTS k rs, pre ++ mkTS k rs, ()) := by
    intro rs
    induction rs with
    | nil =>
      intro pre k h0 hk hl
      rw [iter_eq]
      unfold laws_markTransactionS_l_D2
      simp only [List.append_nil]
      rw [decide_eq_false (by omega)]
      simp [enTS, mkTS]
    | cons t rs ih =>
      intro pre k h0 hk hl
      have hge := enTS_ge (enT k t) rs
      simp only [enTS] at hk
      have hge2 : enT k t < 9223372036854775000 := by omega
      unfold enT at hge2
      simp only [List.length_cons] at hl
      have hi : pre.length < (pre ++ t :: rs).length := by simp
      have hget : (pre ++ t :: rs)[pre.length]? = some t := by simp
      have keyS : ∀ x : TX, ((pre ++ t :: rs).set pre.length x)[pre.length]? = some x := fun x => by simp
      have c1 : (0 : Int) ≤ (pre.length : Int) ∧ (pre.length : Int) < (((pre ++ t :: rs).length : Nat) : Int) := by simp; omega
      have hR := p_markReadMarkS_n ((pre ++ t :: rs).set pre.length (k, k + 1, k + 2, k + 3, k + 4, k + 5, k + 6, t.2.2.2.2.2.2.2.1, t.2.2.2.2.2.2.2.2.1, ())) pre.length (by simp) (k + 7) (by omega) (by simp; omega)
      simp only [List.getElem_set_self, setRd, List.set_set] at hR
      have hW := p_markWriteS_n ((pre ++ t :: rs).set pre.length (k, k + 1, k + 2, k + 3, k + 4, k + 5, k + 6, mkL mk2 2 (k + 7) t.2.2.2.2.2.2.2.1.length, t.2.2.2.2.2.2.2.2.1, ())) pre.length (by simp) (k + 7 + 2 * t.2.2.2.2.2.2.2.1.length) (by omega) (by simp; omega)
      simp only [List.getElem_set_self, setWr, List.set_set] at hW
      have hset : (pre ++ t :: rs).set pre.length (mkT k t) = (pre ++ [mkT k t]) ++ rs := by simp
      have hB : laws_markTransactionS_l_D2 () (k, (pre.length : Int), pre ++ t :: rs, ()) _ some = some (.inl (enT k t, (pre.length : Int) + 1, (pre ++ [mkT k t]) ++ rs, ())) := by
        unfold laws_markTransactionS_l_D2
        simp only [List.length_set, if_pos c1, Nat.zero_add, Int.toNat_natCast, hget, Option.bind_some, keyS, List.set_set]
        rw [decide_eq_true c1.2, wr1 (k := k) (by omega) (by omega), wr1 (k := k + 1) (by omega) (by omega), wr1 (k := k + 1 + 1) (by omega) (by omega), wr1 (k := k + 1 + 1 + 1) (by omega) (by omega), wr1 (k := k + 1 + 1 + 1 + 1) (by omega) (by omega), wr1 (k := k + 1 + 1 + 1 + 1 + 1) (by omega) (by omega), wr1 (k := k + 1 + 1 + 1 + 1 + 1 + 1) (by omega) (by omega), wr1 (k := (pre.length : Int)) (by omega) (by omega)]
        have a2 : k + 1 + 1 = k + 2 := by omega
        have a3 : k + 2 + 1 = k + 3 := by omega
        have a4 : k + 3 + 1 = k + 4 := by omega
        have a5 : k + 4 + 1 = k + 5 := by omega
        have a6 : k + 5 + 1 = k + 6 := by omega
        have a7 : k + 6 + 1 = k + 7 := by omega
        simp only [a2, a3, a4, a5, a6, a7, hR, Option.bind_some, keyS, List.length_set, if_pos c1, hW, cond_true]
        rw [← hset]
        rfl
      rw [iter_eq, hB]
      have := ih (pre ++ [mkT k t]) (enT k t) (by have := enT_ge k t; omega) hk (by simp; omega)
      simp only [List.length_append, List.length_cons, List.length_nil, Nat.zero_add, Int.natCast_add] at this
      rw [show ((1 : Nat) : Int) = 1 from rfl] at this
      simp only [Option.bind_some]
      rw [this]
      simp [enTS, mkTS]
  have := key ts [] k h0 hk (by simpa using hl)
  simp only [List.length_nil, List.nil_append, Int.natCast_zero] at this
  rw [this]; rfl

theorem p_heldTransactionS (ts : List TX) (k : Int) (h0 : 0 ≤ k) (hk : enTS k ts < 9223372036854775000) (hl : ts.length < 9223372036854775000) : laws_heldTransactionS_S (mkTS k ts, k, ()) = some (enTS k ts, ()) := by
  unfold laws_heldTransactionS_S
  simp only
  have key : ∀ (rs pre : List TX) (k : Int), 0 ≤ k → enTS k rs < 9223372036854775000 → pre.length + rs.length < 9223372036854775000 →
      iter (fun v => laws_heldTransactionS_D2 (pre ++ mkTS k rs, ()) v _ some) (k, (pre.length : Int), ()) = some (.inr (.inr (.inr (.inr (.inr (.inr (.inr (.inr (.inr (enTS k rs, ())))))))))) := by
    intro rs
    induction rs with
    | nil =>
      intro pre k h0 hk hl
      rw [iter_eq]
      unfold laws_heldTransactionS_D2
      simp only [mkTS, List.append_nil]
      rw [decide_eq_false (by omega)]
      simp [enTS]
    | cons t rs ih =>
      intro pre k h0 hk hl
      have hge := enTS_ge (enT k t) rs
      simp only [enTS] at hk
      have hge2 : enT k t < 9223372036854775000 := by omega
      unfold enT at hge2
      simp only [List.length_cons] at hl
      rw [iter_eq]
      simp only [mkTS]
      have := ih (pre ++ [mkT k t]) (enT k t) (by have := enT_ge k t; omega) hk (by simp; omega)
      simp only [List.length_append, List.length_cons, List.length_nil, Nat.zero_add, Int.natCast_add, List.append_assoc, List.singleton_append] at this
      rw [show ((1 : Nat) : Int) = 1 from rfl] at this
      simp only [enTS]
      rw [← this]
      have hB : laws_heldTransactionS_D2 (pre ++ mkT k t :: mkTS (enT k t) rs, ()) (k, (pre.length : Int), ()) _ some = some (.inl (enT k t, (pre.length : Int) + 1, ())) := by
        unfold laws_heldTransactionS_D2
        have hg : lAt (pre ++ mkT k t :: mkTS (enT k t) rs) (pre.length : Int) = some (mkT k t) := by
          rw [lAt_nat (by simp)]; simp
        simp only [hg, Option.bind_some]
        rw [decide_eq_true (by simp; omega), wr1 (k := k) (by omega) (by omega), wr1 (k := k + 1) (by omega) (by omega), wr1 (k := k + 1 + 1) (by omega) (by omega), wr1 (k := k + 1 + 1 + 1) (by omega) (by omega), wr1 (k := k + 1 + 1 + 1 + 1) (by omega) (by omega), wr1 (k := k + 1 + 1 + 1 + 1 + 1) (by omega) (by omega), wr1 (k := k + 1 + 1 + 1 + 1 + 1 + 1) (by omega) (by omega), wr1 (k := (pre.length : Int)) (by omega) (by omega)]
        have a2 : k + 1 + 1 = k + 2 := by omega
        have a3 : k + 2 + 1 = k + 3 := by omega
        have a4 : k + 3 + 1 = k + 4 := by omega
        have a5 : k + 4 + 1 = k + 5 := by omega
        have a6 : k + 5 + 1 = k + 6 := by omega
        have a7 : k + 6 + 1 = k + 7 := by omega
        simp only [a2, a3, a4, a5, a6, a7, mkT, bne_self_eq_false, cond_true, cond_false, p_heldReadMarkS t.2.2.2.2.2.2.2.1.length (k + 7) (by omega) (by omega), Option.bind_some]
        rw [decide_eq_false (by omega)]
        simp only [cond_false, p_heldWriteS t.2.2.2.2.2.2.2.2.1.length (k + 7 + 2 * (t.2.2.2.2.2.2.2.1.length : Int)) (by omega) (by omega), Option.bind_some]
        rw [decide_eq_false (by omega)]
        rfl
      rw [hB]; rfl
  have := key ts [] k h0 hk (by simpa using hl)
  simp only [List.length_nil, List.nil_append, Int.natCast_zero] at this
  rw [this]; rfl

/-- An engine's marks: where they end. -/
def enE (s : List (List VV)) (l : List TX) (lk wt : List VM) : Int := enTS (enSS 1 s) l + 2 * lk.length + 2 * wt.length

section
variable {ce : Bool} {s : List (List VV)} {l : List TX} {lk wt : List VM} {stamp : Int} (h : SmallE s l lk wt)
include h
theorem enE_bound : 1 ≤ enSS 1 s ∧ enSS 1 s ≤ enTS (enSS 1 s) l ∧ enTS (enSS 1 s) l ≤ 2000000000000000000 ∧ enTS (enSS 1 s) l ≤ enE s l lk wt ∧ enE s l lk wt ≤ 3000000000000000000 := by
  have b1 := enSS_bound h.fs
  have b2 := enTS_ge (enSS 1 s) l
  have b3 := enTS_le (enSS 1 s) h.ft
  have b4 := h.fl
  have b5 := h.fk
  have b6 := h.fw
  unfold enE
  omega
theorem p_markEngine : laws_markEngine_l_S (ce, stamp, 1, s, l, lk, wt, ()) = some (enE s l lk wt, mkSS 1 s, mkTS (enSS 1 s) l, mkL mk2 2 (enTS (enSS 1 s) l) lk.length, mkL mk2 2 (enTS (enSS 1 s) l + 2 * lk.length) wt.length, ()) := by
  obtain ⟨b1, b2, b3, b4, b5⟩ := enE_bound h
  have c4 := h.fl
  have c5 := h.fk
  have c6 := h.fw
  unfold laws_markEngine_l_S
  simp only [p_markStore h.fs, Option.bind_some, p_markTransactionS l (enSS 1 s) (by omega) (by omega) (by omega), p_markLockS lk (enTS (enSS 1 s) l) (by omega) (by omega), p_markWaitS wt (enTS (enSS 1 s) l + 2 * lk.length) (by omega) (by omega)]
  rfl
theorem p_heldEngine : laws_heldEngine_S ((ce, (mkSS 1 s, ()), mkTS (enSS 1 s) l, mkL mk2 2 (enTS (enSS 1 s) l) lk.length, mkL mk2 2 (enTS (enSS 1 s) l + 2 * lk.length) wt.length, stamp, ()), 1, ()) = some (enE s l lk wt, ()) := by
  obtain ⟨b1, b2, b3, b4, b5⟩ := enE_bound h
  have c4 := h.fl
  have c5 := h.fk
  have c6 := h.fw
  unfold laws_heldEngine_S
  simp only [p_heldStore h.fs, Option.bind_some]
  rw [decide_eq_false (by omega)]
  simp only [cond_false, p_heldTransactionS l (enSS 1 s) (by omega) (by omega) (by omega), Option.bind_some]
  rw [decide_eq_false (by omega)]
  simp only [cond_false, p_heldLockS lk.length (enTS (enSS 1 s) l) (by omega) (by omega), Option.bind_some]
  rw [decide_eq_false (by omega)]
  simp only [cond_false, p_heldWaitS wt.length (enTS (enSS 1 s) l + 2 * lk.length) (by omega) (by omega), Option.bind_some]
  rw [decide_eq_false (by omega)]
  rfl
end

def law_tsC : List Ty := [YEngine]

/-- **FnExactCollectVersions's function answers true.** -/
theorem law_CollectVersions (x : den (slotsT law_tsC).ty) (hx : wf (slotsT law_tsC).ty x) : laws_FnExactCollectVersions_S x = some (true, ()) := by
  obtain ⟨⟨ce, ⟨s, _⟩, t, lk, wt, stamp, _⟩, _⟩ := x
  have hs := hx.1.2.1.1
  have ht := hx.1.2.2.1
  have hk := hx.1.2.2.2.1.1
  have hw := hx.1.2.2.2.2.1.1
  unfold laws_FnExactCollectVersions_S
  refine law_sz (p_szEngine hs.1 (fun e he => (hs.2 e he).1) ht.1 (fun e he => ⟨(ht.2 e he).2.2.2.2.2.2.2.1.1, (ht.2 e he).2.2.2.2.2.2.2.2.1.1⟩) hk hw (by omega) (by omega)) fun n h0 h1 hA => ?_
  have hA : SmallE s t lk wt := hA
  have hC := cld_small hA (stamp := stamp)
  obtain ⟨b1, b2, b3, b4, b5⟩ := enE_bound hA
  obtain ⟨c1, c2, c3, c4, c5⟩ := enE_bound hC
  have d1 : decide (enE s t lk wt < 0) = false := decide_eq_false (by omega)
  have d2 : decide (enE (cld s t lk wt stamp).2 t lk wt < 0) = false := decide_eq_false (by omega)
  simp only [p_toEngine hA, Option.bind_some, p_specCollect hA, p_implCollect hA, p_eqEngine hA, p_eqEngine hC, p_markEngine hA, p_markEngine hC, p_heldEngine hC, d1, d2]
  simp

end Go.Ab
