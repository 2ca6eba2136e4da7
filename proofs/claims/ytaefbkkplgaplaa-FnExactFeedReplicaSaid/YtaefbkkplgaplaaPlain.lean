import Derived.Test.YtaefbkkplgaplaaGenF2
set_option linter.unusedVariables false
set_option linter.unusedSimpArgs false
namespace Go.Ab

abbrev VM := Int × Int × Unit

abbrev VV := Int × Int × Int × Int × Int × Unit

def mk2 (k : Int) : VM := (k, k + 1, ())

def mk5 (k : Int) : VV := (k, k + 1, k + 2, k + 3, k + 4, ())

def mkL {α : Type} (f : Int → α) (c : Int) (k : Int) : Nat → List α
  | 0 => []
  | n + 1 => f k :: mkL f c (k + c) n

theorem mkL_length {α : Type} (f : Int → α) (c k : Int) (n : Nat) : (mkL f c k n).length = n := by
  induction n generalizing k with
  | zero => rfl
  | succ n ih => simp [mkL, ih]

theorem mkL_get {α : Type} (f : Int → α) (c k : Int) (n i : Nat) (h : i < n) : (mkL f c k n)[i]? = some (f (k + c * i)) := by
  induction n generalizing k i with
  | zero => omega
  | succ n ih =>
    cases i with
    | zero => simp [mkL]
    | succ i =>
      simp only [mkL, List.getElem?_cons_succ]
      rw [ih (k + c) i (by omega)]
      congr 2
      push_cast
      rw [Int.mul_add, Int.mul_one]; omega

theorem mkL_snoc {α : Type} (f : Int → α) (c k : Int) (n : Nat) : mkL f c k (n + 1) = mkL f c k n ++ [f (k + c * n)] := by
  induction n generalizing k with
  | zero => simp [mkL]
  | succ n ih =>
    rw [mkL, ih (k + c), mkL]
    simp only [List.cons_append]
    congr 4
    push_cast
    rw [Int.mul_add, Int.mul_one]; omega

/-- The row, the first j marked. -/
def mkd {α : Type} (f : Int → α) (c k : Int) (row : List α) (j : Nat) : List α := mkL f c k j ++ row.drop j

theorem mkd_zero {α : Type} (f : Int → α) (c k : Int) (row : List α) : mkd f c k row 0 = row := by simp [mkd, mkL]

theorem mkd_length {α : Type} (f : Int → α) (c k : Int) (row : List α) (j : Nat) (h : j ≤ row.length) : (mkd f c k row j).length = row.length := by
  simp [mkd, mkL_length]; omega

theorem mkd_end {α : Type} (f : Int → α) (c k : Int) (row : List α) : mkd f c k row row.length = mkL f c k row.length := by simp [mkd]

theorem mkd_get {α : Type} (f : Int → α) (c k : Int) (row : List α) (j : Nat) (h : j < row.length) : (mkd f c k row j)[j]? = some row[j] := by
  unfold mkd
  rw [List.getElem?_append_right (by rw [mkL_length]; omega)]
  simp [mkL_length, h]

theorem mkd_set {α : Type} (f : Int → α) (c k : Int) (row : List α) (j : Nat) (h : j < row.length) : (mkd f c k row j).set j (f (k + c * j)) = mkd f c k row (j + 1) := by
  unfold mkd
  rw [mkL_snoc, List.set_append_right _ _ (by rw [mkL_length]; omega), mkL_length, Nat.sub_self]
  rw [show row.drop j = row[j] :: row.drop (j + 1) from List.drop_eq_getElem_cons h, List.set_cons_zero]
  simp

theorem wr1 {k : Int} (h0 : 0 ≤ k) (h : k < 9223372036854775807) : IntKind.wrap IntKind.i64 (k + 1) = k + 1 := wrap_id (by omega) (by omega)

theorem iter_up' {σ ρ : Type} {B : σ → Option (σ ⊕ ρ)} {s0 : σ} {r : ρ} (n : Nat) (st : Nat → σ) (h0 : s0 = st 0) (hstep : ∀ i, i < n → B (st i) = some (.inl (st (i + 1)))) (hend : B (st n) = some (.inr r)) : iter B s0 = some r := by
  subst h0; exact iter_up st hstep hend

theorem p_markVersionS (xss : List (List VV)) (i : Nat) (hi : i < xss.length) (k : Int) (h0 : 0 ≤ k) (hk : k + 5 * xss[i].length < 9223372036854775000) :
    laws_markVersionS_l_S (i, k, xss, ()) = some (k + 5 * xss[i].length, xss.set i (mkL mk5 5 k xss[i].length), ()) := by
  unfold laws_markVersionS_l_S
  simp only
  generalize hrow : xss[i] = row at *
  have key : ∀ j : Nat, (xss.set i (mkd mk5 5 k row j))[i]? = some (mkd mk5 5 k row j) := fun j => by simp [hi]
  rw [iter_up' (r := (k + 5 * row.length, xss.set i (mkL mk5 5 k row.length), ())) row.length (fun j => (k + 5 * (j : Int), (j : Int), xss.set i (mkd mk5 5 k row j), ()))]
  · rfl
  · simp only [mkd_zero, ← hrow]; simp
  · intro j hj
    unfold laws_markVersionS_l_D2
    have hl := mkd_length mk5 5 k row j (by omega)
    have hg := mkd_get mk5 5 k row j hj
    have hs := mkd_set mk5 5 k row j hj
    simp only [key, Option.bind_some, hl]
    rw [decide_eq_true (by omega), if_pos (by omega)]
    simp only [cond_true, Option.bind_some, Nat.zero_add, Int.toNat_natCast, hg, List.set_set, List.length_set, List.getElem?_set_self, hi, hl, hj]
    rw [wr1 (k := k + 5 * (j : Int)) (by omega) (by omega), wr1 (k := k + 5 * (j : Int) + 1) (by omega) (by omega), wr1 (k := k + 5 * (j : Int) + 1 + 1) (by omega) (by omega), wr1 (k := k + 5 * (j : Int) + 1 + 1 + 1) (by omega) (by omega), wr1 (k := k + 5 * (j : Int) + 1 + 1 + 1 + 1) (by omega) (by omega), wr1 (k := (j : Int)) (by omega) (by omega)]
    have e1 : k + 5 * (j : Int) + 1 + 1 + 1 + 1 + 1 = k + 5 * ((j + 1 : Nat) : Int) := by push_cast; omega
    have e2 : (k + 5 * (j : Int), k + 5 * (j : Int) + 1, k + 5 * (j : Int) + 1 + 1, k + 5 * (j : Int) + 1 + 1 + 1, k + 5 * (j : Int) + 1 + 1 + 1 + 1, ()) = mk5 (k + 5 * (j : Int)) := by simp [mk5]; omega
    rw [e1, e2, hs]
    simp [hj]
  · unfold laws_markVersionS_l_D2
    simp only [key, Option.bind_some, mkd_end, mkL_length]
    have key2 : (xss.set i (mkL mk5 5 k row.length))[i]? = some (mkL mk5 5 k row.length) := by simp [hi]
    simp only [key2, Option.bind_some, mkL_length]
    rw [decide_eq_false (by omega)]
    rfl

/-- A loop whose exits all come to something. -/
theorem iter_upK {σ ρ τ : Type} {B : σ → Option (σ ⊕ ρ)} {s0 : σ} {k : ρ → Option τ} {q : Option τ} (n : Nat) (st : Nat → σ) (h0 : s0 = st 0) (hstep : ∀ i, i < n → B (st i) = some (.inl (st (i + 1)))) (hend : ∃ r, B (st n) = some (.inr r) ∧ k r = q) : (iter B s0).bind k = q := by
  obtain ⟨r, h1, h2⟩ := hend
  rw [iter_up' n st h0 hstep h1]; exact h2

def mkSS : Int → List (List VV) → List (List VV)
  | _, [] => []
  | k, r :: rs => mkL mk5 5 k r.length :: mkSS (k + 5 * r.length) rs

def enSS : Int → List (List VV) → Int
  | k, [] => k
  | k, r :: rs => enSS (k + 5 * r.length) rs

theorem enSS_ge (k : Int) (xss : List (List VV)) : k ≤ enSS k xss := by
  induction xss generalizing k with
  | nil => exact Int.le_refl k
  | cons r rs ih => have := ih (k + 5 * r.length); simp only [enSS]; omega

theorem p_markVersionSS (xss : List (List VV)) (k : Int) (h0 : 0 ≤ k) (hk : enSS k xss < 9223372036854775000) (hl : xss.length < 9223372036854775000) : laws_markVersionSS_l_S (k, xss, ()) = some (enSS k xss, mkSS k xss, ()) := by
  unfold laws_markVersionSS_l_S
  simp only
  have key : ∀ (rs pre : List (List VV)) (k : Int), 0 ≤ k → enSS k rs < 9223372036854775000 → pre.length + rs.length < 9223372036854775000 →
      iter (fun v => laws_markVersionSS_l_D2 () v _ some) (k, (pre.length : Int), pre ++ rs, ()) = some (enSS k rs, pre ++ mkSS k rs, ()) := by
    intro rs
    induction rs with
    | nil =>
      intro pre k h0 hk hl
      rw [iter_eq]
      unfold laws_markVersionSS_l_D2
      simp only [List.append_nil]
      rw [decide_eq_false (by omega)]
      simp [enSS, mkSS]
    | cons r rs ih =>
      intro pre k h0 hk hl
      have hge := enSS_ge (k + 5 * r.length) rs
      simp only [enSS] at hk
      simp only [List.length_cons] at hl
      have hi : pre.length < (pre ++ r :: rs).length := by simp
      have hget : (pre ++ r :: rs)[pre.length] = r := by simp
      have hm := p_markVersionS (pre ++ r :: rs) pre.length hi k h0 (by rw [hget]; omega)
      rw [hget] at hm
      have hset : (pre ++ r :: rs).set pre.length (mkL mk5 5 k r.length) = (pre ++ [mkL mk5 5 k r.length]) ++ rs := by simp
      have hB : laws_markVersionSS_l_D2 () (k, (pre.length : Int), pre ++ r :: rs, ()) _ some = some (.inl (k + 5 * r.length, (pre.length : Int) + 1, (pre ++ [mkL mk5 5 k r.length]) ++ rs, ())) := by
        unfold laws_markVersionSS_l_D2
        simp only [List.length_append, List.length_cons]
        rw [decide_eq_true (by omega), if_pos (by omega)]
        have hge2 : (pre ++ r :: rs)[pre.length]? = some r := by simp
        simp only [cond_true, Nat.zero_add, Int.toNat_natCast, hge2, Option.bind_some, hm]
        rw [wr1 (by omega) (by omega), hset]
      rw [iter_eq, hB]
      have := ih (pre ++ [mkL mk5 5 k r.length]) (k + 5 * r.length) (by omega) hk (by simp; omega)
      simp only [List.length_append, List.length_cons, List.length_nil, Nat.zero_add, Int.natCast_add] at this
      rw [show ((1 : Nat) : Int) = 1 from rfl] at this
      simp only [Option.bind_some]
      rw [this]
      simp [enSS, mkSS]
  have := key xss [] k h0 hk (by simpa using hl)
  simp only [List.length_nil, List.nil_append, Int.natCast_zero] at this
  rw [this]; rfl

theorem all_loopK {ρ τ : Type} {B : Int × Unit → Option ((Int × Unit) ⊕ ρ)} {k : ρ → Option τ} {n : Nat} {c : Nat → Prop} {X no : Option τ}
    (hB : ∀ i, i < n → (c i → B ((i : Int), ()) = some (.inl (((i + 1 : Nat) : Int), ()))) ∧ (¬ c i → ∃ r, B ((i : Int), ()) = some (.inr r) ∧ k r = no))
    (hend : ∃ r, B ((n : Int), ()) = some (.inr r) ∧ k r = X) :
    (iter B (0, ())).bind k = bif dec (∀ i, i < n → c i) then X else no := by
  have key : ∀ m i : Nat, i + m = n → (iter B ((i : Int), ())).bind k = bif dec (∀ j, i ≤ j → j < n → c j) then X else no := by
    intro m
    induction m with
    | zero =>
      intro i hi
      obtain rfl : i = n := by omega
      obtain ⟨r, h1, h2⟩ := hend
      rw [iter_eq, h1, dec_true (fun j h1 h2 => by omega)]; exact h2
    | succ m ih =>
      intro i hi
      by_cases hc : c i
      · rw [iter_eq, (hB i (by omega)).1 hc]
        simp only [Option.bind_some]
        rw [ih (i + 1) (by omega)]
        congr 1
        apply dec_congr
        constructor
        · intro h j h1 h2
          by_cases e : j = i
          · rw [e]; exact hc
          · exact h j (by omega) h2
        · intro h j h1 h2; exact h j (by omega) h2
      · obtain ⟨r, h1, h2⟩ := (hB i (by omega)).2 hc
        rw [iter_eq, h1, dec_false (fun h => hc (h i (Nat.le_refl _) (by omega)))]; exact h2
  have := key n 0 (by omega)
  simp only [Int.natCast_zero, Nat.zero_le, true_implies] at this
  exact this

/-- A loop that folds a list. -/
theorem fold_loopK {σ α ρ τ : Type} {l : List α} {f : σ → α → σ} {B : σ × Int × Unit → Option ((σ × Int × Unit) ⊕ ρ)} {k : ρ → Option τ} {X : σ → Option τ} {q : Option τ} (n0 : σ) (hB : ∀ (i : Nat) (h : i < l.length) (n : σ), B (n, (i : Int), ()) = some (.inl (f n l[i], ((i + 1 : Nat) : Int), ())))
    (hend : ∀ n, ∃ r, B (n, (l.length : Int), ()) = some (.inr r) ∧ k r = X n) (hq : X (l.foldl f n0) = q) : (iter B (n0, 0, ())).bind k = q := by
  have key : ∀ m i : Nat, i + m = l.length → ∀ n, (iter B (n, (i : Int), ())).bind k = X ((l.drop i).foldl f n) := by
    intro m
    induction m with
    | zero =>
      intro i hi n
      obtain rfl : i = l.length := by omega
      obtain ⟨r, h1, h2⟩ := hend n
      rw [iter_eq, h1]; simpa using h2
    | succ m ih =>
      intro i hi n
      have h : i < l.length := by omega
      rw [iter_eq, hB i h, List.drop_eq_getElem_cons h]
      simp only [Option.bind_some]
      rw [ih (i + 1) (by omega)]; rfl
  have := key l.length 0 (by omega) n0
  simpa [hq] using this

def SmallC (a : List VV) : Prop := a.length ≤ 1048576

def SmallCs (a : List (List VV)) : Prop := a.length ≤ 1048576 ∧ ∀ e ∈ a, SmallC e

theorem p_specIn (x lo hi : Int) : spec_l1In_S (x, lo, hi, ()) = some (inB x lo hi, ()) := by
  unfold spec_l1In_S inB
  by_cases h : lo ≤ x <;> simp [h]

theorem p_implIn (x lo hi : Int) : impl_in_S (x, lo, hi, ()) = some (inB x lo hi, ()) := by
  unfold impl_in_S inB
  by_cases h : lo ≤ x <;> simp [h]

theorem p_isKey (x : Int) : impl_isKey_S (x, ()) = some (inB x 0 5, ()) := by simp [impl_isKey_S, p_implIn]

theorem p_isID (x : Int) : impl_isID_S (x, ()) = some (inB x 1 9, ()) := by simp [impl_isID_S, p_implIn]

theorem p_isValue (x : Int) : impl_isValue_S (x, ()) = some (inB x (-1) 99, ()) := by simp [impl_isValue_S, p_implIn]

/-- A valid version. -/
def okV (v : VV) : Bool := inB v.2.1 (-1) 99 && inB v.2.2.1 0 999 && inB v.2.2.2.1 v.2.2.1 999 && inB v.2.2.2.2.1 1 1000 && (bif v.2.2.1 == 0 then (bif v.1 == 0 then v.2.1 == -1 else false) else inB v.1 1 9)

theorem p_specV (v : VV) : spec_IsValidVersion_S (v, ()) = some (okV v, ()) := by
  unfold spec_IsValidVersion_S okV
  simp only [p_specIn, Option.bind_some]
  cases inB v.2.1 (-1) 99 <;> cases inB v.2.2.1 0 999 <;> cases inB v.2.2.2.1 v.2.2.1 999 <;> cases inB v.2.2.2.2.1 1 1000 <;> cases (v.2.2.1 == 0 : Bool) <;> cases (v.1 == 0 : Bool) <;> simp

theorem p_implV (v : VV) : impl_IsValidVersion_S (v, ()) = some (okV v, ()) := by
  unfold impl_IsValidVersion_S okV
  simp only [p_implIn, p_isValue, p_isID, Option.bind_some]
  cases inB v.2.1 (-1) 99 <;> cases inB v.2.2.1 0 999 <;> cases inB v.2.2.2.1 v.2.2.1 999 <;> cases inB v.2.2.2.2.1 1 1000 <;> cases (v.2.2.1 == 0 : Bool) <;> cases (v.1 == 0 : Bool) <;> simp

theorem okV_le {v : VV} (h : okV v = true) : v.2.2.1 ≤ v.2.2.2.1 := by
  unfold okV at h
  simp only [Bool.and_eq_true] at h
  have := h.1.1.2
  unfold inB at this
  simp only [Bool.and_eq_true, decide_eq_true_eq] at this
  exact this.1

/-- Two neighbours in a chain. -/
def okP (v w : VV) : Prop := v.2.2.1 < w.2.2.1 ∧ v.2.2.2.2.1 ≤ w.2.2.1

def okAt (l : List VV) (i : Nat) : Prop := ∃ h : i < l.length, okV l[i] = true ∧ ∀ h2 : i + 1 < l.length, okP l[i] l[i + 1]

def okAt' (l : List VV) (i : Nat) : Prop := ∃ h : i < l.length, okV l[i] = true ∧ ∀ h2 : 0 < i, okP (l[i - 1]'(by omega)) l[i]

theorem okAt_iff (l : List VV) : (∀ i, i < l.length → okAt l i) ↔ ∀ i, i < l.length → okAt' l i := by
  constructor
  · intro H i h
    obtain ⟨_, h1, _⟩ := H i h
    refine ⟨h, h1, fun h2 => ?_⟩
    obtain ⟨_, _, h4⟩ := H (i - 1) (by omega)
    have := h4 (by omega)
    simpa [show i - 1 + 1 = i by omega] using this
  · intro H i h
    obtain ⟨_, h1, _⟩ := H i h
    refine ⟨h, h1, fun h2 => ?_⟩
    obtain ⟨_, _, h4⟩ := H (i + 1) h2
    exact h4 (by omega)

/-- What the end of a chain's test answers. -/
def lastOK (l : List VV) : Option (Bool × Unit) := bif decide (((l.length : Nat) : Int) > 0) then (lAt l (IntKind.i64.wrap (((l.length : Nat) : Int) - 1))).bind fun e => some ((e.2.2.2.2.1 == 1000), ()) else some (false, ())

theorem p_specC' {l : List VV} (hl : SmallC l) : spec_IsValidChain_S (l, ()) = bif dec (∀ i, i < l.length → okAt l i) then lastOK l else some (false, ()) := by
  unfold SmallC at hl
  unfold spec_IsValidChain_S
  refine all_loopK (n := l.length) (c := okAt l) (fun i hi => ?_) ⟨.inr (.inr (.inr ())), ?_, rfl⟩
  · unfold spec_IsValidChain_D2
    simp only [lAt_nat hi, Option.bind_some, p_specV]
    rw [decide_eq_true (by omega)]
    simp only [cond_true, Option.bind_some]
    cases hv : okV l[i] with
    | false =>
      refine ⟨fun ⟨_, h, _⟩ => ?_, fun _ => ⟨.inl (), rfl, rfl⟩⟩
      rw [hv] at h; cases h
    | true =>
      simp only [Bool.not_true, cond_false]
      rw [wrap_succ hi (by omega)]
      by_cases h2 : i + 1 < l.length
      · rw [decide_eq_true (by omega), lAt_nat h2]
        simp only [cond_true, Option.bind_some]
        by_cases p1 : l[i].2.2.1 ≥ l[i + 1].2.2.1
        · rw [decide_eq_true p1]
          refine ⟨fun ⟨_, _, h⟩ => ?_, fun _ => ⟨.inr (.inl ()), rfl, rfl⟩⟩
          exact (Int.not_lt.2 p1 (h h2).1).elim
        · rw [decide_eq_false p1]
          simp only [cond_false]
          by_cases p2 : l[i].2.2.2.2.1 > l[i + 1].2.2.1
          · rw [decide_eq_true p2]
            refine ⟨fun ⟨_, _, h⟩ => ?_, fun _ => ⟨.inr (.inr (.inl ())), rfl, rfl⟩⟩
            exact (Int.not_le.2 p2 (h h2).2).elim
          · rw [decide_eq_false p2]
            refine ⟨fun _ => rfl, fun h => absurd ⟨hi, hv, fun _ => ⟨Int.not_le.1 p1, Int.not_lt.1 p2⟩⟩ h⟩
      · rw [decide_eq_false (by omega)]
        refine ⟨fun _ => rfl, fun h => absurd ⟨hi, hv, fun h3 => absurd h3 h2⟩ h⟩
  · unfold spec_IsValidChain_D2
    simp only
    rw [decide_eq_false (by omega)]; rfl

theorem p_implC' {l : List VV} (hl : SmallC l) : impl_IsValidChain_S (l, ()) = bif dec (∀ i, i < l.length → okAt l i) then lastOK l else some (false, ()) := by
  unfold SmallC at hl
  rw [dec_congr (okAt_iff l)]
  unfold impl_IsValidChain_S
  refine all_loopK (n := l.length) (c := okAt' l) (fun i hi => ?_) ⟨.inr (.inr (.inr ())), ?_, rfl⟩
  · unfold impl_IsValidChain_D2
    simp only [lAt_nat hi, Option.bind_some, p_implV]
    rw [decide_eq_true (by omega)]
    simp only [cond_true, Option.bind_some]
    cases hv : okV l[i] with
    | false =>
      refine ⟨fun ⟨_, h, _⟩ => ?_, fun _ => ⟨_, rfl, rfl⟩⟩
      rw [hv] at h; cases h
    | true =>
      simp only [Bool.not_true, cond_false]
      rw [wrap_succ hi (by omega)]
      by_cases h2 : 0 < i
      · have hlt : i - 1 < l.length := by omega
        rw [decide_eq_true (show (i : Int) > 0 by omega), show IntKind.i64.wrap ((i : Int) - 1) = ((i - 1 : Nat) : Int) from by rw [wrap_id (by omega) (by omega)]; omega, lAt_nat hlt]
        simp only [cond_true, Option.bind_some]
        by_cases p1 : l[i - 1].2.2.1 ≥ l[i].2.2.1
        · rw [decide_eq_true p1]
          refine ⟨fun ⟨_, _, h⟩ => ?_, fun _ => ⟨_, rfl, rfl⟩⟩
          exact (Int.not_lt.2 p1 (h h2).1).elim
        · rw [decide_eq_false p1]
          simp only [cond_false]
          by_cases p2 : l[i - 1].2.2.2.2.1 > l[i].2.2.1
          · rw [decide_eq_true p2]
            refine ⟨fun ⟨_, _, h⟩ => ?_, fun _ => ⟨_, rfl, rfl⟩⟩
            exact (Int.not_le.2 p2 (h h2).2).elim
          · rw [decide_eq_false p2]
            refine ⟨fun _ => rfl, fun h => absurd ⟨hi, hv, fun _ => ⟨Int.not_le.1 p1, Int.not_lt.1 p2⟩⟩ h⟩
      · rw [decide_eq_false (show ¬ (i : Int) > 0 by omega)]
        refine ⟨fun _ => rfl, fun h => absurd ⟨hi, hv, fun h3 => absurd h3 h2⟩ h⟩
  · unfold impl_IsValidChain_D2
    simp only
    rw [decide_eq_false (by omega)]; rfl

/-- A valid chain. -/
def okC (l : List VV) : Prop := (∀ i, i < l.length → okAt l i) ∧ ∃ h : 0 < l.length, (l[l.length - 1]'(by omega)).2.2.2.2.1 = 1000

theorem p_chain {l : List VV} (hl : SmallC l) : (bif dec (∀ i, i < l.length → okAt l i) then lastOK l else some (false, ())) = some (dec (okC l), ()) := by
  unfold SmallC at hl
  by_cases h : ∀ i, i < l.length → okAt l i
  · rw [dec_true h]
    unfold lastOK
    simp only [cond_true]
    by_cases h0 : 0 < l.length
    · have hlt : l.length - 1 < l.length := by omega
      rw [decide_eq_true (by omega), show IntKind.i64.wrap (((l.length : Nat) : Int) - 1) = ((l.length - 1 : Nat) : Int) from by rw [wrap_id (by omega) (by omega)]; omega, lAt_nat hlt]
      simp only [cond_true, Option.bind_some, eq_int]
      rw [dec_eq]
      congr 2
      apply dec_congr
      exact ⟨fun e => ⟨h, h0, e⟩, fun ⟨_, _, e⟩ => e⟩
    · rw [decide_eq_false (show ¬ ((l.length : Nat) : Int) > 0 by omega), dec_false (fun ⟨_, h1, _⟩ => h0 h1)]; rfl
  · rw [dec_false h, dec_false (fun h1 => h h1.1)]; rfl

theorem p_specC {l : List VV} (hl : SmallC l) : spec_IsValidChain_S (l, ()) = some (dec (okC l), ()) := (p_specC' hl).trans (p_chain hl)

theorem p_implC {l : List VV} (hl : SmallC l) : impl_IsValidChain_S (l, ()) = some (dec (okC l), ()) := (p_implC' hl).trans (p_chain hl)

/-- A valid store. -/
def okSt (s : List (List VV)) : Prop := s.length = 6 ∧ ∀ c ∈ s, okC c ∧ c.length ≤ 50

theorem p_specS {s : List (List VV)} (hs : SmallCs s) : spec_IsValidStore_S ((s, ()), ()) = some (dec (okSt s), ()) := by
  have hn := hs.1
  have e : spec_IsValidStore_S ((s, ()), ()) = bif dec (∀ i, i < s.length → (∃ h : i < s.length, okC s[i] ∧ s[i].length ≤ 50)) then some ((((s.length : Nat) : Int) == 6), ()) else some (false, ()) := by
    unfold spec_IsValidStore_S
    refine all_loopK (n := s.length) (fun i hi => ?_) ⟨.inr (.inr (.inr (.inr ()))), ?_, rfl⟩
    · unfold spec_IsValidStore_D2
      have hsm := hs.2 _ (List.getElem_mem hi)
      simp only [lAt_nat hi, Option.bind_some, p_specC hsm]
      rw [decide_eq_true (by omega)]
      simp only [cond_true]
      by_cases hc : okC s[i]
      · have h0 : 0 < s[i].length := hc.2.1
        rw [dec_true hc, wrap_succ hi (by omega), show lAt s[i] 0 = some s[i][0] from lAt_nat h0]
        simp only [Bool.not_true, cond_false, Option.bind_some]
        by_cases hl : s[i].length ≤ 50
        · refine ⟨fun _ => ?_, fun h => absurd ⟨hi, hc, hl⟩ h⟩
          rw [decide_eq_false (show ¬ ((s[i].length : Nat) : Int) > 50 by omega)]
          cases decide ((s[i][0]).2.2.1 > 0) <;> rfl
        · refine ⟨fun ⟨_, _, h⟩ => absurd h hl, fun _ => ?_⟩
          rw [decide_eq_true (show ((s[i].length : Nat) : Int) > 50 by omega)]
          cases decide ((s[i][0]).2.2.1 > 0)
          · exact ⟨.inr (.inr (.inr (.inl ()))), rfl, rfl⟩
          · exact ⟨.inr (.inl ()), rfl, rfl⟩
      · rw [dec_false hc]
        exact ⟨fun ⟨_, h, _⟩ => absurd h hc, fun _ => ⟨.inl (), rfl, rfl⟩⟩
    · unfold spec_IsValidStore_D2
      simp only
      rw [decide_eq_false (by omega)]; rfl
  rw [e]
  by_cases h : ∀ i, i < s.length → (∃ h : i < s.length, okC s[i] ∧ s[i].length ≤ 50)
  · rw [dec_true h, eq_int, dec_eq]
    simp only [cond_true]
    congr 2
    apply dec_congr
    constructor
    · intro e
      refine ⟨by omega, fun c hc => ?_⟩
      obtain ⟨i, hi, rfl⟩ := List.getElem_of_mem hc
      exact (h i hi).2
    · rintro ⟨e, _⟩; omega
  · rw [dec_false h, dec_false (fun h1 : okSt s => h fun i hi => ⟨hi, h1.2 _ (List.getElem_mem hi)⟩)]; rfl

theorem p_valid1 {l : List VV} (hl : SmallC l) : impl_IsValidStore_1_S (l, ()) = some (dec (¬ (okC l ∧ l.length ≤ 50)), ()) := by
  unfold impl_IsValidStore_1_S
  simp only [p_implC hl, Option.bind_some]
  by_cases h : okC l
  · by_cases h2 : l.length ≤ 50
    · rw [dec_true h, decide_eq_false (show ¬ ((l.length : Nat) : Int) > 50 by omega), dec_false (fun hh => hh ⟨h, h2⟩)]; rfl
    · rw [dec_true h, decide_eq_true (show ((l.length : Nat) : Int) > 50 by omega), dec_true (fun hh => h2 hh.2)]; rfl
  · rw [dec_false h, dec_true (fun hh => h hh.1)]; rfl

/-- slices.IndexFunc and ContainsFunc: the first element of which something is so. -/
theorem indexFunc {α ρ : Type} {l : List α} {p : α → Prop} (hn : l.length ≤ 1048576) {B : Int × Unit → Option ((Int × Unit) ⊕ ((Int × Unit) ⊕ Unit))}
    (hB : ∀ i (h : i < l.length), B ((i : Int), ()) = some (bif dec (p l[i]) then .inr (.inl ((i : Int), ())) else .inl (((i + 1 : Nat) : Int), ()))) (hend : B ((l.length : Int), ()) = some (.inr (.inr ()))) :
    ∃ n : Int, ((iter B (0, ())).bind fun q => sumC q (fun q => some (q.1, ())) fun _ => some (-1, ())) = some (n, ()) ∧ ((∃ i : Nat, ∃ h : i < l.length, n = (i : Int) ∧ p l[i] ∧ ∀ j (hj : j < i), ¬ p (l[j]'(by omega))) ∨ (n = -1 ∧ ∀ x ∈ l, ¬ p x)) := by
  have key : ∀ m i : Nat, i + m = l.length → (∀ j (hj : j < l.length), j < i → ¬ p l[j]) → ∃ n : Int, ((iter B ((i : Int), ())).bind fun q => sumC q (fun q => some (q.1, ())) fun _ => some (-1, ())) = some (n, ()) ∧ ((∃ i : Nat, ∃ h : i < l.length, n = (i : Int) ∧ p l[i] ∧ ∀ j (hj : j < i), ¬ p (l[j]'(by omega))) ∨ (n = -1 ∧ ∀ x ∈ l, ¬ p x)) := by
    intro m
    induction m with
    | zero =>
      intro i hi hno
      obtain rfl : i = l.length := by omega
      rw [iter_eq, hend]
      refine ⟨-1, rfl, .inr ⟨rfl, fun x hx => ?_⟩⟩
      obtain ⟨j, hj, rfl⟩ := List.getElem_of_mem hx
      exact hno j hj hj
    | succ m ih =>
      intro i hi hno
      have hlt : i < l.length := by omega
      rw [iter_eq, hB i hlt]
      by_cases hp : p l[i]
      · rw [dec_true hp]
        exact ⟨(i : Int), rfl, .inl ⟨i, hlt, rfl, hp, fun j hj => hno j (by omega) hj⟩⟩
      · rw [dec_false hp]
        refine ih (i + 1) (by omega) fun j hj h => ?_
        by_cases e : j = i
        · subst e; exact hp
        · exact hno j hj (by omega)
  exact key l.length 0 (by omega) (fun j hj h => by omega)

theorem p_implS {s : List (List VV)} (hs : SmallCs s) : impl_IsValidStore_S ((s, ()), ()) = some (dec (okSt s), ()) := by
  have hn := hs.1
  unfold impl_IsValidStore_S slices_ContainsFunc_impl_Version_impl_Version__impl_IsValidStore_1_S slices_IndexFunc_impl_Version_impl_Version__impl_IsValidStore_1_S
  obtain ⟨n, e, h⟩ := indexFunc (ρ := Unit) (l := s) (p := fun c => ¬ (okC c ∧ c.length ≤ 50)) hn (B := fun v => slices_IndexFunc_impl_Version_impl_Version__impl_IsValidStore_1_D2 (s, (), ((s.length : Nat) : Int), ()) v _ some) (fun i hi => by
      unfold slices_IndexFunc_impl_Version_impl_Version__impl_IsValidStore_1_D2
      simp only [lAt_nat hi, Option.bind_some, p_valid1 (hs.2 _ (List.getElem_mem hi))]
      rw [decide_eq_true (by omega), wrap_succ hi (by omega)]
      simp only [cond_true]
      cases dec (¬ (okC s[i] ∧ s[i].length ≤ 50)) <;> rfl) (by
      unfold slices_IndexFunc_impl_Version_impl_Version__impl_IsValidStore_1_D2
      simp only
      rw [decide_eq_false (by omega)]; rfl)
  simp only [e, Option.bind_some, eq_int]
  by_cases h6 : s.length = 6
  · rw [decide_eq_true (show ((s.length : Nat) : Int) = 6 by omega)]
    simp only [cond_true]
    congr 2
    rcases h with ⟨i, hi, rfl, hp, _⟩ | ⟨rfl, hp⟩
    · rw [decide_eq_true (by omega), dec_false (fun hh : okSt s => hp (hh.2 _ (List.getElem_mem hi)))]; rfl
    · rw [decide_eq_false (by omega), dec_true (show okSt s from ⟨h6, fun c hc => Classical.not_not.1 (hp c hc)⟩)]; rfl
  · rw [decide_eq_false (by omega), dec_false (fun hh : okSt s => h6 hh.1)]; rfl

/-- The last stamp of a store. -/
def lastC (n : Int) (l : List VV) : Int := l.foldl (fun n v => mx n v.2.2.2.1) n

theorem p_implLast {s : List (List VV)} (hs : SmallCs s) : impl_Store_lastStamp_S ((s, ()), ()) = some (s.foldl lastC 0, ()) := by
  have hn := hs.1
  unfold impl_Store_lastStamp_S
  refine fold_loopK (l := s) (f := lastC) (X := fun n => some (n, ())) 0 (fun i h n => ?_) (fun n => ⟨(n, ()), ?_, rfl⟩) rfl
  · unfold impl_Store_lastStamp_D3
    have hsm : s[i].length ≤ 1048576 := hs.2 _ (List.getElem_mem h)
    simp only [lAt_nat h, Option.bind_some]
    rw [decide_eq_true (by omega), wrap_succ h (by omega)]
    simp only [cond_true]
    refine fold_loopK (l := s[i]) (f := fun n v => mx n v.2.2.2.1) (X := fun n => some (.inl (n, ((i + 1 : Nat) : Int), ()))) n (fun j hj n => ?_) (fun n => ⟨(n, ()), ?_, rfl⟩) rfl
    · unfold impl_Store_lastStamp_D6
      simp only [lAt_nat hj, Option.bind_some]
      rw [decide_eq_true (by omega), wrap_succ hj (by omega)]; rfl
    · unfold impl_Store_lastStamp_D6
      simp only
      rw [decide_eq_false (by omega)]; rfl
  · unfold impl_Store_lastStamp_D3
    simp only
    rw [decide_eq_false (by omega)]; rfl

theorem foldl_mem {α σ : Type} {f g : σ → α → σ} : (l : List α) → (∀ x ∈ l, ∀ n, f n x = g n x) → ∀ n, l.foldl f n = l.foldl g n
  | [], _, _ => rfl
  | x :: l, h, n => by
    simp only [List.foldl_cons]
    rw [h x (by simp)]
    exact foldl_mem l (fun y hy => h y (by simp [hy])) _

theorem mx_mx {n a b : Int} (h : a ≤ b) : mx (mx n a) b = mx n b := by
  unfold mx; repeat' split
  all_goals omega

theorem p_specLast {s : List (List VV)} (hs : SmallCs s) (hok : okSt s) : spec_LastStamp_S ((s, ()), ()) = some (s.foldl lastC 0, ()) := by
  have hn := hs.1
  unfold spec_LastStamp_S
  refine fold_loopK (l := s) (f := lastC) (X := fun n => some (n, ())) 0 (fun i h n => ?_) (fun n => ⟨.inr (n, ()), ?_, rfl⟩) rfl
  · unfold spec_LastStamp_D3
    have hsm : s[i].length ≤ 1048576 := hs.2 _ (List.getElem_mem h)
    simp only [p_specS hs, dec_true hok, Option.bind_some]
    rw [decide_eq_true (by omega), wrap_succ h (by omega)]
    simp only [cond_true]
    have hc := (hok.2 _ (List.getElem_mem h)).1
    refine fold_loopK (l := s[i]) (f := fun n v => mx (mx n v.2.2.1) v.2.2.2.1) (X := fun n => some (.inl (n, ((i + 1 : Nat) : Int), ()))) n (fun j hj n => ?_) (fun n => ⟨(n, ()), ?_, rfl⟩) ?_
    · unfold spec_LastStamp_D6
      simp only [lAt_nat h, lAt_nat hj, Option.bind_some]
      rw [decide_eq_true (by omega), wrap_succ hj (by omega)]; rfl
    · unfold spec_LastStamp_D6
      simp only [lAt_nat h, Option.bind_some]
      rw [decide_eq_false (by omega)]; rfl
    · rw [foldl_mem (g := fun n (v : VV) => mx n v.2.2.2.1) s[i] (fun v hv n => ?_) n]
      · rfl
      · obtain ⟨k, hk, rfl⟩ := List.getElem_of_mem hv
        obtain ⟨_, h1, _⟩ := hc.1 k hk
        exact mx_mx (okV_le h1)
  · unfold spec_LastStamp_D3
    simp only
    rw [decide_eq_false (by omega)]; rfl

/-- A valid replica. -/
noncomputable def okR (a b : Int) (s : List (List VV)) : Bool := bif dec (okSt s) then (bif inB a (s.foldl lastC 0) 999 then inB b 0 a else false) else false

theorem p_specR {a b : Int} {s : List (List VV)} (hs : SmallCs s) : spec_IsValidReplica_S ((a, b, (s, ()), ()), ()) = some (okR a b s, ()) := by
  unfold spec_IsValidReplica_S okR
  simp only [p_specS hs, Option.bind_some]
  by_cases h : okSt s
  · rw [dec_true h]
    simp only [cond_true, p_specLast hs h, p_specIn, Option.bind_some]
    cases inB a (s.foldl lastC 0) 999 <;> rfl
  · rw [dec_false h]; rfl

theorem p_implR {a b : Int} {s : List (List VV)} (hs : SmallCs s) : impl_IsValidReplica_S ((a, b, (s, ()), ()), ()) = some (okR a b s, ()) := by
  unfold impl_IsValidReplica_S okR
  simp only [p_implS hs, Option.bind_some]
  by_cases h : okSt s
  · rw [dec_true h]
    simp only [cond_true, p_implLast hs, p_implIn, Option.bind_some]
    cases inB a (s.foldl lastC 0) 999 <;> rfl
  · rw [dec_false h]; rfl

/-- A row is copied element by element. -/
theorem copy_loopK {α : Type} {a : List α} {z : α} (ha : a.length ≤ 1048576) {B : Int × List α × Unit → Option ((Int × List α × Unit) ⊕ (List α × Unit))}
    (hB : ∀ (i : Nat) (h : i < a.length) (out : List α), out.length = a.length → B ((i : Int), out, ()) = some (.inl (((i + 1 : Nat) : Int), out.set i a[i], ()))) (hend : ∀ out, B ((a.length : Int), out, ()) = some (.inr (out, ()))) :
    ((iter B (0, List.replicate a.length z, ())).bind fun p => some (p.1, ())) = some (a, ()) := by
  rw [iter_up' (r := (a, ())) a.length (fun i => ((i : Int), a.take i ++ List.replicate (a.length - i) z, ()))]
  · rfl
  · simp
  · intro i hi
    rw [hB i hi _ (by simp; omega)]
    congr 3
    congr 1
    apply List.ext_getElem
    · simp; omega
    · intro j h1 h2
      simp at h1 h2
      rw [List.getElem_set]
      by_cases he : i = j
      · subst he
        simp only [if_true]
        rw [List.getElem_append_left (by simp; omega)]
        simp
      · rw [if_neg he]
        by_cases hlt : j < i
        · rw [List.getElem_append_left (by simp; omega), List.getElem_append_left (by simp; omega)]; simp
        · rw [List.getElem_append_right (by simp; omega), List.getElem_append_right (by simp; omega)]; simp
  · simp [hend]

/-- A size test of rows in a row. -/
theorem sz_listK {α : Type} {Small : α → Prop} {F : α → Int → Option (Int × Unit)} {a : List α} (ha : a.length ≤ maxLen) (hF : ∀ e ∈ a, ∀ l, 0 ≤ l → l ≤ 1048576 → SzOK (Small e) (F e l)) {B : Int × Int × Unit → Option ((Int × Int × Unit) ⊕ ((Int × Unit) ⊕ (Int × Unit)))}
    (hB : ∀ l i : Int, B (l, i, ()) = bif decide (i < ((a.length : Nat) : Int)) then (lAt a i).bind fun e => (F e l).bind fun r => bif decide (r.1 < 0) then some (.inr (.inl (r.1, ()))) else some (.inl (r.1, IntKind.i64.wrap (i + 1), ())) else some (.inr (.inr (l, ())))) {l : Int} (h0 : 0 ≤ l) (h1 : l ≤ 1048576) :
    SzOK (a.length ≤ 1048576 ∧ ∀ e ∈ a, Small e) (bif decide (IntKind.i64.wrap (l - ((a.length : Nat) : Int)) < 0) then some (-1, ()) else (iter B (IntKind.i64.wrap (l - ((a.length : Nat) : Int)), 0, ())).bind fun q => sumC q (fun _ => some (-1, ())) fun b => some (b.1, ())) := by
  unfold maxLen at ha
  rw [wrap_id (by omega) (by omega)]
  by_cases h : l - (a.length : Int) < 0
  · rw [decide_eq_true h]; exact ⟨_, rfl, .inl (by omega)⟩
  rw [decide_eq_false h]
  have key : ∀ k i : Nat, i + k = a.length → ∀ l : Int, 0 ≤ l → l ≤ 1048576 → ∃ p, iter B (l, (i : Int), ()) = some p ∧ ((∃ n, p = .inl n) ∨ ∃ n, p = .inr (n, ()) ∧ 0 ≤ n ∧ n ≤ 1048576 ∧ ∀ e ∈ a.drop i, Small e) := by
    intro k
    induction k with
    | zero =>
      intro i hi l h0 h1
      rw [iter_eq, hB, decide_eq_false (by omega)]
      exact ⟨_, rfl, .inr ⟨l, rfl, h0, h1, fun e he => by rw [List.drop_eq_nil_iff.2 (by omega)] at he; cases he⟩⟩
    | succ k ih =>
      intro i hi l h0 h1
      have hlt : i < a.length := by omega
      rw [iter_eq, hB, decide_eq_true (by omega), lAt_nat hlt]
      obtain ⟨n, e1, h2⟩ := hF a[i] (List.getElem_mem hlt) l h0 h1
      simp only [cond_true, Option.bind_some, e1]
      rcases h2 with h2 | ⟨h2, h3, h4⟩
      · rw [decide_eq_true h2]; exact ⟨_, rfl, .inl ⟨(n, ()), rfl⟩⟩
      · rw [decide_eq_false (show ¬ n < 0 by omega), wrap_succ hlt (by omega)]
        obtain ⟨p, e2, h5⟩ := ih (i + 1) (by omega) n h2 h3
        refine ⟨p, e2, h5.imp id ?_⟩
        rintro ⟨m, rfl, h6, h7, h8⟩
        refine ⟨m, rfl, h6, h7, fun e he => ?_⟩
        rw [List.drop_eq_getElem_cons hlt] at he
        rcases List.mem_cons.1 he with rfl | he
        · exact h4
        · exact h8 e he
  obtain ⟨p, e1, h2⟩ := key a.length 0 (by omega) (l - a.length) (by omega) (by omega)
  simp only [Int.natCast_zero] at e1
  have e1' : iter B (l - (a.length : Int), 0, ()) = some p := e1
  rw [cond_false, e1']
  rcases h2 with ⟨n, rfl⟩ | ⟨n, rfl, h3, h4, h5⟩
  · exact ⟨_, rfl, .inl (by omega)⟩
  · exact ⟨_, rfl, .inr ⟨h3, h4, by omega, by simpa using h5⟩⟩

theorem p_toVersionS (a : List VV) (ha : a.length ≤ 1048576) : laws_toVersionS_S (a, ()) = some (a, ()) := by
  unfold laws_toVersionS_S
  simp only
  rw [if_pos (by omega), Int.toNat_natCast]
  refine copy_loopK ha (fun i h out ho => ?_) fun out => ?_
  · unfold laws_toVersionS_D3
    simp only [lAt_nat h, Option.bind_some, laws_toVersion_S]
    rw [decide_eq_true (by omega), if_pos (by omega), wrap_succ h (by omega)]
    simp [ho, h]
  · unfold laws_toVersionS_D3
    simp only
    rw [decide_eq_false (by omega)]; rfl

theorem p_szVersionS {a : List VV} {l : Int} (ha : a.length ≤ maxLen) (h0 : 0 ≤ l) (h1 : l ≤ 1048576) : SzOK (a.length ≤ 1048576) (laws_szVersionS_S (a, l, ())) := sz_flat ha h0 h1

theorem p_toVersionSS (a : List (List VV)) (ha : SmallCs a) : laws_toVersionSS_S (a, ()) = some (a, ()) := by
  have hn := ha.1
  unfold laws_toVersionSS_S
  simp only
  rw [if_pos (by omega), Int.toNat_natCast]
  refine copy_loopK hn (fun i h out ho => ?_) fun out => ?_
  · unfold laws_toVersionSS_D3
    simp only [lAt_nat h, Option.bind_some, p_toVersionS _ (ha.2 _ (List.getElem_mem h))]
    rw [decide_eq_true (by omega), if_pos (by omega), wrap_succ h (by omega)]
    simp [ho, h]
  · unfold laws_toVersionSS_D3
    simp only
    rw [decide_eq_false (by omega)]; rfl

theorem p_szVersionSS {a : List (List VV)} {l : Int} (ha : a.length ≤ maxLen) (hb : ∀ e ∈ a, e.length ≤ maxLen) (h0 : 0 ≤ l) (h1 : l ≤ 1048576) : SzOK (SmallCs a) (laws_szVersionSS_S (a, l, ())) :=
  sz_listK (Small := SmallC) (F := fun e l => laws_szVersionS_S (e, l, ())) ha (fun e he l h0 h1 => p_szVersionS (hb e he) h0 h1) (fun l i => rfl) h0 h1

theorem p_szStore {a : List (List VV)} {l : Int} (ha : a.length ≤ maxLen) (hb : ∀ e ∈ a, e.length ≤ maxLen) (h0 : 0 ≤ l) (h1 : l ≤ 1048576) : SzOK (SmallCs a) (laws_szStore_S ((a, ()), l, ())) := sz_again (p_szVersionSS ha hb h0 h1)

theorem p_szReplica {x y : Int} {a : List (List VV)} {l : Int} (ha : a.length ≤ maxLen) (hb : ∀ e ∈ a, e.length ≤ maxLen) (h0 : 0 ≤ l) (h1 : l ≤ 1048576) : SzOK (SmallCs a) (laws_szReplica_S ((x, y, (a, ()), ()), l, ())) := sz_again (p_szStore ha hb h0 h1)

theorem p_toStore (a : List (List VV)) (ha : SmallCs a) : laws_toStore_S ((a, ()), ()) = some (a, ()) := by
  simp [laws_toStore_S, p_toVersionSS a ha]

theorem p_toReplica (x y : Int) (a : List (List VV)) (ha : SmallCs a) : laws_toReplica_S ((x, y, (a, ()), ()), ()) = some (x, y, a, ()) := by
  simp [laws_toReplica_S, p_toStore a ha]

theorem enSS_le {a : List (List VV)} : ∀ (k : Int), (∀ e ∈ a, e.length ≤ 1048576) → enSS k a ≤ k + 5242880 * a.length := by
  induction a with
  | nil => intro k _; simp [enSS]
  | cons r rs ih =>
    intro k h
    have h1 := ih (k + 5 * r.length) (fun e he => h e (List.mem_cons_of_mem _ he))
    have h2 := h r (List.mem_cons_self ..)
    simp only [enSS, List.length_cons]
    push_cast
    omega

/-- What the laws' marks need of a store. -/
def smallC (a : List (List VV)) : Prop := a.length < 9223372036854775000 ∧ enSS 1 a < 9223372036854775000

theorem SmallCs.small {a : List (List VV)} (h : SmallCs a) : smallC a := by
  have h1 := enSS_le 1 h.2
  have h2 := h.1
  exact ⟨by omega, by omega⟩

theorem p_eqVersion (v : VV) : laws_eqVersion_S (v, v, ()) = some (true, ()) := by
  simp [laws_eqVersion_S]

theorem p_eqVersionS (a : List VV) (ha : a.length < 9223372036854775000) : laws_eqVersionS_S (a, a, ()) = some (true, ()) := by
  unfold laws_eqVersionS_S
  simp only [bne_self_eq_false, cond_false]
  refine iter_upK a.length (fun j => ((j : Int), ())) rfl (fun j hj => ?_) ⟨.inr (), ?_, rfl⟩
  · unfold laws_eqVersionS_D4
    simp only [lAt_nat hj, Option.bind_some, p_eqVersion]
    rw [decide_eq_true (by omega), wr1 (by omega) (by omega)]
    rfl
  · unfold laws_eqVersionS_D4
    simp only
    rw [decide_eq_false (by omega)]
    rfl

theorem p_eqVersionSS (a : List (List VV)) (ha : a.length < 9223372036854775000) (hb : ∀ r ∈ a, r.length < 9223372036854775000) : laws_eqVersionSS_S (a, a, ()) = some (true, ()) := by
  unfold laws_eqVersionSS_S
  simp only [bne_self_eq_false, cond_false]
  refine iter_upK a.length (fun j => ((j : Int), ())) rfl (fun j hj => ?_) ⟨.inr (), ?_, rfl⟩
  · unfold laws_eqVersionSS_D4
    simp only [lAt_nat hj, Option.bind_some, p_eqVersionS _ (hb _ (List.getElem_mem hj))]
    rw [decide_eq_true (by omega), wr1 (by omega) (by omega)]
    rfl
  · unfold laws_eqVersionSS_D4
    simp only
    rw [decide_eq_false (by omega)]
    rfl

theorem enSS_mem {a : List (List VV)} {r : List VV} (h : r ∈ a) (k : Int) : k + 5 * r.length ≤ enSS k a := by
  induction a generalizing k with
  | nil => cases h
  | cons s rs ih =>
    simp only [enSS]
    rcases List.mem_cons.1 h with rfl | h
    · exact enSS_ge _ _
    · have := ih h (k + 5 * s.length); omega

theorem smallC.row {a : List (List VV)} (h : smallC a) : ∀ r ∈ a, r.length < 9223372036854775000 := fun r hr => by
  have := enSS_mem hr 1; have := h.2; omega

theorem p_eqReplica (x y : Int) (c : List (List VV)) (h : smallC c) : laws_eqReplica_S ((x, y, (c, ()), ()), (x, y, (c, ()), ()), ()) = some (true, ()) := by
  simp [laws_eqReplica_S, laws_eqStore_S, p_eqVersionSS c h.1 h.row]

theorem p_markReplica (x y : Int) (c : List (List VV)) (h : smallC c) : laws_markReplica_l_S (x, y, 1, c, ()) = some (enSS 1 c, mkSS 1 c, ()) := by
  simp [laws_markReplica_l_S, laws_markStore_l_S, p_markVersionSS c 1 (by omega) h.2 h.1]

theorem p_eqReadMark (v : VM) : laws_eqReadMark_S (v, v, ()) = some (true, ()) := by
  simp [laws_eqReadMark_S]

theorem p_eqReadMarkS (a : List VM) (ha : a.length < 9223372036854775000) : laws_eqReadMarkS_S (a, a, ()) = some (true, ()) := by
  unfold laws_eqReadMarkS_S
  simp only [bne_self_eq_false, cond_false]
  refine iter_upK a.length (fun j => ((j : Int), ())) rfl (fun j hj => ?_) ⟨.inr (), ?_, rfl⟩
  · unfold laws_eqReadMarkS_D4
    simp only [lAt_nat hj, Option.bind_some, p_eqReadMark]
    rw [decide_eq_true (by omega), wr1 (by omega) (by omega)]
    rfl
  · unfold laws_eqReadMarkS_D4
    simp only
    rw [decide_eq_false (by omega)]
    rfl

theorem p_markReadMarkS (row : List VM) (k : Int) (h0 : 0 ≤ k) (hk : k + 2 * row.length < 9223372036854775000) :
    laws_markReadMarkS_l_S (k, row, ()) = some (k + 2 * row.length, mkL mk2 2 k row.length, ()) := by
  unfold laws_markReadMarkS_l_S
  simp only
  rw [iter_up' (r := (k + 2 * row.length, mkL mk2 2 k row.length, ())) row.length (fun j => (k + 2 * (j : Int), (j : Int), mkd mk2 2 k row j, ()))]
  · rfl
  · simp only [mkd_zero]; simp
  · intro j hj
    unfold laws_markReadMarkS_l_D2
    have hl := mkd_length mk2 2 k row j (by omega)
    have hg := mkd_get mk2 2 k row j hj
    have hs := mkd_set mk2 2 k row j hj
    simp only [hl]
    rw [decide_eq_true (by omega), if_pos (by omega)]
    simp only [cond_true, Option.bind_some, Nat.zero_add, Int.toNat_natCast, hg, List.set_set, List.length_set, List.getElem?_set_self, hl, hj]
    rw [wr1 (k := k + 2 * (j : Int)) (by omega) (by omega), wr1 (k := k + 2 * (j : Int) + 1) (by omega) (by omega), wr1 (k := (j : Int)) (by omega) (by omega)]
    have e1 : k + 2 * (j : Int) + 1 + 1 = k + 2 * ((j + 1 : Nat) : Int) := by push_cast; omega
    have e2 : (k + 2 * (j : Int), k + 2 * (j : Int) + 1, ()) = mk2 (k + 2 * (j : Int)) := by simp [mk2]
    rw [e1, e2, hs]
    simp [hj]
  · unfold laws_markReadMarkS_l_D2
    simp only [mkd_end, mkL_length]
    rw [decide_eq_false (by omega)]
    rfl

theorem p_eqWrite (v : VM) : laws_eqWrite_S (v, v, ()) = some (true, ()) := by
  simp [laws_eqWrite_S]

theorem p_eqWriteS (a : List VM) (ha : a.length < 9223372036854775000) : laws_eqWriteS_S (a, a, ()) = some (true, ()) := by
  unfold laws_eqWriteS_S
  simp only [bne_self_eq_false, cond_false]
  refine iter_upK a.length (fun j => ((j : Int), ())) rfl (fun j hj => ?_) ⟨.inr (), ?_, rfl⟩
  · unfold laws_eqWriteS_D4
    simp only [lAt_nat hj, Option.bind_some, p_eqWrite]
    rw [decide_eq_true (by omega), wr1 (by omega) (by omega)]
    rfl
  · unfold laws_eqWriteS_D4
    simp only
    rw [decide_eq_false (by omega)]
    rfl

theorem p_markWriteS (row : List VM) (k : Int) (h0 : 0 ≤ k) (hk : k + 2 * row.length < 9223372036854775000) :
    laws_markWriteS_l_S (k, row, ()) = some (k + 2 * row.length, mkL mk2 2 k row.length, ()) := by
  unfold laws_markWriteS_l_S
  simp only
  rw [iter_up' (r := (k + 2 * row.length, mkL mk2 2 k row.length, ())) row.length (fun j => (k + 2 * (j : Int), (j : Int), mkd mk2 2 k row j, ()))]
  · rfl
  · simp only [mkd_zero]; simp
  · intro j hj
    unfold laws_markWriteS_l_D2
    have hl := mkd_length mk2 2 k row j (by omega)
    have hg := mkd_get mk2 2 k row j hj
    have hs := mkd_set mk2 2 k row j hj
    simp only [hl]
    rw [decide_eq_true (by omega), if_pos (by omega)]
    simp only [cond_true, Option.bind_some, Nat.zero_add, Int.toNat_natCast, hg, List.set_set, List.length_set, List.getElem?_set_self, hl, hj]
    rw [wr1 (k := k + 2 * (j : Int)) (by omega) (by omega), wr1 (k := k + 2 * (j : Int) + 1) (by omega) (by omega), wr1 (k := (j : Int)) (by omega) (by omega)]
    have e1 : k + 2 * (j : Int) + 1 + 1 = k + 2 * ((j + 1 : Nat) : Int) := by push_cast; omega
    have e2 : (k + 2 * (j : Int), k + 2 * (j : Int) + 1, ()) = mk2 (k + 2 * (j : Int)) := by simp [mk2]
    rw [e1, e2, hs]
    simp [hj]
  · unfold laws_markWriteS_l_D2
    simp only [mkd_end, mkL_length]
    rw [decide_eq_false (by omega)]
    rfl

theorem p_heldVersionS (n : Nat) (k : Int) (h0 : 0 ≤ k) (hk : k + 5 * n < 9223372036854775000) : laws_heldVersionS_S (mkL mk5 5 k n, k, ()) = some (k + 5 * n, ()) := by
  unfold laws_heldVersionS_S
  simp only
  refine iter_upK n (fun j => (k + 5 * (j : Int), (j : Int), ())) (by simp) (fun j hj => ?_) ⟨.inr (.inr (.inr (.inr (.inr (k + 5 * n, ()))))), ?_, rfl⟩
  · unfold laws_heldVersionS_D2
    have hg : lAt (mkL mk5 5 k n) (j : Int) = some (mk5 (k + 5 * (j : Int))) := by
      rw [lAt_nat (by rw [mkL_length]; exact hj)]
      have := mkL_get mk5 5 k n j hj
      rw [List.getElem?_eq_getElem (by rw [mkL_length]; exact hj)] at this
      exact this
    simp only [mkL_length, hg, Option.bind_some]
    rw [decide_eq_true (by omega)]
    rw [wr1 (k := k + 5 * (j : Int)) (by omega) (by omega), wr1 (k := k + 5 * (j : Int) + 1) (by omega) (by omega), wr1 (k := k + 5 * (j : Int) + 1 + 1) (by omega) (by omega), wr1 (k := k + 5 * (j : Int) + 1 + 1 + 1) (by omega) (by omega), wr1 (k := k + 5 * (j : Int) + 1 + 1 + 1 + 1) (by omega) (by omega), wr1 (k := (j : Int)) (by omega) (by omega)]
    simp only [mk5, cond_true]
    have e0 : (k + 5 * (j : Int) != k + 5 * (j : Int)) = false := by simp
    have e1 : (k + 5 * (j : Int) + 1 != k + 5 * (j : Int) + 1) = false := by simp
    have e2 : (k + 5 * (j : Int) + 2 != k + 5 * (j : Int) + 1 + 1) = false := by rw [bne_eq_false_iff_eq]; omega
    have e3 : (k + 5 * (j : Int) + 3 != k + 5 * (j : Int) + 1 + 1 + 1) = false := by rw [bne_eq_false_iff_eq]; omega
    have e4 : (k + 5 * (j : Int) + 4 != k + 5 * (j : Int) + 1 + 1 + 1 + 1) = false := by rw [bne_eq_false_iff_eq]; omega
    simp only [e0, e1, e2, e3, e4, cond_false]
    congr 3
    · push_cast; omega
  · unfold laws_heldVersionS_D2
    simp only [mkL_length]
    rw [decide_eq_false (by omega)]
    rfl

theorem p_heldVersionSS (xss : List (List VV)) (k : Int) (h0 : 0 ≤ k) (hk : enSS k xss < 9223372036854775000) (hl : xss.length < 9223372036854775000) : laws_heldVersionSS_S (mkSS k xss, k, ()) = some (enSS k xss, ()) := by
  unfold laws_heldVersionSS_S
  simp only
  have key : ∀ (rs pre : List (List VV)) (k : Int), 0 ≤ k → enSS k rs < 9223372036854775000 → pre.length + rs.length < 9223372036854775000 →
      iter (fun v => laws_heldVersionSS_D2 (pre ++ mkSS k rs, ()) v _ some) (k, (pre.length : Int), ()) = some (.inr (enSS k rs, ())) := by
    intro rs
    induction rs with
    | nil =>
      intro pre k h0 hk hl
      rw [iter_eq]
      unfold laws_heldVersionSS_D2
      simp only [mkSS, List.append_nil]
      rw [decide_eq_false (by omega)]
      simp [enSS]
    | cons r rs ih =>
      intro pre k h0 hk hl
      have hge := enSS_ge (k + 5 * r.length) rs
      simp only [enSS] at hk
      simp only [List.length_cons] at hl
      rw [iter_eq]
      simp only [mkSS]
      have := ih (pre ++ [mkL mk5 5 k r.length]) (k + 5 * r.length) (by omega) hk (by simp; omega)
      simp only [List.length_append, List.length_cons, List.length_nil, Nat.zero_add, Int.natCast_add, List.append_assoc, List.singleton_append] at this
      rw [show ((1 : Nat) : Int) = 1 from rfl] at this
      simp only [enSS]
      rw [← this]
      have hB : laws_heldVersionSS_D2 (pre ++ mkL mk5 5 k r.length :: mkSS (k + 5 * r.length) rs, ()) (k, (pre.length : Int), ()) _ some = some (.inl (k + 5 * r.length, (pre.length : Int) + 1, ())) := by
        unfold laws_heldVersionSS_D2
        have hg : lAt (pre ++ mkL mk5 5 k r.length :: mkSS (k + 5 * r.length) rs) (pre.length : Int) = some (mkL mk5 5 k r.length) := by
          rw [lAt_nat (by simp)]; simp
        simp only [hg, Option.bind_some, p_heldVersionS r.length k h0 (by omega)]
        rw [decide_eq_true (by simp; omega), decide_eq_false (by omega), wr1 (by omega) (by omega)]
        rfl
      rw [hB]; rfl
  have := key xss [] k h0 hk (by simpa using hl)
  simp only [List.length_nil, List.nil_append, Int.natCast_zero] at this
  rw [this]; rfl

theorem p_heldReplica (x y : Int) (c : List (List VV)) (h : smallC c) : laws_heldReplica_S ((x, y, (mkSS 1 c, ()), ()), 1, ()) = some (enSS 1 c, ()) := by
  have := enSS_ge 1 c
  have e : decide (enSS 1 c < 0) = false := decide_eq_false (by omega)
  simp only [laws_heldReplica_S, laws_heldStore_S, p_heldVersionSS c 1 (by omega) h.2 h.1, Option.bind_some, e, cond_false]

def before (a b : VM) : Prop := a.1 < b.1 ∨ (a.1 = b.1 ∧ a.2.1 < b.2.1)

instance (a b : VM) : Decidable (before a b) := by unfold before; infer_instance

theorem p_before (a b : VM) : spec_l5Before_S ((a.1, a.2.1, ()), (b.1, b.2.1, ()), ()) = some (decide (before a b), ()) := by
  unfold spec_l5Before_S before
  by_cases h1 : a.1 < b.1
  · simp [h1]
  · by_cases h2 : a.1 = b.1
    · simp [h2]
    · have h3 : (a.1 == b.1) = false := by simpa using h2
      simp [h1, h2, h3]

theorem p_cmp (a b : Int) : cmp_Compare_int_S (a, b, ()) = some (if a < b then -1 else if a > b then 1 else 0, ()) := by
  unfold cmp_Compare_int_S cmp_isNaN_int_S
  by_cases h1 : a < b
  · simp [h1]
  · by_cases h2 : a > b <;> simp [h1, h2]

theorem p_or (a b : Int) : cmp_Or_int_S ([a, b], ()) = some (if a ≠ 0 then a else b, ()) := by
  unfold cmp_Or_int_S
  have l0 : lAt [a, b] 0 = some a := rfl
  have l1 : lAt [a, b] 1 = some b := rfl
  have w0 : IntKind.i64.wrap ((0 : Int) + 1) = 1 := wr1 (by omega) (by omega)
  have w1 : IntKind.i64.wrap ((1 : Int) + 1) = 2 := wr1 (by omega) (by omega)
  have B0 : cmp_Or_int_D3 (0, [a, b], 2, ()) (0, ()) ((Int × Unit) ⊕ ((Int × Unit) ⊕ Unit)) some = some (bif a != 0 then .inr (.inl (a, ())) else .inl (1, ())) := by
    unfold cmp_Or_int_D3
    simp only [l0, Option.bind_some, w0]
    cases (a != 0 : Bool) <;> rfl
  have B1 : cmp_Or_int_D3 (0, [a, b], 2, ()) (1, ()) ((Int × Unit) ⊕ ((Int × Unit) ⊕ Unit)) some = some (bif b != 0 then .inr (.inl (b, ())) else .inl (2, ())) := by
    unfold cmp_Or_int_D3
    simp only [l1, Option.bind_some, w1]
    cases (b != 0 : Bool) <;> rfl
  have B2 : cmp_Or_int_D3 (0, [a, b], 2, ()) (2, ()) ((Int × Unit) ⊕ ((Int × Unit) ⊕ Unit)) some = some (.inr (.inr ())) := by
    unfold cmp_Or_int_D3
    rfl
  have e : (((List.length [a, b] : Nat) : Int)) = 2 := rfl
  simp only [e]
  rw [iter_eq, B0]
  by_cases ha : a = 0
  · subst ha
    simp only [bne_self_eq_false, cond_false, Option.bind_some]
    rw [iter_eq, B1]
    by_cases hb : b = 0
    · subst hb
      simp only [bne_self_eq_false, cond_false, Option.bind_some]
      rw [iter_eq, B2]; rfl
    · have : (b != 0) = true := by simpa using hb
      rw [this]; simp [sumC]
  · have : (a != 0) = true := by simpa using ha
    rw [this]; simp [sumC, ha]

theorem p_compareMarks (a b : VM) : ∃ n : Int, impl_compareMarks_S ((a.1, a.2.1, ()), (b.1, b.2.1, ()), ()) = some (n, ()) ∧ (n ≥ 0 ↔ ¬ before a b) := by
  unfold impl_compareMarks_S
  simp only [p_cmp, p_or, Option.bind_some]
  refine ⟨_, rfl, ?_⟩
  unfold before
  by_cases h1 : a.1 < b.1
  · simp [h1]
  · by_cases h2 : a.1 > b.1
    · simp [h1, h2]; omega
    · have h3 : a.1 = b.1 := by omega
      simp [h3]
      by_cases h4 : a.2.1 < b.2.1
      · simp [h4]
      · by_cases h5 : a.2.1 > b.2.1 <;> simp [h4, h5] <;> omega

def rdAt (l : List VM) (i : Nat) : Prop := ∃ h : i < l.length, inB l[i].1 0 5 = true ∧ inB l[i].2.1 0 999 = true ∧ ∀ h2 : 0 < i, before (l[i - 1]'(by omega)) l[i]

def wrAt (l : List VM) (i : Nat) : Prop := ∃ h : i < l.length, inB l[i].1 0 5 = true ∧ inB l[i].2.1 (-1) 99 = true ∧ ∀ h2 : 0 < i, (l[i - 1]'(by omega)).1 < l[i].1

def okRd (l : List VM) : Prop := ∀ i, i < l.length → rdAt l i

def okWr (l : List VM) : Prop := ∀ i, i < l.length → wrAt l i

theorem p_implReads {l : List VM} (hl : l.length ≤ 1048576) : impl_areReads_S (l, ()) = some (dec (okRd l) && decide (l.length ≤ 60), ()) := by
  have e : impl_areReads_S (l, ()) = bif dec (okRd l) then some (decide (((l.length : Nat) : Int) ≤ 60), ()) else some (false, ()) := by
    unfold impl_areReads_S
    refine all_loopK (n := l.length) (c := rdAt l) (fun i hi => ?_) ⟨.inr (.inr (.inr ())), ?_, rfl⟩
    · unfold impl_areReads_D2
      simp only [lAt_nat hi, Option.bind_some, p_isKey, p_implIn]
      rw [decide_eq_true (by omega)]
      simp only [cond_true]
      cases h1 : inB l[i].1 0 5 with
      | false => exact ⟨fun ⟨_, h, _⟩ => (by rw [h1] at h; cases h), fun _ => ⟨.inl _, rfl, rfl⟩⟩
      | true =>
        simp only [Bool.not_true, cond_false]
        cases h2 : inB l[i].2.1 0 999 with
        | false => exact ⟨fun ⟨_, _, h, _⟩ => (by rw [h2] at h; cases h), fun _ => ⟨.inr (.inl _), rfl, rfl⟩⟩
        | true =>
          simp only [Bool.not_true, cond_false]
          rw [wrap_succ hi (by omega)]
          by_cases h3 : 0 < i
          · have hlt : i - 1 < l.length := by omega
            rw [decide_eq_true (show (i : Int) > 0 by omega), show IntKind.i64.wrap ((i : Int) - 1) = ((i - 1 : Nat) : Int) from by rw [wrap_id (by omega) (by omega)]; omega, lAt_nat hlt]
            obtain ⟨n, e1, e2⟩ := p_compareMarks l[i - 1] l[i]
            simp only [cond_true, Option.bind_some, e1]
            by_cases hb : before l[i - 1] l[i]
            · rw [decide_eq_false (fun h => e2.1 h hb)]
              exact ⟨fun _ => rfl, fun h => absurd ⟨hi, h1, h2, fun _ => hb⟩ h⟩
            · rw [decide_eq_true (e2.2 hb)]
              exact ⟨fun ⟨_, _, _, h⟩ => absurd (h h3) hb, fun _ => ⟨.inr (.inr (.inl _)), rfl, rfl⟩⟩
          · rw [decide_eq_false (show ¬ (i : Int) > 0 by omega)]
            exact ⟨fun _ => rfl, fun h => absurd ⟨hi, h1, h2, fun h => absurd h h3⟩ h⟩
    · unfold impl_areReads_D2
      simp only
      rw [decide_eq_false (by omega)]; rfl
  rw [e]
  have d : decide (((l.length : Nat) : Int) ≤ 60) = decide (l.length ≤ 60) := decide_eq_decide.2 (by omega)
  rw [d]
  cases dec (okRd l) <;> simp

theorem p_implWrites {l : List VM} (hl : l.length ≤ 1048576) : impl_areWrites_S (l, ()) = some (dec (okWr l), ()) := by
  have e : impl_areWrites_S (l, ()) = bif dec (okWr l) then some (true, ()) else some (false, ()) := by
    unfold impl_areWrites_S
    refine all_loopK (n := l.length) (c := wrAt l) (fun i hi => ?_) ⟨.inr (.inr (.inr ())), ?_, rfl⟩
    · unfold impl_areWrites_D2
      simp only [lAt_nat hi, Option.bind_some, p_isKey, p_isValue]
      rw [decide_eq_true (by omega)]
      simp only [cond_true]
      cases h1 : inB l[i].1 0 5 with
      | false => exact ⟨fun ⟨_, h, _⟩ => (by rw [h1] at h; cases h), fun _ => ⟨.inl _, rfl, rfl⟩⟩
      | true =>
        simp only [Bool.not_true, cond_false]
        cases h2 : inB l[i].2.1 (-1) 99 with
        | false => exact ⟨fun ⟨_, _, h, _⟩ => (by rw [h2] at h; cases h), fun _ => ⟨.inr (.inl _), rfl, rfl⟩⟩
        | true =>
          simp only [Bool.not_true, cond_false]
          rw [wrap_succ hi (by omega)]
          by_cases h3 : 0 < i
          · have hlt : i - 1 < l.length := by omega
            rw [decide_eq_true (show (i : Int) > 0 by omega), show IntKind.i64.wrap ((i : Int) - 1) = ((i - 1 : Nat) : Int) from by rw [wrap_id (by omega) (by omega)]; omega, lAt_nat hlt]
            simp only [cond_true, Option.bind_some]
            by_cases hb : l[i - 1].1 < l[i].1
            · rw [decide_eq_false (by omega)]
              exact ⟨fun _ => rfl, fun h => absurd ⟨hi, h1, h2, fun _ => hb⟩ h⟩
            · rw [decide_eq_true (by omega)]
              exact ⟨fun ⟨_, _, _, h⟩ => absurd (h h3) hb, fun _ => ⟨.inr (.inr (.inl _)), rfl, rfl⟩⟩
          · rw [decide_eq_false (show ¬ (i : Int) > 0 by omega)]
            exact ⟨fun _ => rfl, fun h => absurd ⟨hi, h1, h2, fun h => absurd h h3⟩ h⟩
    · unfold impl_areWrites_D2
      simp only
      rw [decide_eq_false (by omega)]; rfl
  rw [e]
  cases dec (okWr l) <;> rfl

/-- A valid transaction. -/
noncomputable def okT (id sc st be lo hi co : Int) (rd wr : List VM) : Bool :=
  dec (okRd rd) && dec (okWr wr) && inB id 1 9 && inB sc 1 4 && inB be 0 999 && inB st 1 3 && inB lo 0 999 && inB hi 1 1000 && ((st == 2) == decide (co > 0)) && inB co 0 999 && decide (rd.length ≤ 60)

theorem p_specT {id sc st be lo hi co : Int} {rd wr : List VM} (hr : rd.length ≤ 1048576) (hw : wr.length ≤ 1048576) : spec_IsValidTransaction_S ((id, sc, st, be, lo, hi, co, rd, wr, ()), ()) = some (okT id sc st be lo hi co rd wr, ()) := by
  unfold spec_IsValidTransaction_S
  simp only
  refine (all_loopK (n := rd.length) (c := rdAt rd) (no := some (false, ())) (X := bif dec (okWr wr) then some (inB id 1 9 && inB sc 1 4 && inB be 0 999 && inB st 1 3 && inB lo 0 999 && inB hi 1 1000 && ((st == 2) == decide (co > 0)) && inB co 0 999 && decide (rd.length ≤ 60), ()) else some (false, ())) (fun i hi' => ?_) ⟨.inr (.inr (.inr ())), ?_, ?_⟩).trans ?_
  · unfold spec_IsValidTransaction_D2
    simp only [lAt_nat hi', Option.bind_some, p_specIn]
    rw [decide_eq_true (by omega)]
    simp only [cond_true]
    cases h1 : inB rd[i].1 0 5 with
    | false => exact ⟨fun ⟨_, h, _⟩ => (by rw [h1] at h; cases h), fun _ => ⟨.inl _, rfl, rfl⟩⟩
    | true =>
      simp only [Bool.not_true, cond_false]
      cases h2 : inB rd[i].2.1 0 999 with
      | false => exact ⟨fun ⟨_, _, h, _⟩ => (by rw [h2] at h; cases h), fun _ => ⟨.inr (.inl _), rfl, rfl⟩⟩
      | true =>
        simp only [Bool.not_true, cond_false]
        rw [wrap_succ hi' (by omega)]
        by_cases h3 : 0 < i
        · have hlt : i - 1 < rd.length := by omega
          rw [decide_eq_true (show (i : Int) > 0 by omega), show IntKind.i64.wrap ((i : Int) - 1) = ((i - 1 : Nat) : Int) from by rw [wrap_id (by omega) (by omega)]; omega, lAt_nat hlt]
          simp only [cond_true, Option.bind_some, p_before]
          by_cases hb : before rd[i - 1] rd[i]
          · rw [decide_eq_true hb]
            exact ⟨fun _ => rfl, fun h => absurd ⟨hi', h1, h2, fun _ => hb⟩ h⟩
          · rw [decide_eq_false hb]
            exact ⟨fun ⟨_, _, _, h⟩ => absurd (h h3) hb, fun _ => ⟨.inr (.inr (.inl _)), rfl, rfl⟩⟩
        · rw [decide_eq_false (show ¬ (i : Int) > 0 by omega)]
          exact ⟨fun _ => rfl, fun h => absurd ⟨hi', h1, h2, fun h => absurd h h3⟩ h⟩
  · unfold spec_IsValidTransaction_D2
    simp only
    rw [decide_eq_false (by omega)]; rfl
  · refine all_loopK (n := wr.length) (c := wrAt wr) (fun i hi' => ?_) ⟨.inr (.inr (.inr ())), ?_, ?_⟩
    · unfold spec_IsValidTransaction_D8
      simp only [lAt_nat hi', Option.bind_some, p_specIn]
      rw [decide_eq_true (by omega)]
      simp only [cond_true]
      cases h1 : inB wr[i].1 0 5 with
      | false => exact ⟨fun ⟨_, h, _⟩ => (by rw [h1] at h; cases h), fun _ => ⟨.inl _, rfl, rfl⟩⟩
      | true =>
        simp only [Bool.not_true, cond_false]
        cases h2 : inB wr[i].2.1 (-1) 99 with
        | false => exact ⟨fun ⟨_, _, h, _⟩ => (by rw [h2] at h; cases h), fun _ => ⟨.inr (.inl _), rfl, rfl⟩⟩
        | true =>
          simp only [Bool.not_true, cond_false]
          rw [wrap_succ hi' (by omega)]
          by_cases h3 : 0 < i
          · have hlt : i - 1 < wr.length := by omega
            rw [decide_eq_true (show (i : Int) > 0 by omega), show IntKind.i64.wrap ((i : Int) - 1) = ((i - 1 : Nat) : Int) from by rw [wrap_id (by omega) (by omega)]; omega, lAt_nat hlt]
            simp only [cond_true, Option.bind_some]
            by_cases hb : wr[i - 1].1 < wr[i].1
            · rw [decide_eq_false (by omega)]
              exact ⟨fun _ => rfl, fun h => absurd ⟨hi', h1, h2, fun _ => hb⟩ h⟩
            · rw [decide_eq_true (by omega)]
              exact ⟨fun ⟨_, _, _, h⟩ => absurd (h h3) hb, fun _ => ⟨.inr (.inr (.inl _)), rfl, rfl⟩⟩
          · rw [decide_eq_false (show ¬ (i : Int) > 0 by omega)]
            exact ⟨fun _ => rfl, fun h => absurd ⟨hi', h1, h2, fun h => absurd h h3⟩ h⟩
    · unfold spec_IsValidTransaction_D8
      simp only
      rw [decide_eq_false (by omega)]; rfl
    · simp only [sumC, p_specIn, Option.bind_some]
      have d : decide (((rd.length : Nat) : Int) ≤ 60) = decide (rd.length ≤ 60) := decide_eq_decide.2 (by omega)
      rw [d]
      cases inB id 1 9 <;> cases inB sc 1 4 <;> cases inB be 0 999 <;> cases inB st 1 3 <;> cases inB lo 0 999 <;> cases inB hi 1 1000 <;> cases ((st == 2) == decide (co > 0) : Bool) <;> cases inB co 0 999 <;> rfl
  · unfold okT
    show (bif dec (okRd rd) then _ else _) = _
    cases dec (okRd rd) <;> cases dec (okWr wr) <;> simp

/-- A valid record. -/
noncomputable def okRec (st id hi sa : Int) (rd wr : List VM) : Bool := inB id 1 9 && inB st 1 999 && inB hi 1 st && inB sa 0 st && dec (okRd rd) && decide (rd.length ≤ 60) && dec (okWr wr)

theorem p_implRec {st id hi sa : Int} {rd wr : List VM} (hr : rd.length ≤ 1048576) (hw : wr.length ≤ 1048576) : impl_IsValidRecord_S ((st, id, hi, sa, rd, wr, ()), ()) = some (okRec st id hi sa rd wr, ()) := by
  unfold impl_IsValidRecord_S impl_IsStamp_S okRec
  simp only [p_isID, p_implIn, p_implReads hr, p_implWrites hw, Option.bind_some]
  cases inB id 1 9 <;> cases inB st 1 999 <;> cases inB hi 1 st <;> cases inB sa 0 st <;> cases dec (okRd rd) <;> cases decide (rd.length ≤ 60) <;> simp

theorem p_specRec {st id hi sa : Int} {rd wr : List VM} (hr : rd.length ≤ 1048576) (hw : wr.length ≤ 1048576) : spec_IsValidRecord_S ((st, id, hi, sa, rd, wr, ()), ()) = some (okRec st id hi sa rd wr, ()) := by
  unfold spec_IsValidRecord_S spec_l28Tx_S
  simp only [p_specT hr hw, p_specIn, Option.bind_some]
  have e : (bif okT id 1 2 0 0 hi st rd wr then bif decide (hi ≤ st) then some (inB sa 0 st, ()) else some (false, ()) else some (false, ())) = some (okT id 1 2 0 0 hi st rd wr && decide (hi ≤ st) && inB sa 0 st, ()) := by
    cases okT id 1 2 0 0 hi st rd wr <;> cases decide (hi ≤ st) <;> rfl
  rw [e]
  congr 2
  unfold okT okRec inB
  have e2 : ((2 : Int) == 2) = true := rfl
  rw [e2]
  cases dec (okRd rd) <;> cases dec (okWr wr) <;> cases decide (rd.length ≤ 60) <;> simp
  rw [Bool.eq_iff_iff]
  simp only [Bool.and_eq_true, decide_eq_true_eq]
  omega

theorem append_loopK {α : Type} {a : List α} (ha : a.length ≤ 1048576) {B : Int × List α × Unit → Option ((Int × List α × Unit) ⊕ (List α × Unit))}
    (hB : ∀ (i : Nat) (h : i < a.length) (out : List α), out.length = i → B ((i : Int), out, ()) = some (.inl (((i + 1 : Nat) : Int), out ++ [a[i]], ()))) (hend : ∀ out, B ((a.length : Int), out, ()) = some (.inr (out, ()))) :
    ((iter B (0, [], ())).bind fun p => some (p.1, ())) = some (a, ()) := by
  rw [iter_up' (r := (a, ())) a.length (fun i => ((i : Int), a.take i, ()))]
  · rfl
  · simp
  · intro i hi
    rw [hB i hi _ (by simp; omega)]
    have e : a.take i ++ [a[i]] = a.take (i + 1) := by rw [List.take_append_getElem hi]
    rw [e]
  · simp [hend]

theorem p_specCopy {s : List (List VV)} (hs : SmallCs s) : spec_l4Copy_S ((s, ()), ()) = some (s, ()) := by
  have hn := hs.1
  unfold spec_l4Copy_S
  refine append_loopK hn (fun i h out ho => ?_) fun out => ?_
  · have hsm : s[i].length ≤ 1048576 := hs.2 _ (List.getElem_mem h)
    unfold spec_l4Copy_D3 spec_l3Copy_S
    simp only [lAt_nat h, Option.bind_some]
    rw [decide_eq_true (by omega), if_pos (by omega)]
    simp only [cond_true, Option.bind_some, List.length_append, List.length_cons, List.length_nil]
    rw [if_pos (by omega), wrap_succ h (by omega)]
  · unfold spec_l4Copy_D3
    simp only
    rw [decide_eq_false (by omega)]; rfl

theorem p_clone {l : List VV} (hl : l.length ≤ 1048576) : slices_Clone_impl_Version_impl_Version_S (l, ()) = some (l, ()) := by
  unfold slices_Clone_impl_Version_impl_Version_S
  simp only
  rw [if_pos (by omega)]
  cases l with
  | nil => exact both_self _
  | cons a l => rfl

theorem p_implCopy {s : List (List VV)} (hs : SmallCs s) : impl_Store_copied_S ((s, ()), ()) = some (s, ()) := by
  have hn := hs.1
  unfold impl_Store_copied_S
  refine append_loopK hn (fun i h out ho => ?_) fun out => ?_
  · have hsm : s[i].length ≤ 1048576 := hs.2 _ (List.getElem_mem h)
    unfold impl_Store_copied_D3
    simp only [lAt_nat h, Option.bind_some, p_clone hsm, List.length_append, List.length_cons, List.length_nil]
    rw [decide_eq_true (by omega), if_pos (by omega), wrap_succ h (by omega)]
    rfl
  · unfold impl_Store_copied_D3
    simp only
    rw [decide_eq_false (by omega)]; rfl

theorem p_txCopy {id sc st be lo hi co : Int} {rd wr : List VM} (hr : rd.length ≤ 1048576) (hw : wr.length ≤ 1048576) : spec_l5Copy_S ((id, sc, st, be, lo, hi, co, rd, wr, ()), ()) = some (id, sc, st, be, lo, hi, co, rd, wr, ()) := by
  unfold spec_l5Copy_S
  simp only
  rw [if_pos (by omega), if_pos (by omega)]

def fvI (l : List VV) (c : Int) : Option Nat := (l.map (fun v => v.2.2.1)).findIdx? (fun x => x == c)

def fx : Option Nat → Int | some i => (i : Int) | none => -1

theorem dec_bool (b : Bool) : dec (b = true) = b := by
  cases b
  · exact dec_false (by simp)
  · exact dec_true rfl

theorem find_loop {α : Type} {l : List α} {p : α → Bool} (hn : l.length ≤ 1048576) {B : Int × Unit → Option ((Int × Unit) ⊕ ((Int × Unit) ⊕ Unit))}
    (hB : ∀ i (h : i < l.length), B ((i : Int), ()) = some (bif p l[i] then .inr (.inl ((i : Int), ())) else .inl (((i + 1 : Nat) : Int), ()))) (hend : B ((l.length : Int), ()) = some (.inr (.inr ()))) :
    ((iter B (0, ())).bind fun q => sumC q (fun q => some (q.1, ())) fun _ => some (-1, ())) = some (fx (l.findIdx? p), ()) := by
  obtain ⟨n, e, h⟩ := indexFunc (ρ := Unit) (l := l) (p := fun x => p x = true) hn (B := B) (fun i h => by rw [hB i h, dec_bool]) hend
  rw [e]
  rcases h with ⟨i, hi, rfl, hp, hq⟩ | ⟨rfl, hq⟩
  · have : l.findIdx? p = some i := List.findIdx?_eq_some_iff_getElem.2 ⟨hi, hp, fun j hj => by simpa using hq j hj⟩
    rw [this]; rfl
  · have : l.findIdx? p = none := List.findIdx?_eq_none_iff.2 fun x hx => by simpa using hq x hx
    rw [this]; rfl

theorem p_specFV {l : List VV} (hl : l.length ≤ 1048576) (c : Int) : spec_FindVersion_S (l, c, ()) = some (fx (fvI l c), ()) := by
  unfold spec_FindVersion_S fvI
  rw [List.findIdx?_map]
  refine find_loop hl (fun i h => ?_) ?_
  · unfold spec_FindVersion_D2
    simp only [lAt_nat h, Option.bind_some]
    rw [decide_eq_true (by omega), wrap_succ h (by omega)]
    simp only [cond_true, Function.comp]
    cases (l[i].2.2.1 == c : Bool) <;> rfl
  · unfold spec_FindVersion_D2
    simp only
    rw [decide_eq_false (by omega)]; rfl

theorem p_implFV {l : List VV} (hl : l.length ≤ 1048576) (c : Int) : impl_FindVersion_S (l, c, ()) = some (fx (fvI l c), ()) := by
  unfold impl_FindVersion_S slices_IndexFunc_impl_Version_impl_Version__impl_FindVersion_1_S fvI
  rw [List.findIdx?_map]
  have := find_loop hl (p := (fun x => x == c) ∘ fun v : VV => v.2.2.1) (B := fun v => slices_IndexFunc_impl_Version_impl_Version__impl_FindVersion_1_D2 (l, (some c, ()), ((l.length : Nat) : Int), ()) v _ some) (fun i h => by
    unfold slices_IndexFunc_impl_Version_impl_Version__impl_FindVersion_1_D2 impl_FindVersion_1_S
    simp only [lAt_nat h, Option.bind_some]
    rw [decide_eq_true (by omega), wrap_succ h (by omega)]
    simp only [cond_true, Function.comp]
    cases (l[i].2.2.1 == c : Bool) <;> rfl) (by
    unfold slices_IndexFunc_impl_Version_impl_Version__impl_FindVersion_1_D2
    simp only
    rw [decide_eq_false (by omega)]; rfl)
  simp only [this, Option.bind_some]

theorem fvI_lt {l : List VV} {c : Int} {j : Nat} (h : fvI l c = some j) : j < l.length := by
  unfold fvI at h
  obtain ⟨h1, _⟩ := List.findIdx?_eq_some_iff_getElem.1 h
  simpa using h1

theorem fx_neg (o : Option Nat) : decide (fx o < 0) = o.isNone := by
  cases o with
  | none => rfl
  | some i => exact decide_eq_false (by simp only [fx]; omega)

/-- The chain of a key. -/
def chAt (s : List (List VV)) (m : VM) : Option (List VV) := s[m.1.toNat]?

def exAt (s : List (List VV)) (m : VM) : Prop := ∃ l j, chAt s m = some l ∧ fvI l m.2.1 = some j

theorem chain_of {s : List (List VV)} {m : VM} (h6 : s.length = 6) (hm : inB m.1 0 5 = true) : ∃ k : Nat, m.1 = (k : Int) ∧ k < s.length ∧ ∃ l, s[k]? = some l ∧ lAt s m.1 = some l ∧ chAt s m = some l ∧ l ∈ s := by
  unfold inB at hm
  simp only [Bool.and_eq_true, decide_eq_true_eq] at hm
  obtain ⟨k, hk⟩ := Int.eq_ofNat_of_zero_le hm.1
  have hlt : k < s.length := by omega
  refine ⟨k, hk, hlt, s[k], by simp [hlt], by rw [hk]; exact lAt_nat hlt, ?_, List.getElem_mem hlt⟩
  unfold chAt
  rw [hk]; simp [hlt]

theorem p_specEx {s : List (List VV)} (hs : SmallCs s) (hok : okSt s) {id sc st be lo hi co : Int} {rd wr : List VM} (hr : rd.length ≤ 1048576) (hw : wr.length ≤ 1048576) (hT : okT id sc st be lo hi co rd wr = true) (hrd : okRd rd) :
    spec_ReadsExist_S ((s, ()), (id, sc, st, be, lo, hi, co, rd, wr, ()), ()) = some (dec (∀ m ∈ rd, exAt s m), ()) := by
  unfold spec_ReadsExist_S
  simp only [p_specS hs, dec_true hok, p_specT hr hw, hT, Option.bind_some, Bool.not_true, cond_false]
  refine (all_loopK (n := rd.length) (c := fun i => ∃ h : i < rd.length, exAt s rd[i]) (X := some (true, ())) (no := some (false, ())) (fun i hi' => ?_) ⟨.inr (), ?_, rfl⟩).trans ?_
  · obtain ⟨_, h1, _⟩ := hrd i hi'
    obtain ⟨k, hk, hlt, l, e1, e2, e3, hm⟩ := chain_of hok.1 h1
    unfold spec_ReadsExist_D4
    simp only [lAt_nat hi', Option.bind_some, e2, p_specFV (hs.2 _ hm), fx_neg]
    rw [decide_eq_true (by omega), wrap_succ hi' (by omega)]
    simp only [cond_true]
    cases hf : fvI l rd[i].2.1 with
    | none =>
      refine ⟨fun ⟨_, l', j, h2, h3⟩ => ?_, fun _ => ⟨.inl (), rfl, rfl⟩⟩
      rw [e3] at h2; obtain rfl : l = l' := by simpa using h2
      rw [hf] at h3; cases h3
    | some j => exact ⟨fun _ => rfl, fun h => absurd ⟨hi', l, j, e3, hf⟩ h⟩
  · unfold spec_ReadsExist_D4
    simp only
    rw [decide_eq_false (by omega)]; rfl
  · rw [dec_congr (q := ∀ m ∈ rd, exAt s m)]
    · cases dec (∀ m ∈ rd, exAt s m) <;> rfl
    · constructor
      · intro h m hm
        obtain ⟨i, hi', rfl⟩ := List.getElem_of_mem hm
        exact (h i hi').2
      · intro h i hi'; exact ⟨hi', h _ (List.getElem_mem hi')⟩

theorem p_implFind {s : List (List VV)} (hs : SmallCs s) (h6 : s.length = 6) {m : VM} (hm : inB m.1 0 5 = true) : ∃ o : Option VV, impl_Store_find_S ((s, ()), (m.1, m.2.1, ()), ()) = some (o, ()) ∧ (o.isNone = false ↔ exAt s m) := by
  obtain ⟨k, hk, hlt, l, e1, e2, e3, hl⟩ := chain_of h6 hm
  unfold impl_Store_find_S
  simp only [e2, Option.bind_some, p_implFV (hs.2 _ hl), fx_neg]
  cases hf : fvI l m.2.1 with
  | none =>
    refine ⟨none, rfl, by simp, fun ⟨l', j, h2, h3⟩ => ?_⟩
    rw [e3] at h2; obtain rfl : l = l' := by simpa using h2
    rw [hf] at h3; cases h3
  | some j =>
    have hj := fvI_lt hf
    refine ⟨some l[j], ?_, fun _ => ⟨l, j, e3, hf⟩, fun _ => rfl⟩
    simp only [Option.isNone_some, cond_false, fx]
    rw [lAt_nat hj]; rfl

theorem p_implEx {s : List (List VV)} (hs : SmallCs s) (h6 : s.length = 6) {rd : List VM} (hr : rd.length ≤ 1048576) (hrd : okRd rd) :
    impl_Store_readsExist_S ((s, ()), rd, ()) = some (dec (∀ m ∈ rd, exAt s m), ()) := by
  unfold impl_Store_readsExist_S slices_ContainsFunc_impl_ReadMark_impl_ReadMark__impl_Store_readsExist_1_S slices_IndexFunc_impl_ReadMark_impl_ReadMark__impl_Store_readsExist_1_S
  obtain ⟨n, e, h⟩ := indexFunc (ρ := Unit) (l := rd) (p := fun m => ¬ exAt s m) hr (B := fun v => slices_IndexFunc_impl_ReadMark_impl_ReadMark__impl_Store_readsExist_1_D2 (rd, (some (s, ()), ()), ((rd.length : Nat) : Int), ()) v _ some) (fun i hi => by
      obtain ⟨_, h1, _⟩ := hrd i hi
      obtain ⟨o, e1, e2⟩ := p_implFind hs h6 h1
      unfold slices_IndexFunc_impl_ReadMark_impl_ReadMark__impl_Store_readsExist_1_D2 impl_Store_readsExist_1_S
      simp only [lAt_nat hi, Option.bind_some, e1]
      rw [decide_eq_true (by omega), wrap_succ hi (by omega)]
      simp only [cond_true]
      cases ho : o.isNone with
      | true => rw [dec_true (fun hh => by rw [e2.2 hh] at ho; cases ho)]; rfl
      | false => rw [dec_false (fun hh => hh (e2.1 ho))]; rfl) (by
      unfold slices_IndexFunc_impl_ReadMark_impl_ReadMark__impl_Store_readsExist_1_D2
      simp only
      rw [decide_eq_false (by omega)]; rfl)
  simp only [e, Option.bind_some]
  rcases h with ⟨i, hi, rfl, hp, _⟩ | ⟨rfl, hp⟩
  · rw [decide_eq_true (by omega), dec_false (fun hh => hp (hh _ (List.getElem_mem hi)))]; rfl
  · rw [decide_eq_false (by omega), dec_true (fun m hm => Classical.not_not.1 (hp m hm))]; rfl

/-- Is there room? -/
def fitAt (s : List (List VV)) (m : VM) : Prop := ∃ l, chAt s m = some l ∧ l.length < 50

theorem p_specFits {s : List (List VV)} (h6 : s.length = 6) {id sc st be lo hi co : Int} {rd wr : List VM} (hw : wr.length ≤ 1048576) (hwr : okWr wr) :
    spec_l9Fits_S ((s, ()), (id, sc, st, be, lo, hi, co, rd, wr, ()), ()) = some (dec (∀ m ∈ wr, fitAt s m), ()) := by
  unfold spec_l9Fits_S
  refine (all_loopK (n := wr.length) (c := fun i => ∃ h : i < wr.length, fitAt s wr[i]) (X := some (true, ())) (no := some (false, ())) (fun i hi' => ?_) ⟨.inr (), ?_, rfl⟩).trans ?_
  · obtain ⟨_, h1, _⟩ := hwr i hi'
    obtain ⟨k, hk, hlt, l, e1, e2, e3, hm⟩ := chain_of h6 h1
    unfold spec_l9Fits_D2
    simp only [lAt_nat hi', Option.bind_some, e2]
    rw [decide_eq_true (by omega), wrap_succ hi' (by omega)]
    simp only [cond_true]
    by_cases hl : l.length < 50
    · rw [decide_eq_false (by omega)]
      exact ⟨fun _ => rfl, fun h => absurd ⟨hi', l, e3, hl⟩ h⟩
    · rw [decide_eq_true (by omega)]
      refine ⟨fun ⟨_, l', h2, h3⟩ => ?_, fun _ => ⟨.inl (), rfl, rfl⟩⟩
      rw [e3] at h2; obtain rfl : l = l' := by simpa using h2
      exact absurd h3 hl
  · unfold spec_l9Fits_D2
    simp only
    rw [decide_eq_false (by omega)]; rfl
  · rw [dec_congr (q := ∀ m ∈ wr, fitAt s m)]
    · cases dec (∀ m ∈ wr, fitAt s m) <;> rfl
    · constructor
      · intro h m hm
        obtain ⟨i, hi', rfl⟩ := List.getElem_of_mem hm
        exact (h i hi').2
      · intro h i hi'; exact ⟨hi', h _ (List.getElem_mem hi')⟩

theorem p_implFits {s : List (List VV)} (hok : okSt s) {wr : List VM} (hw : wr.length ≤ 1048576) (hwr : okWr wr) :
    slices_ContainsFunc_impl_Write_impl_Write__impl_ApplyRecord_1_S (wr, (some (s, ()), ()), ()) = some (!dec (∀ m ∈ wr, fitAt s m), ()) := by
  unfold slices_ContainsFunc_impl_Write_impl_Write__impl_ApplyRecord_1_S slices_IndexFunc_impl_Write_impl_Write__impl_ApplyRecord_1_S
  obtain ⟨n, e, h⟩ := indexFunc (ρ := Unit) (l := wr) (p := fun m => ¬ fitAt s m) hw (B := fun v => slices_IndexFunc_impl_Write_impl_Write__impl_ApplyRecord_1_D2 (wr, (some (s, ()), ()), ((wr.length : Nat) : Int), ()) v _ some) (fun i hi => by
      obtain ⟨_, h1, _⟩ := hwr i hi
      obtain ⟨k, hk, hlt, l, e1, e2, e3, hm⟩ := chain_of hok.1 h1
      have h50 := (hok.2 l hm).2
      unfold slices_IndexFunc_impl_Write_impl_Write__impl_ApplyRecord_1_D2 impl_ApplyRecord_1_S
      simp only [lAt_nat hi, Option.bind_some, e2, eq_int]
      rw [decide_eq_true (by omega), wrap_succ hi (by omega)]
      simp only [cond_true]
      by_cases hl : l.length < 50
      · rw [decide_eq_false (by omega), dec_false (fun hh => hh ⟨l, e3, hl⟩)]; rfl
      · rw [decide_eq_true (show ((l.length : Nat) : Int) = 50 by omega), dec_true (fun ⟨l', h2, h3⟩ => by
          rw [e3] at h2; obtain rfl : l = l' := by simpa using h2
          exact hl h3)]; rfl) (by
      unfold slices_IndexFunc_impl_Write_impl_Write__impl_ApplyRecord_1_D2
      simp only
      rw [decide_eq_false (by omega)]; rfl)
  simp only [e, Option.bind_some]
  rcases h with ⟨i, hi, rfl, hp, _⟩ | ⟨rfl, hp⟩
  · rw [decide_eq_true (by omega), dec_false (fun hh => hp (hh _ (List.getElem_mem hi)))]; rfl
  · rw [decide_eq_false (by omega), dec_true (fun m hm => Classical.not_not.1 (hp m hm))]; rfl

/-- A loop that folds a list, with what stays true. -/
theorem fold_loopI {σ α : Type} {l : List α} {f : σ → α → σ} {Inv : σ → Nat → Prop} {n0 : σ} {B : Int × σ × Unit → Option ((Int × σ × Unit) ⊕ (σ × Unit))}
    (hB : ∀ (i : Nat) (h : i < l.length) (n : σ), Inv n i → B ((i : Int), n, ()) = some (.inl (((i + 1 : Nat) : Int), f n l[i], ()))) (hI : ∀ (i : Nat) (h : i < l.length) n, Inv n i → Inv (f n l[i]) (i + 1)) (h0 : Inv n0 0)
    (hend : ∀ n, B ((l.length : Int), n, ()) = some (.inr (n, ()))) : iter B (0, n0, ()) = some (l.foldl f n0, ()) ∧ Inv (l.foldl f n0) l.length := by
  have key : ∀ m i : Nat, i + m = l.length → ∀ n, Inv n i → iter B ((i : Int), n, ()) = some ((l.drop i).foldl f n, ()) ∧ Inv ((l.drop i).foldl f n) l.length := by
    intro m
    induction m with
    | zero =>
      intro i hi n hn
      obtain rfl : i = l.length := by omega
      rw [iter_eq, hend]; simpa using hn
    | succ m ih =>
      intro i hi n hn
      have h : i < l.length := by omega
      rw [iter_eq, hB i h n hn, List.drop_eq_getElem_cons h]
      simp only [Option.bind_some]
      exact ih (i + 1) (by omega) _ (hI i h n hn)
  simpa using key l.length 0 (by omega) n0 h0

def rdV' (st : Int) (v : VV) : VV := (v.1, v.2.1, v.2.2.1, mx v.2.2.2.1 st, v.2.2.2.2.1, ())

def updR (st : Int) (s : List (List VV)) (m : VM) : List (List VV) := match chAt s m with
  | some l => match fvI l m.2.1 with
    | some j => match l[j]? with
      | some v => s.set m.1.toNat (l.set j (rdV' st v))
      | none => s
    | none => s
  | none => s

def sucV (hi : Int) (v : VV) : VV := (v.1, v.2.1, v.2.2.1, v.2.2.2.1, hi, ())

def updW (st id hi : Int) (s : List (List VV)) (m : VM) : List (List VV) := match chAt s m with
  | some l => match l[l.length - 1]? with
    | some v => s.set m.1.toNat (l.set (l.length - 1) (sucV hi v) ++ [(id, m.2.1, st, st, 1000, ())])
    | none => s
  | none => s

/-- What a store is while a commit is installed: n versions more at most. -/
def stOK (s : List (List VV)) (n : Nat) : Prop := s.length = 6 ∧ ∀ l ∈ s, 0 < l.length ∧ l.length ≤ 50 + n

theorem stOK.set {s : List (List VV)} {n k : Nat} {l : List VV} (h : stOK s n) {n' : Nat} (hn : n ≤ n') (h0 : 0 < l.length) (h1 : l.length ≤ 50 + n') : stOK (s.set k l) n' := by
  refine ⟨by simpa using h.1, fun x hx => ?_⟩
  rcases List.mem_or_eq_of_mem_set hx with h2 | rfl
  · have := h.2 x h2; omega
  · exact ⟨h0, h1⟩

theorem stOK.small {s : List (List VV)} {n : Nat} (h : stOK s n) (hn : n ≤ 1000) : SmallCs s :=
  ⟨by have := h.1; omega, fun l hl => by have := h.2 l hl; unfold SmallC; omega⟩

theorem fvI_set {l : List VV} {j : Nat} {v : VV} (c : Int) (h : l[j]? = some v) (st : Int) : fvI (l.set j (rdV' st v)) c = fvI l c := by
  have e : (l.set j (rdV' st v)).map (fun v => v.2.2.1) = l.map (fun v => v.2.2.1) := by
    rw [List.map_set]
    obtain ⟨hlt, h2⟩ := List.getElem?_eq_some_iff.1 h
    apply List.ext_getElem
    · simp
    · intro i h3 h4
      rw [List.getElem_set]
      split
      · rename_i e; subst e; simp [h2, rdV']
      · rfl
  unfold fvI
  rw [e]

theorem exAt_updR {s : List (List VV)} {m x : VM} (st : Int) (hx : exAt s x) : exAt (updR st s m) x := by
  unfold updR
  split
  · rename_i l hl
    split
    · rename_i j hj
      split
      · rename_i v hv
        obtain ⟨l', j', h1, h2⟩ := hx
        unfold exAt chAt at *
        by_cases e : m.1.toNat = x.1.toNat
        · rw [← e, hl] at h1
          obtain rfl : l = l' := by simpa using h1
          refine ⟨l.set j (rdV' st v), j', ?_, by rw [fvI_set _ hv]; exact h2⟩
          rw [← e]
          have := (List.getElem?_eq_some_iff.1 hl).1
          simp [this]
        · exact ⟨l', j', by rw [List.getElem?_set_ne e]; exact h1, h2⟩
      · exact hx
    · exact hx
  · exact hx

theorem stOK_updR {s : List (List VV)} {n : Nat} {m : VM} (st : Int) (h : stOK s n) : stOK (updR st s m) n := by
  unfold updR
  split
  · rename_i l hl
    have hm := h.2 l (List.mem_of_getElem? hl)
    split
    · split
      · exact h.set (Nat.le_refl _) (by simpa using hm.1) (by simpa using hm.2)
      · exact h
    · exact h
  · exact h

theorem stOK_updW {s : List (List VV)} {n : Nat} {m : VM} (st id hi : Int) (h : stOK s n) : stOK (updW st id hi s m) (n + 1) := by
  unfold updW
  split
  · rename_i l hl
    have hm := h.2 l (List.mem_of_getElem? hl)
    split
    · exact h.set (Nat.le_succ _) (by simp) (by simp; omega)
    · exact ⟨h.1, fun x hx => by have := h.2 x hx; omega⟩
  · exact ⟨h.1, fun x hx => by have := h.2 x hx; omega⟩

section
variable {s : List (List VV)} {rd wr : List VM} (hs : stOK s 0) (hr : rd.length ≤ 1048576) (hrd : okRd rd) (hex : ∀ m ∈ rd, exAt s m)
include hs hr hrd hex
theorem p_implRds (st id hi sa : Int) (wr : List VM) (c : List (List VV)) : iter (fun v => impl_ApplyRecord_D8 (rd, ((rd.length : Nat) : Int), st, id, hi, sa, rd, wr, c, ()) v _ some) (0, s, ()) = some (rd.foldl (updR st) s, ()) ∧ stOK (rd.foldl (updR st) s) 0 := by
  have := fold_loopI (l := rd) (f := updR st) (Inv := fun t _ => stOK t 0 ∧ ∀ m ∈ rd, exAt t m) (n0 := s) (B := fun v => impl_ApplyRecord_D8 (rd, ((rd.length : Nat) : Int), st, id, hi, sa, rd, wr, c, ()) v _ some)
    (fun i h t ⟨h1, h2⟩ => by
      obtain ⟨_, k1, _⟩ := hrd i h
      obtain ⟨l, j, e1, e2⟩ := h2 _ (List.getElem_mem h)
      obtain ⟨k, hk, hlt, l', e3, e4, e5, hm⟩ := chain_of h1.1 k1
      rw [e5] at e1; obtain rfl : l' = l := by simpa using e1
      have hj := fvI_lt e2
      have hsm := (h1.small (by omega)).2 _ hm
      have hfind : impl_Store_find_l_S (rd[i].1, rd[i].2.1, t, ()) = some (some (k, j), t, ()) := by
        unfold impl_Store_find_l_S
        simp only [hk, Nat.zero_add, Int.toNat_natCast, e3, Option.bind_some, p_implFV hsm, e2, fx]
        rw [if_pos (by omega), decide_eq_false (by omega), if_pos (by omega)]
        rfl
      unfold impl_ApplyRecord_D8 updR
      simp only [lAt_nat h, Option.bind_some, hfind, e3, e5, e2, List.getElem?_eq_getElem hj]
      rw [decide_eq_true (by omega), wrap_succ h (by omega), hk]
      rfl)
    (fun i h t ⟨h1, h2⟩ => ⟨stOK_updR st h1, fun m hm => exAt_updR st (h2 m hm)⟩) ⟨hs, hex⟩ (fun t => by
      unfold impl_ApplyRecord_D8
      simp only
      rw [decide_eq_false (by omega)]; rfl)
  exact ⟨this.1, this.2.1⟩
theorem p_specRds (st hi' : Int) (a1 a2 a3 a4 a5 a6 a7 b1 b2 b3 b4 b5 b6 b7 c1 c2 c3 c4 c5 c6 c7 : Int) (wr r2 w2 : List VM) :
    iter (fun v => spec_l9Install_D8 (st, hi', a1, a2, a3, a4, a5, a6, a7, rd, wr, b1, b2, b3, b4, b5, b6, b7, c1, c2, c3, c4, c5, c6, c7, r2, w2, ()) v _ some) (0, s, ()) = some (rd.foldl (updR st) s, ()) := by
  have := fold_loopI (l := rd) (f := updR st) (Inv := fun t _ => stOK t 0 ∧ ∀ m ∈ rd, exAt t m) (n0 := s) (B := fun v => spec_l9Install_D8 (st, hi', a1, a2, a3, a4, a5, a6, a7, rd, wr, b1, b2, b3, b4, b5, b6, b7, c1, c2, c3, c4, c5, c6, c7, r2, w2, ()) v _ some)
    (fun i h t ⟨h1, h2⟩ => by
      obtain ⟨_, k1, _⟩ := hrd i h
      obtain ⟨l, j, e1, e2⟩ := h2 _ (List.getElem_mem h)
      obtain ⟨k, hk, hlt, l', e3, e4, e5, hm⟩ := chain_of h1.1 k1
      rw [e5] at e1; obtain rfl : l' = l := by simpa using e1
      have hj := fvI_lt e2
      have hsm := (h1.small (by omega)).2 _ hm
      unfold spec_l9Install_D8 updR
      have c1 : (0 : Int) ≤ (k : Int) ∧ (k : Int) < ((t.length : Nat) : Int) := by omega
      have c2 : (0 : Int) ≤ (j : Int) ∧ (j : Int) < ((l'.length : Nat) : Int) := by omega
      simp only [lAt_nat h, Option.bind_some, hk, Nat.zero_add, Int.toNat_natCast, e3, e5, e2, p_specFV hsm, fx, List.getElem?_eq_getElem hj, if_pos c1, if_pos c2]
      rw [decide_eq_true (by omega), wrap_succ h (by omega)]
      rfl)
    (fun i h t ⟨h1, h2⟩ => ⟨stOK_updR st h1, fun m hm => exAt_updR st (h2 m hm)⟩) ⟨hs, hex⟩ (fun t => by
      unfold spec_l9Install_D8
      simp only
      rw [decide_eq_false (by omega)]; rfl)
  exact this.1
end

section
variable {s : List (List VV)} {wr : List VM} (hs : stOK s 0) (hw : wr.length ≤ 900) (hwr : okWr wr)
include hs hw hwr
theorem p_implWrs (st id hi sa : Int) (rd r2 : List VM) (c : List (List VV)) : iter (fun v => impl_ApplyRecord_D14 (wr, ((wr.length : Nat) : Int), st, id, hi, sa, r2, wr, c, ()) v _ some) (0, s, ()) = some (wr.foldl (updW st id hi) s, ()) ∧ stOK (wr.foldl (updW st id hi) s) wr.length := by
  refine fold_loopI (l := wr) (f := updW st id hi) (Inv := fun t i => stOK t i) (n0 := s) (B := fun v => impl_ApplyRecord_D14 (wr, ((wr.length : Nat) : Int), st, id, hi, sa, r2, wr, c, ()) v _ some)
    (fun i h t h1 => by
      obtain ⟨_, k1, _⟩ := hwr i h
      obtain ⟨k, hk, hlt, l, e3, e4, e5, hm⟩ := chain_of h1.1 k1
      have hl := h1.2 l hm
      have hj : l.length - 1 < l.length := by omega
      have hW : IntKind.wrap IntKind.i64 (((l.length : Nat) : Int) - 1) = ((l.length - 1 : Nat) : Int) := by rw [wrap_id (by omega) (by omega)]; omega
      have hlat : impl_Store_latest_l_S (wr[i].1, t, ()) = some (some (k, l.length - 1), t, ()) := by
        unfold impl_Store_latest_l_S
        simp only [hk, Nat.zero_add, Int.toNat_natCast, e3, Option.bind_some, hW]
        rw [if_pos (by omega), if_pos (by omega)]
      unfold impl_ApplyRecord_D14 updW
      have c1 : (0 : Int) ≤ (k : Int) ∧ (k : Int) < ((t.length : Nat) : Int) := by omega
      have c3 : ((1 : Nat) ≤ 1 ∧ True ∧ True ∧ (0 : Nat) ≤ 0 ∧ (0 : Nat) < 1) := by simp
      simp only [lAt_nat h, Option.bind_some, hk, Nat.zero_add, Int.toNat_natCast, List.length_set, List.getElem?_set_self hlt, e3, e5, List.getElem?_eq_getElem hj, if_pos c1, List.length_append, List.length_cons, List.length_nil, List.set_set]
      rw [hk] at hlat
      simp only [hlat, Option.bind_some, e3, List.getElem?_eq_getElem hj, List.length_set, if_pos c1, List.getElem?_set_self hlt, List.set_set, List.length_append, List.length_cons, List.length_nil]
      rw [decide_eq_true (by omega), if_pos (by omega), if_pos c3, wrap_succ h (by omega)]
      rfl)
    (fun i h t h1 => stOK_updW st id hi h1) hs (fun t => by
      unfold impl_ApplyRecord_D14
      simp only
      rw [decide_eq_false (by omega)]; rfl)
theorem p_specWrs (st hi : Int) (id a2 a3 a4 a5 a6 a7 b1 b2 b3 b4 b5 b6 b7 c1 c2 c3 c4 c5 c6 c7 : Int) (rd r2 w2 : List VM) :
    iter (fun v => spec_l9Install_D14 (st, hi, id, a2, a3, a4, a5, a6, a7, rd, wr, b1, b2, b3, b4, b5, b6, b7, c1, c2, c3, c4, c5, c6, c7, r2, w2, ()) v _ some) (0, s, ()) = some (wr.foldl (updW st id hi) s, ()) := by
  refine (fold_loopI (l := wr) (f := updW st id hi) (Inv := fun t i => stOK t i) (n0 := s) (B := fun v => spec_l9Install_D14 (st, hi, id, a2, a3, a4, a5, a6, a7, rd, wr, b1, b2, b3, b4, b5, b6, b7, c1, c2, c3, c4, c5, c6, c7, r2, w2, ()) v _ some)
    (fun i h t h1 => by
      obtain ⟨_, k1, _⟩ := hwr i h
      obtain ⟨k, hk, hlt, l, e3, e4, e5, hm⟩ := chain_of h1.1 k1
      have hl := h1.2 l hm
      have hj : l.length - 1 < l.length := by omega
      have hW : IntKind.wrap IntKind.i64 (((l.length : Nat) : Int) - 1) = ((l.length - 1 : Nat) : Int) := by rw [wrap_id (by omega) (by omega)]; omega
      unfold spec_l9Install_D14 updW
      have c1 : (0 : Int) ≤ (k : Int) ∧ (k : Int) < ((t.length : Nat) : Int) := by omega
      have c2 : (0 : Int) ≤ ((l.length - 1 : Nat) : Int) ∧ ((l.length - 1 : Nat) : Int) < ((l.length : Nat) : Int) := by omega
      have c3 : ((1 : Nat) ≤ 1 ∧ True ∧ True ∧ (0 : Nat) ≤ 0 ∧ (0 : Nat) < 1) := by simp
      simp only [lAt_nat h, Option.bind_some, hk, Nat.zero_add, Int.toNat_natCast, List.length_set, List.getElem?_set_self hlt, e3, e5, hW, List.getElem?_eq_getElem hj, if_pos c1, if_pos c2, List.length_append, List.length_cons, List.length_nil, List.set_set]
      rw [decide_eq_true (by omega), if_pos (by omega), if_pos c3, wrap_succ h (by omega)]
      rfl)
    (fun i h t h1 => stOK_updW st id hi h1) hs (fun t => by
      unfold spec_l9Install_D14
      simp only
      rw [decide_eq_false (by omega)]; rfl)).1
end

/-- Ascending keys are few. -/
theorem okWr_few {wr : List VM} (h : okWr wr) : wr.length ≤ 6 := by
  have key : ∀ i, i < wr.length → ∃ hi : i < wr.length, (i : Int) ≤ wr[i].1 := by
    intro i
    induction i with
    | zero =>
      intro hi
      obtain ⟨_, h1, _⟩ := h 0 hi
      unfold inB at h1
      simp only [Bool.and_eq_true, decide_eq_true_eq] at h1
      exact ⟨hi, by simpa using h1.1⟩
    | succ i ih =>
      intro hi
      obtain ⟨hi', h2⟩ := ih (by omega)
      obtain ⟨_, _, _, h3⟩ := h (i + 1) hi
      have h4 := h3 (by omega)
      refine ⟨hi, ?_⟩
      have e : i + 1 - 1 = i := by omega
      simp only [e] at h4
      push_cast; omega
  by_cases h7 : wr.length ≤ 6
  · exact h7
  · obtain ⟨h1, h2⟩ := key 6 (by omega)
    obtain ⟨_, h3, _⟩ := h 6 h1
    unfold inB at h3
    simp only [Bool.and_eq_true, decide_eq_true_eq] at h3
    omega

theorem okSt.stOK {s : List (List VV)} (h : okSt s) : stOK s 0 := ⟨h.1, fun l hl => ⟨(h.2 l hl).1.2.1, by have := (h.2 l hl).2; omega⟩⟩

/-- What a record makes of a store. -/
noncomputable def applied (s : List (List VV)) (st id hi sa : Int) (rd wr : List VM) (ap : Int) : Bool × List (List VV) :=
  let t := wr.foldl (updW st id hi) (rd.foldl (updR st) s)
  bif dec (okSt s ∧ okRec st id hi sa rd wr = true ∧ st = ap + 1 ∧ s.foldl lastC 0 ≤ ap ∧ (∀ m ∈ rd, exAt s m) ∧ (∀ m ∈ wr, fitAt s m) ∧ okSt t) then (true, t) else (false, s)

theorem applied_small {s : List (List VV)} (hs : SmallCs s) {st id hi sa : Int} {rd wr : List VM} {ap : Int} : SmallCs (applied s st id hi sa rd wr ap).2 := by
  unfold applied
  simp only
  by_cases h : okSt s ∧ okRec st id hi sa rd wr = true ∧ st = ap + 1 ∧ s.foldl lastC 0 ≤ ap ∧ (∀ m ∈ rd, exAt s m) ∧ (∀ m ∈ wr, fitAt s m) ∧ okSt (wr.foldl (updW st id hi) (rd.foldl (updR st) s))
  · rw [dec_true h]; exact h.2.2.2.2.2.2.stOK.small (by omega)
  · rw [dec_false h]; exact hs

theorem rec_parts {st id hi sa : Int} {rd wr : List VM} (h : okRec st id hi sa rd wr = true) : 1 ≤ st ∧ st ≤ 999 ∧ okRd rd ∧ okWr wr ∧ okT id 1 2 0 0 hi st rd wr = true := by
  unfold okRec at h
  simp only [Bool.and_eq_true] at h
  obtain ⟨⟨⟨⟨⟨⟨h1, h2⟩, h3⟩, h4⟩, h5⟩, h6⟩, h7⟩ := h
  have h5' : okRd rd := by
    by_cases h : okRd rd
    · exact h
    · rw [dec_false h] at h5; cases h5
  have h7' : okWr wr := by
    by_cases h : okWr wr
    · exact h
    · rw [dec_false h] at h7; cases h7
  unfold inB at h2 h3
  simp only [Bool.and_eq_true, decide_eq_true_eq] at h2 h3
  refine ⟨h2.1, h2.2, h5', h7', ?_⟩
  unfold okT
  rw [h1, dec_true h5', dec_true h7', h6]
  unfold inB
  simp only [Bool.and_eq_true, decide_eq_true_eq, Bool.true_and, Bool.and_true, beq_self_eq_true]
  simp
  omega

theorem p_implApply {s : List (List VV)} (hs : SmallCs s) {st id hi sa : Int} {rd wr : List VM} {ap : Int} (hr : rd.length ≤ 1048576) (hw : wr.length ≤ 1048576) (ha : -9223372036854775808 ≤ ap ∧ ap < 9223372036854775808) :
    impl_ApplyRecord_S ((s, ()), (st, id, hi, sa, rd, wr, ()), ap, ()) = some ((applied s st id hi sa rd wr ap).1, (applied s st id hi sa rd wr ap).2, ()) := by
  unfold impl_ApplyRecord_S
  simp only [p_implCopy hs, p_implS hs, p_implRec hr hw, p_implLast hs, Option.bind_some]
  have no : ∀ (hn : ¬ (okSt s ∧ okRec st id hi sa rd wr = true ∧ st = ap + 1 ∧ s.foldl lastC 0 ≤ ap ∧ (∀ m ∈ rd, exAt s m) ∧ (∀ m ∈ wr, fitAt s m) ∧ okSt (wr.foldl (updW st id hi) (rd.foldl (updR st) s)))), applied s st id hi sa rd wr ap = (false, s) := fun hn => by
    unfold applied; simp only; rw [dec_false hn]; rfl
  by_cases h1 : okSt s
  case neg => rw [dec_false h1, no (fun h => h1 h.1)]; rfl
  rw [dec_true h1]
  cases h2 : okRec st id hi sa rd wr with
  | false => rw [no (fun h => by rw [h2] at h; cases h.2.1)]; rfl
  | true =>
    obtain ⟨q1, q2, q3, q4, q5⟩ := rec_parts h2
    simp only [Bool.not_true, cond_false]
    rw [wrap_id (by omega) (by omega)]
    by_cases h3 : st = ap + 1
    case neg =>
      rw [show (ap != st - 1) = true from by rw [bne_iff_ne]; omega, no (fun h => h3 h.2.2.1)]; rfl
    rw [show (ap != st - 1) = false from by rw [bne_eq_false_iff_eq]; omega]
    by_cases h4 : s.foldl lastC 0 ≤ ap
    case neg => rw [decide_eq_true (by omega), no (fun h => h4 h.2.2.2.1)]; rfl
    rw [decide_eq_false (by omega)]
    simp only [cond_false, p_implEx hs h1.1 hr q3, Option.bind_some]
    by_cases h5 : ∀ m ∈ rd, exAt s m
    case neg => rw [dec_false h5, no (fun h => h5 h.2.2.2.2.1)]; rfl
    rw [dec_true h5]
    simp only [Bool.not_true, cond_false, p_implFits h1 hw q4, Option.bind_some]
    by_cases h6 : ∀ m ∈ wr, fitAt s m
    case neg => rw [dec_false h6, no (fun h => h6 h.2.2.2.2.2.1)]; rfl
    rw [dec_true h6]
    simp only [Bool.not_true, cond_false]
    have few := okWr_few q4
    obtain ⟨e1, s1⟩ := p_implRds h1.stOK hr q3 h5 st id hi sa wr s
    obtain ⟨e2, s2⟩ := p_implWrs s1 (by omega) q4 st id hi sa rd rd s
    rw [e1]
    simp only [Option.bind_some]
    rw [e2]
    simp only [Option.bind_some, p_implS (s2.small (by omega))]
    by_cases h7 : okSt (wr.foldl (updW st id hi) (rd.foldl (updR st) s))
    · rw [dec_true h7]
      have : applied s st id hi sa rd wr ap = (true, wr.foldl (updW st id hi) (rd.foldl (updR st) s)) := by
        unfold applied; simp only; rw [dec_true ⟨h1, h2, h3, h4, h5, h6, h7⟩]; rfl
      rw [this]; rfl
    · rw [dec_false h7, no (fun h => h7 h.2.2.2.2.2.2)]; rfl

theorem p_specApply {s : List (List VV)} (hs : SmallCs s) {st id hi sa : Int} {rd wr : List VM} {ap : Int} (hr : rd.length ≤ 1048576) (hw : wr.length ≤ 1048576) (ha : -9223372036854775808 ≤ ap ∧ ap < 9223372036854775808) :
    spec_ApplyRecord_S ((s, ()), (st, id, hi, sa, rd, wr, ()), ap, ()) = some ((applied s st id hi sa rd wr ap).1, (applied s st id hi sa rd wr ap).2, ()) := by
  unfold spec_ApplyRecord_S
  simp only [p_specCopy hs, p_specS hs, p_specRec hr hw, Option.bind_some]
  have no : ∀ (hn : ¬ (okSt s ∧ okRec st id hi sa rd wr = true ∧ st = ap + 1 ∧ s.foldl lastC 0 ≤ ap ∧ (∀ m ∈ rd, exAt s m) ∧ (∀ m ∈ wr, fitAt s m) ∧ okSt (wr.foldl (updW st id hi) (rd.foldl (updR st) s)))), applied s st id hi sa rd wr ap = (false, s) := fun hn => by
    unfold applied; simp only; rw [dec_false hn]; rfl
  by_cases h1 : okSt s
  case neg => rw [dec_false h1, no (fun h => h1 h.1)]; rfl
  rw [dec_true h1]
  simp only [p_specLast hs h1, Option.bind_some]
  cases h2 : okRec st id hi sa rd wr with
  | false => rw [no (fun h => by rw [h2] at h; cases h.2.1)]; rfl
  | true =>
    obtain ⟨q1, q2, q3, q4, q5⟩ := rec_parts h2
    simp only [Bool.not_true, cond_false]
    by_cases h3 : st = ap + 1
    case neg =>
      have : (st != IntKind.wrap IntKind.i64 (ap + 1)) = true := by
        rw [bne_iff_ne, IntKind.wrap_i64]; omega
      rw [this, no (fun h => h3 h.2.2.1)]; rfl
    rw [show (st != IntKind.wrap IntKind.i64 (ap + 1)) = false from by rw [bne_eq_false_iff_eq, wrap_id (by omega) (by omega)]; omega]
    by_cases h4 : s.foldl lastC 0 ≤ ap
    case neg => simp only [cond_false]; rw [decide_eq_true (by omega), no (fun h => h4 h.2.2.2.1)]; rfl
    simp only [cond_false]
    rw [decide_eq_false (by omega)]
    simp only [cond_false, spec_l28Tx_S, Option.bind_some, p_specEx hs h1 hr hw q5 q3]
    by_cases h5 : ∀ m ∈ rd, exAt s m
    case neg => rw [dec_false h5, no (fun h => h5 h.2.2.2.2.1)]; rfl
    rw [dec_true h5]
    simp only [Bool.not_true, cond_false, p_specFits h1.1 hw q4, Option.bind_some]
    by_cases h6 : ∀ m ∈ wr, fitAt s m
    case neg => rw [dec_false h6, no (fun h => h6 h.2.2.2.2.2.1)]; rfl
    rw [dec_true h6]
    simp only [Bool.not_true, cond_false]
    have few := okWr_few q4
    obtain ⟨e1, s1⟩ := p_implRds h1.stOK hr q3 h5 st id hi sa wr s
    obtain ⟨e2, s2⟩ := p_implWrs s1 (by omega) q4 st id hi sa rd rd s
    have hI : spec_l9Install_S ((s, ()), (id, 1, 2, 0, 0, hi, st, rd, wr, ()), st, 0, hi, ()) = some (id, 1, 2, 0, 0, hi, st, wr.foldl (updW st id hi) (rd.foldl (updR st) s), rd, wr, ()) := by
      unfold spec_l9Install_S
      simp only [p_specCopy hs, p_txCopy hr hw, Option.bind_some]
      rw [p_specRds h1.stOK hr q3 h5]
      simp only [Option.bind_some]
      rw [p_specWrs s1 (by omega) q4]
      rfl
    rw [hI]
    simp only [Option.bind_some, p_specS (s2.small (by omega))]
    by_cases h7 : okSt (wr.foldl (updW st id hi) (rd.foldl (updR st) s))
    · rw [dec_true h7]
      have : applied s st id hi sa rd wr ap = (true, wr.foldl (updW st id hi) (rd.foldl (updR st) s)) := by
        unfold applied; simp only; rw [dec_true ⟨h1, h2, h3, h4, h5, h6, h7⟩]; rfl
      rw [this]; rfl
    · rw [dec_false h7, no (fun h => h7 h.2.2.2.2.2.2)]; rfl

theorem p_toReadMarkS (a : List VM) (ha : a.length ≤ 1048576) : laws_toReadMarkS_S (a, ()) = some (a, ()) := by
  unfold laws_toReadMarkS_S
  simp only
  rw [if_pos (by omega), Int.toNat_natCast]
  refine copy_loopK ha (fun i h out ho => ?_) fun out => ?_
  · unfold laws_toReadMarkS_D3
    simp only [lAt_nat h, Option.bind_some, laws_toReadMark_S]
    rw [decide_eq_true (by omega), if_pos (by omega), wrap_succ h (by omega)]
    simp [ho, h]
  · unfold laws_toReadMarkS_D3
    simp only
    rw [decide_eq_false (by omega)]; rfl

theorem p_toWriteS (a : List VM) (ha : a.length ≤ 1048576) : laws_toWriteS_S (a, ()) = some (a, ()) := by
  unfold laws_toWriteS_S
  simp only
  rw [if_pos (by omega), Int.toNat_natCast]
  refine copy_loopK ha (fun i h out ho => ?_) fun out => ?_
  · unfold laws_toWriteS_D3
    simp only [lAt_nat h, Option.bind_some, laws_toWrite_S]
    rw [decide_eq_true (by omega), if_pos (by omega), wrap_succ h (by omega)]
    simp [ho, h]
  · unfold laws_toWriteS_D3
    simp only
    rw [decide_eq_false (by omega)]; rfl

theorem p_szReadMarkS {a : List VM} {l : Int} (ha : a.length ≤ maxLen) (h0 : 0 ≤ l) (h1 : l ≤ 1048576) : SzOK (a.length ≤ 1048576) (laws_szReadMarkS_S (a, l, ())) := sz_flat ha h0 h1

theorem p_szWriteS {a : List VM} {l : Int} (ha : a.length ≤ maxLen) (h0 : 0 ≤ l) (h1 : l ≤ 1048576) : SzOK (a.length ≤ 1048576) (laws_szWriteS_S (a, l, ())) := sz_flat ha h0 h1

theorem p_szLogRecord {st id hi sa : Int} {rd wr : List VM} {l : Int} (h1 : rd.length ≤ maxLen) (h2 : wr.length ≤ maxLen) (h0 : 0 ≤ l) (hl : l ≤ 1048576) : SzOK (rd.length ≤ 1048576 ∧ wr.length ≤ 1048576) (laws_szLogRecord_S ((st, id, hi, sa, rd, wr, ()), l, ())) :=
  sz_then (p_szReadMarkS h1 h0 hl) fun n h0 h1 => sz_again (p_szWriteS h2 h0 h1)

theorem p_toLogRecord {st id hi sa : Int} {rd wr : List VM} (h1 : rd.length ≤ 1048576) (h2 : wr.length ≤ 1048576) : laws_toLogRecord_S ((st, id, hi, sa, rd, wr, ()), ()) = some (st, id, hi, sa, rd, wr, ()) := by
  simp [laws_toLogRecord_S, p_toReadMarkS rd h1, p_toWriteS wr h2]

theorem p_eqLogRecord {st id hi sa : Int} {rd wr : List VM} (h1 : rd.length ≤ 1048576) (h2 : wr.length ≤ 1048576) : laws_eqLogRecord_S ((st, id, hi, sa, rd, wr, ()), (st, id, hi, sa, rd, wr, ()), ()) = some (true, ()) := by
  simp [laws_eqLogRecord_S, p_eqReadMarkS rd (by omega), p_eqWriteS wr (by omega)]

theorem p_markLogRecord {st id hi sa k : Int} {rd wr : List VM} (h1 : rd.length ≤ 1048576) (h2 : wr.length ≤ 1048576) (h0 : 0 ≤ k) (hk : k ≤ 1000000000000000000) : ∃ a b, laws_markLogRecord_l_S (st, id, hi, sa, k, rd, wr, ()) = some (k + 2 * rd.length + 2 * wr.length, a, b, ()) :=
  ⟨mkL mk2 2 k rd.length, mkL mk2 2 (k + 2 * rd.length) wr.length, by simp [laws_markLogRecord_l_S, p_markReadMarkS rd k h0 (by omega), p_markWriteS wr (k + 2 * rd.length) (by omega) (by omega)]⟩

theorem enSS_bound {c : List (List VV)} (h : SmallCs c) : 1 ≤ enSS 1 c ∧ enSS 1 c ≤ 1000000000000000000 := by
  have h1 := enSS_le 1 h.2
  have h2 := h.1
  have h3 := enSS_ge 1 c
  omega

/-- What a record makes of a replica. -/
noncomputable def fed (a b : Int) (s : List (List VV)) (st id hi sa : Int) (rd wr : List VM) : Int × Int × Bool × List (List VV) × Unit :=
  bif okR a b s && (applied s st id hi sa rd wr a).1 then (st, mx b sa, true, (applied s st id hi sa rd wr a).2, ()) else (a, b, false, s, ())

theorem fed_small {a b : Int} {s : List (List VV)} (hs : SmallCs s) {st id hi sa : Int} {rd wr : List VM} : SmallCs (fed a b s st id hi sa rd wr).2.2.2.1 := by
  unfold fed
  cases okR a b s && (applied s st id hi sa rd wr a).1
  · exact hs
  · exact applied_small hs

theorem p_implFeed {a b : Int} {s : List (List VV)} (hs : SmallCs s) {st id hi sa : Int} {rd wr : List VM} (hr : rd.length ≤ 1048576) (hw : wr.length ≤ 1048576) (ha : -9223372036854775808 ≤ a ∧ a < 9223372036854775808) :
    impl_FeedReplica_S ((a, b, (s, ()), ()), (st, id, hi, sa, rd, wr, ()), ()) = some (fed a b s st id hi sa rd wr) := by
  unfold impl_FeedReplica_S fed
  simp only [p_implApply hs hr hw ha, p_implCopy hs, p_implR hs, Option.bind_some]
  cases (applied s st id hi sa rd wr a).1 <;> cases okR a b s <;> rfl

theorem p_specFeed {a b : Int} {s : List (List VV)} (hs : SmallCs s) {st id hi sa : Int} {rd wr : List VM} (hr : rd.length ≤ 1048576) (hw : wr.length ≤ 1048576) (ha : -9223372036854775808 ≤ a ∧ a < 9223372036854775808) :
    spec_FeedReplica_S ((a, b, (s, ()), ()), (st, id, hi, sa, rd, wr, ()), ()) = some (fed a b s st id hi sa rd wr) := by
  unfold spec_FeedReplica_S fed
  simp only [p_specApply hs hr hw ha, p_specCopy hs, p_specR hs, Option.bind_some]
  cases (applied s st id hi sa rd wr a).1 <;> cases okR a b s <;> rfl

def law_tsF : List Ty := [YReplica, YLogRecord]

/-- **FnExactFeedReplica's function answers true.** -/
theorem law_FeedReplica (x : den (slotsT law_tsF).ty) (hx : wf (slotsT law_tsF).ty x) : laws_FnExactFeedReplica_S x = some (true, ()) := by
  obtain ⟨⟨a, b, ⟨s, _⟩, _⟩, ⟨st, id, hi, sa, rd, wr, _⟩, _⟩ := x
  have hs := hx.1.2.2.1.1
  have hap := hx.1.1
  have hrd := hx.2.1.2.2.2.2.1.1
  have hwr := hx.2.1.2.2.2.2.2.1.1
  unfold laws_FnExactFeedReplica_S
  refine law_sz (p_szReplica hs.1 (fun e he => (hs.2 e he).1) (by omega) (by omega)) fun n h0 h1 hA => ?_
  refine law_sz (p_szLogRecord hrd hwr h0 h1) fun n h0 h1 hB => ?_
  have hA : SmallCs s := hA
  have r1 : rd.length ≤ 1048576 := hB.1
  have r2 : wr.length ≤ 1048576 := hB.2
  have hap' : -9223372036854775808 ≤ a ∧ a < 9223372036854775808 := by
    have e1 : (-9223372036854775808 : Int) ≤ a := hap.1
    have e2 : a ≤ (9223372036854775807 : Int) := hap.2
    exact ⟨e1, Int.lt_of_le_of_lt e2 (by decide)⟩
  have hS := fed_small hA (a := a) (b := b) (st := st) (id := id) (hi := hi) (sa := sa) (rd := rd) (wr := wr)
  have b1 := enSS_bound hA
  have b2 := enSS_bound hS
  obtain ⟨y, z, hM⟩ := p_markLogRecord (st := st) (id := id) (hi := hi) (sa := sa) (k := enSS 1 s) r1 r2 (by omega) b1.2
  have d2 : decide (enSS 1 s + 2 * (rd.length : Int) + 2 * (wr.length : Int) < 0) = false := decide_eq_false (by omega)
  have d3 : decide (enSS 1 (fed a b s st id hi sa rd wr).2.2.2.1 < 0) = false := decide_eq_false (by omega)
  simp only [p_toReplica a b s hA, p_toLogRecord r1 r2, Option.bind_some, p_specFeed hA r1 r2 hap', p_implFeed hA r1 r2 hap', p_eqReplica _ _ _ hA.small, p_eqReplica _ _ _ hS.small, p_eqLogRecord r1 r2, p_markReplica _ _ _ hA.small, hM, d2, p_markReplica _ _ _ hS.small, p_heldReplica _ _ _ hS.small, d3]
  simp

end Go.Ab
