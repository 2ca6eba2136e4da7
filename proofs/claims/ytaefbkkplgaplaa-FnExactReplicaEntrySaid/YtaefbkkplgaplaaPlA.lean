import Derived.Test.YtaefbkkplgaplaaGenE1
set_option linter.unusedVariables false
set_option linter.unusedSimpArgs false
namespace Go.Ab

/-! ### Marks: the numbers from k on -/
abbrev VM := Int × Int × Unit
abbrev VV := Int × Int × Int × Int × Int × Unit
def mk2 (k : Int) : VM := (k, k + 1, ())
def mk5 (k : Int) : VV := (k, k + 1, k + 2, k + 3, k + 4, ())
def mkL {α : Type} (f : Int → α) (c : Int) (k : Int) : Nat → List α
  | 0 => []
  | n + 1 => f k :: mkL f c (k + c) n
theorem mkL_length {α : Type} (f : Int → α) (c k : Int) (n : Nat) : (mkL f c k n).length = n := by
  induction n generalizing k with
  | zero => rfl
  | succ n ih => simp [mkL, ih]
theorem mkL_get {α : Type} (f : Int → α) (c k : Int) (n i : Nat) (h : i < n) : (mkL f c k n)[i]? = some (f (k + c * i)) := by
  induction n generalizing k i with
  | zero => omega
  | succ n ih =>
    cases i with
    | zero => simp [mkL]
    | succ i =>
      simp only [mkL, List.getElem?_cons_succ]
      rw [ih (k + c) i (by omega)]
      congr 2
      push_cast
      rw [Int.mul_add, Int.mul_one]; omega
theorem mkL_snoc {α : Type} (f : Int → α) (c k : Int) (n : Nat) : mkL f c k (n + 1) = mkL f c k n ++ [f (k + c * n)] := by
  induction n generalizing k with
  | zero => simp [mkL]
  | succ n ih =>
    rw [mkL, ih (k + c), mkL]
    simp only [List.cons_append]
    congr 4
    push_cast
    rw [Int.mul_add, Int.mul_one]; omega
/-- The row, the first j marked. -/
def mkd {α : Type} (f : Int → α) (c k : Int) (row : List α) (j : Nat) : List α := mkL f c k j ++ row.drop j
theorem mkd_zero {α : Type} (f : Int → α) (c k : Int) (row : List α) : mkd f c k row 0 = row := by simp [mkd, mkL]
theorem mkd_length {α : Type} (f : Int → α) (c k : Int) (row : List α) (j : Nat) (h : j ≤ row.length) : (mkd f c k row j).length = row.length := by
  simp [mkd, mkL_length]; omega
theorem mkd_end {α : Type} (f : Int → α) (c k : Int) (row : List α) : mkd f c k row row.length = mkL f c k row.length := by simp [mkd]
theorem mkd_get {α : Type} (f : Int → α) (c k : Int) (row : List α) (j : Nat) (h : j < row.length) : (mkd f c k row j)[j]? = some row[j] := by
  unfold mkd
  rw [List.getElem?_append_right (by rw [mkL_length]; omega)]
  simp [mkL_length, h]
theorem mkd_set {α : Type} (f : Int → α) (c k : Int) (row : List α) (j : Nat) (h : j < row.length) : (mkd f c k row j).set j (f (k + c * j)) = mkd f c k row (j + 1) := by
  unfold mkd
  rw [mkL_snoc, List.set_append_right _ _ (by rw [mkL_length]; omega), mkL_length, Nat.sub_self]
  rw [show row.drop j = row[j] :: row.drop (j + 1) from List.drop_eq_getElem_cons h, List.set_cons_zero]
  simp

theorem wr1 {k : Int} (h0 : 0 ≤ k) (h : k < 9223372036854775807) : IntKind.wrap IntKind.i64 (k + 1) = k + 1 := wrap_id (by omega) (by omega)
theorem iter_up' {σ ρ : Type} {B : σ → Option (σ ⊕ ρ)} {s0 : σ} {r : ρ} (n : Nat) (st : Nat → σ) (h0 : s0 = st 0) (hstep : ∀ i, i < n → B (st i) = some (.inl (st (i + 1)))) (hend : B (st n) = some (.inr r)) : iter B s0 = some r := by
  subst h0; exact iter_up st hstep hend

theorem p_markVersionS (xss : List (List VV)) (i : Nat) (hi : i < xss.length) (k : Int) (h0 : 0 ≤ k) (hk : k + 5 * xss[i].length < 9223372036854775000) :
    laws_markVersionS_l_S (i, k, xss, ()) = some (k + 5 * xss[i].length, xss.set i (mkL mk5 5 k xss[i].length), ()) := by
  unfold laws_markVersionS_l_S
  simp only
  generalize hrow : xss[i] = row at *
  have key : ∀ j : Nat, (xss.set i (mkd mk5 5 k row j))[i]? = some (mkd mk5 5 k row j) := fun j => by simp [hi]
  rw [iter_up' (r := (k + 5 * row.length, xss.set i (mkL mk5 5 k row.length), ())) row.length (fun j => (k + 5 * (j : Int), (j : Int), xss.set i (mkd mk5 5 k row j), ()))]
  · rfl
  · simp only [mkd_zero, ← hrow]; simp
  · intro j hj
    unfold laws_markVersionS_l_D2
    have hl := mkd_length mk5 5 k row j (by omega)
    have hg := mkd_get mk5 5 k row j hj
    have hs := mkd_set mk5 5 k row j hj
    simp only [key, Option.bind_some, hl]
    rw [decide_eq_true (by omega), if_pos (by omega)]
    simp only [cond_true, Option.bind_some, Nat.zero_add, Int.toNat_natCast, hg, List.set_set, List.length_set, List.getElem?_set_self, hi, hl, hj]
    rw [wr1 (k := k + 5 * (j : Int)) (by omega) (by omega), wr1 (k := k + 5 * (j : Int) + 1) (by omega) (by omega), wr1 (k := k + 5 * (j : Int) + 1 + 1) (by omega) (by omega), wr1 (k := k + 5 * (j : Int) + 1 + 1 + 1) (by omega) (by omega), wr1 (k := k + 5 * (j : Int) + 1 + 1 + 1 + 1) (by omega) (by omega), wr1 (k := (j : Int)) (by omega) (by omega)]
    have e1 : k + 5 * (j : Int) + 1 + 1 + 1 + 1 + 1 = k + 5 * ((j + 1 : Nat) : Int) := by push_cast; omega
    have e2 : (k + 5 * (j : Int), k + 5 * (j : Int) + 1, k + 5 * (j : Int) + 1 + 1, k + 5 * (j : Int) + 1 + 1 + 1, k + 5 * (j : Int) + 1 + 1 + 1 + 1, ()) = mk5 (k + 5 * (j : Int)) := by simp [mk5]; omega
    rw [e1, e2, hs]
    simp [hj]
  · unfold laws_markVersionS_l_D2
    simp only [key, Option.bind_some, mkd_end, mkL_length]
    have key2 : (xss.set i (mkL mk5 5 k row.length))[i]? = some (mkL mk5 5 k row.length) := by simp [hi]
    simp only [key2, Option.bind_some, mkL_length]
    rw [decide_eq_false (by omega)]
    rfl

/-- A loop whose exits all come to something. -/
theorem iter_upK {σ ρ τ : Type} {B : σ → Option (σ ⊕ ρ)} {s0 : σ} {k : ρ → Option τ} {q : Option τ} (n : Nat) (st : Nat → σ) (h0 : s0 = st 0) (hstep : ∀ i, i < n → B (st i) = some (.inl (st (i + 1)))) (hend : ∃ r, B (st n) = some (.inr r) ∧ k r = q) : (iter B s0).bind k = q := by
  obtain ⟨r, h1, h2⟩ := hend
  rw [iter_up' n st h0 hstep h1]; exact h2

/-! rows in rows -/
def mkSS : Int → List (List VV) → List (List VV)
  | _, [] => []
  | k, r :: rs => mkL mk5 5 k r.length :: mkSS (k + 5 * r.length) rs
def enSS : Int → List (List VV) → Int
  | k, [] => k
  | k, r :: rs => enSS (k + 5 * r.length) rs
theorem enSS_ge (k : Int) (xss : List (List VV)) : k ≤ enSS k xss := by
  induction xss generalizing k with
  | nil => exact Int.le_refl k
  | cons r rs ih => have := ih (k + 5 * r.length); simp only [enSS]; omega
theorem p_markVersionSS (xss : List (List VV)) (k : Int) (h0 : 0 ≤ k) (hk : enSS k xss < 9223372036854775000) (hl : xss.length < 9223372036854775000) : laws_markVersionSS_l_S (k, xss, ()) = some (enSS k xss, mkSS k xss, ()) := by
  unfold laws_markVersionSS_l_S
  simp only
  have key : ∀ (rs pre : List (List VV)) (k : Int), 0 ≤ k → enSS k rs < 9223372036854775000 → pre.length + rs.length < 9223372036854775000 →
      iter (fun v => laws_markVersionSS_l_D2 () v _ some) (k, (pre.length : Int), pre ++ rs, ()) = some (enSS k rs, pre ++ mkSS k rs, ()) := by
    intro rs
    induction rs with
    | nil =>
      intro pre k h0 hk hl
      rw [iter_eq]
      unfold laws_markVersionSS_l_D2
      simp only [List.append_nil]
      rw [decide_eq_false (by omega)]
      simp [enSS, mkSS]
    | cons r rs ih =>
      intro pre k h0 hk hl
      have hge := enSS_ge (k + 5 * r.length) rs
      simp only [enSS] at hk
      simp only [List.length_cons] at hl
      have hi : pre.length < (pre ++ r :: rs).length := by simp
      have hget : (pre ++ r :: rs)[pre.length] = r := by simp
      have hm := p_markVersionS (pre ++ r :: rs) pre.length hi k h0 (by rw [hget]; omega)
      rw [hget] at hm
      have hset : (pre ++ r :: rs).set pre.length (mkL mk5 5 k r.length) = (pre ++ [mkL mk5 5 k r.length]) ++ rs := by simp
      have hB : laws_markVersionSS_l_D2 () (k, (pre.length : Int), pre ++ r :: rs, ()) _ some = some (.inl (k + 5 * r.length, (pre.length : Int) + 1, (pre ++ [mkL mk5 5 k r.length]) ++ rs, ())) := by
        unfold laws_markVersionSS_l_D2
        simp only [List.length_append, List.length_cons]
        rw [decide_eq_true (by omega), if_pos (by omega)]
        have hge2 : (pre ++ r :: rs)[pre.length]? = some r := by simp
        simp only [cond_true, Nat.zero_add, Int.toNat_natCast, hge2, Option.bind_some, hm]
        rw [wr1 (by omega) (by omega), hset]
      rw [iter_eq, hB]
      have := ih (pre ++ [mkL mk5 5 k r.length]) (k + 5 * r.length) (by omega) hk (by simp; omega)
      simp only [List.length_append, List.length_cons, List.length_nil, Nat.zero_add, Int.natCast_add] at this
      rw [show ((1 : Nat) : Int) = 1 from rfl] at this
      simp only [Option.bind_some]
      rw [this]
      simp [enSS, mkSS]
  have := key xss [] k h0 hk (by simpa using hl)
  simp only [List.length_nil, List.nil_append, Int.natCast_zero] at this
  rw [this]; rfl
end Go.Ab
