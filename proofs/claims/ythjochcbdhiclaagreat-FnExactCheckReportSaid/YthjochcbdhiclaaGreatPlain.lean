import Derived.Test.YthjochcbdhiclaaGreatCr2
import Derived.KernelRfl
set_option linter.unusedVariables false
set_option linter.unusedSimpArgs false
set_option linter.unusedSectionVars false
namespace Go.Ab

abbrev VM := Int × Int × Unit

abbrev VV := Int × Int × Int × Int × Int × Unit

theorem wr1 {k : Int} (h0 : 0 ≤ k) (h : k < 9223372036854775807) : IntKind.wrap IntKind.i64 (k + 1) = k + 1 := wrap_id (by omega) (by omega)

theorem iter_up' {σ ρ : Type} {B : σ → Option (σ ⊕ ρ)} {s0 : σ} {r : ρ} (n : Nat) (st : Nat → σ) (h0 : s0 = st 0) (hstep : ∀ i, i < n → B (st i) = some (.inl (st (i + 1)))) (hend : B (st n) = some (.inr r)) : iter B s0 = some r := by
  subst h0; exact iter_up st hstep hend

/-- A loop whose exits all come to something. -/
theorem iter_upK {σ ρ τ : Type} {B : σ → Option (σ ⊕ ρ)} {s0 : σ} {k : ρ → Option τ} {q : Option τ} (n : Nat) (st : Nat → σ) (h0 : s0 = st 0) (hstep : ∀ i, i < n → B (st i) = some (.inl (st (i + 1)))) (hend : ∃ r, B (st n) = some (.inr r) ∧ k r = q) : (iter B s0).bind k = q := by
  obtain ⟨r, h1, h2⟩ := hend
  rw [iter_up' n st h0 hstep h1]; exact h2

theorem all_loopK {ρ τ : Type} {B : Int × Unit → Option ((Int × Unit) ⊕ ρ)} {k : ρ → Option τ} {n : Nat} {c : Nat → Prop} {X no : Option τ}
    (hB : ∀ i, i < n → (c i → B ((i : Int), ()) = some (.inl (((i + 1 : Nat) : Int), ()))) ∧ (¬ c i → ∃ r, B ((i : Int), ()) = some (.inr r) ∧ k r = no))
    (hend : ∃ r, B ((n : Int), ()) = some (.inr r) ∧ k r = X) :
    (iter B (0, ())).bind k = bif dec (∀ i, i < n → c i) then X else no := by
  have key : ∀ m i : Nat, i + m = n → (iter B ((i : Int), ())).bind k = bif dec (∀ j, i ≤ j → j < n → c j) then X else no := by
    intro m
    induction m with
    | zero =>
      intro i hi
      obtain rfl : i = n := by omega
      obtain ⟨r, h1, h2⟩ := hend
      rw [iter_eq, h1, dec_true (fun j h1 h2 => by omega)]; exact h2
    | succ m ih =>
      intro i hi
      by_cases hc : c i
      · rw [iter_eq, (hB i (by omega)).1 hc]
        simp only [Option.bind_some]
        rw [ih (i + 1) (by omega)]
        congr 1
        apply dec_congr
        constructor
        · intro h j h1 h2
          by_cases e : j = i
          · rw [e]; exact hc
          · exact h j (by omega) h2
        · intro h j h1 h2; exact h j (by omega) h2
      · obtain ⟨r, h1, h2⟩ := (hB i (by omega)).2 hc
        rw [iter_eq, h1, dec_false (fun h => hc (h i (Nat.le_refl _) (by omega)))]; exact h2
  have := key n 0 (by omega)
  simp only [Int.natCast_zero, Nat.zero_le, true_implies] at this
  exact this

theorem p_specIn (x lo hi : Int) : spec_l1In_S (x, lo, hi, ()) = some (inB x lo hi, ()) := by
  unfold spec_l1In_S inB
  by_cases h : lo ≤ x <;> simp [h]

theorem p_implIn (x lo hi : Int) : impl_in_S (x, lo, hi, ()) = some (inB x lo hi, ()) := by
  unfold impl_in_S inB
  by_cases h : lo ≤ x <;> simp [h]

theorem p_isKey (x : Int) : impl_isKey_S (x, ()) = some (inB x 0 5, ()) := by simp [impl_isKey_S, p_implIn]

theorem p_isID (x : Int) : impl_isID_S (x, ()) = some (inB x 1 9, ()) := by simp [impl_isID_S, p_implIn]

theorem p_isValue (x : Int) : impl_isValue_S (x, ()) = some (inB x (-1) 99, ()) := by simp [impl_isValue_S, p_implIn]

/-- slices.IndexFunc and ContainsFunc: the first element of which something is so. -/
theorem indexFunc {α ρ : Type} {l : List α} {p : α → Prop} (hn : l.length ≤ 1048576) {B : Int × Unit → Option ((Int × Unit) ⊕ ((Int × Unit) ⊕ Unit))}
    (hB : ∀ i (h : i < l.length), B ((i : Int), ()) = some (bif dec (p l[i]) then .inr (.inl ((i : Int), ())) else .inl (((i + 1 : Nat) : Int), ()))) (hend : B ((l.length : Int), ()) = some (.inr (.inr ()))) :
    ∃ n : Int, ((iter B (0, ())).bind fun q => sumC q (fun q => some (q.1, ())) fun _ => some (-1, ())) = some (n, ()) ∧ ((∃ i : Nat, ∃ h : i < l.length, n = (i : Int) ∧ p l[i] ∧ ∀ j (hj : j < i), ¬ p (l[j]'(by omega))) ∨ (n = -1 ∧ ∀ x ∈ l, ¬ p x)) := by
  have key : ∀ m i : Nat, i + m = l.length → (∀ j (hj : j < l.length), j < i → ¬ p l[j]) → ∃ n : Int, ((iter B ((i : Int), ())).bind fun q => sumC q (fun q => some (q.1, ())) fun _ => some (-1, ())) = some (n, ()) ∧ ((∃ i : Nat, ∃ h : i < l.length, n = (i : Int) ∧ p l[i] ∧ ∀ j (hj : j < i), ¬ p (l[j]'(by omega))) ∨ (n = -1 ∧ ∀ x ∈ l, ¬ p x)) := by
    intro m
    induction m with
    | zero =>
      intro i hi hno
      obtain rfl : i = l.length := by omega
      rw [iter_eq, hend]
      refine ⟨-1, rfl, .inr ⟨rfl, fun x hx => ?_⟩⟩
      obtain ⟨j, hj, rfl⟩ := List.getElem_of_mem hx
      exact hno j hj hj
    | succ m ih =>
      intro i hi hno
      have hlt : i < l.length := by omega
      rw [iter_eq, hB i hlt]
      by_cases hp : p l[i]
      · rw [dec_true hp]
        exact ⟨(i : Int), rfl, .inl ⟨i, hlt, rfl, hp, fun j hj => hno j (by omega) hj⟩⟩
      · rw [dec_false hp]
        refine ih (i + 1) (by omega) fun j hj h => ?_
        by_cases e : j = i
        · subst e; exact hp
        · exact hno j hj (by omega)
  exact key l.length 0 (by omega) (fun j hj h => by omega)

/-- A row is copied element by element. -/
theorem copy_loopK {α : Type} {a : List α} {z : α} (ha : a.length ≤ 1048576) {B : Int × List α × Unit → Option ((Int × List α × Unit) ⊕ (List α × Unit))}
    (hB : ∀ (i : Nat) (h : i < a.length) (out : List α), out.length = a.length → B ((i : Int), out, ()) = some (.inl (((i + 1 : Nat) : Int), out.set i a[i], ()))) (hend : ∀ out, B ((a.length : Int), out, ()) = some (.inr (out, ()))) :
    ((iter B (0, List.replicate a.length z, ())).bind fun p => some (p.1, ())) = some (a, ()) := by
  rw [iter_up' (r := (a, ())) a.length (fun i => ((i : Int), a.take i ++ List.replicate (a.length - i) z, ()))]
  · rfl
  · simp
  · intro i hi
    rw [hB i hi _ (by simp; omega)]
    congr 3
    congr 1
    apply List.ext_getElem
    · simp; omega
    · intro j h1 h2
      simp at h1 h2
      rw [List.getElem_set]
      by_cases he : i = j
      · subst he
        simp only [if_true]
        rw [List.getElem_append_left (by simp; omega)]
        simp
      · rw [if_neg he]
        by_cases hlt : j < i
        · rw [List.getElem_append_left (by simp; omega), List.getElem_append_left (by simp; omega)]; simp
        · rw [List.getElem_append_right (by simp; omega), List.getElem_append_right (by simp; omega)]; simp
  · simp [hend]

/-- A size test of rows in a row. -/
theorem sz_listK {α : Type} {Small : α → Prop} {F : α → Int → Option (Int × Unit)} {a : List α} (ha : a.length ≤ maxLen) (hF : ∀ e ∈ a, ∀ l, 0 ≤ l → l ≤ 1048576 → SzOK (Small e) (F e l)) {B : Int × Int × Unit → Option ((Int × Int × Unit) ⊕ ((Int × Unit) ⊕ (Int × Unit)))}
    (hB : ∀ l i : Int, B (l, i, ()) = bif decide (i < ((a.length : Nat) : Int)) then (lAt a i).bind fun e => (F e l).bind fun r => bif decide (r.1 < 0) then some (.inr (.inl (r.1, ()))) else some (.inl (r.1, IntKind.i64.wrap (i + 1), ())) else some (.inr (.inr (l, ())))) {l : Int} (h0 : 0 ≤ l) (h1 : l ≤ 1048576) :
    SzOK (a.length ≤ 1048576 ∧ ∀ e ∈ a, Small e) (bif decide (IntKind.i64.wrap (l - ((a.length : Nat) : Int)) < 0) then some (-1, ()) else (iter B (IntKind.i64.wrap (l - ((a.length : Nat) : Int)), 0, ())).bind fun q => sumC q (fun _ => some (-1, ())) fun b => some (b.1, ())) := by
  unfold maxLen at ha
  rw [wrap_id (by omega) (by omega)]
  by_cases h : l - (a.length : Int) < 0
  · rw [decide_eq_true h]; exact ⟨_, rfl, .inl (by omega)⟩
  rw [decide_eq_false h]
  have key : ∀ k i : Nat, i + k = a.length → ∀ l : Int, 0 ≤ l → l ≤ 1048576 → ∃ p, iter B (l, (i : Int), ()) = some p ∧ ((∃ n, p = .inl n) ∨ ∃ n, p = .inr (n, ()) ∧ 0 ≤ n ∧ n ≤ 1048576 ∧ ∀ e ∈ a.drop i, Small e) := by
    intro k
    induction k with
    | zero =>
      intro i hi l h0 h1
      rw [iter_eq, hB, decide_eq_false (by omega)]
      exact ⟨_, rfl, .inr ⟨l, rfl, h0, h1, fun e he => by rw [List.drop_eq_nil_iff.2 (by omega)] at he; cases he⟩⟩
    | succ k ih =>
      intro i hi l h0 h1
      have hlt : i < a.length := by omega
      rw [iter_eq, hB, decide_eq_true (by omega), lAt_nat hlt]
      obtain ⟨n, e1, h2⟩ := hF a[i] (List.getElem_mem hlt) l h0 h1
      simp only [cond_true, Option.bind_some, e1]
      rcases h2 with h2 | ⟨h2, h3, h4⟩
      · rw [decide_eq_true h2]; exact ⟨_, rfl, .inl ⟨(n, ()), rfl⟩⟩
      · rw [decide_eq_false (show ¬ n < 0 by omega), wrap_succ hlt (by omega)]
        obtain ⟨p, e2, h5⟩ := ih (i + 1) (by omega) n h2 h3
        refine ⟨p, e2, h5.imp id ?_⟩
        rintro ⟨m, rfl, h6, h7, h8⟩
        refine ⟨m, rfl, h6, h7, fun e he => ?_⟩
        rw [List.drop_eq_getElem_cons hlt] at he
        rcases List.mem_cons.1 he with rfl | he
        · exact h4
        · exact h8 e he
  obtain ⟨p, e1, h2⟩ := key a.length 0 (by omega) (l - a.length) (by omega) (by omega)
  simp only [Int.natCast_zero] at e1
  have e1' : iter B (l - (a.length : Int), 0, ()) = some p := e1
  rw [cond_false, e1']
  rcases h2 with ⟨n, rfl⟩ | ⟨n, rfl, h3, h4, h5⟩
  · exact ⟨_, rfl, .inl (by omega)⟩
  · exact ⟨_, rfl, .inr ⟨h3, h4, by omega, by simpa using h5⟩⟩

theorem p_eqReadMark (v : VM) : laws_eqReadMark_S (v, v, ()) = some (true, ()) := by
  simp [laws_eqReadMark_S]

theorem p_eqReadMarkS (a : List VM) (ha : a.length < 9223372036854775000) : laws_eqReadMarkS_S (a, a, ()) = some (true, ()) := by
  unfold laws_eqReadMarkS_S
  simp only [bne_self_eq_false, cond_false]
  refine iter_upK a.length (fun j => ((j : Int), ())) rfl (fun j hj => ?_) ⟨.inr (), ?_, rfl⟩
  · unfold laws_eqReadMarkS_D4
    simp only [lAt_nat hj, Option.bind_some, p_eqReadMark]
    rw [decide_eq_true (by omega), wr1 (by omega) (by omega)]
    rfl
  · unfold laws_eqReadMarkS_D4
    simp only
    rw [decide_eq_false (by omega)]
    rfl

theorem p_eqWrite (v : VM) : laws_eqWrite_S (v, v, ()) = some (true, ()) := by
  simp [laws_eqWrite_S]

theorem p_eqWriteS (a : List VM) (ha : a.length < 9223372036854775000) : laws_eqWriteS_S (a, a, ()) = some (true, ()) := by
  unfold laws_eqWriteS_S
  simp only [bne_self_eq_false, cond_false]
  refine iter_upK a.length (fun j => ((j : Int), ())) rfl (fun j hj => ?_) ⟨.inr (), ?_, rfl⟩
  · unfold laws_eqWriteS_D4
    simp only [lAt_nat hj, Option.bind_some, p_eqWrite]
    rw [decide_eq_true (by omega), wr1 (by omega) (by omega)]
    rfl
  · unfold laws_eqWriteS_D4
    simp only
    rw [decide_eq_false (by omega)]
    rfl

theorem p_eqEntry (x y : Int) (m w : List VM) (hm : m.length < 9223372036854775000) (hw : w.length < 9223372036854775000) : laws_eqEntry_S ((x, y, m, w, ()), (x, y, m, w, ()), ()) = some (true, ()) := by
  simp [laws_eqEntry_S, p_eqReadMarkS m hm, p_eqWriteS w hw]

def before (a b : VM) : Prop := a.1 < b.1 ∨ (a.1 = b.1 ∧ a.2.1 < b.2.1)

instance (a b : VM) : Decidable (before a b) := by unfold before; infer_instance

theorem p_before (a b : VM) : spec_l5Before_S ((a.1, a.2.1, ()), (b.1, b.2.1, ()), ()) = some (decide (before a b), ()) := by
  unfold spec_l5Before_S before
  by_cases h1 : a.1 < b.1
  · simp [h1]
  · by_cases h2 : a.1 = b.1
    · simp [h2]
    · have h3 : (a.1 == b.1) = false := by simpa using h2
      simp [h1, h2, h3]

theorem p_cmp (a b : Int) : cmp_Compare_int_S (a, b, ()) = some (if a < b then -1 else if a > b then 1 else 0, ()) := by
  unfold cmp_Compare_int_S cmp_isNaN_int_S
  by_cases h1 : a < b
  · simp [h1]
  · by_cases h2 : a > b <;> simp [h1, h2]

theorem p_or (a b : Int) : cmp_Or_int_S ([a, b], ()) = some (if a ≠ 0 then a else b, ()) := by
  unfold cmp_Or_int_S
  have l0 : lAt [a, b] 0 = some a := rfl
  have l1 : lAt [a, b] 1 = some b := rfl
  have w0 : IntKind.i64.wrap ((0 : Int) + 1) = 1 := wr1 (by omega) (by omega)
  have w1 : IntKind.i64.wrap ((1 : Int) + 1) = 2 := wr1 (by omega) (by omega)
  have B0 : cmp_Or_int_D3 (0, [a, b], 2, ()) (0, ()) ((Int × Unit) ⊕ ((Int × Unit) ⊕ Unit)) some = some (bif a != 0 then .inr (.inl (a, ())) else .inl (1, ())) := by
    unfold cmp_Or_int_D3
    simp only [l0, Option.bind_some, w0]
    cases (a != 0 : Bool) <;> rfl
  have B1 : cmp_Or_int_D3 (0, [a, b], 2, ()) (1, ()) ((Int × Unit) ⊕ ((Int × Unit) ⊕ Unit)) some = some (bif b != 0 then .inr (.inl (b, ())) else .inl (2, ())) := by
    unfold cmp_Or_int_D3
    simp only [l1, Option.bind_some, w1]
    cases (b != 0 : Bool) <;> rfl
  have B2 : cmp_Or_int_D3 (0, [a, b], 2, ()) (2, ()) ((Int × Unit) ⊕ ((Int × Unit) ⊕ Unit)) some = some (.inr (.inr ())) := by
    unfold cmp_Or_int_D3
    rfl
  have e : (((List.length [a, b] : Nat) : Int)) = 2 := rfl
  simp only [e]
  rw [iter_eq, B0]
  by_cases ha : a = 0
  · subst ha
    simp only [bne_self_eq_false, cond_false, Option.bind_some]
    rw [iter_eq, B1]
    by_cases hb : b = 0
    · subst hb
      simp only [bne_self_eq_false, cond_false, Option.bind_some]
      rw [iter_eq, B2]; rfl
    · have : (b != 0) = true := by simpa using hb
      rw [this]; simp [sumC]
  · have : (a != 0) = true := by simpa using ha
    rw [this]; simp [sumC, ha]

theorem p_compareMarks (a b : VM) : ∃ n : Int, impl_compareMarks_S ((a.1, a.2.1, ()), (b.1, b.2.1, ()), ()) = some (n, ()) ∧ (n ≥ 0 ↔ ¬ before a b) := by
  unfold impl_compareMarks_S
  simp only [p_cmp, p_or, Option.bind_some]
  refine ⟨_, rfl, ?_⟩
  unfold before
  by_cases h1 : a.1 < b.1
  · simp [h1]
  · by_cases h2 : a.1 > b.1
    · simp [h1, h2]; omega
    · have h3 : a.1 = b.1 := by omega
      simp [h3]
      by_cases h4 : a.2.1 < b.2.1
      · simp [h4]
      · by_cases h5 : a.2.1 > b.2.1 <;> simp [h4, h5] <;> omega

def rdAt (l : List VM) (i : Nat) : Prop := ∃ h : i < l.length, inB l[i].1 0 5 = true ∧ inB l[i].2.1 0 999 = true ∧ ∀ h2 : 0 < i, before (l[i - 1]'(by omega)) l[i]

def wrAt (l : List VM) (i : Nat) : Prop := ∃ h : i < l.length, inB l[i].1 0 5 = true ∧ inB l[i].2.1 (-1) 99 = true ∧ ∀ h2 : 0 < i, (l[i - 1]'(by omega)).1 < l[i].1

def okRd (l : List VM) : Prop := ∀ i, i < l.length → rdAt l i

def okWr (l : List VM) : Prop := ∀ i, i < l.length → wrAt l i

theorem p_implReads {l : List VM} (hl : l.length ≤ 1048576) : impl_areReads_S (l, ()) = some (dec (okRd l) && decide (l.length ≤ 60), ()) := by
  have e : impl_areReads_S (l, ()) = bif dec (okRd l) then some (decide (((l.length : Nat) : Int) ≤ 60), ()) else some (false, ()) := by
    unfold impl_areReads_S
    refine all_loopK (n := l.length) (c := rdAt l) (fun i hi => ?_) ⟨.inr (.inr (.inr ())), ?_, rfl⟩
    · unfold impl_areReads_D2
      simp only [lAt_nat hi, Option.bind_some, p_isKey, p_implIn]
      rw [decide_eq_true (by omega)]
      simp only [cond_true]
      cases h1 : inB l[i].1 0 5 with
      | false => exact ⟨fun ⟨_, h, _⟩ => (by rw [h1] at h; cases h), fun _ => ⟨.inl _, rfl, rfl⟩⟩
      | true =>
        simp only [Bool.not_true, cond_false]
        cases h2 : inB l[i].2.1 0 999 with
        | false => exact ⟨fun ⟨_, _, h, _⟩ => (by rw [h2] at h; cases h), fun _ => ⟨.inr (.inl _), rfl, rfl⟩⟩
        | true =>
          simp only [Bool.not_true, cond_false]
          rw [wrap_succ hi (by omega)]
          by_cases h3 : 0 < i
          · have hlt : i - 1 < l.length := by omega
            rw [decide_eq_true (show (i : Int) > 0 by omega), show IntKind.i64.wrap ((i : Int) - 1) = ((i - 1 : Nat) : Int) from by rw [wrap_id (by omega) (by omega)]; omega, lAt_nat hlt]
            obtain ⟨n, e1, e2⟩ := p_compareMarks l[i - 1] l[i]
            simp only [cond_true, Option.bind_some, e1]
            by_cases hb : before l[i - 1] l[i]
            · rw [decide_eq_false (fun h => e2.1 h hb)]
              exact ⟨fun _ => rfl, fun h => absurd ⟨hi, h1, h2, fun _ => hb⟩ h⟩
            · rw [decide_eq_true (e2.2 hb)]
              exact ⟨fun ⟨_, _, _, h⟩ => absurd (h h3) hb, fun _ => ⟨.inr (.inr (.inl _)), rfl, rfl⟩⟩
          · rw [decide_eq_false (show ¬ (i : Int) > 0 by omega)]
            exact ⟨fun _ => rfl, fun h => absurd ⟨hi, h1, h2, fun h => absurd h h3⟩ h⟩
    · unfold impl_areReads_D2
      simp only
      rw [decide_eq_false (by omega)]; rfl
  rw [e]
  have d : decide (((l.length : Nat) : Int) ≤ 60) = decide (l.length ≤ 60) := decide_eq_decide.2 (by omega)
  rw [d]
  cases dec (okRd l) <;> simp

theorem p_implWrites {l : List VM} (hl : l.length ≤ 1048576) : impl_areWrites_S (l, ()) = some (dec (okWr l), ()) := by
  have e : impl_areWrites_S (l, ()) = bif dec (okWr l) then some (true, ()) else some (false, ()) := by
    unfold impl_areWrites_S
    refine all_loopK (n := l.length) (c := wrAt l) (fun i hi => ?_) ⟨.inr (.inr (.inr ())), ?_, rfl⟩
    · unfold impl_areWrites_D2
      simp only [lAt_nat hi, Option.bind_some, p_isKey, p_isValue]
      rw [decide_eq_true (by omega)]
      simp only [cond_true]
      cases h1 : inB l[i].1 0 5 with
      | false => exact ⟨fun ⟨_, h, _⟩ => (by rw [h1] at h; cases h), fun _ => ⟨.inl _, rfl, rfl⟩⟩
      | true =>
        simp only [Bool.not_true, cond_false]
        cases h2 : inB l[i].2.1 (-1) 99 with
        | false => exact ⟨fun ⟨_, _, h, _⟩ => (by rw [h2] at h; cases h), fun _ => ⟨.inr (.inl _), rfl, rfl⟩⟩
        | true =>
          simp only [Bool.not_true, cond_false]
          rw [wrap_succ hi (by omega)]
          by_cases h3 : 0 < i
          · have hlt : i - 1 < l.length := by omega
            rw [decide_eq_true (show (i : Int) > 0 by omega), show IntKind.i64.wrap ((i : Int) - 1) = ((i - 1 : Nat) : Int) from by rw [wrap_id (by omega) (by omega)]; omega, lAt_nat hlt]
            simp only [cond_true, Option.bind_some]
            by_cases hb : l[i - 1].1 < l[i].1
            · rw [decide_eq_false (by omega)]
              exact ⟨fun _ => rfl, fun h => absurd ⟨hi, h1, h2, fun _ => hb⟩ h⟩
            · rw [decide_eq_true (by omega)]
              exact ⟨fun ⟨_, _, _, h⟩ => absurd (h h3) hb, fun _ => ⟨.inr (.inr (.inl _)), rfl, rfl⟩⟩
          · rw [decide_eq_false (show ¬ (i : Int) > 0 by omega)]
            exact ⟨fun _ => rfl, fun h => absurd ⟨hi, h1, h2, fun h => absurd h h3⟩ h⟩
    · unfold impl_areWrites_D2
      simp only
      rw [decide_eq_false (by omega)]; rfl
  rw [e]
  cases dec (okWr l) <;> rfl

/-- A valid transaction. -/
noncomputable def okT (id sc st be lo hi co : Int) (rd wr : List VM) : Bool :=
  dec (okRd rd) && dec (okWr wr) && inB id 1 9 && inB sc 1 4 && inB be 0 999 && inB st 1 3 && inB lo 0 999 && inB hi 1 1000 && ((st == 2) == decide (co > 0)) && inB co 0 999 && decide (rd.length ≤ 60)

theorem p_specT {id sc st be lo hi co : Int} {rd wr : List VM} (hr : rd.length ≤ 1048576) (hw : wr.length ≤ 1048576) : spec_IsValidTransaction_S ((id, sc, st, be, lo, hi, co, rd, wr, ()), ()) = some (okT id sc st be lo hi co rd wr, ()) := by
  unfold spec_IsValidTransaction_S
  simp only
  refine (all_loopK (n := rd.length) (c := rdAt rd) (no := some (false, ())) (X := bif dec (okWr wr) then some (inB id 1 9 && inB sc 1 4 && inB be 0 999 && inB st 1 3 && inB lo 0 999 && inB hi 1 1000 && ((st == 2) == decide (co > 0)) && inB co 0 999 && decide (rd.length ≤ 60), ()) else some (false, ())) (fun i hi' => ?_) ⟨.inr (.inr (.inr ())), ?_, ?_⟩).trans ?_
  · unfold spec_IsValidTransaction_D2
    simp only [lAt_nat hi', Option.bind_some, p_specIn]
    rw [decide_eq_true (by omega)]
    simp only [cond_true]
    cases h1 : inB rd[i].1 0 5 with
    | false => exact ⟨fun ⟨_, h, _⟩ => (by rw [h1] at h; cases h), fun _ => ⟨.inl _, rfl, rfl⟩⟩
    | true =>
      simp only [Bool.not_true, cond_false]
      cases h2 : inB rd[i].2.1 0 999 with
      | false => exact ⟨fun ⟨_, _, h, _⟩ => (by rw [h2] at h; cases h), fun _ => ⟨.inr (.inl _), rfl, rfl⟩⟩
      | true =>
        simp only [Bool.not_true, cond_false]
        rw [wrap_succ hi' (by omega)]
        by_cases h3 : 0 < i
        · have hlt : i - 1 < rd.length := by omega
          rw [decide_eq_true (show (i : Int) > 0 by omega), show IntKind.i64.wrap ((i : Int) - 1) = ((i - 1 : Nat) : Int) from by rw [wrap_id (by omega) (by omega)]; omega, lAt_nat hlt]
          simp only [cond_true, Option.bind_some, p_before]
          by_cases hb : before rd[i - 1] rd[i]
          · rw [decide_eq_true hb]
            exact ⟨fun _ => rfl, fun h => absurd ⟨hi', h1, h2, fun _ => hb⟩ h⟩
          · rw [decide_eq_false hb]
            exact ⟨fun ⟨_, _, _, h⟩ => absurd (h h3) hb, fun _ => ⟨.inr (.inr (.inl _)), rfl, rfl⟩⟩
        · rw [decide_eq_false (show ¬ (i : Int) > 0 by omega)]
          exact ⟨fun _ => rfl, fun h => absurd ⟨hi', h1, h2, fun h => absurd h h3⟩ h⟩
  · unfold spec_IsValidTransaction_D2
    simp only
    rw [decide_eq_false (by omega)]; rfl
  · refine all_loopK (n := wr.length) (c := wrAt wr) (fun i hi' => ?_) ⟨.inr (.inr (.inr ())), ?_, ?_⟩
    · unfold spec_IsValidTransaction_D8
      simp only [lAt_nat hi', Option.bind_some, p_specIn]
      rw [decide_eq_true (by omega)]
      simp only [cond_true]
      cases h1 : inB wr[i].1 0 5 with
      | false => exact ⟨fun ⟨_, h, _⟩ => (by rw [h1] at h; cases h), fun _ => ⟨.inl _, rfl, rfl⟩⟩
      | true =>
        simp only [Bool.not_true, cond_false]
        cases h2 : inB wr[i].2.1 (-1) 99 with
        | false => exact ⟨fun ⟨_, _, h, _⟩ => (by rw [h2] at h; cases h), fun _ => ⟨.inr (.inl _), rfl, rfl⟩⟩
        | true =>
          simp only [Bool.not_true, cond_false]
          rw [wrap_succ hi' (by omega)]
          by_cases h3 : 0 < i
          · have hlt : i - 1 < wr.length := by omega
            rw [decide_eq_true (show (i : Int) > 0 by omega), show IntKind.i64.wrap ((i : Int) - 1) = ((i - 1 : Nat) : Int) from by rw [wrap_id (by omega) (by omega)]; omega, lAt_nat hlt]
            simp only [cond_true, Option.bind_some]
            by_cases hb : wr[i - 1].1 < wr[i].1
            · rw [decide_eq_false (by omega)]
              exact ⟨fun _ => rfl, fun h => absurd ⟨hi', h1, h2, fun _ => hb⟩ h⟩
            · rw [decide_eq_true (by omega)]
              exact ⟨fun ⟨_, _, _, h⟩ => absurd (h h3) hb, fun _ => ⟨.inr (.inr (.inl _)), rfl, rfl⟩⟩
          · rw [decide_eq_false (show ¬ (i : Int) > 0 by omega)]
            exact ⟨fun _ => rfl, fun h => absurd ⟨hi', h1, h2, fun h => absurd h h3⟩ h⟩
    · unfold spec_IsValidTransaction_D8
      simp only
      rw [decide_eq_false (by omega)]; rfl
    · simp only [sumC, p_specIn, Option.bind_some]
      have d : decide (((rd.length : Nat) : Int) ≤ 60) = decide (rd.length ≤ 60) := decide_eq_decide.2 (by omega)
      rw [d]
      cases inB id 1 9 <;> cases inB sc 1 4 <;> cases inB be 0 999 <;> cases inB st 1 3 <;> cases inB lo 0 999 <;> cases inB hi 1 1000 <;> cases ((st == 2) == decide (co > 0) : Bool) <;> cases inB co 0 999 <;> rfl
  · unfold okT
    show (bif dec (okRd rd) then _ else _) = _
    cases dec (okRd rd) <;> cases dec (okWr wr) <;> simp

def fx : Option Nat → Int | some i => (i : Int) | none => -1

theorem dec_bool (b : Bool) : dec (b = true) = b := by
  cases b
  · exact dec_false (by simp)
  · exact dec_true rfl

theorem find_loop {α : Type} {l : List α} {p : α → Bool} (hn : l.length ≤ 1048576) {B : Int × Unit → Option ((Int × Unit) ⊕ ((Int × Unit) ⊕ Unit))}
    (hB : ∀ i (h : i < l.length), B ((i : Int), ()) = some (bif p l[i] then .inr (.inl ((i : Int), ())) else .inl (((i + 1 : Nat) : Int), ()))) (hend : B ((l.length : Int), ()) = some (.inr (.inr ()))) :
    ((iter B (0, ())).bind fun q => sumC q (fun q => some (q.1, ())) fun _ => some (-1, ())) = some (fx (l.findIdx? p), ()) := by
  obtain ⟨n, e, h⟩ := indexFunc (ρ := Unit) (l := l) (p := fun x => p x = true) hn (B := B) (fun i h => by rw [hB i h, dec_bool]) hend
  rw [e]
  rcases h with ⟨i, hi, rfl, hp, hq⟩ | ⟨rfl, hq⟩
  · have : l.findIdx? p = some i := List.findIdx?_eq_some_iff_getElem.2 ⟨hi, hp, fun j hj => by simpa using hq j hj⟩
    rw [this]; rfl
  · have : l.findIdx? p = none := List.findIdx?_eq_none_iff.2 fun x hx => by simpa using hq x hx
    rw [this]; rfl

theorem fx_neg (o : Option Nat) : decide (fx o < 0) = o.isNone := by
  cases o with
  | none => rfl
  | some i => exact decide_eq_false (by simp only [fx]; omega)

/-- What a store is while a commit is installed: n versions more at most. -/
def stOK (s : List (List VV)) (n : Nat) : Prop := s.length = 6 ∧ ∀ l ∈ s, 0 < l.length ∧ l.length ≤ 50 + n

theorem stOK.set {s : List (List VV)} {n k : Nat} {l : List VV} (h : stOK s n) {n' : Nat} (hn : n ≤ n') (h0 : 0 < l.length) (h1 : l.length ≤ 50 + n') : stOK (s.set k l) n' := by
  refine ⟨by simpa using h.1, fun x hx => ?_⟩
  rcases List.mem_or_eq_of_mem_set hx with h2 | rfl
  · have := h.2 x h2; omega
  · exact ⟨h0, h1⟩

theorem p_toReadMarkS (a : List VM) (ha : a.length ≤ 1048576) : laws_toReadMarkS_S (a, ()) = some (a, ()) := by
  unfold laws_toReadMarkS_S
  simp only
  rw [if_pos (by omega), Int.toNat_natCast]
  refine copy_loopK ha (fun i h out ho => ?_) fun out => ?_
  · unfold laws_toReadMarkS_D3
    simp only [lAt_nat h, Option.bind_some, laws_toReadMark_S]
    rw [decide_eq_true (by omega), if_pos (by omega), wrap_succ h (by omega)]
    simp [ho, h]
  · unfold laws_toReadMarkS_D3
    simp only
    rw [decide_eq_false (by omega)]; rfl

theorem p_toWriteS (a : List VM) (ha : a.length ≤ 1048576) : laws_toWriteS_S (a, ()) = some (a, ()) := by
  unfold laws_toWriteS_S
  simp only
  rw [if_pos (by omega), Int.toNat_natCast]
  refine copy_loopK ha (fun i h out ho => ?_) fun out => ?_
  · unfold laws_toWriteS_D3
    simp only [lAt_nat h, Option.bind_some, laws_toWrite_S]
    rw [decide_eq_true (by omega), if_pos (by omega), wrap_succ h (by omega)]
    simp [ho, h]
  · unfold laws_toWriteS_D3
    simp only
    rw [decide_eq_false (by omega)]; rfl

theorem p_szReadMarkS {a : List VM} {l : Int} (ha : a.length ≤ maxLen) (h0 : 0 ≤ l) (h1 : l ≤ 1048576) : SzOK (a.length ≤ 1048576) (laws_szReadMarkS_S (a, l, ())) := sz_flat ha h0 h1

theorem p_szWriteS {a : List VM} {l : Int} (ha : a.length ≤ maxLen) (h0 : 0 ≤ l) (h1 : l ≤ 1048576) : SzOK (a.length ≤ 1048576) (laws_szWriteS_S (a, l, ())) := sz_flat ha h0 h1

/-- The first element of which something is so. -/
theorem first_loop {α ρ τ : Type} {l : List α} {p : α → Bool} {B : Int × Unit → Option ((Int × Unit) ⊕ ρ)} {k : ρ → Option τ} {yes : α → Option τ} {no : Option τ}
    (hB : ∀ i (h : i < l.length), (p l[i] = true → ∃ r, B ((i : Int), ()) = some (.inr r) ∧ k r = yes l[i]) ∧ (p l[i] = false → B ((i : Int), ()) = some (.inl (((i + 1 : Nat) : Int), ())))) (hend : ∃ r, B ((l.length : Int), ()) = some (.inr r) ∧ k r = no) :
    (iter B (0, ())).bind k = match l.find? p with | some a => yes a | none => no := by
  have key : ∀ m i : Nat, i + m = l.length → (iter B ((i : Int), ())).bind k = match (l.drop i).find? p with | some a => yes a | none => no := by
    intro m
    induction m with
    | zero =>
      intro i hi
      obtain rfl : i = l.length := by omega
      obtain ⟨r, h1, h2⟩ := hend
      rw [iter_eq, h1]; simpa using h2
    | succ m ih =>
      intro i hi
      have h : i < l.length := by omega
      rw [List.drop_eq_getElem_cons h, List.find?_cons]
      cases hp : p l[i] with
      | true =>
        obtain ⟨r, h1, h2⟩ := (hB i h).1 hp
        rw [iter_eq, h1]; exact h2
      | false =>
        rw [iter_eq, (hB i h).2 hp]
        simp only [Option.bind_some]
        exact ih (i + 1) (by omega)
  simpa using key l.length 0 (by omega)

theorem beq_sym (a b : Int) : (a == b : Bool) = (b == a) := by rw [eq_int, eq_int]; exact decide_eq_decide.2 eq_comm

theorem find_any {α : Type} {l : List α} {p : α → Bool} : (match l.find? p with | some _ => some (true, ()) | none => some (false, ())) = some (l.any p, ()) := by
  cases h : l.find? p with
  | none =>
    have : l.any p = false := by
      rw [List.any_eq_false]; exact List.find?_eq_none.1 h
    rw [this]
  | some a =>
    have : l.any p = true := List.any_eq_true.2 ⟨a, List.mem_of_find?_eq_some h, List.find?_some h⟩
    rw [this]

theorem fx_any {α : Type} (l : List α) (p : α → Bool) : decide (fx (l.findIdx? p) ≥ 0) = l.any p := by
  cases h : l.findIdx? p with
  | none =>
    have : l.any p = false := by
      rw [List.any_eq_false]
      intro x hx
      have := List.findIdx?_eq_none_iff.1 h x hx
      simpa using this
    rw [this]; rfl
  | some i =>
    obtain ⟨hi, hp, _⟩ := List.findIdx?_eq_some_iff_getElem.1 h
    have : l.any p = true := List.any_eq_true.2 ⟨l[i], List.getElem_mem hi, hp⟩
    rw [this]
    exact decide_eq_true (by simp only [fx]; omega)

section
variable {α : Type} {lt : α → α → Bool}
structure StO (lt : α → α → Bool) : Prop where
  irr : ∀ x, lt x x = false
  tr : ∀ x y z, lt x y = true → lt y z = true → lt x z = true
  tri : ∀ x y, lt x y = true ∨ x = y ∨ lt y x = true
theorem StO.asym (h : StO lt) {x y : α} (h1 : lt x y = true) : lt y x = false := by
  cases h2 : lt y x with
  | false => rfl
  | true => have := h.tr x y x h1 h2; rw [h.irr] at this; cases this
theorem sorted_ext (h : StO lt) : ∀ {l m : List α}, l.Pairwise (fun a b => lt a b = true) → m.Pairwise (fun a b => lt a b = true) → (∀ x, x ∈ l ↔ x ∈ m) → l = m
  | [], [], _, _, _ => rfl
  | [], b :: m, _, _, hm => by have := (hm b).2 (List.mem_cons_self ..); cases this
  | a :: l, [], _, _, hm => by have := (hm a).1 (List.mem_cons_self ..); cases this
  | a :: l, b :: m, h1, h2, hm => by
    rw [List.pairwise_cons] at h1 h2
    have hab : a = b := by
      rcases List.mem_cons.1 ((hm a).1 (List.mem_cons_self ..)) with e | e
      · exact e
      · rcases List.mem_cons.1 ((hm b).2 (List.mem_cons_self ..)) with e' | e'
        · exact e'.symm
        · have k1 := h2.1 a e
          have k2 := h1.1 b e'
          rw [h.asym k1] at k2; cases k2
    subst hab
    congr 1
    refine sorted_ext h h1.2 h2.2 fun x => ?_
    constructor
    · intro hx
      rcases List.mem_cons.1 ((hm x).1 (List.mem_cons_of_mem _ hx)) with e | e
      · subst e; have := h1.1 x hx; rw [h.irr] at this; cases this
      · exact e
    · intro hx
      rcases List.mem_cons.1 ((hm x).2 (List.mem_cons_of_mem _ hx)) with e | e
      · subst e; have := h2.1 x hx; rw [h.irr] at this; cases this
      · exact e

theorem tw_all {p : α → Bool} : ∀ {l : List α}, ∀ x ∈ l.takeWhile p, p x = true
  | [], x, hx => by cases hx
  | a :: l, x, hx => by
    rw [List.takeWhile_cons] at hx
    split at hx
    · rename_i h
      rcases List.mem_cons.1 hx with rfl | hx
      · exact h
      · exact tw_all x hx
    · cases hx
variable [DecidableEq α]
/-- Put into a sorted list, if it is not there. -/
def insE (lt : α → α → Bool) (g : List α) (e : α) : List α :=
  if (g.dropWhile fun x => lt x e).head? = some e then g else (g.takeWhile fun x => lt x e) ++ e :: (g.dropWhile fun x => lt x e)
theorem dropWhile_ge (h : StO lt) (e : α) : ∀ {g : List α}, g.Pairwise (fun a b => lt a b = true) → ∀ x ∈ g.dropWhile (fun x => lt x e), lt x e = false
  | [], _, x, hx => by cases hx
  | a :: g, hp, x, hx => by
    rw [List.pairwise_cons] at hp
    rw [List.dropWhile_cons] at hx
    split at hx
    · exact dropWhile_ge h e hp.2 x hx
    · rename_i hae
      rcases List.mem_cons.1 hx with rfl | hx
      · simpa using hae
      · cases hxe : lt x e with
        | false => rfl
        | true => exact absurd (h.tr a x e (hp.1 x hx) hxe) hae
theorem insE_mem (h : StO lt) {g : List α} {e : α} : ∀ x, x ∈ insE lt g e ↔ x ∈ g ∨ x = e := by
  intro x
  unfold insE
  split
  · rename_i hd
    have : e ∈ g := by
      have := List.mem_of_mem_head? (Option.mem_def.2 hd)
      exact (List.dropWhile_sublist _).mem this
    constructor
    · exact .inl
    · rintro (h | rfl)
      · exact h
      · exact this
  · have e1 : x ∈ g ↔ x ∈ g.takeWhile (fun x => lt x e) ∨ x ∈ g.dropWhile (fun x => lt x e) := by
      rw [← List.mem_append, List.takeWhile_append_dropWhile]
    rw [List.mem_append, List.mem_cons, e1]
    constructor
    · rintro (k | rfl | k)
      · exact .inl (.inl k)
      · exact .inr rfl
      · exact .inl (.inr k)
    · rintro ((k | k) | rfl)
      · exact .inl k
      · exact .inr (.inr k)
      · exact .inr (.inl rfl)
theorem insE_sorted (h : StO lt) {g : List α} {e : α} (hp : g.Pairwise (fun a b => lt a b = true)) : (insE lt g e).Pairwise (fun a b => lt a b = true) := by
  unfold insE
  split
  · exact hp
  · rename_i hd
    have hT : ∀ x ∈ g.takeWhile (fun x => lt x e), lt x e = true := tw_all
    have hD := dropWhile_ge h e hp
    have hne : ∀ x ∈ g.dropWhile (fun x => lt x e), lt e x = true := by
      have hpd : (g.dropWhile fun x => lt x e).Pairwise (fun a b => lt a b = true) := hp.sublist (List.dropWhile_sublist _)
      generalize g.dropWhile (fun x => lt x e) = r at hd hD hpd
      intro x hx
      cases r with
      | nil => cases hx
      | cons a r =>
        have ha : lt e a = true := by
          rcases h.tri e a with k | k | k
          · exact k
          · subst k; exact absurd rfl hd
          · rw [hD a (List.mem_cons_self ..)] at k; cases k
        rcases List.mem_cons.1 hx with rfl | hx
        · exact ha
        · exact h.tr _ _ _ ha ((List.pairwise_cons.1 hpd).1 x hx)
    have hsp := hp
    rw [← List.takeWhile_append_dropWhile (p := fun x => lt x e) (l := g)] at hsp
    rw [List.pairwise_append] at hsp ⊢
    refine ⟨hsp.1, List.pairwise_cons.2 ⟨hne, hsp.2.1⟩, fun a ha b hb => ?_⟩
    rcases List.mem_cons.1 hb with rfl | hb
    · exact hT a ha
    · exact hsp.2.2 a ha b hb
theorem foldl_insE (h : StO lt) : ∀ (r g : List α), g.Pairwise (fun a b => lt a b = true) → (r.foldl (insE lt) g).Pairwise (fun a b => lt a b = true) ∧ ∀ x, x ∈ r.foldl (insE lt) g ↔ x ∈ g ∨ x ∈ r
  | [], g, hp => ⟨hp, fun x => by simp⟩
  | e :: r, g, hp => by
    obtain ⟨h1, h2⟩ := foldl_insE h r (insE lt g e) (insE_sorted h hp)
    refine ⟨h1, fun x => ?_⟩
    rw [List.foldl_cons, h2, insE_mem h, List.mem_cons]
    constructor
    · rintro ((k | k) | k)
      · exact .inl k
      · exact .inr (.inl k)
      · exact .inr (.inr k)
    · rintro (k | k | k)
      · exact .inl (.inl k)
      · exact .inl (.inr k)
      · exact .inr k

/-- Doubles that stand side by side are left out. -/
def dedS (acc : List α) (x : α) : List α := if acc.getLast? = some x then acc else acc ++ [x]
def ded (l : List α) : List α := l.foldl dedS []
theorem ded_snoc (l : List α) (x : α) : ded (l ++ [x]) = dedS (ded l) x := by simp [ded]
theorem ded_last : ∀ (l : List α), (ded l).getLast? = l.getLast? := by
  intro l
  rcases List.eq_nil_or_concat l with rfl | ⟨l, x, rfl⟩
  · rfl
  · rw [List.concat_eq_append, ded_snoc]
    unfold dedS
    split
    · rename_i e; rw [e]; simp
    · simp
theorem ded_spec (h : StO lt) (l : List α) : l.Pairwise (fun a b => lt b a = false) → (ded l).Pairwise (fun a b => lt a b = true) ∧ (∀ x, x ∈ ded l ↔ x ∈ l) ∧ ∀ x ∈ ded l, ∀ y, l.getLast? = some y → lt y x = false := by
  suffices ∀ n (l : List α), l.length = n → l.Pairwise (fun a b => lt b a = false) → (ded l).Pairwise (fun a b => lt a b = true) ∧ (∀ x, x ∈ ded l ↔ x ∈ l) ∧ ∀ x ∈ ded l, ∀ y, l.getLast? = some y → lt y x = false from this _ l rfl
  intro n
  induction n with
  | zero =>
    intro l hl hp
    have : l = [] := List.eq_nil_of_length_eq_zero hl
    subst this
    exact ⟨by simp [ded], by simp [ded], by simp [ded]⟩
  | succ n ih =>
    intro l hl hp
    rcases List.eq_nil_or_concat l with rfl | ⟨l, z, rfl⟩
    · simp at hl
    rw [List.concat_eq_append] at hl hp ⊢
    rw [List.pairwise_append] at hp
    obtain ⟨h1, h2, h3⟩ := ih l (by simpa using hl) hp.1
    rw [ded_snoc]
    unfold dedS
    split
    · rename_i e
      rw [ded_last] at e
      refine ⟨h1, fun x => ?_, fun x hx y hy => ?_⟩
      · rw [h2, List.mem_append, List.mem_singleton]
        constructor
        · exact .inl
        · rintro (k | rfl)
          · exact k
          · exact List.mem_of_getLast? e
      · have : z = y := by simpa using hy
        subst this
        exact h3 x hx z e
    · rename_i e
      have hz : ∀ x ∈ ded l, lt x z = true := by
        intro x hx
        have k1 := hp.2.2 x ((h2 x).1 hx) z (List.mem_singleton.2 rfl)
        rcases h.tri x z with k | k | k
        · exact k
        · subst k
          -- x is in l, the last of l is not x
          exfalso
          cases hlast : l.getLast? with
          | none => rw [List.getLast?_eq_none_iff] at hlast; subst hlast; simp [ded] at hx
          | some y =>
            have k2 := h3 x hx y hlast
            have k3 := hp.2.2 y (List.mem_of_getLast? hlast) x (List.mem_singleton.2 rfl)
            rcases h.tri x y with k | k | k
            · rw [k3] at k; cases k
            · subst k; rw [ded_last, hlast] at e; exact e rfl
            · rw [k2] at k; cases k
        · rw [k1] at k; cases k
      refine ⟨?_, fun x => ?_, fun x hx y hy => ?_⟩
      · rw [List.pairwise_append]
        exact ⟨h1, List.pairwise_singleton _ _, fun a ha b hb => by rw [List.mem_singleton.1 hb]; exact hz a ha⟩
      · rw [List.mem_append, List.mem_append, h2]
      · have : z = y := by simpa using hy
        subst this
        rcases List.mem_append.1 hx with k | k
        · exact h.asym (hz x k)
        · rw [List.mem_singleton.1 k]; exact h.irr _
/-- Sorting and leaving out is putting in one by one. -/
theorem ded_sort (h : StO lt) (r : List α) : ded (r.mergeSort fun a b => !lt b a) = r.foldl (insE lt) [] := by
  have hs : (r.mergeSort fun a b => !lt b a).Pairwise (fun a b => lt b a = false) := by
    have := List.pairwise_mergeSort (le := fun a b => !lt b a) (fun a b c h1 h2 => by
      simp only [Bool.not_eq_true', Bool.not_eq_true] at h1 h2 ⊢
      cases hc : lt c a with
      | false => rfl
      | true =>
        rcases h.tri a b with k | k | k
        · have := h.tr c a b hc k; rw [h2] at this; cases this
        · subst k; rw [h2] at hc; cases hc
        · rw [h1] at k; cases k) (fun a b => by
      cases hc : lt b a with
      | false => simp
      | true => simp [h.asym hc]) r
    exact this.imp (fun h => by simpa using h)
  obtain ⟨h1, h2, _⟩ := ded_spec h _ hs
  obtain ⟨h3, h4⟩ := foldl_insE h r [] List.Pairwise.nil
  refine sorted_ext h h1 h3 fun x => ?_
  rw [h2, h4, (List.mergeSort_perm r _).mem_iff]
  simp
end

abbrev EDg := Int × Int × Int × Int × Unit

/-- An edge's ends are among the numbers. -/
def edIn (e : EDg) : Prop := 1 ≤ e.1 ∧ e.1 ≤ 9 ∧ 1 ≤ e.2.1 ∧ e.2.1 ≤ 9

/-- One sweep: who leads into the layer and has no number yet. -/
def swS (p : Int → Bool) (d : Int) (s : List Int × List Int) (e : EDg) : List Int × List Int := if p e.2.1 = true ∧ s.1.getD e.1.toNat 0 < 0 then (s.1.set e.1.toNat d, s.2 ++ [e.1]) else s

def sw (g : List EDg) (p : Int → Bool) (d : Int) (far : List Int) : List Int × List Int := g.foldl (swS p d) (far, [])

def cntN (l : List Int) : Nat := (l.filter fun x => decide (x < 0)).length

theorem cntN_set : ∀ {l : List Int} {i : Nat} {d : Int}, i < l.length → l.getD i 0 < 0 → 0 ≤ d → cntN (l.set i d) + 1 = cntN l
  | [], i, d, h, _, _ => by simp at h
  | a :: l, 0, d, _, h, hd => by
    simp only [List.getD_cons_zero] at h
    simp [cntN, List.filter_cons, h, show ¬ d < 0 by omega]
  | a :: l, i + 1, d, hl, h, hd => by
    have ih := cntN_set (l := l) (i := i) (d := d) (by simpa using hl) (by simpa using h) hd
    simp only [cntN, List.set_cons_succ, List.filter_cons] at ih ⊢
    split <;> simp only [List.length_cons] at * <;> omega

theorem getD_set_ne {l : List Int} {i j : Nat} {d z : Int} (h : i ≠ j) : (l.set i d).getD j z = l.getD j z := by
  simp [List.getD_eq_getElem?_getD, List.getElem?_set_ne h]

theorem getD_set_eq {l : List Int} {i : Nat} {d z : Int} (h : i < l.length) : (l.set i d).getD i z = d := by
  simp [List.getD_eq_getElem?_getD, h]

section
variable {g : List EDg} {p : Int → Bool} {d : Int}
theorem foldl_inv {α σ : Type} {f : σ → α → σ} {I : σ → Prop} : ∀ (l : List α) (s : σ), I s → (∀ x ∈ l, ∀ s, I s → I (f s x)) → I (l.foldl f s)
  | [], s, h, _ => h
  | x :: l, s, h, hs => foldl_inv l (f s x) (hs x (List.mem_cons_self ..) s h) fun y hy => hs y (List.mem_cons_of_mem _ hy)
theorem sw_len (far : List Int) : (sw g p d far).1.length = far.length := by
  refine foldl_inv (I := fun s : List Int × List Int => s.1.length = far.length) g (far, []) rfl fun e _ s h => ?_
  unfold swS; split
  · simpa using h
  · exact h
theorem sw_cnt (hd : 0 ≤ d) {far : List Int} (h10 : far.length = 10) (hg : ∀ e ∈ g, edIn e) : cntN (sw g p d far).1 + (sw g p d far).2.length = cntN far ∧ (sw g p d far).1.getD 0 0 = far.getD 0 0 := by
  have := foldl_inv (f := swS p d) (I := fun s : List Int × List Int => s.1.length = 10 ∧ cntN s.1 + s.2.length = cntN far ∧ s.1.getD 0 0 = far.getD 0 0) g (far, []) ⟨h10, by simp, rfl⟩ (fun e he s ⟨h1, h2, h3⟩ => by
    obtain ⟨a1, a2, _, _⟩ := hg e he
    unfold swS; split
    · rename_i hc
      have hi : e.1.toNat < s.1.length := by omega
      have := cntN_set hi hc.2 hd
      refine ⟨by simpa using h1, by simp; omega, ?_⟩
      rw [getD_set_ne (by omega)]; exact h3
    · exact ⟨h1, h2, h3⟩)
  exact this.2
theorem sw_nil {far : List Int} (h : (sw g p d far).2 = []) : (sw g p d far).1 = far := by
  have := foldl_inv (f := swS p d) (I := fun s : List Int × List Int => s.2 = [] → s.1 = far) g (far, []) (fun _ => rfl) (fun e he s h1 => by
    unfold swS; split
    · intro h; simp at h
    · exact h1)
  exact this h
theorem sw_none {far : List Int} (h : ∀ x, p x = false) : sw g p d far = (far, []) := by
  refine foldl_inv (f := swS p d) (I := fun s : List Int × List Int => s = (far, [])) g (far, []) rfl fun e _ s h1 => ?_
  unfold swS; rw [if_neg (by simp [h])]; exact h1
theorem sw_mem (hd : 0 ≤ d) {far : List Int} (h10 : far.length = 10) (hg : ∀ e ∈ g, edIn e) (hno : ∀ x : Int, far.getD x.toNat 0 ≠ d ∨ x < 1 ∨ 9 < x) : ∀ x : Int, 1 ≤ x → x ≤ 9 → ((sw g p d far).2.contains x = ((sw g p d far).1.getD x.toNat 0 == d)) := by
  have := foldl_inv (f := swS p d) (I := fun s : List Int × List Int => s.1.length = 10 ∧ ∀ x : Int, 1 ≤ x → x ≤ 9 → (s.2.contains x = (s.1.getD x.toNat 0 == d))) g (far, []) ⟨h10, fun x h1 h2 => by
      rcases hno x with h | h | h
      · have : (far.getD x.toNat 0 == d) = false := by simpa using h
        rw [this]; rfl
      · omega
      · omega⟩ (fun e he s ⟨h1, h2⟩ => by
    obtain ⟨a1, a2, _, _⟩ := hg e he
    unfold swS; split
    · rename_i hc
      refine ⟨by simpa using h1, fun x k1 k2 => ?_⟩
      by_cases hx : x = e.1
      · subst hx
        rw [getD_set_eq (by omega)]; simp
      · rw [getD_set_ne (by omega)]
        simp only [List.contains_append, h2 x k1 k2]
        have : ([e.1].contains x) = false := by simp [hx]
        rw [this, Bool.or_false]
    · exact ⟨h1, h2⟩)
  exact this.2
/-- The test on the numbers as they stand is that on the numbers before. -/
theorem sw_same {to : Int} {far : List Int} {q : List Int → Int → Bool} (h10 : far.length = 10) (hg : ∀ e ∈ g, edIn e) (hq : ∀ (s : List Int), s.length = 10 → (∀ x : Int, 1 ≤ x → x ≤ 9 → (s.getD x.toNat 0 = far.getD x.toNat 0 ∨ (far.getD x.toNat 0 < 0 ∧ s.getD x.toNat 0 = d))) → ∀ x : Int, 1 ≤ x → x ≤ 9 → q s x = p x) :
    g.foldl (fun (s : List Int) (e : EDg) => if s.getD e.1.toNat 0 < 0 ∧ q s e.2.1 = true then s.set e.1.toNat d else s) far = (sw g p d far).1 := by
  have key : ∀ (l : List EDg) (s : List Int × List Int), (∀ e ∈ l, edIn e) → s.1.length = 10 → (∀ x : Int, 1 ≤ x → x ≤ 9 → (s.1.getD x.toNat 0 = far.getD x.toNat 0 ∨ (far.getD x.toNat 0 < 0 ∧ s.1.getD x.toNat 0 = d))) →
      l.foldl (fun (s : List Int) (e : EDg) => if s.getD e.1.toNat 0 < 0 ∧ q s e.2.1 = true then s.set e.1.toNat d else s) s.1 = (l.foldl (swS p d) s).1 := by
    intro l
    induction l with
    | nil => intro s _ _ _; rfl
    | cons e l ih =>
      intro s hl h1 h2
      obtain ⟨a1, a2, a3, a4⟩ := hl e (List.mem_cons_self ..)
      simp only [List.foldl_cons]
      have hqq := hq s.1 h1 h2 e.2.1 a3 a4
      by_cases hc : p e.2.1 = true ∧ s.1.getD e.1.toNat 0 < 0
      · rw [if_pos ⟨hc.2, by rw [hqq]; exact hc.1⟩]
        have e1 : swS p d s e = (s.1.set e.1.toNat d, s.2 ++ [e.1]) := by unfold swS; rw [if_pos hc]
        rw [e1]
        refine ih (s.1.set e.1.toNat d, s.2 ++ [e.1]) (fun x hx => hl x (List.mem_cons_of_mem _ hx)) (by simpa using h1) (fun x k1 k2 => ?_)
        by_cases hx : x = e.1
        · subst hx
          right
          refine ⟨?_, getD_set_eq (by omega)⟩
          rcases h2 _ k1 k2 with h3 | h3
          · rw [← h3]; exact hc.2
          · exact h3.1
        · show (s.1.set e.1.toNat d).getD _ _ = _ ∨ _
          rw [getD_set_ne (by omega)]; exact h2 x k1 k2
      · rw [if_neg (fun h => hc ⟨by rw [← hqq]; exact h.2, h.1⟩)]
        have e1 : swS p d s e = s := by unfold swS; rw [if_neg hc]
        rw [e1]
        exact ih s (fun x hx => hl x (List.mem_cons_of_mem _ hx)) h1 h2
  exact key g (far, []) hg h10 (fun x _ _ => .inl rfl)
end

theorem iter_fold {α σ τ ρ : Type} {B : τ → Option (τ ⊕ ρ)} {l : List α} (st : σ → Nat → τ) (f : σ → α → σ) (J : Nat → σ → Prop) {s0 : σ} (h0 : J 0 s0)
    (hB : ∀ i (h : i < l.length) s, J i s → B (st s i) = some (.inl (st (f s l[i]) (i + 1))) ∧ J (i + 1) (f s l[i])) {r : σ → ρ} (hend : ∀ s, J l.length s → B (st s l.length) = some (.inr (r s))) {t0 : τ} (ht : t0 = st s0 0) : iter B t0 = some (r (l.foldl f s0)) := by
  subst ht
  have key : ∀ m i : Nat, i + m = l.length → ∀ s, J i s → iter B (st s i) = some (r ((l.drop i).foldl f s)) := by
    intro m
    induction m with
    | zero =>
      intro i hi s hs
      obtain rfl : i = l.length := by omega
      rw [iter_eq, hend s hs]; simp
    | succ m ih =>
      intro i hi s hs
      have h : i < l.length := by omega
      obtain ⟨h1, h2⟩ := hB i h s hs
      rw [iter_eq, h1, List.drop_eq_getElem_cons h]
      simp only [Option.bind_some]
      rw [ih (i + 1) (by omega) _ h2]; rfl
  have := key l.length 0 (by omega) s0 h0
  simpa using this

/-- The same without a condition on the states. -/
theorem iter_fold' {α σ τ ρ : Type} {B : τ → Option (τ ⊕ ρ)} {l : List α} (st : σ → Nat → τ) (f : σ → α → σ) {s0 : σ}
    (hB : ∀ i (h : i < l.length) s, B (st s i) = some (.inl (st (f s l[i]) (i + 1)))) {r : σ → ρ} (hend : ∀ s, B (st s l.length) = some (.inr (r s))) {t0 : τ} (ht : t0 = st s0 0) : iter B t0 = some (r (l.foldl f s0)) :=
  iter_fold st f (fun _ _ => True) trivial (fun i h s _ => ⟨hB i h s, trivial⟩) (fun s _ => hend s) ht

/-- A loop that looks for the first element with a property. -/
theorem iter_first {α τ ρ : Type} {B : τ → Option (τ ⊕ ρ)} {l : List α} (st : Nat → τ) (p : α → Bool) {fd : Nat → ρ} {no : ρ}
    (hB : ∀ i (h : i < l.length), B (st i) = some (if p l[i] = true then .inr (fd i) else .inl (st (i + 1)))) (hend : B (st l.length) = some (.inr no)) {t0 : τ} (ht : t0 = st 0) :
    iter B t0 = some (match l.findIdx? p with | some i => fd i | none => no) := by
  subst ht
  have key : ∀ m i : Nat, i + m = l.length → iter B (st i) = some (match (l.drop i).findIdx? p with | some j => fd (i + j) | none => no) := by
    intro m
    induction m with
    | zero =>
      intro i hi
      obtain rfl : i = l.length := by omega
      rw [iter_eq, hend]; simp
    | succ m ih =>
      intro i hi
      have h : i < l.length := by omega
      rw [iter_eq, hB i h, List.drop_eq_getElem_cons h, List.findIdx?_cons]
      by_cases hp : p l[i] = true
      · simp [hp]
      · simp only [hp, if_false, Option.bind_some, Bool.false_eq_true]
        rw [ih (i + 1) (by omega)]
        cases (l.drop (i + 1)).findIdx? p with
        | none => rfl
        | some j => simp only [Option.map_some]; congr 2; omega
  have := key l.length 0 (by omega)
  simpa using this

theorem findIdx_any {α : Type} (l : List α) (p : α → Bool) : (l.findIdx? p).isSome = l.any p := by
  induction l with
  | nil => rfl
  | cons a l ih =>
    rw [List.findIdx?_cons, List.any_cons]
    cases p a with
    | true => rfl
    | false => simp [ih]

theorem findIdx_get {α : Type} {l : List α} {p : α → Bool} {i : Nat} (h : l.findIdx? p = some i) : ∃ hi : i < l.length, p l[i] = true ∧ ∀ j (hj : j < i), p (l[j]'(by omega)) = false := by
  induction l generalizing i with
  | nil => simp at h
  | cons a l ih =>
    rw [List.findIdx?_cons] at h
    cases hp : p a with
    | true => simp [hp] at h; subst h; exact ⟨by simp, hp, fun j hj => absurd hj (Nat.not_lt_zero _)⟩
    | false =>
      simp only [hp, Bool.false_eq_true, if_false, Option.map_eq_some_iff] at h
      obtain ⟨k, h1, rfl⟩ := h
      obtain ⟨hi, h2, h3⟩ := ih h1
      refine ⟨by simpa using hi, by simpa using h2, fun j hj => ?_⟩
      cases j with
      | zero => exact hp
      | succ j => simpa using h3 j (by omega)

theorem fx_ge (o : Option Nat) : decide (fx o ≥ 0) = o.isSome := by
  cases o with
  | none => rfl
  | some i => simp [fx]

theorem p_ix_impl_FindEntry_1 {l : List _} (hl : l.length ≤ 1048576) (c : _) {p : _ → Bool} (hc : ∀ x ∈ l, impl_FindEntry_1_S (x, c) = some (p x, ())) : slices_IndexFunc__impl_FindEntry_1_S (l, c, ()) = some (fx (l.findIdx? p), ()) := by
  unfold slices_IndexFunc__impl_FindEntry_1_S
  refine find_loop hl (p := p) (fun i h => ?_) ?_
  · unfold slices_IndexFunc__impl_FindEntry_1_D2
    have e := hc _ (List.getElem_mem h)
    simp only [lAt_nat h, Option.bind_some]
    rw [decide_eq_true (by omega), wrap_succ h (by omega)]
    simp only [cond_true]
    erw [e]
    simp only [Option.bind_some]
    cases p l[i] <;> rfl
  · unfold slices_IndexFunc__impl_FindEntry_1_D2
    simp only
    rw [decide_eq_false (by omega)]; rfl

theorem p_ix_impl_Entry_writes_1 {l : List _} (hl : l.length ≤ 1048576) (c : _) {p : _ → Bool} (hc : ∀ x ∈ l, impl_Entry_writes_1_S (x, c) = some (p x, ())) : slices_IndexFunc__impl_Entry_writes_1_S (l, c, ()) = some (fx (l.findIdx? p), ()) := by
  unfold slices_IndexFunc__impl_Entry_writes_1_S
  refine find_loop hl (p := p) (fun i h => ?_) ?_
  · unfold slices_IndexFunc__impl_Entry_writes_1_D2
    have e := hc _ (List.getElem_mem h)
    simp only [lAt_nat h, Option.bind_some]
    rw [decide_eq_true (by omega), wrap_succ h (by omega)]
    simp only [cond_true]
    erw [e]
    simp only [Option.bind_some]
    cases p l[i] <;> rfl
  · unfold slices_IndexFunc__impl_Entry_writes_1_D2
    simp only
    rw [decide_eq_false (by omega)]; rfl

theorem p_cf_impl_Entry_writes_1 {l : List _} (hl : l.length ≤ 1048576) (c : _) {p : _ → Bool} (hc : ∀ x ∈ l, impl_Entry_writes_1_S (x, c) = some (p x, ())) : slices_ContainsFunc__impl_Entry_writes_1_S (l, c, ()) = some (l.any p, ()) := by
  unfold slices_ContainsFunc__impl_Entry_writes_1_S
  have e := p_ix_impl_Entry_writes_1 hl c hc
  erw [e]
  simp only [Option.bind_some, fx_any]

theorem p_ix_impl_ClassifyCycle_2 {l : List _} (hl : l.length ≤ 1048576) (c : _) {p : _ → Bool} (hc : ∀ x ∈ l, impl_ClassifyCycle_2_S (x, c) = some (p x, ())) : slices_IndexFunc__impl_ClassifyCycle_2_S (l, c, ()) = some (fx (l.findIdx? p), ()) := by
  unfold slices_IndexFunc__impl_ClassifyCycle_2_S
  refine find_loop hl (p := p) (fun i h => ?_) ?_
  · unfold slices_IndexFunc__impl_ClassifyCycle_2_D2
    have e := hc _ (List.getElem_mem h)
    simp only [lAt_nat h, Option.bind_some]
    rw [decide_eq_true (by omega), wrap_succ h (by omega)]
    simp only [cond_true]
    erw [e]
    simp only [Option.bind_some]
    cases p l[i] <;> rfl
  · unfold slices_IndexFunc__impl_ClassifyCycle_2_D2
    simp only
    rw [decide_eq_false (by omega)]; rfl

theorem p_cf_impl_ClassifyCycle_2 {l : List _} (hl : l.length ≤ 1048576) (c : _) {p : _ → Bool} (hc : ∀ x ∈ l, impl_ClassifyCycle_2_S (x, c) = some (p x, ())) : slices_ContainsFunc__impl_ClassifyCycle_2_S (l, c, ()) = some (l.any p, ()) := by
  unfold slices_ContainsFunc__impl_ClassifyCycle_2_S
  have e := p_ix_impl_ClassifyCycle_2 hl c hc
  erw [e]
  simp only [Option.bind_some, fx_any]

theorem p_ix_impl_ClassifyCycle_4 {l : List _} (hl : l.length ≤ 1048576) (c : _) {p : _ → Bool} (hc : ∀ x ∈ l, impl_ClassifyCycle_4_S (x, c) = some (p x, ())) : slices_IndexFunc__impl_ClassifyCycle_4_S (l, c, ()) = some (fx (l.findIdx? p), ()) := by
  unfold slices_IndexFunc__impl_ClassifyCycle_4_S
  refine find_loop hl (p := p) (fun i h => ?_) ?_
  · unfold slices_IndexFunc__impl_ClassifyCycle_4_D2
    have e := hc _ (List.getElem_mem h)
    simp only [lAt_nat h, Option.bind_some]
    rw [decide_eq_true (by omega), wrap_succ h (by omega)]
    simp only [cond_true]
    erw [e]
    simp only [Option.bind_some]
    cases p l[i] <;> rfl
  · unfold slices_IndexFunc__impl_ClassifyCycle_4_D2
    simp only
    rw [decide_eq_false (by omega)]; rfl

theorem p_cf_impl_ClassifyCycle_4 {l : List _} (hl : l.length ≤ 1048576) (c : _) {p : _ → Bool} (hc : ∀ x ∈ l, impl_ClassifyCycle_4_S (x, c) = some (p x, ())) : slices_ContainsFunc__impl_ClassifyCycle_4_S (l, c, ()) = some (l.any p, ()) := by
  unfold slices_ContainsFunc__impl_ClassifyCycle_4_S
  have e := p_ix_impl_ClassifyCycle_4 hl c hc
  erw [e]
  simp only [Option.bind_some, fx_any]

abbrev EN := Int × Int × List VM × List VM × Unit

def smE (e : EN) : Prop := e.2.2.1.length ≤ 1048576 ∧ e.2.2.2.1.length ≤ 1048576

def smEs (l : List EN) : Prop := l.length ≤ 1048576 ∧ ∀ e ∈ l, smE e

theorem smEs.at {l : List EN} (h : smEs l) {i : Nat} (hi : i < l.length) : smE l[i] := h.2 _ (List.getElem_mem hi)

/-- Does it write this key? -/
def wrt (key : Int) (e : EN) : Bool := e.2.2.2.1.any fun m => m.1 == key

theorem p_writes {e : EN} (h : smE e) (key : Int) : impl_Entry_writes_S ((e.1, e.2.1, e.2.2.1, e.2.2.2.1, ()), key, ()) = some (wrt key e, ()) := by
  unfold impl_Entry_writes_S
  have e1 := p_cf_impl_Entry_writes_1 h.2 (some key, ()) (p := fun m => m.1 == key) (fun m _ => rfl)
  simp only [e1, Option.bind_some]; rfl

def feI (l : List EN) (id : Int) : Option Nat := l.findIdx? fun e => e.1 == id

theorem p_implFE {l : List EN} (hl : l.length ≤ 1048576) (id : Int) : impl_FindEntry_S (l, id, ()) = some (fx (feI l id), ()) := by
  unfold impl_FindEntry_S
  have e1 := p_ix_impl_FindEntry_1 hl (some id, ()) (p := fun e => e.1 == id) (fun m _ => rfl)
  simp only [e1, Option.bind_some]; rfl

theorem p_specFE {l : List EN} (hl : l.length ≤ 1048576) (id : Int) : spec_FindEntry_S (l, id, ()) = some (fx (feI l id), ()) := by
  unfold spec_FindEntry_S
  refine find_loop hl (p := fun e => e.1 == id) (fun i h => ?_) ?_
  · unfold spec_FindEntry_D2
    simp only [lAt_nat h, Option.bind_some]
    rw [decide_eq_true (by omega), wrap_succ h (by omega)]
    simp only [cond_true]
    cases (l[i].1 == id : Bool) <;> rfl
  · unfold spec_FindEntry_D2
    simp only
    rw [decide_eq_false (by omega)]; rfl

/-- Who wrote the version? -/
def isW (key cr : Int) (e : EN) : Bool := e.2.1 == cr && wrt key e

def wrOf (l : List EN) (key cr : Int) : Int := match l.find? (isW key cr) with | some e => e.1 | none => 0

theorem p_implWO {l : List EN} (hl : smEs l) (key cr : Int) : impl_WriterOf_S (l, (key, cr, ()), ()) = some (wrOf l key cr, ()) := by
  unfold impl_WriterOf_S wrOf
  have e := first_loop (l := l) (p := isW key cr) (B := fun v => impl_WriterOf_D2 (l, ((l.length : Nat) : Int), key, cr, ()) v _ some) (k := fun p => sumC p (fun p => some (p.1, ())) fun p => some (0, ())) (yes := fun e => some (e.1, ())) (no := some (0, ())) (fun i h => by
    have hs := hl.1
    have hw := p_writes (hl.at h) key
    unfold impl_WriterOf_D2 isW
    simp only [lAt_nat h, Option.bind_some]
    rw [decide_eq_true (by omega), wrap_succ h (by omega)]
    simp only [cond_true, hw, Option.bind_some]
    cases (l[i].2.1 == cr : Bool) <;> cases wrt key l[i] <;> simp [sumC]) (by
    unfold impl_WriterOf_D2
    simp only
    rw [decide_eq_false (by omega)]; exact ⟨_, rfl, rfl⟩)
  rw [e]
  cases l.find? (isW key cr) <;> rfl

theorem p_specWO {l : List EN} (hl : smEs l) (key cr : Int) : spec_WriterOf_S (l, (key, cr, ()), ()) = some (wrOf l key cr, ()) := by
  unfold spec_WriterOf_S wrOf
  have e := first_loop (l := l) (p := isW key cr) (B := fun v => spec_WriterOf_D2 (l, key, cr, ()) v _ some) (k := fun p => sumC p (fun p => some (p.1, ())) fun p => some (0, ())) (yes := fun e => some (e.1, ())) (no := some (0, ())) (fun i h => by
    have hs := hl.1
    have h2 := (hl.at h).2
    have e3 := iter_first (l := l[i].2.2.2.1) (B := fun v => spec_WriterOf_D5 (l, (i : Int), key, cr, ()) v _ some) (fun j => ((j : Int), ())) (fun m => l[i].2.1 == cr && m.1 == key) (fd := fun _ => Sum.inl (l[i].1, ())) (no := Sum.inr ()) (fun j hj => by
      unfold spec_WriterOf_D5
      simp only [lAt_nat h, lAt_nat hj, Option.bind_some]
      rw [decide_eq_true (by omega), wrap_succ hj (by omega)]
      simp only [cond_true]
      cases (l[i].2.1 == cr : Bool) <;> cases (l[i].2.2.2.1[j].1 == key : Bool) <;> simp) (by
      unfold spec_WriterOf_D5
      simp only [lAt_nat h, Option.bind_some]
      rw [decide_eq_false (by omega)]; rfl) (t0 := (0, ())) rfl
    unfold spec_WriterOf_D2
    simp only
    rw [decide_eq_true (by omega), wrap_succ h (by omega)]
    simp only [cond_true, e3, Option.bind_some]
    have hw := findIdx_any l[i].2.2.2.1 (fun m => l[i].2.1 == cr && m.1 == key)
    have hw2 : (l[i].2.2.2.1.any fun m => l[i].2.1 == cr && m.1 == key) = isW key cr l[i] := by
      unfold isW wrt
      cases (l[i].2.1 == cr : Bool) <;> simp
    rw [hw2] at hw
    revert hw
    cases l[i].2.2.2.1.findIdx? (fun m => l[i].2.1 == cr && m.1 == key) with
    | none => intro hw; rw [← hw]; simp [sumC]
    | some j => intro hw; rw [← hw]; simp [sumC]) (by
    unfold spec_WriterOf_D2
    simp only
    rw [decide_eq_false (by omega)]; exact ⟨_, rfl, rfl⟩)
  rw [e]
  cases l.find? (isW key cr) <;> rfl

/-- The first of the later writers with the least stamp. -/
def nwS (key after : Int) (s : Option EN) (e : EN) : Option EN :=
  if e.2.1 > after ∧ wrt key e = true then (match s with | none => some e | some b => if e.2.1 < b.2.1 then some e else some b) else s

def nwOf (l : List EN) (key after : Int) : Int := match l.foldl (nwS key after) none with | some e => e.1 | none => 0

theorem p_implNW {l : List EN} (hl : smEs l) (key after : Int) : impl_NextWriter_S (l, key, after, ()) = some (nwOf l key after, ()) := by
  unfold impl_NextWriter_S nwOf
  have e := iter_fold' (l := l) (B := fun v => impl_NextWriter_D3 (key, after, l, ((l.length : Nat) : Int), ()) v _ some) (fun (s : Option EN) (i : Nat) => ((match s with | some e => e.1 | none => 0), (match s with | some e => e.2.1 | none => 0), s.isSome, (i : Int), ())) (nwS key after) (s0 := none) (fun i h s => by
    have hs := hl.1
    have hw := p_writes (hl.at h) key
    unfold impl_NextWriter_D3 nwS
    simp only [lAt_nat h, Option.bind_some]
    rw [decide_eq_true (by omega), wrap_succ h (by omega)]
    simp only [cond_true, hw, Option.bind_some]
    by_cases h1 : l[i].2.1 > after
    · cases hk : wrt key l[i]
      · simp [h1]
      · cases s with
        | none => simp [h1]
        | some b => by_cases h2 : l[i].2.1 < b.2.1 <;> simp [h1, h2]
    · simp [h1]) (r := fun s => ((match s with | some e => e.1 | none => 0), ())) (fun s => by
    unfold impl_NextWriter_D3
    simp only
    rw [decide_eq_false (by omega)]; rfl) (t0 := (0, 0, false, 0, ())) rfl
  rw [e]; rfl

theorem nwS_idem (key after : Int) (s : Option EN) (e : EN) (h : e.2.1 > after) (hw : wrt key e = true) (hb : ∃ b, s = some b ∧ b.2.1 ≤ e.2.1) : nwS key after s e = s := by
  obtain ⟨b, rfl, hb⟩ := hb
  unfold nwS
  rw [if_pos ⟨h, hw⟩]
  simp only
  rw [if_neg (by omega)]

/-- The place of the best so far. -/
def atI (l : List EN) (s : Option EN) (n : Int) : Prop := match s with
  | none => n = -1
  | some b => ∃ j : Nat, ∃ h : j < l.length, n = (j : Int) ∧ l[j] = b

theorem p_specNW {l : List EN} (hl : smEs l) (key after : Int) : spec_NextWriter_S (l, key, after, ()) = some (nwOf l key after, ()) := by
  unfold spec_NextWriter_S nwOf
  have hs := hl.1
  have inner : ∀ i (h : i < l.length) (s : Option EN) (n : Int), atI l s n → ∃ n', iter (fun v_1 => spec_NextWriter_D6 (l, key, after, (i : Int), ()) v_1 _ some) (n, 0, ()) = some (n', ()) ∧ atI l (nwS key after s l[i]) n' := by
    intro i h s n hn
    have h2 := (hl.at h).2
    have key2 : ∀ m j : Nat, j + m = l[i].2.2.2.1.length → ∀ (s : Option EN) (n : Int), atI l s n → ∃ n', iter (fun v_1 => spec_NextWriter_D6 (l, key, after, (i : Int), ()) v_1 _ some) (n, (j : Int), ()) = some (n', ()) ∧ atI l (if (l[i].2.2.2.1.drop j).any (fun m => m.1 == key) = true ∧ l[i].2.1 > after then nwS key after s l[i] else s) n' := by
      intro m
      induction m with
      | zero =>
        intro j hj s n hn
        obtain rfl : j = l[i].2.2.2.1.length := by omega
        refine ⟨n, ?_, ?_⟩
        · rw [iter_eq]
          unfold spec_NextWriter_D6
          simp only [lAt_nat h, Option.bind_some]
          rw [decide_eq_false (by omega)]; rfl
        · simpa using hn
      | succ m ih =>
        intro j hj s n hn
        have hjl : j < l[i].2.2.2.1.length := by omega
        -- one step
        have step : ∃ n1, spec_NextWriter_D6 (l, key, after, (i : Int), ()) (n, (j : Int), ()) _ some = some (Sum.inl (n1, ((j + 1 : Nat) : Int), ())) ∧ atI l (if (l[i].2.2.2.1[j].1 == key) = true ∧ l[i].2.1 > after then nwS key after s l[i] else s) n1 := by
          unfold spec_NextWriter_D6
          simp only [lAt_nat h, lAt_nat hjl, Option.bind_some]
          rw [decide_eq_true (by omega), wrap_succ hjl (by omega)]
          simp only [cond_true]
          by_cases hk : (l[i].2.2.2.1[j].1 == key) = true
          · by_cases ha : l[i].2.1 > after
            · have hwk : wrt key l[i] = true := List.any_eq_true.2 ⟨_, List.getElem_mem hjl, hk⟩
              rw [if_pos ⟨hk, ha⟩]
              simp only [hk, cond_true, decide_eq_true ha]
              unfold nwS
              rw [if_pos ⟨ha, hwk⟩]
              cases s with
              | none =>
                obtain rfl : n = -1 := hn
                exact ⟨(i : Int), rfl, i, h, rfl, rfl⟩
              | some b =>
                obtain ⟨q, hq, rfl, rfl⟩ := hn
                rw [decide_eq_false (by omega)]
                simp only [cond_false, lAt_nat hq, Option.bind_some]
                by_cases hb : l[i].2.1 < l[q].2.1
                · simp only [decide_eq_true hb, cond_true, if_pos hb]
                  exact ⟨(i : Int), rfl, i, h, rfl, rfl⟩
                · simp only [decide_eq_false hb, cond_false, if_neg hb]
                  exact ⟨(q : Int), rfl, q, hq, rfl, rfl⟩
            · rw [if_neg (fun h => ha h.2)]
              simp only [hk, cond_true, decide_eq_false ha, cond_false]
              exact ⟨n, rfl, hn⟩
          · rw [if_neg (fun h => hk h.1)]
            simp only [hk, cond_false]
            exact ⟨n, rfl, hn⟩
        obtain ⟨n1, e1, hn1⟩ := step
        obtain ⟨n2, e2, hn2⟩ := ih (j + 1) (by omega) _ n1 hn1
        refine ⟨n2, ?_, ?_⟩
        · rw [iter_eq, e1]; exact e2
        · rw [List.drop_eq_getElem_cons hjl, List.any_cons]
          by_cases ha : l[i].2.1 > after
          · by_cases hk : (l[i].2.2.2.1[j].1 == key) = true
            · have hwk : wrt key l[i] = true := List.any_eq_true.2 ⟨_, List.getElem_mem hjl, hk⟩
              have hid : nwS key after (nwS key after s l[i]) l[i] = nwS key after s l[i] := by
                refine nwS_idem key after _ _ ha hwk ?_
                unfold nwS
                rw [if_pos ⟨ha, hwk⟩]
                cases s with
                | none => exact ⟨_, rfl, Int.le_refl _⟩
                | some b =>
                  simp only
                  split
                  · exact ⟨_, rfl, Int.le_refl _⟩
                  · exact ⟨_, rfl, by omega⟩
              simp only [hk, ha, and_self, if_true, hid, ite_self, Bool.true_or] at hn2 ⊢
              exact hn2
            · rw [Bool.not_eq_true] at hk
              simpa only [hk, ha, Bool.false_or, Bool.false_eq_true, false_and, if_false] using hn2
          · simpa [ha] using hn2
    obtain ⟨n', e1, h1⟩ := key2 _ 0 (Nat.zero_add _) s n hn
    refine ⟨n', e1, ?_⟩
    have : (if ((l[i].2.2.2.1.drop 0).any (fun m => m.1 == key)) = true ∧ l[i].2.1 > after then nwS key after s l[i] else s) = nwS key after s l[i] := by
      by_cases hc : ((l[i].2.2.2.1.drop 0).any (fun m => m.1 == key)) = true ∧ l[i].2.1 > after
      · rw [if_pos hc]
      · rw [if_neg hc]
        unfold nwS
        rw [if_neg]
        intro h3; exact hc ⟨by simpa [wrt] using h3.2, h3.1⟩
    rw [this] at h1; exact h1
  have outer : ∀ m i : Nat, i + m = l.length → ∀ (s : Option EN) (n : Int), atI l s n → ∃ n', iter (fun v => spec_NextWriter_D3 (l, key, after, ()) v _ some) (n, (i : Int), ()) = some (n', ()) ∧ atI l ((l.drop i).foldl (nwS key after) s) n' := by
    intro m
    induction m with
    | zero =>
      intro i hi s n hn
      obtain rfl : i = l.length := by omega
      refine ⟨n, ?_, by simpa using hn⟩
      rw [iter_eq]
      unfold spec_NextWriter_D3
      simp only
      rw [decide_eq_false (by omega)]; rfl
    | succ m ih =>
      intro i hi s n hn
      have h : i < l.length := by omega
      obtain ⟨n1, e1, hn1⟩ := inner i h s n hn
      obtain ⟨n2, e2, hn2⟩ := ih (i + 1) (by omega) _ n1 hn1
      refine ⟨n2, ?_, ?_⟩
      · rw [iter_eq]
        unfold spec_NextWriter_D3
        simp only
        rw [decide_eq_true (by omega), wrap_succ h (by omega)]
        simp only [cond_true, e1, Option.bind_some]
        exact e2
      · rw [List.drop_eq_getElem_cons h]; exact hn2
  obtain ⟨n, e, hn⟩ := outer _ 0 (Nat.zero_add _) none (-1) rfl
  have e' : iter (fun v => spec_NextWriter_D3 (l, key, after, ()) v _ some) (-1, 0, ()) = some (n, ()) := e
  rw [e']
  simp only [Option.bind_some]
  rw [List.drop_zero] at hn
  revert hn
  cases l.foldl (nwS key after) none with
  | none => intro hn; obtain rfl : n = -1 := hn; rfl
  | some b =>
    rintro ⟨q, hq, rfl, rfl⟩
    rw [decide_eq_false (by omega)]
    simp only [cond_false, lAt_nat hq, Option.bind_some]

theorem all_iter {ρ : Type} {B : Int × Unit → Option ((Int × Unit) ⊕ ρ)} {n : Nat} {c : Nat → Prop} {Bad : ρ → Prop} {fin : ρ}
    (hB : ∀ i, i < n → (c i → B ((i : Int), ()) = some (.inl (((i + 1 : Nat) : Int), ()))) ∧ (¬ c i → ∃ r, B ((i : Int), ()) = some (.inr r) ∧ Bad r)) (hend : B ((n : Int), ()) = some (.inr fin)) :
    ((∀ i, i < n → c i) → iter B (0, ()) = some fin) ∧ (¬ (∀ i, i < n → c i) → ∃ r, iter B (0, ()) = some r ∧ Bad r) := by
  constructor
  · intro hc
    exact iter_up' n (fun i => ((i : Int), ())) rfl (fun i hi => (hB i hi).1 (hc i hi)) hend
  · intro hc
    have key : ∀ m i : Nat, i + m = n → (¬ ∀ j, i ≤ j → j < n → c j) → ∃ r, iter B ((i : Int), ()) = some r ∧ Bad r := by
      intro m
      induction m with
      | zero =>
        intro i hi h
        exact absurd (fun j h1 h2 => by omega) h
      | succ m ih =>
        intro i hi h
        by_cases hci : c i
        · rw [iter_eq, (hB i (by omega)).1 hci]
          refine ih (i + 1) (by omega) fun h' => h fun j h1 h2 => ?_
          by_cases e : j = i
          · rw [e]; exact hci
          · exact h' j (by omega) h2
        · obtain ⟨r, h1, h2⟩ := (hB i (by omega)).2 hci
          exact ⟨r, by rw [iter_eq, h1]; rfl, h2⟩
    exact key n 0 (Nat.zero_add _) fun h => hc fun i hi => h i (Nat.zero_le _) hi

noncomputable def okEn (e : EN) : Bool := okT e.1 1 2 0 0 1000 e.2.1 e.2.2.1 e.2.2.2.1

theorem p_isEntry {e : EN} (h : smE e) : impl_isEntry_S ((e.1, e.2.1, e.2.2.1, e.2.2.2.1, ()), ()) = some (okEn e, ()) := by
  unfold impl_isEntry_S impl_IsStamp_S okEn okT
  simp only [p_isID, p_implIn, p_implReads h.1, p_implWrites h.2, Option.bind_some]
  rcases Bool.eq_false_or_eq_true (inB e.1 1 9) with h1 | h1
  · have hin : ((((2 : Int) == 2) == decide (e.2.1 > 0)) && inB e.2.1 0 999) = inB e.2.1 1 999 := by
      unfold inB
      rw [Bool.eq_iff_iff]; simp; omega
    have hk : inB (1 : Int) 1 4 = true ∧ inB (0 : Int) 0 999 = true ∧ inB (2 : Int) 1 3 = true ∧ inB (1000 : Int) 1 1000 = true := by decide
    rw [h1, hk.1, hk.2.1, hk.2.2.1, hk.2.2.2, ← hin]
    cases (((2 : Int) == 2) == decide (e.2.1 > 0)) <;> cases inB e.2.1 0 999 <;> cases dec (okRd e.2.2.1) <;> cases dec (okWr e.2.2.2.1) <;> cases decide (e.2.2.1.length ≤ 60) <;> rfl
  · rw [h1]; simp

/-- One entry against those before it. -/
def hC (l : List EN) (i : Nat) : Prop := ∃ h : i < l.length, okEn l[i] = true ∧ feI l l[i].1 = some i ∧ ∀ h2 : 0 < i, (l[i - 1]'(by omega)).2.1 ≤ l[i].2.1 ∧ (l[i].2.1 = (l[i - 1]'(by omega)).2.1 → l[i].2.2.2.1.length = 0)

def mC (l : List EN) (id : Int) (m : VM) : Prop := wrOf l m.1 m.2.1 ≠ id ∧ (m.2.1 > 0 → wrOf l m.1 m.2.1 ≠ 0)

def rC (l : List EN) (i : Nat) : Prop := ∃ h : i < l.length, ∀ j, (hj : j < l[i].2.2.1.length) → mC l l[i].1 l[i].2.2.1[j]

def okH (l : List EN) : Prop := l.length ≤ 9 ∧ (∀ i, i < l.length → hC l i) ∧ ∀ i, i < l.length → rC l i

theorem fe_take {l : List EN} {i : Nat} (h : i < l.length) : feI l l[i].1 = some i ↔ feI (l.take i) l[i].1 = none := by
  unfold feI
  rw [List.findIdx?_eq_some_iff_getElem, List.findIdx?_eq_none_iff]
  constructor
  · rintro ⟨_, _, h3⟩ x hx
    obtain ⟨j, hj, rfl⟩ := List.mem_iff_getElem.1 hx
    have hj' : j < i := by simp at hj; omega
    rw [List.getElem_take]
    simpa using h3 j hj'
  · intro h3
    refine ⟨h, by simp, fun j hj => ?_⟩
    have := h3 l[j] (List.mem_iff_getElem.2 ⟨j, by simp; omega, by simp⟩)
    simpa using this

theorem fx_some (o : Option Nat) (i : Nat) : (fx o = (i : Int)) ↔ o = some i := by
  cases o with
  | none => simp [fx]
  | some j => simp only [fx, Option.some.injEq]; omega

theorem slAt0 {α : Type} {l : List α} {i : Nat} (h : i ≤ l.length) : slAt l 0 (i : Int) = some (l.take i) := by
  unfold slAt
  rw [if_pos (by omega)]; simp

theorem mC_step {l : List EN} {e : EN} {j : Nat} (hj : j < e.2.2.1.length) {σ : Type} {nx : σ} :
    ((∀ hj : j < e.2.2.1.length, mC l e.1 e.2.2.1[j]) → (bif wrOf l e.2.2.1[j].1 e.2.2.1[j].2.1 == e.1 then some (Sum.inr (Sum.inl (e.2.2.1[j].1, e.2.2.1[j].2.1, ()))) else bif decide (e.2.2.1[j].2.1 > 0) then bif wrOf l e.2.2.1[j].1 e.2.2.1[j].2.1 == 0 then some (Sum.inr (Sum.inr (Sum.inl (e.2.2.1[j].1, e.2.2.1[j].2.1, ())))) else some (Sum.inl nx) else some (Sum.inl nx) : Option (σ ⊕ VM ⊕ VM ⊕ Unit)) = some (.inl nx)) ∧
    ((¬ ∀ hj : j < e.2.2.1.length, mC l e.1 e.2.2.1[j]) → ∃ r, (bif wrOf l e.2.2.1[j].1 e.2.2.1[j].2.1 == e.1 then some (Sum.inr (Sum.inl (e.2.2.1[j].1, e.2.2.1[j].2.1, ()))) else bif decide (e.2.2.1[j].2.1 > 0) then bif wrOf l e.2.2.1[j].1 e.2.2.1[j].2.1 == 0 then some (Sum.inr (Sum.inr (Sum.inl (e.2.2.1[j].1, e.2.2.1[j].2.1, ())))) else some (Sum.inl nx) else some (Sum.inl nx) : Option (σ ⊕ VM ⊕ VM ⊕ Unit)) = some (.inr r) ∧ ((∃ a, r = .inl a) ∨ ∃ a, r = .inr (.inl a))) := by
  have h0 : (∀ hj : j < e.2.2.1.length, mC l e.1 e.2.2.1[j]) ↔ mC l e.1 e.2.2.1[j] := ⟨fun h => h hj, fun h _ => h⟩
  rw [h0]
  unfold mC
  by_cases h1 : wrOf l e.2.2.1[j].1 e.2.2.1[j].2.1 = e.1
  · rw [show (wrOf l e.2.2.1[j].1 e.2.2.1[j].2.1 == e.1) = true from by simpa using h1]
    exact ⟨fun h => absurd h1 h.1, fun _ => ⟨_, rfl, .inl ⟨_, rfl⟩⟩⟩
  · rw [show (wrOf l e.2.2.1[j].1 e.2.2.1[j].2.1 == e.1) = false from by simpa using h1]
    simp only [cond_false]
    by_cases h2 : e.2.2.1[j].2.1 > 0
    · rw [decide_eq_true h2]
      simp only [cond_true]
      by_cases h3 : wrOf l e.2.2.1[j].1 e.2.2.1[j].2.1 = 0
      · rw [show (wrOf l e.2.2.1[j].1 e.2.2.1[j].2.1 == 0) = true from by simpa using h3]
        exact ⟨fun h => absurd h3 (h.2 h2), fun _ => ⟨_, rfl, .inr ⟨_, rfl⟩⟩⟩
      · rw [show (wrOf l e.2.2.1[j].1 e.2.2.1[j].2.1 == 0) = false from by simpa using h3]
        exact ⟨fun _ => rfl, fun h => absurd ⟨h1, fun _ => h3⟩ h⟩
    · rw [decide_eq_false h2]
      exact ⟨fun _ => rfl, fun h => absurd ⟨h1, fun h => absurd h h2⟩ h⟩

theorem okH_fin {l : List EN} (h9 : l.length ≤ 9) : (bif dec (∀ i, i < l.length → hC l i) then bif dec (∀ i, i < l.length → rC l i) then some (true, ()) else some (false, ()) else some (false, ())) = some (dec (okH l), ()) := by
  by_cases h1 : ∀ i, i < l.length → hC l i
  · rw [dec_true h1]
    by_cases h2 : ∀ i, i < l.length → rC l i
    · rw [dec_true h2, dec_true (show okH l from ⟨h9, h1, h2⟩)]; rfl
    · rw [dec_false h2, dec_false (fun h : okH l => h2 h.2.2)]; rfl
  · rw [dec_false h1, dec_false (fun h : okH l => h1 h.2.1)]; rfl

theorem p_implH {l : List EN} (hl : smEs l) : impl_IsHistory_S (l, ()) = some (dec (okH l), ()) := by
  unfold impl_IsHistory_S
  have hs := hl.1
  by_cases h9 : l.length ≤ 9
  case neg =>
    simp only
    rw [decide_eq_true (by omega), dec_false (fun h => h9 h.1)]; rfl
  simp only
  rw [decide_eq_false (by omega)]
  simp only [cond_false]
  refine (all_loopK (n := l.length) (c := hC l) (no := some (false, ())) (X := bif dec (∀ i, i < l.length → rC l i) then some (true, ()) else some (false, ())) (fun i hi => ?_) ⟨.inr (.inr (.inr (.inr ()))), ?_, ?_⟩).trans ?_
  · have hm := hl.at hi
    unfold impl_IsHistory_D4
    simp only [lAt_nat hi, Option.bind_some, p_isEntry hm, p_implFE hs]
    rw [decide_eq_true (by omega)]
    simp only [cond_true]
    cases h1 : okEn l[i] with
    | false => exact ⟨fun ⟨_, h, _⟩ => (by rw [h1] at h; cases h), fun _ => ⟨_, rfl, rfl⟩⟩
    | true =>
      simp only [Bool.not_true, cond_false]
      by_cases h2 : feI l l[i].1 = some i
      case neg =>
        rw [show (fx (feI l l[i].1) != (i : Int)) = true from by rw [ne_int]; simp [fx_some, h2]]
        exact ⟨fun ⟨_, _, h, _⟩ => absurd h h2, fun _ => ⟨_, rfl, rfl⟩⟩
      rw [show (fx (feI l l[i].1) != (i : Int)) = false from by rw [ne_int]; simp [fx_some, h2]]
      simp only [cond_false]
      rw [wrap_succ hi (by omega)]
      by_cases h3 : 0 < i
      · have hlt : i - 1 < l.length := by omega
        rw [decide_eq_true (show (i : Int) > 0 by omega), show IntKind.i64.wrap ((i : Int) - 1) = ((i - 1 : Nat) : Int) from by rw [wrap_id (by omega) (by omega)]; omega, lAt_nat hlt]
        simp only [cond_true, Option.bind_some]
        by_cases hb : l[i - 1].2.1 ≤ l[i].2.1
        case neg =>
          rw [decide_eq_true (by omega)]
          exact ⟨fun ⟨_, _, _, h⟩ => absurd (h h3).1 hb, fun _ => ⟨_, rfl, rfl⟩⟩
        rw [decide_eq_false (by omega)]
        simp only [cond_false]
        by_cases q : l[i].2.1 = l[i - 1].2.1
        · rw [show (l[i].2.1 == l[i - 1].2.1) = true from by simpa using q]
          simp only [cond_true]
          by_cases q2 : l[i].2.2.2.1.length = 0
          · rw [decide_eq_false (by omega)]
            exact ⟨fun _ => rfl, fun h => absurd ⟨hi, h1, h2, fun _ => ⟨hb, fun _ => q2⟩⟩ h⟩
          · rw [decide_eq_true (by omega)]
            exact ⟨fun ⟨_, _, _, h⟩ => absurd ((h h3).2 q) q2, fun _ => ⟨_, rfl, rfl⟩⟩
        · rw [show (l[i].2.1 == l[i - 1].2.1) = false from by simpa using q]
          exact ⟨fun _ => rfl, fun h => absurd ⟨hi, h1, h2, fun _ => ⟨hb, fun e => absurd e q⟩⟩ h⟩
      · rw [decide_eq_false (show ¬ (i : Int) > 0 by omega)]
        exact ⟨fun _ => rfl, fun h => absurd ⟨hi, h1, h2, fun e => absurd e h3⟩ h⟩
  · unfold impl_IsHistory_D4
    simp only
    rw [decide_eq_false (by omega)]; rfl
  · simp only [sumC]
    refine all_loopK (n := l.length) (c := rC l) (no := some (false, ())) (X := some (true, ())) (fun i hi => ?_) ⟨.inr (.inr ()), ?_, rfl⟩
    · have hm := hl.at hi
      have hm1 := hm.1
      have e := all_iter (ρ := VM ⊕ VM ⊕ Unit) (n := l[i].2.2.1.length) (c := fun j => ∀ hj : j < l[i].2.2.1.length, mC l l[i].1 l[i].2.2.1[j]) (B := fun v_2 => impl_IsHistory_D15 (l, l, ((l.length : Nat) : Int), (i : Int), l[i].2.2.1, ((l[i].2.2.1.length : Nat) : Int), l[i].1, l[i].2.1, l[i].2.2.1, l[i].2.2.2.1, ()) v_2 _ some) (Bad := fun r => (∃ a, r = .inl a) ∨ ∃ a, r = .inr (.inl a)) (fin := .inr (.inr ())) (fun j hj => by
        unfold impl_IsHistory_D15
        simp only [lAt_nat hj, Option.bind_some, p_implWO hl]
        rw [decide_eq_true (by omega), wrap_succ hj (by omega)]
        simp only [cond_true]
        exact mC_step hj) (by
        unfold impl_IsHistory_D15
        simp only
        rw [decide_eq_false (by omega)]; rfl)
      unfold impl_IsHistory_D12
      simp only [lAt_nat hi, Option.bind_some]
      rw [decide_eq_true (by omega), wrap_succ hi (by omega)]
      simp only [cond_true]
      constructor
      · rintro ⟨_, hc⟩
        rw [e.1 (fun j _ => hc j)]; rfl
      · intro hc
        obtain ⟨r, h1, h2⟩ := e.2 (fun h => hc ⟨hi, fun j hj => h j hj hj⟩)
        rw [h1]
        rcases h2 with ⟨a, rfl⟩ | ⟨a, rfl⟩ <;> exact ⟨_, rfl, rfl⟩
    · unfold impl_IsHistory_D12
      simp only
      rw [decide_eq_false (by omega)]; rfl
  · exact okH_fin h9

theorem mC_step' {l : List EN} {e : EN} {j : Nat} (hj : j < e.2.2.1.length) {σ : Type} {nx : σ} :
    ((∀ hj : j < e.2.2.1.length, mC l e.1 e.2.2.1[j]) → (bif wrOf l e.2.2.1[j].1 e.2.2.1[j].2.1 == e.1 then some (Sum.inr (Sum.inl ())) else bif decide (e.2.2.1[j].2.1 > 0) then bif wrOf l e.2.2.1[j].1 e.2.2.1[j].2.1 == 0 then some (Sum.inr (Sum.inr (Sum.inl ()))) else some (Sum.inl nx) else some (Sum.inl nx) : Option (σ ⊕ Unit ⊕ Unit ⊕ Unit)) = some (.inl nx)) ∧
    ((¬ ∀ hj : j < e.2.2.1.length, mC l e.1 e.2.2.1[j]) → ∃ r, (bif wrOf l e.2.2.1[j].1 e.2.2.1[j].2.1 == e.1 then some (Sum.inr (Sum.inl ())) else bif decide (e.2.2.1[j].2.1 > 0) then bif wrOf l e.2.2.1[j].1 e.2.2.1[j].2.1 == 0 then some (Sum.inr (Sum.inr (Sum.inl ()))) else some (Sum.inl nx) else some (Sum.inl nx) : Option (σ ⊕ Unit ⊕ Unit ⊕ Unit)) = some (.inr r) ∧ ((∃ a, r = .inl a) ∨ ∃ a, r = .inr (.inl a))) := by
  have h0 : (∀ hj : j < e.2.2.1.length, mC l e.1 e.2.2.1[j]) ↔ mC l e.1 e.2.2.1[j] := ⟨fun h => h hj, fun h _ => h⟩
  rw [h0]
  unfold mC
  by_cases h1 : wrOf l e.2.2.1[j].1 e.2.2.1[j].2.1 = e.1
  · rw [show (wrOf l e.2.2.1[j].1 e.2.2.1[j].2.1 == e.1) = true from by simpa using h1]
    exact ⟨fun h => absurd h1 h.1, fun _ => ⟨_, rfl, .inl ⟨_, rfl⟩⟩⟩
  · rw [show (wrOf l e.2.2.1[j].1 e.2.2.1[j].2.1 == e.1) = false from by simpa using h1]
    simp only [cond_false]
    by_cases h2 : e.2.2.1[j].2.1 > 0
    · rw [decide_eq_true h2]
      simp only [cond_true]
      by_cases h3 : wrOf l e.2.2.1[j].1 e.2.2.1[j].2.1 = 0
      · rw [show (wrOf l e.2.2.1[j].1 e.2.2.1[j].2.1 == 0) = true from by simpa using h3]
        exact ⟨fun h => absurd h3 (h.2 h2), fun _ => ⟨_, rfl, .inr ⟨_, rfl⟩⟩⟩
      · rw [show (wrOf l e.2.2.1[j].1 e.2.2.1[j].2.1 == 0) = false from by simpa using h3]
        exact ⟨fun _ => rfl, fun h => absurd ⟨h1, fun _ => h3⟩ h⟩
    · rw [decide_eq_false h2]
      exact ⟨fun _ => rfl, fun h => absurd ⟨h1, fun h => absurd h h2⟩ h⟩

theorem p_specH {l : List EN} (hl : smEs l) : spec_IsHistory_S (l, ()) = some (dec (okH l), ()) := by
  unfold spec_IsHistory_S
  have hs := hl.1
  refine (all_loopK (n := l.length) (c := hC l) (no := some (false, ())) (X := bif dec (∀ i, i < l.length → rC l i) then some (decide ((l.length : Int) ≤ 9), ()) else some (false, ())) (fun i hi => ?_) ⟨.inr (.inr (.inr (.inr ()))), ?_, ?_⟩).trans ?_
  · have hm := hl.at hi
    unfold spec_IsHistory_D2 spec_l18Tx_S
    simp only [lAt_nat hi, Option.bind_some, p_specT hm.1 hm.2, slAt0 (Nat.le_of_lt hi), p_specFE (show (l.take i).length ≤ 1048576 by simp; omega)]
    rw [decide_eq_true (by omega)]
    simp only [cond_true]
    cases h1 : okT l[i].1 1 2 0 0 1000 l[i].2.1 l[i].2.2.1 l[i].2.2.2.1 with
    | false => exact ⟨fun ⟨_, h, _⟩ => (by unfold okEn at h; rw [h1] at h; cases h), fun _ => ⟨_, rfl, rfl⟩⟩
    | true =>
      simp only [Bool.not_true, cond_false]
      by_cases h2 : feI l l[i].1 = some i
      case neg =>
        have h2' : ¬ feI (l.take i) l[i].1 = none := fun h => h2 ((fe_take hi).2 h)
        rw [fx_ge]
        rw [show (feI (l.take i) l[i].1).isSome = true from by cases h : feI (l.take i) l[i].1 with | none => exact absurd h h2' | some _ => rfl]
        exact ⟨fun ⟨_, _, h, _⟩ => absurd h h2, fun _ => ⟨_, rfl, rfl⟩⟩
      rw [fx_ge, (fe_take hi).1 h2]
      simp only [Option.isSome_none, cond_false]
      rw [wrap_succ hi (by omega)]
      by_cases h3 : 0 < i
      · have hlt : i - 1 < l.length := by omega
        rw [decide_eq_true (show (i : Int) > 0 by omega), show IntKind.i64.wrap ((i : Int) - 1) = ((i - 1 : Nat) : Int) from by rw [wrap_id (by omega) (by omega)]; omega, lAt_nat hlt]
        simp only [cond_true, Option.bind_some]
        by_cases hb : l[i - 1].2.1 ≤ l[i].2.1
        case neg =>
          rw [decide_eq_true (by omega)]
          exact ⟨fun ⟨_, _, _, h⟩ => absurd (h h3).1 hb, fun _ => ⟨_, rfl, rfl⟩⟩
        rw [decide_eq_false (by omega)]
        simp only [cond_false]
        by_cases q : l[i].2.1 = l[i - 1].2.1
        · rw [show (l[i - 1].2.1 == l[i].2.1) = true from by simpa using q.symm]
          simp only [cond_true]
          by_cases q2 : l[i].2.2.2.1.length = 0
          · rw [decide_eq_false (by omega)]
            exact ⟨fun _ => rfl, fun h => absurd ⟨hi, h1, h2, fun _ => ⟨hb, fun _ => q2⟩⟩ h⟩
          · rw [decide_eq_true (by omega)]
            exact ⟨fun ⟨_, _, _, h⟩ => absurd ((h h3).2 q) q2, fun _ => ⟨_, rfl, rfl⟩⟩
        · rw [show (l[i - 1].2.1 == l[i].2.1) = false from by simpa using fun h => q h.symm]
          exact ⟨fun _ => rfl, fun h => absurd ⟨hi, h1, h2, fun _ => ⟨hb, fun e => absurd e q⟩⟩ h⟩
      · rw [decide_eq_false (show ¬ (i : Int) > 0 by omega)]
        exact ⟨fun _ => rfl, fun h => absurd ⟨hi, h1, h2, fun e => absurd e h3⟩ h⟩
  · unfold spec_IsHistory_D2
    simp only
    rw [decide_eq_false (by omega)]; rfl
  · simp only [sumC]
    refine all_loopK (n := l.length) (c := rC l) (no := some (false, ())) (X := some (decide ((l.length : Int) ≤ 9), ())) (fun i hi => ?_) ⟨.inr (.inr ()), ?_, rfl⟩
    · have hm := hl.at hi
      have hm1 := hm.1
      have e := all_iter (ρ := Unit ⊕ Unit ⊕ Unit) (n := l[i].2.2.1.length) (c := fun j => ∀ hj : j < l[i].2.2.1.length, mC l l[i].1 l[i].2.2.1[j]) (B := fun v_2 => spec_IsHistory_D12 (l, (i : Int), ()) v_2 _ some) (Bad := fun r => (∃ a, r = .inl a) ∨ ∃ a, r = .inr (.inl a)) (fin := .inr (.inr ())) (fun j hj => by
        unfold spec_IsHistory_D12
        simp only [lAt_nat hi, lAt_nat hj, Option.bind_some, p_specWO hl]
        rw [decide_eq_true (by omega), wrap_succ hj (by omega)]
        simp only [cond_true]
        exact mC_step' hj) (by
        unfold spec_IsHistory_D12
        simp only [lAt_nat hi, Option.bind_some]
        rw [decide_eq_false (by omega)]; rfl)
      unfold spec_IsHistory_D9
      simp only [lAt_nat hi, Option.bind_some]
      rw [decide_eq_true (by omega), wrap_succ hi (by omega)]
      simp only [cond_true]
      constructor
      · rintro ⟨_, hc⟩
        rw [e.1 (fun j _ => hc j)]; rfl
      · intro hc
        obtain ⟨r, h1, h2⟩ := e.2 (fun h => hc ⟨hi, fun j hj => h j hj hj⟩)
        rw [h1]
        rcases h2 with ⟨a, rfl⟩ | ⟨a, rfl⟩ <;> exact ⟨_, rfl, rfl⟩
    · unfold spec_IsHistory_D9
      simp only
      rw [decide_eq_false (by omega)]; rfl
  · by_cases h9 : l.length ≤ 9
    · rw [decide_eq_true (show (l.length : Int) ≤ 9 by omega)]; exact okH_fin h9
    · rw [decide_eq_false (show ¬ (l.length : Int) ≤ 9 by omega), dec_false (fun h : okH l => h9 h.1)]
      cases dec (∀ i, i < l.length → hC l i) <;> cases dec (∀ i, i < l.length → rC l i) <;> rfl

def ltE (a b : EDg) : Bool := decide (a.1 < b.1 ∨ (a.1 = b.1 ∧ (a.2.1 < b.2.1 ∨ (a.2.1 = b.2.1 ∧ (a.2.2.1 < b.2.2.1 ∨ (a.2.2.1 = b.2.2.1 ∧ a.2.2.2.1 < b.2.2.2.1))))))

theorem ltE_iff (a b : EDg) : ltE a b = true ↔ (a.1 < b.1 ∨ (a.1 = b.1 ∧ (a.2.1 < b.2.1 ∨ (a.2.1 = b.2.1 ∧ (a.2.2.1 < b.2.2.1 ∨ (a.2.2.1 = b.2.2.1 ∧ a.2.2.2.1 < b.2.2.2.1)))))) := by unfold ltE; exact decide_eq_true_iff

theorem edg_ext {a b : EDg} (h1 : a.1 = b.1) (h2 : a.2.1 = b.2.1) (h3 : a.2.2.1 = b.2.2.1) (h4 : a.2.2.2.1 = b.2.2.2.1) : a = b := by
  obtain ⟨a1, a2, a3, a4, _⟩ := a
  obtain ⟨b1, b2, b3, b4, _⟩ := b
  simp only at h1 h2 h3 h4
  subst h1; subst h2; subst h3; subst h4; rfl

theorem stoE : StO ltE where
  irr := fun x => by rw [← Bool.not_eq_true, ltE_iff]; omega
  tr := fun x y z h1 h2 => by rw [ltE_iff] at *; omega
  tri := fun x y => by
    rw [ltE_iff, ltE_iff]
    by_cases h : x.1 = y.1 ∧ x.2.1 = y.2.1 ∧ x.2.2.1 = y.2.2.1 ∧ x.2.2.2.1 = y.2.2.2.1
    · exact .inr (.inl (edg_ext h.1 h.2.1 h.2.2.1 h.2.2.2))
    · omega

def orL (l : List Int) : Int := match l.find? (fun x => x != 0) with | some x => x | none => 0

theorem p_orL {l : List Int} (hl : l.length ≤ 1048576) : cmp_Or_int_S (l, ()) = some (orL l, ()) := by
  unfold cmp_Or_int_S orL
  have e := first_loop (l := l) (p := fun x => x != 0) (B := fun v => cmp_Or_int_D3 (0, l, ((l.length : Nat) : Int), ()) v _ some) (k := fun p => sumC p (fun p => some (p.1, ())) fun p => some (0, ())) (yes := fun e => some (e, ())) (no := some (0, ())) (fun i h => by
    unfold cmp_Or_int_D3
    simp only [lAt_nat h, Option.bind_some]
    rw [decide_eq_true (by omega), wrap_succ h (by omega)]
    simp only [cond_true]
    cases (l[i] != 0 : Bool) <;> simp [sumC]) (by
    unfold cmp_Or_int_D3
    simp only
    rw [decide_eq_false (by omega)]; exact ⟨_, rfl, rfl⟩)
  rw [e]
  cases l.find? (fun x => x != 0) <;> rfl

def cm1 (a b : Int) : Int := if a < b then -1 else if a > b then 1 else 0

def cmE (a b : EDg) : Int := orL [cm1 a.1 b.1, cm1 a.2.1 b.2.1, cm1 a.2.2.1 b.2.2.1, cm1 a.2.2.2.1 b.2.2.2.1]

theorem p_cmE (a b : EDg) : impl_compareEdges_S (a, b, ()) = some (cmE a b, ()) := by
  unfold impl_compareEdges_S
  simp only [p_cmp, Option.bind_some]
  rw [p_orL (by simp)]; rfl

theorem orL_cons (x : Int) (l : List Int) : orL (x :: l) = if x = 0 then orL l else x := by
  unfold orL
  by_cases h : x = 0 <;> simp [h]

theorem cm1_zero (a b : Int) : cm1 a b = 0 ↔ a = b := by unfold cm1; split <;> omega

theorem cm1_lt (a b : Int) : cm1 a b < 0 ↔ a < b := by unfold cm1; split <;> omega

theorem cmE_lt (a b : EDg) : cmE a b < 0 ↔ ltE a b = true := by
  rw [ltE_iff]
  unfold cmE
  simp only [orL_cons, cm1_zero]
  rw [show orL [] = 0 from rfl]
  by_cases h1 : a.1 = b.1
  · rw [if_pos h1]
    by_cases h2 : a.2.1 = b.2.1
    · rw [if_pos h2]
      by_cases h3 : a.2.2.1 = b.2.2.1
      · rw [if_pos h3]
        by_cases h4 : a.2.2.2.1 = b.2.2.2.1
        · rw [if_pos h4]; omega
        · rw [if_neg h4, cm1_lt]; omega
      · rw [if_neg h3, cm1_lt]; omega
    · rw [if_neg h2, cm1_lt]; omega
  · rw [if_neg h1, cm1_lt]; omega

theorem ltS_cmE (a b : EDg) : ltS (t := YEdge) impl_compareEdges_S a b = ltE a b := by
  have : cfOf (t := YEdge) impl_compareEdges_S a b = cmE a b := by
    have e := p_cmE a b
    unfold cfOf
    erw [e]
  unfold ltS
  rw [this, Bool.eq_iff_iff, decide_eq_true_iff]
  exact cmE_lt a b

theorem sortOK_cmE : SortOK (t := YEdge) impl_compareEdges_S where
  tot := fun a b => ⟨_, p_cmE a b⟩
  irrefl := fun x => by rw [ltS_cmE]; exact stoE.irr x
  trans := fun x y z => by rw [ltS_cmE, ltS_cmE, ltS_cmE]; exact stoE.tr x y z
  ntrans := fun x y z => by
    rw [ltS_cmE, ltS_cmE, ltS_cmE, ← Bool.not_eq_true, ← Bool.not_eq_true, ← Bool.not_eq_true, ltE_iff, ltE_iff, ltE_iff]; omega
  anti := fun x y h1 h2 => by
    rw [ltS_cmE] at h1 h2
    rcases stoE.tri x y with h | h | h
    · rw [h1] at h; cases h
    · exact h
    · rw [h2] at h; cases h

theorem p_sortE {l : List EDg} (hl : l.length < 4611686018427387904) : slices_SortFunc__impl_compareEdges_S (l, ()) = some (l.mergeSort fun a b => !ltE b a, ()) := by
  unfold slices_SortFunc__impl_compareEdges_S sortS
  rw [if_pos ⟨sortOK_cmE, hl⟩]
  congr 2
  congr 1
  funext a b
  rw [ltS_cmE]

theorem beqE (a b : EDg) : (a.1 == b.1 && (a.2.1 == b.2.1 && (a.2.2.1 == b.2.2.1 && (a.2.2.2.1 == b.2.2.2.1 && true)))) = decide (a = b) := by
  rw [Bool.eq_iff_iff]
  simp only [Bool.and_eq_true, beq_iff_eq, decide_eq_true_iff, and_true]
  exact ⟨fun ⟨h1, h2, h3, h4⟩ => edg_ext h1 h2 h3 h4, fun h => by subst h; exact ⟨rfl, rfl, rfl, rfl⟩⟩

theorem take_last {α : Type} {l : List α} {k : Nat} (h : k < l.length) : (l.take (k + 1)).getLast? = some l[k] := by
  rw [List.take_add_one, List.getElem?_eq_getElem h]
  simp only [Option.toList_some, List.getLast?_append, List.getLast?_singleton, Option.some_or]

theorem ded_take (l : List EDg) {k : Nat} (h : k < l.length) (h0 : 0 < k) : ded (l.take (k + 1)) = if l[k - 1]'(by omega) = l[k] then ded (l.take k) else ded (l.take k) ++ [l[k]] := by
  rw [List.take_add_one, List.getElem?_eq_getElem h]
  simp only [Option.toList_some]
  rw [ded_snoc]
  unfold dedS
  rw [ded_last]
  have := take_last (l := l) (k := k - 1) (by omega)
  rw [show k - 1 + 1 = k by omega] at this
  rw [this]
  simp only [Option.some.injEq]

theorem compact9 {l : List EDg} (hl : l.length < 4611686018427387904) {o : Nat} (ho : 0 < o) (hol : o < l.length) : ∀ m k2 : Nat, o + k2 + m = l.length → 1 ≤ k2 → (ded (l.take (o + k2))).length ≤ o + k2 - 1 →
    iter (fun v => slices_Compact_impl_Edge_l_D9 () v _ some) (((ded (l.take (o + k2))).length : Int), (o, l.length - o), (k2 : Int), ded (l.take (o + k2)) ++ l.drop (ded (l.take (o + k2))).length, ()) = some (((ded l).length : Int), ded l ++ l.drop (ded l).length, ()) := by
  intro m
  induction m with
  | zero =>
    intro k2 h1 h2 h3
    rw [show l.take (o + k2) = l from List.take_of_length_le (by omega)]
    rw [iter_eq]
    unfold slices_Compact_impl_Edge_l_D9
    simp only
    rw [decide_eq_false (by omega)]; rfl
  | succ m ih =>
    intro k2 h1 h2 h3
    have hi : o + k2 < l.length := by omega
    have ih := ih (k2 + 1) (by omega) (by omega)
    rw [show o + (k2 + 1) = (o + k2) + 1 by omega, ded_take l hi (by omega)] at ih
    generalize hD : ded (l.take (o + k2)) = D at h3 ih ⊢
    have hrow : ∀ j, D.length ≤ j → j < l.length → (D ++ l.drop D.length)[j]? = l[j]? := by
      intro j hj hjl
      rw [List.getElem?_append_right hj, List.getElem?_drop]
      congr 1; omega
    have hlen : (D ++ l.drop D.length).length = l.length := by simp; omega
    by_cases he : l[o + k2] = l[o + k2 - 1]'(by omega)
    · have step : slices_Compact_impl_Edge_l_D9 () ((D.length : Int), (o, l.length - o), (k2 : Int), D ++ l.drop D.length, ()) ((Int × (Nat × Nat) × Int × List EDg × Unit) ⊕ (Int × List EDg × Unit)) some = some (.inl ((D.length : Int), (o, l.length - o), ((k2 + 1 : Nat) : Int), D ++ l.drop D.length, ())) := by
        unfold slices_Compact_impl_Edge_l_D9
        simp only
        rw [decide_eq_true (by omega), wrap_id (n := (k2 : Int) - 1) (by omega) (by omega), wrap_id (n := (k2 : Int) + 1) (by omega) (by omega), wrap_id (n := (D.length : Int) + 1) (by omega) (by omega), hlen]
        simp only [cond_true]
        rw [if_pos (by omega)]
        rw [show o + ((k2 : Int)).toNat = o + k2 by omega, show o + ((k2 : Int) - 1).toNat = o + k2 - 1 by omega, hrow _ (by omega) hi, hrow _ (by omega) (by omega), List.getElem?_eq_getElem hi, List.getElem?_eq_getElem (show o + k2 - 1 < l.length by omega)]
        simp only [Option.bind_some]
        rw [if_pos (by omega)]
        rw [beqE, decide_eq_true he]
        rfl
      rw [if_pos he.symm] at ih
      rw [iter_eq, step]
      exact ih (by omega)
    · have hset : (D ++ l.drop D.length).set D.length (l[o + k2].1, l[o + k2].2.1, l[o + k2].2.2.1, l[o + k2].2.2.2.1, ()) = (D ++ [l[o + k2]]) ++ l.drop (D.length + 1) := by
        rw [List.set_append_right _ _ (Nat.le_refl _), Nat.sub_self, List.drop_eq_getElem_cons (show D.length < l.length by omega), List.set_cons_zero]
        simp
      have step : slices_Compact_impl_Edge_l_D9 () ((D.length : Int), (o, l.length - o), (k2 : Int), D ++ l.drop D.length, ()) ((Int × (Nat × Nat) × Int × List EDg × Unit) ⊕ (Int × List EDg × Unit)) some = some (.inl (((D.length + 1 : Nat) : Int), (o, l.length - o), ((k2 + 1 : Nat) : Int), (D ++ [l[o + k2]]) ++ l.drop (D.length + 1), ())) := by
        unfold slices_Compact_impl_Edge_l_D9
        simp only
        rw [decide_eq_true (by omega), wrap_id (n := (k2 : Int) - 1) (by omega) (by omega), wrap_id (n := (k2 : Int) + 1) (by omega) (by omega), wrap_id (n := (D.length : Int) + 1) (by omega) (by omega), hlen]
        simp only [cond_true]
        rw [if_pos (by omega)]
        rw [show o + ((k2 : Int)).toNat = o + k2 by omega, show o + ((k2 : Int) - 1).toNat = o + k2 - 1 by omega, hrow _ (by omega) hi, hrow _ (by omega) (by omega), List.getElem?_eq_getElem hi, List.getElem?_eq_getElem (show o + k2 - 1 < l.length by omega)]
        simp only [Option.bind_some]
        rw [if_pos (by omega)]
        rw [beqE, decide_eq_false he]
        simp only [Bool.not_false, cond_true]
        rw [if_pos (by omega)]
        rw [if_pos (by omega), show 0 + ((D.length : Int)).toNat = D.length by omega, hrow _ (Nat.le_refl _) (by omega), List.getElem?_eq_getElem (show D.length < l.length by omega)]
        simp only [Option.bind_some]
        rw [hset]
        rfl
      rw [if_neg (fun h => he h.symm)] at ih
      rw [iter_eq, step]
      have := ih (by simp; omega)
      simp only [List.length_append, List.length_singleton] at this
      exact this

theorem ded_len {α : Type} [DecidableEq α] (l : List α) : (ded l).length ≤ l.length := by
  unfold ded
  suffices ∀ (l acc : List α), (l.foldl dedS acc).length ≤ acc.length + l.length by simpa using this l []
  intro l
  induction l with
  | nil => intro acc; simp
  | cons a l ih =>
    intro acc
    have := ih (dedS acc a)
    have h2 : (dedS acc a).length ≤ acc.length + 1 := by unfold dedS; split <;> simp
    simp only [List.foldl_cons, List.length_cons]; omega

theorem p_compact {l : List EDg} (hl : l.length < 4611686018427387904) : slices_Compact_impl_Edge_l_S (l, ()) = some (ded l, ()) := by
  unfold slices_Compact_impl_Edge_l_S
  simp only
  by_cases h2 : l.length < 2
  · rw [decide_eq_true (by omega)]
    match l, h2 with
    | [], _ => rfl
    | [a], _ => rfl
  rw [decide_eq_false (by omega)]
  simp only [cond_false]
  have key : ∀ m k : Nat, k + m = l.length → 1 ≤ k → ded (l.take k) = l.take k → ((iter (fun v => slices_Compact_impl_Edge_l_D4 (l, ()) v _ some) ((k : Int), ())).bind fun p => sumC p (fun p => some (List.take p.1 p.2.1, ())) fun p => some (l, ())) = some (ded l, ()) := by
    intro m
    induction m with
    | zero =>
      intro k h1 _ h3
      rw [iter_eq]
      unfold slices_Compact_impl_Edge_l_D4
      simp only
      rw [decide_eq_false (by omega)]
      rw [List.take_of_length_le (by omega)] at h3
      simp only [cond_false, Option.bind_some, sumC]
      rw [h3]
    | succ m ih =>
      intro k h1 hk h3
      have h : k < l.length := by omega
      rw [iter_eq]
      unfold slices_Compact_impl_Edge_l_D4
      simp only
      rw [decide_eq_true (by omega), wrap_id (n := (k : Int) - 1) (by omega) (by omega), wrap_id (n := (k : Int) + 1) (by omega) (by omega), if_pos (by omega), show 0 + ((k : Int)).toNat = k by omega, show 0 + ((k : Int) - 1).toNat = k - 1 by omega, List.getElem?_eq_getElem h, List.getElem?_eq_getElem (show k - 1 < l.length by omega)]
      simp only [cond_true, Option.bind_some]
      rw [if_pos (by omega), beqE]
      have hd := ded_take l h hk
      by_cases he : l[k] = l[k - 1]'(by omega)
      · rw [decide_eq_true he]
        rw [if_pos he.symm, h3] at hd
        simp only [cond_true]
        rw [if_pos (by omega)]
        have h9 := compact9 hl (o := k) (by omega) h (l.length - (k + 1)) 1 (by omega) (Nat.le_refl _) (by rw [hd]; simp; omega)
        rw [hd] at h9
        have e1 : (l.take k).length = k := by simp; omega
        rw [e1, List.take_append_drop] at h9
        rw [show ((l.length : Int)).toNat - ((k : Int)).toNat = l.length - k by omega]
        have h9' : iter (fun v => slices_Compact_impl_Edge_l_D9 () v _ some) ((k : Int), (k, l.length - k), 1, l, ()) = some (((ded l).length : Int), ded l ++ l.drop (ded l).length, ()) := h9
        rw [h9']
        simp only [Option.bind_some]
        have hle : (ded l).length ≤ l.length := ded_len l
        have hlen : (ded l ++ l.drop (ded l).length).length = l.length := by simp; omega
        rw [if_pos (by omega)]
        rw [if_pos (by
          refine ⟨Int.le_refl _, by omega, ?_⟩
          rw [hlen]
          simp only [List.length_append, List.length_take, List.length_replicate, List.length_drop]
          omega)]
        simp only [Option.bind_some, sumC]
        congr 2
        rw [show ((((ded l).length : Nat) : Int)).toNat - (0 : Int).toNat = (ded l).length by omega, show 0 + ((((ded l).length : Nat) : Int)).toNat = (ded l).length by omega]
        rw [List.append_assoc, List.take_append_of_le_length (by simp), List.take_take, Nat.min_self, List.take_left]
      · rw [decide_eq_false he]
        simp only [cond_false, Option.bind_some]
        rw [if_neg (fun h => he h.symm), h3] at hd
        refine ih (k + 1) (by omega) (by omega) ?_
        rw [hd, List.take_add_one, List.getElem?_eq_getElem h]; rfl
  have := key (l.length - 1) 1 (by omega) (Nat.le_refl _) (by
    match l, h2 with
    | a :: r, _ => simp [ded, dedS])
  exact this

def okEd (e : EDg) : Bool := e.1 != 0 && (e.2.1 != 0 && e.1 != e.2.1)

def putG (g : List EDg) (e : EDg) : List EDg := if okEd e = true then g ++ [e] else g

def putS (g : List EDg) (e : EDg) : List EDg := if okEd e = true then insE ltE g e else g

section
variable (P : List EDg → EDg → List EDg) (l : List EN)
def gR (id : Int) (g : List EDg) (m : VM) : List EDg := P (P g (wrOf l m.1 m.2.1, id, 1, m.1, ())) (id, nwOf l m.1 m.2.1, 3, m.1, ())
def gW (id st : Int) (g : List EDg) (m : VM) : List EDg := P g (id, nwOf l m.1 st, 2, m.1, ())
def gX (g : List EDg) (e : EN) : List EDg := e.2.2.2.1.foldl (gW P l e.1 e.2.1) (e.2.2.1.foldl (gR P l e.1) g)
def gA : List EDg := l.foldl (gX P l) []
end

theorem putG_len (g : List EDg) (e : EDg) : (putG g e).length ≤ g.length + 1 := by unfold putG; split <;> simp

theorem foldl_len {α β : Type} {f : List β → α → List β} {c : Nat} : ∀ (l : List α) (g : List β), (∀ g, ∀ x ∈ l, (f g x).length ≤ g.length + c) → (l.foldl f g).length ≤ g.length + c * l.length
  | [], g, _ => by simp
  | x :: l, g, h => by
    have h1 := h g x (List.mem_cons_self ..)
    have h2 := foldl_len l (f g x) fun g y hy => h g y (List.mem_cons_of_mem _ hy)
    simp only [List.foldl_cons, List.length_cons, Nat.mul_add, Nat.mul_one]
    omega

theorem gR_len (l : List EN) (id : Int) (g : List EDg) (m : VM) : (gR putG l id g m).length ≤ g.length + 2 := by
  unfold gR
  have h1 := putG_len g (wrOf l m.1 m.2.1, id, 1, m.1, ())
  have h2 := putG_len (putG g (wrOf l m.1 m.2.1, id, 1, m.1, ())) (id, nwOf l m.1 m.2.1, 3, m.1, ())
  omega

theorem gW_len (l : List EN) (id st : Int) (g : List EDg) (m : VM) : (gW putG l id st g m).length ≤ g.length + 1 := putG_len _ _

theorem gX_len (l : List EN) {e : EN} (h : smE e) (g : List EDg) : (gX putG l g e).length ≤ g.length + 3145728 := by
  unfold gX
  have h1 := foldl_len (f := gR putG l e.1) (c := 2) e.2.2.1 g fun g m _ => gR_len l e.1 g m
  have h2 := foldl_len (f := gW putG l e.1 e.2.1) (c := 1) e.2.2.2.1 (e.2.2.1.foldl (gR putG l e.1) g) fun g m _ => gW_len l e.1 e.2.1 g m
  have := h.1; have := h.2
  omega

theorem gA_len {l : List EN} (h : smEs l) (h9 : l.length ≤ 9) : (gA putG l).length ≤ 28311552 := by
  have := foldl_len (f := gX putG l) (c := 3145728) l [] fun g e he => gX_len l (h.2 e he) g
  unfold gA
  simp only [List.length_nil] at this
  omega

theorem p_put1 {g : List EDg} (h : g.length ≤ 1000000000) (e : EDg) : impl_graph_1_l_S (e.1, e.2.1, e.2.2.1, e.2.2.2.1, g, ()) = some (putG g e, ()) := by
  unfold impl_graph_1_l_S putG okEd
  simp only
  cases (e.1 != 0 : Bool) <;> cases (e.2.1 != 0 : Bool) <;> cases (e.1 != e.2.1 : Bool) <;> simp
  omega

theorem p_graph {l : List EN} (hl : smEs l) (h9 : l.length ≤ 9) : impl_graph_S (l, ()) = some (ded ((gA putG l).mergeSort fun a b => !ltE b a), ()) := by
  unfold impl_graph_S
  have hs := hl.1
  have eR : ∀ i (h : i < l.length) (g : List EDg), g.length ≤ 28311552 → iter (fun v_2 => impl_graph_D7 (l, l, ((l.length : Nat) : Int), (i : Int), l[i].2.2.1, ((l[i].2.2.1.length : Nat) : Int), l[i].1, l[i].2.1, l[i].2.2.1, l[i].2.2.2.1, ()) v_2 _ some) (0, g, ()) = some (l[i].2.2.1.foldl (gR putG l l[i].1) g, ()) := by
    intro i h g hg
    have h1 := (hl.at h).1
    refine iter_fold (l := l[i].2.2.1) (fun (g : List EDg) (j : Nat) => ((j : Int), g, ())) (gR putG l l[i].1) (fun j g' => g'.length ≤ g.length + 2 * j) (by simp) (fun j hj g' hg' => ⟨?_, ?_⟩) (r := fun g => (g, ())) (fun g' _ => ?_) rfl
    · unfold impl_graph_D7
      simp only [lAt_nat hj, Option.bind_some, p_implWO hl, p_implNW hl]
      rw [decide_eq_true (by omega), wrap_succ hj (by omega)]
      simp only [cond_true]
      have e1 := p_put1 (g := g') (by omega) (wrOf l l[i].2.2.1[j].1 l[i].2.2.1[j].2.1, l[i].1, 1, l[i].2.2.1[j].1, ())
      have l1 := putG_len g' (wrOf l l[i].2.2.1[j].1 l[i].2.2.1[j].2.1, l[i].1, 1, l[i].2.2.1[j].1, ())
      have e2 := p_put1 (g := putG g' (wrOf l l[i].2.2.1[j].1 l[i].2.2.1[j].2.1, l[i].1, 1, l[i].2.2.1[j].1, ())) (by omega) (l[i].1, nwOf l l[i].2.2.1[j].1 l[i].2.2.1[j].2.1, 3, l[i].2.2.1[j].1, ())
      simp only at e1 e2
      rw [e1]
      simp only [Option.bind_some]
      rw [e2]; rfl
    · have := gR_len l l[i].1 g' l[i].2.2.1[j]
      omega
    · unfold impl_graph_D7
      simp only
      rw [decide_eq_false (by omega)]; rfl
  have eW : ∀ i (h : i < l.length) (g : List EDg), g.length ≤ 38311552 → iter (fun v_2 => impl_graph_D13 (l, l, ((l.length : Nat) : Int), (i : Int), l[i].2.2.2.1, ((l[i].2.2.2.1.length : Nat) : Int), l[i].1, l[i].2.1, l[i].2.2.1, l[i].2.2.2.1, ()) v_2 _ some) (0, g, ()) = some (l[i].2.2.2.1.foldl (gW putG l l[i].1 l[i].2.1) g, ()) := by
    intro i h g hg
    have h1 := (hl.at h).2
    refine iter_fold (l := l[i].2.2.2.1) (fun (g : List EDg) (j : Nat) => ((j : Int), g, ())) (gW putG l l[i].1 l[i].2.1) (fun j g' => g'.length ≤ g.length + j) (by simp) (fun j hj g' hg' => ⟨?_, ?_⟩) (r := fun g => (g, ())) (fun g' _ => ?_) rfl
    · unfold impl_graph_D13
      simp only [lAt_nat hj, Option.bind_some, p_implNW hl]
      rw [decide_eq_true (by omega), wrap_succ hj (by omega)]
      simp only [cond_true]
      have e1 := p_put1 (g := g') (by omega) (l[i].1, nwOf l l[i].2.2.2.1[j].1 l[i].2.1, 2, l[i].2.2.2.1[j].1, ())
      simp only at e1
      rw [e1]; rfl
    · have := gW_len l l[i].1 l[i].2.1 g' l[i].2.2.2.1[j]
      omega
    · unfold impl_graph_D13
      simp only
      rw [decide_eq_false (by omega)]; rfl
  have e := iter_fold (l := l) (B := fun v => impl_graph_D4 (l, l, ((l.length : Nat) : Int), ()) v _ some) (fun (g : List EDg) (i : Nat) => ((i : Int), g, ())) (gX putG l) (fun i g => g.length ≤ 3145728 * i) (s0 := []) (by simp) (fun i h g hg => ⟨by
    unfold impl_graph_D4
    simp only [lAt_nat h, Option.bind_some]
    rw [decide_eq_true (by omega), wrap_succ h (by omega)]
    simp only [cond_true]
    rw [eR i h g (by omega)]
    simp only [Option.bind_some]
    have h2 := foldl_len (f := gR putG l l[i].1) (c := 2) l[i].2.2.1 g fun g m _ => gR_len l l[i].1 g m
    have h1 := (hl.at h).1
    rw [eW i h _ (by omega)]; rfl, by
    have := gX_len l (hl.at h) g
    omega⟩) (r := fun g => (g, ())) (fun g hg => by
    unfold impl_graph_D4
    simp only
    rw [decide_eq_false (by omega)]; rfl) (t0 := (0, [], ())) rfl
  simp only
  rw [e]
  simp only [Option.bind_some]
  have hlen := gA_len hl h9
  rw [show l.foldl (gX putG l) [] = gA putG l from rfl, p_sortE (by omega)]
  simp only [Option.bind_some]
  rw [p_compact (by simp; omega)]; rfl

/-- What the specification builds. -/
def grS (l : List EN) : List EDg := gA putS l

theorem fuse {α : Type} {F G : List EDg → α → List EDg} (h : ∀ g x, (F g x).foldl (insE ltE) [] = G (g.foldl (insE ltE) []) x) : ∀ (l : List α) g, (l.foldl F g).foldl (insE ltE) [] = l.foldl G (g.foldl (insE ltE) [])
  | [], _ => rfl
  | x :: l, g => by rw [List.foldl_cons, List.foldl_cons, fuse h l, h]

theorem put_fuse (g : List EDg) (e : EDg) : (putG g e).foldl (insE ltE) [] = putS (g.foldl (insE ltE) []) e := by
  unfold putG putS; split
  · rw [List.foldl_append]; rfl
  · rfl

theorem gA_fuse (l : List EN) : (gA putG l).foldl (insE ltE) [] = grS l := by
  unfold gA grS gA
  refine fuse (fun g e => ?_) l []
  unfold gX
  rw [fuse (F := gW putG l e.1 e.2.1) (G := gW putS l e.1 e.2.1) (fun g m => put_fuse _ _), fuse (F := gR putG l e.1) (G := gR putS l e.1) (fun g m => by unfold gR; rw [put_fuse, put_fuse])]

theorem p_implGraph {l : List EN} (hl : smEs l) (h9 : l.length ≤ 9) : impl_graph_S (l, ()) = some (grS l, ()) := by
  rw [p_graph hl h9, ded_sort stoE, gA_fuse]

noncomputable def bgr (l : List EN) : List EDg := bif dec (okH l) then grS l else []

theorem p_implBG {l : List EN} (hl : smEs l) : impl_BuildGraph_S (l, ()) = some (bgr l, ()) := by
  unfold impl_BuildGraph_S bgr
  simp only [p_implH hl, Option.bind_some]
  by_cases h : okH l
  · rw [dec_true h]
    simp only [Bool.not_true, cond_false, cond_true, p_implGraph hl h.1, Option.bind_some]
  · rw [dec_false h]; rfl

theorem p_less (a b : EDg) : spec_l19Less_S (a, b, ()) = some (ltE a b, ()) := by
  unfold spec_l19Less_S
  have : ltE a b = bif a.1 != b.1 then decide (a.1 < b.1) else bif a.2.1 != b.2.1 then decide (a.2.1 < b.2.1) else bif a.2.2.1 != b.2.2.1 then decide (a.2.2.1 < b.2.2.1) else decide (a.2.2.2.1 < b.2.2.2.1) := by
    rw [Bool.eq_iff_iff, ltE_iff]
    by_cases h1 : a.1 = b.1
    · by_cases h2 : a.2.1 = b.2.1
      · by_cases h3 : a.2.2.1 = b.2.2.1
        · simp [h1, h2, h3]
        · simp [h1, h2, h3]
      · simp [h1, h2]
    · simp [h1]
  rw [this]
  cases (a.1 != b.1 : Bool) <;> cases (a.2.1 != b.2.1 : Bool) <;> cases (a.2.2.1 != b.2.2.1 : Bool) <;> rfl

theorem tw_find {α : Type} (p : α → Bool) : ∀ (l : List α), match l.findIdx? (fun x => !p x) with
    | some i => l.takeWhile p = l.take i ∧ l.dropWhile p = l.drop i
    | none => l.takeWhile p = l ∧ l.dropWhile p = []
  | [] => ⟨rfl, rfl⟩
  | a :: l => by
    have ih := tw_find p l
    rw [List.findIdx?_cons]
    cases h : p a with
    | false => simp [h]
    | true =>
      simp only [Bool.not_true, Bool.false_eq_true, if_false]
      revert ih
      cases l.findIdx? (fun x => !p x) with
      | none => intro ih; simpa [h] using ih
      | some i => intro ih; simpa [h] using ih

theorem insE_len (g : List EDg) (e : EDg) : (insE ltE g e).length ≤ g.length + 1 := by
  unfold insE; split
  · omega
  · have := congrArg List.length (List.takeWhile_append_dropWhile (p := fun x => ltE x e) (l := g))
    simp only [List.length_append, List.length_cons] at this ⊢
    omega

theorem putS_len (g : List EDg) (e : EDg) : (putS g e).length ≤ g.length + 1 := by
  unfold putS; split
  · exact insE_len g e
  · omega

theorem slAt1 {α : Type} {l : List α} {i : Nat} (h : i ≤ l.length) : slAt l (i : Int) ((l.length : Nat) : Int) = some (l.drop i) := by
  unfold slAt
  rw [if_pos (by omega)]
  congr 1
  rw [List.take_of_length_le (by simp)]; simp

theorem p_specPut {g : List EDg} (h : g.length ≤ 1000000000) (e : EDg) : spec_l19Put_S (g, (e.1, e.2.1, e.2.2.1, e.2.2.2.1, ()), ()) = some (putS g e, ()) := by
  unfold spec_l19Put_S putS okEd
  simp only
  by_cases h1 : e.1 = 0
  · simp [h1]
  by_cases h2 : e.2.1 = 0
  · simp [h2]
  by_cases h3 : e.1 = e.2.1
  · simp [h3]
  rw [show (e.1 == 0) = false from by simpa using h1, show (e.2.1 == 0) = false from by simpa using h2, show (e.1 == e.2.1) = false from by simpa using h3, if_pos (by simp [h1, h2, h3])]
  simp only [cond_false]
  have hf := iter_first (l := g) (B := fun v => spec_l19Put_D4 (g, e.1, e.2.1, e.2.2.1, e.2.2.2.1, ()) v _ some) (fun j => ((j : Int), ())) (fun x => !ltE x e) (fd := fun j => Sum.inl ((j : Int), ())) (no := Sum.inr ((g.length : Int), ())) (fun j hj => by
    unfold spec_l19Put_D4
    have e1 := p_less g[j] e
    simp only [lAt_nat hj, Option.bind_some]
    rw [decide_eq_true (by omega), wrap_succ hj (by omega)]
    simp only [cond_true]
    erw [e1]
    simp only [Option.bind_some]
    cases ltE g[j] e <;> rfl) (by
    unfold spec_l19Put_D4
    simp only
    rw [decide_eq_false (by omega)]; rfl) (t0 := (0, ())) rfl
  rw [hf]
  have ht := tw_find (fun x => ltE x e) g
  unfold insE
  revert ht
  cases hx : g.findIdx? (fun x => !ltE x e) with
  | none =>
    rintro ⟨t1, t2⟩
    simp only [Option.bind_some, sumC]
    rw [decide_eq_false (by omega), t1, t2, if_neg (by simp)]
    simp only [cond_false]
    rw [slAt0 (Nat.le_refl _), List.take_length]
    simp only [Option.bind_some]
    rw [if_pos (by omega), if_pos (by simp; omega), slAt1 (Nat.le_refl _)]
    simp only [Option.bind_some]
    rw [if_pos (by simp; omega), List.drop_length]; simp
  | some i =>
    rintro ⟨t1, t2⟩
    obtain ⟨hi, _, _⟩ := findIdx_get hx
    simp only [Option.bind_some, sumC]
    rw [decide_eq_true (by omega), t1, t2, lAt_nat hi]
    simp only [cond_true, Option.bind_some]
    rw [beqE, List.drop_eq_getElem_cons hi]
    by_cases he : g[i] = e
    · rw [decide_eq_true he, if_pos (by simp [he])]; rfl
    · rw [decide_eq_false he, if_neg (fun h => he (Option.some.inj (by simpa only [List.head?_cons] using h)))]
      simp only [cond_false]
      rw [slAt0 (Nat.le_of_lt hi)]
      simp only [Option.bind_some]
      rw [if_pos (by simp; omega), if_pos (by simp; omega), slAt1 (Nat.le_of_lt hi)]
      simp only [Option.bind_some]
      rw [if_pos (by simp; omega), List.drop_eq_getElem_cons hi]; simp

theorem gRS_len (l : List EN) (id : Int) (g : List EDg) (m : VM) : (gR putS l id g m).length ≤ g.length + 2 := by
  unfold gR
  have h1 := putS_len g (wrOf l m.1 m.2.1, id, 1, m.1, ())
  have h2 := putS_len (putS g (wrOf l m.1 m.2.1, id, 1, m.1, ())) (id, nwOf l m.1 m.2.1, 3, m.1, ())
  omega

theorem gXS_len (l : List EN) {e : EN} (h : smE e) (g : List EDg) : (gX putS l g e).length ≤ g.length + 3145728 := by
  unfold gX
  have h1 := foldl_len (f := gR putS l e.1) (c := 2) e.2.2.1 g fun g m _ => gRS_len l e.1 g m
  have h2 := foldl_len (f := gW putS l e.1 e.2.1) (c := 1) e.2.2.2.1 (e.2.2.1.foldl (gR putS l e.1) g) fun g m _ => putS_len _ _
  have := h.1; have := h.2
  omega

theorem p_specBG {l : List EN} (hl : smEs l) : spec_BuildGraph_S (l, ()) = some (bgr l, ()) := by
  unfold spec_BuildGraph_S bgr
  have hs := hl.1
  by_cases hH : okH l
  case neg =>
    rw [dec_false hH]
    simp only
    rw [iter_eq]
    unfold spec_BuildGraph_D3
    simp only [p_specH hl, Option.bind_some, dec_false hH]
    cases decide ((0 : Int) < (l.length : Int)) <;> rfl
  have h9 := hH.1
  have eR : ∀ i (h : i < l.length) (g : List EDg), g.length ≤ 28311552 → iter (fun v_2 => spec_BuildGraph_D6 (l, (i : Int), ()) v_2 _ some) (g, 0, [], ()) = some (l[i].2.2.1.foldl (gR putS l l[i].1) g, [], ()) := by
    intro i h g hg
    have h1 := (hl.at h).1
    refine iter_fold (l := l[i].2.2.1) (fun (g : List EDg) (j : Nat) => (g, (j : Int), [], ())) (gR putS l l[i].1) (fun j g' => g'.length ≤ g.length + 2 * j) (by simp) (fun j hj g' hg' => ⟨?_, ?_⟩) (r := fun g => (g, [], ())) (fun g' _ => ?_) rfl
    · unfold spec_BuildGraph_D6
      simp only [lAt_nat h, lAt_nat hj, Option.bind_some, p_specWO hl, p_specNW hl]
      rw [decide_eq_true (by omega), wrap_succ hj (by omega)]
      simp only [cond_true]
      have e1 := p_specPut (g := g') (by omega) (wrOf l l[i].2.2.1[j].1 l[i].2.2.1[j].2.1, l[i].1, 1, l[i].2.2.1[j].1, ())
      have l1 := putS_len g' (wrOf l l[i].2.2.1[j].1 l[i].2.2.1[j].2.1, l[i].1, 1, l[i].2.2.1[j].1, ())
      have e2 := p_specPut (g := putS g' (wrOf l l[i].2.2.1[j].1 l[i].2.2.1[j].2.1, l[i].1, 1, l[i].2.2.1[j].1, ())) (by omega) (l[i].1, nwOf l l[i].2.2.1[j].1 l[i].2.2.1[j].2.1, 3, l[i].2.2.1[j].1, ())
      simp only at e1 e2
      rw [e1]
      simp only [Option.bind_some]
      rw [e2]; rfl
    · have := gRS_len l l[i].1 g' l[i].2.2.1[j]
      omega
    · unfold spec_BuildGraph_D6
      simp only [lAt_nat h, Option.bind_some]
      rw [decide_eq_false (by omega)]; rfl
  have eW : ∀ i (h : i < l.length) (g : List EDg), g.length ≤ 38311552 → iter (fun v_2 => spec_BuildGraph_D12 (l, (i : Int), ()) v_2 _ some) (g, 0, ()) = some (l[i].2.2.2.1.foldl (gW putS l l[i].1 l[i].2.1) g, ()) := by
    intro i h g hg
    have h1 := (hl.at h).2
    refine iter_fold (l := l[i].2.2.2.1) (fun (g : List EDg) (j : Nat) => (g, (j : Int), ())) (gW putS l l[i].1 l[i].2.1) (fun j g' => g'.length ≤ g.length + j) (by simp) (fun j hj g' hg' => ⟨?_, ?_⟩) (r := fun g => (g, ())) (fun g' _ => ?_) rfl
    · unfold spec_BuildGraph_D12
      simp only [lAt_nat h, lAt_nat hj, Option.bind_some, p_specNW hl]
      rw [decide_eq_true (by omega), wrap_succ hj (by omega)]
      simp only [cond_true]
      have e1 := p_specPut (g := g') (by omega) (l[i].1, nwOf l l[i].2.2.2.1[j].1 l[i].2.1, 2, l[i].2.2.2.1[j].1, ())
      simp only at e1
      rw [e1]; rfl
    · have := putS_len g' (l[i].1, nwOf l l[i].2.2.2.1[j].1 l[i].2.1, 2, l[i].2.2.2.1[j].1, ())
      show (putS _ _).length ≤ _
      omega
    · unfold spec_BuildGraph_D12
      simp only [lAt_nat h, Option.bind_some]
      rw [decide_eq_false (by omega)]; rfl
  have e := iter_fold (l := l) (B := fun v => spec_BuildGraph_D3 (l, ()) v _ some) (fun (g : List EDg) (i : Nat) => (g, (i : Int), [], ())) (gX putS l) (fun i g => g.length ≤ 3145728 * i) (s0 := []) (by simp) (fun i h g hg => ⟨by
    unfold spec_BuildGraph_D3
    simp only [lAt_nat h, Option.bind_some, p_specH hl, dec_true hH]
    rw [decide_eq_true (by omega), wrap_succ h (by omega)]
    simp only [cond_true]
    rw [eR i h g (by omega)]
    simp only [Option.bind_some]
    have h2 := foldl_len (f := gR putS l l[i].1) (c := 2) l[i].2.2.1 g fun g m _ => gRS_len l l[i].1 g m
    have h1 := (hl.at h).1
    rw [eW i h _ (by omega)]; rfl, by
    have := gXS_len l (hl.at h) g
    omega⟩) (r := fun g => Sum.inr (g, [], ())) (fun g hg => by
    unfold spec_BuildGraph_D3
    simp only
    rw [decide_eq_false (by omega)]; rfl) (t0 := ([], 0, [], ())) rfl
  simp only
  rw [e, dec_true hH]; rfl

def aE (g : List EDg) (i : Nat) : Prop := ∃ h : i < g.length, inB g[i].1 1 9 = true ∧ inB g[i].2.1 1 9 = true ∧ g[i].1 ≠ g[i].2.1 ∧ inB g[i].2.2.1 1 3 = true ∧ inB g[i].2.2.2.1 0 5 = true ∧ ∀ h2 : 0 < i, ltE (g[i - 1]'(by omega)) g[i] = true

def okG (g : List EDg) : Prop := ∀ i, i < g.length → aE g i

theorem p_implAE {g : List EDg} (hg : g.length ≤ 100000000) : impl_AreEdges_S (g, ()) = some (dec (okG g), ()) := by
  unfold impl_AreEdges_S
  refine (all_loopK (n := g.length) (c := aE g) (no := some (false, ())) (X := some (true, ())) (fun i hi => ?_) ⟨.inr (.inr (.inr (.inr (.inr (.inr ()))))), ?_, rfl⟩).trans ?_
  · unfold impl_AreEdges_D2
    simp only [lAt_nat hi, Option.bind_some, p_isID, p_isKey, p_implIn]
    rw [decide_eq_true (by omega)]
    simp only [cond_true]
    cases h1 : inB g[i].1 1 9 with
    | false => exact ⟨fun ⟨_, h, _⟩ => (by rw [h1] at h; cases h), fun _ => ⟨_, rfl, rfl⟩⟩
    | true =>
    cases h2 : inB g[i].2.1 1 9 with
    | false => exact ⟨fun ⟨_, _, h, _⟩ => (by rw [h2] at h; cases h), fun _ => ⟨_, rfl, rfl⟩⟩
    | true =>
    by_cases h3 : g[i].1 = g[i].2.1
    · rw [show (g[i].1 == g[i].2.1) = true from by simpa using h3]
      exact ⟨fun ⟨_, _, _, h, _⟩ => absurd h3 h, fun _ => ⟨_, rfl, rfl⟩⟩
    rw [show (g[i].1 == g[i].2.1) = false from by simpa using h3]
    cases h4 : inB g[i].2.2.1 1 3 with
    | false => exact ⟨fun ⟨_, _, _, _, h, _⟩ => (by rw [h4] at h; cases h), fun _ => ⟨_, rfl, rfl⟩⟩
    | true =>
    cases h5 : inB g[i].2.2.2.1 0 5 with
    | false => exact ⟨fun ⟨_, _, _, _, _, h, _⟩ => (by rw [h5] at h; cases h), fun _ => ⟨_, rfl, rfl⟩⟩
    | true =>
    simp only [Bool.not_true, cond_false]
    rw [wrap_succ hi (by omega)]
    by_cases h6 : 0 < i
    · have hlt : i - 1 < g.length := by omega
      rw [decide_eq_true (show (i : Int) > 0 by omega), show IntKind.i64.wrap ((i : Int) - 1) = ((i - 1 : Nat) : Int) from by rw [wrap_id (by omega) (by omega)]; omega, lAt_nat hlt]
      simp only [cond_true, Option.bind_some]
      have e := p_cmE (g[i - 1]'hlt) g[i]
      erw [e]
      simp only [Option.bind_some]
      have hlt2 := cmE_lt (g[i - 1]'hlt) g[i]
      cases hx : ltE (g[i - 1]'hlt) g[i] with
      | false =>
        rw [decide_eq_true (by rw [hx] at hlt2; have : ¬ cmE (g[i - 1]'hlt) g[i] < 0 := fun h => by simpa using hlt2.1 h
                               omega)]
        exact ⟨fun ⟨_, _, _, _, _, _, h⟩ => (by have := h h6; rw [hx] at this; cases this), fun _ => ⟨_, rfl, rfl⟩⟩
      | true =>
        have := hlt2.2 hx
        rw [decide_eq_false (by omega)]
        exact ⟨fun _ => rfl, fun h => absurd ⟨hi, h1, h2, h3, h4, h5, fun _ => hx⟩ h⟩
    · rw [decide_eq_false (show ¬ (i : Int) > 0 by omega)]
      exact ⟨fun _ => rfl, fun h => absurd ⟨hi, h1, h2, h3, h4, h5, fun h => absurd h h6⟩ h⟩
  · unfold impl_AreEdges_D2
    simp only
    rw [decide_eq_false (by omega)]; rfl
  · unfold okG
    cases dec (∀ i, i < g.length → aE g i) <;> rfl

theorem p_specAE {g : List EDg} (hg : g.length ≤ 100000000) : spec_AreEdges_S (g, ()) = some (dec (okG g), ()) := by
  unfold spec_AreEdges_S
  refine (all_loopK (n := g.length) (c := aE g) (no := some (false, ())) (X := some (true, ())) (fun i hi => ?_) ⟨.inr (.inr (.inr (.inr (.inr (.inr ()))))), ?_, rfl⟩).trans ?_
  · unfold spec_AreEdges_D2
    simp only [lAt_nat hi, Option.bind_some, p_specIn]
    rw [decide_eq_true (by omega)]
    simp only [cond_true]
    cases h1 : inB g[i].1 1 9 with
    | false => exact ⟨fun ⟨_, h, _⟩ => (by rw [h1] at h; cases h), fun _ => ⟨_, rfl, rfl⟩⟩
    | true =>
    cases h2 : inB g[i].2.1 1 9 with
    | false => exact ⟨fun ⟨_, _, h, _⟩ => (by rw [h2] at h; cases h), fun _ => ⟨_, rfl, rfl⟩⟩
    | true =>
    by_cases h3 : g[i].1 = g[i].2.1
    · rw [show (g[i].1 == g[i].2.1) = true from by simpa using h3]
      exact ⟨fun ⟨_, _, _, h, _⟩ => absurd h3 h, fun _ => ⟨_, rfl, rfl⟩⟩
    rw [show (g[i].1 == g[i].2.1) = false from by simpa using h3]
    cases h4 : inB g[i].2.2.1 1 3 with
    | false => exact ⟨fun ⟨_, _, _, _, h, _⟩ => (by rw [h4] at h; cases h), fun _ => ⟨_, rfl, rfl⟩⟩
    | true =>
    cases h5 : inB g[i].2.2.2.1 0 5 with
    | false => exact ⟨fun ⟨_, _, _, _, _, h, _⟩ => (by rw [h5] at h; cases h), fun _ => ⟨_, rfl, rfl⟩⟩
    | true =>
    simp only [Bool.not_true, cond_false]
    rw [wrap_succ hi (by omega)]
    by_cases h6 : 0 < i
    · have hlt : i - 1 < g.length := by omega
      rw [decide_eq_true (show (i : Int) > 0 by omega), show IntKind.i64.wrap ((i : Int) - 1) = ((i - 1 : Nat) : Int) from by rw [wrap_id (by omega) (by omega)]; omega, lAt_nat hlt]
      simp only [cond_true, Option.bind_some]
      have e := p_less (g[i - 1]'hlt) g[i]
      erw [e]
      simp only [Option.bind_some]
      cases hx : ltE (g[i - 1]'hlt) g[i] with
      | false =>
        exact ⟨fun ⟨_, _, _, _, _, _, h⟩ => (by have := h h6; rw [hx] at this; cases this), fun _ => ⟨_, rfl, rfl⟩⟩
      | true =>
        exact ⟨fun _ => rfl, fun h => absurd ⟨hi, h1, h2, h3, h4, h5, fun _ => hx⟩ h⟩
    · rw [decide_eq_false (show ¬ (i : Int) > 0 by omega)]
      exact ⟨fun _ => rfl, fun h => absurd ⟨hi, h1, h2, h3, h4, h5, fun h => absurd h h6⟩ h⟩
  · unfold spec_AreEdges_D2
    simp only
    rw [decide_eq_false (by omega)]; rfl
  · unfold okG
    cases dec (∀ i, i < g.length → aE g i) <;> rfl

/-- Is there an edge? -/
def heE (g : List EDg) (a b : Int) : Bool := g.any fun e => e.1 == a && e.2.1 == b

theorem ix_hasEdge {l : List EDg} (hl : l.length ≤ 100000000) (a b : Int) : slices_IndexFunc__impl_HasEdge_1_S (l, (some a, some b, ()), ()) = some (fx (l.findIdx? fun e => e.1 == a && e.2.1 == b), ()) := by
  unfold slices_IndexFunc__impl_HasEdge_1_S
  have e := iter_first (l := l) (B := fun v => slices_IndexFunc__impl_HasEdge_1_D2 (l, (some a, some b, ()), ((l.length : Nat) : Int), ()) v _ some) (fun j => ((j : Int), ())) (fun e => e.1 == a && e.2.1 == b) (fd := fun j => Sum.inl ((j : Int), ())) (no := Sum.inr ()) (fun j hj => by
    unfold slices_IndexFunc__impl_HasEdge_1_D2 impl_HasEdge_1_S
    simp only [lAt_nat hj, Option.bind_some]
    rw [decide_eq_true (by omega), wrap_succ hj (by omega)]
    simp only [cond_true]
    cases (l[j].1 == a : Bool) <;> cases (l[j].2.1 == b : Bool) <;> rfl) (by
    unfold slices_IndexFunc__impl_HasEdge_1_D2
    simp only
    rw [decide_eq_false (by omega)]; rfl) (t0 := (0, ())) rfl
  simp only
  rw [e]
  cases l.findIdx? (fun e => e.1 == a && e.2.1 == b) <;> rfl

theorem p_implHE {g : List EDg} (hg : g.length ≤ 100000000) (a b : Int) : impl_HasEdge_S (g, a, b, ()) = some (heE g a b, ()) := by
  unfold impl_HasEdge_S slices_ContainsFunc__impl_HasEdge_1_S
  simp only [ix_hasEdge hg, Option.bind_some, fx_any]; rfl

theorem p_specHE {g : List EDg} (hg : g.length ≤ 100000000) (a b : Int) : spec_HasEdge_S (g, a, b, ()) = some (heE g a b, ()) := by
  unfold spec_HasEdge_S heE
  have e := first_loop (l := g) (p := fun e => e.1 == a && e.2.1 == b) (B := fun v => spec_HasEdge_D2 (g, a, b, ()) v _ some) (k := fun p => sumC p (fun p => some (true, ())) fun p => some (false, ())) (yes := fun e => some (true, ())) (no := some (false, ())) (fun i h => by
    unfold spec_HasEdge_D2
    simp only [lAt_nat h, Option.bind_some]
    rw [decide_eq_true (by omega), wrap_succ h (by omega)]
    simp only [cond_true]
    cases (g[i].1 == a : Bool) <;> cases (g[i].2.1 == b : Bool) <;> simp [sumC]) (by
    unfold spec_HasEdge_D2
    simp only
    rw [decide_eq_false (by omega)]; exact ⟨_, rfl, rfl⟩)
  rw [e, find_any]

theorem p_contains {l : List Int} (hl : l.length ≤ 100000000) (x : Int) : slices_Contains_int_S (l, x, ()) = some (l.contains x, ()) := by
  unfold slices_Contains_int_S slices_Index_int_S
  have e := iter_first (l := l) (B := fun v => slices_Index_int_D2 (l, x, ((l.length : Nat) : Int), ()) v _ some) (fun j => ((j : Int), ())) (fun y => x == y) (fd := fun j => Sum.inl ((j : Int), ())) (no := Sum.inr ()) (fun j hj => by
    unfold slices_Index_int_D2
    simp only [lAt_nat hj, Option.bind_some]
    rw [decide_eq_true (by omega), wrap_succ hj (by omega)]
    simp only [cond_true]
    cases (x == l[j] : Bool) <;> rfl) (by
    unfold slices_Index_int_D2
    simp only
    rw [decide_eq_false (by omega)]; rfl) (t0 := (0, ())) rfl
  simp only
  rw [e]
  have h2 := findIdx_any l (fun y => x == y)
  rw [List.contains_eq_any_beq, ← h2]
  cases l.findIdx? (fun y => x == y) with
  | none => rfl
  | some i => simp [sumC]

def cC (g : List EDg) (c : List Int) (i : Nat) : Prop := ∃ h : i < c.length, (∀ j, (hj : j < i) → c[j]'(by omega) ≠ c[i]) ∧ heE g c[i] (c[(i + 1) % c.length]'(Nat.mod_lt _ (by omega))) = true

def okCy (g : List EDg) (c : List Int) : Prop := okG g ∧ 2 ≤ c.length ∧ ∀ i, i < c.length → cC g c i

theorem rem_len {i n : Nat} (h : i < n) (hn : n ≤ 100000000) : rem? (IntKind.i64.wrap ((i : Int) + 1)) ((n : Nat) : Int) = some (((i + 1) % n : Nat) : Int) := by
  rw [wrap_succ h (by omega)]
  unfold rem?
  rw [if_neg (by omega)]
  congr 1

theorem p_implCy {g : List EDg} {c : List Int} (hg : g.length ≤ 100000000) (hc : c.length ≤ 100000000) : impl_CheckCycle_S (g, c, ()) = some (dec (okCy g c), ()) := by
  unfold impl_CheckCycle_S
  simp only [p_implAE hg, Option.bind_some]
  by_cases hG : okG g
  case neg => rw [dec_false hG, dec_false (fun h : okCy g c => hG h.1)]; rfl
  rw [dec_true hG]
  simp only [Bool.not_true, cond_false]
  by_cases h2 : 2 ≤ c.length
  case neg => rw [decide_eq_true (by omega), dec_false (fun h : okCy g c => h2 h.2.1)]; rfl
  rw [decide_eq_false (by omega)]
  simp only [cond_false]
  refine (all_loopK (n := c.length) (c := cC g c) (no := some (false, ())) (X := some (true, ())) (fun i hi => ?_) ⟨.inr (.inr ()), ?_, rfl⟩).trans ?_
  · have hmod : (i + 1) % c.length < c.length := Nat.mod_lt _ (by omega)
    unfold impl_CheckCycle_D4
    simp only [lAt_nat hi, Option.bind_some, slAt0 (Nat.le_of_lt hi), p_contains (show (c.take i).length ≤ 100000000 by simp; omega), rem_len hi hc, lAt_nat hmod, p_implHE hg]
    rw [decide_eq_true (by omega), wrap_succ hi (by omega)]
    simp only [cond_true]
    have h3 : (c.take i).contains c[i] = false ↔ ∀ j, (hj : j < i) → c[j]'(by omega) ≠ c[i] := by
      rw [← Bool.not_eq_true, List.contains_iff_mem, List.mem_iff_getElem]
      constructor
      · intro h j hj e
        exact h ⟨j, by simp; omega, by simpa using e⟩
      · rintro h ⟨j, hj, e⟩
        exact h j (by simp at hj; omega) (by simpa using e)
    cases h4 : (c.take i).contains c[i] with
    | true =>
      exact ⟨fun ⟨_, h, _⟩ => (by rw [h3.2 h] at h4; cases h4), fun _ => ⟨_, rfl, rfl⟩⟩
    | false =>
      simp only [cond_false]
      cases h5 : heE g c[i] c[(i + 1) % c.length] with
      | false => exact ⟨fun ⟨_, _, h⟩ => (by rw [h5] at h; cases h), fun _ => ⟨_, rfl, rfl⟩⟩
      | true => exact ⟨fun _ => rfl, fun h => absurd ⟨hi, h3.1 h4, h5⟩ h⟩
  · unfold impl_CheckCycle_D4
    simp only
    rw [decide_eq_false (by omega)]; rfl
  · by_cases h : ∀ i, i < c.length → cC g c i
    · rw [dec_true h, dec_true (show okCy g c from ⟨hG, h2, h⟩)]; rfl
    · rw [dec_false h, dec_false (fun h' : okCy g c => h h'.2.2)]; rfl

theorem p_specCy {g : List EDg} {c : List Int} (hg : g.length ≤ 100000000) (hc : c.length ≤ 100000000) : spec_CheckCycle_S (g, c, ()) = some (dec (okCy g c), ()) := by
  unfold spec_CheckCycle_S
  refine (all_loopK (n := c.length) (c := cC g c) (no := some (false, ())) (X := bif dec (okG g) then some (decide ((c.length : Int) > 1), ()) else some (false, ())) (fun i hi => ?_) ⟨.inr (.inr ()), ?_, ?_⟩).trans ?_
  · have hmod : (i + 1) % c.length < c.length := Nat.mod_lt _ (by omega)
    have e := all_iter (ρ := Unit ⊕ Unit) (n := i) (c := fun j => ∀ hj : j < i, c[j]'(by omega) ≠ c[i]) (B := fun v => spec_CheckCycle_D5 (g, c, (i : Int), ()) v _ some) (Bad := fun r => r = .inl ()) (fin := .inr ()) (fun j hj => by
      have hjc : j < c.length := by omega
      unfold spec_CheckCycle_D5
      simp only [lAt_nat hi, lAt_nat hjc, Option.bind_some]
      rw [decide_eq_true (by omega), wrap_succ hj (by omega)]
      simp only [cond_true]
      by_cases h : c[j] = c[i]
      · rw [show (c[j] == c[i]) = true from by simpa using h]
        exact ⟨fun h' => absurd h (h' hj), fun _ => ⟨_, rfl, rfl⟩⟩
      · rw [show (c[j] == c[i]) = false from by simpa using h]
        exact ⟨fun _ => rfl, fun h' => absurd (fun _ => h) h'⟩) (by
      unfold spec_CheckCycle_D5
      simp only
      rw [decide_eq_false (by omega)]; rfl)
    unfold spec_CheckCycle_D2
    simp only
    rw [decide_eq_true (by omega)]
    simp only [cond_true]
    by_cases h : ∀ j, j < i → ∀ hj : j < i, c[j]'(by omega) ≠ c[i]
    · rw [e.1 h]
      simp only [lAt_nat hi, Option.bind_some, sumC, rem_len hi hc, lAt_nat hmod, p_specHE hg]
      rw [wrap_succ hi (by omega)]
      cases h5 : heE g c[i] c[(i + 1) % c.length] with
      | false => exact ⟨fun ⟨_, _, h⟩ => (by rw [h5] at h; cases h), fun _ => ⟨_, rfl, rfl⟩⟩
      | true => exact ⟨fun _ => rfl, fun h' => absurd ⟨hi, fun j hj => h j hj hj, h5⟩ h'⟩
    · obtain ⟨r, h1, rfl⟩ := e.2 h
      rw [h1]
      exact ⟨fun ⟨_, h', _⟩ => absurd (fun j _ hj => h' j hj) h, fun _ => ⟨_, rfl, rfl⟩⟩
  · unfold spec_CheckCycle_D2
    simp only
    rw [decide_eq_false (by omega)]; rfl
  · simp only [sumC, p_specAE hg, Option.bind_some]
  · by_cases h : ∀ i, i < c.length → cC g c i
    · rw [dec_true h]
      by_cases hG : okG g
      · rw [dec_true hG]
        by_cases h2 : 2 ≤ c.length
        · rw [decide_eq_true (by omega), dec_true (show okCy g c from ⟨hG, h2, h⟩)]; rfl
        · rw [decide_eq_false (by omega), dec_false (fun h : okCy g c => h2 h.2.1)]; rfl
      · rw [dec_false hG, dec_false (fun h : okCy g c => hG h.1)]; rfl
    · rw [dec_false h, dec_false (fun h' : okCy g c => h h'.2.2)]; rfl

def nine : List Int := (List.range 9).map fun k => ((k + 1 : Nat) : Int)

def isE (l : List EN) (id : Int) : Prop := ∃ e ∈ l, e.1 = id

theorem isE_feI {l : List EN} {id : Int} (h : isE l id) : ∃ j, ∃ hj : j < l.length, feI l id = some j ∧ l[j].1 = id := by
  obtain ⟨e, he, rfl⟩ := h
  unfold feI
  cases hx : l.findIdx? (fun x => x.1 == e.1) with
  | none => have := List.findIdx?_eq_none_iff.1 hx e he; simp at this
  | some j =>
    obtain ⟨hj, h2, _⟩ := findIdx_get hx
    exact ⟨j, hj, rfl, by simpa using h2⟩

theorem isE_wr {l : List EN} {k c : Int} (h : wrOf l k c ≠ 0) : isE l (wrOf l k c) := by
  unfold wrOf at h ⊢
  cases hf : l.find? (isW k c) with
  | none => rw [hf] at h; exact absurd rfl h
  | some e => exact ⟨e, List.mem_of_find?_eq_some hf, rfl⟩

theorem nw_mem (k a : Int) : ∀ (l m : List EN) (s : Option EN), (∀ e, s = some e → e ∈ m) → (∀ e ∈ l, e ∈ m) → ∀ e, l.foldl (nwS k a) s = some e → e ∈ m
  | [], m, s, hs, _, e, he => hs e he
  | x :: l, m, s, hs, hl, e, he => by
    refine nw_mem k a l m (nwS k a s x) (fun y hy => ?_) (fun y hy => hl y (List.mem_cons_of_mem _ hy)) e he
    have hx := hl x (List.mem_cons_self ..)
    unfold nwS at hy
    split at hy
    · split at hy
      · obtain rfl := Option.some.inj hy; exact hx
      · split at hy
        · obtain rfl := Option.some.inj hy; exact hx
        · obtain rfl := Option.some.inj hy; exact hs _ rfl
    · exact hs y hy

theorem isE_nw {l : List EN} {k c : Int} (h : nwOf l k c ≠ 0) : isE l (nwOf l k c) := by
  unfold nwOf at h ⊢
  cases hf : l.foldl (nwS k c) none with
  | none => rw [hf] at h; exact absurd rfl h
  | some e => exact ⟨e, nw_mem k c l l none (fun e he => by cases he) (fun e he => he) e hf, rfl⟩

theorem putS_mem {g : List EDg} {e x : EDg} (h : x ∈ putS g e) : x ∈ g ∨ (x = e ∧ okEd e = true) := by
  unfold putS at h
  split at h
  · rename_i hok
    rcases (insE_mem stoE x).1 h with h | h
    · exact .inl h
    · exact .inr ⟨h, hok⟩
  · exact .inl h

theorem okEd_iff (e : EDg) : okEd e = true ↔ e.1 ≠ 0 ∧ e.2.1 ≠ 0 ∧ e.1 ≠ e.2.1 := by
  unfold okEd; simp

theorem grS_ends (l : List EN) : ∀ e ∈ grS l, isE l e.1 ∧ isE l e.2.1 ∧ e.1 ≠ e.2.1 := by
  let I : List EDg → Prop := fun g => ∀ e ∈ g, isE l e.1 ∧ isE l e.2.1 ∧ e.1 ≠ e.2.1
  have hR : ∀ x ∈ l, ∀ g m, I g → I (gR putS l x.1 g m) := by
    intro x hx g m hg e he
    unfold gR at he
    rcases putS_mem he with he | ⟨rfl, h⟩
    · rcases putS_mem he with he | ⟨rfl, h⟩
      · exact hg e he
      · rw [okEd_iff] at h
        exact ⟨isE_wr h.1, ⟨x, hx, rfl⟩, h.2.2⟩
    · rw [okEd_iff] at h
      exact ⟨⟨x, hx, rfl⟩, isE_nw h.2.1, h.2.2⟩
  have hW : ∀ x ∈ l, ∀ g m, I g → I (gW putS l x.1 x.2.1 g m) := by
    intro x hx g m hg e he
    unfold gW at he
    rcases putS_mem he with he | ⟨rfl, h⟩
    · exact hg e he
    · rw [okEd_iff] at h
      exact ⟨⟨x, hx, rfl⟩, isE_nw h.2.1, h.2.2⟩
  refine foldl_inv (I := I) l [] (fun e he => by cases he) fun x hx g hg => ?_
  unfold gX
  exact foldl_inv (I := I) _ _ (foldl_inv (I := I) _ _ hg fun m _ g hg => hR x hx g m hg) fun m _ g hg => hW x hx g m hg

theorem bgr_ends (l : List EN) : ∀ e ∈ bgr l, isE l e.1 ∧ isE l e.2.1 ∧ e.1 ≠ e.2.1 := by
  intro e he
  unfold bgr at he
  cases hd : dec (okH l) with
  | false => rw [hd] at he; cases he
  | true => rw [hd] at he; exact grS_ends l e he

theorem bgr_len {l : List EN} (hl : smEs l) : (bgr l).length ≤ 10000000 := by
  unfold bgr
  by_cases h : okH l
  · rw [dec_true h]
    -- at most nine entries: few reads and writes
    have h9 := h.1
    have hb : ∀ e ∈ l, e.2.2.1.length ≤ 60 ∧ e.2.2.2.1.length ≤ 1048576 := by
      intro e he
      obtain ⟨i, hi, rfl⟩ := List.mem_iff_getElem.1 he
      obtain ⟨_, h1, _⟩ := h.2.1 i hi
      unfold okEn okT at h1
      simp only [Bool.and_eq_true, decide_eq_true_iff] at h1
      exact ⟨h1.2, (hl.at hi).2⟩
    have := foldl_len (f := gX putS l) (c := 1048696) l [] fun g e he => by
      unfold gX
      have h1 := foldl_len (f := gR putS l e.1) (c := 2) e.2.2.1 g fun g m _ => gRS_len l e.1 g m
      have h2 := foldl_len (f := gW putS l e.1 e.2.1) (c := 1) e.2.2.2.1 (e.2.2.1.foldl (gR putS l e.1) g) fun g m _ => putS_len _ _
      have h3 := (hb e he).1
      have h4 := (hb e he).2
      omega
    show (grS l).length ≤ _
    unfold grS gA
    simp only [List.length_nil] at this
    omega
  · rw [dec_false h]; simp

def rdy (g : List EDg) (done : List Int) (id : Int) : Bool := !(g.any fun e => e.2.1 == id && !done.contains e.1)

theorem p_isReady {g : List EDg} {done : List Int} (hg : g.length ≤ 10000000) (hd : done.length ≤ 100000000) (id : Int) : impl_isReady_S (g, id, done, ()) = some (rdy g done id, ()) := by
  unfold impl_isReady_S slices_ContainsFunc__impl_isReady_1_S slices_IndexFunc__impl_isReady_1_S
  have e := iter_first (l := g) (B := fun v => slices_IndexFunc__impl_isReady_1_D2 (g, (some id, some done, ()), ((g.length : Nat) : Int), ()) v _ some) (fun j => ((j : Int), ())) (fun e => e.2.1 == id && !done.contains e.1) (fd := fun j => Sum.inl ((j : Int), ())) (no := Sum.inr ()) (fun j hj => by
    unfold slices_IndexFunc__impl_isReady_1_D2 impl_isReady_1_S
    simp only [lAt_nat hj, Option.bind_some, p_contains hd]
    rw [decide_eq_true (by omega), wrap_succ hj (by omega)]
    simp only [cond_true]
    cases (g[j].2.1 == id : Bool) <;> cases done.contains g[j].1 <;> rfl) (by
    unfold slices_IndexFunc__impl_isReady_1_D2
    simp only
    rw [decide_eq_false (by omega)]; rfl) (t0 := (0, ())) rfl
  simp only
  rw [e]
  have h2 := findIdx_any g (fun e => e.2.1 == id && !done.contains e.1)
  unfold rdy
  rw [← h2]
  cases g.findIdx? (fun e => e.2.1 == id && !done.contains e.1) with
  | none => rfl
  | some i => simp [sumC]

theorem p_has {l : List Int} (hl : l.length ≤ 100000000) (x : Int) : spec_l21Has_S (l, x, ()) = some (l.contains x, ()) := by
  unfold spec_l21Has_S
  have e := iter_first (l := l) (B := fun v => spec_l21Has_D2 (l, x, ()) v _ some) (fun j => ((j : Int), ())) (fun y => x == y) (fd := fun j => Sum.inl ()) (no := Sum.inr ()) (fun j hj => by
    unfold spec_l21Has_D2
    simp only [lAt_nat hj, Option.bind_some]
    rw [decide_eq_true (by omega), wrap_succ hj (by omega), beq_sym]
    simp only [cond_true]
    cases (x == l[j] : Bool) <;> rfl) (by
    unfold spec_l21Has_D2
    simp only
    rw [decide_eq_false (by omega)]; rfl) (t0 := (0, ())) rfl
  simp only
  rw [e]
  have h2 := findIdx_any l (fun y => x == y)
  rw [List.contains_eq_any_beq, ← h2]
  cases l.findIdx? (fun y => x == y) with
  | none => rfl
  | some i => simp [sumC]

theorem p_free {g : List EDg} {done : List Int} (hg : g.length ≤ 10000000) (hd : done.length ≤ 100000000) (id : Int) : spec_l21Free_S (g, done, id, ()) = some (rdy g done id, ()) := by
  unfold spec_l21Free_S
  have e := iter_first (l := g) (B := fun v => spec_l21Free_D2 (g, done, id, ()) v _ some) (fun j => ((j : Int), ())) (fun e => e.2.1 == id && !done.contains e.1) (fd := fun j => Sum.inl ()) (no := Sum.inr ()) (fun j hj => by
    unfold spec_l21Free_D2
    simp only [lAt_nat hj, Option.bind_some, p_has hd]
    rw [decide_eq_true (by omega), wrap_succ hj (by omega)]
    simp only [cond_true]
    cases (g[j].2.1 == id : Bool) <;> cases done.contains g[j].1 <;> rfl) (by
    unfold spec_l21Free_D2
    simp only
    rw [decide_eq_false (by omega)]; rfl) (t0 := (0, ())) rfl
  simp only
  rw [e]
  have h2 := findIdx_any g (fun e => e.2.1 == id && !done.contains e.1)
  unfold rdy
  rw [← h2]
  cases g.findIdx? (fun e => e.2.1 == id && !done.contains e.1) with
  | none => rfl
  | some i => simp [sumC]

theorem find_idx {α : Type} (l : List α) (p : α → Bool) : match l.findIdx? p with | none => l.find? p = none | some i => ∃ h : i < l.length, l.find? p = some l[i] := by
  induction l with
  | nil => rfl
  | cons a l ih =>
    rw [List.findIdx?_cons, List.find?_cons]
    cases p a with
    | true => exact ⟨by simp, rfl⟩
    | false =>
      simp only [Bool.false_eq_true, if_false]
      revert ih
      cases l.findIdx? p with
      | none => intro ih; exact ih
      | some i => rintro ⟨h, e⟩; exact ⟨by simpa using h, e⟩

def entD : EN := (0, 0, [], [], ())

def entOf (l : List EN) (id : Int) : EN := (l.find? fun e => e.1 == id).getD entD

theorem entOf_lAt {l : List EN} {id : Int} (h : isE l id) : lAt l (fx (feI l id)) = some (entOf l id) ∧ entOf l id ∈ l := by
  obtain ⟨j, hj, h1, h2⟩ := isE_feI h
  have hf := find_idx l (fun e => e.1 == id)
  unfold feI at h1 ⊢
  rw [h1] at hf ⊢
  obtain ⟨_, hf⟩ := hf
  unfold entOf
  rw [hf]
  exact ⟨lAt_nat hj, List.getElem_mem hj⟩

theorem p_cls1 {l : List EN} (hl : smEs l) {id : Int} (h : isE l id) : impl_ClassifyCycle_1_S (id, some l, ()) = some (entOf l id) := by
  unfold impl_ClassifyCycle_1_S
  simp only [Option.bind_some, p_implFE hl.1, (entOf_lAt h).1]

theorem okCy_ends {g : List EDg} {c : List Int} (h : okCy g c) : ∀ x ∈ c, (∃ e ∈ g, e.1 = x) := by
  intro x hx
  obtain ⟨i, hi, rfl⟩ := List.mem_iff_getElem.1 hx
  obtain ⟨_, _, h3⟩ := h.2.2 i hi
  unfold heE at h3
  obtain ⟨e, he, h4⟩ := List.any_eq_true.1 h3
  simp only [Bool.and_eq_true, beq_iff_eq] at h4
  exact ⟨e, he, h4.1⟩

def noW (l : List EN) (x : Int) : Bool := ((entOf l x).2.2.2.1.length : Int) == 0

def bothW (a b : EN) : Bool := a.2.2.2.1.any fun m => wrt m.1 b

/-- All edges between two are anti-dependencies. -/
def notO (a b : Int) (e : EDg) : Bool := e.1 == a && (e.2.1 == b && e.2.2.1 != 3)

def onlyA (g : List EDg) (a b : Int) : Bool := !(g.any (notO a b))

noncomputable def cls (l : List EN) (c : List Int) : Int :=
  bif dec (okCy (bgr l) c) then bif c.any (noW l) then 3 else bif decide (c.length > 2) then 4 else bif bothW (entOf l (c.getD 0 0)) (entOf l (c.getD 1 0)) then 1 else bif onlyA (bgr l) (c.getD 0 0) (c.getD 1 0) && onlyA (bgr l) (c.getD 1 0) (c.getD 0 0) then 2 else 4 else 0

theorem p_only {g : List EDg} (hg : g.length ≤ 10000000) (a b : Int) : spec_l23Only_S (g, a, b, ()) = some (onlyA g a b, ()) := by
  unfold spec_l23Only_S
  have e := iter_first (l := g) (B := fun v => spec_l23Only_D2 (g, a, b, ()) v _ some) (fun j => ((j : Int), ())) (notO a b) (fd := fun j => Sum.inl ()) (no := Sum.inr ()) (fun j hj => by
    unfold spec_l23Only_D2 notO
    simp only [lAt_nat hj, Option.bind_some]
    rw [decide_eq_true (by omega), wrap_succ hj (by omega)]
    simp only [cond_true]
    cases (g[j].1 == a : Bool) <;> cases (g[j].2.1 == b : Bool) <;> cases (g[j].2.2.1 != 3 : Bool) <;> rfl) (by
    unfold spec_l23Only_D2
    simp only
    rw [decide_eq_false (by omega)]; rfl) (t0 := (0, ())) rfl
  simp only
  rw [e]
  have h2 := findIdx_any g (notO a b)
  unfold onlyA
  rw [← h2]
  cases g.findIdx? (notO a b) with
  | none => rfl
  | some i => simp [sumC]

theorem two_of {c : List Int} (h : c.length = 2) : c = [c.getD 0 0, c.getD 1 0] := by
  match c, h with
  | [a, b], _ => rfl

theorem get2 {c : List Int} (h : 2 ≤ c.length) : lAt c 0 = some (c.getD 0 0) ∧ lAt c 1 = some (c.getD 1 0) ∧ c.getD 0 0 ∈ c ∧ c.getD 1 0 ∈ c := by
  match c, h with
  | a :: b :: r, _ => exact ⟨rfl, rfl, by simp, by simp⟩

theorem p_implCls {l : List EN} (hl : smEs l) {c : List Int} (hc : c.length ≤ 1048576) : impl_ClassifyCycle_S (l, c, ()) = some (cls l c, ()) := by
  have hg := bgr_len hl
  unfold impl_ClassifyCycle_S cls
  simp only [p_implBG hl, Option.bind_some, p_implCy (show (bgr l).length ≤ 100000000 by omega) (show c.length ≤ 100000000 by omega)]
  by_cases hO : okCy (bgr l) c
  case neg => rw [dec_false hO]; rfl
  rw [dec_true hO]
  simp only [Bool.not_true, cond_false, cond_true]
  have hE : ∀ x ∈ c, isE l x := by
    intro x hx
    obtain ⟨e, he, rfl⟩ := okCy_ends hO x hx
    exact (bgr_ends l e he).1
  have e2 : slices_ContainsFunc__impl_ClassifyCycle_2_S (c, (some (some l, ()), ()), ()) = some (c.any (noW l), ()) := by
    refine p_cf_impl_ClassifyCycle_2 hc (some (some l, ()), ()) (p := noW l) (fun x hx => ?_)
    unfold impl_ClassifyCycle_2_S
    simp only [Option.bind_some, p_cls1 hl (hE x hx)]; rfl
  simp only [e2, Option.bind_some]
  cases hw : c.any (noW l) with
  | true => rfl
  | false =>
    simp only [cond_false]
    have h2 := hO.2.1
    by_cases h3 : c.length > 2
    · rw [decide_eq_true h3, show (((c.length : Nat) : Int) != 2) = true from by rw [ne_int]; simp; omega]; rfl
    · rw [decide_eq_false h3, show (((c.length : Nat) : Int) != 2) = false from by rw [ne_int]; simp; omega]
      have hlen : c.length = 2 := by omega
      obtain ⟨g0, g1, m0, m1⟩ := get2 h2
      simp only [cond_false, g0, g1, Option.bind_some, p_cls1 hl (hE _ m0), p_cls1 hl (hE _ m1)]
      have hs0 := hl.2 _ (entOf_lAt (hE _ m0)).2
      have hs1 := hl.2 _ (entOf_lAt (hE _ m1)).2
      have e4 : slices_ContainsFunc__impl_ClassifyCycle_4_S ((entOf l (c.getD 0 0)).2.2.2.1, (some (entOf l (c.getD 1 0)), ()), ()) = some (bothW (entOf l (c.getD 0 0)) (entOf l (c.getD 1 0)), ()) := by
        refine p_cf_impl_ClassifyCycle_4 hs0.2 (some (entOf l (c.getD 1 0)), ()) (p := fun m => wrt m.1 (entOf l (c.getD 1 0))) (fun m hm => ?_)
        unfold impl_ClassifyCycle_4_S
        simp only [Option.bind_some, p_writes hs1]
      erw [e4]
      simp only [Option.bind_some]
      cases hb : bothW (entOf l (c.getD 0 0)) (entOf l (c.getD 1 0)) with
      | true => rfl
      | false =>
        simp only [cond_false]
        have e5 : slices_ContainsFunc__impl_ClassifyCycle_5_S (bgr l, (some (some c, ()), ()), ()) = some ((bgr l).any fun e => (c.contains e.1 && c.contains e.2.1) && e.2.2.1 != 3, ()) := by
          unfold slices_ContainsFunc__impl_ClassifyCycle_5_S slices_IndexFunc__impl_ClassifyCycle_5_S
          have e := iter_first (l := bgr l) (B := fun v => slices_IndexFunc__impl_ClassifyCycle_5_D2 (bgr l, (some (some c, ()), ()), (((bgr l).length : Nat) : Int), ()) v _ some) (fun j => ((j : Int), ())) (fun e => (c.contains e.1 && c.contains e.2.1) && e.2.2.1 != 3) (fd := fun j => Sum.inl ((j : Int), ())) (no := Sum.inr ()) (fun j hj => by
            unfold slices_IndexFunc__impl_ClassifyCycle_5_D2 impl_ClassifyCycle_5_S impl_ClassifyCycle_3_S
            simp only [lAt_nat hj, Option.bind_some, p_contains (show c.length ≤ 100000000 by omega)]
            rw [decide_eq_true (by omega), wrap_succ hj (by omega)]
            simp only [cond_true]
            cases c.contains (bgr l)[j].1 <;> cases c.contains (bgr l)[j].2.1 <;> cases ((bgr l)[j].2.2.1 != 3 : Bool) <;> rfl) (by
            unfold slices_IndexFunc__impl_ClassifyCycle_5_D2
            simp only
            rw [decide_eq_false (by omega)]; rfl) (t0 := (0, ())) rfl
          simp only
          rw [e]
          have h2 := findIdx_any (bgr l) (fun e => (c.contains e.1 && c.contains e.2.1) && e.2.2.1 != 3)
          rw [← h2]
          cases (bgr l).findIdx? (fun e => (c.contains e.1 && c.contains e.2.1) && e.2.2.1 != 3) with
          | none => rfl
          | some i => simp [sumC]
        rw [e5]
        simp only [Option.bind_some]
        have hh : (!(bgr l).any fun e => (c.contains e.1 && c.contains e.2.1) && e.2.2.1 != 3) = (onlyA (bgr l) (c.getD 0 0) (c.getD 1 0) && onlyA (bgr l) (c.getD 1 0) (c.getD 0 0)) := by
          unfold onlyA
          rw [← Bool.not_or]
          congr 1
          rw [Bool.eq_iff_iff, Bool.or_eq_true, List.any_eq_true, List.any_eq_true, List.any_eq_true]
          have hcon : ∀ x : Int, c.contains x = true ↔ (x = c.getD 0 0 ∨ x = c.getD 1 0) := by
            intro x
            rw [List.contains_iff_mem]
            conv => lhs; rw [two_of hlen]
            simp
          constructor
          · rintro ⟨e, he, h⟩
            simp only [Bool.and_eq_true, hcon] at h
            have hne := (bgr_ends l e he).2.2
            obtain ⟨⟨h1, h2⟩, h3⟩ := h
            rcases h1 with h1 | h1 <;> rcases h2 with h2 | h2
            · exact absurd (h1.trans h2.symm) hne
            · exact .inl ⟨e, he, by simp only [notO, Bool.and_eq_true, beq_iff_eq]; exact ⟨h1, h2, h3⟩⟩
            · exact .inr ⟨e, he, by simp only [notO, Bool.and_eq_true, beq_iff_eq]; exact ⟨h1, h2, h3⟩⟩
            · exact absurd (h1.trans h2.symm) hne
          · rintro (⟨e, he, h⟩ | ⟨e, he, h⟩)
            · simp only [notO, Bool.and_eq_true, beq_iff_eq] at h
              exact ⟨e, he, by simp only [Bool.and_eq_true, hcon]; exact ⟨⟨.inl h.1, .inr h.2.1⟩, h.2.2⟩⟩
            · simp only [notO, Bool.and_eq_true, beq_iff_eq] at h
              exact ⟨e, he, by simp only [Bool.and_eq_true, hcon]; exact ⟨⟨.inr h.1, .inl h.2.1⟩, h.2.2⟩⟩
        rw [← hh]
        cases ((bgr l).any fun e => (c.contains e.1 && c.contains e.2.1) && e.2.2.1 != 3) <;> rfl

theorem p_specCls {l : List EN} (hl : smEs l) {c : List Int} (hc : c.length ≤ 1048576) : spec_ClassifyCycle_S (l, c, ()) = some (cls l c, ()) := by
  have hg := bgr_len hl
  unfold spec_ClassifyCycle_S cls
  simp only [p_specBG hl, Option.bind_some, p_specCy (show (bgr l).length ≤ 100000000 by omega) (show c.length ≤ 100000000 by omega)]
  by_cases hO : okCy (bgr l) c
  case neg => rw [dec_false hO]; rfl
  rw [dec_true hO]
  simp only [Bool.not_true, cond_false, cond_true]
  have hE : ∀ x ∈ c, isE l x := by
    intro x hx
    obtain ⟨e, he, rfl⟩ := okCy_ends hO x hx
    exact (bgr_ends l e he).1
  have e2 := iter_first (l := c) (B := fun v => spec_ClassifyCycle_D5 (l, c, bgr l, ()) v _ some) (fun j => ((j : Int), ())) (noW l) (fd := fun j => Sum.inl ()) (no := Sum.inr ()) (fun j hj => by
    unfold spec_ClassifyCycle_D5 noW
    simp only [lAt_nat hj, Option.bind_some, p_specFE hl.1, (entOf_lAt (hE _ (List.getElem_mem hj))).1]
    rw [decide_eq_true (by omega), wrap_succ hj (by omega)]
    simp only [cond_true]
    cases ((((entOf l c[j]).2.2.2.1.length : Nat) : Int) == 0 : Bool) <;> rfl) (by
    unfold spec_ClassifyCycle_D5
    simp only
    rw [decide_eq_false (by omega)]; rfl) (t0 := (0, ())) rfl
  have h2 := findIdx_any c (noW l)
  rw [e2, ← h2]
  cases hx : c.findIdx? (noW l) with
  | some i => rfl
  | none =>
    simp only [Option.bind_some, sumC, Option.isSome_none, cond_false]
    have h2 := hO.2.1
    by_cases h3 : c.length > 2
    · rw [decide_eq_true h3, decide_eq_true (show ((c.length : Nat) : Int) > 2 by omega)]; rfl
    · rw [decide_eq_false h3, decide_eq_false (show ¬ ((c.length : Nat) : Int) > 2 by omega)]
      obtain ⟨g0, g1, m0, m1⟩ := get2 h2
      simp only [cond_false, g0, g1, Option.bind_some, p_specFE hl.1, (entOf_lAt (hE _ m0)).1, (entOf_lAt (hE _ m1)).1]
      have hs0 := hl.2 _ (entOf_lAt (hE _ m0)).2
      have hs1 := hl.2 _ (entOf_lAt (hE _ m1)).2
      generalize hE0 : entOf l (c.getD 0 0) = E0 at hs0
      generalize hE1 : entOf l (c.getD 1 0) = E1 at hs1
      have hs02 := hs0.2
      have hs12 := hs1.2
      have e4 := iter_first (l := E0.2.2.2.1) (B := fun v_8 => spec_ClassifyCycle_D14 (c, bgr l, E0.1, E0.2.1, E0.2.2.1, E0.2.2.2.1, E1.1, E1.2.1, E1.2.2.1, E1.2.2.2.1, ()) v_8 _ some) (fun j => ((j : Int), ())) (fun m => wrt m.1 E1) (fd := fun j => Sum.inl ()) (no := Sum.inr ()) (fun j hj => by
        have e5 := iter_first (l := E1.2.2.2.1) (B := fun v_1 => spec_ClassifyCycle_D17 (c, bgr l, (j : Int), E0.1, E0.2.1, E0.2.2.1, E0.2.2.2.1, E1.1, E1.2.1, E1.2.2.1, E1.2.2.2.1, ()) v_1 _ some) (fun j => ((j : Int), ())) (fun w => w.1 == E0.2.2.2.1[j].1) (fd := fun j => Sum.inl ()) (no := Sum.inr ()) (fun k hk => by
          unfold spec_ClassifyCycle_D17
          simp only [lAt_nat hj, lAt_nat hk, Option.bind_some]
          rw [decide_eq_true (by omega), wrap_succ hk (by omega), beq_sym]
          simp only [cond_true]
          cases (E1.2.2.2.1[k].1 == E0.2.2.2.1[j].1 : Bool) <;> rfl) (by
          unfold spec_ClassifyCycle_D17
          simp only
          rw [decide_eq_false (by omega)]; rfl) (t0 := (0, ())) rfl
        have h6 := findIdx_any E1.2.2.2.1 (fun w => w.1 == E0.2.2.2.1[j].1)
        unfold spec_ClassifyCycle_D14
        simp only
        rw [decide_eq_true (by omega), wrap_succ hj (by omega)]
        simp only [cond_true]
        rw [e5]
        unfold wrt
        rw [← h6]
        cases E1.2.2.2.1.findIdx? (fun w => w.1 == E0.2.2.2.1[j].1) <;> rfl) (by
        unfold spec_ClassifyCycle_D14
        simp only
        rw [decide_eq_false (by omega)]; rfl) (t0 := (0, ())) rfl
      rw [e4]
      have h7 := findIdx_any E0.2.2.2.1 (fun m => wrt m.1 E1)
      unfold bothW
      rw [← h7]
      cases E0.2.2.2.1.findIdx? (fun m => wrt m.1 E1) with
      | some i => rfl
      | none =>
        simp only [Option.bind_some, sumC, Option.isSome_none, cond_false, p_only hg]
        cases onlyA (bgr l) (c.getD 0 0) (c.getD 1 0) <;> cases onlyA (bgr l) (c.getD 1 0) (c.getD 0 0) <;> rfl

theorem p_szEntry {t : EN} {l : Int} (h1 : t.2.2.1.length ≤ maxLen) (h2 : t.2.2.2.1.length ≤ maxLen) (h0 : 0 ≤ l) (hl : l ≤ 1048576) : SzOK (smE t) (laws_szEntry_S (t, l, ())) :=
  sz_then (p_szReadMarkS h1 h0 hl) fun n h0 h1 => sz_again (p_szWriteS h2 h0 h1)

theorem p_szEntryS {a : List EN} {l : Int} (ha : a.length ≤ maxLen) (hb : ∀ t ∈ a, t.2.2.1.length ≤ maxLen ∧ t.2.2.2.1.length ≤ maxLen) (h0 : 0 ≤ l) (h1 : l ≤ 1048576) : SzOK (smEs a) (laws_szEntryS_S (a, l, ())) :=
  sz_listK (Small := smE) (F := fun e l => laws_szEntry_S (e, l, ())) ha (fun e he l h0 h1 => p_szEntry (hb e he).1 (hb e he).2 h0 h1) (fun l i => rfl) h0 h1

theorem p_toEntry (t : EN) (h : smE t) : laws_toEntry_S ((t.1, t.2.1, t.2.2.1, t.2.2.2.1, ()), ()) = some t := by
  simp [laws_toEntry_S, p_toReadMarkS _ h.1, p_toWriteS _ h.2]

theorem p_toEntryS (a : List EN) (hs : smEs a) : laws_toEntryS_S (a, ()) = some (a, ()) := by
  have ha := hs.1
  unfold laws_toEntryS_S
  simp only
  rw [if_pos (by omega), Int.toNat_natCast]
  refine copy_loopK ha (fun i h out ho => ?_) fun out => ?_
  · unfold laws_toEntryS_D3
    simp only [lAt_nat h, Option.bind_some, p_toEntry _ (hs.at h)]
    rw [decide_eq_true (by omega), if_pos (by omega), wrap_succ h (by omega)]
    simp [ho, h]
  · unfold laws_toEntryS_D3
    simp only
    rw [decide_eq_false (by omega)]; rfl

theorem p_eqEntryS (a : List EN) (hs : smEs a) : laws_eqEntryS_S (a, a, ()) = some (true, ()) := by
  have ha := hs.1
  unfold laws_eqEntryS_S
  simp only [bne_self_eq_false, cond_false]
  refine iter_upK a.length (fun j => ((j : Int), ())) rfl (fun j hj => ?_) ⟨.inr (), ?_, rfl⟩
  · have h1 := (hs.at hj).1
    have h2 := (hs.at hj).2
    unfold laws_eqEntryS_D4
    simp only [lAt_nat hj, Option.bind_some, p_eqEntry _ _ _ _ (show a[j].2.2.1.length < 9223372036854775000 by omega) (show a[j].2.2.2.1.length < 9223372036854775000 by omega)]
    rw [decide_eq_true (by omega), wr1 (by omega) (by omega)]
    rfl
  · unfold laws_eqEntryS_D4
    simp only
    rw [decide_eq_false (by omega)]
    rfl

theorem p_eqIntS (a : List Int) (ha : a.length ≤ 1048576) : laws_eqIntS_S (a, a, ()) = some (true, ()) := by
  unfold laws_eqIntS_S
  simp only [bne_self_eq_false, cond_false]
  refine iter_upK a.length (fun j => ((j : Int), ())) rfl (fun j hj => ?_) ⟨.inr (), ?_, rfl⟩
  · unfold laws_eqIntS_D4
    simp only [lAt_nat hj, Option.bind_some]
    rw [decide_eq_true (by omega), wr1 (by omega) (by omega)]
    simp only [cond_true, bne_self_eq_false, cond_false]
    rfl
  · unfold laws_eqIntS_D4
    simp only
    rw [decide_eq_false (by omega)]
    rfl

theorem p_eqReport (a b : List Int) (k : Int) (ha : a.length ≤ 1048576) (hb : b.length ≤ 1048576) : laws_eqReport_S ((a, b, k, ()), (a, b, k, ()), ()) = some (true, ()) := by
  unfold laws_eqReport_S
  simp only [p_eqIntS a ha, p_eqIntS b hb, Option.bind_some]
  simp

theorem pigeon {α : Type} [DecidableEq α] : ∀ (a b : List α), a.Nodup → (∀ x ∈ a, x ∈ b) → a.length = b.length → b.Nodup ∧ ∀ x ∈ b, x ∈ a
  | [], b, _, _, hl => by
    have : b = [] := List.eq_nil_of_length_eq_zero hl.symm
    subst this; simp
  | x :: a, b, hn, hs, hl => by
    rw [List.nodup_cons] at hn
    have hx := hs x (List.mem_cons_self ..)
    have hp := List.perm_cons_erase hx
    have hlen := hp.length_eq
    simp only [List.length_cons] at hl hlen
    obtain ⟨h1, h2⟩ := pigeon a (b.erase x) hn.2 (fun y hy => (List.mem_erase_of_ne (fun e => hn.1 (by rw [← e]; exact hy))).2 (hs y (List.mem_cons_of_mem _ hy))) (by omega)
    constructor
    · rw [hp.nodup_iff, List.nodup_cons]
      exact ⟨fun h => hn.1 (h2 x h), h1⟩
    · intro y hy
      rcases List.mem_cons.1 (hp.mem_iff.1 hy) with e | e
      · rw [e]; exact List.mem_cons_self ..
      · exact List.mem_cons_of_mem _ (h2 y e)

def ids (l : List EN) : List Int := l.map fun e => e.1

theorem nodup_get {c : List Int} : c.Nodup ↔ ∀ i, ∀ h : i < c.length, c[i] ∉ c.take i := by
  constructor
  · intro hn i h hm
    obtain ⟨j, hj, e⟩ := List.mem_iff_getElem.1 hm
    have hj' : j < i := by simp at hj; omega
    rw [List.getElem_take] at e
    have := List.pairwise_iff_getElem.1 hn j i (by omega) h hj'
    exact this e
  · intro h
    refine List.pairwise_iff_getElem.2 fun i j hi hj hij e => ?_
    exact h j hj (List.mem_iff_getElem.2 ⟨i, by simp; omega, by simpa using e⟩)

theorem ids_nodup {l : List EN} (h : okH l) : (ids l).Nodup := by
  rw [nodup_get]
  intro i hi hm
  have hi' : i < l.length := by simpa [ids] using hi
  obtain ⟨_, _, h2, _⟩ := h.2.1 i hi'
  rw [fe_take hi'] at h2
  unfold feI at h2
  rw [List.findIdx?_eq_none_iff] at h2
  obtain ⟨j, hj, e⟩ := List.mem_iff_getElem.1 hm
  have hj' : j < i := by simp [ids] at hj; omega
  have h3 := h2 (l[j]'(by omega)) (List.mem_iff_getElem.2 ⟨j, by simp; omega, by simp⟩)
  simp only [ids, List.getElem_take, List.getElem_map] at e
  simp [e] at h3

theorem isE_ids {l : List EN} {x : Int} : isE l x ↔ x ∈ ids l := by
  unfold isE ids; rw [List.mem_map]

/-- Each entry once. -/
def gdO (l : List EN) (c : List Int) : Prop := c.length = l.length ∧ ∀ i, ∀ h : i < c.length, isE l c[i] ∧ c[i] ∉ c.take i

theorem gdO_iff {l : List EN} (h : okH l) (c : List Int) : (c.length = l.length ∧ ∀ e ∈ l, e.1 ∈ c) ↔ gdO l c := by
  have hn := ids_nodup h
  have hl : (ids l).length = l.length := by simp [ids]
  constructor
  · rintro ⟨h1, h2⟩
    obtain ⟨h3, h4⟩ := pigeon (ids l) c hn (fun x hx => by
      obtain ⟨e, he, rfl⟩ := List.mem_map.1 hx; exact h2 e he) (by omega)
    exact ⟨h1, fun i hi => ⟨isE_ids.2 (h4 _ (List.getElem_mem hi)), nodup_get.1 h3 i hi⟩⟩
  · rintro ⟨h1, h2⟩
    obtain ⟨_, h4⟩ := pigeon c (ids l) (nodup_get.2 fun i hi => (h2 i hi).2) (fun x hx => by
      obtain ⟨i, hi, rfl⟩ := List.mem_iff_getElem.1 hx
      exact isE_ids.1 (h2 i hi).1) (by omega)
    exact ⟨h1, fun e he => h4 _ (List.mem_map.2 ⟨e, he, rfl⟩)⟩

theorem p_isOrder {l : List EN} (hl : smEs l) (hH : okH l) {c : List Int} (hc : c.length ≤ 1048576) : impl_isOrder_S (l, c, ()) = some (dec (gdO l c), ()) := by
  unfold impl_isOrder_S
  have hs := hl.1
  rw [dec_congr (gdO_iff hH c).symm]
  simp only
  by_cases h1 : c.length = l.length
  case neg =>
    rw [show (((c.length : Nat) : Int) == ((l.length : Nat) : Int)) = false from by rw [eq_int]; exact decide_eq_false (by omega), dec_false (fun h => h1 h.1)]; rfl
  rw [show (((c.length : Nat) : Int) == ((l.length : Nat) : Int)) = true from by rw [eq_int]; exact decide_eq_true (by omega)]
  simp only [cond_true]
  have e : slices_ContainsFunc__impl_isOrder_1_S (l, (some c, ()), ()) = some (l.any fun e => !c.contains e.1, ()) := by
    unfold slices_ContainsFunc__impl_isOrder_1_S slices_IndexFunc__impl_isOrder_1_S
    have e := iter_first (l := l) (B := fun v => slices_IndexFunc__impl_isOrder_1_D2 (l, (some c, ()), ((l.length : Nat) : Int), ()) v _ some) (fun j => ((j : Int), ())) (fun e => !c.contains e.1) (fd := fun j => Sum.inl ((j : Int), ())) (no := Sum.inr ()) (fun j hj => by
      unfold slices_IndexFunc__impl_isOrder_1_D2 impl_isOrder_1_S
      simp only [lAt_nat hj, Option.bind_some, p_contains (show c.length ≤ 100000000 by omega)]
      rw [decide_eq_true (by omega), wrap_succ hj (by omega)]
      simp only [cond_true]
      cases c.contains l[j].1 <;> rfl) (by
      unfold slices_IndexFunc__impl_isOrder_1_D2
      simp only
      rw [decide_eq_false (by omega)]; rfl) (t0 := (0, ())) rfl
    simp only
    rw [e]
    have h2 := findIdx_any l (fun e => !c.contains e.1)
    rw [← h2]
    cases l.findIdx? (fun e => !c.contains e.1) with
    | none => rfl
    | some i => simp [sumC]
  rw [e]
  simp only [Option.bind_some]
  congr 2
  by_cases h2 : ∀ e ∈ l, e.1 ∈ c
  · rw [dec_true ⟨h1, h2⟩, Bool.not_eq_true', List.any_eq_false]
    intro e he
    have := h2 e he
    simp [this]
  · rw [dec_false (fun h => h2 h.2), Bool.not_eq_false', List.any_eq_true]
    apply Classical.byContradiction
    intro h
    refine h2 fun e he => ?_
    apply Classical.byContradiction
    intro h3
    exact h ⟨e, he, by simp [h3]⟩

theorem p_specGood {l : List EN} (hl : smEs l) {c : List Int} (hc : c.length ≤ 1048576) : spec_l22Good_S (l, c, ()) = some (dec (okH l ∧ gdO l c), ()) := by
  unfold spec_l22Good_S
  have hs := hl.1
  simp only [p_specH hl, Option.bind_some]
  by_cases hH : okH l
  case neg => rw [dec_false hH, dec_false (fun h : okH l ∧ gdO l c => hH h.1)]; rfl
  rw [dec_true hH]
  simp only [Bool.not_true, cond_false]
  by_cases h1 : c.length = l.length
  case neg =>
    rw [show (((c.length : Nat) : Int) != ((l.length : Nat) : Int)) = true from by rw [ne_int]; simp; omega, dec_false (fun h : okH l ∧ gdO l c => h1 h.2.1)]; rfl
  rw [show (((c.length : Nat) : Int) != ((l.length : Nat) : Int)) = false from by rw [ne_int]; simp; omega]
  simp only [cond_false]
  refine (all_loopK (n := c.length) (c := fun i => ∀ h : i < c.length, isE l c[i] ∧ c[i] ∉ c.take i) (no := some (false, ())) (X := some (true, ())) (fun i hi => ?_) ⟨.inr (.inr ()), ?_, rfl⟩).trans ?_
  · unfold spec_l22Good_D4
    simp only [lAt_nat hi, Option.bind_some, p_specFE hs, slAt0 (Nat.le_of_lt hi), p_has (show (c.take i).length ≤ 100000000 by simp; omega)]
    rw [decide_eq_true (by omega), wrap_succ hi (by omega), fx_neg]
    simp only [cond_true]
    by_cases hE : isE l c[i]
    · obtain ⟨j, hj, hf, _⟩ := isE_feI hE
      rw [hf]
      simp only [Option.isNone_some, cond_false]
      cases h2 : (c.take i).contains c[i] with
      | true =>
        rw [List.contains_iff_mem] at h2
        exact ⟨fun h => absurd h2 (h hi).2, fun _ => ⟨_, rfl, rfl⟩⟩
      | false =>
        rw [← Bool.not_eq_true, List.contains_iff_mem] at h2
        exact ⟨fun _ => rfl, fun h => absurd (fun _ => ⟨hE, h2⟩) h⟩
    · have : feI l c[i] = none := by
        unfold feI
        rw [List.findIdx?_eq_none_iff]
        intro e he
        cases hx : (e.1 == c[i]) with
        | false => rfl
        | true => exact absurd ⟨e, he, by simpa using hx⟩ hE
      rw [this]
      exact ⟨fun h => absurd (h hi).1 hE, fun _ => ⟨_, rfl, rfl⟩⟩
  · unfold spec_l22Good_D4
    simp only
    rw [decide_eq_false (by omega)]; rfl
  · by_cases h2 : ∀ i, i < c.length → ∀ h : i < c.length, isE l c[i] ∧ c[i] ∉ c.take i
    · rw [dec_true h2, dec_true (show okH l ∧ gdO l c from ⟨hH, h1, fun i hi => h2 i hi hi⟩)]; rfl
    · rw [dec_false h2, dec_false (fun h : okH l ∧ gdO l c => h2 fun i hi _ => h.2.2 i hi)]; rfl

/-- A serial order. -/
def rdO (l : List EN) (c : List Int) : Prop := ∀ i, ∀ h : i < c.length, rdy (grS l) (c.take i) c[i] = true

def okSO (l : List EN) (c : List Int) : Prop := okH l ∧ gdO l c ∧ rdO l c

theorem grS_le {l : List EN} (hl : smEs l) (hH : okH l) : (grS l).length ≤ 10000000 := by
  have := bgr_len hl
  unfold bgr at this
  rw [dec_true hH] at this; exact this

theorem p_implISO {l : List EN} (hl : smEs l) {c : List Int} (hc : c.length ≤ 1048576) : impl_IsSerialOrder_S (l, c, ()) = some (dec (okSO l c), ()) := by
  unfold impl_IsSerialOrder_S
  simp only [p_implH hl, Option.bind_some]
  by_cases hH : okH l
  case neg => rw [dec_false hH, dec_false (fun h : okSO l c => hH h.1)]; rfl
  rw [dec_true hH]
  simp only [Bool.not_true, cond_false, p_isOrder hl hH hc, Option.bind_some]
  by_cases hO : gdO l c
  case neg => rw [dec_false hO, dec_false (fun h : okSO l c => hO h.2.1)]; rfl
  rw [dec_true hO]
  simp only [Bool.not_true, cond_false, p_implGraph hl hH.1, Option.bind_some]
  have hg := grS_le hl hH
  refine (all_loopK (n := c.length) (c := fun i => ∀ h : i < c.length, rdy (grS l) (c.take i) c[i] = true) (no := some (false, ())) (X := some (true, ())) (fun i hi => ?_) ⟨.inr (), ?_, rfl⟩).trans ?_
  · unfold impl_IsSerialOrder_D5
    simp only [lAt_nat hi, Option.bind_some, slAt0 (Nat.le_of_lt hi), p_isReady hg (show (c.take i).length ≤ 100000000 by simp; omega)]
    rw [decide_eq_true (by omega), wrap_succ hi (by omega)]
    simp only [cond_true]
    cases h2 : rdy (grS l) (c.take i) c[i] with
    | true => exact ⟨fun _ => rfl, fun h => absurd (fun _ => h2) h⟩
    | false => exact ⟨fun h => absurd (h hi) (by rw [h2]; decide), fun _ => ⟨_, rfl, rfl⟩⟩
  · unfold impl_IsSerialOrder_D5
    simp only
    rw [decide_eq_false (by omega)]; rfl
  · by_cases h2 : ∀ i, i < c.length → ∀ h : i < c.length, rdy (grS l) (c.take i) c[i] = true
    · rw [dec_true h2, dec_true (show okSO l c from ⟨hH, hO, fun i hi => h2 i hi hi⟩)]; rfl
    · rw [dec_false h2, dec_false (fun h : okSO l c => h2 fun i hi _ => h.2.2 i hi)]; rfl

theorem p_specISO {l : List EN} (hl : smEs l) {c : List Int} (hc : c.length ≤ 1048576) : spec_IsSerialOrder_S (l, c, ()) = some (dec (okSO l c), ()) := by
  unfold spec_IsSerialOrder_S
  have hs := hl.1
  simp only [p_specH hl, Option.bind_some]
  by_cases hH : okH l
  case neg => rw [dec_false hH, dec_false (fun h : okSO l c => hH h.1)]; rfl
  rw [dec_true hH]
  simp only [Bool.not_true, cond_false]
  by_cases h1 : c.length = l.length
  case neg =>
    rw [show (((c.length : Nat) : Int) != ((l.length : Nat) : Int)) = true from by rw [ne_int]; simp; omega, dec_false (fun h : okSO l c => h1 h.2.1.1)]; rfl
  rw [show (((c.length : Nat) : Int) != ((l.length : Nat) : Int)) = false from by rw [ne_int]; simp; omega]
  simp only [cond_false, p_specBG hl, Option.bind_some]
  have hg := grS_le hl hH
  have hb : bgr l = grS l := by unfold bgr; rw [dec_true hH]; rfl
  rw [hb]
  refine (all_loopK (n := c.length) (c := fun i => ∀ h : i < c.length, (isE l c[i] ∧ c[i] ∉ c.take i) ∧ rdy (grS l) (c.take i) c[i] = true) (no := some (false, ())) (X := some (true, ())) (fun i hi => ?_) ⟨.inr (.inr (.inr ())), ?_, rfl⟩).trans ?_
  · unfold spec_IsSerialOrder_D5
    simp only [lAt_nat hi, Option.bind_some, p_specFE hs, slAt0 (Nat.le_of_lt hi), p_has (show (c.take i).length ≤ 100000000 by simp; omega), p_free hg (show (c.take i).length ≤ 100000000 by simp; omega)]
    rw [decide_eq_true (by omega), wrap_succ hi (by omega), fx_neg]
    simp only [cond_true]
    by_cases hE : isE l c[i]
    · obtain ⟨j, hj, hf, _⟩ := isE_feI hE
      rw [hf]
      simp only [Option.isNone_some, cond_false]
      cases h2 : (c.take i).contains c[i] with
      | true =>
        rw [List.contains_iff_mem] at h2
        exact ⟨fun h => absurd h2 (h hi).1.2, fun _ => ⟨_, rfl, rfl⟩⟩
      | false =>
        rw [← Bool.not_eq_true, List.contains_iff_mem] at h2
        simp only [cond_false]
        cases h3 : rdy (grS l) (c.take i) c[i] with
        | true => exact ⟨fun _ => rfl, fun h => absurd (fun _ => ⟨⟨hE, h2⟩, h3⟩) h⟩
        | false => exact ⟨fun h => absurd (h hi).2 (by rw [h3]; decide), fun _ => ⟨_, rfl, rfl⟩⟩
    · have : feI l c[i] = none := by
        unfold feI
        rw [List.findIdx?_eq_none_iff]
        intro e he
        cases hx : (e.1 == c[i]) with
        | false => rfl
        | true => exact absurd ⟨e, he, by simpa using hx⟩ hE
      rw [this]
      exact ⟨fun h => absurd (h hi).1.1 hE, fun _ => ⟨_, rfl, rfl⟩⟩
  · unfold spec_IsSerialOrder_D5
    simp only
    rw [decide_eq_false (by omega)]; rfl
  · by_cases h2 : ∀ i, i < c.length → ∀ h : i < c.length, (isE l c[i] ∧ c[i] ∉ c.take i) ∧ rdy (grS l) (c.take i) c[i] = true
    · rw [dec_true h2, dec_true (show okSO l c from ⟨hH, ⟨h1, fun i hi => (h2 i hi hi).1⟩, fun i hi => (h2 i hi hi).2⟩)]; rfl
    · rw [dec_false h2, dec_false (fun h : okSO l c => h2 fun i hi _ => ⟨h.2.1.2 i hi, h.2.2 i hi⟩)]; rfl

theorem p_repeat : slices_Repeat_int_S ([-1], 6, ()) = some ([-1, -1, -1, -1, -1, -1], ()) := by
  unfold slices_Repeat_int_S
  have em : math_bits_Mul_S (IntKind.u64.wrap (1 : Int), IntKind.u64.wrap 6, ()) = some (0, 6, ()) := by kernel_rfl
  have e1 : slices_Repeat_int_D8 () (1, [-1, 0, 0, 0, 0, 0], ()) ((Int × List Int × Unit) ⊕ (List Int × Unit)) some = some (.inl (2, [-1, -1, 0, 0, 0, 0], ())) := by kernel_rfl
  have e2 : slices_Repeat_int_D8 () (2, [-1, -1, 0, 0, 0, 0], ()) ((Int × List Int × Unit) ⊕ (List Int × Unit)) some = some (.inl (4, [-1, -1, -1, -1, 0, 0], ())) := by kernel_rfl
  have e3 : slices_Repeat_int_D8 () (4, [-1, -1, -1, -1, 0, 0], ()) ((Int × List Int × Unit) ⊕ (List Int × Unit)) some = some (.inl (6, [-1, -1, -1, -1, -1, -1], ())) := by kernel_rfl
  have e4 : slices_Repeat_int_D8 () (6, [-1, -1, -1, -1, -1, -1], ()) ((Int × List Int × Unit) ⊕ (List Int × Unit)) some = some (.inr ([-1, -1, -1, -1, -1, -1], ())) := by kernel_rfl
  have ei : iter (fun v => slices_Repeat_int_D8 () v _ some) (1, [-1, 0, 0, 0, 0, 0], ()) = some ([-1, -1, -1, -1, -1, -1], ()) := by
    rw [iter_eq, e1]; simp only [Option.bind_some]
    rw [iter_eq, e2]; simp only [Option.bind_some]
    rw [iter_eq, e3]; simp only [Option.bind_some]
    rw [iter_eq, e4]; rfl
  have ew : IntKind.i64.wrap (6 : Int) = 6 := by kernel_rfl
  have ec : copyInto (List.replicate (Int.toNat 6) (0 : Int)) 0 (List.length (List.replicate (Int.toNat 6) (0 : Int))) [-1] = [-1, 0, 0, 0, 0, 0] := by kernel_rfl
  have en : (((min (List.length (List.replicate (Int.toNat 6) (0 : Int))) (List.length [(-1 : Int)]) : Nat)) : Int) = 1 := by kernel_rfl
  simp only [List.length_singleton, Int.natCast_one]
  rw [em]
  simp only [Option.bind_some, ew]
  rw [if_pos (by decide)]
  simp only [List.length_singleton] at en
  rw [ec, en, ei]
  rfl

/-- One entry's writes. -/
def wS (s : List Int) (m : VM) : List Int := s.set m.1.toNat m.2.1

def tS (st : Int) (s : List Int) (m : VM) : List Int := s.set m.1.toNat st

def badR (ts : List Int) (m : VM) : Bool := ts.getD m.1.toNat 0 != m.2.1

def rpE (e : EN) (s : List Int × List Int) : Option (List Int × List Int) :=
  bif e.2.2.1.any (badR s.1) then none else some (e.2.2.2.1.foldl (tS e.2.1) s.1, e.2.2.2.1.foldl wS s.2)

def rp (l : List EN) : List Int → List Int × List Int → Option (List Int × List Int)
  | [], s => some s
  | x :: c, s => match rpE (entOf l x) s with | none => none | some s => rp l c s

def six (x : Int) : List Int := [x, x, x, x, x, x]

noncomputable def rpl (l : List EN) (c : List Int) : Option (List Int) := bif dec (okH l ∧ gdO l c) then (rp l c (six 0, six (-1))).map fun s => s.2 else none

def okKeys (l : List VM) : Prop := ∀ m ∈ l, 0 ≤ m.1 ∧ m.1 ≤ 5

theorem okRd_keys {l : List VM} (h : okRd l) : okKeys l := by
  intro m hm
  obtain ⟨i, hi, rfl⟩ := List.mem_iff_getElem.1 hm
  obtain ⟨_, h1, _⟩ := h i hi
  simp only [inB, Bool.and_eq_true, decide_eq_true_iff] at h1
  exact h1

theorem okWr_keys {l : List VM} (h : okWr l) : okKeys l := by
  intro m hm
  obtain ⟨i, hi, rfl⟩ := List.mem_iff_getElem.1 hm
  obtain ⟨_, h1, _⟩ := h i hi
  simp only [inB, Bool.and_eq_true, decide_eq_true_iff] at h1
  exact h1

theorem dec_iff {p : Prop} (h : dec p = true) : p := by
  apply Classical.byContradiction
  intro hn
  rw [dec_false hn] at h; cases h

theorem okH_keys {l : List EN} (h : okH l) {e : EN} (he : e ∈ l) : okKeys e.2.2.1 ∧ okKeys e.2.2.2.1 := by
  obtain ⟨i, hi, rfl⟩ := List.mem_iff_getElem.1 he
  obtain ⟨_, h1, _⟩ := h.2.1 i hi
  unfold okEn okT at h1
  simp only [Bool.and_eq_true] at h1
  exact ⟨okRd_keys (dec_iff h1.1.1.1.1.1.1.1.1.1.1), okWr_keys (dec_iff h1.1.1.1.1.1.1.1.1.1.2)⟩

theorem get6 {L : List Int} (h : L.length = 6) {k : Nat} (hk : k < 6) : L[k]? = some (L.getD k 0) := by
  rw [List.getD_eq_getElem?_getD, List.getElem?_eq_getElem (by omega)]; rfl

theorem fold_len {f : List Int → VM → List Int} (hf : ∀ s m, (f s m).length = s.length) : ∀ (l : List VM) (s : List Int), (l.foldl f s).length = s.length
  | [], s => rfl
  | m :: l, s => by rw [List.foldl_cons, fold_len hf l, hf]

theorem wS_len (s : List Int) (m : VM) : (wS s m).length = s.length := by simp [wS]

theorem tS_len (st : Int) (s : List Int) (m : VM) : (tS st s m).length = s.length := by simp [tS]

theorem rpE_len {e : EN} {s r : List Int × List Int} (h1 : s.1.length = 6) (h2 : s.2.length = 6) (h : rpE e s = some r) : r.1.length = 6 ∧ r.2.length = 6 := by
  unfold rpE at h
  cases hb : e.2.2.1.any (badR s.1) with
  | true => rw [hb] at h; cases h
  | false =>
    rw [hb] at h
    obtain rfl := Option.some.inj h
    exact ⟨(fold_len (tS_len _) _ _).trans h1, (fold_len wS_len _ _).trans h2⟩

theorem rp_len {l : List EN} : ∀ (c : List Int) (s r : List Int × List Int), s.1.length = 6 → s.2.length = 6 → rp l c s = some r → r.1.length = 6 ∧ r.2.length = 6
  | [], s, r, h1, h2, h => by obtain rfl := Option.some.inj h; exact ⟨h1, h2⟩
  | x :: c, s, r, h1, h2, h => by
    rw [rp] at h
    cases he : rpE (entOf l x) s with
    | none => rw [he] at h; cases h
    | some s' =>
      rw [he] at h
      obtain ⟨h3, h4⟩ := rpE_len h1 h2 he
      exact rp_len c s' r h3 h4 h

theorem ends_of {l : List EN} {c : List Int} (h : gdO l c) {i : Nat} (hi : i < c.length) : isE l c[i] := (h.2 i hi).1

theorem p_implRp {l : List EN} (hl : smEs l) (hH : okH l) {c : List Int} (hO : gdO l c) (hc : c.length ≤ 1048576) : ∃ n : Int, impl_replayed_S (l, c, ()) = some (n, (match rp l c (six 0, six (-1)) with | none => [] | some s => s.2), ()) ∧ decide (n < 0) = (rp l c (six 0, six (-1))).isSome := by
  unfold impl_replayed_S
  have hs := hl.1
  simp only [p_repeat, Option.bind_some]
  have key : ∀ m i : Nat, i + m = c.length → ∀ s : List Int × List Int, s.1.length = 6 → s.2.length = 6 → ∃ n : Int, ((iter (fun v => impl_replayed_D3 (l, c, ((c.length : Nat) : Int), ()) v _ some) ((i : Int), s.2, s.1, ())).bind fun p => sumC p (fun p => some (p.1, ([] : List Int), ())) fun p => some (-1, p.1, ())) = some (n, (match rp l (c.drop i) s with | none => [] | some s => s.2), ()) ∧ decide (n < 0) = (rp l (c.drop i) s).isSome := by
    intro m
    induction m with
    | zero =>
      intro i hi s _ _
      obtain rfl : i = c.length := by omega
      refine ⟨-1, ?_, by simp [rp]⟩
      rw [iter_eq]
      unfold impl_replayed_D3
      simp only
      rw [decide_eq_false (by omega), List.drop_length]; rfl
    | succ m ih =>
      intro i hi s h1 h2
      have h : i < c.length := by omega
      have hE := ends_of hO h
      obtain ⟨eL, eM⟩ := entOf_lAt hE
      obtain ⟨kR, kW⟩ := okH_keys hH eM
      have hsm := hl.2 _ eM
      rw [List.drop_eq_getElem_cons h, rp]
      generalize hent : entOf l c[i] = e at *
      have eb : slices_ContainsFunc__impl_replayed_1_S (e.2.2.1, (some s.1, ()), ()) = some (e.2.2.1.any (badR s.1), ()) := by
        unfold slices_ContainsFunc__impl_replayed_1_S slices_IndexFunc__impl_replayed_1_S
        have e' := iter_first (l := e.2.2.1) (B := fun v => slices_IndexFunc__impl_replayed_1_D2 (e.2.2.1, (some s.1, ()), ((e.2.2.1.length : Nat) : Int), ()) v _ some) (fun j => ((j : Int), ())) (badR s.1) (fd := fun j => Sum.inl ((j : Int), ())) (no := Sum.inr ()) (fun j hj => by
          have hs1 := hsm.1
          obtain ⟨k0, k5⟩ := kR _ (List.getElem_mem hj)
          unfold slices_IndexFunc__impl_replayed_1_D2 impl_replayed_1_S badR
          have el : lAt s.1 e.2.2.1[j].1 = some (s.1.getD e.2.2.1[j].1.toNat 0) := by
            unfold lAt; rw [if_pos k0, get6 h1 (by omega)]
          simp only [lAt_nat hj, Option.bind_some, el]
          rw [decide_eq_true (by omega), wrap_succ hj (by omega)]
          simp only [cond_true]
          cases (s.1.getD e.2.2.1[j].1.toNat 0 != e.2.2.1[j].2.1 : Bool) <;> rfl) (by
          unfold slices_IndexFunc__impl_replayed_1_D2
          simp only
          rw [decide_eq_false (by omega)]; rfl) (t0 := (0, ())) rfl
        simp only
        rw [e']
        have h2 := findIdx_any e.2.2.1 (badR s.1)
        rw [← h2]
        cases e.2.2.1.findIdx? (badR s.1) with
        | none => rfl
        | some i => simp [sumC]
      rw [iter_eq]
      unfold rpE
      cases hb : e.2.2.1.any (badR s.1) with
      | true =>
        refine ⟨(i : Int), ?_, decide_eq_false (by omega)⟩
        have step : impl_replayed_D3 (l, c, ((c.length : Nat) : Int), ()) ((i : Int), s.2, s.1, ()) ((Int × List Int × List Int × Unit) ⊕ ((Int × List Int × List Int × Int × Int × List VM × List VM × Unit) ⊕ (List Int × List Int × Unit))) some = some (.inr (.inl ((i : Int), s.2, s.1, e.1, e.2.1, e.2.2.1, e.2.2.2.1, ()))) := by
          unfold impl_replayed_D3
          simp only [lAt_nat h, Option.bind_some, p_implFE hs, eL, eb, hb]
          rw [decide_eq_true (by omega)]; rfl
        rw [step]; rfl
      | false =>
        have ew := iter_fold (l := e.2.2.2.1) (B := fun v_5 => impl_replayed_D9 (l, c, ((c.length : Nat) : Int), (i : Int), e.2.2.2.1, ((e.2.2.2.1.length : Nat) : Int), e.1, e.2.1, e.2.2.1, e.2.2.2.1, ()) v_5 _ some) (fun (s : List Int × List Int) (j : Nat) => ((j : Int), s.2, s.1, ())) (fun s m => (tS e.2.1 s.1 m, wS s.2 m)) (fun _ s => s.1.length = 6 ∧ s.2.length = 6) (s0 := s) ⟨h1, h2⟩ (fun j hj q hq => ⟨by
          have hs2 := hsm.2
          obtain ⟨k0, k5⟩ := kW _ (List.getElem_mem hj)
          unfold impl_replayed_D9
          simp only [lAt_nat hj, Option.bind_some]
          rw [decide_eq_true (by omega), wrap_succ hj (by omega)]
          simp only [cond_true]
          rw [if_pos (by omega), show 0 + e.2.2.2.1[j].1.toNat = e.2.2.2.1[j].1.toNat by omega, get6 hq.2 (by omega)]
          simp only [Option.bind_some]
          rw [if_pos (by omega), get6 hq.1 (by omega)]; rfl, by simpa [tS, wS] using hq⟩) (r := fun s => (s.2, s.1, ())) (fun q _ => by
          unfold impl_replayed_D9
          simp only
          rw [decide_eq_false (by omega)]; rfl) (t0 := (0, s.2, s.1, ())) rfl
        have efold : ∀ (w : List VM) (s : List Int × List Int), w.foldl (fun s m => (tS e.2.1 s.1 m, wS s.2 m)) s = (w.foldl (tS e.2.1) s.1, w.foldl wS s.2) := by
          intro w
          induction w with
          | nil => intro s; rfl
          | cons m w ih => intro s; rw [List.foldl_cons, ih]; rfl
        rw [efold] at ew
        have step : impl_replayed_D3 (l, c, ((c.length : Nat) : Int), ()) ((i : Int), s.2, s.1, ()) ((Int × List Int × List Int × Unit) ⊕ ((Int × List Int × List Int × Int × Int × List VM × List VM × Unit) ⊕ (List Int × List Int × Unit))) some = some (.inl (((i + 1 : Nat) : Int), e.2.2.2.1.foldl wS s.2, e.2.2.2.1.foldl (tS e.2.1) s.1, ())) := by
          unfold impl_replayed_D3
          simp only [lAt_nat h, Option.bind_some, p_implFE hs, eL, eb, hb]
          rw [decide_eq_true (by omega), wrap_succ h (by omega), ew]; rfl
        rw [step]
        exact ih (i + 1) (by omega) (e.2.2.2.1.foldl (tS e.2.1) s.1, e.2.2.2.1.foldl wS s.2) ((fold_len (tS_len _) _ _).trans h1) ((fold_len wS_len _ _).trans h2)
  have := key c.length 0 (by omega) (six 0, six (-1)) rfl rfl
  rw [List.drop_zero] at this
  exact this

theorem p_implRpS {l : List EN} (hl : smEs l) {c : List Int} (hc : c.length ≤ 1048576) : impl_ReplaySerial_S (l, c, ()) = some ((rpl l c).isSome, (rpl l c).getD [], ()) := by
  unfold impl_ReplaySerial_S rpl
  simp only [p_implH hl, Option.bind_some]
  by_cases hH : okH l
  case neg => rw [dec_false hH, dec_false (fun h : okH l ∧ gdO l c => hH h.1)]; rfl
  rw [dec_true hH]
  simp only [Bool.not_true, cond_false, p_isOrder hl hH hc, Option.bind_some]
  by_cases hO : gdO l c
  case neg => rw [dec_false hO, dec_false (fun h : okH l ∧ gdO l c => hO h.2)]; rfl
  rw [dec_true hO, dec_true (show okH l ∧ gdO l c from ⟨hH, hO⟩)]
  obtain ⟨n, h1, h2⟩ := p_implRp hl hH hO hc
  simp only [Bool.not_true, cond_false, cond_true, h1, Option.bind_some, h2]
  cases rp l c (six 0, six (-1)) <;> rfl

theorem p_specRp {l : List EN} (hl : smEs l) (hH : okH l) {c : List Int} (hO : gdO l c) (hc : c.length ≤ 1048576) : ∃ n : Int, ∃ L : List Int, spec_l22Run_S (l, c, ()) = some (n, L, ()) ∧ (match rp l c (six 0, six (-1)) with | none => n ≥ 0 | some s => n = -1 ∧ L = s.2) := by
  unfold spec_l22Run_S
  have hs := hl.1
  have e0 := iter_up' (B := fun v => spec_l22Run_D4 (l, c, List.replicate (Int.toNat 6) 0, ()) v _ some) (s0 := (0, [], ())) (r := (six (-1), ())) 6 (fun i => ((i : Int), List.replicate i (-1), ())) rfl (fun i hi => by
    unfold spec_l22Run_D4
    simp only
    rw [decide_eq_true (by omega), if_pos (by simp; omega), wrap_succ hi (by omega), ← List.replicate_succ']; rfl) rfl
  simp only
  rw [e0]
  simp only [Option.bind_some]
  have key : ∀ m i : Nat, i + m = c.length → ∀ s : List Int × List Int, s.1.length = 6 → s.2.length = 6 → ∃ n : Int, ∃ L : List Int, ((iter (fun v => spec_l22Run_D8 (l, c, ()) v _ some) ((i : Int), s.1, s.2, ())).bind fun p => sumC p (fun p => some (p.1, p.2.2.1, ())) fun p => some (-1, p.2.1, ())) = some (n, L, ()) ∧ (match rp l (c.drop i) s with | none => n ≥ 0 | some s => n = -1 ∧ L = s.2) := by
    intro m
    induction m with
    | zero =>
      intro i hi s _ _
      obtain rfl : i = c.length := by omega
      refine ⟨-1, s.2, ?_, by simp [rp]⟩
      rw [iter_eq]
      unfold spec_l22Run_D8
      simp only
      rw [decide_eq_false (by omega)]; rfl
    | succ m ih =>
      intro i hi s h1 h2
      have h : i < c.length := by omega
      have hE := ends_of hO h
      obtain ⟨eL, eM⟩ := entOf_lAt hE
      obtain ⟨kR, kW⟩ := okH_keys hH eM
      have hsm := hl.2 _ eM
      rw [List.drop_eq_getElem_cons h, rp]
      generalize hent : entOf l c[i] = e at *
      have eb := iter_first (l := e.2.2.1) (B := fun v_4 => spec_l22Run_D12 (l, c, (i : Int), s.1, s.2, e.1, e.2.1, e.2.2.1, e.2.2.2.1, ()) v_4 _ some) (fun j => ((j : Int), ())) (badR s.1) (fd := fun j => Sum.inl ()) (no := Sum.inr ()) (fun j hj => by
        have hs1 := hsm.1
        obtain ⟨k0, k5⟩ := kR _ (List.getElem_mem hj)
        unfold spec_l22Run_D12 badR
        simp only [lAt_nat hj, Option.bind_some]
        rw [decide_eq_true (by omega), wrap_succ hj (by omega)]
        simp only [cond_true]
        rw [if_pos (by omega), show 0 + e.2.2.1[j].1.toNat = e.2.2.1[j].1.toNat by omega, get6 h1 (by omega)]
        simp only [Option.bind_some]
        cases (s.1.getD e.2.2.1[j].1.toNat 0 != e.2.2.1[j].2.1 : Bool) <;> rfl) (by
        unfold spec_l22Run_D12
        simp only
        rw [decide_eq_false (by omega)]; rfl) (t0 := (0, ())) rfl
      have hfa := findIdx_any e.2.2.1 (badR s.1)
      rw [iter_eq]
      unfold rpE
      cases hb : e.2.2.1.findIdx? (badR s.1) with
      | some q =>
        rw [hb] at eb hfa
        rw [← hfa]
        refine ⟨(i : Int), s.2, ?_, by show (i : Int) ≥ 0; omega⟩
        have step : spec_l22Run_D8 (l, c, ()) ((i : Int), s.1, s.2, ()) ((Int × List Int × List Int × Unit) ⊕ ((Int × List Int × List Int × Int × Int × List VM × List VM × Unit) ⊕ (List Int × List Int × Unit))) some = some (.inr (.inl ((i : Int), s.1, s.2, e.1, e.2.1, e.2.2.1, e.2.2.2.1, ()))) := by
          unfold spec_l22Run_D8
          simp only [lAt_nat h, Option.bind_some, p_specFE hs, eL]
          rw [decide_eq_true (by omega)]
          simp only [cond_true]
          rw [eb]; rfl
        rw [step]; rfl
      | none =>
        rw [hb] at eb hfa
        rw [← hfa]
        have ew := iter_fold (l := e.2.2.2.1) (B := fun v_4 => spec_l22Run_D17 (l, c, (i : Int), e.1, e.2.1, e.2.2.1, e.2.2.2.1, ()) v_4 _ some) (fun (s : List Int × List Int) (j : Nat) => ((j : Int), s.1, s.2, ())) (fun s m => (tS e.2.1 s.1 m, wS s.2 m)) (fun _ s => s.1.length = 6 ∧ s.2.length = 6) (s0 := s) ⟨h1, h2⟩ (fun j hj q hq => ⟨by
          have hs2 := hsm.2
          obtain ⟨k0, k5⟩ := kW _ (List.getElem_mem hj)
          unfold spec_l22Run_D17
          simp only [lAt_nat hj, Option.bind_some]
          rw [decide_eq_true (by omega), wrap_succ hj (by omega)]
          simp only [cond_true]
          rw [if_pos (by omega), show 0 + e.2.2.2.1[j].1.toNat = e.2.2.2.1[j].1.toNat by omega, get6 hq.1 (by omega)]
          simp only [Option.bind_some]
          rw [if_pos (by omega), get6 hq.2 (by omega)]; rfl, by simpa [tS, wS] using hq⟩) (r := fun s => (s.1, s.2, ())) (fun q _ => by
          unfold spec_l22Run_D17
          simp only
          rw [decide_eq_false (by omega)]; rfl) (t0 := (0, s.1, s.2, ())) rfl
        have efold : ∀ (w : List VM) (s : List Int × List Int), w.foldl (fun s m => (tS e.2.1 s.1 m, wS s.2 m)) s = (w.foldl (tS e.2.1) s.1, w.foldl wS s.2) := by
          intro w
          induction w with
          | nil => intro s; rfl
          | cons m w ih => intro s; rw [List.foldl_cons, ih]; rfl
        rw [efold] at ew
        have step : spec_l22Run_D8 (l, c, ()) ((i : Int), s.1, s.2, ()) ((Int × List Int × List Int × Unit) ⊕ ((Int × List Int × List Int × Int × Int × List VM × List VM × Unit) ⊕ (List Int × List Int × Unit))) some = some (.inl (((i + 1 : Nat) : Int), e.2.2.2.1.foldl (tS e.2.1) s.1, e.2.2.2.1.foldl wS s.2, ())) := by
          unfold spec_l22Run_D8
          simp only [lAt_nat h, Option.bind_some, p_specFE hs, eL]
          rw [decide_eq_true (by omega), wrap_succ h (by omega)]
          simp only [cond_true]
          rw [eb]
          simp only [Option.bind_some, sumC]
          rw [ew]; rfl
        rw [step]
        exact ih (i + 1) (by omega) (e.2.2.2.1.foldl (tS e.2.1) s.1, e.2.2.2.1.foldl wS s.2) ((fold_len (tS_len _) _ _).trans h1) ((fold_len wS_len _ _).trans h2)
  have := key c.length 0 (by omega) (six 0, six (-1)) rfl rfl
  rw [List.drop_zero] at this
  exact this

theorem p_specRpS {l : List EN} (hl : smEs l) {c : List Int} (hc : c.length ≤ 1048576) : spec_ReplaySerial_S (l, c, ()) = some ((rpl l c).isSome, (rpl l c).getD [], ()) := by
  unfold spec_ReplaySerial_S rpl
  simp only [p_specGood hl hc, Option.bind_some]
  by_cases hg : okH l ∧ gdO l c
  case neg => rw [dec_false hg]; rfl
  rw [dec_true hg]
  obtain ⟨n, L, h1, h2⟩ := p_specRp hl hg.1 hg.2 hc
  simp only [Bool.not_true, cond_false, cond_true, h1, Option.bind_some]
  revert h2
  cases rp l c (six 0, six (-1)) with
  | none => intro h2; rw [decide_eq_true h2]; rfl
  | some s => rintro ⟨rfl, rfl⟩; rfl

theorem rpl_len {l : List EN} {c v : List Int} (h : rpl l c = some v) : v.length = 6 := by
  unfold rpl at h
  cases hd : dec (okH l ∧ gdO l c) with
  | false => rw [hd] at h; cases h
  | true =>
    rw [hd] at h
    simp only [cond_true, Option.map_eq_some_iff] at h
    obtain ⟨s, h1, rfl⟩ := h
    exact (rp_len c _ _ rfl rfl h1).2

def fsL (l : List EN) : List Int := l.foldl (fun s e => e.2.2.2.1.foldl wS s) (six (-1))

theorem p_implFS {l : List EN} (hl : smEs l) (hH : okH l) : impl_FinalState_S (l, ()) = some (fsL l, ()) := by
  unfold impl_FinalState_S
  have hs := hl.1
  simp only [p_implH hl, Option.bind_some]
  rw [dec_true hH]
  simp only [Bool.not_true, cond_false, p_repeat, Option.bind_some]
  have e := iter_fold (l := l) (B := fun v => impl_FinalState_D5 (l, ((l.length : Nat) : Int), ()) v _ some) (fun (s : List Int) (i : Nat) => ((i : Int), s, ())) (fun s e => e.2.2.2.1.foldl wS s) (fun _ s => s.length = 6) (s0 := six (-1)) rfl (fun i h s hsl => ⟨by
    obtain ⟨_, kW⟩ := okH_keys hH (List.getElem_mem h)
    have hsm := (hl.at h).2
    have ew := iter_fold (l := l[i].2.2.2.1) (B := fun v_2 => impl_FinalState_D8 (l, ((l.length : Nat) : Int), (i : Int), l[i].2.2.2.1, ((l[i].2.2.2.1.length : Nat) : Int), ()) v_2 _ some) (fun (s : List Int) (j : Nat) => ((j : Int), s, ())) wS (fun _ s => s.length = 6) (s0 := s) hsl (fun j hj q hq => ⟨by
      obtain ⟨k0, k5⟩ := kW _ (List.getElem_mem hj)
      unfold impl_FinalState_D8
      simp only [lAt_nat hj, Option.bind_some]
      rw [decide_eq_true (by omega), wrap_succ hj (by omega)]
      simp only [cond_true]
      rw [if_pos (by omega), show 0 + l[i].2.2.2.1[j].1.toNat = l[i].2.2.2.1[j].1.toNat by omega, get6 hq (by omega)]; rfl, by simpa [wS] using hq⟩) (r := fun s => (s, ())) (fun q _ => by
      unfold impl_FinalState_D8
      simp only
      rw [decide_eq_false (by omega)]; rfl) (t0 := (0, s, ())) rfl
    unfold impl_FinalState_D5
    simp only [lAt_nat h, Option.bind_some]
    rw [decide_eq_true (by omega), wrap_succ h (by omega)]
    simp only [cond_true]
    rw [ew]; rfl, (fold_len wS_len _ _).trans hsl⟩) (r := fun s => (s, ())) (fun s _ => by
    unfold impl_FinalState_D5
    simp only
    rw [decide_eq_false (by omega)]; rfl) (t0 := (0, six (-1), ())) rfl
  have e' : iter (fun v => impl_FinalState_D5 (l, ((l.length : Nat) : Int), ()) v _ some) (0, [-1, -1, -1, -1, -1, -1], ()) = some (fsL l, ()) := e
  rw [e']; rfl

/-- The last value of one key. -/
def lvW (k : Int) (n : Int) (m : VM) : Int := if m.1 = k then m.2.1 else n

def lv (l : List EN) (k : Int) : Int := l.foldl (fun n e => e.2.2.2.1.foldl (lvW k) n) (-1)

theorem lv_fold {l : List EN} (hl : ∀ e ∈ l, okKeys e.2.2.2.1) {k : Nat} (hk : k < 6) : ∀ s : List Int, s.length = 6 → (l.foldl (fun s e => e.2.2.2.1.foldl wS s) s).getD k 0 = l.foldl (fun n e => e.2.2.2.1.foldl (lvW k) n) (s.getD k 0) := by
  have hw : ∀ (w : List VM), okKeys w → ∀ s : List Int, s.length = 6 → (w.foldl wS s).getD k 0 = w.foldl (lvW k) (s.getD k 0) := by
    intro w
    induction w with
    | nil => intro _ s _; rfl
    | cons m w ih =>
      intro hw s hs
      rw [List.foldl_cons, List.foldl_cons, ih (fun x hx => hw x (List.mem_cons_of_mem _ hx)) _ (by simpa [wS] using hs)]
      congr 1
      obtain ⟨k0, k5⟩ := hw m (List.mem_cons_self ..)
      unfold wS lvW
      by_cases h : m.1 = (k : Int)
      · rw [if_pos h, show m.1.toNat = k by omega, getD_set_eq (by omega)]
      · rw [if_neg h, getD_set_ne (by omega)]
  induction l with
  | nil => intro s _; rfl
  | cons e l ih =>
    intro s hs
    rw [List.foldl_cons, List.foldl_cons, ih (fun x hx => hl x (List.mem_cons_of_mem _ hx)) _ ((fold_len wS_len _ _).trans hs), hw _ (hl e (List.mem_cons_self ..)) _ hs]

theorem fsL_len (l : List EN) : (fsL l).length = 6 := by
  unfold fsL
  refine foldl_inv (I := fun s : List Int => s.length = 6) l (six (-1)) rfl fun e _ s h => (fold_len wS_len _ _).trans h

theorem fsL_lv {l : List EN} (hH : okH l) {k : Nat} (hk : k < 6) : (fsL l).getD k 0 = lv l k := by
  unfold fsL lv
  rw [lv_fold (fun e he => (okH_keys hH he).2) hk _ rfl]
  congr 1
  match k, hk with
  | 0, _ => rfl
  | 1, _ => rfl
  | 2, _ => rfl
  | 3, _ => rfl
  | 4, _ => rfl
  | 5, _ => rfl

theorem p_specFS {l : List EN} (hl : smEs l) (hH : okH l) : spec_FinalState_S (l, ()) = some (fsL l, ()) := by
  unfold spec_FinalState_S
  have hs := hl.1
  simp only [p_specH hl, Option.bind_some]
  rw [dec_true hH]
  simp only [Bool.not_true, cond_false]
  have e := iter_up' (B := fun v => spec_FinalState_D5 (l, ()) v _ some) (s0 := (0, [], ())) (r := (fsL l, ())) 6 (fun i => ((i : Int), (fsL l).take i, ())) rfl (fun i hi => by
    have ek := iter_fold' (l := l) (B := fun v_1 => spec_FinalState_D9 (l, (i : Int), (fsL l).take i, ()) v_1 _ some) (fun (n : Int) (j : Nat) => (n, (j : Int), ())) (fun n e => e.2.2.2.1.foldl (lvW i) n) (s0 := -1) (fun j h n => by
      have hsm := (hl.at h).2
      have ew := iter_fold' (l := l[j].2.2.2.1) (B := fun v_1 => spec_FinalState_D12 (l, (i : Int), (j : Int), (fsL l).take i, ()) v_1 _ some) (fun (n : Int) (q : Nat) => (n, (q : Int), ())) (lvW i) (s0 := n) (fun q hq n => by
        unfold spec_FinalState_D12 lvW
        simp only [lAt_nat h, lAt_nat hq, Option.bind_some]
        rw [decide_eq_true (by omega), wrap_succ hq (by omega)]
        simp only [cond_true]
        by_cases hk : l[j].2.2.2.1[q].1 = (i : Int)
        · rw [show (l[j].2.2.2.1[q].1 == (i : Int)) = true from by simpa using hk, if_pos hk]; rfl
        · rw [show (l[j].2.2.2.1[q].1 == (i : Int)) = false from by simpa using hk, if_neg hk]; rfl) (r := fun n => (n, ())) (fun n => by
        unfold spec_FinalState_D12
        simp only [lAt_nat h, Option.bind_some]
        rw [decide_eq_false (by omega)]; rfl) (t0 := (n, 0, ())) rfl
      unfold spec_FinalState_D9
      simp only
      rw [decide_eq_true (by omega), wrap_succ h (by omega)]
      simp only [cond_true]
      rw [ew]; rfl) (r := fun n => (n, ())) (fun n => by
      unfold spec_FinalState_D9
      simp only
      rw [decide_eq_false (by omega)]; rfl) (t0 := (-1, 0, ())) rfl
    unfold spec_FinalState_D5
    simp only
    rw [decide_eq_true (by omega), wrap_succ hi (by omega)]
    simp only [cond_true]
    rw [ek]
    simp only [Option.bind_some]
    rw [show l.foldl (fun n e => e.2.2.2.1.foldl (lvW i) n) (-1) = (fsL l).getD i 0 from (fsL_lv hH hi).symm, if_pos (by simp; omega)]
    have : (fsL l).take (i + 1) = (fsL l).take i ++ [(fsL l).getD i 0] := by
      rw [List.take_add_one, get6 (fsL_len l) hi]; rfl
    rw [this]) (by
    unfold spec_FinalState_D5
    have h6 := fsL_len l
    rw [List.take_of_length_le (by omega)]; rfl)
  rw [e]; rfl

noncomputable def eqv (l : List EN) (c : List Int) : Bool := match rpl l c with | none => false | some v => decide (v = fsL l)

theorem rpl_okH {l : List EN} {c v : List Int} (h : rpl l c = some v) : okH l := by
  unfold rpl at h
  apply Classical.byContradiction
  intro hn
  rw [dec_false (fun h : okH l ∧ gdO l c => hn h.1)] at h
  cases h

theorem eq6 {v w : List Int} (h6 : v.length = 6) (f6 : w.length = 6) : (bif dec (∀ i, i < v.length → v.getD i 0 = w.getD i 0) then some (true, ()) else some (false, ())).bind (fun v => some (v.1, ())) = some (decide (v = w), ()) := by
    by_cases hx : v = w
    · subst hx
      rw [dec_true (fun _ _ => rfl), decide_eq_true rfl]; rfl
    · rw [dec_false (fun h => hx (List.ext_getElem (by omega) fun i h1 h2 => by
        have := h i h1
        rw [List.getD_eq_getElem?_getD, List.getD_eq_getElem?_getD, List.getElem?_eq_getElem h1, List.getElem?_eq_getElem h2] at this
        exact this)), decide_eq_false hx]; rfl

theorem p_implEq {l : List EN} (hl : smEs l) {c : List Int} (hc : c.length ≤ 1048576) : impl_IsEquivalent_S (l, c, ()) = some (eqv l c, ()) := by
  unfold impl_IsEquivalent_S eqv
  simp only [p_implRpS hl hc, Option.bind_some]
  cases h : rpl l c with
  | none => rfl
  | some v =>
    have h6 := rpl_len h
    have f6 := fsL_len l
    simp only [Option.isSome_some, cond_true, p_implFS hl (rpl_okH h), Option.bind_some, Option.getD_some]
    unfold slices_Equal_int_S
    simp only
    rw [show (((v.length : Nat) : Int) != (((fsL l).length : Nat) : Int)) = false from by rw [h6, f6]; rfl]
    simp only [cond_false]
    have e := all_loopK (n := v.length) (c := fun i => v.getD i 0 = (fsL l).getD i 0) (B := fun w => slices_Equal_int_D4 (v, fsL l, ((v.length : Nat) : Int), ()) w _ some) (k := fun p => sumC p (fun p => some (false, ())) fun p => some (true, ())) (no := some (false, ())) (X := some (true, ())) (fun i hi => by
      unfold slices_Equal_int_D4
      have hg : ∀ {L : List Int}, L.length = 6 → lAt L (i : Int) = some (L.getD i 0) := fun {L} hL => by
        unfold lAt; rw [if_pos (by omega), show ((i : Int)).toNat = i by omega, get6 hL (by omega)]
      simp only [hg h6, hg f6, Option.bind_some]
      rw [decide_eq_true (by omega), wrap_succ hi (by omega)]
      simp only [cond_true]
      by_cases hx : v.getD i 0 = (fsL l).getD i 0
      · rw [show (v.getD i 0 != (fsL l).getD i 0) = false from by simpa using hx]
        exact ⟨fun _ => rfl, fun h => absurd hx h⟩
      · rw [show (v.getD i 0 != (fsL l).getD i 0) = true from by simpa using hx]
        exact ⟨fun h => absurd h hx, fun _ => ⟨_, rfl, rfl⟩⟩) ⟨.inr (), by
      unfold slices_Equal_int_D4
      simp only
      rw [decide_eq_false (by omega)]; rfl, rfl⟩
    rw [e]
    exact eq6 h6 f6

theorem p_specEq {l : List EN} (hl : smEs l) {c : List Int} (hc : c.length ≤ 1048576) : spec_IsEquivalent_S (l, c, ()) = some (eqv l c, ()) := by
  unfold spec_IsEquivalent_S eqv
  simp only [p_specRpS hl hc, Option.bind_some]
  cases h : rpl l c with
  | none => rfl
  | some v =>
    have h6 := rpl_len h
    have f6 := fsL_len l
    simp only [Option.isSome_some, Bool.not_true, cond_false, p_specFS hl (rpl_okH h), Option.bind_some, Option.getD_some]
    have e := all_loopK (n := 6) (c := fun i => v.getD i 0 = (fsL l).getD i 0) (B := fun w => spec_IsEquivalent_D6 (v, fsL l, ()) w _ some) (k := fun p => sumC p (fun p => some (false, ())) fun p => some (true, ())) (no := some (false, ())) (X := some (true, ())) (fun i hi => by
      unfold spec_IsEquivalent_D6
      simp only
      rw [decide_eq_true (by omega), wrap_succ hi (by omega), h6, f6]
      simp only [cond_true]
      rw [if_pos (by omega), show 0 + ((i : Int)).toNat = i by omega, get6 h6 (by omega), get6 f6 (by omega)]
      simp only [Option.bind_some]
      rw [if_pos (by omega)]
      by_cases hx : v.getD i 0 = (fsL l).getD i 0
      · rw [show (v.getD i 0 != (fsL l).getD i 0) = false from by simpa using hx]
        exact ⟨fun _ => rfl, fun h => absurd hx h⟩
      · rw [show (v.getD i 0 != (fsL l).getD i 0) = true from by simpa using hx]
        exact ⟨fun h => absurd h hx, fun _ => ⟨_, rfl, rfl⟩⟩) ⟨.inr (), by
      unfold spec_IsEquivalent_D6
      rfl, rfl⟩
    rw [e]
    have := eq6 h6 f6
    rw [h6] at this
    revert this
    cases dec (∀ i, i < 6 → v.getD i 0 = (fsL l).getD i 0) <;> exact id

noncomputable def ckr (l : List EN) (o c : List Int) (k : Int) : Bool :=
  bif dec (okH l) then (bif decide (c.length > 0) then (bif decide (o.length = 0) then (bif dec (okCy (grS l) c) then k == cls l c else false) else false) else (bif k == 0 then (bif dec (okSO l o) then eqv l o else false) else false)) else false

theorem p_implCkr {l : List EN} (hl : smEs l) {o c : List Int} {k : Int} (ho : o.length ≤ 1048576) (hc : c.length ≤ 1048576) : impl_CheckReport_S (l, (o, c, k, ()), ()) = some (ckr l o c k, ()) := by
  unfold impl_CheckReport_S ckr
  simp only [p_implH hl, Option.bind_some]
  by_cases hH : okH l
  case neg => rw [dec_false hH]; rfl
  have hg := grS_le hl hH
  rw [dec_true hH]
  simp only [Bool.not_true, cond_false, cond_true, p_implGraph hl hH.1, Option.bind_some, p_implCy (show (grS l).length ≤ 100000000 by omega) (show c.length ≤ 100000000 by omega), p_implCls hl hc, p_implISO hl ho, p_implEq hl ho]
  by_cases h1 : c.length > 0
  · rw [decide_eq_true h1, decide_eq_true (show ((c.length : Nat) : Int) > 0 by omega)]
    by_cases h2 : o.length = 0
    · rw [decide_eq_true h2, show (((o.length : Nat) : Int) == 0) = true from by rw [eq_int]; exact decide_eq_true (by omega)]
      cases dec (okCy (grS l) c) <;> rfl
    · rw [decide_eq_false h2, show (((o.length : Nat) : Int) == 0) = false from by rw [eq_int]; exact decide_eq_false (by omega)]; rfl
  · rw [decide_eq_false h1, decide_eq_false (show ¬ ((c.length : Nat) : Int) > 0 by omega)]
    cases (k == 0 : Bool) <;> cases dec (okSO l o) <;> rfl

theorem p_specCkr {l : List EN} (hl : smEs l) {o c : List Int} {k : Int} (ho : o.length ≤ 1048576) (hc : c.length ≤ 1048576) : spec_CheckReport_S (l, (o, c, k, ()), ()) = some (ckr l o c k, ()) := by
  unfold spec_CheckReport_S ckr
  simp only [p_specH hl, Option.bind_some]
  by_cases hH : okH l
  case neg => rw [dec_false hH]; rfl
  have hg := grS_le hl hH
  have hb : bgr l = grS l := by unfold bgr; rw [dec_true hH]; rfl
  rw [dec_true hH]
  simp only [Bool.not_true, cond_false, cond_true, p_specBG hl, hb, Option.bind_some, p_specCy (show (grS l).length ≤ 100000000 by omega) (show c.length ≤ 100000000 by omega), p_specCls hl hc, p_specISO hl ho, p_specEq hl ho]
  by_cases h1 : c.length > 0
  · rw [decide_eq_true h1, decide_eq_true (show ((c.length : Nat) : Int) > 0 by omega)]
    by_cases h2 : o.length = 0
    · rw [decide_eq_true h2, show (((o.length : Nat) : Int) == 0) = true from by rw [eq_int]; exact decide_eq_true (by omega)]
      cases dec (okCy (grS l) c) <;> rfl
    · rw [decide_eq_false h2, show (((o.length : Nat) : Int) == 0) = false from by rw [eq_int]; exact decide_eq_false (by omega)]; rfl
  · rw [decide_eq_false h1, decide_eq_false (show ¬ ((c.length : Nat) : Int) > 0 by omega)]
    cases (k == 0 : Bool) <;> cases dec (okSO l o) <;> rfl

theorem p_szIntS {a : List Int} {l : Int} (ha : a.length ≤ maxLen) (h0 : 0 ≤ l) (h1 : l ≤ 1048576) : SzOK (a.length ≤ 1048576) (laws_szIntS_S (a, l, ())) := sz_flat ha h0 h1

theorem p_szReport {o c : List Int} {k l : Int} (ho : o.length ≤ maxLen) (hc : c.length ≤ maxLen) (h0 : 0 ≤ l) (h1 : l ≤ 1048576) : SzOK (o.length ≤ 1048576 ∧ c.length ≤ 1048576) (laws_szReport_S ((o, c, k, ()), l, ())) :=
  sz_then (p_szIntS ho h0 h1) fun n h0 h1 => sz_again (p_szIntS hc h0 h1)

theorem p_toIntS (a : List Int) (ha : a.length ≤ 1048576) : laws_toIntS_S (a, ()) = some (a, ()) := by
  unfold laws_toIntS_S
  simp only
  rw [if_pos (by omega), Int.toNat_natCast]
  refine copy_loopK ha (fun i h out ho => ?_) fun out => ?_
  · unfold laws_toIntS_D3
    simp only [lAt_nat h, Option.bind_some]
    rw [decide_eq_true (by omega), if_pos (by omega), wrap_succ h (by omega)]
    simp [ho, h]
  · unfold laws_toIntS_D3
    simp only
    rw [decide_eq_false (by omega)]; rfl

theorem p_toReport (o c : List Int) (k : Int) (ho : o.length ≤ 1048576) (hc : c.length ≤ 1048576) : laws_toReport_S ((o, c, k, ()), ()) = some (k, o, c, ()) := by
  unfold laws_toReport_S
  simp only [p_toIntS o ho, p_toIntS c hc, Option.bind_some]

def law_tsK : List Ty := [.slice YEntry, YReport]

/-- **FnExactCheckReport's function answers true.** -/
theorem law_CheckReport (x : den (slotsT law_tsK).ty) (hx : wf (slotsT law_tsK).ty x) : laws_FnExactCheckReport_S x = some (true, ()) := by
  obtain ⟨l, ⟨o, c, k, _⟩, _⟩ := x
  have hs := hx.1
  have ho := hx.2.1.1
  have hc := hx.2.1.2.1
  unfold laws_FnExactCheckReport_S
  refine law_sz (p_szEntryS hs.1 (fun e he => ⟨(hs.2 e he).2.2.1.1, (hs.2 e he).2.2.2.1.1⟩) (by omega) (by omega)) fun n h0 h1 hA => ?_
  have hA : smEs l := hA
  refine law_sz (p_szReport ho.1 hc.1 h0 h1) fun n h0 h1 hB => ?_
  obtain ⟨b1, b2⟩ := hB
  simp only [p_toEntryS l hA, p_toReport o c k b1 b2, Option.bind_some, p_specCkr hA b1 b2, p_implCkr hA b1 b2, p_eqEntryS l hA, p_eqReport o c k b1 b2]
  cases ckr l o c k <;> simp

end Go.Ab
