import Derived.Test.YtehjknclkaobhaaAbCall
import Derived.Laws.BitsLemmas
set_option linter.unnecessarySimpa false
set_option linter.unusedVariables false
set_option linter.unusedSimpArgs false
namespace Go.Ab

theorem wrap_id {n : Int} (h0 : -9223372036854775808 ≤ n) (h1 : n < 9223372036854775808) : IntKind.i64.wrap n = n := by
  rw [IntKind.wrap_i64]; omega
theorem lAt_nat {α : Type} {xs : List α} {i : Nat} (h : i < xs.length) : lAt xs (i : Int) = some xs[i] := by
  unfold lAt; rw [if_pos (by omega)]; simp [h]
theorem wrap_succ {i n : Nat} (hi : i < n) (hn : n < 9223372036854775808) : IntKind.i64.wrap ((i : Int) + 1) = ((i + 1 : Nat) : Int) := by
  rw [wrap_id (by omega) (by omega)]; omega

/-- A loop that counts up. -/
theorem iter_up {σ ρ : Type} {B : σ → Option (σ ⊕ ρ)} (st : Nat → σ) {n : Nat} {r : ρ} (hstep : ∀ i, i < n → B (st i) = some (.inl (st (i + 1)))) (hend : B (st n) = some (.inr r)) : iter B (st 0) = some r := by
  have key : ∀ k i, i + k = n → iter B (st i) = some r := by
    intro k
    induction k with
    | zero => intro i hi; obtain rfl : i = n := by omega
              rw [iter_eq, hend]; rfl
    | succ k ih => intro i hi; rw [iter_eq, hstep i (by omega)]; exact ih (i + 1) (by omega)
  exact key n 0 (by omega)

/-- A loop that compares two lists of one length. -/
theorem eq_loop {α ρ : Type} [DecidableEq α] {a b : List α} (hl : a.length = b.length) (hn : a.length < 9223372036854775808) {B : Int → Option (Int ⊕ ρ)} {no yes : ρ} {ne : α → α → Bool} (hne : ∀ x y, ne x y = !decide (x = y))
    (hB : ∀ i : Int, B i = bif decide (i < ((a.length : Nat) : Int)) then (lAt a i).bind fun x => (lAt b i).bind fun y => bif ne x y then some (.inr no) else some (.inl (IntKind.i64.wrap (i + 1))) else some (.inr yes)) :
    iter B 0 = some (if a = b then yes else no) := by
  have key : ∀ k i : Nat, i + k = a.length → iter B (i : Int) = some (if a.drop i = b.drop i then yes else no) := by
    intro k
    induction k with
    | zero =>
      intro i hi
      rw [iter_eq, hB, decide_eq_false (by omega)]
      simp [List.drop_eq_nil_iff.2 (show a.length ≤ i by omega), List.drop_eq_nil_iff.2 (show b.length ≤ i by omega)]
    | succ k ih =>
      intro i hi
      have h1 : i < a.length := by omega
      have h2 : i < b.length := by omega
      rw [iter_eq, hB, decide_eq_true (by omega), lAt_nat h1, lAt_nat h2]
      simp only [cond_true, Option.bind_some, hne]
      rw [List.drop_eq_getElem_cons h1, List.drop_eq_getElem_cons h2]
      by_cases he : a[i] = b[i]
      · simp only [he, decide_true, Bool.not_true, cond_false, Option.bind_some, List.cons.injEq, true_and]
        rw [wrap_succ h1 hn]
        exact ih (i + 1) (by omega)
      · simp only [he, decide_false, Bool.not_false, cond_true, List.cons.injEq, false_and, if_false]; rfl
  have := key a.length 0 (by omega)
  simpa using this

/-- A loop that fills a row with what it makes of a list. -/
theorem copy_loop {α β : Type} {f : α → β} {a : List α} {z : β} (hn : a.length < 9223372036854775808) {B : Int × List β → Option ((Int × List β) ⊕ List β)}
    (hB : ∀ (i : Nat) (out : List β) (hi : i < a.length), out.length = a.length → B ((i : Int), out) = some (.inl (((i + 1 : Nat) : Int), out.set i (f a[i]))))
    (hend : ∀ out : List β, B ((a.length : Int), out) = some (.inr out)) : iter B (0, List.replicate a.length z) = some (a.map f) := by
  have h := iter_up (B := B) (n := a.length) (r := a.map f) (fun i => ((i : Int), (a.map f).take i ++ List.replicate (a.length - i) z)) (fun i hi => ?_) (by
    simp only [Nat.sub_self, List.replicate_zero, List.append_nil]
    rw [List.take_of_length_le (by simp)]
    exact hend _)
  · simpa using h
  · rw [hB i _ hi (by simp; omega)]
    congr 3
    apply List.ext_getElem
    · simp; omega
    · intro j h1 h2
      simp at h1 h2
      rw [List.getElem_set]
      by_cases he : i = j
      · subst he
        simp only [if_true]
        rw [List.getElem_append_left (by simp; omega)]
        simp
      · rw [if_neg he]
        by_cases hlt : j < i
        · rw [List.getElem_append_left (by simp; omega), List.getElem_append_left (by simp; omega)]; simp
        · rw [List.getElem_append_right (by simp; omega), List.getElem_append_right (by simp; omega)]; simp

theorem ne_int (x y : Int) : (x != y) = !decide (x = y) := by
  by_cases h : x = y <;> simp [h]
theorem eq_int (x y : Int) : (x == y) = decide (x = y) := by
  by_cases h : x = y <;> simp [h]
theorem len_ne {α β : Type} (a : List α) (b : List β) : (((a.length : Nat) : Int) != ((b.length : Nat) : Int)) = !decide (a.length = b.length) := by
  rw [ne_int]; congr 1; apply decide_eq_decide.2; omega
/-- The comparison of two lists, with its lengths. -/
theorem eq_list {α : Type} [DecidableEq α] {a b : List α} (hn : a.length < 9223372036854775808) {B : Int → Option (Int ⊕ (Unit ⊕ Unit))} {ne : α → α → Bool} (hne : ∀ x y, ne x y = !decide (x = y))
    (hB : ∀ i : Int, B i = bif decide (i < ((a.length : Nat) : Int)) then (lAt a i).bind fun x => (lAt b i).bind fun y => bif ne x y then some (.inr (.inl ())) else some (.inl (IntKind.i64.wrap (i + 1))) else some (.inr (.inr ()))) :
    (bif (((a.length : Nat) : Int) != ((b.length : Nat) : Int)) then some (false, ()) else (iter B 0).bind fun q => sumC q (fun _ => some (false, ())) fun _ => some (true, ())) = some (decide (a = b), ()) := by
  rw [len_ne]
  by_cases hl : a.length = b.length
  · rw [eq_loop hl hn hne hB]
    by_cases he : a = b <;> simp [hl, he, sumC]
  · have : a ≠ b := fun h => hl (by rw [h])
    simp [hl, this]

theorem len_lt {t : Ty} {xs : List (den t)} (h : xs.length ≤ maxLen) : xs.length < 9223372036854775808 := by
  unfold maxLen at h; omega
end Go.Ab
