import Derived.Test.YthjochcbdhiclaaGreatAbPl0
import Derived.Laws.BitsLemmas
set_option linter.unnecessarySimpa false
set_option linter.unusedVariables false
set_option linter.unusedSimpArgs false
namespace Go.Ab
theorem wrap_id {n : Int} (h0 : -9223372036854775808 ≤ n) (h1 : n < 9223372036854775808) : IntKind.i64.wrap n = n := by
  rw [IntKind.wrap_i64]; omega
theorem lAt_nat {α : Type} {xs : List α} {i : Nat} (h : i < xs.length) : lAt xs (i : Int) = some xs[i] := by
  unfold lAt; rw [if_pos (by omega)]; simp [h]
theorem wrap_succ {i n : Nat} (hi : i < n) (hn : n < 9223372036854775808) : IntKind.i64.wrap ((i : Int) + 1) = ((i + 1 : Nat) : Int) := by
  rw [wrap_id (by omega) (by omega)]; omega
theorem iter_up {σ ρ : Type} {B : σ → Option (σ ⊕ ρ)} (st : Nat → σ) {n : Nat} {r : ρ} (hstep : ∀ i, i < n → B (st i) = some (.inl (st (i + 1)))) (hend : B (st n) = some (.inr r)) : iter B (st 0) = some r := by
  have key : ∀ k i, i + k = n → iter B (st i) = some r := by
    intro k
    induction k with
    | zero => intro i hi; obtain rfl : i = n := by omega
              rw [iter_eq, hend]; rfl
    | succ k ih => intro i hi; rw [iter_eq, hstep i (by omega)]; exact ih (i + 1) (by omega)
  exact key n 0 (by omega)
theorem eq_loop {α ρ : Type} [DecidableEq α] {a b : List α} (hl : a.length = b.length) (hn : a.length < 9223372036854775808) {B : Int → Option (Int ⊕ ρ)} {no yes : ρ} {ne : α → α → Bool} (hne : ∀ x y, ne x y = !decide (x = y))
    (hB : ∀ i : Int, B i = bif decide (i < ((a.length : Nat) : Int)) then (lAt a i).bind fun x => (lAt b i).bind fun y => bif ne x y then some (.inr no) else some (.inl (IntKind.i64.wrap (i + 1))) else some (.inr yes)) :
    iter B 0 = some (if a = b then yes else no) := by
  have key : ∀ k i : Nat, i + k = a.length → iter B (i : Int) = some (if a.drop i = b.drop i then yes else no) := by
    intro k
    induction k with
    | zero =>
      intro i hi
      rw [iter_eq, hB, decide_eq_false (by omega)]
      simp [List.drop_eq_nil_iff.2 (show a.length ≤ i by omega), List.drop_eq_nil_iff.2 (show b.length ≤ i by omega)]
    | succ k ih =>
      intro i hi
      have h1 : i < a.length := by omega
      have h2 : i < b.length := by omega
      rw [iter_eq, hB, decide_eq_true (by omega), lAt_nat h1, lAt_nat h2]
      simp only [cond_true, Option.bind_some, hne]
      rw [List.drop_eq_getElem_cons h1, List.drop_eq_getElem_cons h2]
      by_cases he : a[i] = b[i]
      · simp only [he, decide_true, Bool.not_true, cond_false, Option.bind_some, List.cons.injEq, true_and]
        rw [wrap_succ h1 hn]
        exact ih (i + 1) (by omega)
      · simp only [he, decide_false, Bool.not_false, cond_true, List.cons.injEq, false_and, if_false]; rfl
  have := key a.length 0 (by omega)
  simpa using this
theorem copy_loop {α β : Type} {f : α → β} {a : List α} {z : β} (hn : a.length < 9223372036854775808) {B : Int × List β → Option ((Int × List β) ⊕ List β)}
    (hB : ∀ (i : Nat) (out : List β) (hi : i < a.length), out.length = a.length → B ((i : Int), out) = some (.inl (((i + 1 : Nat) : Int), out.set i (f a[i]))))
    (hend : ∀ out : List β, B ((a.length : Int), out) = some (.inr out)) : iter B (0, List.replicate a.length z) = some (a.map f) := by
  have h := iter_up (B := B) (n := a.length) (r := a.map f) (fun i => ((i : Int), (a.map f).take i ++ List.replicate (a.length - i) z)) (fun i hi => ?_) (by
    simp only [Nat.sub_self, List.replicate_zero, List.append_nil]
    rw [List.take_of_length_le (by simp)]
    exact hend _)
  · simpa using h
  · rw [hB i _ hi (by simp; omega)]
    congr 3
    apply List.ext_getElem
    · simp; omega
    · intro j h1 h2
      simp at h1 h2
      rw [List.getElem_set]
      by_cases he : i = j
      · subst he
        simp only [if_true]
        rw [List.getElem_append_left (by simp; omega)]
        simp
      · rw [if_neg he]
        by_cases hlt : j < i
        · rw [List.getElem_append_left (by simp; omega), List.getElem_append_left (by simp; omega)]; simp
        · rw [List.getElem_append_right (by simp; omega), List.getElem_append_right (by simp; omega)]; simp
theorem ne_int (x y : Int) : (x != y) = !decide (x = y) := by
  by_cases h : x = y <;> simp [h]
theorem eq_int (x y : Int) : (x == y) = decide (x = y) := by
  by_cases h : x = y <;> simp [h]
theorem len_ne {α β : Type} (a : List α) (b : List β) : (((a.length : Nat) : Int) != ((b.length : Nat) : Int)) = !decide (a.length = b.length) := by
  rw [ne_int]; congr 1; apply decide_eq_decide.2; omega
theorem eq_list {α : Type} [DecidableEq α] {a b : List α} (hn : a.length < 9223372036854775808) {B : Int → Option (Int ⊕ (Unit ⊕ Unit))} {ne : α → α → Bool} (hne : ∀ x y, ne x y = !decide (x = y))
    (hB : ∀ i : Int, B i = bif decide (i < ((a.length : Nat) : Int)) then (lAt a i).bind fun x => (lAt b i).bind fun y => bif ne x y then some (.inr (.inl ())) else some (.inl (IntKind.i64.wrap (i + 1))) else some (.inr (.inr ()))) :
    (bif (((a.length : Nat) : Int) != ((b.length : Nat) : Int)) then some (false, ()) else (iter B 0).bind fun q => sumC q (fun _ => some (false, ())) fun _ => some (true, ())) = some (decide (a = b), ()) := by
  rw [len_ne]
  by_cases hl : a.length = b.length
  · rw [eq_loop hl hn hne hB]
    by_cases he : a = b <;> simp [hl, he, sumC]
  · have : a ≠ b := fun h => hl (by rw [h])
    simp [hl, this]
theorem eq_loop2 {α ρ : Type} [DecidableEq α] {a b : List α} (hl : a.length = b.length) {B : Int → Option (Int ⊕ ρ)} {no yes : ρ}
    (hB : ∀ (i : Nat) (h1 : i < a.length) (h2 : i < b.length), B (i : Int) = if a[i] = b[i] then some (.inl ((i + 1 : Nat) : Int)) else some (.inr no)) (hend : B (a.length : Int) = some (.inr yes)) :
    iter B 0 = some (if a = b then yes else no) := by
  have key : ∀ k i : Nat, i + k = a.length → iter B (i : Int) = some (if a.drop i = b.drop i then yes else no) := by
    intro k
    induction k with
    | zero =>
      intro i hi
      obtain rfl : i = a.length := by omega
      rw [iter_eq, hend]
      simp [List.drop_eq_nil_iff.2 (show b.length ≤ a.length by omega)]
    | succ k ih =>
      intro i hi
      have h1 : i < a.length := by omega
      have h2 : i < b.length := by omega
      rw [iter_eq, hB i h1 h2, List.drop_eq_getElem_cons h1, List.drop_eq_getElem_cons h2]
      by_cases he : a[i] = b[i]
      · simp only [he, if_true, Option.bind_some, List.cons.injEq, true_and]
        exact ih (i + 1) (by omega)
      · simp only [he, if_false, List.cons.injEq, false_and]; rfl
  have := key a.length 0 (by omega)
  simpa using this
theorem eq_listF {α : Type} [DecidableEq α] {a b : List α} (hn : a.length < 9223372036854775808) {F : α → α → Option (Bool × Unit)} (hF : ∀ x ∈ a, ∀ y, F x y = some (decide (x = y), ())) {B : Int → Option (Int ⊕ (Unit ⊕ Unit))}
    (hB : ∀ i : Int, B i = bif decide (i < ((a.length : Nat) : Int)) then (lAt a i).bind fun x => (lAt b i).bind fun y => (F x y).bind fun r => bif (!r.1) then some (.inr (.inl ())) else some (.inl (IntKind.i64.wrap (i + 1))) else some (.inr (.inr ()))) :
    (bif (((a.length : Nat) : Int) != ((b.length : Nat) : Int)) then some (false, ()) else (iter B 0).bind fun q => sumC q (fun _ => some (false, ())) fun _ => some (true, ())) = some (decide (a = b), ()) := by
  rw [len_ne]
  by_cases hl : a.length = b.length
  · rw [eq_loop2 (B := B) hl (no := .inl ()) (yes := .inr ()) (fun i h1 h2 => by
      rw [hB, decide_eq_true (by omega), lAt_nat h1, lAt_nat h2]
      simp only [cond_true, Option.bind_some, hF _ (List.getElem_mem h1)]
      rw [wrap_succ h1 hn]
      by_cases he : a[i] = b[i] <;> simp [he]) (by rw [hB, decide_eq_false (by omega)]; rfl)]
    by_cases he : a = b <;> simp [hl, he, sumC]
  · have : a ≠ b := fun h => hl (by rw [h])
    simp [hl, this]
theorem copy_listF {α β : Type} {F : α → Option (β × Unit)} {f : α → β} {a : List α} {z : β} {M : Int} (hM : (a.length : Int) ≤ M) (hM2 : M < 9223372036854775808) (hF : ∀ x ∈ a, F x = some (f x, ())) {B : Int × List β → Option ((Int × List β) ⊕ List β)}
    (hB : ∀ (i : Int) (out : List β), B (i, out) = bif decide (i < ((a.length : Nat) : Int)) then (lAt a i).bind fun x => (F x).bind fun r => if 0 ≤ i ∧ i < ((out.length : Nat) : Int) then (out[i.toNat]?).bind fun _ => some (.inl (IntKind.i64.wrap (i + 1), out.set i.toNat r.1)) else none else some (.inr out)) :
    (if 0 ≤ ((a.length : Nat) : Int) ∧ ((a.length : Nat) : Int) ≤ ((a.length : Nat) : Int) ∧ ((a.length : Nat) : Int) ≤ M then (iter B (0, List.replicate (((a.length : Nat) : Int) : Int).toNat z)).bind fun q => some (q, ()) else none) = some (a.map f, ()) := by
  rw [if_pos (by omega)]
  have e : ((a.length : Int) : Int).toNat = a.length := by omega
  rw [e, copy_loop (f := f) (a := a) (z := z) (B := B) (by omega) (fun i out hi ho => by
    rw [hB, decide_eq_true (by omega), lAt_nat hi]
    simp only [cond_true, Option.bind_some, hF _ (List.getElem_mem hi)]
    rw [if_pos (by omega), wrap_succ hi (by omega)]
    simp [ho, hi]) (fun out => by
    rw [hB, decide_eq_false (by omega)]; rfl)]
  rfl
def SzOK (Small : Prop) (o : Option (Int × Unit)) : Prop := ∃ n : Int, o = some (n, ()) ∧ (n < 0 ∨ (0 ≤ n ∧ n ≤ 1048576 ∧ Small))
theorem sz_flat {α : Type} {a : List α} {l : Int} (ha : a.length ≤ maxLen) (h0 : 0 ≤ l) (h1 : l ≤ 1048576) :
    SzOK (a.length ≤ 1048576) (bif decide (IntKind.i64.wrap (l - ((a.length : Nat) : Int)) < 0) then some (-1, ()) else some (IntKind.i64.wrap (l - ((a.length : Nat) : Int)), ())) := by
  unfold maxLen at ha
  rw [wrap_id (by omega) (by omega)]
  by_cases h : l - (a.length : Int) < 0
  · rw [decide_eq_true h]; exact ⟨_, rfl, .inl (by omega)⟩
  · rw [decide_eq_false h]; exact ⟨_, rfl, .inr ⟨by omega, by omega, by omega⟩⟩
theorem sz_listF {α : Type} {Small : α → Prop} {F : α → Int → Option (Int × Unit)} {a : List α} (ha : a.length ≤ maxLen) (hF : ∀ e ∈ a, ∀ l, 0 ≤ l → l ≤ 1048576 → SzOK (Small e) (F e l)) {B : Int × Int → Option ((Int × Int) ⊕ (Int ⊕ Int))}
    (hB : ∀ l i : Int, B (l, i) = bif decide (i < ((a.length : Nat) : Int)) then (lAt a i).bind fun e => (F e l).bind fun r => bif decide (r.1 < 0) then some (.inr (.inl r.1)) else some (.inl (r.1, IntKind.i64.wrap (i + 1))) else some (.inr (.inr l))) {l : Int} (h0 : 0 ≤ l) (h1 : l ≤ 1048576) :
    SzOK (a.length ≤ 1048576 ∧ ∀ e ∈ a, Small e) (bif decide (IntKind.i64.wrap (l - ((a.length : Nat) : Int)) < 0) then some (-1, ()) else (iter B (IntKind.i64.wrap (l - ((a.length : Nat) : Int)), 0)).bind fun q => sumC q (fun _ => some (-1, ())) fun b => some (b, ())) := by
  unfold maxLen at ha
  rw [wrap_id (by omega) (by omega)]
  by_cases h : l - (a.length : Int) < 0
  · rw [decide_eq_true h]; exact ⟨_, rfl, .inl (by omega)⟩
  rw [decide_eq_false h]
  have key : ∀ k i : Nat, i + k = a.length → ∀ l : Int, 0 ≤ l → l ≤ 1048576 → ∃ p, iter B (l, (i : Int)) = some p ∧ ((∃ n, p = .inl n) ∨ ∃ n, p = .inr n ∧ 0 ≤ n ∧ n ≤ 1048576 ∧ ∀ e ∈ a.drop i, Small e) := by
    intro k
    induction k with
    | zero =>
      intro i hi l h0 h1
      rw [iter_eq, hB, decide_eq_false (by omega)]
      exact ⟨_, rfl, .inr ⟨l, rfl, h0, h1, fun e he => by rw [List.drop_eq_nil_iff.2 (by omega)] at he; cases he⟩⟩
    | succ k ih =>
      intro i hi l h0 h1
      have hlt : i < a.length := by omega
      rw [iter_eq, hB, decide_eq_true (by omega), lAt_nat hlt]
      obtain ⟨n, e1, h2⟩ := hF a[i] (List.getElem_mem hlt) l h0 h1
      simp only [cond_true, Option.bind_some, e1]
      rcases h2 with h2 | ⟨h2, h3, h4⟩
      · rw [decide_eq_true h2]; exact ⟨_, rfl, .inl ⟨n, rfl⟩⟩
      · rw [decide_eq_false (show ¬ n < 0 by omega), wrap_succ hlt (by omega)]
        obtain ⟨p, e2, h5⟩ := ih (i + 1) (by omega) n h2 h3
        refine ⟨p, e2, h5.imp id ?_⟩
        rintro ⟨m, rfl, h6, h7, h8⟩
        refine ⟨m, rfl, h6, h7, fun e he => ?_⟩
        rw [List.drop_eq_getElem_cons hlt] at he
        rcases List.mem_cons.1 he with rfl | he
        · exact h4
        · exact h8 e he
  obtain ⟨p, e1, h2⟩ := key a.length 0 (by omega) (l - a.length) (by omega) (by omega)
  simp only [Int.natCast_zero] at e1
  rw [cond_false, e1]
  rcases h2 with ⟨n, rfl⟩ | ⟨n, rfl, h3, h4, h5⟩
  · exact ⟨_, rfl, .inl (by omega)⟩
  · exact ⟨_, rfl, .inr ⟨h3, h4, by omega, by simpa using h5⟩⟩
theorem sz_again {Small : Prop} {o : Option (Int × Unit)} (h : SzOK Small o) : SzOK Small (o.bind fun r => bif decide (r.1 < 0) then some (-1, ()) else some (r.1, ())) := by
  obtain ⟨n, rfl, h1⟩ := h
  simp only [Option.bind_some]
  rcases h1 with h1 | h1
  · rw [decide_eq_true h1]; exact ⟨_, rfl, .inl (by omega)⟩
  · rw [decide_eq_false (show ¬ n < 0 by omega)]; exact ⟨_, rfl, .inr h1⟩
theorem sz_then {A B : Prop} {o : Option (Int × Unit)} {G : Int × Unit → Option (Int × Unit)} (h : SzOK A o) (hG : ∀ n : Int, 0 ≤ n → n ≤ 1048576 → SzOK B (G (n, ()))) : SzOK (A ∧ B) (o.bind fun r => bif decide (r.1 < 0) then some (-1, ()) else G r) := by
  obtain ⟨n, rfl, h1⟩ := h
  simp only [Option.bind_some]
  rcases h1 with h1 | ⟨h1, h2, h3⟩
  · rw [decide_eq_true h1]; exact ⟨_, rfl, .inl (by omega)⟩
  · rw [decide_eq_false (show ¬ n < 0 by omega)]
    obtain ⟨m, e, h4⟩ := hG n h1 h2
    exact ⟨m, e, h4.imp id fun ⟨k1, k2, k3⟩ => ⟨k1, k2, h3, k3⟩⟩
theorem law_sz {A : Prop} {o : Option (Int × Unit)} {G : Int × Unit → Option (Bool × Unit)} (h : SzOK A o) (hG : ∀ n : Int, 0 ≤ n → n ≤ 1048576 → A → G (n, ()) = some (true, ())) : (o.bind fun r => bif decide (r.1 < 0) then some (true, ()) else G r) = some (true, ()) := by
  obtain ⟨n, rfl, h1⟩ := h
  simp only [Option.bind_some]
  rcases h1 with h1 | ⟨h1, h2, h3⟩
  · rw [decide_eq_true h1]; rfl
  · rw [decide_eq_false (show ¬ n < 0 by omega)]; exact hG n h1 h2 h3
noncomputable def dec (p : Prop) : Bool := @decide p (Classical.propDecidable p)
theorem dec_true {p : Prop} (h : p) : dec p = true := @decide_eq_true p (Classical.propDecidable p) h
theorem dec_false {p : Prop} (h : ¬ p) : dec p = false := @decide_eq_false p (Classical.propDecidable p) h
theorem dec_congr {p q : Prop} (h : p ↔ q) : dec p = dec q := by rw [propext h]
theorem dec_eq (p : Prop) [Decidable p] : decide p = dec p := by
  by_cases h : p
  · rw [dec_true h, decide_eq_true h]
  · rw [dec_false h, decide_eq_false h]
theorem all_loop {R ρ τ : Type} {n : Nat} {B : Int → Option (Int ⊕ (ρ ⊕ τ))} {c : Nat → Prop} {t : τ} (hB : ∀ i, i < n → (c i → B (i : Int) = some (.inl ((i + 1 : Nat) : Int))) ∧ (¬ c i → ∃ q, B (i : Int) = some (.inr (.inl q)))) (hend : B (n : Int) = some (.inr (.inr t))) {no X : Option R} :
    ((iter B 0).bind fun q => sumC q (fun _ => no) (fun _ => X)) = bif dec (∀ i, i < n → c i) then X else no := by
  have key : ∀ k i : Nat, i + k = n → ((iter B (i : Int)).bind fun q => sumC q (fun _ => no) (fun _ => X)) = bif dec (∀ j, i ≤ j → j < n → c j) then X else no := by
    intro k
    induction k with
    | zero =>
      intro i hi
      obtain rfl : i = n := by omega
      rw [iter_eq, hend, dec_true (fun j h1 h2 => by omega)]; rfl
    | succ k ih =>
      intro i hi
      by_cases hc : c i
      · rw [iter_eq, (hB i (by omega)).1 hc]
        simp only [Option.bind_some]
        rw [ih (i + 1) (by omega)]
        congr 1
        apply dec_congr
        constructor
        · intro h j h1 h2
          by_cases e : j = i
          · rw [e]; exact hc
          · exact h j (by omega) h2
        · intro h j h1 h2; exact h j (by omega) h2
      · obtain ⟨q, hq⟩ := (hB i (by omega)).2 hc
        rw [iter_eq, hq, dec_false (fun h => hc (h i (Nat.le_refl _) (by omega)))]; rfl
  have := key n 0 (by omega)
  simp only [Int.natCast_zero, Nat.zero_le, true_implies] at this
  exact this
theorem fold_loop {σ α : Type} {l : List α} {f : σ → α → σ} {B : σ × Int → Option ((σ × Int) ⊕ σ)} (hB : ∀ (i : Nat) (h : i < l.length) (n : σ), B (n, (i : Int)) = some (.inl (f n l[i], ((i + 1 : Nat) : Int)))) (hend : ∀ n, B (n, (l.length : Int)) = some (.inr n)) (n0 : σ) :
    iter B (n0, 0) = some (l.foldl f n0) := by
  have key : ∀ k i : Nat, i + k = l.length → ∀ n, iter B (n, (i : Int)) = some ((l.drop i).foldl f n) := by
    intro k
    induction k with
    | zero =>
      intro i hi n
      obtain rfl : i = l.length := by omega
      rw [iter_eq, hend]; simp
    | succ k ih =>
      intro i hi n
      have h : i < l.length := by omega
      rw [iter_eq, hB i h, List.drop_eq_getElem_cons h]
      simp only [Option.bind_some]
      rw [ih (i + 1) (by omega)]; rfl
  have := key l.length 0 (by omega) n0
  simpa using this
def inB (x lo hi : Int) : Bool := decide (lo ≤ x) && decide (x ≤ hi)
def small : (t : Ty) → den t → Prop
  | .slice t, xs => (xs : List (den t)).length ≤ 1048576 ∧ ∀ x ∈ (xs : List (den t)), small t x
  | .prod a b, x => small a x.1 ∧ small b x.2
  | .int _, _ => True
  | .bool, _ => True
  | .str, _ => True
  | .unit, _ => True
  | .err, _ => True
  | .iref _, _ => True
  | .fn _ _, _ => True
  | .idx, _ => True
theorem small_flat : (t : Ty) → t.flat = true → (x : den t) → small t x
  | .prod a b, h, x => by
    simp only [Ty.flat, Bool.and_eq_true] at h
    exact ⟨small_flat a h.1 x.1, small_flat b h.2 x.2⟩
  | .int _, _, _ | .bool, _, _ | .str, _, _ | .unit, _, _ | .err, _, _ | .idx, _, _ => trivial
  | .slice _, h, _ | .iref _, h, _ | .fn _ _, h, _ => by simp [Ty.flat] at h
theorem SzOK.mono {A B : Prop} {o : Option (Int × Unit)} (h : SzOK A o) (hab : A → B) : SzOK B o := by
  obtain ⟨n, e, h1⟩ := h
  exact ⟨n, e, h1.imp id fun ⟨a, b, c⟩ => ⟨a, b, hab c⟩⟩
theorem eq_listR {α : Type} {a : List α} (hn : a.length < 9223372036854775808) {F : α → α → Option (Bool × Unit)} (hF : ∀ x ∈ a, F x x = some (true, ())) {B : Int → Option (Int ⊕ (Unit ⊕ Unit))}
    (hB : ∀ i : Int, B i = bif decide (i < ((a.length : Nat) : Int)) then (lAt a i).bind fun x => (lAt a i).bind fun y => (F x y).bind fun r => bif (!r.1) then some (.inr (.inl ())) else some (.inl (IntKind.i64.wrap (i + 1))) else some (.inr (.inr ()))) :
    (bif (((a.length : Nat) : Int) != ((a.length : Nat) : Int)) then some (false, ()) else (iter B 0).bind fun q => sumC q (fun _ => some (false, ())) fun _ => some (true, ())) = some (true, ()) := by
  rw [len_ne]
  have e := iter_up (B := B) (n := a.length) (r := .inr ()) (fun i => (i : Int)) (fun i h1 => by
      rw [hB, decide_eq_true (by omega), lAt_nat h1]
      simp only [cond_true, Option.bind_some, hF _ (List.getElem_mem h1)]
      rw [wrap_succ h1 hn]; rfl) (by rw [hB, decide_eq_false (by omega)]; rfl)
  simp only [Int.natCast_zero] at e
  rw [e]
  simp [sumC]
theorem len_lt {t : Ty} {xs : List (den t)} (h : xs.length ≤ maxLen) : xs.length < 9223372036854775808 := by
  unfold maxLen at h; omega
end Go.Ab
