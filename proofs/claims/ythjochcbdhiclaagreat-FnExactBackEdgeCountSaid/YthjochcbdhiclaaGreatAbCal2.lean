import Derived.Test.YthjochcbdhiclaaGreatAbCal
set_option linter.unnecessarySimpa false
set_option linter.unusedVariables false
set_option linter.unusedSimpArgs false
namespace Go.Ab
def Kind2 (o o2 : Option Cont) : Prop :=
  (∃ t xs, o = some (.lst true t xs) ∧ o2 = none) ∨ (∃ t xs, o = some (.tree true 0 t xs none) ∧ o2 = none) ∨
  (∃ t xs, o = some (.lst false t xs) ∧ (o2 = some .dead ∨ ∃ t' ys, o2 = some (.lst false t' ys))) ∨
  (∃ t xs, o = some (.tree false 0 t xs none) ∧ (o2 = some .dead ∨ (∃ v t' ys, o2 = some (.tree false v t' ys none)) ∨ ∃ t' ys, o2 = some (.lst false t' ys))) ∨
  (∃ k cs, o = some (.cells k [cs]) ∧ (o2 = some .dead ∨ ∃ k' cs', o2 = some (.cells k' [cs'])))
theorem okKinds_spec (a b : TmH) : okKinds a b = true → ∀ (q0 : Nat) (ρ ν : Nat → Nat) (x : den a.ty) (y : den b.ty) (ρ' ν' : Nat → Nat) (q0' : Nat), (∀ k, ν (q0 + k) = a.ver k) → ∀ q,
    (q < a.len → Kind2 ((a.write ρ ν q0 x).getD q none) ((b.write ρ' ν' q0' y).getD q none)) ∧ (a.len ≤ q → q < b.len → ∃ c, (b.write ρ' ν' q0' y).getD q none = some c ∧ c.ro = false) := by
  have sh : ∀ {a : TmH} {f : TmH → TmH} {q0 : Nat} {ν : Nat → Nat}, (∀ k, ν (q0 + k) = (f a).ver k) → (∀ k, (f a).ver (k + 1) = a.ver k) → ∀ k, ν (q0 + 1 + k) = a.ver k := by
    intro a f q0 ν h1 h2 k
    rw [← h2, ← h1]; congr 1; omega
  have nilc : ∀ {b : TmH} {yy : Option Cont} {l : List (Option Cont)}, (∃ c, yy = some c ∧ c.ro = false) → (∀ q, q < TmH.nil.len → Kind2 none none) → ∀ q, (q < TmH.nil.len → Kind2 ((TmH.nil.write id id 0 ()).getD q none) ((yy :: l).getD q none)) := fun _ _ q hq => absurd hq (Nat.not_lt_zero _)
  have ext : ∀ {o o2 : Option Cont} {l l2 : List (Option Cont)} {n m : Nat}, Kind2 o o2 → (∀ q, (q < n → Kind2 (l.getD q none) (l2.getD q none)) ∧ (n ≤ q → q < m → ∃ c, l2.getD q none = some c ∧ c.ro = false)) →
      ∀ q, (q < n + 1 → Kind2 ((o :: l).getD q none) ((o2 :: l2).getD q none)) ∧ (n + 1 ≤ q → q < m + 1 → ∃ c, (o2 :: l2).getD q none = some c ∧ c.ro = false) := by
    intro o o2 l l2 n m h1 h2 q
    cases q with
    | zero => exact ⟨fun _ => h1, fun h => absurd h (by omega)⟩
    | succ q => exact ⟨fun h => (h2 q).1 (by omega), fun h h' => (h2 q).2 (by omega) (by omega)⟩
  have extn : ∀ {o2 : Option Cont} {l2 : List (Option Cont)} {m : Nat} {xs : List (Option Cont)}, (∃ c, o2 = some c ∧ c.ro = false) → (∀ q, (q < 0 → Kind2 (xs.getD q none) (l2.getD q none)) ∧ (0 ≤ q → q < m → ∃ c, l2.getD q none = some c ∧ c.ro = false)) →
      ∀ q, (q < 0 → Kind2 (xs.getD q none) ((o2 :: l2).getD q none)) ∧ (0 ≤ q → q < m + 1 → ∃ c, (o2 :: l2).getD q none = some c ∧ c.ro = false) := by
    intro o2 l2 m xs h1 h2 q
    cases q with
    | zero => exact ⟨fun h => absurd h (by omega), fun _ _ => h1⟩
    | succ q => exact ⟨fun h => absurd h (by omega), fun h h' => (h2 q).2 (by omega) (by omega)⟩
  fun_induction okKinds a b
  case case1 => intro h q0 ρ ν x y ρ' ν' q0' hν q; exact ⟨fun hq => absurd hq (Nat.not_lt_zero _), fun _ hq => absurd hq (Nat.not_lt_zero _)⟩
  case case2 t b ih => intro h q0 ρ ν x y ρ' ν' q0' hν; exact extn (xs := []) ⟨_, rfl, rfl⟩ (ih h q0 ρ ν x y.2 ρ' ν' (q0' + 1) hν)
  case case3 v t b ih => intro h q0 ρ ν x y ρ' ν' q0' hν; exact extn (xs := []) ⟨_, rfl, rfl⟩ (ih h q0 ρ ν x y.2 ρ' ν' (q0' + 1) hν)
  case case4 t b ih => intro h q0 ρ ν x y ρ' ν' q0' hν; exact extn (xs := []) ⟨_, rfl, rfl⟩ (ih h q0 ρ ν x y.2 ρ' ν' (q0' + 1) hν)
  case case5 n cs b ih => intro h q0 ρ ν x y ρ' ν' q0' hν; exact extn (xs := []) ⟨_, rfl, rfl⟩ (ih h q0 ρ ν x (cs.write ρ' ν' b.ty y).2 ρ' ν' (q0' + 1) hν)
  case case6 b ih => intro h q0 ρ ν x y ρ' ν' q0' hν; exact extn (xs := []) ⟨_, rfl, rfl⟩ (ih h q0 ρ ν x y ρ' ν' (q0' + 1) hν)
  case case7 t a b ih => intro h q0 ρ ν x y ρ' ν' q0' hν; exact ext (.inl ⟨t, x.1, rfl, rfl⟩) (ih h (q0 + 1) ρ ν x.2 y ρ' ν' (q0' + 1) (sh (f := .lst true t) hν (fun k => rfl)))
  case case8 t a b ih =>
    intro h q0 ρ ν x y ρ' ν' q0' hν
    have hν0 : ν q0 = 0 := hν 0
    exact ext (.inr (.inl ⟨t, x.1, by rw [hν0], rfl⟩)) (ih h (q0 + 1) ρ ν x.2 y ρ' ν' (q0' + 1) (sh (f := .tree true 0 t) hν (fun k => rfl)))
  case case9 t a t' b ih => intro h q0 ρ ν x y ρ' ν' q0' hν; exact ext (.inr (.inr (.inl ⟨t, x.1, rfl, .inr ⟨t', y.1, rfl⟩⟩))) (ih h (q0 + 1) ρ ν x.2 y.2 ρ' ν' (q0' + 1) (sh (f := .lst false t) hν (fun k => rfl)))
  case case10 t a v t' b ih =>
    intro h q0 ρ ν x y ρ' ν' q0' hν
    have hν0 : ν q0 = 0 := hν 0
    exact ext (.inr (.inr (.inr (.inl ⟨t, x.1, by rw [hν0], .inr (.inl ⟨_, t', y.1, rfl⟩)⟩)))) (ih h (q0 + 1) ρ ν x.2 y.2 ρ' ν' (q0' + 1) (sh (f := .tree false 0 t) hν (fun k => rfl)))
  case case11 t a t' b ih =>
    intro h q0 ρ ν x y ρ' ν' q0' hν
    have hν0 : ν q0 = 0 := hν 0
    exact ext (.inr (.inr (.inr (.inl ⟨t, x.1, by rw [hν0], .inr (.inr ⟨t', y.1, rfl⟩)⟩)))) (ih h (q0 + 1) ρ ν x.2 y.2 ρ' ν' (q0' + 1) (sh (f := .tree false 0 t) hν (fun k => rfl)))
  case case12 t a t' b ih => intro h q0 ρ ν x y ρ' ν' q0' hν; exact ext (.inr (.inr (.inr (.inr ⟨_, _, rfl, .inr ⟨_, _, rfl⟩⟩)))) (ih h (q0 + 1) ρ ν x.2 y.2 ρ' ν' (q0' + 1) (sh (f := .one t) hν (fun k => rfl)))
  case case13 t a n cs' b ih => intro h q0 ρ ν x y ρ' ν' q0' hν; exact ext (.inr (.inr (.inr (.inr ⟨_, _, rfl, .inr ⟨_, _, rfl⟩⟩)))) (ih h (q0 + 1) ρ ν x.2 (cs'.write ρ' ν' b.ty y).2 ρ' ν' (q0' + 1) (sh (f := .one t) hν (fun k => rfl)))
  case case14 n cs a n' cs' b ih => intro h q0 ρ ν x y ρ' ν' q0' hν; exact ext (.inr (.inr (.inr (.inr ⟨_, _, rfl, .inr ⟨_, _, rfl⟩⟩)))) (ih h (q0 + 1) ρ ν (cs.write ρ ν a.ty x).2 (cs'.write ρ' ν' b.ty y).2 ρ' ν' (q0' + 1) (sh (f := .cells n cs) hν (fun k => rfl)))
  case case15 n cs a t' b ih => intro h q0 ρ ν x y ρ' ν' q0' hν; exact ext (.inr (.inr (.inr (.inr ⟨_, _, rfl, .inr ⟨_, _, rfl⟩⟩)))) (ih h (q0 + 1) ρ ν (cs.write ρ ν a.ty x).2 y.2 ρ' ν' (q0' + 1) (sh (f := .cells n cs) hν (fun k => rfl)))
  case case16 t a b ih => intro h q0 ρ ν x y ρ' ν' q0' hν; exact ext (.inr (.inr (.inl ⟨t, x.1, rfl, .inl rfl⟩))) (ih h (q0 + 1) ρ ν x.2 y ρ' ν' (q0' + 1) (sh (f := .lst false t) hν (fun k => rfl)))
  case case17 t a b ih =>
    intro h q0 ρ ν x y ρ' ν' q0' hν
    have hν0 : ν q0 = 0 := hν 0
    exact ext (.inr (.inr (.inr (.inl ⟨t, x.1, by rw [hν0], .inl rfl⟩)))) (ih h (q0 + 1) ρ ν x.2 y ρ' ν' (q0' + 1) (sh (f := .tree false 0 t) hν (fun k => rfl)))
  case case18 t a b ih => intro h q0 ρ ν x y ρ' ν' q0' hν; exact ext (.inr (.inr (.inr (.inr ⟨_, _, rfl, .inl rfl⟩)))) (ih h (q0 + 1) ρ ν x.2 y ρ' ν' (q0' + 1) (sh (f := .one t) hν (fun k => rfl)))
  case case19 n cs a b ih => intro h q0 ρ ν x y ρ' ν' q0' hν; exact ext (.inr (.inr (.inr (.inr ⟨_, _, rfl, .inl rfl⟩)))) (ih h (q0 + 1) ρ ν (cs.write ρ ν a.ty x).2 y ρ' ν' (q0' + 1) (sh (f := .cells n cs) hν (fun k => rfl)))
  case case20 => intro h; cases h
theorem outs_spec {ρ : Ren} {nm nu : Nat → Nat} (l : TmH) : ∀ (q0 : Nat) (x : den l.ty) (k : Nat) (c : Cont), (l.write nm nu q0 x).getD k none = some c → c.ro = false → ∀ r, ρ.getD (q0 + k) none = some r → r ∈ outs ρ l q0 := by
  have tl : ∀ {q0 r : Nat} {l : List Nat}, r ∈ l → r ∈ (match ρ.getD q0 none with | some r => r :: l | none => l) := by
    intro q0 r l h
    split
    · exact List.mem_cons_of_mem _ h
    · exact h
  have hd : ∀ {q0 r : Nat} {l : List Nat}, ρ.getD q0 none = some r → r ∈ (match ρ.getD q0 none with | some r => r :: l | none => l) := by
    intro q0 r l h
    rw [h]; exact List.mem_cons_self ..
  induction l with
  | nil => intro q0 x k c h; simp [TmH.write] at h
  | gone l ih =>
    intro q0 x k c h hr r e
    cases k with
    | zero => exact hd e
    | succ k => exact tl (ih (q0 + 1) x k c h hr r (by rw [show q0 + 1 + k = q0 + (k + 1) by omega]; exact e))
  | kept l ih =>
    intro q0 x k c h hr r e
    cases k with
    | zero => exact hd e
    | succ k => exact tl (ih (q0 + 1) x k c h hr r (by rw [show q0 + 1 + k = q0 + (k + 1) by omega]; exact e))
  | lst ro t l ih =>
    intro q0 x k c h hr r e
    cases ro with
    | true =>
      cases k with
      | zero => simp only [TmH.write, List.getD_cons_zero, Option.some.injEq] at h; subst h; cases hr
      | succ k => exact ih (q0 + 1) x.2 k c h hr r (by rw [show q0 + 1 + k = q0 + (k + 1) by omega]; exact e)
    | false =>
      cases k with
      | zero => exact hd e
      | succ k => exact tl (ih (q0 + 1) x.2 k c h hr r (by rw [show q0 + 1 + k = q0 + (k + 1) by omega]; exact e))
  | tree ro v t l ih =>
    intro q0 x k c h hr r e
    cases ro with
    | true =>
      cases k with
      | zero => simp only [TmH.write, List.getD_cons_zero, Option.some.injEq] at h; subst h; cases hr
      | succ k => exact ih (q0 + 1) x.2 k c h hr r (by rw [show q0 + 1 + k = q0 + (k + 1) by omega]; exact e)
    | false =>
      cases k with
      | zero => exact hd e
      | succ k => exact tl (ih (q0 + 1) x.2 k c h hr r (by rw [show q0 + 1 + k = q0 + (k + 1) by omega]; exact e))
  | one t l ih =>
    intro q0 x k c h hr r e
    cases k with
    | zero => exact hd e
    | succ k => exact tl (ih (q0 + 1) x.2 k c h hr r (by rw [show q0 + 1 + k = q0 + (k + 1) by omega]; exact e))
  | cells n ms l ih =>
    intro q0 x k c h hr r e
    cases k with
    | zero => exact hd e
    | succ k => exact tl (ih (q0 + 1) _ k c h hr r (by rw [show q0 + 1 + k = q0 + (k + 1) by omega]; exact e))
theorem keptB_spec {ρ : Ren} {nm nu : Nat → Nat} : (l : TmH) → (q0 : Nat) → keptB ρ l q0 = true → (x : den l.ty) → ∀ k, k < l.len → (l.write nm nu q0 x).getD k none = none → ∃ r, ρ.getD (q0 + k) none = some r := by
  intro l
  induction l with
  | nil => intro q0 _ x k hk; exact absurd hk (Nat.not_lt_zero _)
  | kept l ih =>
    intro q0 hb x k hk h
    unfold keptB at hb
    rw [Bool.and_eq_true] at hb
    cases k with
    | zero => exact Option.isSome_iff_exists.1 hb.1
    | succ k =>
      have := ih (q0 + 1) hb.2 x k (Nat.lt_of_succ_lt_succ hk) h
      rw [show q0 + (k + 1) = q0 + 1 + k by omega]; exact this
  | gone l ih =>
    intro q0 hb x k hk h
    cases k with
    | zero => simp [TmH.write] at h
    | succ k =>
      have := ih (q0 + 1) hb x k (Nat.lt_of_succ_lt_succ hk) h
      rw [show q0 + (k + 1) = q0 + 1 + k by omega]; exact this
  | lst ro t l ih =>
    intro q0 hb x k hk h
    cases k with
    | zero => simp [TmH.write] at h
    | succ k =>
      have := ih (q0 + 1) hb x.2 k (Nat.lt_of_succ_lt_succ hk) h
      rw [show q0 + (k + 1) = q0 + 1 + k by omega]; exact this
  | tree ro v t l ih =>
    intro q0 hb x k hk h
    cases k with
    | zero => simp [TmH.write] at h
    | succ k =>
      have := ih (q0 + 1) hb x.2 k (Nat.lt_of_succ_lt_succ hk) h
      rw [show q0 + (k + 1) = q0 + 1 + k by omega]; exact this
  | one t l ih =>
    intro q0 hb x k hk h
    cases k with
    | zero => simp [TmH.write] at h
    | succ k =>
      have := ih (q0 + 1) hb x.2 k (Nat.lt_of_succ_lt_succ hk) h
      rw [show q0 + (k + 1) = q0 + 1 + k by omega]; exact this
  | cells n ms l ih =>
    intro q0 hb x k hk h
    cases k with
    | zero => simp [TmH.write] at h
    | succ k =>
      have := ih (q0 + 1) hb _ k (Nat.lt_of_succ_lt_succ hk) h
      rw [show q0 + (k + 1) = q0 + 1 + k by omega]; exact this
end Go.Ab
