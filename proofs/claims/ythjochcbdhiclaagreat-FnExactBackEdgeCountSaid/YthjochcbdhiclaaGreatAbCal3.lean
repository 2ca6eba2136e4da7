import Derived.Test.YthjochcbdhiclaaGreatAbCal2
set_option linter.unnecessarySimpa false
set_option linter.unusedVariables false
set_option linter.unusedSimpArgs false
namespace Go.Ab
def frOf (E : Env) (h : Heap) (w : World) : Fr := ⟨E, h, w, fun b => ∃ r κ n, E.ι r κ = some (b, n) ∧ roAt h r = false⟩
structure Cx (br : Bool) (n m base : Nat) (hv hp : Heap) (ρ : Ren) (tv ver : Nat → Nat) (h' : Heap) (os0 os : List (Option Cont)) (J : Nat → Prop) (F : Fr) (E1 : Env) (h1 : Heap) (w : World) (Ec : Env) (w' : World) : Prop where
  sub : SubH hv h1
  HI : Inv F E1 h1 w
  nd : (boundOf ρ).Nodup
  st : ∀ q, q < n → Stands br 0 n hv hp ρ tv q (h'.getD q none)
  big : ∀ q, n ≤ q → h'.getD q none = none
  kd : ∀ q, q < n → Kind2 (h'.getD q none) (os.getD q none)
  kn : ∀ q, n ≤ q → q < m → ∃ c, os.getD q none = some c ∧ c.ro = false
  two : ∀ q, Two br (rho ρ base) (nuOf hv ρ ver) ver q (os0.getD q none) (os.getD q none)
  len : os.length = m
  nm : n ≤ m
  short : ∀ q, n ≤ q → ρ.getD q none = none
  free : ∀ j, j < m → h1.getD (base + j) none = none
  kb : ∀ q, q < m → os.getD q none = none → ∃ r, ρ.getD q none = some r
  kv : ∀ q, q < m → os.getD q none = none → ver q = 0
  JI : ∀ b, E1.I b → J b
  JE : br = false → ∀ b, J b → E1.I b
  HC : Inv (frOf (E1.ren h' ρ J) h' w) Ec (mrg h' os0) w'
open Classical in
noncomputable def upE (br : Bool) (os : List (Option Cont)) (nm : Nat → Nat) (E1 Ec : Env) : Env :=
  ⟨fun r κ => if h : ∃ q, (∃ c, os.getD q none = some c) ∧ nm q = r then Ec.ι (Classical.choose h) κ else E1.ι r κ, if br then E1.I else Ec.I⟩
section
variable {br : Bool} {n m base : Nat} {hv hp : Heap} {ρ : Ren} {tv ver : Nat → Nat} {h' : Heap} {os0 os : List (Option Cont)} {J : Nat → Prop} {F : Fr} {E1 : Env} {h1 : Heap} {w : World} {Ec : Env} {w' : World}
theorem Cx.lt (X : Cx br n m base hv hp ρ tv ver h' os0 os J F E1 h1 w Ec w') {q : Nat} {c : Cont} (h : os.getD q none = some c) : q < m := by
  rcases Nat.lt_or_ge q m with h1 | h1
  · exact h1
  · rw [getD_ge (by rw [X.len]; exact h1)] at h; cases h
theorem Cx.live (X : Cx br n m base hv hp ρ tv ver h' os0 os J F E1 h1 w Ec w') {q r : Nat} (hr : ρ.getD q none = some r) : q < n ∧
    ((∃ ro ro' t xs, h1.getD r none = some (.lst ro' t xs) ∧ h'.getD q none = some (.lst ro t xs) ∧ roOk br ro ro' = true ∧ ((ro = true ∧ os.getD q none = none) ∨ (ro = false ∧ (os.getD q none = some .dead ∨ ∃ t' ys, os.getD q none = some (.lst false t' ys))))) ∨
     (∃ ro ro' v' t xs, h1.getD r none = some (.tree ro' v' t xs none) ∧ hv.getD r none = some (.tree ro' v' t xs none) ∧ h'.getD q none = some (.tree ro 0 t xs none) ∧ roOk br ro ro' = true ∧
        ((ro = true ∧ os.getD q none = none) ∨ (ro = false ∧ (os.getD q none = some .dead ∨ (∃ v t' ys, os.getD q none = some (.tree false v t' ys none)) ∨ ∃ t' ys, os.getD q none = some (.lst false t' ys))))) ∨
     (∃ k cs cs', h1.getD r none = some (.cells k [cs]) ∧ h'.getD q none = some (.cells k [cs']) ∧ (os.getD q none = some .dead ∨ ∃ k' cs', os.getD q none = some (.cells k' [cs'])))) := by
  have hq : q < n := by
    rcases Nat.lt_or_ge q n with h1 | h1
    · exact h1
    · rw [X.short q h1] at hr; cases hr
  refine ⟨hq, ?_⟩
  have h2 := X.st q hq
  have h3 := X.kd q hq
  rcases h2 with h4 | ⟨_, h4, _⟩ | ⟨h4, _⟩ | ⟨r', h4, h5⟩
  · exfalso
    rw [h4] at h3
    rcases h3 with ⟨_, _, h3, _⟩ | ⟨_, _, h3, _⟩ | ⟨_, _, h3, _⟩ | ⟨_, _, h3, _⟩ | ⟨_, _, h3, _⟩ <;> cases h3
  · omega
  · rw [hr] at h4; cases h4
  · rw [hr] at h4; obtain rfl : r = r' := by simpa using h4
    rcases h5 with ⟨ro, ro', t, xs, h6, h7, h8⟩ | ⟨ro, ro', v', t, xs, h6, h7, h8, _⟩ | ⟨k, cs, cs', h6, h7, _⟩
    · refine .inl ⟨ro, ro', t, xs, X.sub.lst h6 (by simp) (by simp), h7, h8, ?_⟩
      rw [h7] at h3
      rcases h3 with ⟨_, _, h9, h10⟩ | ⟨_, _, h9, _⟩ | ⟨_, _, h9, h10⟩ | ⟨_, _, h9, _⟩ | ⟨_, _, h9, _⟩
      · left; simp at h9; exact ⟨h9.1, h10⟩
      · cases h9
      · right; simp at h9; exact ⟨h9.1, h10⟩
      · cases h9
      · cases h9
    · have hv0 : tv q = 0 := by
        rw [h7] at h3
        rcases h3 with ⟨_, _, h9, h10⟩ | ⟨_, _, h9, _⟩ | ⟨_, _, h9, h10⟩ | ⟨_, _, h9, _⟩ | ⟨_, _, h9, _⟩
        · cases h9
        · simp at h9; exact h9.2.1
        · cases h9
        · simp at h9; exact h9.2.1
        · cases h9
      rw [hv0] at h7
      refine .inr (.inl ⟨ro, ro', v', t, xs, X.sub.lst h6 (by simp) (by simp), h6, h7, h8, ?_⟩)
      rw [h7] at h3
      rcases h3 with ⟨_, _, h9, h10⟩ | ⟨_, _, h9, h10⟩ | ⟨_, _, h9, h10⟩ | ⟨_, _, h9, h10⟩ | ⟨_, _, h9, _⟩
      · cases h9
      · left; simp at h9; exact ⟨h9.1, h10⟩
      · cases h9
      · right; simp at h9; exact ⟨h9.1, h10⟩
      · cases h9
    · refine .inr (.inr ⟨k, cs, cs', X.sub.lst h6 (by simp) (by simp), h7, ?_⟩)
      rw [h7] at h3
      rcases h3 with ⟨_, _, h9, h10⟩ | ⟨_, _, h9, h10⟩ | ⟨_, _, h9, h10⟩ | ⟨_, _, h9, h10⟩ | ⟨_, _, h9, h10⟩
      · cases h9
      · cases h9
      · cases h9
      · cases h9
      · exact h10
theorem rho_some {q r : Nat} (hr : ρ.getD q none = some r) : rho ρ base q = r := by unfold rho; rw [hr]
theorem rho_none {q : Nat} (hr : ρ.getD q none = none) : rho ρ base q = base + q := by unfold rho; rw [hr]
theorem Cx.some1 (X : Cx br n m base hv hp ρ tv ver h' os0 os J F E1 h1 w Ec w') {q r : Nat} (hr : ρ.getD q none = some r) : ∃ c, h1.getD r none = some c ∧ c ≠ .dead := by
  obtain ⟨_, ⟨_, _, _, _, h2, _⟩ | ⟨_, _, _, _, _, h2, _⟩ | ⟨_, _, _, h2, _⟩⟩ := X.live hr <;> exact ⟨_, h2, by simp⟩
theorem Cx.inj (X : Cx br n m base hv hp ρ tv ver h' os0 os J F E1 h1 w Ec w') {q q' : Nat} (hq : q < m) (hq' : q' < m) (h : rho ρ base q = rho ρ base q') : q = q' := by
  cases e : ρ.getD q none with
  | some r =>
    rw [rho_some e] at h
    cases e' : ρ.getD q' none with
    | some r' => rw [rho_some e'] at h; subst h; exact bound_inj X.nd e e'
    | none =>
      rw [rho_none e'] at h; subst h
      obtain ⟨c, h2, _⟩ := X.some1 e
      rw [X.free q' hq'] at h2; cases h2
  | none =>
    rw [rho_none e] at h
    cases e' : ρ.getD q' none with
    | some r' =>
      rw [rho_some e'] at h; subst h
      obtain ⟨c, h2, _⟩ := X.some1 e'
      rw [X.free q hq] at h2; cases h2
    | none => rw [rho_none e'] at h; omega
theorem Cx.h2 (X : Cx br n m base hv hp ρ tv ver h' os0 os J F E1 h1 w Ec w') : (∀ q c, os.getD q none = some c → (apD h1 (deltaOf ρ base 0 os)).getD (rho ρ base q) none = some c) ∧
    ∀ r, (∀ q c, os.getD q none = some c → rho ρ base q ≠ r) → (apD h1 (deltaOf ρ base 0 os)).getD r none = h1.getD r none := by
  refine ⟨fun q c hc => apD_mem _ (fun c' hm => ?_) ((mem_deltaOf os 0 _ _).2 ⟨q, hc, by rw [Nat.zero_add]⟩), fun r hr => apD_not _ fun c hm => ?_⟩
  · obtain ⟨k, h2, h3⟩ := (mem_deltaOf os 0 _ _).1 hm
    rw [Nat.zero_add] at h3
    obtain rfl := X.inj (X.lt h2) (X.lt hc) h3
    rw [hc] at h2; simpa using h2.symm
  · obtain ⟨k, h2, h3⟩ := (mem_deltaOf os 0 _ _).1 hm
    rw [Nat.zero_add] at h3
    exact hr k c h2 h3
theorem Cx.ι1 (X : Cx br n m base hv hp ρ tv ver h' os0 os J F E1 h1 w Ec w') {q : Nat} {c : Cont} (hc : os.getD q none = some c) (κ : Option (Nat × Nat)) : (upE br os (rho ρ base) E1 Ec).ι (rho ρ base q) κ = Ec.ι q κ := by
  have hex : ∃ q', (∃ c, os.getD q' none = some c) ∧ rho ρ base q' = rho ρ base q := ⟨q, ⟨c, hc⟩, rfl⟩
  simp only [upE]
  rw [dif_pos hex]
  obtain ⟨⟨c', h2⟩, h3⟩ := Classical.choose_spec hex
  rw [X.inj (X.lt h2) (X.lt hc) h3]
theorem Cx.ι2 (X : Cx br n m base hv hp ρ tv ver h' os0 os J F E1 h1 w Ec w') {r : Nat} (hr : ∀ q c, os.getD q none = some c → rho ρ base q ≠ r) (κ : Option (Nat × Nat)) : (upE br os (rho ρ base) E1 Ec).ι r κ = E1.ι r κ := by
  simp only [upE]
  rw [dif_neg]
  rintro ⟨q, ⟨c, h2⟩, h3⟩; exact hr q c h2 h3
theorem Cx.hc (X : Cx br n m base hv hp ρ tv ver h' os0 os J F E1 h1 w Ec w') {q : Nat} {c : Cont} (hc : os.getD q none = some c) : ∃ c0, (mrg h' os0).getD q none = some c0 ∧ Two br (rho ρ base) (nuOf hv ρ ver) ver q (some c0) (some c) := by
  have h2 := X.two q
  rw [hc] at h2
  cases h3 : os0.getD q none with
  | none =>
    rw [h3] at h2
    rcases h2 with ⟨_, h4⟩ | ⟨h4, _⟩ | ⟨_, _, _, h4, _⟩ | ⟨_, _, _, h4, _⟩ | ⟨_, _, _, h4, _⟩ <;> cases h4
  | some c0 =>
    rw [h3] at h2
    exact ⟨c0, by rw [getD_mrg, h3], h2⟩
theorem Cx.hk (X : Cx br n m base hv hp ρ tv ver h' os0 os J F E1 h1 w Ec w') {q : Nat} (hc : os.getD q none = none) : (mrg h' os0).getD q none = h'.getD q none := by
  have h2 := X.two q
  rw [hc] at h2
  have h3 : os0.getD q none = none := by
    rcases h2 with ⟨h4, _⟩ | ⟨_, h4⟩ | ⟨_, _, _, _, h4, _⟩ | ⟨_, _, _, _, h4, _⟩ | ⟨_, _, _, _, h4, _⟩
    · exact h4
    all_goals cases h4
  rw [getD_mrg, h3]
theorem Cx.nu (X : Cx br n m base hv hp ρ tv ver h' os0 os J F E1 h1 w Ec w') {q r v' : Nat} {ro : Bool} {t : Ty} {xs : List (den t)} (hr : ρ.getD q none = some r) (hv1 : hv.getD r none = some (.tree ro v' t xs none)) : nuOf hv ρ ver q = if ver q = 0 then v' else v' + 1 := by
  unfold nuOf
  rw [hr]; simp only [hv1]
  by_cases h : ver q = 0
  · rw [if_pos h, if_pos (by rw [h]; rfl)]
  · rw [if_neg h, if_neg (by simpa using h)]
theorem flat_leaf : (t : Ty) → (x : den t) → t.tflat = true → ∀ c ∈ flat t x, ∃ u y, c = .pv u y ∧ (u.flat = true ∨ ∃ e, u = .slice e ∧ e.flat = true)
  | .prod a b, x, h, c, hc => by
    simp only [Ty.tflat, Bool.and_eq_true] at h
    simp only [flat, List.mem_append] at hc
    rcases hc with hc | hc
    · exact flat_leaf a x.1 h.1 c hc
    · exact flat_leaf b x.2 h.2 c hc
  | .unit, x, h, c, hc => by simp [flat] at hc
  | .slice e, x, h, c, hc => by
    simp only [flat, List.mem_singleton] at hc; subst hc
    exact ⟨_, _, rfl, .inr ⟨e, rfl, h⟩⟩
  | .int k, x, h, c, hc => by simp only [flat, List.mem_singleton] at hc; subst hc; exact ⟨_, _, rfl, .inl rfl⟩
  | .bool, x, h, c, hc => by simp only [flat, List.mem_singleton] at hc; subst hc; exact ⟨_, _, rfl, .inl rfl⟩
  | .str, x, h, c, hc => by simp only [flat, List.mem_singleton] at hc; subst hc; exact ⟨_, _, rfl, .inl rfl⟩
  | .err, x, h, c, hc => by simp only [flat, List.mem_singleton] at hc; subst hc; exact ⟨_, _, rfl, .inl rfl⟩
  | .idx, x, h, c, hc => by simp only [flat, List.mem_singleton] at hc; subst hc; exact ⟨_, _, rfl, .inl rfl⟩
  | .iref _, x, h, c, hc => by cases h
  | .fn _ _, x, h, c, hc => by cases h
theorem rep_flatTy {I I' : Nat → Prop} {w : World} : (t : Ty) → t.flat = true → (x : den t) → (vs : List Value) → RepC I w t x vs → RepC I' w t x vs
  | .prod a b, h, x, vs, h1 => by
    simp only [Ty.flat, Bool.and_eq_true] at h
    simp only [RepC] at h1 ⊢
    obtain ⟨us, ws, e, h2, h3⟩ := h1
    exact ⟨us, ws, e, rep_flatTy a h.1 x.1 us h2, rep_flatTy b h.2 x.2 ws h3⟩
  | .int _, h, x, vs, h1 | .bool, h, x, vs, h1 | .str, h, x, vs, h1 | .err, h, x, vs, h1 | .unit, h, x, vs, h1 | .idx, h, x, vs, h1 => by simpa only [RepC] using h1
  | .slice _, h, x, vs, h1 | .iref _, h, x, vs, h1 | .fn _ _, h, x, vs, h1 => by cases h
end
end Go.Ab
