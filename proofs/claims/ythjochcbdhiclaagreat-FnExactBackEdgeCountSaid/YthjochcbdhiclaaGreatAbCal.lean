import Derived.Test.YthjochcbdhiclaaGreatAbMat5
set_option linter.unnecessarySimpa false
set_option linter.unusedVariables false
set_option linter.unusedSimpArgs false
namespace Go.Ab
structure RefUp (br : Bool) (nm nu ver : Nat → Nat) (E : Env) (h : Heap) (w : World) (E' : Env) (h' : Heap) : Prop where
  own : ∀ q rg v, OwnAV E h w q none rg v → OwnAV E' h' w (nm q) none rg v
  ptr : ∀ q i off v, PtrAV E h q none i off v → PtrAV E' h' (nm q) none i off v
  nest : ∀ q i k j off v, PtrAV E h q (some (i, k, ver q)) j off v → PtrAV E' h' (nm q) (some (i, k, nu q)) j off v
  nestO : ∀ q i k rg v, OwnAV E h w q (some (i, k, ver q)) rg v → OwnAV E' h' w (nm q) (some (i, k, nu q)) rg v
  pure : ∀ (t : Ty) (x : den t) vs, (br = true → t.flat = true) → RepC E.I w t x vs → RepC E'.I w t x vs
section
variable {br : Bool} {nm nu ver : Nat → Nat}
theorem up_up {t : Ty} {x : den t} (hf : br = true → t.flat = true) {E E' : Env} {h h' : Heap} {w : World} (U : RefUp br nm nu ver E h w E' h') {u : Value} (hu : RepAV E h w (up t x) u) : RepAV E' h' w (up t x) u := by
  refine rep_up ?_
  unfold up at hu
  unfold RepV RepV'
  split at hu
  · rename_i ha
    rw [if_pos ha]
    simp only [RepAV] at hu
    obtain ⟨vs, rfl, h1⟩ := hu
    exact ⟨vs, rfl, U.pure t x _ hf (flat_rep t h1)⟩
  · rename_i ha
    rw [if_neg ha]
    rw [flat_single x (by simpa using ha)] at hu
    simp only [List.headD_cons, RepAV] at hu
    exact U.pure t x _ hf hu
theorem fl_and {a b : Bool} (h : (a && b) = true) : a = true ∧ b = true := by rwa [Bool.and_eq_true] at h
theorem fl_or {a : Bool} (h : (!br || a) = true) : br = true → a = true := fun hb => by subst hb; simpa using h
theorem write_up (l : TmL) : l.fl br = true → ∀ (r : Ty) (x : den (l.ty r)), (l.write nm nu r x).2 = (l.write id ver r x).2 ∧
    ∀ E h w E' h', RefUp br nm nu ver E h w E' h' → ∀ us, RepL E h w (l.write id ver r x).1 us → RepL E' h' w (l.write nm nu r x).1 us := by
  induction l with
  | nil => intro hf r x; exact ⟨rfl, fun E h w E' h' U us hu => by simpa only [TmL.write, RepL] using hu⟩
  | junk l ih =>
    intro hf r x
    obtain ⟨h1, h2⟩ := ih hf r x
    refine ⟨h1, fun E h w E' h' U us hu => ?_⟩
    simp only [TmL.write, RepL] at hu
    obtain ⟨u, us, rfl, k1, k2⟩ := hu
    exact RepL.cons (by simp only [RepAV]) (h2 E h w E' h' U us k2)
  | slot t l ih =>
    intro hf r x
    obtain ⟨hf1, hf2⟩ := fl_and hf
    obtain ⟨h1, h2⟩ := ih hf2 r x.2
    refine ⟨h1, fun E h w E' h' U us hu => ?_⟩
    simp only [TmL.write, RepL] at hu
    obtain ⟨u, us, rfl, k1, k2⟩ := hu
    exact RepL.cons (up_up (fl_or hf1) U k1) (h2 E h w E' h' U us k2)
  | agg cs l ih1 ih2 =>
    intro hf r x
    obtain ⟨hf1, hf2⟩ := fl_and hf
    obtain ⟨g1, g2⟩ := ih1 hf1 (l.ty r) x
    obtain ⟨h1, h2⟩ := ih2 hf2 r (cs.write id ver (l.ty r) x).2
    refine ⟨?_, fun E h w E' h' U us hu => ?_⟩
    · show (l.write nm nu r (cs.write nm nu (l.ty r) x).2).2 = _
      rw [g1]; exact h1
    · simp only [TmL.write, RepL, RepAV] at hu
      obtain ⟨u, us, rfl, ⟨vs, rfl, k1⟩, k2⟩ := hu
      show RepL E' h' w (.agg (cs.write nm nu (l.ty r) x).1 :: (l.write nm nu r (cs.write nm nu (l.ty r) x).2).1) _
      refine RepL.cons (by simp only [RepAV]; exact ⟨vs, rfl, g2 E h w E' h' U vs k1⟩) ?_
      rw [g1]; exact h2 E h w E' h' U us k2
  | fn f cs l ih1 ih2 =>
    intro hf r x
    obtain ⟨hf1, hf2⟩ := fl_and hf
    obtain ⟨g1, g2⟩ := ih1 hf1 (l.ty r) x
    obtain ⟨h1, h2⟩ := ih2 hf2 r (cs.write id ver (l.ty r) x).2
    refine ⟨?_, fun E h w E' h' U us hu => ?_⟩
    · show (l.write nm nu r (cs.write nm nu (l.ty r) x).2).2 = _
      rw [g1]; exact h1
    · simp only [TmL.write, RepL, RepAV] at hu
      obtain ⟨u, us, rfl, ⟨vs, rfl, k1⟩, k2⟩ := hu
      show RepL E' h' w (.fn f (cs.write nm nu (l.ty r) x).1 :: (l.write nm nu r (cs.write nm nu (l.ty r) x).2).1) _
      refine RepL.cons (by simp only [RepAV]; exact ⟨vs, rfl, g2 E h w E' h' U vs k1⟩) ?_
      rw [g1]; exact h2 E h w E' h' U us k2
  | own q l ih =>
    intro hf r x
    obtain ⟨h1, h2⟩ := ih hf r x
    refine ⟨h1, fun E h w E' h' U us hu => ?_⟩
    simp only [TmL.write, RepL, RepAV] at hu
    obtain ⟨u, us, rfl, k1, k2⟩ := hu
    exact RepL.cons (by simp only [RepAV]; exact U.own q _ u k1) (h2 E h w E' h' U us k2)
  | ptr q i off l ih =>
    intro hf r x
    obtain ⟨h1, h2⟩ := ih hf r x
    refine ⟨h1, fun E h w E' h' U us hu => ?_⟩
    simp only [TmL.write, RepL, RepAV] at hu
    obtain ⟨u, us, rfl, k1, k2⟩ := hu
    exact RepL.cons (by simp only [RepAV]; exact U.ptr q i off u k1) (h2 E h w E' h' U us k2)
  | ptrI q off l ih =>
    intro hf r x
    obtain ⟨h1, h2⟩ := ih hf r x.2
    refine ⟨h1, fun E h w E' h' U us hu => ?_⟩
    simp only [TmL.write, RepL, RepAV] at hu
    obtain ⟨u, us, rfl, k1, k2⟩ := hu
    exact RepL.cons (by simp only [RepAV]; exact U.ptr q _ off u k1) (h2 E h w E' h' U us k2)
  | mptr q k off l ih =>
    intro hf r x
    obtain ⟨o, x⟩ := x
    obtain ⟨h1, h2⟩ := ih hf r x
    refine ⟨h1, fun E h w E' h' U us hu => ?_⟩
    simp only [TmL.write, RepL] at hu
    obtain ⟨u, us, rfl, k1, k2⟩ := hu
    refine RepL.cons (c := .mptr (nm q) k (nu q) off o) ?_ (h2 E h w E' h' U us k2)
    cases o with
    | none => simpa only [RepAV] using k1
    | some p => simp only [RepAV, id] at k1 ⊢; exact U.nest q _ _ _ _ u k1
  | nown q k l ih =>
    intro hf r x
    obtain ⟨h1, h2⟩ := ih hf r x.2
    refine ⟨h1, fun E h w E' h' U us hu => ?_⟩
    simp only [TmL.write, RepL, RepAV] at hu
    obtain ⟨u, us, rfl, k1, k2⟩ := hu
    exact RepL.cons (by simp only [RepAV]; exact U.nestO q _ k _ u k1) (h2 E h w E' h' U us k2)
  | ownR q l ih =>
    intro hf r x
    obtain ⟨h1, h2⟩ := ih hf r x.2
    refine ⟨h1, fun E h w E' h' U us hu => ?_⟩
    simp only [TmL.write, RepL, RepAV] at hu
    obtain ⟨u, us, rfl, k1, k2⟩ := hu
    exact RepL.cons (by simp only [RepAV]; exact U.own q _ u k1) (h2 E h w E' h' U us k2)
  | const c l ih =>
    intro hf r x
    obtain ⟨hf1, hf2⟩ := fl_and hf
    obtain ⟨h1, h2⟩ := ih hf2 r x
    refine ⟨h1, fun E h w E' h' U us hu => ?_⟩
    simp only [TmL.write, RepL] at hu
    obtain ⟨u, us, rfl, k1, k2⟩ := hu
    refine RepL.cons ?_ (h2 E h w E' h' U us k2)
    split at hf1
    · simpa only [RepAV] using k1
    · simpa only [RepAV] using k1
    · simpa only [RepAV] using k1
    · simpa only [RepAV] using k1
    · simpa only [RepAV, RepL] using k1
    · cases hf1
def Two (br : Bool) (nm nu ver : Nat → Nat) (q : Nat) (o o' : Option Cont) : Prop :=
  (o = none ∧ o' = none) ∨ (o = some .dead ∧ o' = some .dead) ∨ (∃ ro t xs, o = some (.lst ro t xs) ∧ o' = some (.lst ro t xs) ∧ (br = true → t.flat = true)) ∨
  (∃ ro t xs, o = some (.tree ro (ver q) t xs none) ∧ o' = some (.tree ro (nu q) t xs none) ∧ (br = true → t.tflat = true)) ∨
  (∃ n cs cs', o = some (.cells n [cs]) ∧ o' = some (.cells n [cs']) ∧ ∀ E h w E' h', RefUp br nm nu ver E h w E' h' → ∀ us, RepL E h w cs us → RepL E' h' w cs' us)
theorem writeH_up (l : TmH) : l.fl br = true → ∀ (q0 : Nat) (x : den l.ty) (k : Nat), Two br nm nu ver (q0 + k) ((l.write id ver q0 x).getD k none) ((l.write nm nu q0 x).getD k none) := by
  have ext : ∀ {q0 : Nat} {os os' : List (Option Cont)} {o o' : Option Cont}, Two br nm nu ver q0 o o' → (∀ k, Two br nm nu ver (q0 + 1 + k) (os.getD k none) (os'.getD k none)) → ∀ k, Two br nm nu ver (q0 + k) ((o :: os).getD k none) ((o' :: os').getD k none) := by
    intro q0 os os' o o' h1 h2 k
    cases k with
    | zero => exact h1
    | succ k =>
      have := h2 k
      rw [show q0 + 1 + k = q0 + (k + 1) by omega] at this
      exact this
  induction l with
  | nil => intro hf q0 x k; exact .inl ⟨by simp [TmH.write], by simp [TmH.write]⟩
  | gone l ih => intro hf q0 x; exact ext (.inr (.inl ⟨rfl, rfl⟩)) (ih hf (q0 + 1) x)
  | kept l ih => intro hf q0 x; exact ext (.inl ⟨rfl, rfl⟩) (ih hf (q0 + 1) x)
  | lst ro t l ih =>
    intro hf q0 x
    obtain ⟨hf1, hf2⟩ := fl_and hf
    exact ext (.inr (.inr (.inl ⟨ro, t, x.1, rfl, rfl, fl_or hf1⟩))) (ih hf2 (q0 + 1) x.2)
  | tree ro v t l ih =>
    intro hf q0 x
    obtain ⟨hf1, hf2⟩ := fl_and hf
    exact ext (.inr (.inr (.inr (.inl ⟨ro, t, x.1, rfl, rfl, fl_or hf1⟩)))) (ih hf2 (q0 + 1) x.2)
  | one t l ih =>
    intro hf q0 x
    obtain ⟨hf1, hf2⟩ := fl_and hf
    refine ext (.inr (.inr (.inr (.inr ⟨t.size, flat t x.1, flat t x.1, rfl, rfl, fun E h w E' h' U us hu => ?_⟩)))) (ih hf2 (q0 + 1) x.2)
    exact rep_flat t (U.pure t x.1 us (fl_or hf1) (flat_rep t hu))
  | cells n ms l ih =>
    intro hf q0 x
    obtain ⟨hf1, hf2⟩ := fl_and hf
    obtain ⟨g1, g2⟩ := write_up (ver := ver) (nm := nm) (nu := nu) ms hf1 l.ty x
    have := ext (.inr (.inr (.inr (.inr ⟨n, (ms.write id ver l.ty x).1, (ms.write nm nu l.ty x).1, rfl, rfl, fun E h w E' h' U us hu => g2 E h w E' h' U us hu⟩)))) (ih hf2 (q0 + 1) (ms.write id ver l.ty x).2)
    rw [← g1] at this
    intro k
    have := this k
    rw [g1] at this
    show Two br nm nu ver (q0 + k) ((some (Cont.cells n [(ms.write id ver l.ty x).1]) :: l.write id ver (q0 + 1) (ms.write id ver l.ty x).2).getD k none) ((some (Cont.cells n [(ms.write nm nu l.ty x).1]) :: l.write nm nu (q0 + 1) (ms.write nm nu l.ty x).2).getD k none)
    rw [g1]; exact this
end
theorem mem_deltaOf {ρ : Ren} {base : Nat} : (os : List (Option Cont)) → (q0 r : Nat) → (c : Cont) → ((r, c) ∈ deltaOf ρ base q0 os ↔ ∃ k, os.getD k none = some c ∧ rho ρ base (q0 + k) = r)
  | [], q0, r, c => by simp [deltaOf]
  | none :: os, q0, r, c => by
    rw [deltaOf, mem_deltaOf os (q0 + 1) r c]
    constructor
    · rintro ⟨k, h1, h2⟩; exact ⟨k + 1, by simpa using h1, by rw [show q0 + (k + 1) = q0 + 1 + k by omega]; exact h2⟩
    · rintro ⟨k, h1, h2⟩
      cases k with
      | zero => simp at h1
      | succ k => exact ⟨k, by simpa using h1, by rw [show q0 + 1 + k = q0 + (k + 1) by omega]; exact h2⟩
  | some d :: os, q0, r, c => by
    rw [deltaOf, List.mem_cons, mem_deltaOf os (q0 + 1) r c]
    constructor
    · rintro (h1 | ⟨k, h1, h2⟩)
      · obtain ⟨rfl, rfl⟩ := Prod.mk.inj h1; exact ⟨0, by simp, rfl⟩
      · exact ⟨k + 1, by simpa using h1, by rw [show q0 + (k + 1) = q0 + 1 + k by omega]; exact h2⟩
    · rintro ⟨k, h1, h2⟩
      cases k with
      | zero => left; simp at h1; subst h1; rw [← h2]; rfl
      | succ k => exact .inr ⟨k, by simpa using h1, by rw [show q0 + 1 + k = q0 + (k + 1) by omega]; exact h2⟩
theorem apD_not : (δ : Delta) → {h : Heap} → {r : Nat} → (∀ c, (r, c) ∉ δ) → (apD h δ).getD r none = h.getD r none
  | [], h, r, _ => rfl
  | p :: δ, h, r, hn => by
    rw [apD, apD_not δ (fun c hc => hn c (List.mem_cons_of_mem _ hc)), getD_setH, if_neg]
    rintro rfl; exact hn p.2 (List.mem_cons_self ..)
theorem apD_mem : (δ : Delta) → {h : Heap} → {r : Nat} → {c : Cont} → (∀ c', (r, c') ∈ δ → c' = c) → (r, c) ∈ δ → (apD h δ).getD r none = some c
  | [], h, r, c, _, hm => by cases hm
  | p :: δ, h, r, c, hu, hm => by
    rw [apD]
    by_cases h1 : ∃ c', (r, c') ∈ δ
    · obtain ⟨c', h2⟩ := h1
      obtain rfl := hu c' (List.mem_cons_of_mem _ h2)
      exact apD_mem δ (fun c'' h3 => hu c'' (List.mem_cons_of_mem _ h3)) h2
    · rw [apD_not δ (fun c' hc => h1 ⟨c', hc⟩)]
      rcases List.mem_cons.1 hm with rfl | h2
      · rw [getD_setH, if_pos rfl]
      · exact absurd ⟨c, h2⟩ h1
end Go.Ab
