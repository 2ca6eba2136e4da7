import Derived.Test.YthjochcbdhiclaaGreatAbMat
import Derived.Test.YthjochcbdhiclaaGreatAbApp4
set_option linter.unnecessarySimpa false
set_option linter.unusedVariables false
set_option linter.unusedSimpArgs false
namespace Go.Ab
structure RefMap (m : Nat) (hv hp : Heap) (ρ : Ren) (ver : Nat → Nat) (E : Env) (h : Heap) (w : World) (E' : Env) (h' : Heap) : Prop where
  own : ∀ q r, q < m → ρ.getD q none = some r → ∀ rg v, OwnAV E h w r none rg v → OwnAV E' h' w q none rg v
  ptr : ∀ q r, q < m → ρ.getD q none = some r → ∀ i off v, PtrAV E h r none i off v → PtrAV E' h' q none i off v
  nest : ∀ q r ve, q < m → ρ.getD q none = some r → curVer hv r ve = true → ∀ i k j off v, PtrAV E h r (some (i, k, ve)) j off v → PtrAV E' h' q (some (i, k, ver q)) j off v
  nestO : ∀ q r ve, q < m → ρ.getD q none = some r → curVer hv r ve = true → ∀ i k rg v, OwnAV E h w r (some (i, k, ve)) rg v → OwnAV E' h' w q (some (i, k, ver q)) rg v
  fresh : ∀ q, q < m → ρ.getD q none = none → OwnAV E' h' w q none none (.slice none 0 0)
  pack : PackOK hp E h w E'.I
theorem rIs_spec {ρ : Ren} {q r : Nat} (h : rIs ρ q r = true) : ρ.getD q none = some r := by
  unfold rIs at h; split at h
  · rename_i r' e; rw [e]; simpa using h
  · cases h
theorem packVK_spec {R : Type} {hp : Heap} {t : Ty} {v : AV} {K : den t → Option R} {z : R} (h : packVK hp t v K = some z) : ∃ x, K x = some z ∧ ∀ E h w E' h', PackOK hp E h w E'.I → ∀ u, RepAV E h w v u → RepAV E' h' w (up t x) u := by
  unfold packVK at h
  split at h
  · rename_i ha
    split at h
    · rename_i cs
      obtain ⟨x, rest, h1, h2⟩ := (packK_spec t).1 _ _ _ _ h
      split at h1
      · rename_i he
        obtain rfl : rest = [] := by simpa using he
        refine ⟨x, h1, fun E h w E' h' p u hu => ?_⟩
        simp only [RepAV] at hu
        obtain ⟨vs, rfl, hu⟩ := hu
        obtain ⟨us, ws, rfl, h3, h4⟩ := h2 E h w E'.I p vs hu
        simp only [RepL] at h4; subst h4
        exact rep_up (by unfold RepV RepV'; rw [if_pos ha]; exact ⟨us, by simp, h3⟩)
      · cases h1
    · cases h
  · rename_i ha
    obtain ⟨x, rest, h1, h2⟩ := (packK_spec t).1 _ _ _ _ h
    split at h1
    · rename_i he
      obtain rfl : rest = [] := by simpa using he
      refine ⟨x, h1, fun E h w E' h' p u hu => ?_⟩
      obtain ⟨us, ws, e, h3, h4⟩ := h2 E h w E'.I p [u] (RepL.cons hu RepL.nil)
      simp only [RepL] at h4; subst h4
      rw [List.append_nil] at e; subst e
      exact rep_up (by unfold RepV RepV'; rw [if_neg ha]; exact h3)
    · cases h1
section
variable {R : Type} {m : Nat} {hv hp : Heap} {ρ : Ren} {ver : Nat → Nat}
theorem blt_spec {a b : Nat} (h : Nat.blt a b = true) : a < b := Nat.le_of_ble_eq_true h
theorem ownRd_spec {q : Nat} {v : AV} (h : ownRd m ρ q v = true) {E : Env} {h0 : Heap} {w : World} {E' : Env} {h' : Heap} (M : RefMap m hv hp ρ ver E h0 w E' h') {u : Value} (hu : RepAV E h0 w v u) : RepAV E' h' w (.own q none none) u := by
  unfold ownRd at h
  rw [Bool.and_eq_true] at h
  obtain ⟨h1, h2⟩ := h
  have h1 := blt_spec h1
  split at h2
  · simp only [RepAV] at hu ⊢; exact M.own q _ h1 (rIs_spec h2) _ u hu
  · simp only [RepAV] at hu ⊢; subst hu; exact M.fresh q h1 (by simpa using h2)
  · cases h2
theorem ptrRd_spec {q i off : Nat} {v : AV} (h : ptrRd m ρ q i off v = true) {E : Env} {h0 : Heap} {w : World} {E' : Env} {h' : Heap} (M : RefMap m hv hp ρ ver E h0 w E' h') {u : Value} (hu : RepAV E h0 w v u) : RepAV E' h' w (.ptr q none i off) u := by
  unfold ptrRd at h
  rw [Bool.and_eq_true] at h
  obtain ⟨h1, h2⟩ := h
  have h1 := blt_spec h1
  split at h2
  · rw [Bool.and_eq_true, Bool.and_eq_true] at h2
    obtain ⟨⟨h3, h4⟩, h5⟩ := h2
    obtain rfl := eq_of_beq h4
    obtain rfl := eq_of_beq h5
    simp only [RepAV] at hu ⊢; exact M.ptr q _ h1 (rIs_spec h3) _ _ u hu
  · cases h2
theorem ptrIRd_spec {q off : Nat} {v : AV} {K : Nat → Option R} {z : R} (h : ptrIRd m ρ q off v K = some z) : ∃ i, K i = some z ∧ ∀ E h0 w E' h', RefMap m hv hp ρ ver E h0 w E' h' → ∀ u, RepAV E h0 w v u → RepAV E' h' w (.ptr q none i off) u := by
  unfold ptrIRd at h
  split at h
  · rename_i r i off'
    split at h
    · rename_i hc
      rw [Bool.and_eq_true, Bool.and_eq_true] at hc
      obtain ⟨⟨h1, h3⟩, h5⟩ := hc
      obtain rfl := eq_of_beq h5
      refine ⟨i, h, fun E h0 w E' h' M u hu => ?_⟩
      simp only [RepAV] at hu ⊢; exact M.ptr q _ (blt_spec h1) (rIs_spec h3) _ _ u hu
    · cases h
  · cases h
theorem mptrRd_spec {q k off : Nat} {v : AV} {K : Option (Nat × Nat) → Option R} {z : R} (h : mptrRd m hv ρ q k off v K = some z) : ∃ o, K o = some z ∧ ∀ E h0 w E' h', RefMap m hv hp ρ ver E h0 w E' h' → ∀ u, RepAV E h0 w v u → RepAV E' h' w (.mptr q k (ver q) off o) u := by
  unfold mptrRd at h
  split at h
  · exact ⟨none, h, fun E h0 w E' h' M u hu => by simpa only [RepAV] using hu⟩
  · rename_i r k' ve off' o
    split at h
    · rename_i hc
      rw [Bool.and_eq_true, Bool.and_eq_true, Bool.and_eq_true, Bool.and_eq_true] at hc
      obtain ⟨⟨⟨⟨h1, h2⟩, h3⟩, h4⟩, h5⟩ := hc
      obtain rfl := eq_of_beq h3
      obtain rfl := eq_of_beq h4
      refine ⟨o, h, fun E h0 w E' h' M u hu => ?_⟩
      cases o with
      | none => simpa only [RepAV] using hu
      | some p => simp only [RepAV] at hu ⊢; exact M.nest q _ _ (blt_spec h1) (rIs_spec h2) h5 _ _ _ _ _ hu
    · cases h
  · rename_i r i k' ve j off'
    split at h
    · rename_i hc
      rw [Bool.and_eq_true, Bool.and_eq_true, Bool.and_eq_true, Bool.and_eq_true] at hc
      obtain ⟨⟨⟨⟨h1, h2⟩, h3⟩, h4⟩, h5⟩ := hc
      obtain rfl := eq_of_beq h3
      obtain rfl := eq_of_beq h4
      refine ⟨some (i, j), h, fun E h0 w E' h' M u hu => ?_⟩
      simp only [RepAV] at hu ⊢; exact M.nest q _ _ (blt_spec h1) (rIs_spec h2) h5 _ _ _ _ _ hu
    · cases h
  · cases h
theorem nownRd_spec {q k : Nat} {v : AV} {K : Nat → Option R} {z : R} (h : nownRd m hv ρ q k v K = some z) : ∃ i, K i = some z ∧ ∀ E h0 w E' h', RefMap m hv hp ρ ver E h0 w E' h' → ∀ u, RepAV E h0 w v u → RepAV E' h' w (.own q (some (i, k, ver q)) none) u := by
  unfold nownRd at h
  split at h
  · rename_i r i k' ve
    split at h
    · rename_i hc
      rw [Bool.and_eq_true, Bool.and_eq_true, Bool.and_eq_true] at hc
      obtain ⟨⟨⟨h1, h2⟩, h3⟩, h5⟩ := hc
      obtain rfl := eq_of_beq h3
      refine ⟨i, h, fun E h0 w E' h' M u hu => ?_⟩
      simp only [RepAV] at hu ⊢; exact M.nestO q _ _ (blt_spec h1) (rIs_spec h2) h5 _ _ _ _ hu
    · cases h
  · cases h
theorem ownRRd_spec {q : Nat} {v : AV} {K : Nat × Nat → Option R} {z : R} (h : ownRRd m ρ q v K = some z) : ∃ p, K p = some z ∧ ∀ E h0 w E' h', RefMap m hv hp ρ ver E h0 w E' h' → ∀ u, RepAV E h0 w v u → RepAV E' h' w (.own q none (some p)) u := by
  unfold ownRRd at h
  split at h
  · rename_i r p
    split at h
    · rename_i hc
      rw [Bool.and_eq_true] at hc
      refine ⟨p, h, fun E h0 w E' h' M u hu => ?_⟩
      simp only [RepAV] at hu ⊢; exact M.own q _ (blt_spec hc.1) (rIs_spec hc.2) _ u hu
    · cases h
  · cases h
theorem sameConst_spec {v c : AV} (h : sameConst v c = true) {E : Env} {h0 : Heap} {w : World} {E' : Env} {h' : Heap} {u : Value} (hu : RepAV E h0 w v u) : RepAV E' h' w c u := by
  unfold sameConst at h
  split at h
  · simpa only [RepAV] using hu
  · simpa only [RepAV] using hu
  · simpa only [RepAV] using hu
  · simpa only [RepAV] using hu
  · obtain rfl := eq_of_beq h; simpa only [RepAV, RepL] using hu
  · cases h
theorem readK_rep (l : TmL) : ∀ (vs : List AV) (r : Ty) (x : den r) (K : den (l.ty r) → Option R) (z : R), l.readK m hv hp ρ vs r x K = some z →
    ∃ y, K y = some z ∧ (l.write id ver r y).2 = x ∧ ∀ E h0 w E' h', RefMap m hv hp ρ ver E h0 w E' h' → ∀ us, RepL E h0 w vs us → RepL E' h' w (l.write id ver r y).1 us := by
  induction l with
  | nil =>
    intro vs r x K z h
    unfold TmL.readK at h
    split at h
    · exact ⟨x, h, rfl, fun E h0 w E' h' M us hu => by simp only [RepL] at hu; subst hu; exact RepL.nil⟩
    · cases h
  | junk l ih =>
    intro vs r x K z h
    unfold TmL.readK at h
    split at h
    · obtain ⟨y, h1, h2, h3⟩ := ih _ r x K z h
      refine ⟨y, h1, h2, fun E h0 w E' h' M us hu => ?_⟩
      simp only [RepL] at hu
      obtain ⟨u, us, rfl, k1, k2⟩ := hu
      exact RepL.cons (by simp only [RepAV]) (h3 E h0 w E' h' M us k2)
    · cases h
  | slot t l ih =>
    intro vs r x K z h
    unfold TmL.readK at h
    split at h
    · obtain ⟨y, h1, h2, h3⟩ := ih _ r x _ z h
      obtain ⟨a, h4, h5⟩ := packVK_spec h1
      refine ⟨(a, y), h4, h2, fun E h0 w E' h' M us hu => ?_⟩
      simp only [RepL] at hu
      obtain ⟨u, us, rfl, k1, k2⟩ := hu
      exact RepL.cons (h5 E h0 w E' h' M.pack u k1) (h3 E h0 w E' h' M us k2)
    · cases h
  | agg cs l ih1 ih2 =>
    intro vs r x K z h
    unfold TmL.readK at h
    split at h
    · obtain ⟨y, h1, h2, h3⟩ := ih2 _ r x _ z h
      obtain ⟨y2, h4, h5, h6⟩ := ih1 _ (l.ty r) y K z h1
      refine ⟨y2, h4, ?_, fun E h0 w E' h' M us hu => ?_⟩
      · show (l.write id ver r (cs.write id ver (l.ty r) y2).2).2 = x
        rw [h5]; exact h2
      · simp only [RepL] at hu
        obtain ⟨u, us, rfl, k1, k2⟩ := hu
        simp only [RepAV] at k1
        obtain ⟨ws, rfl, k1⟩ := k1
        show RepL E' h' w (.agg (cs.write id ver (l.ty r) y2).1 :: (l.write id ver r (cs.write id ver (l.ty r) y2).2).1) _
        refine RepL.cons (by simp only [RepAV]; exact ⟨ws, rfl, h6 E h0 w E' h' M ws k1⟩) ?_
        rw [h5]; exact h3 E h0 w E' h' M us k2
    · cases h
  | fn f cs l ih1 ih2 =>
    intro vs r x K z h
    unfold TmL.readK at h
    split at h
    · split at h
      · rename_i hg; subst hg
        obtain ⟨y, h1, h2, h3⟩ := ih2 _ r x _ z h
        obtain ⟨y2, h4, h5, h6⟩ := ih1 _ (l.ty r) y K z h1
        refine ⟨y2, h4, ?_, fun E h0 w E' h' M us hu => ?_⟩
        · show (l.write id ver r (cs.write id ver (l.ty r) y2).2).2 = x
          rw [h5]; exact h2
        · simp only [RepL] at hu
          obtain ⟨u, us, rfl, k1, k2⟩ := hu
          simp only [RepAV] at k1
          obtain ⟨ws, rfl, k1⟩ := k1
          show RepL E' h' w (.fn _ (cs.write id ver (l.ty r) y2).1 :: (l.write id ver r (cs.write id ver (l.ty r) y2).2).1) _
          refine RepL.cons (by simp only [RepAV]; exact ⟨ws, rfl, h6 E h0 w E' h' M ws k1⟩) ?_
          rw [h5]; exact h3 E h0 w E' h' M us k2
      · cases h
    · cases h
  | own q l ih =>
    intro vs r x K z h
    unfold TmL.readK at h
    split at h
    · split at h
      · rename_i hq
        obtain ⟨y, h1, h2, h3⟩ := ih _ r x K z h
        refine ⟨y, h1, h2, fun E h0 w E' h' M us hu => ?_⟩
        simp only [RepL] at hu
        obtain ⟨u, us, rfl, k1, k2⟩ := hu
        exact RepL.cons (ownRd_spec hq M k1) (h3 E h0 w E' h' M us k2)
      · cases h
    · cases h
  | ptr q i off l ih =>
    intro vs r x K z h
    unfold TmL.readK at h
    split at h
    · split at h
      · rename_i hq
        obtain ⟨y, h1, h2, h3⟩ := ih _ r x K z h
        refine ⟨y, h1, h2, fun E h0 w E' h' M us hu => ?_⟩
        simp only [RepL] at hu
        obtain ⟨u, us, rfl, k1, k2⟩ := hu
        exact RepL.cons (ptrRd_spec hq M k1) (h3 E h0 w E' h' M us k2)
      · cases h
    · cases h
  | ptrI q off l ih =>
    intro vs r x K z h
    unfold TmL.readK at h
    split at h
    · obtain ⟨y, h1, h2, h3⟩ := ih _ r x _ z h
      obtain ⟨i, h4, h5⟩ := ptrIRd_spec (hv := hv) (hp := hp) (ver := ver) h1
      refine ⟨(i, y), h4, h2, fun E h0 w E' h' M us hu => ?_⟩
      simp only [RepL] at hu
      obtain ⟨u, us, rfl, k1, k2⟩ := hu
      exact RepL.cons (h5 E h0 w E' h' M u k1) (h3 E h0 w E' h' M us k2)
    · cases h
  | mptr q k off l ih =>
    intro vs r x K z h
    unfold TmL.readK at h
    split at h
    · obtain ⟨y, h1, h2, h3⟩ := ih _ r x _ z h
      obtain ⟨o, h4, h5⟩ := mptrRd_spec (hp := hp) (ver := ver) h1
      refine ⟨(o, y), h4, h2, fun E h0 w E' h' M us hu => ?_⟩
      simp only [RepL] at hu
      obtain ⟨u, us, rfl, k1, k2⟩ := hu
      exact RepL.cons (h5 E h0 w E' h' M u k1) (h3 E h0 w E' h' M us k2)
    · cases h
  | nown q k l ih =>
    intro vs r x K z h
    unfold TmL.readK at h
    split at h
    · obtain ⟨y, h1, h2, h3⟩ := ih _ r x _ z h
      obtain ⟨i, h4, h5⟩ := nownRd_spec (hp := hp) (ver := ver) h1
      refine ⟨(i, y), h4, h2, fun E h0 w E' h' M us hu => ?_⟩
      simp only [RepL] at hu
      obtain ⟨u, us, rfl, k1, k2⟩ := hu
      exact RepL.cons (h5 E h0 w E' h' M u k1) (h3 E h0 w E' h' M us k2)
    · cases h
  | ownR q l ih =>
    intro vs r x K z h
    unfold TmL.readK at h
    split at h
    · obtain ⟨y, h1, h2, h3⟩ := ih _ r x _ z h
      obtain ⟨p, h4, h5⟩ := ownRRd_spec (hv := hv) (hp := hp) (ver := ver) h1
      refine ⟨(p, y), h4, h2, fun E h0 w E' h' M us hu => ?_⟩
      simp only [RepL] at hu
      obtain ⟨u, us, rfl, k1, k2⟩ := hu
      exact RepL.cons (h5 E h0 w E' h' M u k1) (h3 E h0 w E' h' M us k2)
    · cases h
  | const c l ih =>
    intro vs r x K z h
    unfold TmL.readK at h
    split at h
    · split at h
      · rename_i hq
        obtain ⟨y, h1, h2, h3⟩ := ih _ r x K z h
        refine ⟨y, h1, h2, fun E h0 w E' h' M us hu => ?_⟩
        simp only [RepL] at hu
        obtain ⟨u, us, rfl, k1, k2⟩ := hu
        exact RepL.cons (sameConst_spec hq k1) (h3 E h0 w E' h' M us k2)
      · cases h
    · cases h
def Stands (br : Bool) (n m : Nat) (hv hp : Heap) (ρ : Ren) (ver : Nat → Nat) (q : Nat) (o : Option Cont) : Prop :=
  o = some .dead ∨ (o = none ∧ q < n ∧ ∃ c, hv.getD q none = some c ∧ c ≠ .dead) ∨
  (ρ.getD q none = none ∧ ((∃ ro t, o = some (.lst ro t [])) ∨ ∃ ro t, o = some (.tree ro (ver q) t [] none))) ∨
  ∃ r, ρ.getD q none = some r ∧
    ((∃ ro ro' t xs, hv.getD r none = some (.lst ro' t xs) ∧ o = some (.lst ro t xs) ∧ roOk br ro ro' = true) ∨
     (∃ ro ro' v' t xs, hv.getD r none = some (.tree ro' v' t xs none) ∧ o = some (.tree ro (ver q) t xs none) ∧ roOk br ro ro' = true ∧ verOk n q ro' (ver q) v' = true) ∨
     (∃ k cs cs', hv.getD r none = some (.cells k [cs]) ∧ o = some (.cells k [cs']) ∧ ∀ E h0 w E' h', RefMap m hv hp ρ ver E h0 w E' h' → ∀ us, RepL E h0 w cs us → RepL E' h' w cs' us))
theorem readH_spec {br : Bool} {n : Nat} (l : TmH) : ∀ (q0 : Nat), (∀ k, ver (q0 + k) = l.ver k) → ∀ (K : den l.ty → Option R) (z : R), l.readK br n m hv hp ρ q0 K = some z →
    ∃ y, K y = some z ∧ (l.write id ver q0 y).length = l.len ∧ ∀ k, k < l.len → Stands br n m hv hp ρ ver (q0 + k) ((l.write id ver q0 y).getD k none) := by
  have tail : ∀ {l : TmH} {f : TmH → TmH} {q0 : Nat}, (∀ k, ver (q0 + k) = (f l).ver k) → (∀ k, (f l).ver (k + 1) = l.ver k) → ∀ k, ver (q0 + 1 + k) = l.ver k := by
    intro l f q0 h1 h2 k
    rw [← h2, ← h1]; congr 1; omega
  have ext : ∀ {l : TmH} {q0 : Nat} {os : List (Option Cont)} {o : Option Cont}, Stands br n m hv hp ρ ver q0 o → (∀ k, k < l.len → Stands br n m hv hp ρ ver (q0 + 1 + k) (os.getD k none)) → ∀ k, k < l.len + 1 → Stands br n m hv hp ρ ver (q0 + k) ((o :: os).getD k none) := by
    intro l q0 os o h1 h2 k hk
    cases k with
    | zero => exact h1
    | succ k =>
      have := h2 k (by omega)
      rw [show q0 + 1 + k = q0 + (k + 1) by omega] at this
      exact this
  induction l with
  | nil => intro q0 hv0 K z h; exact ⟨(), h, rfl, fun k hk => absurd hk (Nat.not_lt_zero _)⟩
  | gone l ih =>
    intro q0 hv0 K z h
    obtain ⟨y, h1, h2, h3⟩ := ih (q0 + 1) (tail (f := .gone) hv0 (fun k => rfl)) K z h
    exact ⟨y, h1, congrArg (· + 1) h2, ext (.inl rfl) h3⟩
  | kept l ih =>
    intro q0 hv0 K z h
    unfold TmH.readK at h
    split at h
    · rename_i hq
      split at h
      · cases h
      · cases h
      · rename_i c hne hc
        obtain ⟨y, h1, h2, h3⟩ := ih (q0 + 1) (tail (f := .kept) hv0 (fun k => rfl)) K z h
        exact ⟨y, h1, congrArg (· + 1) h2, ext (.inr (.inl ⟨rfl, blt_spec hq, c, hc, fun hd => hne (by rw [hd])⟩)) h3⟩
    · cases h
  | lst ro t l ih =>
    intro q0 hv0 K z h
    obtain ⟨y, h1, h2, h3⟩ := ih (q0 + 1) (tail (f := .lst ro t) hv0 (fun k => rfl)) _ z h
    split at h1
    · rename_i e
      exact ⟨([], y), h1, congrArg (· + 1) h2, ext (.inr (.inr (.inl ⟨e, .inl ⟨ro, t, rfl⟩⟩))) h3⟩
    · rename_i r e
      split at h1
      · rename_i ro' u xs hc
        split at h1
        · rename_i hro
          obtain ⟨xs', h4, h5⟩ := bind_ok h1
          obtain ⟨e2, h6⟩ := cast?_spec h4
          obtain rfl : u = t := by simpa using e2
          obtain rfl : xs' = xs := by simpa using h6
          exact ⟨(xs', y), h5, congrArg (· + 1) h2, ext (.inr (.inr (.inr ⟨r, e, .inl ⟨ro, ro', u, xs', hc, rfl, hro⟩⟩))) h3⟩
        · cases h1
      · cases h1
  | tree ro v t l ih =>
    intro q0 hv0 K z h
    obtain ⟨y, h1, h2, h3⟩ := ih (q0 + 1) (tail (f := .tree ro v t) hv0 (fun k => rfl)) _ z h
    have hv1 : ver q0 = v := hv0 0
    split at h1
    · rename_i e
      exact ⟨([], y), h1, congrArg (· + 1) h2, ext (.inr (.inr (.inl ⟨e, .inr ⟨ro, t, rfl⟩⟩))) h3⟩
    · rename_i r e
      split at h1
      · rename_i ro' v' u xs hc
        split at h1
        · rename_i hro
          rw [Bool.and_eq_true] at hro
          obtain ⟨xs', h4, h5⟩ := bind_ok h1
          obtain ⟨e2, h6⟩ := cast?_spec h4
          obtain rfl : u = t := by simpa using e2
          obtain rfl : xs' = xs := by simpa using h6
          exact ⟨(xs', y), h5, congrArg (· + 1) h2, ext (.inr (.inr (.inr ⟨r, e, .inr (.inl ⟨ro, ro', v', u, xs', hc, rfl, hro.1, by rw [hv1]; exact hro.2⟩)⟩))) h3⟩
        · cases h1
      · cases h1
  | one t l ih =>
    intro q0 hv0 K z h
    obtain ⟨y, h1, h2, h3⟩ := ih (q0 + 1) (tail (f := .one t) hv0 (fun k => rfl)) _ z h
    split at h1
    · cases h1
    · rename_i r e
      split at h1
      · rename_i k cs hc
        split at h1
        · rename_i hk; subst hk
          obtain ⟨x, rest, h4, h5⟩ := (packK_spec t).1 _ _ _ _ h1
          split at h4
          · rename_i he
            obtain rfl : rest = [] := by simpa using he
            refine ⟨(x, y), h4, congrArg (· + 1) h2, ext (.inr (.inr (.inr ⟨r, e, .inr (.inr ⟨t.size, cs, flat t x, hc, rfl, fun E h0 w E' h' M us hu => ?_⟩)⟩))) h3⟩
            obtain ⟨vs, ws, rfl, k1, k2⟩ := h5 E h0 w E'.I M.pack us hu
            simp only [RepL] at k2; subst k2
            rw [List.append_nil]; exact rep_flat t k1
          · cases h4
        · cases h1
      · cases h1
  | cells k ms l ih =>
    intro q0 hv0 K z h
    obtain ⟨y, h1, h2, h3⟩ := ih (q0 + 1) (tail (f := .cells k ms) hv0 (fun k => rfl)) _ z h
    split at h1
    · cases h1
    · rename_i r e
      split at h1
      · rename_i k' cs hc
        split at h1
        · rename_i hk; subst hk
          obtain ⟨y2, h4, h5, h6⟩ := readK_rep (ver := ver) ms cs l.ty y K z h1
          have hw : (TmH.cells k' ms l).write id ver q0 y2 = some (.cells k' [(ms.write id ver l.ty y2).1]) :: l.write id ver (q0 + 1) y := by
            show some (Cont.cells k' [(ms.write id ver l.ty y2).1]) :: l.write id ver (q0 + 1) (ms.write id ver l.ty y2).2 = _
            rw [h5]
          refine ⟨y2, h4, by rw [hw]; exact congrArg (· + 1) h2, ?_⟩
          rw [hw]
          exact ext (.inr (.inr (.inr ⟨r, e, .inr (.inr ⟨k', cs, _, hc, rfl, fun E h0 w E' h' M us hu => h6 E h0 w E' h' M us hu⟩)⟩))) h3
        · cases h1
      · cases h1
end
end Go.Ab
