import Derived.Test.YthjochcbdhiclaaGreatAbMat4
set_option linter.unnecessarySimpa false
set_option linter.unusedVariables false
set_option linter.unusedSimpArgs false
namespace Go.Ab
theorem write_len {ρ ν : Nat → Nat} : (l : TmH) → (q : Nat) → (x : den l.ty) → (l.write ρ ν q x).length = l.len
  | .nil, _, _ => rfl
  | .gone l, q, x => congrArg (· + 1) (write_len l (q + 1) x)
  | .kept l, q, x => congrArg (· + 1) (write_len l (q + 1) x)
  | .lst ro t l, q, x => congrArg (· + 1) (write_len l (q + 1) x.2)
  | .tree ro v t l, q, x => congrArg (· + 1) (write_len l (q + 1) x.2)
  | .one t l, q, x => congrArg (· + 1) (write_len l (q + 1) x.2)
  | .cells k ms l, q, x => congrArg (· + 1) (write_len l (q + 1) _)
theorem noKept_some {ρ ν : Nat → Nat} : (l : TmH) → l.noKept = true → (q : Nat) → (x : den l.ty) → ∀ k, k < l.len → (l.write ρ ν q x).getD k none ≠ none
  | .nil, _, _, _, k, hk => absurd hk (Nat.not_lt_zero _)
  | .kept l, h, _, _, _, _ => by cases h
  | .gone l, h, q, x, k, hk => by
    cases k with
    | zero => simp [TmH.write]
    | succ k => simpa [TmH.write] using noKept_some l h (q + 1) x k (Nat.lt_of_succ_lt_succ hk)
  | .lst ro t l, h, q, x, k, hk => by
    cases k with
    | zero => simp [TmH.write]
    | succ k => simpa [TmH.write] using noKept_some l h (q + 1) x.2 k (Nat.lt_of_succ_lt_succ hk)
  | .tree ro v t l, h, q, x, k, hk => by
    cases k with
    | zero => simp [TmH.write]
    | succ k => simpa [TmH.write] using noKept_some l h (q + 1) x.2 k (Nat.lt_of_succ_lt_succ hk)
  | .one t l, h, q, x, k, hk => by
    cases k with
    | zero => simp [TmH.write]
    | succ k => simpa [TmH.write] using noKept_some l h (q + 1) x.2 k (Nat.lt_of_succ_lt_succ hk)
  | .cells n ms l, h, q, x, k, hk => by
    cases k with
    | zero => simp [TmH.write]
    | succ k => simpa [TmH.write] using noKept_some l h (q + 1) _ k (Nat.lt_of_succ_lt_succ hk)
theorem repT_repL {E : Env} {h : Heap} {w : World} {t : List AV} {a : Array Value} (ht : RepT E h w t a) : RepL E h w t a.toList := RepL.of (by simp [ht.1]) fun i h1 h2 => by
  obtain ⟨v, k1, k2⟩ := ht.2 i _ (List.getElem?_eq_getElem h1)
  have : a.toList[i]? = some v := by simpa using k1
  rw [List.getElem?_eq_getElem h2] at this
  obtain rfl : a.toList[i] = v := by simpa using this
  exact k2
theorem repL_repT {E : Env} {h : Heap} {w : World} {t : List AV} {a : Array Value} (ht : RepL E h w t a.toList) : RepT E h w t a :=
  ⟨by simpa using ht.length, fun i c hi => let ⟨v, k1, k2⟩ := ht.get i hi; ⟨v, by simpa using k1, k2⟩⟩
theorem renOk_spec {ρ : Ren} {n : Nat} (h : renOk ρ n = true) : (boundOf ρ).Nodup ∧ ∀ q, q < n → ρ.getD q none = some q := by
  unfold renOk at h
  rw [Bool.and_eq_true] at h
  exact ⟨nodupB_spec h.1, idOk_spec h.2⟩
theorem readK_spec {R : Type} {T : Tmpl} {br : Bool} {n : Nat} {h hp : Heap} {ρ : Ren} {vs : List AV} {K : den T.ty → Option R} {z : R} (e : T.readK br n h hp ρ vs K = some z) :
    ∃ y, K y = some z ∧ (∀ q, q < T.hs.len → Stands br n T.hs.len h hp ρ T.hs.ver q ((T.objs0 y).getD q none)) ∧ ∀ E h0 w E' h', RefMap T.hs.len h hp ρ T.hs.ver E h0 w E' h' → ∀ us, RepL E h0 w vs us → RepL E' h' w (T.vals0 y) us := by
  unfold Tmpl.readK at e
  obtain ⟨x, h1, h2, h3⟩ := readH_spec (ver := T.hs.ver) T.hs 0 (fun k => by rw [Nat.zero_add]) _ z e
  obtain ⟨y, h4, h5, h6⟩ := readK_rep (ver := T.hs.ver) T.ts vs T.hs.ty x K z h1
  refine ⟨y, h4, fun q hq => ?_, h6⟩
  have := h3 q hq
  rw [Nat.zero_add] at this
  show Stands br n T.hs.len h hp ρ T.hs.ver q ((T.hs.write id T.hs.ver 0 (T.ts.write id T.hs.ver T.hs.ty y).2).getD q none)
  rw [h5]; exact this
theorem getD_ge {α : Type} {l : List (Option α)} {q : Nat} (h : l.length ≤ q) : l.getD q none = none := by
  rw [List.getD_eq_getElem?_getD, List.getElem?_eq_none h]; rfl
theorem readS_sem {R : Type} {T : Tmpl} {n : Nat} {s : St} {K : den T.ty → Option R} {z : R} (e : T.readS n s K = some z) :
    ∃ y, K y = some z ∧ ∀ F E w a, FrOK n F → Inv F E s.h w → RepT E s.h w s.t a → ∃ E', Inv F E' (T.write y).h w ∧ RepT E' (T.write y).h w (T.write y).t a := by
  unfold Tmpl.readS Tmpl.readS1 at e
  split at e
  · rename_i hc
    rw [Bool.and_eq_true, Bool.and_eq_true] at hc
    obtain ⟨⟨h1, h2⟩, h3⟩ := hc
    have h2 := Nat.le_of_ble_eq_true h2
    obtain ⟨hnd, hid⟩ := renOk_spec h1
    obtain ⟨δ, h4, h5⟩ := convsK_spec _ e
    obtain ⟨y, h6, h7, h8⟩ := readK_spec h4
    refine ⟨y, h6, fun F E w a FO HI ht => ?_⟩
    obtain ⟨E1, k1, k2⟩ := (h5 s.h (SubH.refl _)).2 F E w HI
    have hsome := noKept_some (ρ := id) (ν := T.hs.ver) T.hs h3 0 (T.ts.write id T.hs.ver T.hs.ty y).2
    obtain ⟨g1, g2⟩ := read_inv (h' := T.objs0 y) FO k1 h2 hid hnd h7 (fun q hq => by
      cases ho : (T.objs0 y).getD q none with
      | none => exact absurd ho (hsome q hq)
      | some c => rfl) (fun q hq => getD_ge (by show (T.hs.write id T.hs.ver 0 _).length ≤ q; rw [write_len]; exact hq)) (fun q hq ho => absurd ho (hsome q (Nat.lt_of_lt_of_le hq h2)))
    exact ⟨_, g1, repL_repT (h8 _ _ _ _ _ g2 _ (repT_repL (ht.keep k2)))⟩
  · cases e
theorem getD_mrg : (h : Heap) → (os : List (Option Cont)) → (q : Nat) → (mrg h os).getD q none = match os.getD q none with | some c => some c | none => h.getD q none
  | h, [], q => by cases h <;> simp [mrg]
  | [], o :: os, q => by
    simp only [mrg]
    cases ho : List.getD (o :: os) q none <;> simp
  | o :: h, none :: os, 0 => by simp [mrg]
  | o :: h, some c :: os, 0 => by simp [mrg]
  | o :: h, none :: os, q + 1 => by simpa [mrg] using getD_mrg h os q
  | o :: h, some c :: os, q + 1 => by simpa [mrg] using getD_mrg h os q
theorem okKinds_len (a b : TmH) : okKinds a b = true → a.len ≤ b.len := by
  fun_induction okKinds a b <;> intro h <;> simp_all [TmH.len]
theorem okKinds_kept (a b : TmH) : okKinds a b = true → ∀ (q0 : Nat) (ρ ν : Nat → Nat) (x : den a.ty) (y : den b.ty) (ρ' ν' : Nat → Nat) (q0' : Nat), (∀ k, ν (q0 + k) = a.ver k) → ∀ q, q < a.len → (b.write ρ' ν' q0' y).getD q none = none →
    b.ver q = 0 ∧ ((∃ t xs, (a.write ρ ν q0 x).getD q none = some (.lst true t xs)) ∨ ∃ t xs, (a.write ρ ν q0 x).getD q none = some (.tree true 0 t xs none)) := by
  have sh : ∀ {a : TmH} {f : TmH → TmH} {q0 : Nat} {ν : Nat → Nat}, (∀ k, ν (q0 + k) = (f a).ver k) → (∀ k, (f a).ver (k + 1) = a.ver k) → ∀ k, ν (q0 + 1 + k) = a.ver k := by
    intro a f q0 ν h1 h2 k
    rw [← h2, ← h1]; congr 1; omega
  fun_induction okKinds a b
  case case7 t a b ih =>
    intro h q0 ρ ν x y ρ' ν' q0' hν q hq hy
    cases q with
    | zero => exact ⟨rfl, .inl ⟨t, x.1, rfl⟩⟩
    | succ q => exact ih h (q0 + 1) ρ ν x.2 y ρ' ν' (q0' + 1) (sh (f := .lst true t) hν (fun k => rfl)) q (Nat.lt_of_succ_lt_succ hq) hy
  case case8 t a b ih =>
    intro h q0 ρ ν x y ρ' ν' q0' hν q hq hy
    cases q with
    | zero => have hν0 : ν q0 = 0 := hν 0; exact ⟨rfl, .inr ⟨t, x.1, by show some (Cont.tree true (ν q0) t x.1 none) = _; rw [hν0]⟩⟩
    | succ q => exact ih h (q0 + 1) ρ ν x.2 y ρ' ν' (q0' + 1) (sh (f := .tree true 0 t) hν (fun k => rfl)) q (Nat.lt_of_succ_lt_succ hq) hy
  case case9 t a t' b ih =>
    intro h q0 ρ ν x y ρ' ν' q0' hν q hq hy
    cases q with
    | zero => simp [TmH.write] at hy
    | succ q => exact ih h (q0 + 1) ρ ν x.2 y.2 ρ' ν' (q0' + 1) (sh (f := .lst false t) hν (fun k => rfl)) q (Nat.lt_of_succ_lt_succ hq) hy
  case case10 t a v t' b ih =>
    intro h q0 ρ ν x y ρ' ν' q0' hν q hq hy
    cases q with
    | zero => simp [TmH.write] at hy
    | succ q => exact ih h (q0 + 1) ρ ν x.2 y.2 ρ' ν' (q0' + 1) (sh (f := .tree false 0 t) hν (fun k => rfl)) q (Nat.lt_of_succ_lt_succ hq) hy
  case case11 t a t' b ih =>
    intro h q0 ρ ν x y ρ' ν' q0' hν q hq hy
    cases q with
    | zero => simp [TmH.write] at hy
    | succ q => exact ih h (q0 + 1) ρ ν x.2 y.2 ρ' ν' (q0' + 1) (sh (f := .tree false 0 t) hν (fun k => rfl)) q (Nat.lt_of_succ_lt_succ hq) hy
  case case12 t a t' b ih =>
    intro h q0 ρ ν x y ρ' ν' q0' hν q hq hy
    cases q with
    | zero => simp [TmH.write] at hy
    | succ q => exact ih h (q0 + 1) ρ ν x.2 y.2 ρ' ν' (q0' + 1) (sh (f := .one t) hν (fun k => rfl)) q (Nat.lt_of_succ_lt_succ hq) hy
  case case13 t a n cs' b ih =>
    intro h q0 ρ ν x y ρ' ν' q0' hν q hq hy
    cases q with
    | zero => simp [TmH.write] at hy
    | succ q => exact ih h (q0 + 1) ρ ν x.2 (cs'.write ρ' ν' b.ty y).2 ρ' ν' (q0' + 1) (sh (f := .one t) hν (fun k => rfl)) q (Nat.lt_of_succ_lt_succ hq) hy
  case case14 n cs a n' cs' b ih =>
    intro h q0 ρ ν x y ρ' ν' q0' hν q hq hy
    cases q with
    | zero => simp [TmH.write] at hy
    | succ q => exact ih h (q0 + 1) ρ ν (cs.write ρ ν a.ty x).2 (cs'.write ρ' ν' b.ty y).2 ρ' ν' (q0' + 1) (sh (f := .cells n cs) hν (fun k => rfl)) q (Nat.lt_of_succ_lt_succ hq) hy
  case case15 n cs a t' b ih =>
    intro h q0 ρ ν x y ρ' ν' q0' hν q hq hy
    cases q with
    | zero => simp [TmH.write] at hy
    | succ q => exact ih h (q0 + 1) ρ ν (cs.write ρ ν a.ty x).2 y.2 ρ' ν' (q0' + 1) (sh (f := .cells n cs) hν (fun k => rfl)) q (Nat.lt_of_succ_lt_succ hq) hy
  case case16 t a b ih =>
    intro h q0 ρ ν x y ρ' ν' q0' hν q hq hy
    cases q with
    | zero => simp [TmH.write] at hy
    | succ q => exact ih h (q0 + 1) ρ ν x.2 y ρ' ν' (q0' + 1) (sh (f := .lst false t) hν (fun k => rfl)) q (Nat.lt_of_succ_lt_succ hq) hy
  case case17 t a b ih =>
    intro h q0 ρ ν x y ρ' ν' q0' hν q hq hy
    cases q with
    | zero => simp [TmH.write] at hy
    | succ q => exact ih h (q0 + 1) ρ ν x.2 y ρ' ν' (q0' + 1) (sh (f := .tree false 0 t) hν (fun k => rfl)) q (Nat.lt_of_succ_lt_succ hq) hy
  case case18 t a b ih =>
    intro h q0 ρ ν x y ρ' ν' q0' hν q hq hy
    cases q with
    | zero => simp [TmH.write] at hy
    | succ q => exact ih h (q0 + 1) ρ ν x.2 y ρ' ν' (q0' + 1) (sh (f := .one t) hν (fun k => rfl)) q (Nat.lt_of_succ_lt_succ hq) hy
  case case19 n cs a b ih =>
    intro h q0 ρ ν x y ρ' ν' q0' hν q hq hy
    cases q with
    | zero => simp [TmH.write] at hy
    | succ q => exact ih h (q0 + 1) ρ ν (cs.write ρ ν a.ty x).2 y ρ' ν' (q0' + 1) (sh (f := .cells n cs) hν (fun k => rfl)) q (Nat.lt_of_succ_lt_succ hq) hy
  case case20 => intro h; cases h
  all_goals intro h q0 ρ ν x y ρ' ν' q0' hν q hq; exact absurd hq (Nat.not_lt_zero _)
theorem retK_sem {R : Type} {ti to : Tmpl} {s : St} {vs : List AV} {K : den to.ty → Option R} {z : R} (e : retK ti to s vs K = some z) :
    ∃ y, K y = some z ∧ ∀ F E w x, F.h0 = ti.objs0 x → FrOK ti.hs.len F → Inv F E s.h w → ∀ us, RepL E s.h w vs us → ∃ E', Inv F E' (mrg F.h0 (to.objs0 y)) w ∧ RepL E' (mrg F.h0 (to.objs0 y)) w (to.vals0 y) us := by
  unfold retK retK1 at e
  split at e
  · rename_i hc
    rw [Bool.and_eq_true, Bool.and_eq_true] at hc
    obtain ⟨⟨h1, h2⟩, h3⟩ := hc
    have h2 := Nat.le_of_ble_eq_true h2
    obtain ⟨hnd, hid⟩ := renOk_spec h1
    obtain ⟨δ, h4, h5⟩ := convsK_spec _ e
    obtain ⟨y, h6, h7, h8⟩ := readK_spec h4
    refine ⟨y, h6, fun F E w x hF FO HI us hu => ?_⟩
    obtain ⟨E1, k1, k2⟩ := (h5 s.h (SubH.refl _)).2 F E w HI
    have hlen : (to.objs0 y).length = to.hs.len := write_len to.hs 0 _
    have hlen0 : F.h0.length = ti.hs.len := by rw [hF]; exact write_len ti.hs 0 _
    have hkept : ∀ q, q < ti.hs.len → (to.objs0 y).getD q none = none → to.hs.ver q = 0 ∧ ((∃ t xs, F.h0.getD q none = some (.lst true t xs)) ∨ ∃ t xs, F.h0.getD q none = some (.tree true 0 t xs none)) := by
      intro q hq ho
      rw [hF]
      exact okKinds_kept ti.hs to.hs h3 0 id ti.hs.ver _ _ id to.hs.ver 0 (fun k => by rw [Nat.zero_add]) q hq ho
    have hfix : ∀ q, q < ti.hs.len → (to.objs0 y).getD q none = none → (apD s.h δ).getD q none = F.h0.getD q none ∨ (apD s.h δ).getD q none = some .dead := by
      intro q hq ho
      obtain ⟨_, h9⟩ := hkept q hq ho
      refine k1.fixed q ?_
      rcases h9 with ⟨t, xs, h9⟩ | ⟨t, xs, h9⟩ <;> rw [roAt_of h9] <;> rfl
    have halive : ∀ q, q < to.hs.len → (to.objs0 y).getD q none = none → q < ti.hs.len ∧ (apD s.h δ).getD q none = F.h0.getD q none := by
      intro q hq ho
      have h9 := h7 q hq
      rw [ho] at h9
      rcases h9 with h9 | ⟨_, hqn, c, hc, hd⟩ | ⟨_, h9⟩ | ⟨r, _, h9⟩
      · cases h9
      · refine ⟨hqn, ?_⟩
        rcases hfix q hqn ho with h10 | h10
        · exact h10
        · rw [hc] at h10; exact absurd (by simpa using h10) hd
      · rcases h9 with ⟨_, _, h9⟩ | ⟨_, _, h9⟩ <;> cases h9
      · rcases h9 with ⟨_, _, _, _, _, h9, _⟩ | ⟨_, _, _, _, _, _, h9, _⟩ | ⟨_, _, _, _, h9, _⟩ <;> cases h9
    obtain ⟨g1, g2⟩ := read_inv (h' := mrg F.h0 (to.objs0 y)) FO k1 h2 hid hnd h7 (fun q hq => by
      rw [getD_mrg]
      cases ho : (to.objs0 y).getD q none with
      | some c => rfl
      | none => exact (halive q hq ho).2.symm) (fun q hq => by
      rw [getD_mrg, getD_ge (by rw [hlen]; exact hq)]
      exact getD_ge (by rw [hlen0]; omega)) (fun q hq ho c hc hd => by
      obtain ⟨h9, h10⟩ := hkept q hq ho
      rw [(halive q (Nat.lt_of_lt_of_le hq h2) ho).2] at hc
      refine ⟨h9, h10.imp (fun ⟨t, xs, e⟩ => ⟨t, xs, ?_⟩) (fun ⟨t, xs, e⟩ => ⟨t, xs, ?_⟩)⟩ <;> rw [hc] at e <;> simpa using e)
    exact ⟨_, g1, h8 _ _ _ _ _ g2 _ (keep_repL k2 vs hu)⟩
  · cases e
end Go.Ab
