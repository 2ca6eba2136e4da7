import Derived.Test.YtfaonncpagjmkaaAbRun
import Derived.LoopN
set_option linter.unnecessarySimpa false
set_option linter.unusedVariables false
set_option linter.unusedSimpArgs false
namespace Go.Ab


/-! ### What a loop's head remembers -/
def Env.cut (E : Env) (n : Nat) : Env := ⟨fun r => if r < n then E.ι r else none, E.I⟩

/-- What is known of the objects behind: their lengths. -/
def Same (E : Env) (h : List (Option Cont)) (w : World) (hs : TmH) (E' : Env) (h' : List (Option Cont)) : Prop :=
  E'.I = E.I ∧ (∀ r, r < hs.len → E'.ι r = E.ι r) ∧
  (∀ r v, hs.kind r ≠ 0 → r < h.length → OwnRep E h w r none v → OwnRep E' h' w r none v) ∧
  (∀ r, hs.kind r = 1 → h.length ≤ r → OwnRep E' h' w r none (.slice none 0 0))

theorem pureL_rep {E E' : Env} {h h' : List (Option Cont)} {w : World} (e : E'.I = E.I) {t : Ty} {x : den t} {vs : List Value} (hr : RepC E.I w t x vs) : RepL E' h' w (flat t x) vs :=
  rep_flat t (by rw [e]; exact hr)

theorem packV_rep {E E' : Env} {h h' : List (Option Cont)} {w : World} (e : E'.I = E.I) {t : Ty} {v : AV} {x : den t} {u : Value} (hp : packV [] t v = some x) (hr : RepAV E h w v u) : RepAV E' h' w (up t x) u := by
  unfold packV at hp
  have hst : ∀ b, E.I b → E.I b := fun b h => h
  split at hp
  · rename_i hag
    split at hp
    · rename_i cs
      obtain ⟨p, h1, h2⟩ := bind_ok hp
      split at h2
      · rename_i hemp
        obtain ⟨x', rest⟩ := p
        obtain rfl : rest = [] := by simpa using hemp
        obtain rfl : x' = x := by simpa using h2
        simp only [RepAV] at hr
        obtain ⟨vs, rfl, hr⟩ := hr
        obtain ⟨us, ws, rfl, h3, h4⟩ := (pack_spec (J := E.I) hst (.inl rfl) t).1 _ _ _ _ h1 hr
        simp only [RepL] at h4; subst h4
        exact rep_up (by unfold RepV RepV'; rw [if_pos hag]; exact ⟨us, by simp, by rw [e]; exact h3⟩)
      · cases h2
    · cases hp
  · rename_i hag
    simp only [Option.map_eq_some_iff] at hp
    obtain ⟨⟨x', rest⟩, h1, rfl⟩ := hp
    obtain ⟨us, ws, h2, h3, h4⟩ := (pack_spec (J := E.I) hst (.inl rfl) t).1 _ _ _ _ h1 (RepL.cons hr RepL.nil)
    have hl := h3.length
    have hsz : t.size = 1 := by
      cases t <;> simp [Ty.agg] at hag <;> rfl
    have : us = [u] := by
      match us, hl with
      | [a], _ => simp at h2; rw [h2.1]
      | [], hl => simp [hsz] at hl
      | _ :: _ :: _, hl => simp [hsz] at hl
    subst this
    exact rep_up (by unfold RepV RepV'; rw [if_neg hag]; rw [e]; exact h3)


theorem uncons_some {R : Type} {vs : List AV} {k : AV → List AV → Option R} {r : R} (h : uncons vs k = some r) : ∃ v us, vs = v :: us ∧ k v us = some r := by
  cases vs with
  | nil => cases h
  | cons v us => exact ⟨v, us, rfl, h⟩

theorem own_read {E E' : Env} {h h' : List (Option Cont)} {w : World} {hs : TmH} (S : Same E h w hs E' h') {q : Nat} {v : AV} {u : Value} (hr : ownRd h hs q v = true) (hu : RepAV E h w v u) : RepAV E' h' w (.own q none) u := by
  unfold ownRd at hr
  split at hr
  · simp only [Bool.and_eq_true, decide_eq_true_eq] at hr
    obtain ⟨⟨rfl, hk⟩, hl⟩ := hr
    simp only [RepAV] at hu ⊢
    exact S.2.2.1 _ u hk hl hu
  · simp only [Bool.and_eq_true, decide_eq_true_eq] at hr
    simp only [RepAV] at hu ⊢
    subst hu
    exact S.2.2.2 _ hr.1 hr.2
  · cases hr
theorem ptr_read {E E' : Env} {h h' : List (Option Cont)} {w : World} {hs : TmH} (S : Same E h w hs E' h') {q i off : Nat} {v : AV} {u : Value} (hr : ptrRd hs q i off v = true) (hu : RepAV E h w v u) : RepAV E' h' w (.ptr q i off) u := by
  unfold ptrRd at hr
  split at hr
  · simp only [Bool.and_eq_true, decide_eq_true_eq] at hr
    obtain ⟨⟨⟨rfl, rfl⟩, rfl⟩, hl⟩ := hr
    simp only [RepAV] at hu ⊢
    rw [S.2.1 _ hl]; exact hu
  · cases hr
theorem const_read {E E' : Env} {h h' : List (Option Cont)} {w : World} {c v : AV} {u : Value} (hr : sameConst v c = true) (hu : RepAV E h w v u) : RepAV E' h' w c u := by
  unfold sameConst at hr
  split at hr
  · simpa only [RepAV, RepL] using hu
  · simpa only [RepAV] using hu
  · simpa only [RepAV] using hu
  · simpa only [RepAV] using hu
  · simpa only [RepAV] using hu
  · cases hr
theorem aggOf_some {v : AV} {us : List AV} (h : aggOf v = some us) : v = .agg us := by
  unfold aggOf at h; split at h
  · simp at h; rw [h]
  · cases h
theorem fnOf_some {f : FuncId} {v : AV} {us : List AV} (h : fnOf f v = some us) : v = .fn f us := by
  unfold fnOf at h; split at h
  · split at h
    · rename_i e; simp at h; rw [h, e]
    · cases h
  · cases h

theorem ite_some {R : Type} {b : Bool} {x : Option R} {y : R} (h : (if b = true then x else none) = some y) : b = true ∧ x = some y := by
  cases b with
  | true => exact ⟨rfl, h⟩
  | false => cases h

theorem read_rep {h : List (Option Cont)} {w : World} {hs : TmH} (l : TmL) : ∀ (vs : List AV) (r : Ty) (x : den r) (y : den (l.ty r)), l.read h hs vs r x = some y → (l.write r y).2 = x ∧ vs.length = (l.write r y).1.length ∧ ∀ (E E' : Env) (h' : List (Option Cont)), Same E h w hs E' h' → ∀ us, RepL E h w vs us → RepL E' h' w (l.write r y).1 us := by
  induction l with
  | nil =>
    intro vs r x y hr
    unfold TmL.read at hr
    split at hr
    · rename_i he
      obtain rfl : vs = [] := by simpa using he
      have e : x = y := Option.some.inj hr
      exact ⟨e.symm, rfl, fun E E' h' S us hu => by simp only [RepL, TmL.write] at hu ⊢; exact hu⟩
    · cases hr
  | junk l ih =>
    intro vs r x y hr
    unfold TmL.read at hr
    obtain ⟨v, vs, rfl, hr2⟩ := uncons_some hr
    clear hr
    have hr := hr2
    clear hr2

    obtain ⟨h1, h2, h3⟩ := ih vs r x y hr
    refine ⟨h1, congrArg (· + 1) h2, fun E E' h' S us hu => ?_⟩
    simp only [RepL] at hu
    obtain ⟨u, us, rfl, k1, k2⟩ := hu
    exact RepL.cons (by simp only [RepAV]) (h3 E E' h' S us k2)
  | slot t l ih =>
    intro vs r x y hr
    unfold TmL.read at hr
    obtain ⟨v, vs, rfl, hr2⟩ := uncons_some hr
    clear hr
    have hr := hr2
    clear hr2

    obtain ⟨y', hy, hr⟩ := bind_ok hr
    obtain ⟨z, hz, hr⟩ := bind_ok hr
    have e : (z, y') = y := Option.some.inj hr
    subst e
    obtain ⟨h1, h2, h3⟩ := ih vs r x y' hy
    refine ⟨h1, congrArg (· + 1) h2, fun E E' h' S us hu => ?_⟩
    simp only [RepL] at hu
    obtain ⟨u, us, rfl, k1, k2⟩ := hu
    exact RepL.cons (packV_rep S.1 hz k1) (h3 E E' h' S us k2)
  | agg cs l ih1 ih2 =>
    intro vs r x y hr
    unfold TmL.read at hr
    obtain ⟨v, vs, rfl, hr2⟩ := uncons_some hr
    clear hr
    have hr := hr2
    clear hr2

    obtain ⟨y', hy, hr3⟩ := bind_ok hr
    obtain ⟨us', hz, hr4⟩ := bind_ok hr3
    obtain rfl := aggOf_some hz
    obtain ⟨g1, g2, g3⟩ := ih1 us' (l.ty r) y' y hr4
    obtain ⟨h1, h2, h3⟩ := ih2 vs r x y' hy
    refine ⟨?_, ?_, fun E E' h' S us hu => ?_⟩
    · show (l.write r (cs.write (l.ty r) y).2).2 = x
      rw [g1]; exact h1
    · show vs.length + 1 = (l.write r (cs.write (l.ty r) y).2).1.length + 1
      rw [g1, h2]
    · simp only [RepL] at hu
      obtain ⟨u, us, rfl, k1, k2⟩ := hu
      simp only [RepAV] at k1
      obtain ⟨ws, rfl, k1⟩ := k1
      show RepL E' h' w (.agg (cs.write (l.ty r) y).1 :: (l.write r (cs.write (l.ty r) y).2).1) _
      refine RepL.cons (by simp only [RepAV]; exact ⟨ws, rfl, g3 E E' h' S ws k1⟩) ?_
      rw [g1]; exact h3 E E' h' S us k2
  | fn f cs l ih1 ih2 =>
    intro vs r x y hr
    unfold TmL.read at hr
    obtain ⟨v, vs, rfl, hr2⟩ := uncons_some hr
    clear hr
    have hr := hr2
    clear hr2

    obtain ⟨y', hy, hr3⟩ := bind_ok hr
    obtain ⟨us', hz, hr4⟩ := bind_ok hr3
    obtain rfl := fnOf_some hz
    obtain ⟨g1, g2, g3⟩ := ih1 us' (l.ty r) y' y hr4
    obtain ⟨h1, h2, h3⟩ := ih2 vs r x y' hy
    refine ⟨?_, ?_, fun E E' h' S us hu => ?_⟩
    · show (l.write r (cs.write (l.ty r) y).2).2 = x
      rw [g1]; exact h1
    · show vs.length + 1 = (l.write r (cs.write (l.ty r) y).2).1.length + 1
      rw [g1, h2]
    · simp only [RepL] at hu
      obtain ⟨u, us, rfl, k1, k2⟩ := hu
      simp only [RepAV] at k1
      obtain ⟨ws, rfl, k1⟩ := k1
      show RepL E' h' w (.fn f (cs.write (l.ty r) y).1 :: (l.write r (cs.write (l.ty r) y).2).1) _
      refine RepL.cons (by simp only [RepAV]; exact ⟨ws, rfl, g3 E E' h' S ws k1⟩) ?_
      rw [g1]; exact h3 E E' h' S us k2
  | own q l ih =>
    intro vs r x y hr
    unfold TmL.read at hr
    obtain ⟨v, vs, rfl, hr2⟩ := uncons_some hr
    clear hr
    have hr := hr2
    clear hr2

    obtain ⟨hq, hr5⟩ := ite_some hr
    obtain ⟨h1, h2, h3⟩ := ih vs r x y hr5
    refine ⟨h1, congrArg (· + 1) h2, fun E E' h' S us hu => ?_⟩
    simp only [RepL] at hu
    obtain ⟨u, us, rfl, k1, k2⟩ := hu
    exact RepL.cons (own_read S hq k1) (h3 E E' h' S us k2)
  | ptr q i off l ih =>
    intro vs r x y hr
    unfold TmL.read at hr
    obtain ⟨v, vs, rfl, hr2⟩ := uncons_some hr
    clear hr
    have hr := hr2
    clear hr2

    obtain ⟨hq, hr5⟩ := ite_some hr
    obtain ⟨h1, h2, h3⟩ := ih vs r x y hr5
    refine ⟨h1, congrArg (· + 1) h2, fun E E' h' S us hu => ?_⟩
    simp only [RepL] at hu
    obtain ⟨u, us, rfl, k1, k2⟩ := hu
    exact RepL.cons (ptr_read S hq k1) (h3 E E' h' S us k2)
  | const c l ih =>
    intro vs r x y hr
    unfold TmL.read at hr
    obtain ⟨v, vs, rfl, hr2⟩ := uncons_some hr
    clear hr
    have hr := hr2
    clear hr2

    obtain ⟨hq, hr5⟩ := ite_some hr
    obtain ⟨h1, h2, h3⟩ := ih vs r x y hr5
    refine ⟨h1, congrArg (· + 1) h2, fun E E' h' S us hu => ?_⟩
    simp only [RepL] at hu
    obtain ⟨u, us, rfl, k1, k2⟩ := hu
    exact RepL.cons (const_read hq k1) (h3 E E' h' S us k2)

/-- What stands in the place of object number i. -/
def Stands (h : List (Option Cont)) (w : World) (hs : TmH) (i k : Nat) (o : Option Cont) : Prop :=
  (k = 0 ∧ o = none) ∨ (∃ t, k = 1 ∧ h.length ≤ i ∧ o = some (.lst t [])) ∨
  (i < h.length ∧ ∃ c c', h.getD i none = some c ∧ o = some c' ∧ c'.len = c.len ∧ c'.sz = c.sz ∧
    ∀ E E' h', Same E h w hs E' h' → ∀ j cs, c.at? j = some cs → ∃ cs', c'.at? j = some cs' ∧ ∀ vs, RepL E h w cs vs → RepL E' h' w cs' vs)

theorem toLst_spec {t : Ty} {c : Cont} {xs : List (den t)} (h : toLst t c = some xs) (w : World) (h0 : List (Option Cont)) (hs : TmH) : (Cont.lst t xs).len = c.len ∧ (Cont.lst t xs).sz = c.sz ∧
    ∀ E E' h', Same E h0 w hs E' h' → ∀ j cs, c.at? j = some cs → ∃ cs', (Cont.lst t xs).at? j = some cs' ∧ ∀ vs, RepL E h0 w cs vs → RepL E' h' w cs' vs := by
  unfold toLst at h
  split at h
  · rename_i u ys
    obtain ⟨e, h2⟩ := cast?_spec h
    obtain rfl : u = t := by simpa using e
    obtain rfl : xs = ys := by simpa using h2
    refine ⟨rfl, rfl, fun E E' h' S j cs hc => ⟨cs, hc, fun vs hv => ?_⟩⟩
    obtain ⟨hi, rfl⟩ := at_lst hc
    exact pure_congrL (E := E) (E' := E') (fun b hb => ⟨by rw [S.1]; exact hb, rfl⟩) _ (pureL_flat _ _) hv
  · rename_i k es
    split at h
    · rename_i hk
      obtain ⟨h1, h2⟩ := packEs_spec es h
      refine ⟨h1, hk.symm, fun E E' h' S j cs hc => ?_⟩
      simp only [Cont.at?] at hc
      obtain ⟨hj, rfl⟩ := List.getElem?_eq_some_iff.1 hc
      refine ⟨flat t (xs[j]'(by omega)), by simp [Cont.at?, h1, hj], fun vs hv => ?_⟩
      obtain ⟨us, ws, rfl, h3, h4⟩ := (pack_spec (J := E.I) (fun b h => h) (.inl rfl) t).1 _ _ _ _ (h2 j (by omega) hj) hv
      simp only [RepL] at h4; subst h4
      rw [List.append_nil]
      exact pureL_rep (E := E) (h := h0) S.1 h3
    · cases h


theorem oneRd_some {h : List (Option Cont)} {i n : Nat} {cs : List AV} (hr : oneRd h i n = some cs) : h.getD i none = some (.cells n [cs]) := by
  unfold oneRd at hr
  split at hr
  · rename_i k cs' hc
    split at hr
    · rename_i e; subst e
      simp at hr; subst hr; exact hc
    · cases hr
  · cases hr

theorem tmh_read {h : List (Option Cont)} {w : World} {hs : TmH} (l : TmH) : ∀ (i : Nat) (y : den l.ty), TmH.read h hs l i = some y → (l.write y).length = l.len ∧ ∀ k, k < l.len → Stands h w hs (i + k) (l.kind k) ((l.write y).getD k none) := by
  induction l with
  | nil => intro i y hr; exact ⟨rfl, fun k hk => absurd hk (Nat.not_lt_zero _)⟩
  | gone l ih =>
    intro i y hr
    obtain ⟨h1, h2⟩ := ih (i + 1) y hr
    refine ⟨congrArg (· + 1) h1, fun k hk => ?_⟩
    cases k with
    | zero => exact .inl ⟨rfl, rfl⟩
    | succ k =>
      have := h2 k (Nat.lt_of_succ_lt_succ hk)
      rw [show i + 1 + k = i + (k + 1) by omega] at this
      exact this
  | lst t l ih =>
    intro i y hr
    unfold TmH.read at hr
    obtain ⟨y', hy, hr⟩ := bind_ok hr
    obtain ⟨z, hz, hr⟩ := bind_ok hr
    have e : (z, y') = y := Option.some.inj hr
    subst e
    obtain ⟨h1, h2⟩ := ih (i + 1) y' hy
    refine ⟨congrArg (· + 1) h1, fun k hk => ?_⟩
    cases k with
    | zero =>
      unfold lstRd at hz
      split at hz
      · rename_i hle
        have e : [] = z := Option.some.inj hz
        subst e
        exact .inr (.inl ⟨t, rfl, hle, rfl⟩)
      · rename_i hle
        obtain ⟨c, hc, hz⟩ := bind_ok hz
        obtain ⟨k1, k2, k3⟩ := toLst_spec hz w h hs
        exact .inr (.inr ⟨by omega, c, _, hc, rfl, k1, k2, k3⟩)
    | succ k =>
      have := h2 k (Nat.lt_of_succ_lt_succ hk)
      rw [show i + 1 + k = i + (k + 1) by omega] at this
      exact this
  | one t l ih =>
    intro i y hr
    unfold TmH.read at hr
    obtain ⟨y', hy, hr⟩ := bind_ok hr
    obtain ⟨cs, hc, hr⟩ := bind_ok hr
    obtain ⟨⟨z, rest⟩, hz, hr⟩ := bind_ok hr
    have hc := oneRd_some hc
    split at hr
    · rename_i hemp
      obtain rfl : rest = [] := by simpa using hemp
      have e : (z, y') = y := Option.some.inj hr
      subst e
      obtain ⟨h1, h2⟩ := ih (i + 1) y' hy
      refine ⟨congrArg (· + 1) h1, fun k hk => ?_⟩
      cases k with
      | zero =>
        refine .inr (.inr ⟨getD_obj hc, _, _, hc, rfl, rfl, rfl, fun E E' h' S j cs' hj => ?_⟩)
        simp only [Cont.at?] at hj
        obtain ⟨hj', rfl⟩ := List.getElem?_eq_some_iff.1 hj
        obtain rfl : j = 0 := by simpa using hj'
        refine ⟨flat t z, rfl, fun vs hv => ?_⟩
        obtain ⟨us, ws, rfl, h3, h4⟩ := (pack_spec (J := E.I) (fun b h => h) (.inl rfl) t).1 _ _ _ _ hz hv
        simp only [RepL] at h4; subst h4
        rw [List.append_nil]
        exact pureL_rep (E := E) (h := h) S.1 h3
      | succ k =>
        have := h2 k (Nat.lt_of_succ_lt_succ hk)
        rw [show i + 1 + k = i + (k + 1) by omega] at this
        exact this
    · cases hr
  | cells n ms l ih =>
    intro i y hr
    unfold TmH.read at hr
    obtain ⟨y', hy, hr⟩ := bind_ok hr
    obtain ⟨cs, hc, hr⟩ := bind_ok hr
    have hc := oneRd_some hc
    obtain ⟨h1, h2⟩ := ih (i + 1) y' hy
    have hrep := read_rep (w := w) ms cs l.ty y' y hr
    have hl : (ms.write l.ty y).2 = y' := hrep.1
    refine ⟨?_, fun k hk => ?_⟩
    · show (l.write (ms.write l.ty y).2).length + 1 = l.len + 1
      rw [hl, h1]
    · cases k with
      | zero =>
        refine .inr (.inr ⟨getD_obj hc, _, _, hc, rfl, rfl, rfl, fun E E' h' S j cs' hj => ?_⟩)
        simp only [Cont.at?] at hj
        obtain ⟨hj', rfl⟩ := List.getElem?_eq_some_iff.1 hj
        obtain rfl : j = 0 := by simpa using hj'
        exact ⟨_, rfl, fun vs' hv => hrep.2.2 E E' h' S vs' hv⟩
      | succ k =>
        have := h2 k (Nat.lt_of_succ_lt_succ hk)
        rw [show i + 1 + k = i + (k + 1) by omega] at this
        show Stands h w hs (i + (k + 1)) (l.kind k) ((l.write (ms.write l.ty y).2).getD k none)
        rw [hl]; exact this
end Go.Ab
