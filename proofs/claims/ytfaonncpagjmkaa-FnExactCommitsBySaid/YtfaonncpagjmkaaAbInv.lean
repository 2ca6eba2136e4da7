import Derived.Test.YtfaonncpagjmkaaAbRep
set_option linter.unnecessarySimpa false
set_option linter.unusedVariables false
set_option linter.unusedSimpArgs false
namespace Go.Ab
open Go.RowKit

def OwnB (E : Env) (b : Nat) : Prop := ∃ r o s, E.ι r = some (b, o, s)

structure HeapOK (E : Env) (h : List (Option Cont)) (w : World) : Prop where
  obj : ∀ r c, h.getD r none = some c → c.len = 0 ∨ ∃ b o arr ty, E.ι r = some (b, o, c.sz) ∧ w.heap[b]? = some (.cells arr ty (0, 0)) ∧ o + c.len * c.sz ≤ arr.size ∧
    ∀ i, i < c.len → ∃ cs vs, c.at? i = some cs ∧ vs.length = c.sz ∧ RepL E h w cs vs ∧ ∀ (j : Nat) (hj : j < vs.length), arr[o + i * c.sz + j]? = some vs[j]
  siz : ∀ r c b o s, h.getD r none = some c → E.ι r = some (b, o, s) → s = c.sz
  inj : ∀ r r' b o s o' s', E.ι r = some (b, o, s) → E.ι r' = some (b, o', s') → r = r'
  fresh : ∀ r, h.length ≤ r → E.ι r = none
  base : ∀ r b o s, E.ι r = some (b, o, s) → o = 0
  I_lt : ∀ b, E.I b → b < w.heap.size
  own_lt : ∀ b, OwnB E b → b < w.heap.size
  apart : ∀ b, OwnB E b → ¬ E.I b

/-- An element's cells are pure where the row is of pure data. -/
theorem at_lst {t : Ty} {xs : List (den t)} {i : Nat} {cs : List AV} (h : (Cont.lst t xs).at? i = some cs) : ∃ hi : i < xs.length, cs = flat t xs[i] := by
  simp only [Cont.at?, Option.map_eq_some_iff] at h
  obtain ⟨x, h1, rfl⟩ := h
  obtain ⟨hi, rfl⟩ := List.getElem?_eq_some_iff.1 h1
  exact ⟨hi, rfl⟩

theorem pureL_flat : (t : Ty) → (x : den t) → pureL (flat t x) = true
  | .prod a b, x => by
    have happ : ∀ l m : List AV, pureL l = true → pureL m = true → pureL (l ++ m) = true := by
      intro l; induction l with
      | nil => intro m _ h; exact h
      | cons c l ih => intro m h1 h2; simp only [pureL, Bool.and_eq_true] at h1; simp only [List.cons_append, pureL, Bool.and_eq_true]; exact ⟨h1.1, ih m h1.2 h2⟩
    exact happ _ _ (pureL_flat a x.1) (pureL_flat b x.2)
  | .unit, _ | .int _, _ | .bool, _ | .str, _ | .err, _ | .slice _, _ | .iref _, _ | .fn _ _, _ => rfl

mutual
/-- What pure values stand for depends on unwritten blocks alone. -/
theorem pure_congr {E E' : Env} {h h' : List (Option Cont)} {w w' : World} (hs : Stab E.I w E'.I w') : (c : AV) → {v : Value} → c.pure = true → RepAV E h w c v → RepAV E' h' w' c v
  | .pv t x, v, _, h1 => by simp only [RepAV] at h1 ⊢; exact h1.mono hs
  | .agg cs, v, hp, h1 => by simp only [RepAV] at h1 ⊢; obtain ⟨vs, e, h2⟩ := h1; exact ⟨vs, e, pure_congrL hs cs (by simpa [AV.pure] using hp) h2⟩
  | .tup cs, v, hp, h1 => by simp only [RepAV] at h1 ⊢; obtain ⟨vs, e, h2⟩ := h1; exact ⟨vs, e, pure_congrL hs cs (by simpa [AV.pure] using hp) h2⟩
  | .fn f cs, v, hp, h1 => by simp only [RepAV] at h1 ⊢; obtain ⟨vs, e, h2⟩ := h1; exact ⟨vs, e, pure_congrL hs cs (by simpa [AV.pure] using hp) h2⟩
  | .iptr t x off, v, _, h1 => by
    simp only [RepAV] at h1 ⊢; obtain ⟨b, o, cs, e, hI, h2, h3⟩ := h1
    exact ⟨b, o, cs, e, (hs b hI).1, h2.mono hs, cellsAt_of_block (hs b hI).2 h3⟩
  | .nils, v, _, h1 | .nilp, v, _, h1 | .nilf, v, _, h1 | .nili, v, _, h1 => by simpa only [RepAV] using h1
  | .own r rg, v, hp, _ | .ptr r i o, v, hp, _ | .junk, v, hp, _ => by simp [AV.pure] at hp
theorem pure_congrL {E E' : Env} {h h' : List (Option Cont)} {w w' : World} (hs : Stab E.I w E'.I w') : (cs : List AV) → {vs : List Value} → pureL cs = true → RepL E h w cs vs → RepL E' h' w' cs vs
  | [], vs, _, h1 => by simpa only [RepL] using h1
  | c :: cs, vs, hp, h1 => by
    simp only [pureL, Bool.and_eq_true] at hp
    simp only [RepL] at h1; obtain ⟨v, us, rfl, h2, h3⟩ := h1
    exact RepL.cons (pure_congr hs c hp.1 h2) (pure_congrL hs cs hp.2 h3)
end

theorem cast?_spec {t u : Ty} {x : den t} {y : den u} (h : cast? t u x = some y) : ∃ e : t = u, y = e ▸ x := by
  unfold cast? at h
  split at h
  · rename_i e; exact ⟨e, by simpa using h.symm⟩
  · cases h

/-- The cells of pure data, told one by one, are the data's. -/
theorem flat_rep {E : Env} {h : List (Option Cont)} {w : World} : (t : Ty) → {x : den t} → {vs : List Value} → RepL E h w (flat t x) vs → RepC E.I w t x vs
  | .prod a b, x, vs, h1 => by
    have happ : ∀ (l m : List AV) (us : List Value), RepL E h w (l ++ m) us → ∃ u1 u2, us = u1 ++ u2 ∧ RepL E h w l u1 ∧ RepL E h w m u2 := by
      intro l; induction l with
      | nil => intro m us h; exact ⟨[], us, rfl, RepL.nil, h⟩
      | cons c l ih =>
        intro m us h
        simp only [List.cons_append, RepL] at h; obtain ⟨v, us, rfl, h2, h3⟩ := h
        obtain ⟨u1, u2, rfl, h4, h5⟩ := ih m us h3
        exact ⟨v :: u1, u2, rfl, RepL.cons h2 h4, h5⟩
    obtain ⟨u1, u2, rfl, h2, h3⟩ := happ _ _ _ h1
    simp only [RepC]; exact ⟨u1, u2, rfl, flat_rep a h2, flat_rep b h3⟩
  | .unit, x, vs, h1 => by simp only [flat, RepL] at h1; simpa only [RepC] using h1
  | .int _, x, vs, h1 | .bool, x, vs, h1 | .str, x, vs, h1 | .err, x, vs, h1 | .slice _, x, vs, h1 | .iref _, x, vs, h1 | .fn _ _, x, vs, h1 => by
    simp only [flat, RepL, RepAV] at h1; obtain ⟨v, us, rfl, h2, rfl⟩ := h1; exact h2

theorem getD_obj {h : List (Option Cont)} {r : Nat} {c : Cont} (e : h.getD r none = some c) : r < h.length := by
  rcases Nat.lt_or_ge r h.length with h1 | h1
  · exact h1
  · simp [List.getD_eq_getElem?_getD, List.getElem?_eq_none h1] at e

/-- A slice of an object of pure elements reads as the list of them. -/
theorem own_reads {E : Env} {h : List (Option Cont)} {w : World} {J : Nat → Prop} (H : HeapOK E h w) (hJI : ∀ b, E.I b → J b) {r : Nat} (hJ : ∀ b o s, E.ι r = some (b, o, s) → J b) {rg : Option (Nat × Nat)} {v : Value}
    (hv : OwnRep E h w r rg v) {t : Ty} {c : Cont} (hc : h.getD r none = some c) (xs : List (den t)) (hlen : xs.length = c.len)
    (hel : ∀ (i : Nat) (hi : i < xs.length) cs vs, c.at? i = some cs → RepL E h w cs vs → RepC J w t xs[i] vs) : RepC J w (.slice t) (sub? xs rg) [v] := by
  obtain ⟨c', hc', hle, hv⟩ := hv
  rw [hc] at hc'; obtain rfl : c = c' := by simpa using hc'
  have hsub : (sub? xs rg).length = (rg.getD (0, c.len)).2 := by
    cases rg with
    | none => simpa [sub?] using hlen
    | some p => simp [sub?] at hle ⊢; omega
  have hget : ∀ (i : Nat) (hi : i < (sub? xs rg).length), ∃ hk : (rg.getD (0, c.len)).1 + i < xs.length, (sub? xs rg)[i] = xs[(rg.getD (0, c.len)).1 + i] := by
    intro i hi
    cases rg with
    | none => exact ⟨by simpa [sub?] using hi, by simp [sub?]⟩
    | some p =>
      have h2 : i < (sub? xs (some p)).length := hi
      simp only [sub?, List.length_take, List.length_drop] at h2
      have hk : p.1 + i < xs.length := by omega
      exact ⟨hk, by simp [sub?]⟩
  simp only [RepC]
  rcases hv with ⟨h0, rfl⟩ | ⟨b, o, sz, n, a, hι, rfl, hn, ha, arr, ty, hb, hcap⟩
  · have : (rg.getD (0, c.len)).2 = 0 := by omega
    exact ⟨none, 0, by rw [hsub, this], by rw [hsub, this]; exact Nat.le_refl _, fun hne => absurd (hsub.trans this) hne⟩
  · refine ⟨some a, n, by rw [hsub], by rw [hsub]; exact hn, fun hne => ?_⟩
    have hsz := H.siz r c b o sz hc hι
    rcases H.obj r c hc with h0 | ⟨b', o', arr', ty', hι', hb', hfit, hels⟩
    · omega
    · rw [hι] at hι'; obtain ⟨rfl, rfl, hs⟩ : b = b' ∧ o = o' ∧ sz = c.sz := by simpa using hι'
      rw [hb] at hb'; obtain ⟨rfl, rfl⟩ : arr = arr' ∧ ty = ty' := by simpa using hb'
      have ha := ha (by omega)
      subst ha
      refine ⟨b, _, rfl, hJ b o sz hι, fun i hi => ?_⟩
      obtain ⟨hk, he⟩ := hget i hi
      obtain ⟨cs, vs, hat, hvl, hrep, hcell⟩ := hels ((rg.getD (0, c.len)).1 + i) (by omega)
      have hR := hel _ hk cs vs hat hrep
      have htl := RepC.length t hR
      refine ⟨vs, htl, by rw [he]; exact hR, fun j hj => ?_⟩
      have := hcell j hj
      simp only [World.cell?, hb, Option.isSome_none, Bool.false_eq_true, if_false]
      rw [← this]
      congr 1
      have : t.size = c.sz := by omega
      rw [this, hs, Nat.add_mul]; omega

theorem mapM_spec {α β : Type} {f : α → Option β} : {l : List α} → {r : List β} → l.mapM f = some r → r.length = l.length ∧ ∀ (i : Nat) (h1 : i < r.length) (h2 : i < l.length), f l[i] = some r[i]
  | [], r, h => by simp at h; subst h; exact ⟨rfl, fun i h1 h2 => by simp at h1⟩
  | a :: l, r, h => by
    simp only [List.mapM_cons, Option.pure_def, Option.bind_eq_bind, Option.bind_eq_some_iff, Option.some.injEq] at h
    obtain ⟨b, h1, bs, h2, rfl⟩ := h
    obtain ⟨e, h3⟩ := mapM_spec h2
    refine ⟨by simp [e], fun i h4 h5 => ?_⟩
    cases i with
    | zero => exact h1
    | succ i => exact h3 i (by simpa using h4) (by simpa using h5)

theorem pack_spec {E : Env} {h hp : List (Option Cont)} {w : World} {J : Nat → Prop} (hJI : ∀ b, E.I b → J b) (hh : hp = [] ∨ hp = h ∧ HeapOK E h w ∧ ∀ b, OwnB E b → J b) : (t : Ty) →
    (∀ (cs : List AV) (x : den t) (rest : List AV) (vs : List Value), packC hp t cs = some (x, rest) → RepL E h w cs vs → ∃ us ws, vs = us ++ ws ∧ RepC J w t x us ∧ RepL E h w rest ws) ∧
    (∀ (cs : List AV) (x : den t) (vs : List Value), packA hp t cs = some x → RepL E h w cs vs → RepA J w t x vs) := by
  have hst : Stab E.I w J w := fun b hb => ⟨hJI b hb, rfl⟩
  -- a pure cell
  have hpv : ∀ (t : Ty) (cs : List AV) (x : den t) (rest : List AV) (vs : List Value) (u : Ty) (y : den u) (cs' : List AV), cs = .pv u y :: cs' → (cast? u t y).map (·, cs') = some (x, rest) → RepL E h w cs vs → ∃ us ws, vs = us ++ ws ∧ RepC J w t x us ∧ RepL E h w rest ws := by
    intro t cs x rest vs u y cs' e h1 h2
    subst e
    simp only [Option.map_eq_some_iff, Prod.mk.injEq] at h1
    obtain ⟨z, h3, rfl, rfl⟩ := h1
    obtain ⟨rfl, rfl⟩ := cast?_spec h3
    simp only [RepL, RepAV] at h2; obtain ⟨v, us, rfl, h4, h5⟩ := h2
    exact ⟨[v], us, rfl, h4.mono hst, h5⟩
  intro t
  induction t with
  | int k =>
    refine ⟨fun cs x rest vs h1 h2 => ?_, fun cs x vs h1 _ => by simp [packA] at h1⟩
    simp only [packC] at h1
    split at h1
    · exact hpv _ _ x rest vs _ _ _ rfl h1 h2
    · cases h1
  | bool =>
    refine ⟨fun cs x rest vs h1 h2 => ?_, fun cs x vs h1 _ => by simp [packA] at h1⟩
    simp only [packC] at h1
    split at h1
    · exact hpv _ _ x rest vs _ _ _ rfl h1 h2
    · cases h1
  | str =>
    refine ⟨fun cs x rest vs h1 h2 => ?_, fun cs x vs h1 _ => by simp [packA] at h1⟩
    simp only [packC] at h1
    split at h1
    · exact hpv _ _ x rest vs _ _ _ rfl h1 h2
    · cases h1
  | err =>
    refine ⟨fun cs x rest vs h1 h2 => ?_, fun cs x vs h1 _ => by simp [packA] at h1⟩
    simp only [packC] at h1
    split at h1
    · exact hpv _ _ x rest vs _ _ _ rfl h1 h2
    · obtain ⟨rfl, rfl⟩ : true = x ∧ _ = rest := by simpa using h1
      simp only [RepL, RepAV] at h2; obtain ⟨v, us, rfl, rfl, h5⟩ := h2
      exact ⟨[.nilIface], us, rfl, by simp [RepC], h5⟩
    · cases h1
  | unit =>
    refine ⟨fun cs x rest vs h1 h2 => ?_, fun cs x vs h1 h2 => ?_⟩
    · simp only [packC, Option.some.injEq, Prod.mk.injEq] at h1
      obtain ⟨_, rfl⟩ := h1
      exact ⟨[], vs, rfl, by simp [RepC], h2⟩
    · simp only [packA] at h1
      split at h1
      · rename_i he
        have : cs = [] := by simpa using he
        subst this
        simp only [RepL] at h2; subst h2; simp [RepA]
      · cases h1
  | prod a b iha ihb =>
    refine ⟨fun cs x rest vs h1 h2 => ?_, fun cs x vs h1 h2 => ?_⟩
    · simp only [packC, Option.bind_eq_some_iff, Option.some.injEq, Prod.mk.injEq] at h1
      obtain ⟨⟨y, r1⟩, h3, ⟨z, r2⟩, h4, rfl, rfl⟩ := h1
      obtain ⟨us, ws, rfl, h5, h6⟩ := iha.1 _ _ _ _ h3 h2
      obtain ⟨us', ws', rfl, h7, h8⟩ := ihb.1 _ _ _ _ h4 h6
      refine ⟨us ++ us', ws', by simp, ?_, h8⟩
      simp only [RepC]; exact ⟨us, us', rfl, h5, h7⟩
    · simp only [packA] at h1
      split at h1
      · rename_i v vs'
        simp only [Option.bind_eq_some_iff, Option.some.injEq] at h1
        obtain ⟨y, h3, z, h4, rfl⟩ := h1
        simp only [RepL] at h2; obtain ⟨u, us, rfl, h5, h6⟩ := h2
        simp only [RepA]
        refine ⟨u, us, rfl, ?_, ihb.2 _ _ _ h4 h6⟩
        unfold RepV'
        split
        · rename_i ea
          rw [if_pos ea] at h3
          split at h3
          · rename_i ds
            simp only [Option.bind_eq_some_iff] at h3
            obtain ⟨⟨y', r⟩, h7, h8⟩ := h3
            split at h8
            · rename_i he
              have : r = [] := by simpa using he
              subst this
              obtain rfl : y' = y := by simpa using h8
              simp only [RepAV] at h5; obtain ⟨us', rfl, h9⟩ := h5
              obtain ⟨u1, u2, rfl, h10, h11⟩ := iha.1 _ _ _ _ h7 h9
              simp only [RepL] at h11; subst h11
              exact ⟨u1, by simp, h10⟩
            · cases h8
          · cases h3
        · rename_i ea
          rw [if_neg ea] at h3
          simp only [Option.map_eq_some_iff] at h3
          obtain ⟨⟨y', r⟩, h7, rfl⟩ := h3
          obtain ⟨u1, u2, e, h10, h11⟩ := iha.1 _ _ _ _ h7 (RepL.cons h5 RepL.nil)
          have hl := RepC.length a h10
          have : a.size = 1 := by cases a <;> first | rfl | simp [Ty.agg] at ea
          rw [this] at hl
          obtain ⟨q, rfl⟩ := List.length_eq_one_iff.1 hl
          have : q = u := by simpa using (List.cons.inj e).1.symm
          subst this; exact h10
      · cases h1
  | slice t ih =>
    refine ⟨fun cs x rest vs h1 h2 => ?_, fun cs x vs h1 _ => by simp [packA] at h1⟩
    simp only [packC] at h1
    split at h1
    · exact hpv _ _ x rest vs _ _ _ rfl h1 h2
    · obtain ⟨rfl, rfl⟩ : [] = x ∧ _ = rest := by simpa using h1
      simp only [RepL, RepAV] at h2; obtain ⟨v, us, rfl, rfl, h5⟩ := h2
      exact ⟨[.slice none 0 0], us, rfl, by simp only [RepC]; exact ⟨none, 0, rfl, Nat.le_refl _, fun hn => absurd rfl hn⟩, h5⟩
    · rename_i r rg cs'
      simp only [RepL, RepAV] at h2; obtain ⟨v, us, rfl, h3, h5⟩ := h2
      rcases hh with rfl | ⟨rfl, H, hJ⟩
      · simp at h1
      split at h1
      · rename_i u xs hobj
        simp only [Option.map_eq_some_iff, Prod.mk.injEq] at h1
        obtain ⟨ys, h6, rfl, rfl⟩ := h1
        obtain ⟨e, rfl⟩ := cast?_spec h6
        obtain rfl : u = t := by simpa using e
        refine ⟨[v], us, rfl, own_reads H hJI (fun b o s h => hJ b ⟨_, o, s, h⟩) h3 hobj xs (by simp [Cont.len]) ?_, h5⟩
        intro i hi cs vs hat hrep
        obtain ⟨hi', rfl⟩ := at_lst hat
        exact (flat_rep u hrep).mono hst
      · rename_i sz es hobj
        simp only [Option.map_eq_some_iff, Prod.mk.injEq] at h1
        obtain ⟨ys, h6, rfl, rfl⟩ := h1
        obtain ⟨hl, hm⟩ := mapM_spec h6
        refine ⟨[v], us, rfl, own_reads H hJI (fun b o s h => hJ b ⟨_, o, s, h⟩) h3 hobj ys (by simp [Cont.len, hl]) ?_, h5⟩
        intro i hi cs vs hat hrep
        simp only [Cont.at?] at hat
        obtain ⟨hi', rfl⟩ := List.getElem?_eq_some_iff.1 hat
        have := hm i hi hi'
        simp only [Option.bind_eq_some_iff] at this
        obtain ⟨⟨y, r'⟩, h7, h8⟩ := this
        split at h8
        · rename_i he
          have : r' = [] := by simpa using he
          subst this
          obtain rfl : y = ys[i] := by simpa using h8
          obtain ⟨u1, u2, rfl, h10, h11⟩ := ih.1 _ _ _ _ h7 hrep
          simp only [RepL] at h11; subst h11
          simpa using h10
        · cases h8
      · cases h1
    · cases h1
  | iref t ih =>
    refine ⟨fun cs x rest vs h1 h2 => ?_, fun cs x vs h1 _ => by simp [packA] at h1⟩
    simp only [packC] at h1
    split at h1
    · exact hpv _ _ x rest vs _ _ _ rfl h1 h2
    · obtain ⟨rfl, rfl⟩ : none = x ∧ _ = rest := by simpa using h1
      simp only [RepL, RepAV] at h2; obtain ⟨v, us, rfl, rfl, h5⟩ := h2
      exact ⟨[.pointer none], us, rfl, by simp [RepC], h5⟩
    · rename_i u y cs'
      simp only [Option.map_eq_some_iff, Prod.mk.injEq] at h1
      obtain ⟨z, h3, rfl, rfl⟩ := h1
      obtain ⟨rfl, rfl⟩ := cast?_spec h3
      simp only [RepL, RepAV] at h2; obtain ⟨v, us, rfl, ⟨b, o, cs, rfl, hI, h4, h6⟩, h5⟩ := h2
      refine ⟨[_], us, rfl, ?_, h5⟩
      simp only [RepC]
      exact ⟨b, o, cs, by simp, hJI b hI, RepC.length u h4, h4.mono hst, h6⟩
    · cases h1
  | fn f t ih =>
    refine ⟨fun cs x rest vs h1 h2 => ?_, fun cs x vs h1 _ => by simp [packA] at h1⟩
    simp only [packC] at h1
    split at h1
    · exact hpv _ _ x rest vs _ _ _ rfl h1 h2
    · rename_i g cap cs'
      split at h1
      · rename_i e
        subst e
        simp only [Option.map_eq_some_iff, Prod.mk.injEq] at h1
        obtain ⟨z, h3, rfl, rfl⟩ := h1
        simp only [RepL, RepAV] at h2; obtain ⟨v, us, rfl, ⟨ws, rfl, h4⟩, h5⟩ := h2
        refine ⟨[_], us, rfl, ?_, h5⟩
        simp only [RepC]
        exact ⟨ws, rfl, ih.2 _ _ _ h3 h4⟩
      · cases h1
    · cases h1
end Go.Ab
