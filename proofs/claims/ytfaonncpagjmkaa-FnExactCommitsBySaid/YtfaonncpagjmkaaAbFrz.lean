import Derived.Test.YtfaonncpagjmkaaAbEff
set_option linter.unnecessarySimpa false
set_option linter.unusedVariables false
set_option linter.unusedSimpArgs false
namespace Go.Ab
open Go.RowKit

theorem thawH_get (r : Nat) (t : Ty) (xs : List (den t)) : (h : List (Option Cont)) → (i q : Nat) → (thawH r t xs h i).getD q none = if i + q = r then none else (h.getD q none).map (Cont.thaw r t xs)
  | [], i, q => by simp [thawH]
  | o :: h, i, 0 => by simp [thawH]
  | o :: h, i, q + 1 => by
    have := thawH_get r t xs h (i + 1) q
    simp only [thawH, List.getD_cons_succ]
    rw [this, show i + 1 + q = i + (q + 1) by omega]
theorem thawH_length (r : Nat) (t : Ty) (xs : List (den t)) : (h : List (Option Cont)) → (i : Nat) → (thawH r t xs h i).length = h.length
  | [], _ => rfl
  | _ :: h, i => by simp [thawH, thawH_length r t xs h (i + 1)]
theorem thaw_len {r : Nat} {t : Ty} {xs : List (den t)} (c : Cont) : (c.thaw r t xs).len = c.len := by cases c <;> simp [Cont.thaw, Cont.len]
theorem thaw_sz {r : Nat} {t : Ty} {xs : List (den t)} (c : Cont) : (c.thaw r t xs).sz = c.sz := by cases c <;> simp [Cont.thaw, Cont.sz]

def Env.thaw (E : Env) (r : Nat) : Env := ⟨fun q => if q = r then none else E.ι q, fun b => E.I b ∨ ∃ o s, E.ι r = some (b, o, s)⟩

section
variable {E : Env} {h : List (Option Cont)} {w : World} {r : Nat} {t : Ty} {xs : List (den t)}

theorem own_thaw (H : HeapOK E h w) (hr : h.getD r none = some (.lst t xs)) {rg : Option (Nat × Nat)} {v : Value} (hv : OwnRep E h w r rg v) : RepC (E.thaw r).I w (.slice t) (sub? xs rg) [v] :=
  own_reads (J := (E.thaw r).I) H (fun b hb => .inl hb) (fun b o s hb => .inr ⟨o, s, hb⟩) hv hr xs rfl fun i hi cs vs hat hrep => by
    obtain ⟨hi', rfl⟩ := at_lst hat
    exact (flat_rep t hrep).mono fun b hb => ⟨.inl hb, rfl⟩

mutual
theorem rep_thaw (H : HeapOK E h w) (hr : h.getD r none = some (.lst t xs)) : (c : AV) → {v : Value} → RepAV E h w c v → RepAV (E.thaw r) (thawH r t xs h 0) w (c.thaw r t xs) v
  | .pv u x, v, h1 => by simp only [RepAV, AV.thaw] at h1 ⊢; exact h1.mono fun b hb => ⟨.inl hb, rfl⟩
  | .agg cs, v, h1 => by simp only [RepAV, AV.thaw] at h1 ⊢; obtain ⟨vs, e, h2⟩ := h1; exact ⟨vs, e, rep_thawL H hr cs h2⟩
  | .tup cs, v, h1 => by simp only [RepAV, AV.thaw] at h1 ⊢; obtain ⟨vs, e, h2⟩ := h1; exact ⟨vs, e, rep_thawL H hr cs h2⟩
  | .fn f cs, v, h1 => by simp only [RepAV, AV.thaw] at h1 ⊢; obtain ⟨vs, e, h2⟩ := h1; exact ⟨vs, e, rep_thawL H hr cs h2⟩
  | .iptr u x off, v, h1 => by
    simp only [RepAV, AV.thaw] at h1 ⊢; obtain ⟨b, o, cs, e, hI, h2, h3⟩ := h1
    exact ⟨b, o, cs, e, .inl hI, h2.mono fun b hb => ⟨.inl hb, rfl⟩, h3⟩
  | .nils, v, h1 | .nilp, v, h1 | .nilf, v, h1 | .nili, v, h1 => by simpa only [RepAV, AV.thaw] using h1
  | .junk, v, _ => by simp only [RepAV, AV.thaw]
  | .ptr q i o, v, h1 => by
    simp only [AV.thaw]
    split
    · simp only [RepAV]
    · rename_i hq
      simp only [RepAV, Env.thaw, if_neg hq] at h1 ⊢; exact h1
  | .own q rg, v, h1 => by
    simp only [AV.thaw]
    split
    · rename_i hq; subst hq
      simp only [RepAV] at h1 ⊢
      exact own_thaw H hr h1
    · rename_i hq
      simp only [RepAV, OwnRep, Env.thaw, if_neg hq] at h1 ⊢
      obtain ⟨c, h2, h3, h4⟩ := h1
      refine ⟨c.thaw r t xs, ?_, by rw [thaw_len]; exact h3, by rw [thaw_len]; exact h4⟩
      rw [thawH_get, Nat.zero_add, if_neg hq, h2]; rfl
theorem rep_thawL (H : HeapOK E h w) (hr : h.getD r none = some (.lst t xs)) : (cs : List AV) → {vs : List Value} → RepL E h w cs vs → RepL (E.thaw r) (thawH r t xs h 0) w (thawL r t xs cs) vs
  | [], vs, h1 => by simpa only [RepL, thawL] using h1
  | c :: cs, vs, h1 => by
    simp only [RepL] at h1; obtain ⟨v, us, rfl, h2, h3⟩ := h1
    exact RepL.cons (rep_thaw H hr c h2) (rep_thawL H hr cs h3)
end

theorem thawL_get {r : Nat} {t : Ty} {xs : List (den t)} : (l : List AV) → (i : Nat) → (thawL r t xs l)[i]? = (l[i]?).map (AV.thaw r t xs)
  | [], i => by simp [thawL]
  | c :: cs, 0 => by simp [thawL]
  | c :: cs, i + 1 => by simp [thawL, thawL_get cs i]
theorem thawL_length {r : Nat} {t : Ty} {xs : List (den t)} : (l : List AV) → (thawL r t xs l).length = l.length
  | [] => rfl
  | c :: cs => by simp [thawL, thawL_length cs]

theorem inv_thaw {I0 : Nat → Prop} {w0 : World} (hI : Inv I0 w0 E h w) (hr : h.getD r none = some (.lst t xs)) : Inv I0 w0 (E.thaw r) (thawH r t xs h 0) w where
  heap := {
    obj := fun q c' hc => by
      rw [thawH_get, Nat.zero_add] at hc
      split at hc
      · cases hc
      · rename_i hq
        obtain ⟨c, h1, rfl⟩ := Option.map_eq_some_iff.1 hc
        rw [thaw_len, thaw_sz]
        refine (hI.heap.obj q c h1).imp id ?_
        rintro ⟨b, o, arr, ty, k1, k2, k3, k4⟩
        refine ⟨b, o, arr, ty, by simp only [Env.thaw, if_neg hq]; exact k1, k2, k3, fun i hi => ?_⟩
        obtain ⟨cs, vs, m1, m2, m3, m4⟩ := k4 i hi
        cases c with
        | lst u ys =>
          refine ⟨cs, vs, m1, m2, ?_, m4⟩
          obtain ⟨hi', rfl⟩ := at_lst m1
          exact pure_congrL (E := E) (E' := E.thaw r) (fun b hb => ⟨.inl hb, rfl⟩) _ (pureL_flat u _) m3
        | cells n es =>
          refine ⟨thawL r t xs cs, vs, ?_, m2, rep_thawL hI.heap hr cs m3, m4⟩
          simp only [Cont.at?, Cont.thaw] at m1 ⊢
          rw [List.getElem?_map, m1]; rfl
    siz := fun q c' b o s hc hι => by
      rw [thawH_get, Nat.zero_add] at hc
      split at hc
      · cases hc
      · rename_i hq
        obtain ⟨c, h1, rfl⟩ := Option.map_eq_some_iff.1 hc
        simp only [Env.thaw, if_neg hq] at hι
        rw [thaw_sz]; exact hI.heap.siz q c b o s h1 hι
    inj := fun q q' b o s o' s' h1 h2 => by
      simp only [Env.thaw] at h1 h2
      split at h1
      · cases h1
      · split at h2
        · cases h2
        · exact hI.heap.inj q q' b o s o' s' h1 h2
    fresh := fun q hq => by
      rw [thawH_length] at hq
      simp only [Env.thaw]
      split
      · rfl
      · exact hI.heap.fresh q hq
    base := fun q b o s h1 => by
      simp only [Env.thaw] at h1
      split at h1
      · cases h1
      · exact hI.heap.base q b o s h1
    I_lt := fun b hb => by
      rcases hb with hb | ⟨o, s, hb⟩
      · exact hI.heap.I_lt b hb
      · exact hI.heap.own_lt b ⟨r, o, s, hb⟩
    own_lt := fun b ⟨q, o, s, h1⟩ => by
      simp only [Env.thaw] at h1
      split at h1
      · cases h1
      · exact hI.heap.own_lt b ⟨q, o, s, h1⟩
    apart := fun b ⟨q, o, s, h1⟩ hb => by
      simp only [Env.thaw] at h1
      split at h1
      · cases h1
      · rename_i hq
        rcases hb with hb | ⟨o', s', hb⟩
        · exact hI.heap.apart b ⟨q, o, s, h1⟩ hb
        · exact hq (hI.heap.inj q r b o s o' s' h1 hb) }
  below := hI.below
  own_new := fun b ⟨q, o, s, h1⟩ => by
      simp only [Env.thaw] at h1
      split at h1
      · cases h1
      · exact hI.own_new b ⟨q, o, s, h1⟩
  I_sub := fun b hb => .inl (hI.I_sub b hb)
  I_new := fun b hb => by
    rcases hb with hb | ⟨o, s, hb⟩
    · exact hI.I_new b hb
    · exact .inr (hI.own_new b ⟨r, o, s, hb⟩)
end

theorem repT_thaw {E : Env} {s : St} {w : World} {a : Array Value} {r : Nat} {t : Ty} {xs : List (den t)} (H : HeapOK E s.h w) (hr : s.h.getD r none = some (.lst t xs)) (ht : RepT E s.h w s.t a) : RepT (E.thaw r) (s.thaw r t xs).h w (s.thaw r t xs).t a := by
  refine ⟨by simp only [St.thaw, thawL_length]; exact ht.1, fun i c hi => ?_⟩
  simp only [St.thaw, thawL_get] at hi
  obtain ⟨c0, h1, rfl⟩ := Option.map_eq_some_iff.1 hi
  obtain ⟨v, h2, h3⟩ := ht.2 i c0 h1
  exact ⟨v, h2, rep_thaw H hr c0 h3⟩

theorem frz_ok {I0 : Nat → Prop} {w0 : World} {w : World} {a : Array Value} : (rs : List Nat) → {s : St} → {E : Env} → Inv I0 w0 E s.h w → RepT E s.h w s.t a → ∃ E', Inv I0 w0 E' (frz rs s).h w ∧ RepT E' (frz rs s).h w (frz rs s).t a
  | [], s, E, hI, ht => ⟨E, hI, ht⟩
  | r :: rs, s, E, hI, ht => by
    unfold frz
    split
    · rename_i t xs hr
      exact frz_ok rs (inv_thaw hI hr) (repT_thaw hI.heap hr ht)
    · exact frz_ok rs hI ht

theorem ESem.frz {P : Program} {s : St} {rs : List Nat} {o : Oper} {v : AV} {s' : St} (h : ESem P (Ab.frz rs s) o v s') : ESem P s o v s' := by
  intro I0 w0 E w a next Q hI ht hk
  obtain ⟨E', h1, h2⟩ := frz_ok rs hI ht
  exact h I0 w0 E' w a next Q h1 h2 hk
end Go.Ab
