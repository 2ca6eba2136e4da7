import Derived.Test.YtfaonncpagjmkaaAbEff4
set_option linter.unnecessarySimpa false
set_option linter.unusedVariables false
set_option linter.unusedSimpArgs false
namespace Go.Ab
open Go.RowKit

/-- All objects but number r are as they were. -/
structure GrowBut (r : Nat) (E : Env) (h : List (Option Cont)) (w : World) (E' : Env) (h' : List (Option Cont)) (w' : World) : Prop where
  ι : ∀ q x, q ≠ r → E.ι q = some x → E'.ι q = some x
  stab : Stab E.I w E'.I w'
  len : ∀ q c, q ≠ r → h.getD q none = some c → ∃ c', h'.getD q none = some c' ∧ c'.len = c.len
  blk : ∀ q b o s arr ty, q ≠ r → E.ι q = some (b, o, s) → w.heap[b]? = some (.cells arr ty (0, 0)) → w'.heap[b]? = some (.cells arr ty (0, 0))

mutual
theorem junk_rep {r : Nat} {E E' : Env} {h h' : List (Option Cont)} {w w' : World} (hx : GrowBut r E h w E' h' w') : (c : AV) → {v : Value} → RepAV E h w c v → RepAV E' h' w' (c.junkR r) v
  | .pv t x, v, h1 => by simp only [RepAV, AV.junkR] at h1 ⊢; exact h1.mono hx.stab
  | .agg cs, v, h1 => by simp only [RepAV, AV.junkR] at h1 ⊢; obtain ⟨vs, e, h2⟩ := h1; exact ⟨vs, e, junk_repL hx cs h2⟩
  | .tup cs, v, h1 => by simp only [RepAV, AV.junkR] at h1 ⊢; obtain ⟨vs, e, h2⟩ := h1; exact ⟨vs, e, junk_repL hx cs h2⟩
  | .fn f cs, v, h1 => by simp only [RepAV, AV.junkR] at h1 ⊢; obtain ⟨vs, e, h2⟩ := h1; exact ⟨vs, e, junk_repL hx cs h2⟩
  | .iptr t x off, v, h1 => by
    simp only [RepAV, AV.junkR] at h1 ⊢; obtain ⟨b, o, cs, e, hI, h2, h3⟩ := h1
    exact ⟨b, o, cs, e, (hx.stab b hI).1, h2.mono hx.stab, cellsAt_of_block (hx.stab b hI).2 h3⟩
  | .nils, v, h1 | .nilp, v, h1 | .nilf, v, h1 | .nili, v, h1 => by simpa only [RepAV, AV.junkR] using h1
  | .ptr q i o, v, h1 => by
    simp only [AV.junkR]
    split
    · simp only [RepAV]
    · rename_i hne
      simp only [RepAV] at h1 ⊢; obtain ⟨b, o', sz, hι, e⟩ := h1
      exact ⟨b, o', sz, hx.ι q _ hne hι, e⟩
  | .junk, v, _ => by simp only [RepAV, AV.junkR]
  | .own q rg, v, h1 => by
    simp only [AV.junkR]
    split
    · simp only [RepAV]
    · rename_i hne
      simp only [RepAV, OwnRep] at h1 ⊢
      obtain ⟨c, hc, hle, h2⟩ := h1
      obtain ⟨c', hc', hl⟩ := hx.len q c hne hc
      refine ⟨c', hc', by rw [hl]; exact hle, ?_⟩
      rw [hl]
      refine h2.imp id ?_
      rintro ⟨b, o, sz, n, a, hι, hv, hn, ha, arr, ty, hb, hcap⟩
      exact ⟨b, o, sz, n, a, hx.ι q _ hne hι, hv, hn, ha, arr, ty, hx.blk q b o sz arr ty hne hι hb, hcap⟩
theorem junk_repL {r : Nat} {E E' : Env} {h h' : List (Option Cont)} {w w' : World} (hx : GrowBut r E h w E' h' w') : (cs : List AV) → {vs : List Value} → RepL E h w cs vs → RepL E' h' w' (junkL r cs) vs
  | [], vs, h1 => by simpa only [RepL, junkL] using h1
  | c :: cs, vs, h1 => by
    simp only [RepL] at h1; obtain ⟨v, us, rfl, h2, h3⟩ := h1
    exact RepL.cons (junk_rep hx c h2) (junk_repL hx cs h3)
end

theorem junkL_length (r : Nat) : (cs : List AV) → (junkL r cs).length = cs.length
  | [] => rfl
  | c :: cs => by simp [junkL, junkL_length r cs]
theorem junkL_get (r : Nat) : (cs : List AV) → (i : Nat) → (junkL r cs)[i]? = (cs[i]?).map (AV.junkR r)
  | [], i => by simp [junkL]
  | c :: cs, 0 => by simp [junkL]
  | c :: cs, i + 1 => by simp [junkL, junkL_get r cs i]
theorem junkR_flat {r : Nat} : (t : Ty) → (x : den t) → junkL r (flat t x) = flat t x
  | .prod a b, x => by
    have happ : ∀ l m : List AV, junkL r (l ++ m) = junkL r l ++ junkL r m := by
      intro l; induction l with
      | nil => intro m; rfl
      | cons c l ih => intro m; simp [junkL, ih]
    simp only [flat, happ, junkR_flat a x.1, junkR_flat b x.2]
  | .unit, _ | .int _, _ | .bool, _ | .str, _ | .err, _ | .slice _, _ | .iref _, _ | .fn _ _, _ => rfl
theorem Cont.junk_at (r : Nat) (c : Cont) (i : Nat) : (c.junkR r).at? i = (c.at? i).map (junkL r) := by
  cases c with
  | lst t xs =>
    simp only [Cont.junkR, Cont.at?, Option.map_map]
    cases xs[i]? with
    | none => rfl
    | some x => simp [junkR_flat]
  | cells n es => simp [Cont.junkR, Cont.at?]
theorem Cont.junk_len (r : Nat) (c : Cont) : (c.junkR r).len = c.len := by cases c <;> simp [Cont.junkR, Cont.len]
theorem Cont.junk_sz (r : Nat) (c : Cont) : (c.junkR r).sz = c.sz := by cases c <;> rfl
theorem St.junk_get (r : Nat) (s : St) (q : Nat) : (s.junkR r).h.getD q none = (s.h.getD q none).map (Cont.junkR r) := by
  simp only [St.junkR, List.getD_eq_getElem?_getD, List.getElem?_map]
  cases s.h[q]? <;> rfl

theorem RepT.junk {r : Nat} {E E' : Env} {h h' : List (Option Cont)} {w w' : World} {t : List AV} {a : Array Value} (H : RepT E h w t a) (hx : GrowBut r E h w E' h' w') : RepT E' h' w' (junkL r t) a := by
  refine ⟨by rw [junkL_length]; exact H.1, fun i c hi => ?_⟩
  rw [junkL_get] at hi
  obtain ⟨c', hc', rfl⟩ := Option.map_eq_some_iff.1 hi
  obtain ⟨v, h1, h2⟩ := H.2 i c' hc'
  exact ⟨v, h1, junk_rep hx c' h2⟩

/-- Object number r has new content, in its block or in a new one. -/
theorem inv_app {I0 : Nat → Prop} {w0 : World} {E : Env} {s : St} {w : World} (H : Inv I0 w0 E s.h w) {r : Nat} {c d : Cont} (hc : s.h.getD r none = some c) {E' : Env} {w' : World} {b : Nat} {arr : Array Value} {ty : TypeId}
    (hI : E'.I = E.I) (hιr : E'.ι r = some (b, 0, d.sz)) (hιo : ∀ q, q ≠ r → E'.ι q = E.ι q) (hb : w'.heap[b]? = some (.cells arr ty (0, 0))) (hold : ∀ k, k ≠ b → k < w.heap.size → w'.heap[k]? = w.heap[k]?)
    (hbw : (E.ι r = some (b, 0, d.sz)) ∨ w.heap.size ≤ b) (hsize : w.heap.size ≤ w'.heap.size) (hblt : b < w'.heap.size) (hos : w'.os = w.os) (htape : w'.tape = w.tape) (hout : w'.output = w.output)
    (hfit : d.len * d.sz ≤ arr.size) (hels : ∀ i, i < d.len → ∃ cs vs, d.at? i = some cs ∧ vs.length = d.sz ∧ RepL E s.h w cs vs ∧ ∀ (j : Nat) (hj : j < vs.length), arr[i * d.sz + j]? = some vs[j]) :
    let s' := s.junkR r
    Inv I0 w0 E' (s'.h.set r (some (d.junkR r))) w' ∧ GrowBut r E s.h w E' (s'.h.set r (some (d.junkR r))) w' := by
  intro s'
  have hrl : r < s'.h.length := by simp only [s', St.junkR, List.length_map]; exact getD_obj hc
  have hbo : ∀ q b' o' z, q ≠ r → E.ι q = some (b', o', z) → b' ≠ b := by
    rintro q b' o' z hne hι rfl
    rcases hbw with h1 | h1
    · exact hne (H.heap.inj q r b' _ _ _ _ hι h1)
    · have := H.heap.own_lt b' ⟨q, _, _, hι⟩; omega
  have hbI : ∀ k, E.I k → k ≠ b := by
    rintro k hk rfl
    rcases hbw with h1 | h1
    · exact H.heap.apart k ⟨r, _, _, h1⟩ hk
    · have := H.heap.I_lt k hk; omega
  have hg : GrowBut r E s.h w E' (s'.h.set r (some (d.junkR r))) w' := by
    refine ⟨fun q x hne hq => by rw [hιo q hne]; exact hq, fun k hk => ⟨by rw [hI]; exact hk, hold k (hbI k hk) (H.heap.I_lt k hk)⟩, fun q c' hne hq => ?_, fun q b' o' z arr' ty' hne hι hb' => by rw [hold b' (hbo q b' o' z hne hι) (H.heap.own_lt b' ⟨q, _, _, hι⟩)]; exact hb'⟩
    rw [getD_set hrl, if_neg hne, St.junk_get, hq]
    exact ⟨c'.junkR r, rfl, Cont.junk_len r c'⟩
  refine ⟨⟨⟨?_, ?_, ?_, ?_, ?_, ?_, ?_, ?_⟩, ?_, ?_, fun k hk => by rw [hI]; exact H.I_sub k hk, fun k hk => by rw [hI] at hk; exact H.I_new k hk⟩, hg⟩
  · intro q c' hq
    rw [getD_set hrl] at hq
    by_cases e : q = r
    · subst e
      rw [if_pos rfl] at hq; obtain rfl : d.junkR q = c' := by simpa using hq
      right
      refine ⟨b, 0, arr, ty, by rw [Cont.junk_sz]; exact hιr, hb, by rw [Cont.junk_len, Cont.junk_sz]; omega, fun i hi => ?_⟩
      rw [Cont.junk_len] at hi
      obtain ⟨cs, vs, h1, h2, h3, h4⟩ := hels i hi
      exact ⟨junkL q cs, vs, by rw [Cont.junk_at, h1]; rfl, by rw [Cont.junk_sz]; exact h2, junk_repL hg cs h3, fun j hj => by rw [Cont.junk_sz, Nat.zero_add]; exact h4 j hj⟩
    · rw [if_neg e, St.junk_get] at hq
      obtain ⟨c'', hq', rfl⟩ := Option.map_eq_some_iff.1 hq
      rw [Cont.junk_len, Cont.junk_sz]
      refine (H.heap.obj q c'' hq').imp id ?_
      rintro ⟨b', o', a', ty', hι', hb', hfit', hels'⟩
      refine ⟨b', o', a', ty', by rw [hιo q e]; exact hι', hg.blk q b' o' _ a' ty' e hι' hb', hfit', fun i hi => ?_⟩
      obtain ⟨cs, vs, h1, h2, h3, h4⟩ := hels' i hi
      exact ⟨junkL r cs, vs, by rw [Cont.junk_at, h1]; rfl, h2, junk_repL hg cs h3, h4⟩
  · intro q c' b' o' z hq hι
    rw [getD_set hrl] at hq
    by_cases e : q = r
    · subst e
      rw [if_pos rfl] at hq; obtain rfl : d.junkR q = c' := by simpa using hq
      rw [hιr] at hι; simp only [Option.some.injEq, Prod.mk.injEq] at hι
      rw [Cont.junk_sz]; exact hι.2.2.symm
    · rw [if_neg e, St.junk_get] at hq
      obtain ⟨c'', hq', rfl⟩ := Option.map_eq_some_iff.1 hq
      rw [Cont.junk_sz]
      exact H.heap.siz q c'' b' o' z hq' (by rw [← hιo q e]; exact hι)
  · intro q q' b' o' z o'' z' h1 h2
    by_cases e : q = r <;> by_cases e' : q' = r
    · rw [e, e']
    · rw [e, hιr] at h1; rw [hιo q' e'] at h2
      simp only [Option.some.injEq, Prod.mk.injEq] at h1
      exact absurd h1.1.symm (hbo q' b' _ _ e' h2)
    · rw [e', hιr] at h2; rw [hιo q e] at h1
      simp only [Option.some.injEq, Prod.mk.injEq] at h2
      exact absurd h2.1.symm (hbo q b' _ _ e h1)
    · rw [hιo q e] at h1; rw [hιo q' e'] at h2; exact H.heap.inj q q' b' o' z o'' z' h1 h2
  · intro q hq
    simp only [List.length_set] at hq
    have hq' : s.h.length ≤ q := by simpa [s', St.junkR] using hq
    rw [hιo q (by rintro rfl; exact absurd hrl (by omega))]; exact H.heap.fresh q hq'
  · intro q b' o' z h1
    by_cases e : q = r
    · rw [e, hιr] at h1; simp only [Option.some.injEq, Prod.mk.injEq] at h1; exact h1.2.1.symm
    · rw [hιo q e] at h1; exact H.heap.base q b' o' z h1
  · intro k hk; rw [hI] at hk; exact Nat.lt_of_lt_of_le (H.heap.I_lt k hk) hsize
  · rintro k ⟨q, o', z, h1⟩
    by_cases e : q = r
    · rw [e, hιr] at h1; simp only [Option.some.injEq, Prod.mk.injEq] at h1; rw [← h1.1]; exact hblt
    · rw [hιo q e] at h1; exact Nat.lt_of_lt_of_le (H.heap.own_lt k ⟨q, _, _, h1⟩) hsize
  · rintro k ⟨q, o', z, h1⟩ hk
    rw [hI] at hk
    by_cases e : q = r
    · rw [e, hιr] at h1; simp only [Option.some.injEq, Prod.mk.injEq] at h1; exact hbI k hk h1.1.symm
    · rw [hιo q e] at h1; exact H.heap.apart k ⟨q, _, _, h1⟩ hk
  · refine H.below.trans ⟨hos, htape, hout, hsize, fun k hk => hold k ?_ (by have := H.below.size; omega)⟩
    rintro rfl
    rcases hbw with h1 | h1
    · have := H.own_new k ⟨r, _, _, h1⟩; omega
    · have := H.below.size; omega
  · rintro k ⟨q, o', z, h1⟩
    by_cases e : q = r
    · rw [e, hιr] at h1; simp only [Option.some.injEq, Prod.mk.injEq] at h1
      rw [← h1.1]
      rcases hbw with h2 | h2
      · exact H.own_new b ⟨r, _, _, h2⟩
      · have := H.below.size; omega
    · rw [hιo q e] at h1; exact H.own_new k ⟨q, _, _, h1⟩

/-- What two rows joined hold. -/
theorem joinC_spec {a b d : Cont} (h : joinC a b = some d) (hab : b.sz = a.sz) : d.len = a.len + b.len ∧ d.sz = a.sz ∧
    ∀ {E : Env} {hp : List (Option Cont)} {w : World} (i : Nat), i < d.len → (i < a.len ∧ ∀ cs, a.at? i = some cs → ∀ vs, RepL E hp w cs vs → ∃ ds, d.at? i = some ds ∧ RepL E hp w ds vs) ∨
      (a.len ≤ i ∧ ∀ cs, b.at? (i - a.len) = some cs → ∀ vs, RepL E hp w cs vs → ∃ ds, d.at? i = some ds ∧ RepL E hp w ds vs) := by
  unfold joinC at h
  split at h
  · rename_i t xs u ys
    obtain ⟨zs, h1, rfl⟩ := Option.map_eq_some_iff.1 h
    obtain ⟨e, rfl⟩ := cast?_spec h1
    obtain rfl : u = t := by simpa using e
    refine ⟨by simp [Cont.len], rfl, fun {E hp w} i hi => ?_⟩
    simp only [Cont.len, List.length_append] at hi ⊢
    by_cases hlt : i < xs.length
    · exact .inl ⟨hlt, fun cs hcs vs hr => ⟨cs, by rw [← hcs]; simp only [Cont.at?]; rw [List.getElem?_append_left hlt], hr⟩⟩
    · exact .inr ⟨by omega, fun cs hcs vs hr => ⟨cs, by rw [← hcs]; simp only [Cont.at?]; rw [List.getElem?_append_right (by omega)], hr⟩⟩
  · rename_i t xs n es
    obtain ⟨zs, h1, rfl⟩ := Option.map_eq_some_iff.1 h
    obtain ⟨hl, hz⟩ := packEs_spec es h1
    refine ⟨by simp [Cont.len, hl], rfl, fun {E hp w} i hi => ?_⟩
    simp only [Cont.len, List.length_append] at hi ⊢
    by_cases hlt : i < xs.length
    · exact .inl ⟨hlt, fun cs hcs vs hr => ⟨cs, by rw [← hcs]; simp only [Cont.at?]; rw [List.getElem?_append_left hlt], hr⟩⟩
    · refine .inr ⟨by omega, fun cs hcs vs hr => ?_⟩
      have h2 : i - xs.length < zs.length := by omega
      simp only [Cont.at?] at hcs
      obtain ⟨h3, rfl⟩ := List.getElem?_eq_some_iff.1 hcs
      obtain ⟨us, ws, rfl, h4, h5⟩ := pack_flat t _ _ _ (hz (i - xs.length) h2 h3) hr
      simp only [RepL] at h5; subst h5
      exact ⟨flat t zs[i - xs.length], by simp only [Cont.at?]; rw [List.getElem?_append_right (by omega)]; simp [h2], by simpa using rep_flat t h4⟩
  · rename_i n u ys
    split at h
    · rename_i e
      obtain rfl := by simpa using h
      refine ⟨by simp [Cont.len], by simpa [Cont.sz] using e, fun {E hp w} i hi => .inr ⟨by simp [Cont.len], fun cs hcs vs hr => ⟨cs, by simpa [Cont.len] using hcs, hr⟩⟩⟩
    · cases h
  · rename_i n xs m ys
    split at h
    · rename_i e
      subst e
      obtain rfl := by simpa using h
      refine ⟨by simp [Cont.len], rfl, fun {E hp w} i hi => ?_⟩
      simp only [Cont.len, List.length_append] at hi ⊢
      by_cases hlt : i < xs.length
      · exact .inl ⟨hlt, fun cs hcs vs hr => ⟨cs, by rw [← hcs]; simp only [Cont.at?]; rw [List.getElem?_append_left hlt], hr⟩⟩
      · exact .inr ⟨by omega, fun cs hcs vs hr => ⟨cs, by rw [← hcs]; simp only [Cont.at?]; rw [List.getElem?_append_right (by omega)], hr⟩⟩
    · cases h
  · cases h
end Go.Ab
