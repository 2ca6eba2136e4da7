import Derived.Test.YtfaonncpagjmkaaAbAny
import Derived.Laws.CopyRow
import Derived.Laws.AppendOwn
set_option linter.unnecessarySimpa false
set_option linter.unusedVariables false
set_option linter.unusedSimpArgs false
namespace Go.Ab
open Go.RowKit

structure Grow (E : Env) (h : List (Option Cont)) (w : World) (E' : Env) (h' : List (Option Cont)) (w' : World) : Prop where
  ι : ∀ r x, E.ι r = some x → E'.ι r = some x
  stab : Stab E.I w E'.I w'
  len : ∀ r c, h.getD r none = some c → ∃ c', h'.getD r none = some c' ∧ c'.len = c.len
  blk : ∀ b arr ty, OwnB E b → w.heap[b]? = some (.cells arr ty (0, 0)) → ∃ arr', w'.heap[b]? = some (.cells arr' ty (0, 0)) ∧ arr'.size = arr.size

mutual
theorem grow_rep {E E' : Env} {h h' : List (Option Cont)} {w w' : World} (hx : Grow E h w E' h' w') : (c : AV) → {v : Value} → RepAV E h w c v → RepAV E' h' w' c v
  | .pv t x, v, h1 => by simp only [RepAV] at h1 ⊢; exact h1.mono hx.stab
  | .agg cs, v, h1 => by simp only [RepAV] at h1 ⊢; obtain ⟨vs, e, h2⟩ := h1; exact ⟨vs, e, grow_repL hx cs h2⟩
  | .tup cs, v, h1 => by simp only [RepAV] at h1 ⊢; obtain ⟨vs, e, h2⟩ := h1; exact ⟨vs, e, grow_repL hx cs h2⟩
  | .fn f cs, v, h1 => by simp only [RepAV] at h1 ⊢; obtain ⟨vs, e, h2⟩ := h1; exact ⟨vs, e, grow_repL hx cs h2⟩
  | .iptr t x off, v, h1 => by
    simp only [RepAV] at h1 ⊢; obtain ⟨b, o, cs, e, hI, h2, h3⟩ := h1
    exact ⟨b, o, cs, e, (hx.stab b hI).1, h2.mono hx.stab, cellsAt_of_block (hx.stab b hI).2 h3⟩
  | .nils, v, h1 | .nilp, v, h1 | .nilf, v, h1 | .nili, v, h1 => by simpa only [RepAV] using h1
  | .ptr r i o, v, h1 => by
    simp only [RepAV] at h1 ⊢; obtain ⟨b, o', sz, hι, e⟩ := h1
    exact ⟨b, o', sz, hx.ι r _ hι, e⟩
  | .junk, v, _ => by simp only [RepAV]
  | .own r rg, v, h1 => by
    simp only [RepAV, OwnRep] at h1 ⊢
    obtain ⟨c, hc, hle, h2⟩ := h1
    obtain ⟨c', hc', hl⟩ := hx.len r c hc
    refine ⟨c', hc', by rw [hl]; exact hle, ?_⟩
    rw [hl]
    refine h2.imp id ?_
    rintro ⟨b, o, sz, n, a, hι, hv, hn, ha, arr, ty, hb, hcap⟩
    obtain ⟨arr', hb', hs⟩ := hx.blk b arr ty ⟨r, o, sz, hι⟩ hb
    exact ⟨b, o, sz, n, a, hx.ι r _ hι, hv, hn, ha, arr', ty, hb', by rw [hs]; exact hcap⟩
theorem grow_repL {E E' : Env} {h h' : List (Option Cont)} {w w' : World} (hx : Grow E h w E' h' w') : (cs : List AV) → {vs : List Value} → RepL E h w cs vs → RepL E' h' w' cs vs
  | [], vs, h1 => by simpa only [RepL] using h1
  | c :: cs, vs, h1 => by
    simp only [RepL] at h1; obtain ⟨v, us, rfl, h2, h3⟩ := h1
    exact RepL.cons (grow_rep hx c h2) (grow_repL hx cs h3)
end

theorem RepT.grow {E E' : Env} {h h' : List (Option Cont)} {w w' : World} {t : List AV} {a : Array Value} (H : RepT E h w t a) (hx : Grow E h w E' h' w') : RepT E' h' w' t a :=
  ⟨H.1, fun i c hi => let ⟨v, h1, h2⟩ := H.2 i c hi; ⟨v, h1, grow_rep hx c h2⟩⟩

/-- What an operation does that makes or writes memory. -/
def ESem (P : Program) (s : St) (o : Oper) (v : AV) (s' : St) : Prop :=
  ∀ (I0 : Nat → Prop) (w0 : World) (E : Env) (w : World) (a : Act) (next : Act → World → Prop) (Q : Exit → Act → World → Prop), Inv I0 w0 E s.h w → RepT E s.h w s.t a.tmps →
    (∀ val E' w', Inv I0 w0 E' s'.h w' → RepT E' s'.h w' s'.t a.tmps → RepAV E' s'.h w' v val → next (a.put o.dst val) w') → o.wp P a w next Q

theorem ESem.of_q {P : Program} {s : St} {o : Oper} {v : AV} (h : QSem P s.t s.h o v) : ESem P s o v s := fun I0 w0 E w a next Q hI ht hk =>
  h I0 w0 E w a next Q hI (fun x _ => ht.eval x) fun val E' w' hI' hx hv => hk val E' w' hI' (ht.ext hx) hv

theorem getD_snoc {h : List (Option Cont)} {o : Option Cont} {r : Nat} : (h ++ [o]).getD r none = if r = h.length then o else h.getD r none := by
  rcases Nat.lt_trichotomy r h.length with hlt | rfl | hgt
  · rw [if_neg (by omega)]; simp [List.getD_eq_getElem?_getD, List.getElem?_append_left hlt]
  · simp [List.getD_eq_getElem?_getD]
  · rw [if_neg (by omega)]; simp [List.getD_eq_getElem?_getD, List.getElem?_eq_none (show (h ++ [o]).length ≤ r by simp; omega), List.getElem?_eq_none (show h.length ≤ r by omega)]

/-- A new object. -/
theorem inv_new {I0 : Nat → Prop} {w0 : World} {E : Env} {h : List (Option Cont)} {w : World} (H : Inv I0 w0 E h w) (c : Cont) (arr : Array Value) (ty : TypeId) (hfit : c.len * c.sz ≤ arr.size)
    (hels : ∀ i, i < c.len → ∃ cs vs, c.at? i = some cs ∧ vs.length = c.sz ∧ RepL E h w cs vs ∧ ∀ (j : Nat) (hj : j < vs.length), arr[i * c.sz + j]? = some vs[j]) :
    ∃ E', Inv I0 w0 E' (h ++ [some c]) (w.alloc (.cells arr ty (0, 0))) ∧ Grow E h w E' (h ++ [some c]) (w.alloc (.cells arr ty (0, 0))) ∧ E'.ι h.length = some (w.heap.size, 0, c.sz) := by
  let E' : Env := ⟨fun q => if q = h.length then some (w.heap.size, 0, c.sz) else E.ι q, E.I⟩
  have hold : ∀ b, b < w.heap.size → (w.alloc (.cells arr ty (0, 0))).heap[b]? = w.heap[b]? := fun b hb => Below.heap_alloc w _ b hb
  have hnew : (w.alloc (.cells arr ty (0, 0))).heap[w.heap.size]? = some (.cells arr ty (0, 0)) := by show (w.heap.push _)[w.heap.size]? = _; simp
  have hsize : (w.alloc (.cells arr ty (0, 0))).heap.size = w.heap.size + 1 := by show (w.heap.push _).size = _; simp
  have hne : ∀ q x, E.ι q = some x → q ≠ h.length := by
    rintro q x hq rfl
    rw [H.heap.fresh _ (Nat.le_refl _)] at hq; cases hq
  have hg : Grow E h w E' (h ++ [some c]) (w.alloc (.cells arr ty (0, 0))) := by
    refine ⟨fun q x hq => ?_, fun b hb => ⟨hb, hold b (H.heap.I_lt b hb)⟩, fun q c' hq => ⟨c', ?_, rfl⟩, fun b arr' ty' hb hh => ⟨arr', by rw [hold b (H.heap.own_lt b hb)]; exact hh, rfl⟩⟩
    · show (if q = h.length then _ else _) = _
      rw [if_neg (hne q x hq)]; exact hq
    · have := getD_obj hq
      rw [getD_snoc, if_neg (by omega)]; exact hq
  refine ⟨E', ⟨⟨?_, ?_, ?_, ?_, ?_, ?_, ?_, ?_⟩, ?_, ?_, H.I_sub, H.I_new⟩, hg, by show (if h.length = h.length then _ else _) = _; simp⟩
  · intro q c' hq
    rw [getD_snoc] at hq
    by_cases e : q = h.length
    · subst e
      simp only [if_true, Option.some.injEq] at hq; subst hq
      right
      refine ⟨w.heap.size, 0, arr, ty, by show (if h.length = h.length then _ else _) = _; simp, hnew, by omega, fun i hi => ?_⟩
      obtain ⟨cs, vs, h1, h2, h3, h4⟩ := hels i hi
      exact ⟨cs, vs, h1, h2, grow_repL hg cs h3, fun j hj => by rw [Nat.zero_add]; exact h4 j hj⟩
    · rw [if_neg e] at hq
      refine (H.heap.obj q c' hq).imp id ?_
      rintro ⟨b, o, arr', ty', hι, hb, hfit', hels'⟩
      refine ⟨b, o, arr', ty', hg.ι q _ hι, by rw [hold b (H.heap.own_lt b ⟨q, _, _, hι⟩)]; exact hb, hfit', fun i hi => ?_⟩
      obtain ⟨cs, vs, h1, h2, h3, h4⟩ := hels' i hi
      exact ⟨cs, vs, h1, h2, grow_repL hg cs h3, h4⟩
  · intro q c' b o s hq hι
    rw [getD_snoc] at hq
    change (if q = h.length then _ else _) = _ at hι
    by_cases e : q = h.length
    · rw [if_pos e] at hq hι
      obtain rfl : c = c' := by simpa using hq
      simp only [Option.some.injEq, Prod.mk.injEq] at hι; exact hι.2.2.symm
    · rw [if_neg e] at hq hι; exact H.heap.siz q c' b o s hq hι
  · intro q q' b o s o' s' h1 h2
    change (if q = h.length then _ else _) = _ at h1
    change (if q' = h.length then _ else _) = _ at h2
    by_cases e : q = h.length <;> by_cases e' : q' = h.length
    · rw [e, e']
    · rw [if_pos e] at h1; rw [if_neg e'] at h2
      simp only [Option.some.injEq, Prod.mk.injEq] at h1
      have := H.heap.own_lt b ⟨q', _, _, h2⟩; omega
    · rw [if_neg e] at h1; rw [if_pos e'] at h2
      simp only [Option.some.injEq, Prod.mk.injEq] at h2
      have := H.heap.own_lt b ⟨q, _, _, h1⟩; omega
    · rw [if_neg e] at h1; rw [if_neg e'] at h2; exact H.heap.inj q q' b o s o' s' h1 h2
  · intro q hq
    simp only [List.length_append, List.length_cons, List.length_nil] at hq
    show (if q = h.length then _ else _) = _
    rw [if_neg (by omega)]; exact H.heap.fresh q (by omega)
  · intro q b o s h1
    change (if q = h.length then _ else _) = _ at h1
    split at h1
    · simp only [Option.some.injEq, Prod.mk.injEq] at h1; exact h1.2.1.symm
    · exact H.heap.base q b o s h1
  · intro b hb; rw [hsize]; have := H.heap.I_lt b hb; omega
  · rintro b ⟨q, o, s, h1⟩
    change (if q = h.length then _ else _) = _ at h1
    rw [hsize]
    split at h1
    · simp only [Option.some.injEq, Prod.mk.injEq] at h1; omega
    · have := H.heap.own_lt b ⟨q, o, s, h1⟩; omega
  · rintro b ⟨q, o, s, h1⟩ hI
    change (if q = h.length then _ else _) = _ at h1
    split at h1
    · simp only [Option.some.injEq, Prod.mk.injEq] at h1
      have := H.heap.I_lt b hI; omega
    · exact H.heap.apart b ⟨q, o, s, h1⟩ hI
  · exact H.below.alloc H.below.size _
  · rintro b ⟨q, o, s, h1⟩
    change (if q = h.length then _ else _) = _ at h1
    split at h1
    · simp only [Option.some.injEq, Prod.mk.injEq] at h1; have := H.below.size; omega
    · exact H.own_new b ⟨q, o, s, h1⟩

/-- A new object without elements that has no block. -/
theorem inv_none {I0 : Nat → Prop} {w0 : World} {E : Env} {h : List (Option Cont)} {w : World} (H : Inv I0 w0 E h w) (c : Cont) (hc : c.len = 0) : Inv I0 w0 E (h ++ [some c]) w ∧ Grow E h w E (h ++ [some c]) w := by
  have hg : Grow E h w E (h ++ [some c]) w := ⟨fun _ _ h => h, fun b hb => ⟨hb, rfl⟩, fun q c' hq => ⟨c', by have := getD_obj hq; rw [getD_snoc, if_neg (by omega)]; exact hq, rfl⟩, fun b arr ty _ hh => ⟨arr, hh, rfl⟩⟩
  refine ⟨⟨⟨?_, ?_, H.heap.inj, ?_, H.heap.base, H.heap.I_lt, H.heap.own_lt, H.heap.apart⟩, H.below, H.own_new, H.I_sub, H.I_new⟩, hg⟩
  · intro q c' hq
    rw [getD_snoc] at hq
    split at hq
    · obtain rfl : c = c' := by simpa using hq
      exact .inl hc
    · refine (H.heap.obj q c' hq).imp id ?_
      rintro ⟨b, o, arr', ty', hι, hb, hfit', hels'⟩
      exact ⟨b, o, arr', ty', hι, hb, hfit', fun i hi => let ⟨cs, vs, h1, h2, h3, h4⟩ := hels' i hi; ⟨cs, vs, h1, h2, grow_repL hg cs h3, h4⟩⟩
  · intro q c' b o s hq hι
    rw [getD_snoc] at hq
    split at hq
    · rename_i e; subst e; rw [H.heap.fresh _ (Nat.le_refl _)] at hι; cases hι
    · exact H.heap.siz q c' b o s hq hι
  · intro q hq
    simp only [List.length_append, List.length_cons, List.length_nil] at hq
    exact H.heap.fresh q (by omega)

section
variable {P : Program} {C : Cfg} (HC : CfgOK P C)

/-- A box: one element. -/
theorem box_new {I0 : Nat → Prop} {w0 : World} {E : Env} {h : List (Option Cont)} {w : World} (H : Inv I0 w0 E h w) {cs : List AV} {vs : List Value} (hr : RepL E h w cs vs) (ty : TypeId) :
    ∃ E', Inv I0 w0 E' (h ++ [some (.cells cs.length [cs])]) (w.alloc (.cells vs.toArray ty (0, 0))) ∧ Grow E h w E' (h ++ [some (.cells cs.length [cs])]) (w.alloc (.cells vs.toArray ty (0, 0))) ∧
      RepAV E' (h ++ [some (.cells cs.length [cs])]) (w.alloc (.cells vs.toArray ty (0, 0))) (.ptr h.length 0 0) (.pointer (some ⟨w.heap.size, 0, none⟩)) := by
  have hl := hr.length
  obtain ⟨E', h1, h2, h3⟩ := inv_new H (.cells cs.length [cs]) vs.toArray ty (by simp [Cont.len, Cont.sz, hl]) (fun i hi => by
    have : i = 0 := by simpa [Cont.len] using hi
    subst this
    exact ⟨cs, vs, rfl, by simp [Cont.sz, hl], hr, fun j hj => by simp [hj]⟩)
  refine ⟨E', h1, h2, ?_⟩
  simp only [RepAV]
  exact ⟨_, _, _, h3, by simp⟩

theorem box_sem {R : Type} {s : St} {o : Oper} {t : TypeId} {x : Operand} {K : AV → St → Option R} {r : R} (ho : o.op = .box t x) (h : vopE C s o K = some r) : ∃ v s', K v s' = some r ∧ ESem P s o v s' := by
  unfold vopE at h; simp only [ho] at h
  split at h
  · rename_i i hi
    split at h
    · rename_i hc
      refine ⟨_, _, h, fun I0 w0 E w a next Q hI ht hk => ?_⟩
      obtain ⟨hr, _⟩ := cells_rep hc.1 (ht.eval x)
      obtain ⟨E', h1, h2, h3⟩ := box_new hI hr t
      rw [hc.2] at h1 h2 h3
      unfold Oper.wp
      have : (execOp a.eval o).run P w = .ok (.value (.pointer (some ⟨w.heap.size, 0, none⟩))) (w.alloc (.cells (a.eval x).cells.toList.toArray t (0, 0))) := by
        simp only [execOp, ho, Instr.box, newVar, newRow, Sem.run_bind, run_newObj, Result.andThen_ok, Sem.run_pure, Array.toArray_toList]; rfl
      rw [this]
      exact hk _ E' _ h1 (ht.grow h2) h3
    · cases h
  · cases h

include HC in
theorem alloc_sem {R : Type} {s : St} {o : Oper} {t : TypeId} {K : AV → St → Option R} {r : R} (ho : o.op = .alloc t) (h : vopE C s o K = some r) : ∃ v s', K v s' = some r ∧ ESem P s o v s' := by
  unfold vopE at h; simp only [ho] at h
  split at h
  · rename_i i hi
    obtain ⟨inf, d, hinf, hund, hsize, hu, ⟨zv, hz1, hz2, hz3⟩, _⟩ := HC.ti t i hi
    refine ⟨_, _, h, fun I0 w0 E w a next Q hI ht hk => ?_⟩
    have hzero : RepL E s.h w i.zero zv.cells.toList := by
      rw [hz2]
      exact RepL.of (by simp) (fun j h1 h2 => by simpa using rep_const _)
    obtain ⟨E', h1, h2, h3⟩ := box_new hI hzero t
    have hl := hzero.length
    have hls : i.zero.length = i.size := by rw [hl]; simpa using hz3
    rw [hls] at h1 h2 h3
    unfold Oper.wp
    have : (execOp a.eval o).run P w = .ok (.value (.pointer (some ⟨w.heap.size, 0, none⟩))) (w.alloc (.cells zv.cells.toList.toArray t (0, 0))) := by
      simp only [execOp, ho, Instr.alloc, zeroValue, typeInfo, newVar, newRow, Sem.run_bind, run_program, hinf, hz1, run_newObj, Result.andThen_ok, Sem.run_pure, Array.toArray_toList]; rfl
    rw [this]
    exact hk _ E' _ h1 (ht.grow h2) h3
  · cases h

theorem pack_flat (t : Ty) : ∀ (cs : List AV) (x : den t) (rest : List AV), packC [] t cs = some (x, rest) → ∀ {E : Env} {h : List (Option Cont)} {w : World} {vs : List Value}, RepL E h w cs vs → ∃ us ws, vs = us ++ ws ∧ RepC E.I w t x us ∧ RepL E h w rest ws :=
  fun cs x rest hp {E h w vs} hr => (pack_spec (J := E.I) (fun b hb => hb) (.inl rfl) t).1 cs x rest vs hp hr

theorem packEs_spec {t : Ty} : (es : List (List AV)) → {xs : List (den t)} → packEs t es = some xs → xs.length = es.length ∧ ∀ (i : Nat) (h1 : i < xs.length) (h2 : i < es.length), packC [] t es[i] = some (xs[i], [])
  | [], xs, h => by simp [packEs] at h; subst h; exact ⟨rfl, fun i h1 => by simp at h1⟩
  | e :: es, xs, h => by
    unfold packEs at h
    split at h
    · rename_i x hx
      obtain ⟨ys, h1, rfl⟩ := Option.map_eq_some_iff.1 h
      obtain ⟨hl, h2⟩ := packEs_spec es h1
      refine ⟨by simp [hl], fun i h3 h4 => ?_⟩
      cases i with
      | zero => exact hx
      | succ i => exact h2 i (by simpa using h3) (by simpa using h4)
    · cases h

/-- Elements told cell by cell are told as an object's. -/
theorem mkCont_spec {i : TI} {es : List (List AV)} (hes : ∀ e ∈ es, e.length = i.size) {E : Env} {h : List (Option Cont)} {w : World} {vss : List (List Value)} (hl : es.length = vss.length) (hr : ∀ (k : Nat) (h1 : k < es.length) (h2 : k < vss.length), RepL E h w es[k] vss[k]) :
    (mkCont i es).len = es.length ∧ (mkCont i es).sz = i.size ∧ ∀ k, k < es.length → ∃ cs vs, (mkCont i es).at? k = some cs ∧ vss[k]? = some vs ∧ vs.length = i.size ∧ RepL E h w cs vs := by
  have hplain : ∀ k, k < es.length → ∃ cs vs, (Cont.cells i.size es).at? k = some cs ∧ vss[k]? = some vs ∧ vs.length = i.size ∧ RepL E h w cs vs := fun k hk => by
    have h2 : k < vss.length := by omega
    exact ⟨es[k], vss[k], by simp [Cont.at?, hk], by simp [h2], by rw [← (hr k hk h2).length]; exact hes _ (List.getElem_mem _), hr k hk h2⟩
  unfold mkCont
  split
  · rename_i t ht
    split
    case isFalse => exact ⟨rfl, rfl, hplain⟩
    rename_i hts
    split
    · rename_i xs hxs
      obtain ⟨hxl, hx⟩ := packEs_spec es hxs
      refine ⟨hxl, hts, fun k hk => ?_⟩
      have h1 : k < xs.length := by omega
      have h2 : k < vss.length := by omega
      obtain ⟨us, ws, e, h3, h4⟩ := pack_flat t _ _ _ (hx k h1 hk) (hr k hk h2)
      simp only [RepL] at h4; subst h4
      refine ⟨flat t xs[k], vss[k], by simp [Cont.at?, h1], by simp [h2], ?_, ?_⟩
      · rw [← (hr k hk h2).length]; exact hes _ (List.getElem_mem _)
      · rw [e, List.append_nil]; exact rep_flat t h3
    · exact ⟨rfl, rfl, hplain⟩
  · exact ⟨rfl, rfl, hplain⟩
end
end Go.Ab
