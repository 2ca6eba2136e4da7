import Derived.Test.YthjochcbdhiclaaGreatAbAny
import Derived.Test.YthjochcbdhiclaaGreatAbClr
set_option linter.unnecessarySimpa false
set_option linter.unusedVariables false
set_option linter.unusedSimpArgs false
namespace Go.Ab
open Go.RowKit
section
variable {P : Program} {C : Cfg} (HC : CfgOK P C)
include HC in
theorem vopE_sem {R : Type} {base : Nat} {s : St} {o : Oper} {K : AV → Delta → Option R} {r : R} (h : vopE C base s o K = some r) : ∃ v δ, K v δ = some r ∧ ∀ hp, SubH s.h hp → (∀ j, j < slots C o → hp.getD (base + j) none = none) → ESem P s.t hp o v δ := by
  have other : vopQ C s o (fun v => K v []) = some r → ∃ v δ, K v δ = some r ∧ ∀ hp, SubH s.h hp → (∀ j, j < slots C o → hp.getD (base + j) none = none) → ESem P s.t hp o v δ := fun hq =>
    let ⟨v, h1, h2⟩ := vopQ_sem HC.tab hq
    ⟨v, [], h1, fun hp hs _ => ESem.of_q (h2 hp hs)⟩
  cases ho : o.op with
  | box t x => exact box_sem ho h
  | alloc t => exact alloc_sem HC.tab ho h
  | buildSlice t n ps => exact buildSlice_sem HC.tab ho h
  | makeSlice t l c => exact makeSlice_sem HC.tab ho h
  | store t x y => exact store_sem HC.tab ho h
  | call c =>
    obtain ⟨cal, args, ats⟩ := c
    cases cal with
    | builtin b =>
      cases b with
      | append => exact append_sem HC.tab ho h
      | clear => exact clear_sem HC.tab ho h
      | copy => exact copy_sem HC.tab ho h
      | _ => unfold vopE at h; simp only [ho] at h; exact other h
    | _ => unfold vopE at h; simp only [ho] at h; exact other h
  | _ => unfold vopE at h; simp only [ho] at h; exact other h
include HC in
theorem vopA_sem {R : Type} {base : Nat} {s : St} {o : Oper} {K : AV → Delta → Option R} {r : R} (h : vopA C base s o K = some r) : ∃ v δ, K v δ = some r ∧ VSem P s.t s.h base (slotsA C o) o v δ := by
  have other : vopE C base s o K = some r → slotsA C o = slots C o → ∃ v δ, K v δ = some r ∧ VSem P s.t s.h base (slotsA C o) o v δ := fun hq e => by
    obtain ⟨v, δ, h1, h2⟩ := vopE_sem HC hq
    exact ⟨v, δ, h1, fun hp hs hf => h2 hp hs (fun j hj => hf j (by rw [e]; exact hj))⟩
  unfold vopA at h
  cases ho : o.op with
  | call c =>
    simp only [ho] at h
    cases hc : c.callee with
    | value fo =>
      simp only [hc] at h
      split at h
      · rename_i f cap hcal
        obtain ⟨v, δ, h1, h2⟩ := call_sem HC.ents ho hc hcal h
        exact ⟨v, δ, h1, h2⟩
      · cases h
    | builtin b => simp only [hc] at h; exact other h (by unfold slotsA; simp only [ho, hc])
    | invoke x m => simp only [hc] at h; exact other h (by unfold slotsA; simp only [ho, hc])
  | _ => simp only [ho] at h; exact other h (by unfold slotsA; simp only [ho])
def boolOf : Value → Option Bool
  | .bool b => some b
  | _ => none
theorem wanted_of {o : Oper} {ops : Array Oper} {j : Nat} {want : Bool} (hg : o.guard = some (j, want)) {d : Tmp} (hd : (ops[j]?).bind (·.dst) = some d) {a : Act} {u : Value} (hu : a.tmps.getD d undef = u) :
    Region.wanted o (yielded ops a.tmps) = (boolOf u == some want) := by
  unfold Region.wanted
  rw [hg]
  simp only
  congr 1
  unfold yielded
  rw [hd]
  simp only [Option.bind_some]
  cases e : a.tmps[d]? with
  | none => simp [e, undef] at hu; subst hu; rfl
  | some x => simp [e] at hu; subst hu; cases x <;> rfl
theorem set_same {T : List AV} {d : Nat} {v : AV} (h : T.getD d .junk = v) (hv : v ≠ .junk) : T.set d v = T := by
  rw [List.getD_eq_getElem?_getD] at h
  cases e : T[d]? with
  | none => rw [e] at h; exact absurd h.symm hv
  | some x =>
    rw [e] at h
    obtain rfl : x = v := h
    apply List.ext_getElem?
    intro i
    by_cases hi : d = i
    · subst hi; rw [e, List.getElem?_set_self (List.getElem?_eq_some_iff.1 e).1]
    · rw [List.getElem?_set_ne hi]
include HC in
theorem vopsS_sem {R : Type} {all : Array Oper} {r : R} {F : Fr} {Q : Exit → Act → World → Prop} : (l : List Oper) → {s : St} → {K : St → Option R} → vopsS C all l s K = some r →
    {E : Env} → {w : World} → {a : Act} → Inv F E s.h w → RepT E s.h w s.t a.tmps →
    (∀ s' E' a' w', K s' = some r → Inv F E' s'.h w' → RepT E' s'.h w' s'.t a'.tmps → a'.defers = a.defers → Q .normal a' w') → wpList P all Q l a w
  | [], s, K, h, E, w, a, hI, ht, hQ => hQ s E a w (by simpa only [vopsS] using h) hI ht rfl
  | o :: l, s, K, h, E, w, a, hI, ht, hQ => by
    have hput : ∀ v, (a.put o.dst v).defers = a.defers := fun v => by cases o.dst <;> rfl
    have go : (vopA C s.h.length ⟨s.t, s.h⟩ o fun v δ => vopsS C all l ⟨put s.t o.dst v, apD s.h δ⟩ K) = some r → Region.wanted o (yielded all a.tmps) = true → wpList P all Q (o :: l) a w := by
      intro h hw
      obtain ⟨v, δ, hK, hs0⟩ := vopA_sem HC h
      have hs := hs0 s.h (SubH.refl _) (fun j hj => getD_ge (by omega))
      unfold wpList
      rw [if_pos hw]
      refine .inl (hs F E w a _ Q hI (fun x _ => ht.eval x) fun val E' w' hI' hx' hv' => ?_)
      refine vopsS_sem l hK hI' ((ht.keep hx').put o.dst hv') fun s'' E'' a'' w'' h1 h2 h3 h4 => hQ s'' E'' a'' w'' h1 h2 h3 (by rw [h4, hput])
    have skip : vopsS C all l ⟨put s.t o.dst .undef, s.h⟩ K = some r → Region.wanted o (yielded all a.tmps) = false → wpList P all Q (o :: l) a w := by
      intro h hw
      unfold wpList
      rw [if_neg (by simp [hw])]
      exact vopsS_sem l h hI (ht.put o.dst (by simp only [RepAV]; exact ⟨[], rfl, RepL.nil⟩)) fun s'' E'' a'' w'' h1 h2 h3 h4 => hQ s'' E'' a'' w'' h1 h2 h3 (by rw [h4, hput])
    unfold vopsS at h
    split at h
    · rename_i hg
      exact go h (by simp [Region.wanted, hg])
    · rename_i j want hg
      split at h
      · cases h
      · rename_i d hd
        have hval : RepAV E s.h w (s.t.getD d .junk) (a.tmps.getD d undef) := ht.eval (.tmp d)
        split at h
        · rename_i t ht'
          have hsame : s.t.set d (.pv .bool t) = s.t := set_same ht' (by simp)
          rw [ht'] at hval
          have hw := wanted_of hg hd (rep_bool hval)
          simp only [boolOf] at hw
          split at h
          · rw [hsame] at h
            split at h
            · rename_i e; subst e; exact go h (by rw [hw]; rfl)
            · rename_i e; exact skip h (by rw [hw]; cases want <;> simp_all)
          · rw [hsame] at h
            split at h
            · rename_i e; subst e; exact go h (by rw [hw]; rfl)
            · rename_i e; exact skip h (by rw [hw]; cases want <;> simp_all)
        · rename_i ht'
          rw [ht'] at hval
          simp only [RepAV] at hval
          obtain ⟨vs, hu, hnil⟩ := hval
          have hw := wanted_of hg hd hu
          exact skip h (by rw [hw]; rfl)
        · cases h
theorem lexT_append {ops : Array Oper} {T0 vals ws : List AV} : ∀ {j : Nat}, j ≤ vals.length → lexT ops T0 (vals ++ ws) j = lexT ops T0 vals j
  | 0, _ => rfl
  | j + 1, h => by
    simp only [lexT]
    rw [lexT_append (by omega), List.getElem?_append_left (by omega)]
theorem heapAt_append {h0 : Heap} {dels ds : List Delta} : ∀ {j : Nat}, j ≤ dels.length → heapAt h0 (dels ++ ds) j = heapAt h0 dels j
  | 0, _ => rfl
  | j + 1, h => by
    simp only [heapAt]
    rw [heapAt_append (by omega), List.getElem?_append_left (by omega)]
theorem tch_append {dels ds : List Delta} {k r : Nat} (hk : k < dels.length) : tch (dels ++ ds) k r ↔ tch dels k r := by
  unfold tch; rw [List.getElem?_append_left hk]
theorem tch_last {dels : List Delta} {δ : Delta} {r : Nat} : tch (dels ++ [δ]) dels.length r ↔ r ∈ touched δ := by
  unfold tch; simp
theorem tch_lt {dels : List Delta} {k r : Nat} (h : tch dels k r) : k < dels.length := by
  obtain ⟨δ, h1, _⟩ := h; exact (List.getElem?_eq_some_iff.1 h1).1
theorem unseen_spec {ms : List Nat} {i : Nat} : (tr : List Tr) → (k0 : Nat) → ∀ k a r, tr[k]? = some a → r ∈ a.t → r ∉ unseen ms i tr k0 → ord ms (k0 + k) i = true
  | [], k0, k, a, r, h, _, _ => by simp at h
  | b :: tr, k0, k, a, r, h, hr, hn => by
    unfold unseen at hn
    cases k with
    | zero =>
      simp at h; subst h
      split at hn
      · assumption
      · exact absurd (List.mem_append_left _ hr) hn
    | succ k =>
      have := unseen_spec tr (k0 + 1) k a r (by simpa using h) hr (by
        split at hn
        · exact hn
        · exact fun h1 => hn (List.mem_append_right _ h1))
      rw [show k0 + (k + 1) = k0 + 1 + k by omega]; exact this
theorem allApart_spec {ms : List Nat} {i : Nat} {t : List Nat} : (tr : List Tr) → (k0 : Nat) → allApart ms i t tr k0 = true → ∀ k a, tr[k]? = some a → ∀ r ∈ t, ord ms (k0 + k) i = true ∨ apartB a r = true
  | [], k0, _, k, a, h, _, _ => by simp at h
  | b :: tr, k0, hb, k, a, h, r, hr => by
    unfold allApart at hb
    rw [Bool.and_eq_true, Bool.or_eq_true] at hb
    cases k with
    | zero =>
      simp at h; subst h
      exact hb.1.imp id fun h1 => List.all_eq_true.1 h1 r hr
    | succ k =>
      rw [show k0 + (k + 1) = k0 + 1 + k by omega]
      exact allApart_spec tr (k0 + 1) hb.2 k a (by simpa using h) r hr
theorem apartB_spec {a : Tr} {r : Nat} (h : apartB a r = true) : a.vis.getD r none = none ∧ r ∉ a.t ∧ ¬ (a.base ≤ r ∧ r < a.base + a.cnt) := by
  unfold apartB at h
  rw [Bool.and_eq_true, Bool.and_eq_true] at h
  obtain ⟨⟨h1, h2⟩, h3⟩ := h
  refine ⟨?_, by simpa using h2, ?_⟩
  · split at h1
    · rename_i e; exact e
    · cases h1
  · rintro ⟨h4, h5⟩
    have e1 : Nat.ble a.base r = true := Nat.ble_eq_true_of_le h4
    have e2 : Nat.blt r (a.base + a.cnt) = true := Nat.ble_eq_true_of_le h5
    rw [e1, e2] at h3; cases h3
structure Part (P : Program) (ops : Array Oper) (h0 : Heap) (T0 vals : List AV) (dels : List Delta) (trs : List Tr) : Prop where
  ld : dels.length = vals.length
  lt : trs.length = vals.length
  ok : TrOK ops h0 dels trs
  tt : ∀ k a, trs[k]? = some a → ∀ r, tch dels k r → r ∈ a.t
  steps : ∀ (j : Nat) (o : Oper) (v : AV) (δ : Delta) (tr : Tr), ops[j]? = some o → vals[j]? = some v → dels[j]? = some δ → trs[j]? = some tr → OStep P ops (lexT ops T0 vals j) tr.vis tr.base tr.cnt o v δ
theorem Part.add {ops : Array Oper} {h0 : Heap} {T0 vals : List AV} {dels : List Delta} {trs : List Tr} (A : Part P ops h0 T0 vals dels trs) {o : Oper} (ho : ops[vals.length]? = some o) {v : AV} {δ : Delta} {tr : Tr} (htr : ∀ r, r ∈ touched δ → r ∈ tr.t)
    (hstep : OStep P ops (lexT ops T0 vals vals.length) tr.vis tr.base tr.cnt o v δ)
    (hvis : ∀ r c, tr.vis.getD r none = some c → (heapAt h0 dels vals.length).getD r none = some c ∧ ∀ k, k < vals.length → tch dels k r → Anc ops k vals.length)
    (hap : ∀ k a r, k < vals.length → trs[k]? = some a → r ∈ touched δ → Anc ops k vals.length ∨ (a.vis.getD r none = none ∧ r ∉ a.t ∧ ¬ (a.base ≤ r ∧ r < a.base + a.cnt)))
    (hfree : ∀ j, j < tr.cnt → (heapAt h0 dels vals.length).getD (tr.base + j) none = none) : Part P ops h0 T0 (vals ++ [v]) (dels ++ [δ]) (trs ++ [tr]) := by
  have hld := A.ld
  have hlt := A.lt
  have split : ∀ {k : Nat} {a : Tr}, (trs ++ [tr])[k]? = some a → (k < vals.length ∧ trs[k]? = some a) ∨ (k = vals.length ∧ a = tr) := by
    intro k a h
    rcases Nat.lt_trichotomy k vals.length with h1 | h1 | h1
    · left; rw [List.getElem?_append_left (by omega)] at h; exact ⟨h1, h⟩
    · right; subst h1; rw [← hlt, List.getElem?_concat_length] at h; exact ⟨rfl, by simpa using h.symm⟩
    · rw [List.getElem?_eq_none (by simp; omega)] at h; cases h
  refine ⟨by simp [hld], by simp [hlt], ⟨fun i a h r c hc => ?_, fun i k a r hki h ht => ?_, fun i a h j hj => ?_⟩, fun k a h r ht => ?_, fun j o' v' δ' tr' ho' hv' hδ' htr' => ?_⟩
  · rcases split h with ⟨h1, h2⟩ | ⟨rfl, rfl⟩
    · obtain ⟨g1, g2⟩ := A.ok.vis i a h2 r c hc
      exact ⟨by rw [heapAt_append (by omega)]; exact g1, fun k hk ht => g2 k hk ((tch_append (by omega)).1 ht)⟩
    · obtain ⟨g1, g2⟩ := hvis r c hc
      exact ⟨by rw [heapAt_append (by omega)]; exact g1, fun k hk ht => g2 k hk ((tch_append (by omega)).1 ht)⟩
  · have hi := tch_lt ht
    simp only [List.length_append, List.length_cons, List.length_nil] at hi
    have hk : k < vals.length := by omega
    rcases split h with ⟨_, h2⟩ | ⟨h1, _⟩
    · by_cases hiv : i < vals.length
      · rcases A.ok.apart i k a r hki h2 ((tch_append (by omega)).1 ht) with h3 | ⟨h3, h4, h5⟩
        · exact .inl h3
        · exact .inr ⟨h3, fun h6 => h4 ((tch_append (by omega)).1 h6), h5⟩
      · obtain rfl : i = dels.length := by omega
        have ht := tch_last.1 ht
        rw [hld]
        rcases hap k a r hk h2 ht with h3 | ⟨h3, h4, h5⟩
        · exact .inl h3
        · exact .inr ⟨h3, fun h6 => h4 (A.tt k a h2 r ((tch_append (by omega)).1 h6)), h5⟩
    · omega
  · rcases split h with ⟨h1, h2⟩ | ⟨rfl, rfl⟩
    · rw [heapAt_append (by omega)]; exact A.ok.free i a h2 j hj
    · rw [heapAt_append (by omega)]; exact hfree j hj
  · rcases split h with ⟨h1, h2⟩ | ⟨rfl, rfl⟩
    · exact A.tt k a h2 r ((tch_append (by omega)).1 ht)
    · rw [← hld] at ht; exact htr r (tch_last.1 ht)
  · have hj : j ≤ vals.length := by
      have := (List.getElem?_eq_some_iff.1 hv').1; simp at this; omega
    rw [lexT_append hj]
    rcases split htr' with ⟨h1, h2⟩ | ⟨rfl, rfl⟩
    · rw [List.getElem?_append_left (by omega)] at hv' hδ'
      exact A.steps j o' v' δ' tr' ho' hv' hδ' h2
    · rw [List.getElem?_concat_length] at hv'
      rw [← hld, List.getElem?_concat_length] at hδ'
      rw [ho] at ho'
      obtain rfl : o = o' := by simpa using ho'
      obtain rfl : v = v' := by simpa using hv'
      obtain rfl : δ = δ' := by simpa using hδ'
      exact hstep
include HC in
theorem vopsD_trace {R : Type} {id : Nat} {ops : Array Oper} {r : R} {h0 : Heap} {T0 : List AV} : (l : List Oper) → {vals : List AV} → {dels : List Delta} → {trs : List Tr} → Part P ops h0 T0 vals dels trs → (∀ i o, l[i]? = some o → ops[vals.length + i]? = some o) → ops.size = vals.length + l.length → {base : Nat} → {K : St → Option R} →
    vopsD C id (masks ops.toList []) ops l trs base ⟨lexT ops T0 vals vals.length, heapAt h0 dels vals.length⟩ K = some r →
    ∃ vals dels trs, Part P ops h0 T0 vals dels trs ∧ vals.length = ops.size ∧ K ⟨lexT ops T0 vals ops.size, heapAt h0 dels ops.size⟩ = some r
  | [], vals, dels, trs, A, hl, hsz, base, K, h => ⟨vals, dels, trs, A, by simpa using hsz.symm, by rw [show ops.size = vals.length by simpa using hsz]; simpa only [vopsD] using h⟩
  | o :: l, vals, dels, trs, A, hl, hsz, base, K, h => by
    have ho : ops[vals.length]? = some o := by have := hl 0 o (by simp); simpa using this
    have hanc : ∀ k i, ord (masks ops.toList []) k i = true → Anc ops k i := fun k i hk => masks_spec ops.toList [] (fun i hi => absurd hi (Nat.not_lt_zero _)) (fun i o ho => by simpa using ho) i k hk
    have next : ∀ {v : AV} {δ : Delta} {tr : Tr} {base' : Nat} {hh : Heap}, Part P ops h0 T0 (vals ++ [v]) (dels ++ [δ]) (trs ++ [tr]) → hh = apD (heapAt h0 dels vals.length) δ → vopsD C id (masks ops.toList []) ops l (trs ++ [tr]) base' ⟨put (lexT ops T0 vals vals.length) o.dst v, hh⟩ K = some r →
        ∃ vals dels trs, Part P ops h0 T0 vals dels trs ∧ vals.length = ops.size ∧ K ⟨lexT ops T0 vals ops.size, heapAt h0 dels ops.size⟩ = some r := by
      rintro v δ tr base' hh A' rfl h'
      have e1 : lexT ops T0 (vals ++ [v]) (vals ++ [v]).length = put (lexT ops T0 vals vals.length) o.dst v := by
        rw [List.length_append, List.length_cons, List.length_nil]
        simp only [Nat.zero_add, lexT, ho, List.getElem?_concat_length]
        rw [lexT_append (Nat.le_refl _)]
      have e2 : heapAt h0 (dels ++ [δ]) (vals ++ [v]).length = apD (heapAt h0 dels vals.length) δ := by
        rw [List.length_append, List.length_cons, List.length_nil]
        simp only [Nat.zero_add, heapAt]
        rw [← A.ld, List.getElem?_concat_length]
        simp only
        rw [heapAt_append (Nat.le_refl _)]
      refine vopsD_trace l A' (fun i o' ho' => ?_) (by simp only [List.length_append, List.length_cons, List.length_nil] at hsz ⊢; omega) (base := base') (K := K) (by rw [e1, e2]; exact h')
      have := hl (i + 1) o' (by simpa using ho')
      rw [List.length_append, List.length_cons, List.length_nil, show vals.length + (0 + 1) + i = vals.length + (i + 1) by omega]; exact this
    unfold vopsD at h
    have go : (if Nat.ble (heapAt h0 dels vals.length).length base = true then vopA C base ⟨lexT ops T0 vals vals.length, hideH (heapAt h0 dels vals.length) (hidOf C id trs.length ++ unseen (masks ops.toList []) trs.length trs 0)⟩ o fun v δ =>
        if allApart (masks ops.toList []) trs.length (touched δ) trs 0 = true then vopsD C id (masks ops.toList []) ops l (trs ++ [⟨hideH (heapAt h0 dels vals.length) (hidOf C id trs.length ++ unseen (masks ops.toList []) trs.length trs 0), base, slotsA C o, touched δ⟩]) (base + slotsA C o) ⟨put (lexT ops T0 vals vals.length) o.dst v, apD (heapAt h0 dels vals.length) δ⟩ K else none
      else none) = some r → (∀ v δ vis, VSem P (lexT ops T0 vals vals.length) vis base (slotsA C o) o v δ → OStep P ops (lexT ops T0 vals vals.length) vis base (slotsA C o) o v δ) → ∃ vals dels trs, Part P ops h0 T0 vals dels trs ∧ vals.length = ops.size ∧ K ⟨lexT ops T0 vals ops.size, heapAt h0 dels ops.size⟩ = some r := by
      intro h hos
      split at h
      case isFalse => cases h
      rename_i hbase
      have hbase := Nat.le_of_ble_eq_true hbase
      obtain ⟨v, δ, h1, h2⟩ := vopA_sem HC h
      split at h1
      case isFalse => cases h1
      rename_i hall
      refine next (A.add ho (fun r hr => hr) (hos v δ _ h2) (fun r c hc => ?_) (fun k a r hk ha hr => ?_) (fun j hj => getD_ge (Nat.le_trans hbase (Nat.le_add_right _ _)))) rfl h1
      · rw [getD_hideH] at hc
        split at hc
        · cases hc
        · rename_i hn
          refine ⟨hc, fun k hk ht => hanc k _ ?_⟩
          obtain ⟨a, ha⟩ : ∃ a, trs[k]? = some a := ⟨trs[k]'(by rw [A.lt]; exact hk), by simp [A.lt, hk]⟩
          have := unseen_spec trs 0 k a r ha (A.tt k a ha r ht) (fun h3 => hn (List.mem_append_right _ h3))
          rw [Nat.zero_add, A.lt] at this; exact this
      · rcases allApart_spec trs 0 hall k a ha r hr with h3 | h3
        · rw [Nat.zero_add, A.lt] at h3; exact .inl (hanc k _ h3)
        · exact .inr (apartB_spec h3)
    have skip : vopsD C id (masks ops.toList []) ops l (trs ++ [⟨[], 0, 0, []⟩]) base ⟨put (lexT ops T0 vals vals.length) o.dst .undef, heapAt h0 dels vals.length⟩ K = some r → OStep P ops (lexT ops T0 vals vals.length) [] 0 0 o .undef [] → ∃ vals dels trs, Part P ops h0 T0 vals dels trs ∧ vals.length = ops.size ∧ K ⟨lexT ops T0 vals ops.size, heapAt h0 dels ops.size⟩ = some r := by
      intro h hos
      exact next (A.add (v := .undef) (δ := []) (tr := ⟨[], 0, 0, []⟩) ho (fun r hr => by simp [touched] at hr) hos (fun r c hc => by simp at hc) (fun k a r hk ha hr => by simp [touched] at hr) (fun j hj => absurd hj (Nat.not_lt_zero _))) rfl h
    dsimp only at h
    cases hg : o.guard with
    | none =>
      rw [hg] at h
      exact go h fun v δ vis hv => by unfold OStep; rw [hg]; exact hv
    | some gw =>
      obtain ⟨j, want⟩ := gw
      rw [hg] at h
      dsimp only at h
      cases hd : (ops[j]?).bind (·.dst) with
      | none => rw [hd] at h; cases h
      | some d =>
        rw [hd] at h
        dsimp only at h
        have skip2 : (∃ b, (lexT ops T0 vals vals.length).getD d .junk = .pv .bool b ∧ b ≠ want) ∨ (lexT ops T0 vals vals.length).getD d .junk = .undef → OStep P ops (lexT ops T0 vals vals.length) [] 0 0 o .undef [] := by
          intro h1
          unfold OStep; rw [hg]
          refine ⟨d, hd, ?_⟩
          rcases h1 with ⟨b, h1, h2⟩ | h1
          · exact .inl ⟨b, h1, .inr ⟨h2, rfl, rfl⟩⟩
          · exact .inr ⟨h1, rfl, rfl⟩
        generalize hv : (lexT ops T0 vals vals.length).getD d .junk = gv at h
        have go2 : ∀ b, gv = .pv .bool b → b = want → ∀ v δ vis, VSem P (lexT ops T0 vals vals.length) vis base (slotsA C o) o v δ → OStep P ops (lexT ops T0 vals vals.length) vis base (slotsA C o) o v δ := by
          intro b h1 h2 v δ vis h3
          unfold OStep; rw [hg]
          exact ⟨d, hd, .inl ⟨b, hv.trans h1, .inl ⟨h2, h3⟩⟩⟩
        split at h
        · rename_i t
          have hsame : (lexT ops T0 vals vals.length).set d (.pv .bool t) = lexT ops T0 vals vals.length := set_same hv (by simp)
          cases t with
          | true =>
            dsimp only at h
            have hs1 : (lexT ops T0 vals vals.length).set d (.b true) = lexT ops T0 vals vals.length := hsame
            rw [hs1] at h
            by_cases e : want = true
            · rw [if_pos e] at h; exact go h (go2 true rfl e.symm)
            · rw [if_neg e] at h; exact skip h (skip2 (.inl ⟨true, hv, fun h => e h.symm⟩))
          | false =>
            dsimp only at h
            have hs1 : (lexT ops T0 vals vals.length).set d (.b false) = lexT ops T0 vals vals.length := hsame
            rw [hs1] at h
            by_cases e : want = false
            · rw [if_pos e] at h; exact go h (go2 false rfl e.symm)
            · rw [if_neg e] at h; exact skip h (skip2 (.inl ⟨false, hv, fun h => e h.symm⟩))
        · exact skip h (skip2 (.inr hv))
        · cases h
theorem getD_fresh (n i : Nat) : (Array.replicate n false).getD i false = false := by
  rw [Array.getD_eq_getD_getElem?, Array.getElem?_replicate]; split <;> rfl
include HC in
theorem drawn_sem {R : Type} {id : Nat} {ops : Array Oper} (hreg : regOK ops = true) {r : R} {F : Fr} {Q : Exit → Act → World → Prop} {s : St} {base : Nat} {K : St → Option R} (h : vopsD C id (masks ops.toList []) ops ops.toList [] base s K = some r) {E : Env} {w : World} {a : Act} (hI : Inv F E s.h w) (ht : RepT E s.h w s.t a.tmps)
    (hQ : ∀ s' E' a' w', K s' = some r → Inv F E' s'.h w' → RepT E' s'.h w' s'.t a'.tmps → a'.defers = a.defers → Q .normal a' w') : (Code.region id ops true).wp P Q a w := by
  obtain ⟨T, hp⟩ := s
  obtain ⟨vals, dels, trs, A, h1, h2⟩ := vopsD_trace (P := P) HC ops.toList (vals := []) (dels := []) (trs := []) (T0 := T) (h0 := hp) ⟨rfl, rfl, ⟨fun i a h => by simp at h, fun i k a r _ h => by simp at h, fun i a h => by simp at h⟩, fun k a h => by simp at h, fun j o v δ tr _ h => by simp at h⟩ (fun i o ho => by simpa using ho) (by simp) h
  refine wp_region_any HC.wide (any_order hreg h1 (by rw [A.ld, h1]) (trs := trs) (by rw [A.lt, h1]) A.ok A.steps (d0 := a.defers) (fun E a' w' hI' ht' hd => hQ _ E a' w' h2 hI' ht' hd) ops.size (Array.replicate ops.size false) hp E a _ ⟨hI.draw, ht.1, ?_, ?_, ?_, by simp, rfl, fun r => ⟨0, Nat.zero_le _, fun k _ => ?_, rfl⟩⟩ ?_)
  · intro i o d v hl; rw [getD_fresh] at hl; cases hl
  · intro t c hc _
    obtain ⟨val, q1, q2⟩ := ht.2 t c hc
    exact ⟨val, q1, keep_rep (keep_draw E hp w) c q2⟩
  · intro i o e hl; rw [getD_fresh] at hl; cases hl
  · rw [getD_fresh]; exact ⟨(fun h => by cases h), (fun h => absurd h (Nat.not_lt_zero _))⟩
  · exact Nat.le_trans (List.length_filter_le _ _) (by simp)
end
end Go.Ab
