import Derived.Test.YthjochcbdhiclaaGreatAbOrd
set_option linter.unnecessarySimpa false
set_option linter.unusedVariables false
set_option linter.unusedSimpArgs false
namespace Go.Ab
open Go.RowKit
theorem inv_ext_heap {F : Fr} {E : Env} {h h' : Heap} {w : World} (e : ∀ r, h'.getD r none = h.getD r none) (H : Inv F E h w) : Inv F E h' w ∧ Keep E h w E h' w := by
  have T : Touch (fun _ => False) E h w E h' w :=
    { hh := fun r _ => e r, hι := fun _ _ _ => rfl, II := fun _ hb => hb, size := Nat.le_refl _, os := rfl, tape := rfl, output := ⟨rfl, Nat.le_refl _⟩, blk := fun _ _ _ => rfl, asz := fun b a t ha => ⟨a, ha, rfl⟩,
      off := fun _ _ h => h.elim, on := fun _ _ _ h => h.elim, som := fun _ h => h.elim, fix := fun _ h => h.elim, obj := fun _ _ _ _ h => h.elim, siz := fun _ _ _ _ _ h => h.elim, from_ := fun _ _ _ _ h => h.elim,
      inj := fun _ _ _ _ _ _ _ h => h.elim, live := fun _ _ _ h => h.elim, Inew := fun _ hb => .inl hb, apart := fun _ _ _ _ h => h.elim, roI := fun _ _ _ _ h => h.elim }
  exact T.inv H
theorem touched_spec {δ : Delta} {r : Nat} : r ∈ touched δ ↔ ∃ c, (r, c) ∈ δ := by
  unfold touched; simp
theorem apD_touch : (δ : Delta) → {h h' : Heap} → {r : Nat} → r ∈ touched δ → (apD h δ).getD r none = (apD h' δ).getD r none ∧ ∃ c, (apD h δ).getD r none = some c
  | [], h, h', r, hr => by simp [touched] at hr
  | p :: δ, h, h', r, hr => by
    by_cases h1 : r ∈ touched δ
    · exact apD_touch δ h1
    · have hn : ∀ c, (r, c) ∉ δ := fun c hc => h1 (touched_spec.2 ⟨c, hc⟩)
      have hp : r = p.1 := by
        simp only [touched, List.map_cons, List.mem_cons] at hr
        rcases hr with hr | hr
        · exact hr
        · exact absurd hr h1
      subst hp
      simp only [apD]
      rw [apD_not δ hn, apD_not δ hn, getD_setH, if_pos rfl, getD_setH, if_pos rfl]
      exact ⟨rfl, _, rfl⟩
theorem apD_untouched {δ : Delta} {h : Heap} {r : Nat} (hr : r ∉ touched δ) : (apD h δ).getD r none = h.getD r none := apD_not δ fun c hc => hr (touched_spec.2 ⟨c, hc⟩)
theorem apD_somes {δ : Delta} {h : Heap} {r : Nat} {c : Cont} (hc : h.getD r none = some c) : ∃ c, (apD h δ).getD r none = some c := by
  by_cases hr : r ∈ touched δ
  · exact (apD_touch (h' := h) δ hr).2
  · rw [apD_untouched hr]; exact ⟨c, hc⟩
def heapAt (h0 : Heap) (dels : List Delta) : Nat → Heap
  | 0 => h0
  | i + 1 => match dels[i]? with
    | some δ => apD (heapAt h0 dels i) δ
    | none => heapAt h0 dels i
def tch (dels : List Delta) (k r : Nat) : Prop := ∃ δ, dels[k]? = some δ ∧ r ∈ touched δ
theorem heapAt_same {h0 : Heap} {dels : List Delta} {a b r : Nat} (hab : a ≤ b) (hn : ∀ k, a ≤ k → k < b → ¬ tch dels k r) : (heapAt h0 dels b).getD r none = (heapAt h0 dels a).getD r none := by
  induction b with
  | zero => obtain rfl : a = 0 := by omega
            rfl
  | succ b ih =>
    by_cases e : a = b + 1
    · subst e; rfl
    · have ih := ih (by omega) (fun k h1 h2 => hn k h1 (by omega))
      simp only [heapAt]
      split
      · rename_i δ hδ
        rw [apD_untouched (fun hr => hn b (by omega) (by omega) ⟨δ, hδ, hr⟩)]; exact ih
      · exact ih
theorem heapAt_some {h0 : Heap} {dels : List Delta} {a b r : Nat} (hab : a ≤ b) {c : Cont} (hc : (heapAt h0 dels a).getD r none = some c) : ∃ c, (heapAt h0 dels b).getD r none = some c := by
  induction b with
  | zero => obtain rfl : a = 0 := by omega
            exact ⟨c, hc⟩
  | succ b ih =>
    by_cases e : a = b + 1
    · subst e; exact ⟨c, hc⟩
    · obtain ⟨c', ih⟩ := ih (by omega)
      simp only [heapAt]
      split
      · exact apD_somes ih
      · exact ⟨c', ih⟩
theorem tch_some {h0 : Heap} {dels : List Delta} {k b r : Nat} (hk : tch dels k r) (hb : k < b) : ∃ c, (heapAt h0 dels b).getD r none = some c := by
  obtain ⟨δ, h1, h2⟩ := hk
  have : ∃ c, (heapAt h0 dels (k + 1)).getD r none = some c := by
    simp only [heapAt, h1]; exact (apD_touch (h' := h0) δ h2).2
  obtain ⟨c, h3⟩ := this
  exact heapAt_some hb h3
section
variable (P : Program) (ops : Array Oper)
def VSem (T : List AV) (vis : Heap) (base cnt : Nat) (o : Oper) (v : AV) (δ : Delta) : Prop :=
  ∀ h, SubH vis h → (∀ j, j < cnt → h.getD (base + j) none = none) → ESem P T h o v δ
def OStep (T : List AV) (vis : Heap) (base cnt : Nat) (o : Oper) (v : AV) (δ : Delta) : Prop :=
  match o.guard with
  | none => VSem P T vis base cnt o v δ
  | some (j, want) => ∃ d, (ops[j]?).bind (·.dst) = some d ∧
      ((∃ b, T.getD d .junk = .pv .bool b ∧ ((b = want ∧ VSem P T vis base cnt o v δ) ∨ (b ≠ want ∧ v = .undef ∧ δ = []))) ∨ (T.getD d .junk = .undef ∧ v = .undef ∧ δ = []))
def lexT (T0 : List AV) (vals : List AV) : Nat → List AV
  | 0 => T0
  | i + 1 => match ops[i]?, vals[i]? with
    | some o, some v => put (lexT T0 vals i) o.dst v
    | _, _ => lexT T0 vals i
end
section
variable {P : Program} {ops : Array Oper} {T0 vals : List AV}
theorem lexT_length (i : Nat) : (lexT ops T0 vals i).length = T0.length := by
  induction i with
  | zero => rfl
  | succ i ih =>
    simp only [lexT]
    split
    · unfold put; split <;> simp [ih]
    · exact ih
theorem lexT_keep {i j : Nat} (hij : i ≤ j) {t : Nat} (hno : ∀ k o, i ≤ k → k < j → ops[k]? = some o → o.dst ≠ some t) : (lexT ops T0 vals j)[t]? = (lexT ops T0 vals i)[t]? := by
  induction j with
  | zero => have : i = 0 := by omega
            subst this; rfl
  | succ j ih =>
    by_cases e : i = j + 1
    · subst e; rfl
    · have ih := ih (by omega) (fun k o h1 h2 h3 => hno k o h1 (by omega) h3)
      simp only [lexT]
      split
      · rename_i o v ho hv
        have := hno j o (by omega) (by omega) ho
        unfold put
        split
        · rename_i d hd
          rw [List.getElem?_set_ne (by rintro rfl; exact this hd)]; exact ih
        · exact ih
      · exact ih
theorem lexT_at (H : regOK ops = true) {i j : Nat} {o : Oper} {v : AV} (hij : i < j) (ho : ops[i]? = some o) (hv : vals[i]? = some v) {d : Tmp} (hd : o.dst = some d) (hlt : d < T0.length) : (lexT ops T0 vals j)[d]? = some v := by
  rw [lexT_keep (i := i + 1) (by omega) (fun k p h1 h2 hp hdp => by have := reg_dst H ho hp hd hdp; omega)]
  simp only [lexT, ho, hv, put, hd]
  rw [List.getElem?_set_self (by rw [lexT_length]; exact hlt)]
structure AnyInv (ops : Array Oper) (h0 : Heap) (dels : List Delta) (T0 vals : List AV) (d0 : List Deferred) (F : Fr) (L : Array Bool) (h : Heap) (E : Env) (a : Act) (w : World) : Prop where
  inv : Inv F E h w
  sz : T0.length = a.tmps.size
  don : ∀ (i : Nat) (o : Oper) (d : Tmp) (v : AV), L.getD i false = true → ops[i]? = some o → o.dst = some d → vals[i]? = some v → ∀ val, a.tmps[d]? = some val → RepAV E h w v val
  rest : ∀ (t : Nat) (c : AV), T0[t]? = some c → (∀ (i : Nat) (o : Oper), L.getD i false = true → ops[i]? = some o → o.dst ≠ some t) → ∃ val, a.tmps[t]? = some val ∧ RepAV E h w c val
  down : ∀ (i : Nat) (o : Oper) (e : Edge), L.getD i false = true → ops[i]? = some o → e ∈ o.after → Region.binds .any e = true → L.getD e.on false = true
  lsz : L.size = ops.size
  defers : a.defers = d0
  hp : ∀ r, ∃ b, b ≤ ops.size ∧ (∀ k, tch dels k r → (L.getD k false = true ↔ k < b)) ∧ h.getD r none = (heapAt h0 dels b).getD r none
theorem getD_listed {L : Array Bool} {i j : Nat} (hi : i < L.size) : (L.setIfInBounds i true).getD j false = true ↔ j = i ∨ L.getD j false = true := by
  by_cases e : i = j
  · subst e; simp [hi]
  · rw [getD_set_ne false e]
    exact ⟨.inr, fun hh => hh.elim (fun h1 => absurd h1.symm e) id⟩
variable {h0 : Heap} {dels : List Delta}
theorem look_same (H : regOK ops = true) (hlen : vals.length = ops.size) {d0 : List Deferred} {F : Fr} {L : Array Bool} {h : Heap} {E : Env} {a : Act} {w : World} (A : AnyInv ops h0 dels T0 vals d0 F L h E a w)
    {j : Nat} {o : Oper} (ho : ops[j]? = some o) (hun : L.getD j false = false) (hready : ∀ e ∈ o.after, Region.binds .any e = true → L.getD e.on false = true) {t : Tmp} (ht : t ∈ looks ops o) :
    RepAV E h w ((lexT ops T0 vals j).getD t .junk) (a.tmps.getD t undef) := by
  have hjlt : j < ops.size := (Array.getElem?_eq_some_iff.1 ho).1
  by_cases hlt : t < T0.length
  · have hval : ∃ val, a.tmps[t]? = some val := ⟨a.tmps[t]'(A.sz ▸ hlt), by simp [A.sz ▸ hlt]⟩
    obtain ⟨val, hval⟩ := hval
    have hv : a.tmps.getD t undef = val := by simp [hval]
    rw [hv, List.getD_eq_getElem?_getD]
    by_cases hex : ∃ i p, ops[i]? = some p ∧ p.dst = some t ∧ j ≠ i
    · obtain ⟨i, p, hp, hd, hne⟩ := hex
      have hilt : i < ops.size := (Array.getElem?_eq_some_iff.1 hp).1
      rcases reg_look H ho hp ht hd hne with ⟨hij, ha⟩ | ⟨hji, ha⟩
      · obtain ⟨e, he, hb, rfl⟩ := aft_spec ha
        have hl := hready e he hb
        obtain ⟨v, hvi⟩ : ∃ v, vals[e.on]? = some v := ⟨vals[e.on]'(by omega), by simp [hlen ▸ hilt]⟩
        rw [lexT_at H hij hp hvi hd hlt]
        exact A.don _ p t v hl hp hd hvi val hval
      · have hnot : ∀ (k : Nat) (q : Oper), L.getD k false = true → ops[k]? = some q → q.dst ≠ some t := by
          intro k q hk hq hdq
          have := reg_dst H hp hq hd hdq
          subst this
          obtain ⟨e, he, hb, hon⟩ := aft_spec ha
          have := A.down i p e hk hp he hb
          rw [hon] at this
          rw [hun] at this; cases this
        obtain ⟨c, hc⟩ : ∃ c, T0[t]? = some c := ⟨T0[t], by simp [hlt]⟩
        obtain ⟨val', h1, h2⟩ := A.rest t c hc hnot
        rw [hval] at h1; obtain rfl : val = val' := by simpa using h1
        have : (lexT ops T0 vals j)[t]? = T0[t]? := lexT_keep (i := 0) (j := j) (Nat.zero_le _) (fun k q _ hk hq hdq => by have e := reg_dst H hp hq hd hdq; exact absurd (Nat.lt_trans (e ▸ hji) hk) (Nat.lt_irrefl _))
        rw [this, hc]; exact h2
    · have hnot : ∀ (k : Nat) (q : Oper), L.getD k false = true → ops[k]? = some q → q.dst ≠ some t := by
        intro k q hk hq hdq
        by_cases e : j = k
        · subst e; rw [hun] at hk; cases hk
        · exact hex ⟨k, q, hq, hdq, e⟩
      obtain ⟨c, hc⟩ : ∃ c, T0[t]? = some c := ⟨T0[t], by simp [hlt]⟩
      obtain ⟨val', h1, h2⟩ := A.rest t c hc hnot
      rw [hval] at h1; obtain rfl : val = val' := by simpa using h1
      have : (lexT ops T0 vals j)[t]? = T0[t]? := lexT_keep (i := 0) (j := j) (Nat.zero_le _) (fun k q _ hk hq hdq => hex ⟨k, q, hq, hdq, Nat.ne_of_gt hk⟩)
      rw [this, hc]; exact h2
  · have : (lexT ops T0 vals j).getD t .junk = .junk := by
      have hle : (lexT ops T0 vals j).length ≤ t := by rw [lexT_length]; exact Nat.le_of_not_lt hlt
      rw [List.getD_eq_getElem?_getD, List.getElem?_eq_none hle]; rfl
    rw [this]; simp only [RepAV]
structure TrOK (ops : Array Oper) (h0 : Heap) (dels : List Delta) (trs : List Tr) : Prop where
  vis : ∀ i a, trs[i]? = some a → ∀ r c, a.vis.getD r none = some c → (heapAt h0 dels i).getD r none = some c ∧ ∀ k, k < i → tch dels k r → Anc ops k i
  apart : ∀ i k a r, k < i → trs[k]? = some a → tch dels i r → Anc ops k i ∨ (a.vis.getD r none = none ∧ ¬ tch dels k r ∧ ¬ (a.base ≤ r ∧ r < a.base + a.cnt))
  free : ∀ i a, trs[i]? = some a → ∀ j, j < a.cnt → (heapAt h0 dels i).getD (a.base + j) none = none
theorem AnyInv.shows {trs : List Tr} (TO : TrOK ops h0 dels trs) (hld : dels.length = ops.size) {d0 : List Deferred} {F : Fr} {L : Array Bool} {h : Heap} {E : Env} {a : Act} {w : World} (A : AnyInv ops h0 dels T0 vals d0 F L h E a w)
    {j : Nat} {o : Oper} (ho : ops[j]? = some o) (hun : L.getD j false = false) (hready : ∀ e ∈ o.after, Region.binds .any e = true → L.getD e.on false = true) {tr : Tr} (htr : trs[j]? = some tr) :
    SubH tr.vis h ∧ ∀ k, k < tr.cnt → h.getD (tr.base + k) none = none := by
  have hanc : ∀ k, Anc ops k j → L.getD k false = true := fun k hk => hk.ready A.down ho hready
  have hnot : ∀ k, Anc ops j k → L.getD k false = true → False := fun k hk hl => by have := hk.down A.down hl; rw [hun] at this; cases this
  constructor
  · intro r c hc hd
    obtain ⟨h1, h2⟩ := TO.vis j tr htr r c hc
    obtain ⟨b, _, h3, h4⟩ := A.hp r
    left
    rw [h4, ← h1]
    rcases Nat.le_total b j with hbj | hjb
    · exact (heapAt_same hbj fun k hk1 hk2 ht => by
        have := (h3 k ht).1 (hanc k (h2 k hk2 ht)); omega).symm
    · refine heapAt_same hjb fun k hk1 hk2 ht => ?_
      have hl := (h3 k ht).2 hk2
      have hne : k ≠ j := by rintro rfl; rw [hun] at hl; cases hl
      rcases TO.apart k j tr r (by omega) htr ht with h5 | ⟨h5, _⟩
      · exact hnot k h5 hl
      · rw [hc] at h5; cases h5
  · intro x hx
    have h1 := TO.free j tr htr x hx
    obtain ⟨b, _, h3, h4⟩ := A.hp (tr.base + x)
    rw [h4]; refine Eq.trans ?_ h1
    rcases Nat.le_total b j with hbj | hjb
    · exact (heapAt_same hbj fun k hk1 hk2 ht => by
        obtain ⟨c, h5⟩ := tch_some (h0 := h0) ht hk2
        rw [h1] at h5; cases h5).symm
    · refine heapAt_same hjb fun k hk1 hk2 ht => ?_
      have hl := (h3 k ht).2 hk2
      have hne : k ≠ j := by rintro rfl; rw [hun] at hl; cases hl
      rcases TO.apart k j tr _ (by omega) htr ht with h5 | ⟨_, _, h5⟩
      · exact hnot k h5 hl
      · exact h5 ⟨by omega, by omega⟩
theorem AnyInv.step (H : regOK ops = true) {trs : List Tr} (TO : TrOK ops h0 dels trs) {d0 : List Deferred} {F : Fr} {L : Array Bool} {h : Heap} {E E' : Env} {a : Act} {w w' : World} (A : AnyInv ops h0 dels T0 vals d0 F L h E a w)
    {j : Nat} {o : Oper} {v : AV} {δ : Delta} (hun : L.getD j false = false) (ho : ops[j]? = some o) (hv : vals[j]? = some v) (hδ : dels[j]? = some δ) (hI : Inv F E' (apD h δ) w') (hx : Keep E h w E' (apD h δ) w') (hready : ∀ e ∈ o.after, Region.binds .any e = true → L.getD e.on false = true) (hld : dels.length = ops.size) (htl : trs.length = ops.size) {val : Value} (hval : RepAV E' (apD h δ) w' v val) :
    AnyInv ops h0 dels T0 vals d0 F (L.setIfInBounds j true) (apD h δ) E' (a.put o.dst val) w' := by
  have hjlt : j < L.size := by rw [A.lsz]; exact (Array.getElem?_eq_some_iff.1 ho).1
  refine ⟨hI, ?_, ?_, ?_, ?_, by simpa using A.lsz, ?_, fun r => ?_⟩
  · rw [A.sz]; cases hd : o.dst <;> simp [Act.put]
  · intro i p d u hl hp hd hu val' hval'
    rcases (getD_listed hjlt).1 hl with rfl | hl'
    · rw [ho] at hp; obtain rfl : o = p := by simpa using hp
      rw [hv] at hu; obtain rfl : v = u := by simpa using hu
      simp only [Act.put, hd] at hval'
      rw [Array.getElem?_setIfInBounds] at hval'
      simp only [if_true] at hval'
      split at hval'
      · obtain rfl : val = val' := by simpa using hval'
        exact hval
      · cases hval'
    · by_cases e : i = j
      · subst e
        rw [ho] at hp; obtain rfl : o = p := by simpa using hp
        rw [hv] at hu; obtain rfl : v = u := by simpa using hu
        simp only [Act.put, hd] at hval'
        rw [Array.getElem?_setIfInBounds] at hval'
        simp only [if_true] at hval'
        split at hval'
        · obtain rfl : val = val' := by simpa using hval'
          exact hval
        · cases hval'
      · have hne : o.dst ≠ some d := fun hdo => e (reg_dst H hp ho hd hdo)
        have : (a.put o.dst val).tmps[d]? = a.tmps[d]? := by
          cases hd' : o.dst with
          | none => rfl
          | some d' => simp only [Act.put]; rw [Array.getElem?_setIfInBounds_ne (by rintro rfl; exact hne hd')]
        rw [this] at hval'
        exact keep_rep hx u (A.don i p d u hl' hp hd hu val' hval')
  · intro t c hc hno
    have hne : o.dst ≠ some t := hno j o ((getD_listed hjlt).2 (.inl rfl)) ho
    obtain ⟨val', h1, h2⟩ := A.rest t c hc (fun i p hl hp => hno i p ((getD_listed hjlt).2 (.inr hl)) hp)
    refine ⟨val', ?_, keep_rep hx c h2⟩
    rw [← h1]
    cases hd' : o.dst with
    | none => rfl
    | some d' => simp only [Act.put]; rw [Array.getElem?_setIfInBounds_ne (by rintro rfl; exact hne hd')]
  · intro i p e hl hp he hb
    rcases (getD_listed hjlt).1 hl with rfl | hl'
    · rw [ho] at hp; obtain rfl : o = p := by simpa using hp
      exact (getD_listed hjlt).2 (.inr (hready e he hb))
    · exact (getD_listed hjlt).2 (.inr (A.down i p e hl' hp he hb))
  · rw [← A.defers]; cases o.dst <;> rfl
  · have hanc : ∀ k, Anc ops k j → L.getD k false = true := fun k hk => hk.ready A.down ho hready
    have hnot : ∀ k, Anc ops j k → L.getD k false = true → False := fun k hk hl => by have := hk.down A.down hl; rw [hun] at this; cases this
    have hjN : j < ops.size := by rw [← A.lsz]; exact hjlt
    by_cases hr : r ∈ touched δ
    · have htj : tch dels j r := ⟨δ, hδ, hr⟩
      refine ⟨j + 1, hjN, fun k hk => ?_, ?_⟩
      · rw [getD_listed hjlt]
        have hkN : k < ops.size := by obtain ⟨δ', h1, _⟩ := hk; rw [← hld]; exact (List.getElem?_eq_some_iff.1 h1).1
        rcases Nat.lt_trichotomy k j with hkj | rfl | hkj
        · obtain ⟨tr, htr⟩ : ∃ tr, trs[k]? = some tr := ⟨trs[k]'(by omega), by simp [htl, hkN]⟩
          rcases TO.apart j k tr r hkj htr htj with h5 | ⟨_, h5, _⟩
          · exact ⟨fun _ => by omega, fun _ => .inr (hanc k h5)⟩
          · exact absurd hk h5
        · exact ⟨fun _ => by omega, fun _ => .inl rfl⟩
        · obtain ⟨tr, htr⟩ : ∃ tr, trs[j]? = some tr := ⟨trs[j]'(by omega), by simp [htl, hjN]⟩
          rcases TO.apart k j tr r hkj htr hk with h5 | ⟨_, h5, _⟩
          · exact ⟨fun h6 => by
              rcases h6 with h6 | h6
              · omega
              · exact (hnot k h5 h6).elim, fun h6 => by omega⟩
          · exact absurd htj h5
      · simp only [heapAt, hδ]
        exact (apD_touch δ hr).1
    · obtain ⟨b, hb, h3, h4⟩ := A.hp r
      refine ⟨b, hb, fun k hk => ?_, by rw [apD_untouched hr]; exact h4⟩
      have hkj : k ≠ j := by
        rintro rfl
        obtain ⟨δ', h1, h2⟩ := hk
        rw [hδ] at h1; obtain rfl : δ = δ' := by simpa using h1
        exact hr h2
      rw [getD_listed hjlt, ← h3 k hk]
      exact ⟨fun h => h.elim (fun h => absurd h hkj) id, .inr⟩
theorem all_listed (H : regOK ops = true) {L : Array Bool} (hsz : L.size = ops.size) (hr : Region.ready .any ops L = []) : ∀ (i : Nat), i < ops.size → L.getD i false = true := by
  intro i
  induction i using Nat.strongRecOn with
  | _ i ih =>
    intro hi
    cases e : L.getD i false with
    | true => rfl
    | false =>
      have : i ∈ Region.ready .any ops L := by
        rw [mem_ready]
        refine ⟨by rw [← e]; simp [hsz, hi], ops[i], by simp [hi], fun e' he hb => ?_⟩
        have hlt := reg_lt H (show ops[i]? = some ops[i] by simp [hi]) he hb
        exact ih e'.on hlt (by omega)
      rw [hr] at this; cases this
theorem any_order (H : regOK ops = true) (hlen : vals.length = ops.size) (hld : dels.length = ops.size) {trs : List Tr} (htl : trs.length = ops.size) (TO : TrOK ops h0 dels trs)
    (hsteps : ∀ (i : Nat) (o : Oper) (v : AV) (δ : Delta) (tr : Tr), ops[i]? = some o → vals[i]? = some v → dels[i]? = some δ → trs[i]? = some tr → OStep P ops (lexT ops T0 vals i) tr.vis tr.base tr.cnt o v δ)
    {d0 : List Deferred} {F : Fr} {Q : Exit → Act → World → Prop} (hQ : ∀ E a w, Inv F E (heapAt h0 dels ops.size) w → RepT E (heapAt h0 dels ops.size) w (lexT ops T0 vals ops.size) a.tmps → a.defers = d0 → Q .normal a w) :
    ∀ (fuel : Nat) (L : Array Bool) (h : Heap) (E : Env) (a : Act) (w : World), AnyInv ops h0 dels T0 vals d0 F L h E a w → ((List.range ops.size).filter fun i => !L.getD i false).length ≤ fuel → wpAny P .any ops Q fuel L a w := by
  have fin : ∀ (L : Array Bool) (h : Heap) (E : Env) (a : Act) (w : World), AnyInv ops h0 dels T0 vals d0 F L h E a w → Region.ready .any ops L = [] → Q .normal a w := by
    intro L h E a w A hr
    have hall := all_listed H A.lsz hr
    have heq : ∀ r, (heapAt h0 dels ops.size).getD r none = h.getD r none := by
      intro r
      obtain ⟨b, hb, h3, h4⟩ := A.hp r
      rw [h4]
      refine heapAt_same hb fun k hk1 hk2 ht => ?_
      have := (h3 k ht).1 (hall k hk2); omega
    obtain ⟨g1, g2⟩ := inv_ext_heap heq A.inv
    refine hQ E a w g1 (RepT.keep ⟨by rw [lexT_length]; exact A.sz, fun t c hc => ?_⟩ g2) A.defers
    have hlt : t < T0.length := by
      have := (List.getElem?_eq_some_iff.1 hc).1
      rwa [lexT_length] at this
    obtain ⟨val, hval⟩ : ∃ val, a.tmps[t]? = some val := ⟨a.tmps[t]'(A.sz ▸ hlt), by simp [A.sz ▸ hlt]⟩
    by_cases hex : ∃ (i : Nat) (p : Oper), ops[i]? = some p ∧ p.dst = some t
    · obtain ⟨i, p, hp, hd⟩ := hex
      have hilt : i < ops.size := (Array.getElem?_eq_some_iff.1 hp).1
      obtain ⟨v, hvi⟩ : ∃ v, vals[i]? = some v := ⟨vals[i]'(by omega), by simp [hlen ▸ hilt]⟩
      rw [lexT_at H hilt hp hvi hd hlt] at hc
      obtain rfl : v = c := by simpa using hc
      exact ⟨val, hval, A.don i p t v (hall i hilt) hp hd hvi val hval⟩
    · rw [lexT_keep (i := 0) (Nat.zero_le _) (fun k q _ _ hq hdq => hex ⟨k, q, hq, hdq⟩)] at hc
      exact A.rest t c hc (fun k q _ hq hdq => hex ⟨k, q, hq, hdq⟩)
  have stp : ∀ (K : Act → World → Prop) (L : Array Bool) (h : Heap) (E : Env) (a : Act) (w : World), AnyInv ops h0 dels T0 vals d0 F L h E a w → ∀ j ∈ Region.ready .any ops L, (∀ h' E' a' w', AnyInv ops h0 dels T0 vals d0 F (L.setIfInBounds j true) h' E' a' w' → K a' w') → wpOp P ops Q j K a w := by
    intro K L h E a w A j hj hK
    obtain ⟨hun, o, ho, hready⟩ := mem_ready.1 hj
    have hjlt : j < ops.size := (Array.getElem?_eq_some_iff.1 ho).1
    have hun' : L.getD j false = false := by
      have : j < L.size := by rw [A.lsz]; exact hjlt
      simpa [this] using hun
    obtain ⟨v, hv⟩ : ∃ v, vals[j]? = some v := ⟨vals[j]'(by omega), by simp [hlen ▸ hjlt]⟩
    obtain ⟨δ, hδ⟩ : ∃ δ, dels[j]? = some δ := ⟨dels[j]'(by omega), by simp [hld ▸ hjlt]⟩
    obtain ⟨tr, htr⟩ : ∃ tr, trs[j]? = some tr := ⟨trs[j]'(by omega), by simp [htl ▸ hjlt]⟩
    have hst := hsteps j o v δ tr ho hv hδ htr
    have hlook := fun t ht => look_same H hlen A ho hun' hready (t := t) ht
    have hskip : v = .undef → δ = [] → K (a.put o.dst undef) w := by
      rintro rfl rfl
      exact hK h E _ w (A.step H TO hun' ho hv hδ A.inv (Keep.refl E h w) hready hld htl (by simp only [RepAV]; exact ⟨[], rfl, RepL.nil⟩))
    have hdo : VSem P (lexT ops T0 vals j) tr.vis tr.base tr.cnt o v δ → o.wp P a w K Q := by
      intro hq
      obtain ⟨g1, g2⟩ := AnyInv.shows TO hld A ho hun' hready htr
      refine hq h g1 g2 F E w a K Q A.inv (fun x hx => ?_) (fun val E' w' hI hxt hr => hK _ E' _ w' (A.step H TO hun' ho hv hδ hI hxt hready hld htl hr))
      cases x with
      | tmp t =>
        exact hlook t (by unfold looks; refine List.mem_append_left _ ?_; rw [List.mem_filterMap]; exact ⟨.tmp t, by simpa using hx, rfl⟩)
      | const c => exact rep_const c
      | global g => simp [ev, RepAV]
      | func f => simp only [ev, Act.eval, RepAV]; exact ⟨[], by simp, RepL.nil⟩
    unfold wpOp
    simp only [ho]
    unfold OStep at hst
    cases hg : o.guard with
    | none =>
      rw [hg] at hst
      have : Region.wanted o (yielded ops a.tmps) = true := by simp [Region.wanted, hg]
      rw [this]; simp only [if_true]
      exact .inl (hdo hst)
    | some gw =>
      obtain ⟨g, want⟩ := gw
      rw [hg] at hst
      obtain ⟨d, hd, hcases⟩ := hst
      have hl := hlook d (by unfold looks; refine List.mem_append_right _ ?_; rw [hg]; simp [hd])
      have hy : ∀ u, a.tmps.getD d undef = u → yielded ops a.tmps g = (match u with | .bool b => some b | _ => none) := by
        rintro u rfl
        unfold yielded
        rw [hd]
        simp only [Option.bind_some]
        cases e : a.tmps[d]? with
        | none => simp [e, undef]
        | some u => simp only [Array.getD_eq_getD_getElem?, e, Option.getD_some]; cases u <;> rfl
      rcases hcases with ⟨b, hb, hcase⟩ | ⟨hb, rfl, rfl⟩
      · rw [hb] at hl
        have hy' := hy _ (rep_bool hl)
        rcases hcase with ⟨rfl, hq⟩ | ⟨hne, rfl, rfl⟩
        · have : Region.wanted o (yielded ops a.tmps) = true := by simp [Region.wanted, hg, hy']
          rw [this]; simp only [if_true]
          exact .inl (hdo hq)
        · have : Region.wanted o (yielded ops a.tmps) = false := by simp [Region.wanted, hg, hy', hne]
          rw [this]; simp only [Bool.false_eq_true, if_false]
          exact hskip rfl rfl
      · rw [hb] at hl
        simp only [RepAV] at hl
        obtain ⟨vs, hu, hnil⟩ := hl
        have hy' := hy _ hu
        have : Region.wanted o (yielded ops a.tmps) = false := by simp [Region.wanted, hg, hy']
        rw [this]; simp only [Bool.false_eq_true, if_false]
        exact hskip rfl rfl
  intro fuel
  induction fuel with
  | zero =>
    intro L h E a w A hc
    have hr : Region.ready .any ops L = [] := by
      rw [List.eq_nil_iff_forall_not_mem]
      intro j hj
      obtain ⟨hun, o, ho, _⟩ := mem_ready.1 hj
      have hjlt : j < ops.size := (Array.getElem?_eq_some_iff.1 ho).1
      have : j ∈ (List.range ops.size).filter fun i => !L.getD i false := by
        rw [List.mem_filter, List.mem_range]
        have : j < L.size := by rw [A.lsz]; exact hjlt
        exact ⟨hjlt, by simpa [this] using hun⟩
      rw [List.eq_nil_of_length_eq_zero (Nat.le_zero.1 hc)] at this
      cases this
    exact ⟨hr, fin L h E a w A hr⟩
  | succ fuel ih =>
    intro L h E a w A hc
    refine ⟨fun hr => fin L h E a w A hr, fun j hj => stp _ L h E a w A j hj fun h' E' a' w' A' => ih _ h' E' a' w' A' ?_⟩
    obtain ⟨hun, o, ho, _⟩ := mem_ready.1 hj
    have hjlt : j < ops.size := (Array.getElem?_eq_some_iff.1 ho).1
    have hjL : j < L.size := by rw [A.lsz]; exact hjlt
    have hun' : L.getD j false = false := by simpa [hjL] using hun
    have hsub : ((List.range ops.size).filter fun i => !(L.setIfInBounds j true).getD i false) = ((List.range ops.size).filter fun i => !L.getD i false).filter fun i => i != j := by
      rw [List.filter_filter]
      apply List.filter_congr
      intro i hi
      by_cases e : i = j
      · subst e; simp [hjL]
      · rw [getD_set_ne false (Ne.symm e)]; simp [e]
    have hmem : j ∈ (List.range ops.size).filter fun i => !L.getD i false := by
      rw [List.mem_filter, List.mem_range]; exact ⟨hjlt, by simp [hun']⟩
    rw [hsub]
    have := (List.length_filter_lt_length_iff_exists (p := fun i => i != j) (l := (List.range ops.size).filter fun i => !L.getD i false)).2 ⟨j, hmem, by simp⟩
    omega
end
end Go.Ab
