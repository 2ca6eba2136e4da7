import Derived.Test.YtfaonncpagjmkaaAbQ7
set_option linter.unnecessarySimpa false
set_option linter.unusedVariables false
set_option linter.unusedSimpArgs false
namespace Go.Ab
open Go.RowKit

theorem zipIdx_all {α : Type} {l : List α} {f : α × Nat → Bool} (h : l.zipIdx.all f = true) {i : Nat} {a : α} (hi : l[i]? = some a) : f (a, i) = true := by
  refine List.all_eq_true.1 h _ ?_
  rw [List.mem_iff_getElem?]
  exact ⟨i, by simp [hi]⟩

section
variable {ops : Array Oper} (H : regOK ops = true)
include H
theorem reg_lt {i : Nat} {o : Oper} (ho : ops[i]? = some o) {e : Edge} (he : e ∈ o.after) (hb : Region.binds .any e = true) : e.on < i := by
  unfold regOK at H; simp only [Bool.and_eq_true] at H
  have := zipIdx_all H.1.1 (show ops.toList[i]? = some o by simpa using ho)
  have := Array.all_eq_true_iff_forall_mem.1 this e he
  simpa [hb] using this
theorem reg_dst {i j : Nat} {o p : Oper} (ho : ops[i]? = some o) (hp : ops[j]? = some p) {d : Tmp} (h1 : o.dst = some d) (h2 : p.dst = some d) : i = j := by
  unfold regOK at H; simp only [Bool.and_eq_true] at H
  have := zipIdx_all H.1.2 (show ops.toList[i]? = some o by simpa using ho)
  have := zipIdx_all this (show ops.toList[j]? = some p by simpa using hp)
  simpa [h1, h2] using this
theorem reg_look {i j : Nat} {o p : Oper} (ho : ops[j]? = some o) (hp : ops[i]? = some p) {t : Tmp} (ht : t ∈ looks ops o) (hd : p.dst = some t) (hne : j ≠ i) : (i < j ∧ aft o i = true) ∨ (j < i ∧ aft p j = true) := by
  unfold regOK at H; simp only [Bool.and_eq_true] at H
  have := zipIdx_all H.2 (show ops.toList[j]? = some o by simpa using ho)
  have := List.all_eq_true.1 this t ht
  have := zipIdx_all this (show ops.toList[i]? = some p by simpa using hp)
  simpa [hne, hd] using this
end

theorem aft_spec {o : Oper} {i : Nat} (h : aft o i = true) : ∃ e ∈ o.after, Region.binds .any e = true ∧ e.on = i := by
  unfold aft at h
  obtain ⟨e, he, hb⟩ := Array.any_eq_true'.1 h
  simp only [Bool.and_eq_true, beq_iff_eq] at hb
  exact ⟨e, he, hb.1, hb.2⟩

section
variable (P : Program) (h : List (Option Cont)) (ops : Array Oper)

/-- One operation of the text's order, its guard heeded. -/
def OStep (T : List AV) (o : Oper) (v : AV) : Prop :=
  match o.guard with
  | none => QSem P T h o v
  | some (j, want) => ∃ d, (ops[j]?).bind (·.dst) = some d ∧
      ((∃ b, T.getD d .junk = .pv .bool b ∧ ((b = want ∧ QSem P T h o v) ∨ (b ≠ want ∧ v = .undef))) ∨ (T.getD d .junk = .undef ∧ v = .undef))

/-- The temporaries before operation number i of the text's order. -/
def lexT (T0 : List AV) (vals : List AV) : Nat → List AV
  | 0 => T0
  | i + 1 => match ops[i]?, vals[i]? with
    | some o, some v => put (lexT T0 vals i) o.dst v
    | _, _ => lexT T0 vals i
end

section
variable {P : Program} {h : List (Option Cont)} {ops : Array Oper} {T0 vals : List AV}

theorem lexT_length (i : Nat) : (lexT ops T0 vals i).length = T0.length := by
  induction i with
  | zero => rfl
  | succ i ih =>
    simp only [lexT]
    split
    · unfold put; split <;> simp [ih]
    · exact ih

theorem lexT_keep {i j : Nat} (hij : i ≤ j) {t : Nat} (hno : ∀ k o, i ≤ k → k < j → ops[k]? = some o → o.dst ≠ some t) : (lexT ops T0 vals j)[t]? = (lexT ops T0 vals i)[t]? := by
  induction j with
  | zero => have : i = 0 := by omega
            subst this; rfl
  | succ j ih =>
    by_cases e : i = j + 1
    · subst e; rfl
    · have ih := ih (by omega) (fun k o h1 h2 h3 => hno k o h1 (by omega) h3)
      simp only [lexT]
      split
      · rename_i o v ho hv
        have := hno j o (by omega) (by omega) ho
        unfold put
        split
        · rename_i d hd
          rw [List.getElem?_set_ne (by rintro rfl; exact this hd)]; exact ih
        · exact ih
      · exact ih

theorem lexT_at (H : regOK ops = true) {i j : Nat} {o : Oper} {v : AV} (hij : i < j) (ho : ops[i]? = some o) (hv : vals[i]? = some v) {d : Tmp} (hd : o.dst = some d) (hlt : d < T0.length) : (lexT ops T0 vals j)[d]? = some v := by
  rw [lexT_keep (i := i + 1) (by omega) (fun k p h1 h2 hp hdp => by have := reg_dst H ho hp hd hdp; omega)]
  simp only [lexT, ho, hv, put, hd]
  rw [List.getElem?_set_self (by rw [lexT_length]; exact hlt)]

structure AnyInv (ops : Array Oper) (h : List (Option Cont)) (T0 vals : List AV) (d0 : List Deferred) (I0 : Nat → Prop) (w0 : World) (L : Array Bool) (E : Env) (a : Act) (w : World) : Prop where
  inv : Inv I0 w0 E h w
  sz : T0.length = a.tmps.size
  don : ∀ (i : Nat) (o : Oper) (d : Tmp) (v : AV), L.getD i false = true → ops[i]? = some o → o.dst = some d → vals[i]? = some v → ∀ val, a.tmps[d]? = some val → RepAV E h w v val
  rest : ∀ (t : Nat) (c : AV), T0[t]? = some c → (∀ (i : Nat) (o : Oper), L.getD i false = true → ops[i]? = some o → o.dst ≠ some t) → ∃ val, a.tmps[t]? = some val ∧ RepAV E h w c val
  down : ∀ (i : Nat) (o : Oper) (e : Edge), L.getD i false = true → ops[i]? = some o → e ∈ o.after → Region.binds .any e = true → L.getD e.on false = true
  lsz : L.size = ops.size
  defers : a.defers = d0

theorem getD_listed {L : Array Bool} {i j : Nat} (hi : i < L.size) : (L.setIfInBounds i true).getD j false = true ↔ j = i ∨ L.getD j false = true := by
  by_cases e : i = j
  · subst e; simp [hi]
  · rw [getD_set_ne false e]
    exact ⟨.inr, fun hh => hh.elim (fun h1 => absurd h1.symm e) id⟩

/-- What an operation that may come up looks at is what it looked at in the text's order. -/
theorem look_same (H : regOK ops = true) (hlen : vals.length = ops.size) {d0 : List Deferred} {I0 : Nat → Prop} {w0 : World} {L : Array Bool} {E : Env} {a : Act} {w : World} (A : AnyInv ops h T0 vals d0 I0 w0 L E a w)
    {j : Nat} {o : Oper} (ho : ops[j]? = some o) (hun : L.getD j false = false) (hready : ∀ e ∈ o.after, Region.binds .any e = true → L.getD e.on false = true) {t : Tmp} (ht : t ∈ looks ops o) :
    RepAV E h w ((lexT ops T0 vals j).getD t .junk) (a.tmps.getD t undef) := by
  have hjlt : j < ops.size := (Array.getElem?_eq_some_iff.1 ho).1
  by_cases hlt : t < T0.length
  · have hval : ∃ val, a.tmps[t]? = some val := ⟨a.tmps[t]'(A.sz ▸ hlt), by simp [A.sz ▸ hlt]⟩
    obtain ⟨val, hval⟩ := hval
    have hv : a.tmps.getD t undef = val := by simp [hval]
    rw [hv, List.getD_eq_getElem?_getD]
    by_cases hex : ∃ i p, ops[i]? = some p ∧ p.dst = some t ∧ j ≠ i
    · obtain ⟨i, p, hp, hd, hne⟩ := hex
      have hilt : i < ops.size := (Array.getElem?_eq_some_iff.1 hp).1
      rcases reg_look H ho hp ht hd hne with ⟨hij, ha⟩ | ⟨hji, ha⟩
      · obtain ⟨e, he, hb, rfl⟩ := aft_spec ha
        have hl := hready e he hb
        obtain ⟨v, hvi⟩ : ∃ v, vals[e.on]? = some v := ⟨vals[e.on]'(by omega), by simp [hlen ▸ hilt]⟩
        rw [lexT_at H hij hp hvi hd hlt]
        exact A.don _ p t v hl hp hd hvi val hval
      · have hnot : ∀ (k : Nat) (q : Oper), L.getD k false = true → ops[k]? = some q → q.dst ≠ some t := by
          intro k q hk hq hdq
          have := reg_dst H hp hq hd hdq
          subst this
          obtain ⟨e, he, hb, hon⟩ := aft_spec ha
          have := A.down i p e hk hp he hb
          rw [hon] at this
          rw [hun] at this; cases this
        obtain ⟨c, hc⟩ : ∃ c, T0[t]? = some c := ⟨T0[t], by simp [hlt]⟩
        obtain ⟨val', h1, h2⟩ := A.rest t c hc hnot
        rw [hval] at h1; obtain rfl : val = val' := by simpa using h1
        have : (lexT ops T0 vals j)[t]? = T0[t]? := lexT_keep (i := 0) (j := j) (Nat.zero_le _) (fun k q _ hk hq hdq => by have e := reg_dst H hp hq hd hdq; exact absurd (Nat.lt_trans (e ▸ hji) hk) (Nat.lt_irrefl _))
        rw [this, hc]; exact h2
    · have hnot : ∀ (k : Nat) (q : Oper), L.getD k false = true → ops[k]? = some q → q.dst ≠ some t := by
        intro k q hk hq hdq
        by_cases e : j = k
        · subst e; rw [hun] at hk; cases hk
        · exact hex ⟨k, q, hq, hdq, e⟩
      obtain ⟨c, hc⟩ : ∃ c, T0[t]? = some c := ⟨T0[t], by simp [hlt]⟩
      obtain ⟨val', h1, h2⟩ := A.rest t c hc hnot
      rw [hval] at h1; obtain rfl : val = val' := by simpa using h1
      have : (lexT ops T0 vals j)[t]? = T0[t]? := lexT_keep (i := 0) (j := j) (Nat.zero_le _) (fun k q _ hk hq hdq => hex ⟨k, q, hq, hdq, Nat.ne_of_gt hk⟩)
      rw [this, hc]; exact h2
  · have : (lexT ops T0 vals j).getD t .junk = .junk := by
      have hle : (lexT ops T0 vals j).length ≤ t := by rw [lexT_length]; exact Nat.le_of_not_lt hlt
      rw [List.getD_eq_getElem?_getD, List.getElem?_eq_none hle]; rfl
    rw [this]; simp only [RepAV]

theorem AnyInv.step (H : regOK ops = true) {d0 : List Deferred} {I0 : Nat → Prop} {w0 : World} {L : Array Bool} {E E' : Env} {a : Act} {w w' : World} (A : AnyInv ops h T0 vals d0 I0 w0 L E a w) (hI : Inv I0 w0 E' h w') (hx : Ext E w E' w')
    {j : Nat} {o : Oper} {v : AV} (ho : ops[j]? = some o) (hv : vals[j]? = some v) (hready : ∀ e ∈ o.after, Region.binds .any e = true → L.getD e.on false = true) {val : Value} (hval : RepAV E' h w' v val) :
    AnyInv ops h T0 vals d0 I0 w0 (L.setIfInBounds j true) E' (a.put o.dst val) w' := by
  have hjlt : j < L.size := by rw [A.lsz]; exact (Array.getElem?_eq_some_iff.1 ho).1
  refine ⟨hI, ?_, ?_, ?_, ?_, by simpa using A.lsz, ?_⟩
  · rw [A.sz]; cases hd : o.dst <;> simp [Act.put]
  · intro i p d u hl hp hd hu val' hval'
    rcases (getD_listed hjlt).1 hl with rfl | hl'
    · rw [ho] at hp; obtain rfl : o = p := by simpa using hp
      rw [hv] at hu; obtain rfl : v = u := by simpa using hu
      simp only [Act.put, hd] at hval'
      rw [Array.getElem?_setIfInBounds] at hval'
      simp only [if_true] at hval'
      split at hval'
      · obtain rfl : val = val' := by simpa using hval'
        exact hval
      · cases hval'
    · by_cases e : i = j
      · subst e
        rw [ho] at hp; obtain rfl : o = p := by simpa using hp
        rw [hv] at hu; obtain rfl : v = u := by simpa using hu
        simp only [Act.put, hd] at hval'
        rw [Array.getElem?_setIfInBounds] at hval'
        simp only [if_true] at hval'
        split at hval'
        · obtain rfl : val = val' := by simpa using hval'
          exact hval
        · cases hval'
      · have hne : o.dst ≠ some d := fun hdo => e (reg_dst H hp ho hd hdo)
        have : (a.put o.dst val).tmps[d]? = a.tmps[d]? := by
          cases hd' : o.dst with
          | none => rfl
          | some d' => simp only [Act.put]; rw [Array.getElem?_setIfInBounds_ne (by rintro rfl; exact hne hd')]
        rw [this] at hval'
        exact ext_rep hx u (A.don i p d u hl' hp hd hu val' hval')
  · intro t c hc hno
    have hne : o.dst ≠ some t := hno j o ((getD_listed hjlt).2 (.inl rfl)) ho
    obtain ⟨val', h1, h2⟩ := A.rest t c hc (fun i p hl hp => hno i p ((getD_listed hjlt).2 (.inr hl)) hp)
    refine ⟨val', ?_, ext_rep hx c h2⟩
    rw [← h1]
    cases hd' : o.dst with
    | none => rfl
    | some d' => simp only [Act.put]; rw [Array.getElem?_setIfInBounds_ne (by rintro rfl; exact hne hd')]
  · intro i p e hl hp he hb
    rcases (getD_listed hjlt).1 hl with rfl | hl'
    · rw [ho] at hp; obtain rfl : o = p := by simpa using hp
      exact (getD_listed hjlt).2 (.inr (hready e he hb))
    · exact (getD_listed hjlt).2 (.inr (A.down i p e hl' hp he hb))
  · rw [← A.defers]; cases o.dst <;> rfl

/-- If nothing may come up any more, all has come up. -/
theorem all_listed (H : regOK ops = true) {L : Array Bool} (hsz : L.size = ops.size) (hr : Region.ready .any ops L = []) : ∀ (i : Nat), i < ops.size → L.getD i false = true := by
  intro i
  induction i using Nat.strongRecOn with
  | _ i ih =>
    intro hi
    cases e : L.getD i false with
    | true => rfl
    | false =>
      have : i ∈ Region.ready .any ops L := by
        rw [mem_ready]
        refine ⟨by rw [← e]; simp [hsz, hi], ops[i], by simp [hi], fun e' he hb => ?_⟩
        have hlt := reg_lt H (show ops[i]? = some ops[i] by simp [hi]) he hb
        exact ih e'.on hlt (by omega)
      rw [hr] at this; cases this

theorem any_order (H : regOK ops = true) (hlen : vals.length = ops.size) (hsteps : ∀ (i : Nat) (o : Oper) (v : AV), ops[i]? = some o → vals[i]? = some v → OStep P h ops (lexT ops T0 vals i) o v)
    {d0 : List Deferred} {I0 : Nat → Prop} {w0 : World} {Q : Exit → Act → World → Prop} (hQ : ∀ E a w, Inv I0 w0 E h w → RepT E h w (lexT ops T0 vals ops.size) a.tmps → a.defers = d0 → Q .normal a w) :
    ∀ (fuel : Nat) (L : Array Bool) (E : Env) (a : Act) (w : World), AnyInv ops h T0 vals d0 I0 w0 L E a w → ((List.range ops.size).filter fun i => !L.getD i false).length ≤ fuel → wpAny P .any ops Q fuel L a w := by
  have fin : ∀ (L : Array Bool) (E : Env) (a : Act) (w : World), AnyInv ops h T0 vals d0 I0 w0 L E a w → Region.ready .any ops L = [] → Q .normal a w := by
    intro L E a w A hr
    have hall := all_listed H A.lsz hr
    refine hQ E a w A.inv ⟨by rw [lexT_length]; exact A.sz, fun t c hc => ?_⟩ A.defers
    have hlt : t < T0.length := by
      have := (List.getElem?_eq_some_iff.1 hc).1
      rwa [lexT_length] at this
    obtain ⟨val, hval⟩ : ∃ val, a.tmps[t]? = some val := ⟨a.tmps[t]'(A.sz ▸ hlt), by simp [A.sz ▸ hlt]⟩
    by_cases hex : ∃ (i : Nat) (p : Oper), ops[i]? = some p ∧ p.dst = some t
    · obtain ⟨i, p, hp, hd⟩ := hex
      have hilt : i < ops.size := (Array.getElem?_eq_some_iff.1 hp).1
      obtain ⟨v, hvi⟩ : ∃ v, vals[i]? = some v := ⟨vals[i]'(by omega), by simp [hlen ▸ hilt]⟩
      rw [lexT_at H hilt hp hvi hd hlt] at hc
      obtain rfl : v = c := by simpa using hc
      exact ⟨val, hval, A.don i p t v (hall i hilt) hp hd hvi val hval⟩
    · rw [lexT_keep (i := 0) (Nat.zero_le _) (fun k q _ _ hq hdq => hex ⟨k, q, hq, hdq⟩)] at hc
      exact A.rest t c hc (fun k q _ hq hdq => hex ⟨k, q, hq, hdq⟩)
  have stp : ∀ (K : Act → World → Prop) (L : Array Bool) (E : Env) (a : Act) (w : World), AnyInv ops h T0 vals d0 I0 w0 L E a w → ∀ j ∈ Region.ready .any ops L, (∀ E' a' w', AnyInv ops h T0 vals d0 I0 w0 (L.setIfInBounds j true) E' a' w' → K a' w') → wpOp P ops Q j K a w := by
    intro K L E a w A j hj hK
    obtain ⟨hun, o, ho, hready⟩ := mem_ready.1 hj
    have hjlt : j < ops.size := (Array.getElem?_eq_some_iff.1 ho).1
    have hun' : L.getD j false = false := by
      have : j < L.size := by rw [A.lsz]; exact hjlt
      simpa [this] using hun
    obtain ⟨v, hv⟩ : ∃ v, vals[j]? = some v := ⟨vals[j]'(by omega), by simp [hlen ▸ hjlt]⟩
    have hst := hsteps j o v ho hv
    have hlook := fun t ht => look_same H hlen A ho hun' hready (t := t) ht
    have hskip : v = .undef → K (a.put o.dst undef) w := by
      rintro rfl
      exact hK E _ w (A.step H A.inv (Ext.refl E w) ho hv hready (by simp only [RepAV]; exact ⟨[], rfl, RepL.nil⟩))
    have hdo : QSem P (lexT ops T0 vals j) h o v → o.wp P a w K Q := by
      intro hq
      refine hq I0 w0 E w a K Q A.inv (fun x hx => ?_) (fun val E' w' hI hxt hr => hK E' _ w' (A.step H hI hxt ho hv hready hr))
      cases x with
      | tmp t =>
        exact hlook t (by unfold looks; refine List.mem_append_left _ ?_; rw [List.mem_filterMap]; exact ⟨.tmp t, by simpa using hx, rfl⟩)
      | const c => exact rep_const c
      | global g => simp [ev, RepAV]
      | func f => simp only [ev, Act.eval, RepAV]; exact ⟨[], by simp, RepL.nil⟩
    unfold wpOp
    simp only [ho]
    unfold OStep at hst
    cases hg : o.guard with
    | none =>
      rw [hg] at hst
      have : Region.wanted o (yielded ops a.tmps) = true := by simp [Region.wanted, hg]
      rw [this]; simp only [if_true]
      exact .inl (hdo hst)
    | some gw =>
      obtain ⟨g, want⟩ := gw
      rw [hg] at hst
      obtain ⟨d, hd, hcases⟩ := hst
      have hl := hlook d (by unfold looks; refine List.mem_append_right _ ?_; rw [hg]; simp [hd])
      have hy : ∀ u, a.tmps.getD d undef = u → yielded ops a.tmps g = (match u with | .bool b => some b | _ => none) := by
        rintro u rfl
        unfold yielded
        rw [hd]
        simp only [Option.bind_some]
        cases e : a.tmps[d]? with
        | none => simp [e, undef]
        | some u => simp only [Array.getD_eq_getD_getElem?, e, Option.getD_some]; cases u <;> rfl
      rcases hcases with ⟨b, hb, hcase⟩ | ⟨hb, rfl⟩
      · rw [hb] at hl
        have hy' := hy _ (rep_bool hl)
        rcases hcase with ⟨rfl, hq⟩ | ⟨hne, rfl⟩
        · have : Region.wanted o (yielded ops a.tmps) = true := by simp [Region.wanted, hg, hy']
          rw [this]; simp only [if_true]
          exact .inl (hdo hq)
        · have : Region.wanted o (yielded ops a.tmps) = false := by simp [Region.wanted, hg, hy', hne]
          rw [this]; simp only [Bool.false_eq_true, if_false]
          exact hskip rfl
      · rw [hb] at hl
        simp only [RepAV] at hl
        obtain ⟨vs, hu, hnil⟩ := hl
        have hy' := hy _ hu
        have : Region.wanted o (yielded ops a.tmps) = false := by simp [Region.wanted, hg, hy']
        rw [this]; simp only [Bool.false_eq_true, if_false]
        exact hskip rfl
  intro fuel
  induction fuel with
  | zero =>
    intro L E a w A hc
    have hr : Region.ready .any ops L = [] := by
      rw [List.eq_nil_iff_forall_not_mem]
      intro j hj
      obtain ⟨hun, o, ho, _⟩ := mem_ready.1 hj
      have hjlt : j < ops.size := (Array.getElem?_eq_some_iff.1 ho).1
      have : j ∈ (List.range ops.size).filter fun i => !L.getD i false := by
        rw [List.mem_filter, List.mem_range]
        have : j < L.size := by rw [A.lsz]; exact hjlt
        exact ⟨hjlt, by simpa [this] using hun⟩
      rw [List.eq_nil_of_length_eq_zero (Nat.le_zero.1 hc)] at this
      cases this
    exact ⟨hr, fin L E a w A hr⟩
  | succ fuel ih =>
    intro L E a w A hc
    refine ⟨fun hr => fin L E a w A hr, fun j hj => stp _ L E a w A j hj fun E' a' w' A' => ih _ E' a' w' A' ?_⟩
    obtain ⟨hun, o, ho, _⟩ := mem_ready.1 hj
    have hjlt : j < ops.size := (Array.getElem?_eq_some_iff.1 ho).1
    have hjL : j < L.size := by rw [A.lsz]; exact hjlt
    have hun' : L.getD j false = false := by simpa [hjL] using hun
    have hsub : ((List.range ops.size).filter fun i => !(L.setIfInBounds j true).getD i false) = ((List.range ops.size).filter fun i => !L.getD i false).filter fun i => i != j := by
      rw [List.filter_filter]
      apply List.filter_congr
      intro i hi
      by_cases e : i = j
      · subst e; simp [hjL]
      · rw [getD_set_ne false (Ne.symm e)]; simp [e]
    have hmem : j ∈ (List.range ops.size).filter fun i => !L.getD i false := by
      rw [List.mem_filter, List.mem_range]; exact ⟨hjlt, by simp [hun']⟩
    rw [hsub]
    have := (List.length_filter_lt_length_iff_exists (p := fun i => i != j) (l := (List.range ops.size).filter fun i => !L.getD i false)).2 ⟨j, hmem, by simp⟩
    omega
end
end Go.Ab
