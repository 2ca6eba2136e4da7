import Derived.Test.YthjochcbdhiclaaGreatAbTouch
set_option linter.unnecessarySimpa false
set_option linter.unusedVariables false
set_option linter.unusedSimpArgs false
namespace Go.Ab
open Go.RowKit
section
variable {F : Fr} {E : Env} {h : Heap} {w : World}
theorem inv_move (H : Inv F E h w) {r r2 : Nat} {c d : Cont} (hc : h.getD r none = some c) (hp : c.plain) (hr2 : h.getD r2 none = none) (hd : d.plain) {w' : World} {b : Nat} {arr : Array Value} {ty : TypeId}
    (hb : w'.heap[b]? = some (.cells arr ty (0, 0))) (hold : ∀ k, k ≠ b → k < w.heap.size → w'.heap[k]? = w.heap[k]?)
    (hbw : (E.ι r none = some (b, d.sz) ∧ ∀ a t, w.heap[b]? = some (.cells a t (0, 0)) → t = ty ∧ arr.size = a.size) ∨ (w.heap.size ≤ b)) (hsize : w.heap.size ≤ w'.heap.size) (hblt : b < w'.heap.size) (hos : w'.os = w.os) (htape : w'.tape = w.tape) (hout : w'.output = w.output ∧ w.drawn ≤ w'.drawn)
    (hfit : d.len * d.sz ≤ arr.size) (hels : ∀ i, i < d.len → ∃ cs vs, d.at? r2 i = some cs ∧ vs.length = d.sz ∧ RepL E h w cs vs ∧ ∀ (j : Nat) (hj : j < vs.length), arr[i * d.sz + j]? = some vs[j]) :
    Inv F ((E.clr r).set r2 none (some (b, d.sz))) (setH (setH h r .dead) r2 d) w' ∧ Keep E h w ((E.clr r).set r2 none (some (b, d.sz))) (setH (setH h r .dead) r2 d) w' := by
  have hne : r2 ≠ r := by rintro rfl; rw [hc] at hr2; cases hr2
  have hg2 : (setH (setH h r .dead) r2 d).getD r2 none = some d := by rw [getD_setH, if_pos rfl]
  have hg1 : (setH (setH h r .dead) r2 d).getD r none = some .dead := by rw [getD_setH, if_neg (Ne.symm hne), getD_setH, if_pos rfl]
  have hst2 := stat_plain hg2 hd
  have hst1 := stat_dead hg1
  have hst0 := stat_plain hc hp
  have hro : roAt h r = false := by rw [roAt_of hc]; exact hp.ro.1
  have hno : ∀ κ x, E.ι r2 κ ≠ some x := fun κ x hx => by obtain ⟨c', h1, _⟩ := H.heap.live r2 κ x hx; rw [hr2] at h1; cases h1
  have hι : ∀ q κ k n, q = r ∨ q = r2 → ((E.clr r).set r2 none (some (b, d.sz))).ι q κ = some (k, n) → q = r2 ∧ κ = none ∧ k = b ∧ n = d.sz := by
    intro q κ k n hq h1
    simp only [Env.set, Env.clr] at h1
    split at h1
    · rename_i e; simp only [Option.some.injEq, Prod.mk.injEq] at h1; exact ⟨e.1, e.2, h1.1.symm, h1.2.symm⟩
    · split at h1
      · cases h1
      · rename_i e1 e2; rcases hq with rfl | rfl
        · exact absurd rfl e2
        · exact absurd h1 (hno _ _)
  have hbI : ¬ E.I b := by
    rcases hbw with ⟨h1, _⟩ | h1
    · exact H.heap.apart r none b _ h1 hro
    · intro hI; have := H.heap.I_lt b hI; omega
  have T : Touch (fun q => q = r ∨ q = r2) E h w ((E.clr r).set r2 none (some (b, d.sz))) (setH (setH h r .dead) r2 d) w' := by
    refine { hh := fun q hq => by rw [getD_setH, if_neg (fun e => hq (.inr e)), getD_setH, if_neg (fun e => hq (.inl e))], hι := fun q κ hq => by simp only [Env.set, Env.clr]; rw [if_neg (fun e => hq (.inr e.1)), if_neg (fun e => hq (.inl e))],
             II := fun b hb => hb, size := hsize, os := hos, tape := htape, output := hout,
             blk := fun k hk hn => ?_, asz := fun k a t ha => ?_, off := ?_, on := ?_, som := ?_, fix := (fun q hq h1 => by rcases hq with rfl | rfl; (rw [hro] at h1; cases h1); (simp only [roAt, hr2] at h1; cases h1)), obj := ?_, siz := ?_, from_ := ?_, inj := ?_, live := ?_, Inew := fun b hb => .inl hb, apart := ?_, roI := ?_ }
    · refine hold k (fun e => ?_) hk
      subst e
      rcases hbw with ⟨h1, _⟩ | h1
      · exact hn r none d.sz (.inl rfl) hro h1
      · omega
    · by_cases e : k = b
      · subst e
        rcases hbw with ⟨_, h1⟩ | h1
        · obtain ⟨rfl, h2⟩ := h1 a t ha
          exact ⟨arr, hb, h2⟩
        · have := (Array.getElem?_eq_some_iff.1 ha).1; omega
      · exact ⟨a, by rw [hold k e (Array.getElem?_eq_some_iff.1 ha).1]; exact ha, rfl⟩
    · rintro q s (rfl | rfl) e
      · exact hst1 s
      · rw [stat_none hr2] at e; cases e
    · rintro q s c0 (rfl | rfl) e
      · exact .inl (hst1 s)
      · rw [stat_none hr2] at e; cases e
    · rintro q (rfl | rfl)
      · exact ⟨_, hg1⟩
      · exact ⟨_, hg2⟩
    · rintro K q s c0 (rfl | rfl) e
      · rw [hst1] at e; cases e
      · rw [hst2] at e
        cases s with
        | some p => exact (past_on e).elim
        | none =>
          obtain rfl : d = c0 := by simpa using e
          right
          refine ⟨b, arr, ty, by simp [Env.set, key], hb, hfit, fun i hi => ?_⟩
          obtain ⟨cs, vs, h1, h2, h3, h4⟩ := hels i hi
          exact ⟨cs, vs, h1, h2, keep_repL K cs h3, h4⟩
    · rintro q s c0 b0 n hq e h1
      obtain ⟨rfl, hs, _, h2⟩ := hι _ _ _ _ hq h1
      rw [hst2] at e
      cases s with
      | some p => exact (past_on e).elim
      | none => obtain rfl : d = c0 := by simpa using e
                exact h2
    · rintro q κ b0 n hq h1
      obtain ⟨_, _, rfl, _⟩ := hι _ _ _ _ hq h1
      rcases hbw with ⟨h2, _⟩ | h2
      · exact .inr ⟨r, none, d.sz, .inl rfl, .inl hro, h2⟩
      · exact .inl ⟨h2, hblt⟩
    · rintro q κ q' κ' b0 n n' hq hq' h1 h2
      obtain ⟨rfl, rfl, _⟩ := hι _ _ _ _ hq h1
      obtain ⟨rfl, rfl, _⟩ := hι _ _ _ _ hq' h2
      exact ⟨rfl, rfl⟩
    · rintro q κ ⟨k, n⟩ hq h1
      obtain ⟨rfl, _⟩ := hι _ _ _ _ hq h1
      exact ⟨d, hg2, hd.ro.2⟩
    · rintro q κ b0 n hq h1 _
      obtain ⟨_, _, rfl, _⟩ := hι _ _ _ _ hq h1
      exact hbI
    · rintro q κ b0 n hq h1 h2
      obtain ⟨rfl, _⟩ := hι _ _ _ _ hq h1
      rw [roAt_of hg2, hd.ro.1] at h2; cases h2
  exact T.inv H
def BlkOf (E : Env) (r b : Nat) : Prop := ∃ κ n, E.ι r κ = some (b, n)
theorem inv_fz_lst (H : Inv F E h w) {r : Nat} {ro : Bool} {t : Ty} {xs : List (den t)} (hc : h.getD r none = some (.lst ro t xs)) :
    Inv F ⟨E.ι, fun b => E.I b ∨ BlkOf E r b⟩ (setH h r (.lst true t xs)) w ∧ Keep E h w ⟨E.ι, fun b => E.I b ∨ BlkOf E r b⟩ (setH h r (.lst true t xs)) w := by
  have hg : (setH h r (.lst true t xs)).getD r none = some (.lst true t xs) := by rw [getD_setH, if_pos rfl]
  have T : Touch (fun q => q = r) E h w ⟨E.ι, fun b => E.I b ∨ BlkOf E r b⟩ (setH h r (.lst true t xs)) w := by
    refine { hh := fun q hq => by rw [getD_setH, if_neg hq], hι := fun q κ hq => rfl, II := fun b hb => .inl hb, size := Nat.le_refl _, os := rfl, tape := rfl, output := ⟨rfl, Nat.le_refl _⟩,
             blk := fun b hb _ => rfl, asz := fun b a t ha => ⟨a, ha, rfl⟩, off := ?_, on := ?_, som := ?_, fix := (fun q hq h1 => by subst hq; rw [roAt_of hc] at h1; obtain rfl : ro = true := h1; rw [hg, hc]), obj := ?_, siz := ?_, from_ := ?_, inj := ?_, live := ?_, Inew := ?_, apart := ?_, roI := ?_ }
    · rintro q s rfl e
      cases s with
      | none => simp only [stat, hc] at e; cases e
      | some p => simp only [stat, hg]
    · rintro q s c rfl e
      cases s with
      | none =>
        simp only [stat, hc] at e
        obtain rfl := by simpa using e
        exact .inr ⟨.lst true t xs, by simp only [stat, hg], rfl, rfl, rfl⟩
      | some p => simp only [stat, hc] at e; cases e
    · rintro q rfl; exact ⟨_, hg⟩
    · rintro K q s c rfl e
      cases s with
      | some p => simp only [stat, hg] at e; cases e
      | none =>
        simp only [stat, hg] at e
        obtain rfl : Cont.lst true t xs = c := by simpa using e
        refine (H.heap.obj q none (.lst ro t xs) (by simp only [stat, hc])).imp id ?_
        rintro ⟨b, arr, ty, h1, h2, h3, h4⟩
        refine ⟨b, arr, ty, h1, h2, h3, fun i hi => ?_⟩
        obtain ⟨cs, vs, k1, k2, k3, k4⟩ := h4 i hi
        exact ⟨cs, vs, k1, k2, keep_repL K cs k3, k4⟩
    · rintro q s c b n rfl e h1
      cases s with
      | some p => simp only [stat, hg] at e; cases e
      | none =>
        simp only [stat, hg] at e
        obtain rfl : Cont.lst true t xs = c := by simpa using e
        exact H.heap.siz q none (.lst ro t xs) b n (by simp only [stat, hc]) h1
    · rintro q κ b n rfl h1
      right
      refine ⟨q, κ, n, rfl, ?_, h1⟩
      cases e : roAt h q with
      | false => exact .inl rfl
      | true => exact .inr (H.heap.roI q κ b n h1 e)
    · rintro q κ q' κ' b n n' rfl rfl h1 h2; exact H.heap.inj _ _ _ _ _ _ _ h1 h2
    · rintro q κ x rfl h1; exact ⟨_, hg, by simp⟩
    · rintro b (hb | ⟨κ, n, hb⟩)
      · exact .inl hb
      · cases e : roAt h r with
        | false => exact .inr (.inr ⟨r, κ, n, rfl, e, hb⟩)
        | true => exact .inl (H.heap.roI r κ b n hb e)
    · rintro q κ b n rfl h1 h2; rw [roAt_of hg] at h2; cases h2
    · rintro q κ b n rfl h1 h2; exact .inr ⟨κ, n, h1⟩
  exact T.inv H
theorem nested_ro {ro ro' : Bool} {t : Ty} {xs : List (den t)} {i k : Nat} {c : Cont} (h : nested ro t xs i k = some c) : ∃ u ys, c = .lst ro u ys ∧ nested ro' t xs i k = some (.lst ro' u ys) := by
  obtain ⟨u, ys, rfl, hi, h2⟩ := nested_lst h
  refine ⟨u, ys, rfl, ?_⟩
  unfold nested
  rw [List.getElem?_eq_getElem hi]
  simp only [Option.bind_some, h2]
theorem stat_tree {r : Nat} {ro : Bool} {ver : Nat} {t : Ty} {xs : List (den t)} {ho : Option (Nat × Nat)} (hc : h.getD r none = some (.tree ro ver t xs ho)) : stat h r none = .on (.tree ro ver t xs ho) := by
  simp only [stat, hc]
theorem stat_treeN {r : Nat} {ro : Bool} {ver : Nat} {t : Ty} {xs : List (den t)} {ho : Option (Nat × Nat)} (hc : h.getD r none = some (.tree ro ver t xs ho)) (i k v : Nat) : stat h r (some (i, k, v)) = (if ver < v then .no else if v < ver ∨ ho = some (i, k) then .off else match nested ro t xs i k with
    | some c => .on c
    | none => .no) := by
  simp only [stat, hc]; rfl
theorem stat_nest {r : Nat} {ro : Bool} {ver : Nat} {t : Ty} {xs : List (den t)} {ho : Option (Nat × Nat)} (hc : h.getD r none = some (.tree ro ver t xs ho)) {i k v : Nat} {c : Cont} (e : stat h r (some (i, k, v)) = .on c) : v = ver ∧ ho ≠ some (i, k) ∧ nested ro t xs i k = some c := by
  rw [stat_treeN hc] at e
  split at e
  · cases e
  · split at e
    · cases e
    · rename_i h1 h2
      rw [not_or] at h2
      split at e
      · rename_i c' hn
        obtain rfl : c' = c := by simpa using e
        exact ⟨by omega, h2.2, hn⟩
      · cases e
theorem inv_fz_tree (H : Inv F E h w) {r : Nat} {ro : Bool} {ver : Nat} {t : Ty} {xs : List (den t)} (hc : h.getD r none = some (.tree ro ver t xs none)) :
    Inv F ⟨E.ι, fun b => E.I b ∨ BlkOf E r b⟩ (setH h r (.tree true ver t xs none)) w ∧ Keep E h w ⟨E.ι, fun b => E.I b ∨ BlkOf E r b⟩ (setH h r (.tree true ver t xs none)) w := by
  have hg : (setH h r (.tree true ver t xs none)).getD r none = some (.tree true ver t xs none) := by rw [getD_setH, if_pos rfl]
  have tr : ∀ s c, stat h r s = .on c → ∃ c', stat (setH h r (.tree true ver t xs none)) r s = .on c' ∧ c'.len = c.len ∧ c'.sz = c.sz ∧ ∀ q i, c'.at? q i = c.at? q i := by
    intro s c e
    cases s with
    | none =>
      rw [stat_tree hc] at e; obtain rfl : Cont.tree ro ver t xs none = c := by simpa using e
      exact ⟨.tree true ver t xs none, stat_tree hg, rfl, rfl, fun _ _ => rfl⟩
    | some p =>
      obtain ⟨i, k, v⟩ := p
      obtain ⟨rfl, _, hn⟩ := stat_nest hc e
      obtain ⟨u, ys, rfl, hn'⟩ := nested_ro (ro' := true) hn
      exact ⟨.lst true u ys, by rw [stat_treeN hg]; simp [hn'], rfl, rfl, fun _ _ => rfl⟩
  have tr' : ∀ s c', stat (setH h r (.tree true ver t xs none)) r s = .on c' → ∃ c, stat h r s = .on c ∧ c'.len = c.len ∧ c'.sz = c.sz ∧ ∀ q i, c'.at? q i = c.at? q i := by
    intro s c' e
    cases s with
    | none =>
      rw [stat_tree hg] at e; obtain rfl : Cont.tree true ver t xs none = c' := by simpa using e
      exact ⟨.tree ro ver t xs none, stat_tree hc, rfl, rfl, fun _ _ => rfl⟩
    | some p =>
      obtain ⟨i, k, v⟩ := p
      obtain ⟨rfl, _, hn⟩ := stat_nest hg e
      obtain ⟨u, ys, rfl, hn'⟩ := nested_ro (ro' := ro) hn
      exact ⟨.lst ro u ys, by rw [stat_treeN hc]; simp [hn'], rfl, rfl, fun _ _ => rfl⟩
  have T : Touch (fun q => q = r) E h w ⟨E.ι, fun b => E.I b ∨ BlkOf E r b⟩ (setH h r (.tree true ver t xs none)) w := by
    refine { hh := fun q hq => by rw [getD_setH, if_neg hq], hι := fun q κ hq => rfl, II := fun b hb => .inl hb, size := Nat.le_refl _, os := rfl, tape := rfl, output := ⟨rfl, Nat.le_refl _⟩,
             blk := fun b hb _ => rfl, asz := fun b a t ha => ⟨a, ha, rfl⟩, off := ?_, on := ?_, som := ?_, fix := (fun q hq h1 => by subst hq; rw [roAt_of hc] at h1; obtain rfl : ro = true := h1; rw [hg, hc]), obj := ?_, siz := ?_, from_ := ?_, inj := ?_, live := ?_, Inew := ?_, apart := ?_, roI := ?_ }
    · rintro q s rfl e
      cases s with
      | none => rw [stat_tree hc] at e; cases e
      | some p =>
        obtain ⟨i, k, v⟩ := p
        rw [stat_treeN hc] at e; rw [stat_treeN hg]
        split at e
        · cases e
        · split at e
          · rename_i h1 h2; rw [if_neg h1, if_pos h2]
          · split at e <;> cases e
    · rintro q s c rfl e
      obtain ⟨c', h1, h2, h3, _⟩ := tr s c e
      exact .inr ⟨c', h1, h2, h3, rfl⟩
    · rintro q rfl; exact ⟨_, hg⟩
    · rintro K q s c' rfl e
      obtain ⟨c, h1, h2, h3, h4⟩ := tr' s c' e
      unfold ObjOK
      rw [h2, h3]
      refine (H.heap.obj q s c h1).imp id ?_
      rintro ⟨b, arr, ty, k1, k2, k3, k4⟩
      refine ⟨b, arr, ty, k1, k2, k3, fun i hi => ?_⟩
      obtain ⟨cs, vs, m1, m2, m3, m4⟩ := k4 i hi
      exact ⟨cs, vs, by rw [h4]; exact m1, m2, keep_repL K cs m3, m4⟩
    · rintro q s c' b n rfl e h1
      obtain ⟨c, k1, _, k3, _⟩ := tr' s c' e
      rw [k3]; exact H.heap.siz q s c b n k1 h1
    · rintro q κ b n rfl h1
      right
      refine ⟨q, κ, n, rfl, ?_, h1⟩
      cases e : roAt h q with
      | false => exact .inl rfl
      | true => exact .inr (H.heap.roI q κ b n h1 e)
    · rintro q κ q' κ' b n n' rfl rfl h1 h2; exact H.heap.inj _ _ _ _ _ _ _ h1 h2
    · rintro q κ x rfl h1; exact ⟨_, hg, by simp⟩
    · rintro b (hb | ⟨κ, n, hb⟩)
      · exact .inl hb
      · cases e : roAt h r with
        | false => exact .inr (.inr ⟨r, κ, n, rfl, e, hb⟩)
        | true => exact .inl (H.heap.roI r κ b n hb e)
    · rintro q κ b n rfl h1 h2; rw [roAt_of hg] at h2; cases h2
    · rintro q κ b n rfl h1 h2; exact .inr ⟨κ, n, h1⟩
  exact T.inv H
def Src (E : Env) (h : Heap) (w : World) (σ : Nat × Nat → Option (Nat × Nat)) (i k : Nat) (u : Ty) (ys : List (den u)) (v : Value) : Prop :=
  (∃ q s, stat h q s = .on (.lst false u ys) ∧ E.ι q (key s) = σ (i, k) ∧ OwnRep E w q s (.lst false u ys) none v) ∨ (ys = [] ∧ σ (i, k) = none ∧ v = .slice none 0 0)
def CellSrc (E : Env) (h : Heap) (w : World) (σ : Nat × Nat → Option (Nat × Nat)) (i k : Nat) (c : AV) (v : Value) : Prop :=
  match c with
  | .pv (.slice u) ys => Src E h w σ i k u ys v
  | c => RepAV E h w c v
def SrcL (E : Env) (h : Heap) (w : World) (σ : Nat × Nat → Option (Nat × Nat)) (i : Nat) : Nat → List AV → List Value → Prop
  | _, [], vs => vs = []
  | k, c :: cs, vs => ∃ v us, vs = v :: us ∧ CellSrc E h w σ i k c v ∧ SrcL E h w σ i (k + 1) cs us
theorem SrcL.of {E : Env} {h : Heap} {w : World} {σ : Nat × Nat → Option (Nat × Nat)} {i : Nat} : {cs : List AV} → {k : Nat} → {vs : List Value} → cs.length = vs.length → (∀ (j : Nat) (h1 : j < cs.length) (h2 : j < vs.length), CellSrc E h w σ i (k + j) cs[j] vs[j]) → SrcL E h w σ i k cs vs
  | [], k, [], _, _ => rfl
  | c :: cs, k, v :: vs, hl, hh => ⟨v, vs, rfl, hh 0 (Nat.succ_pos _) (Nat.succ_pos _), SrcL.of (by simpa using hl) fun j h1 h2 => by have := hh (j + 1) (by simpa using h1) (by simpa using h2); rw [show k + 1 + j = k + (j + 1) by omega]; simpa using this⟩
theorem SrcL.at {E : Env} {h : Heap} {w : World} {σ : Nat × Nat → Option (Nat × Nat)} {i : Nat} : {cs : List AV} → {k : Nat} → {vs : List Value} → SrcL E h w σ i k cs vs → ∀ (j : Nat) (h1 : j < cs.length) (h2 : j < vs.length), CellSrc E h w σ i (k + j) cs[j] vs[j]
  | [], k, vs, _, j, h1, _ => absurd h1 (Nat.not_lt_zero _)
  | c :: cs, k, vs, hs, j, h1, h2 => by
    simp only [SrcL] at hs; obtain ⟨v, us, rfl, h3, h4⟩ := hs
    cases j with
    | zero => exact h3
    | succ j => have := SrcL.at h4 j (by simpa using h1) (by simpa using h2); rw [show k + (j + 1) = k + 1 + j by omega]; simpa using this
theorem SrcL.length {E : Env} {h : Heap} {w : World} {σ : Nat × Nat → Option (Nat × Nat)} {i : Nat} : (cs : List AV) → {k : Nat} → {vs : List Value} → SrcL E h w σ i k cs vs → vs.length = cs.length
  | [], k, vs, h1 => by simp only [SrcL] at h1; subst h1; rfl
  | c :: cs, k, vs, h1 => by simp only [SrcL] at h1; obtain ⟨v, us, rfl, _, h2⟩ := h1; simp [SrcL.length cs h2]
theorem SrcL.get {E : Env} {h : Heap} {w : World} {σ : Nat × Nat → Option (Nat × Nat)} {i : Nat} : (cs : List AV) → {k : Nat} → {vs : List Value} → SrcL E h w σ i k cs vs → ∀ (j : Nat) {u : Ty} {ys : List (den u)}, cs[j]? = some (.pv (.slice u) ys) → ∃ v, vs[j]? = some v ∧ Src E h w σ i (k + j) u ys v
  | [], k, vs, h1, j, u, ys, e => by simp at e
  | c :: cs, k, vs, h1, 0, u, ys, e => by
    simp only [SrcL] at h1; obtain ⟨v, us, rfl, h2, _⟩ := h1
    obtain rfl : c = .pv (.slice u) ys := by simpa using e
    exact ⟨v, rfl, h2⟩
  | c :: cs, k, vs, h1, j + 1, u, ys, e => by
    simp only [SrcL] at h1; obtain ⟨v, us, rfl, _, h2⟩ := h1
    obtain ⟨v', h3, h4⟩ := SrcL.get cs h2 j (by simpa using e)
    exact ⟨v', by simpa using h3, by rw [show k + (j + 1) = k + 1 + j by omega]; exact h4⟩
theorem inv_tree (H : Inv F E h w) {r ver : Nat} {t : Ty} {xs : List (den t)} {K : Nat → Prop} (hK : ∀ q, K q → q ≠ r ∧ ∃ c, h.getD q none = some c ∧ c.ro = false)
    {h' : Heap} (hg : h'.getD r none = some (.tree false ver t xs none)) (hgK : ∀ q, K q → h'.getD q none = some .dead) (hgo : ∀ q, q ≠ r → ¬ K q → h'.getD q none = h.getD q none)
    {w' : World} {b : Nat} {arr : Array Value} {ty : TypeId} (hb : w'.heap[b]? = some (.cells arr ty (0, 0))) (hold : ∀ k, k ≠ b → k < w.heap.size → w'.heap[k]? = w.heap[k]?)
    (hr : h.getD r none = none ∨ ∃ c0, h.getD r none = some c0 ∧ c0.ro = false ∧ c0 ≠ .dead ∧ c0.len = xs.length ∧ c0.sz = t.size ∧ E.ι r none = some (b, t.size) ∧ ∀ p, stat h r (some p) ≠ .no → p.2.2 < ver)
    (hbw : (∃ q n, (q = r ∨ K q) ∧ E.ι q none = some (b, n) ∧ ∀ a ty', w.heap[b]? = some (.cells a ty' (0, 0)) → ty' = ty ∧ arr.size = a.size) ∨ w.heap.size ≤ b)
    (hsize : w.heap.size ≤ w'.heap.size) (hblt : b < w'.heap.size) (hos : w'.os = w.os) (htape : w'.tape = w.tape) (hout : w'.output = w.output ∧ w.drawn ≤ w'.drawn)
    (hfit : xs.length * t.size ≤ arr.size) (σ : Nat × Nat → Option (Nat × Nat))
    (hσ : ∀ p b' n', σ p = some (b', n') → ∃ q κ, (q = r ∨ K q) ∧ E.ι q κ = some (b', n') ∧ b' ≠ b) (hσi : ∀ p p' b' n n', σ p = some (b', n) → σ p' = some (b', n') → p = p')
    (hels : ∀ i (hi : i < xs.length), ∃ vs : List Value, SrcL E h w σ i 0 (flat t xs[i]) vs ∧ ∀ (j : Nat) (hj : j < vs.length), arr[i * t.size + j]? = some vs[j]) :
    ∃ E', Inv F E' h' w' ∧ Keep E h w E' h' w' ∧ E'.ι r none = some (b, t.size) := by
  let E' : Env := ⟨fun q κ => if q = r then (match κ with | none => some (b, t.size) | some p => σ p) else open Classical in (if K q then none else E.ι q κ), E.I⟩
  have hιr : ∀ p, E'.ι r (some p) = σ p := fun p => by simp [E']
  have hιr0 : E'.ι r none = some (b, t.size) := by simp [E']
  have hιK : ∀ q κ, K q → E'.ι q κ = none := fun q κ hq => by simp only [E']; rw [if_neg (hK q hq).1, if_pos hq]
  have hιo : ∀ q κ, q ≠ r → ¬ K q → E'.ι q κ = E.ι q κ := fun q κ h1 h2 => by simp only [E']; rw [if_neg h1, if_neg h2]
  have hroK : ∀ q, (q = r ∨ K q) → ∀ κ x, E.ι q κ = some x → roAt h q = false := by
    rintro q (rfl | hq) κ x hx
    · rcases hr with h1 | ⟨c0, h1, h2, _⟩
      · obtain ⟨c', h3, _⟩ := H.heap.live q κ x hx; rw [h1] at h3; cases h3
      · rw [roAt_of h1, h2]
    · obtain ⟨_, c, h1, h2⟩ := hK q hq; rw [roAt_of h1, h2]
  have hfix : ∀ q, (q = r ∨ K q) → roAt h q = true → h'.getD q none = h.getD q none := by
    rintro q (rfl | hq) h1
    · rcases hr with h2 | ⟨c0, h2, h3, _⟩
      · simp only [roAt, h2] at h1; cases h1
      · rw [roAt_of h2, h3] at h1; cases h1
    · obtain ⟨_, c0, h2, h3⟩ := hK q hq; rw [roAt_of h2, h3] at h1; cases h1
  have hbI : ¬ E.I b := by
    rcases hbw with ⟨q, n, hq, h1, _⟩ | h1
    · exact H.heap.apart q none b n h1 (hroK q hq _ _ h1)
    · intro hI; have := H.heap.I_lt b hI; omega
  have hσI : ∀ p b' n', σ p = some (b', n') → ¬ E.I b' := by
    intro p b' n' h1
    obtain ⟨q, κ, hq, h2, _⟩ := hσ p b' n' h1
    exact H.heap.apart q κ b' n' h2 (hroK q hq _ _ h2)
  have hDι : ∀ q κ b0 n, (q = r ∨ K q) → E'.ι q κ = some (b0, n) → q = r ∧ ((κ = none ∧ b0 = b ∧ n = t.size) ∨ ∃ p, κ = some p ∧ σ p = some (b0, n)) := by
    rintro q κ b0 n (rfl | hq) h1
    · refine ⟨rfl, ?_⟩
      cases κ with
      | none => rw [hιr0] at h1; simp only [Option.some.injEq, Prod.mk.injEq] at h1; exact .inl ⟨rfl, h1.1.symm, h1.2.symm⟩
      | some p => rw [hιr] at h1; exact .inr ⟨p, rfl, h1⟩
    · rw [hιK q κ hq] at h1; cases h1
  have hstK : ∀ q, K q → ∀ s, stat h' q s = .off := fun q hq => stat_dead (hgK q hq)
  have hnest : ∀ i k v c, stat h' r (some (i, k, v)) = .on c → v = ver ∧ ∃ u ys, c = .lst false u ys ∧ ∃ hi : i < xs.length, (flat t xs[i])[k]? = some (.pv (.slice u) ys) := by
    intro i k v c e
    obtain ⟨rfl, _, hn⟩ := stat_nest hg e
    obtain ⟨u, ys, rfl, hi, h2⟩ := nested_lst hn
    exact ⟨rfl, u, ys, rfl, hi, h2⟩
  have hsrc : ∀ i k u (ys : List (den u)) (hi : i < xs.length), (flat t xs[i])[k]? = some (.pv (.slice u) ys) → ∃ v, Src E h w σ i k u ys v := by
    intro i k u ys hi e
    obtain ⟨vs, h1, _⟩ := hels i hi
    obtain ⟨v, _, h2⟩ := SrcL.get _ h1 k e
    rw [Nat.zero_add] at h2
    exact ⟨v, h2⟩
  have hbk : ∀ k, k ≠ b → k < w.heap.size → w'.heap[k]? = w.heap[k]? := hold
  have T : Touch (fun q => q = r ∨ K q) E h w E' h' w' := by
    refine { hh := fun q hq => hgo q (fun e => hq (.inl e)) (fun e => hq (.inr e)), hι := fun q κ hq => hιo q κ (fun e => hq (.inl e)) (fun e => hq (.inr e)),
             II := fun b hb => hb, size := hsize, os := hos, tape := htape, output := hout,
             blk := fun k hk hn => ?_, asz := fun k a ty' ha => ?_, off := ?_, on := ?_, som := ?_, fix := hfix, obj := ?_, siz := ?_, from_ := ?_, inj := ?_, live := ?_, Inew := fun b hb => .inl hb, apart := ?_, roI := ?_ }
    · refine hold k (fun e => ?_) hk
      subst e
      rcases hbw with ⟨q, n, hq, h1, _⟩ | h1
      · exact hn q none n hq (hroK q hq _ _ h1) h1
      · omega
    · by_cases e : k = b
      · subst e
        rcases hbw with ⟨_, _, _, _, h1⟩ | h1
        · obtain ⟨rfl, h2⟩ := h1 a ty' ha
          exact ⟨arr, hb, h2⟩
        · have := (Array.getElem?_eq_some_iff.1 ha).1; omega
      · exact ⟨a, by rw [hold k e (Array.getElem?_eq_some_iff.1 ha).1]; exact ha, rfl⟩
    · rintro q s (rfl | hq) e
      · rcases hr with h1 | ⟨c0, h1, h2, h3, h4, h5, h6, h7⟩
        · rw [stat_none h1] at e; cases e
        · cases s with
          | none => rw [stat_root h1 h3] at e; cases e
          | some p =>
            obtain ⟨i, k, v⟩ := p
            have : v < ver := h7 (i, k, v) (by rw [e]; simp)
            rw [stat_treeN hg, if_neg (by omega), if_pos (.inl this)]
      · exact hstK q hq s
    · rintro q s c (rfl | hq) e
      · rcases hr with h1 | ⟨c0, h1, h2, h3, h4, h5, h6, h7⟩
        · rw [stat_none h1] at e; cases e
        · cases s with
          | none =>
            rw [stat_root h1 h3] at e; obtain rfl : c0 = c := by simpa using e
            exact .inr ⟨_, stat_tree hg, h4.symm, h5.symm, by simp only [key]; rw [hιr0, h6]⟩
          | some p =>
            obtain ⟨i, k, v⟩ := p
            have : v < ver := h7 (i, k, v) (by rw [e]; simp)
            left; rw [stat_treeN hg, if_neg (by omega), if_pos (.inl this)]
      · exact .inl (hstK q hq s)
    · rintro q (rfl | hq)
      · exact ⟨_, hg⟩
      · exact ⟨_, hgK q hq⟩
    · rintro Kp q s c (rfl | hq) e
      · cases s with
        | none =>
          rw [stat_tree hg] at e
          obtain rfl : Cont.tree false ver t xs none = c := by simpa using e
          right
          refine ⟨b, arr, ty, hιr0, hb, hfit, fun i hi => ?_⟩
          have hi' : i < xs.length := hi
          obtain ⟨vs, h1, h2⟩ := hels i hi'
          refine ⟨reloc q ver none i 0 (flat t xs[i]), vs, by simp [Cont.at?, hi'], by rw [SrcL.length _ h1, flat_len]; rfl, ?_, h2⟩
          have : ∀ (cs : List AV) (k : Nat) (us : List Value), (∀ j, j < cs.length → (flat t xs[i])[k + j]? = cs[j]?) → SrcL E h w σ i k cs us → RepL E' h' w' (reloc q ver none i k cs) us := by
            intro cs
            induction cs with
            | nil => intro k us _ hs; simp only [SrcL] at hs; subst hs; exact RepL.nil
            | cons c cs ih =>
              intro k us hcs hs
              simp only [SrcL] at hs
              obtain ⟨v, us, rfl, h3, h4⟩ := hs
              have ih := ih (k + 1) us (fun j hj => by have := hcs (j + 1) (by simp; omega); rw [show k + 1 + j = k + (j + 1) by omega, this]; simp) h4
              have hk := hcs 0 (by simp)
              simp only [Nat.add_zero, List.getElem?_cons_zero] at hk
              cases c with
              | pv t' x =>
                cases t' with
                | slice u =>
                  simp only [reloc, reduceCtorEq, if_false]
                  refine RepL.cons ?_ ih
                  simp only [RepAV]
                  have hst : stat h' q (some (i, k, ver)) = .on (.lst false u x) := by
                    have hn : nested false t xs i k = some (.lst false u x) := by
                      unfold nested; rw [List.getElem?_eq_getElem hi']; simp only [Option.bind_some, hk]
                    rw [stat_treeN hg]; simp [hn]
                  rw [own_on hst]
                  rcases h3 with ⟨q0, s0, h5, h6, h7⟩ | ⟨h5, h6, rfl⟩
                  · obtain ⟨hle, h8⟩ := h7
                    refine ⟨hle, h8.imp id ?_⟩
                    rintro ⟨b0, n, a, k1, k2, k3, k4, arr0, ty0, k5, k6⟩
                    rw [h6] at k1
                    obtain ⟨q1, κ1, hq1, k7, hne⟩ := hσ _ _ _ k1
                    exact ⟨b0, n, a, by simp only [key]; rw [hιr]; exact k1, k2, k3, k4, arr0, ty0, by rw [hold b0 hne (H.heap.own_lt b0 ⟨_, _, _, k7⟩)]; exact k5, k6⟩
                  · subst h5; exact ⟨by simp [Cont.len], .inl ⟨rfl, rfl⟩⟩
                | _ => exact RepL.cons (keep_rep Kp _ h3) ih
              | _ => exact RepL.cons (keep_rep Kp _ h3) ih
          exact this _ 0 vs (fun j hj => by rw [Nat.zero_add]) h1
        | some p =>
          obtain ⟨i, k, v⟩ := p
          obtain ⟨rfl, u, ys, rfl, hi, hk⟩ := hnest i k v c e
          obtain ⟨v', hs⟩ := hsrc i k u ys hi hk
          rcases hs with ⟨q0, s0, h5, h6, h7⟩ | ⟨h5, h6, rfl⟩
          · refine (H.heap.obj q0 s0 _ h5).imp id ?_
            rintro ⟨b0, arr0, ty0, k1, k2, k3, k4⟩
            rw [h6] at k1
            obtain ⟨q1, κ1, hq1, k7, hne⟩ := hσ _ _ _ k1
            refine ⟨b0, arr0, ty0, by simp only [key]; rw [hιr]; exact k1, by rw [hold b0 hne (H.heap.own_lt b0 ⟨_, _, _, k7⟩)]; exact k2, k3, fun j hj => ?_⟩
            obtain ⟨cs, vs, m1, m2, m3, m4⟩ := k4 j hj
            exact ⟨cs, vs, m1, m2, keep_repL Kp cs m3, m4⟩
          · subst h5; exact .inl rfl
      · rw [hstK q hq] at e; cases e
    · rintro q s c b0 n (rfl | hq) e h1
      · cases s with
        | none =>
          rw [stat_tree hg] at e
          obtain rfl : Cont.tree false ver t xs none = c := by simpa using e
          simp only [key] at h1; rw [hιr0] at h1; simp only [Option.some.injEq, Prod.mk.injEq] at h1; exact h1.2.symm
        | some p =>
          obtain ⟨i, k, v⟩ := p
          obtain ⟨rfl, u, ys, rfl, hi, hk⟩ := hnest i k v c e
          simp only [key] at h1; rw [hιr] at h1
          obtain ⟨v', hs⟩ := hsrc i k u ys hi hk
          rcases hs with ⟨q0, s0, h5, h6, h7⟩ | ⟨h5, h6, rfl⟩
          · exact H.heap.siz q0 s0 _ b0 n h5 (h6.trans h1)
          · rw [h6] at h1; cases h1
      · rw [hstK q hq] at e; cases e
    · rintro q κ b0 n hq h1
      obtain ⟨rfl, ⟨_, rfl, _⟩ | ⟨p, _, h2⟩⟩ := hDι q κ b0 n hq h1
      · rcases hbw with ⟨q0, n0, hq0, h3, _⟩ | h3
        · exact .inr ⟨q0, none, n0, hq0, .inl (hroK q0 hq0 _ _ h3), h3⟩
        · exact .inl ⟨h3, hblt⟩
      · obtain ⟨q0, κ0, hq0, h3, _⟩ := hσ p b0 n h2
        exact .inr ⟨q0, κ0, n, hq0, .inl (hroK q0 hq0 _ _ h3), h3⟩
    · rintro q κ q' κ' b0 n n' hq hq' h1 h2
      obtain ⟨rfl, h3⟩ := hDι q κ b0 n hq h1
      obtain ⟨rfl, h4⟩ := hDι q' κ' b0 n' hq' h2
      refine ⟨rfl, ?_⟩
      rcases h3 with ⟨rfl, rfl, _⟩ | ⟨p, rfl, h3⟩ <;> rcases h4 with ⟨rfl, e4, _⟩ | ⟨p', rfl, h4⟩
      · rfl
      · obtain ⟨_, _, _, _, hne⟩ := hσ p' _ _ h4; exact absurd rfl hne
      · subst e4; obtain ⟨_, _, _, _, hne⟩ := hσ p _ _ h3; exact absurd rfl hne
      · rw [hσi p p' b0 n n' h3 h4]
    · rintro q κ ⟨b0, n⟩ hq h1
      obtain ⟨rfl, _⟩ := hDι q κ b0 n hq h1
      exact ⟨_, hg, by simp⟩
    · rintro q κ b0 n hq h1 _
      obtain ⟨rfl, ⟨_, rfl, _⟩ | ⟨p, _, h2⟩⟩ := hDι q κ b0 n hq h1
      · exact hbI
      · exact hσI p b0 n h2
    · rintro q κ b0 n hq h1 h2
      obtain ⟨rfl, _⟩ := hDι q κ b0 n hq h1
      rw [roAt_of hg] at h2; cases h2
  exact ⟨E', (T.inv H).1, (T.inv H).2, hιr0⟩
end
end Go.Ab
