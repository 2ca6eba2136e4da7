import Derived.Test.YthjochcbdhiclaaGreatAbMat2
set_option linter.unnecessarySimpa false
set_option linter.unusedVariables false
set_option linter.unusedSimpArgs false
namespace Go.Ab
theorem nodupB_spec : {l : List Nat} → nodupB l = true → l.Nodup
  | [], _ => List.nodup_nil
  | a :: l, h => by
    unfold nodupB at h
    rw [Bool.and_eq_true] at h
    rw [List.nodup_cons]
    exact ⟨by simpa using h.1, nodupB_spec h.2⟩
theorem bound_mem {ρ : Ren} {q r : Nat} (h : ρ.getD q none = some r) : r ∈ boundOf ρ := by
  induction ρ generalizing q with
  | nil => simp at h
  | cons o ρ ih =>
    cases q with
    | zero => simp at h; subst h; simp [boundOf]
    | succ q =>
      have := ih (q := q) (by simpa using h)
      cases o <;> simp [boundOf, this]
theorem bound_inj {ρ : Ren} (hn : (boundOf ρ).Nodup) {q q' r : Nat} (h : ρ.getD q none = some r) (h' : ρ.getD q' none = some r) : q = q' := by
  induction ρ generalizing q q' with
  | nil => simp at h
  | cons o ρ ih =>
    cases o with
    | none =>
      cases q with
      | zero => simp at h
      | succ q => cases q' with
        | zero => simp at h'
        | succ q' => exact congrArg (· + 1) (ih hn (by simpa using h) (by simpa using h'))
    | some a =>
      simp only [boundOf, List.nodup_cons] at hn
      cases q with
      | zero =>
        simp at h; subst h
        cases q' with
        | zero => rfl
        | succ q' => exact absurd (bound_mem (by simpa using h')) hn.1
      | succ q => cases q' with
        | zero => simp at h'; subst h'; exact absurd (bound_mem (by simpa using h)) hn.1
        | succ q' => exact congrArg (· + 1) (ih hn.2 (by simpa using h) (by simpa using h'))
theorem idOk_spec {ρ : Ren} : {n : Nat} → idOk ρ n = true → ∀ q, q < n → ρ.getD q none = some q
  | 0, _, q, h => absurd h (Nat.not_lt_zero _)
  | n + 1, e, q, h => by
    unfold idOk at e
    rw [Bool.and_eq_true] at e
    by_cases hq : q = n
    · subst hq; exact rIs_spec e.1
    · exact idOk_spec e.2 q (by omega)
theorem ref_move {E E' : Env} {h h' : Heap} {w : World} {r q : Nat} {s s' : Sub} {c c' : Cont} (h1 : stat h r s = .on c) (h2 : stat h' q s' = .on c') (hl : c'.len = c.len) (hs : c'.sz = c.sz) (hι : E'.ι q (key s') = E.ι r (key s)) :
    (∀ rg v, OwnAV E h w r s rg v → OwnAV E' h' w q s' rg v) ∧ ∀ i off v, PtrAV E h r s i off v → PtrAV E' h' q s' i off v := by
  refine ⟨fun rg v hv => ?_, fun i off v hv => ?_⟩
  · rw [own_on h1] at hv; rw [own_on h2]
    unfold OwnRep at hv ⊢
    rw [hl, hs, hι]; exact hv
  · rw [ptr_on h1] at hv; rw [ptr_on h2]
    rw [hs, hι]; exact hv
theorem ref_off {E E' : Env} {h h' : Heap} {w : World} {r q : Nat} {s s' : Sub} (h2 : stat h' q s' = .off) :
    (∀ rg v, OwnAV E h w r s rg v → OwnAV E' h' w q s' rg v) ∧ ∀ i off v, PtrAV E h r s i off v → PtrAV E' h' q s' i off v := by
  refine ⟨fun rg v hv => ?_, fun i off v hv => ?_⟩
  · unfold OwnAV at hv ⊢
    rw [h2]
    split at hv
    · exact hv.elim
    · exact hv
    · exact hv.one
  · unfold PtrAV at hv ⊢
    rw [h2]
    split at hv
    · exact hv.elim
    · exact hv
    · obtain ⟨b, _, rfl⟩ := hv; exact ⟨_, rfl⟩
def Src1 (br : Bool) (n m : Nat) (h hv hp : Heap) (ρ : Ren) (ver : Nat → Nat) (q : Nat) (o : Cont) : Prop :=
  o = .dead ∨
  (ρ.getD q none = none ∧ ((∃ ro t, o = .lst ro t []) ∨ ∃ ro t, o = .tree ro (ver q) t [] none)) ∨
  ∃ r, ρ.getD q none = some r ∧
    ((∃ ro ro' t xs, h.getD r none = some (.lst ro' t xs) ∧ o = .lst ro t xs ∧ roOk br ro ro' = true) ∨
     (∃ ro ro' v' t xs, h.getD r none = some (.tree ro' v' t xs none) ∧ o = .tree ro (ver q) t xs none ∧ roOk br ro ro' = true ∧ (∀ v, curVer hv r v = true → v = v') ∧ verOk n q ro' (ver q) v' = true) ∨
     (∃ k cs cs', h.getD r none = some (.cells k [cs]) ∧ o = .cells k [cs'] ∧ ∀ E h0 w E' h', RefMap m hv hp ρ ver E h0 w E' h' → ∀ us, RepL E h0 w cs us → RepL E' h' w cs' us))
theorem curVer_spec {hv h : Heap} (hs : SubH hv h) {r v : Nat} (e : curVer hv r v = true) : ∃ ro t xs ho, h.getD r none = some (.tree ro v t xs ho) := by
  unfold curVer at e
  split at e
  · rename_i ro v' t xs ho hc
    obtain rfl := eq_of_beq e
    exact ⟨ro, t, xs, ho, hs.lst hc (by simp) (by simp)⟩
  · cases e
theorem Stands.src {br : Bool} {n m : Nat} {h hv hp : Heap} {ρ : Ren} {ver : Nat → Nat} {q : Nat} {o : Cont} (hs : SubH hv h) (S : Stands br n m hv hp ρ ver q (some o)) : Src1 br n m h hv hp ρ ver q o := by
  rcases S with h1 | ⟨h1, _⟩ | ⟨h1, h2⟩ | ⟨r, h1, h2⟩
  · exact .inl (by simpa using h1)
  · cases h1
  · exact .inr (.inl ⟨h1, h2.imp (fun ⟨ro, t, e⟩ => ⟨ro, t, by simpa using e⟩) (fun ⟨ro, t, e⟩ => ⟨ro, t, by simpa using e⟩)⟩)
  · refine .inr (.inr ⟨r, h1, ?_⟩)
    rcases h2 with ⟨ro, ro', t, xs, h3, h4, h5⟩ | ⟨ro, ro', v', t, xs, h3, h4, h5, h6⟩ | ⟨k, cs, cs', h3, h4, h5⟩
    · exact .inl ⟨ro, ro', t, xs, hs.lst h3 (by simp) (by simp), by simpa using h4, h5⟩
    · refine .inr (.inl ⟨ro, ro', v', t, xs, hs.lst h3 (by simp) (by simp), by simpa using h4, h5, fun v hv1 => ?_, h6⟩)
      unfold curVer at hv1; rw [h3] at hv1; exact (eq_of_beq hv1).symm
    · exact .inr (.inr ⟨k, cs, cs', hs.lst h3 (by simp) (by simp), by simpa using h4, h5⟩)
section
variable {br : Bool} {n m : Nat} {h hv hp h' : Heap} {ρ : Ren} {ver : Nat → Nat} {E : Env} {w : World} {J : Nat → Prop}
def alive (h : Heap) (q : Nat) : Bool := match h.getD q none with
  | none => false
  | some .dead => false
  | _ => true
def Env.ren (E : Env) (h' : Heap) (ρ : Ren) (J : Nat → Prop) : Env := ⟨fun q κ => if alive h' q = true then (match ρ.getD q none with | some r => E.ι r κ | none => none) else none, J⟩
theorem ren_ι {q : Nat} {κ : Option (Nat × Nat)} {x : Nat × Nat} (e : (E.ren h' ρ J).ι q κ = some x) : ∃ r, ρ.getD q none = some r ∧ E.ι r κ = some x ∧ ∃ c, h'.getD q none = some c ∧ c ≠ .dead := by
  simp only [Env.ren] at e
  split at e
  · rename_i ha
    split at e
    · rename_i r hr
      refine ⟨r, hr, e, ?_⟩
      unfold alive at ha
      split at ha
      · cases ha
      · cases ha
      · rename_i h1 h2
        cases hc : h'.getD q none with
        | none => exact absurd hc h1
        | some c => exact ⟨c, rfl, fun hd => h2 (by rw [hc, hd])⟩
    · cases e
  · cases e
theorem ren_ι' {q r : Nat} {κ : Option (Nat × Nat)} (hr : ρ.getD q none = some r) {c : Cont} (hc : h'.getD q none = some c) (hd : c ≠ .dead) : (E.ren h' ρ J).ι q κ = E.ι r κ := by
  have : alive h' q = true := by
    unfold alive; rw [hc]
    cases c <;> first | rfl | exact absurd rfl hd
  simp only [Env.ren, this, if_true, hr]
theorem ren_map (hs : SubH hv h) (H : ∀ q, q < m → ∃ c, h'.getD q none = some c ∧ Src1 br n m h hv hp ρ ver q c) (hpk : PackOK hp E h w J) : RefMap m hv hp ρ ver E h w (E.ren h' ρ J) h' := by
  have root : ∀ q r, q < m → ρ.getD q none = some r → (∀ rg v, OwnAV E h w r none rg v → OwnAV (E.ren h' ρ J) h' w q none rg v) ∧ ∀ i off v, PtrAV E h r none i off v → PtrAV (E.ren h' ρ J) h' q none i off v := by
    intro q r hq hr
    obtain ⟨c, hc, h1⟩ := H q hq
    rcases h1 with rfl | ⟨h2, _⟩ | ⟨r', h2, h3⟩
    · exact ref_off (by simp only [stat, hc])
    · rw [hr] at h2; cases h2
    · rw [hr] at h2; obtain rfl : r = r' := by simpa using h2
      rcases h3 with ⟨ro, ro', t, xs, h4, rfl, _⟩ | ⟨ro, ro', v', t, xs, h4, rfl, _⟩ | ⟨k, cs, cs', h4, rfl, _⟩
      · exact ref_move (stat_root h4 (by simp)) (stat_root hc (by simp)) rfl rfl (ren_ι' hr hc (by simp))
      · exact ref_move (stat_root h4 (by simp)) (stat_root hc (by simp)) rfl rfl (ren_ι' hr hc (by simp))
      · exact ref_move (stat_root h4 (by simp)) (stat_root hc (by simp)) rfl rfl (ren_ι' hr hc (by simp))
  have nest : ∀ q r ve, q < m → ρ.getD q none = some r → curVer hv r ve = true → ∀ i k, (∀ rg v, OwnAV E h w r (some (i, k, ve)) rg v → OwnAV (E.ren h' ρ J) h' w q (some (i, k, ver q)) rg v) ∧ ∀ j off v, PtrAV E h r (some (i, k, ve)) j off v → PtrAV (E.ren h' ρ J) h' q (some (i, k, ver q)) j off v := by
    intro q r ve hq hr hcv i k
    obtain ⟨c, hc, h1⟩ := H q hq
    obtain ⟨ro0, t0, xs0, ho0, hv0⟩ := curVer_spec hs hcv
    rcases h1 with rfl | ⟨h2, _⟩ | ⟨r', h2, h3⟩
    · exact ref_off (r := r) (s := some (i, k, ve)) (E := E) (h := h) (w := w) (by simp only [stat, hc])
    · rw [hr] at h2; cases h2
    · rw [hr] at h2; obtain rfl : r = r' := by simpa using h2
      rcases h3 with ⟨ro, ro', t, xs, h4, rfl, _⟩ | ⟨ro, ro', v', t, xs, h4, rfl, _, h6, _⟩ | ⟨k, cs, cs', h4, rfl, _⟩
      · rw [hv0] at h4; cases h4
      · obtain rfl := h6 ve hcv
        have e1 : stat h r (some (i, k, ve)) = match nested ro' t xs i k with | some c => .on c | none => .no := by
          rw [stat_treeN h4, if_neg (Nat.lt_irrefl _), if_neg (by simp)]; rfl
        have e2 : stat h' q (some (i, k, ver q)) = match nested ro t xs i k with | some c => .on c | none => .no := by
          rw [stat_treeN hc, if_neg (Nat.lt_irrefl _), if_neg (by simp)]; rfl
        cases hn : nested ro' t xs i k with
        | none =>
          rw [hn] at e1
          exact ⟨fun rg v hv1 => by unfold OwnAV at hv1; rw [e1] at hv1; exact hv1.elim, fun j off v hv1 => by unfold PtrAV at hv1; rw [e1] at hv1; exact hv1.elim⟩
        | some c =>
          obtain ⟨u, ys, rfl, hn2⟩ := nested_ro (ro' := ro) hn
          rw [hn] at e1; rw [hn2] at e2
          exact ref_move (w := w) e1 e2 rfl rfl (ren_ι' hr hc (by simp))
      · rw [hv0] at h4; cases h4
  refine ⟨fun q r hq hr => (root q r hq hr).1, fun q r hq hr => (root q r hq hr).2, fun q r ve hq hr hcv i k => (nest q r ve hq hr hcv i k).2, fun q r ve hq hr hcv i k => (nest q r ve hq hr hcv i k).1, fun q hq hr => ?_, hpk⟩
  · obtain ⟨c, hc, h1⟩ := H q hq
    rcases h1 with rfl | ⟨h2, h3⟩ | ⟨r', h2, h3⟩
    · unfold OwnAV; simp only [stat, hc]; rfl
    · rcases h3 with ⟨ro, t, rfl⟩ | ⟨ro, t, rfl⟩
      · rw [own_on (stat_root hc (by simp))]; exact ⟨by simp [Cont.len], .inl ⟨rfl, rfl⟩⟩
      · rw [own_on (stat_root hc (by simp))]; exact ⟨by simp [Cont.len], .inl ⟨rfl, rfl⟩⟩
    · rw [hr] at h2; cases h2
theorem reloc_ren {E' : Env} {r q v' v'' i : Nat} {t : Ty} (hI : ∀ b, E.I b → E'.I b) (ho : ∀ k rg v, OwnAV E h w r (some (i, k, v')) rg v → OwnAV E' h' w q (some (i, k, v'')) rg v) : (cs : List AV) → (∀ c ∈ cs, ∃ u y, c = .pv u y) → (k : Nat) → (vs : List Value) → RepL E h w (reloc r v' none i k cs) vs → RepL E' h' w (reloc q v'' none i k cs) vs
  | [], _, k, vs, h1 => by simpa only [reloc, RepL] using h1
  | c :: cs, hc, k, vs, h1 => by
    obtain ⟨u, y, rfl⟩ := hc c (by simp)
    have ih := reloc_ren (t := t) hI ho cs (fun c hm => hc c (by simp [hm])) (k + 1)
    have hst : Stab E.I w E'.I w := fun b hb => ⟨hI b hb, rfl⟩
    cases u <;> simp only [reloc, RepL, reduceCtorEq, if_false] at h1 ⊢
    case slice u =>
      obtain ⟨v, us, rfl, h2, h3⟩ := h1
      exact ⟨v, us, rfl, by simp only [RepAV] at h2 ⊢; exact ho k _ v h2, ih us h3⟩
    all_goals
      obtain ⟨v, us, rfl, h2, h3⟩ := h1
      exact ⟨v, us, rfl, by simp only [RepAV] at h2 ⊢; exact h2.mono hst, ih us h3⟩
theorem nest_move {E' : Env} {r q v' v'' : Nat} {ro ro' : Bool} {t : Ty} {xs : List (den t)} (h1 : h.getD r none = some (.tree ro' v' t xs none)) (h2 : h'.getD q none = some (.tree ro v'' t xs none)) (hι : ∀ κ, E'.ι q κ = E.ι r κ) (i k : Nat) :
    ∀ rg v, OwnAV E h w r (some (i, k, v')) rg v → OwnAV E' h' w q (some (i, k, v'')) rg v := by
  intro rg v hv
  have e1 : stat h r (some (i, k, v')) = match nested ro' t xs i k with | some c => .on c | none => .no := by
    rw [stat_treeN h1, if_neg (Nat.lt_irrefl _), if_neg (by simp)]; rfl
  have e2 : stat h' q (some (i, k, v'')) = match nested ro t xs i k with | some c => .on c | none => .no := by
    rw [stat_treeN h2, if_neg (Nat.lt_irrefl _), if_neg (by simp)]; rfl
  cases hn : nested ro' t xs i k with
  | none => rw [hn] at e1; unfold OwnAV at hv; rw [e1] at hv; exact hv.elim
  | some c =>
    obtain ⟨u, ys, rfl, hn2⟩ := nested_ro (ro' := ro) hn
    rw [hn] at e1; rw [hn2] at e2
    exact (ref_move (w := w) e1 e2 rfl rfl (hι _)).1 rg v hv
theorem ren_stat (hs : SubH hv h) (H : ∀ q, q < m → ∃ c, h'.getD q none = some c ∧ Src1 br n m h hv hp ρ ver q c) (H2 : ∀ q, m ≤ q → h'.getD q none = none) (hpk : PackOK hp E h w J) {q : Nat} {s : Sub} {c : Cont} (e : stat h' q s = .on c) :
    (c.len = 0 ∧ ρ.getD q none = none) ∨ ∃ r s0 c0, ρ.getD q none = some r ∧ stat h r s0 = .on c0 ∧ key s0 = key s ∧ c.len = c0.len ∧ c.sz = c0.sz ∧ ∀ i cs, c0.at? r i = some cs → ∃ cs', c.at? q i = some cs' ∧ ∀ vs, RepL E h w cs vs → RepL (E.ren h' ρ J) h' w cs' vs := by
  have M := ren_map hs H hpk
  have hst : Stab E.I w J w := fun b hb => ⟨hpk.I b hb, rfl⟩
  have hq : q < m := by
    rcases Nat.lt_or_ge q m with h1 | h1
    · exact h1
    · exfalso; have := H2 q h1
      cases s <;> simp only [stat, this] at e <;> cases e
  obtain ⟨c1, hc, h1⟩ := H q hq
  have pure : ∀ (t : Ty) (x : den t) vs, RepL E h w (flat t x) vs → RepL (E.ren h' ρ J) h' w (flat t x) vs := fun t x vs hv => rep_flat (E := E.ren h' ρ J) t ((flat_rep t hv).mono hst)
  rcases h1 with rfl | ⟨h2, h3⟩ | ⟨r, h2, h3⟩
  · exfalso; cases s <;> simp only [stat, hc] at e <;> cases e
  · left
    refine ⟨?_, h2⟩
    rcases h3 with ⟨ro, t, rfl⟩ | ⟨ro, t, rfl⟩
    · cases s with
      | none => simp only [stat, hc, RefSt.on.injEq] at e; subst e; rfl
      | some p => simp only [stat, hc] at e; cases e
    · cases s with
      | none => rw [stat_tree hc, RefSt.on.injEq] at e; subst e; rfl
      | some p =>
        obtain ⟨i, k, v⟩ := p
        obtain ⟨_, _, hn⟩ := stat_nest hc e
        obtain ⟨_, _, _, hi, _⟩ := nested_lst hn
        simp at hi
  · right
    rcases h3 with ⟨ro, ro', t, xs, h4, rfl, _⟩ | ⟨ro, ro', v', t, xs, h4, rfl, _⟩ | ⟨k, cs, cs', h4, rfl, h5⟩
    · cases s with
      | none =>
        simp only [stat, hc, RefSt.on.injEq] at e; subst e
        refine ⟨r, none, _, h2, stat_root h4 (by simp), rfl, rfl, rfl, fun i cs hcs => ?_⟩
        obtain ⟨hi, rfl⟩ := at_lst hcs
        exact ⟨flat t xs[i], by simp [Cont.at?, hi], pure t _⟩
      | some p => simp only [stat, hc] at e; cases e
    · have hι := fun κ => ren_ι' (E := E) (J := J) (κ := κ) h2 hc (by simp)
      cases s with
      | none =>
        rw [stat_tree hc, RefSt.on.injEq] at e; subst e
        refine ⟨r, none, _, h2, stat_tree h4, rfl, rfl, rfl, fun i cs hcs => ?_⟩
        obtain ⟨hi, rfl⟩ := at_tree hcs
        refine ⟨_, by simp [Cont.at?, hi]; rfl, fun vs hv => ?_⟩
        exact reloc_ren (t := t) hpk.I (fun k => nest_move h4 hc hι i k) _ (flat_pv t xs[i]) 0 vs hv
      | some p =>
        obtain ⟨i, k, v⟩ := p
        obtain ⟨rfl, _, hn⟩ := stat_nest hc e
        obtain ⟨u, ys, rfl, hn2⟩ := nested_ro (ro' := ro') hn
        refine ⟨r, some (i, k, v'), .lst ro' u ys, h2, by rw [stat_treeN h4, if_neg (Nat.lt_irrefl _), if_neg (by simp), hn2], rfl, rfl, rfl, fun i cs hcs => ?_⟩
        obtain ⟨hi, rfl⟩ := at_lst hcs
        exact ⟨flat u ys[i], by simp [Cont.at?, hi], pure u _⟩
    · cases s with
      | none =>
        simp only [stat, hc, RefSt.on.injEq] at e; subst e
        refine ⟨r, none, _, h2, stat_root h4 (by simp), rfl, rfl, rfl, fun i cs1 hcs => ?_⟩
        simp only [Cont.at?] at hcs
        obtain ⟨hi, rfl⟩ := List.getElem?_eq_some_iff.1 hcs
        obtain rfl : i = 0 := by simpa using hi
        exact ⟨cs', rfl, fun vs hv => h5 E h w _ _ M vs hv⟩
      | some p => simp only [stat, hc] at e; cases e
theorem ren_heap (HK : HeapOK E h w) (hs : SubH hv h) (H : ∀ q, q < m → ∃ c, h'.getD q none = some c ∧ Src1 br n m h hv hp ρ ver q c) (H2 : ∀ q, m ≤ q → h'.getD q none = none) (hpk : PackOK hp E h w J) (hnd : (boundOf ρ).Nodup)
    (hJlt : ∀ b, J b → b < w.heap.size) (hJap : ∀ q r κ b n, ρ.getD q none = some r → roAt h' q = false → (∃ c, h'.getD q none = some c ∧ c ≠ .dead) → E.ι r κ = some (b, n) → ¬ J b) (hJro : ∀ q r κ b n, ρ.getD q none = some r → roAt h' q = true → E.ι r κ = some (b, n) → J b) : HeapOK (E.ren h' ρ J) h' w where
  obj := fun q s c e => by
    rcases ren_stat hs H H2 hpk e with ⟨h1, _⟩ | ⟨r, s0, c0, h1, h2, h3, h4, h5, h6⟩
    · exact .inl h1
    · rcases HK.obj r s0 c0 h2 with h7 | ⟨b, arr, ty, k1, k2, k3, k4⟩
      · exact .inl (h4.trans h7)
      · right
        have hal : ∃ c, h'.getD q none = some c ∧ c ≠ .dead := by
          cases hc : h'.getD q none with
          | none => cases s <;> simp only [stat, hc] at e <;> cases e
          | some c' => exact ⟨c', rfl, fun hd => by subst hd; cases s <;> simp only [stat, hc] at e <;> cases e⟩
        obtain ⟨c', hc, hd⟩ := hal
        refine ⟨b, arr, ty, by rw [ren_ι' h1 hc hd, ← h3, h5]; exact k1, k2, by rw [h4, h5]; exact k3, fun i hi => ?_⟩
        obtain ⟨cs, vs, m1, m2, m3, m4⟩ := k4 i (by omega)
        obtain ⟨cs', m5, m6⟩ := h6 i cs m1
        exact ⟨cs', vs, m5, by rw [h5]; exact m2, m6 vs m3, by rw [h5]; exact m4⟩
  siz := fun q s c b n e h0 => by
    obtain ⟨r, h1, h2, _⟩ := ren_ι h0
    rcases ren_stat hs H H2 hpk e with ⟨_, h3⟩ | ⟨r', s0, c0, h3, h4, h5, h6, h7, h8⟩
    · rw [h1] at h3; cases h3
    · rw [h1] at h3; obtain rfl : r = r' := by simpa using h3
      rw [h7]; exact HK.siz r s0 c0 b n h4 (by rw [h5]; exact h2)
  inj := fun q κ q' κ' b n n' h1 h2 => by
    obtain ⟨r, k1, k2, _⟩ := ren_ι h1
    obtain ⟨r', k3, k4, _⟩ := ren_ι h2
    obtain ⟨rfl, rfl⟩ := HK.inj _ _ _ _ _ _ _ k2 k4
    exact ⟨bound_inj hnd k1 k3, rfl⟩
  live := fun q κ x h1 => let ⟨_, _, _, h2⟩ := ren_ι h1; h2
  I_lt := hJlt
  own_lt := fun b ⟨q, κ, n, h1⟩ => let ⟨r, _, h2, _⟩ := ren_ι h1; HK.own_lt b ⟨r, κ, n, h2⟩
  apart := fun q κ b n h1 h2 => let ⟨r, h3, h4, h5⟩ := ren_ι h1; hJap q r κ b n h3 h2 h5 h4
  roI := fun q κ b n h1 h2 => let ⟨r, h3, h4, _⟩ := ren_ι h1; hJro q r κ b n h3 h2 h4
end
end Go.Ab
