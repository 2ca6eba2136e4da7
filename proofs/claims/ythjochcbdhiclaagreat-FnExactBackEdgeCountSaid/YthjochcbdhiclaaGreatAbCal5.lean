import Derived.Test.YthjochcbdhiclaaGreatAbCal4
set_option linter.unnecessarySimpa false
set_option linter.unusedVariables false
set_option linter.unusedSimpArgs false
namespace Go.Ab
section
variable {br : Bool} {n m base : Nat} {hv hp : Heap} {ρ : Ren} {tv ver : Nat → Nat} {h' : Heap} {os0 os : List (Option Cont)} {J : Nat → Prop} {F : Fr} {E1 : Env} {h1 : Heap} {w : World} {Ec : Env} {w' : World}
theorem reloc_up {E E' : Env} {h h' : Heap} {w : World} {r q v' v'' i : Nat} (ho : ∀ k rg v, OwnAV E h w r (some (i, k, v')) rg v → OwnAV E' h' w q (some (i, k, v'')) rg v) : (cs : List AV) → (∀ c ∈ cs, ∃ u y, c = .pv u y ∧ ((∀ x vs, RepC E.I w u x vs → RepC E'.I w u x vs) ∨ ∃ e, u = .slice e)) → (k : Nat) → (vs : List Value) → RepL E h w (reloc r v' none i k cs) vs → RepL E' h' w (reloc q v'' none i k cs) vs
  | [], _, k, vs, h1 => by simpa only [reloc, RepL] using h1
  | c :: cs, hc, k, vs, h1 => by
    obtain ⟨u, y, rfl, hp⟩ := hc c (by simp)
    have ih := reloc_up ho cs (fun c hm => hc c (by simp [hm])) (k + 1)
    cases u <;> simp only [reloc, RepL, reduceCtorEq, if_false] at h1 ⊢
    case slice u =>
      obtain ⟨v, us, rfl, h2, h3⟩ := h1
      exact ⟨v, us, rfl, by simp only [RepAV] at h2 ⊢; exact ho k _ v h2, ih us h3⟩
    all_goals
      obtain ⟨v, us, rfl, h2, h3⟩ := h1
      refine ⟨v, us, rfl, ?_, ih us h3⟩
      rcases hp with hp | ⟨e, hp⟩
      · simp only [RepAV] at h2 ⊢; exact hp _ _ h2
      · cases hp
theorem Cx.down (X : Cx br n m base hv hp ρ tv ver h' os0 os J F E1 h1 w Ec w') {q : Nat} {c : Cont} (ho : os.getD q none = some c) {s : Sub} {c2 : Cont} (hs : stat (apD h1 (deltaOf ρ base 0 os)) (rho ρ base q) s = .on c2) :
    ∃ s0 c0, stat (mrg h' os0) q s0 = .on c0 ∧ key s0 = key s ∧ c2.len = c0.len ∧ c2.sz = c0.sz ∧ (∀ i cs, c0.at? q i = some cs → ∃ cs', c2.at? (rho ρ base q) i = some cs' ∧ ∀ vs, RepL Ec (mrg h' os0) w' cs vs → RepL (upE br os (rho ρ base) E1 Ec) (apD h1 (deltaOf ρ base 0 os)) w' cs' vs) := by
  obtain ⟨c0, h2, h3⟩ := X.hc ho
  have h4 := X.h2.1 q c ho
  have U := X.up
  have pureL : ∀ (t : Ty) (x : den t) vs, (br = true → t.flat = true) → RepL Ec (mrg h' os0) w' (flat t x) vs → RepL (upE br os (rho ρ base) E1 Ec) (apD h1 (deltaOf ρ base 0 os)) w' (flat t x) vs := fun t x vs hf hv => rep_flat t (U.pure t x vs hf (flat_rep t hv))
  rcases h3 with ⟨h5, _⟩ | ⟨_, h5⟩ | ⟨ro, t, xs, h5, h6, hf⟩ | ⟨ro, t, xs, h5, h6, hf⟩ | ⟨k', cs, cs', h5, h6, hr⟩
  · cases h5
  · obtain rfl : c = .dead := by simpa using h5
    have := stat_dead h4 s
    rw [hs] at this; cases this
  · obtain rfl : c0 = .lst ro t xs := by simpa using h5
    obtain rfl : c = .lst ro t xs := by simpa using h6
    cases s with
    | none =>
      simp only [stat, h4, RefSt.on.injEq] at hs; subst hs
      refine ⟨none, _, stat_root h2 (by simp), rfl, rfl, rfl, fun i cs hcs => ?_⟩
      obtain ⟨hi, rfl⟩ := at_lst hcs
      exact ⟨flat t xs[i], by simp [Cont.at?, hi], fun vs => pureL t _ vs hf⟩
    | some p => simp only [stat, h4] at hs; cases hs
  · obtain rfl : c0 = .tree ro (ver q) t xs none := by simpa using h5
    obtain rfl : c = .tree ro (nuOf hv ρ ver q) t xs none := by simpa using h6
    have hι := X.ι1 ho
    cases s with
    | none =>
      rw [stat_tree h4, RefSt.on.injEq] at hs; subst hs
      refine ⟨none, _, stat_tree h2, rfl, rfl, rfl, fun i cs hcs => ?_⟩
      obtain ⟨hi, rfl⟩ := at_tree hcs
      refine ⟨_, by simp [Cont.at?, hi], fun vs hv1 => reloc_up (fun k => nest_move h2 h4 hι i k) _ (fun c hc => ?_) 0 vs hv1⟩
      obtain ⟨u, y, rfl⟩ := flat_pv t xs[i] c hc
      refine ⟨u, y, rfl, ?_⟩
      by_cases hb : br = true
      · obtain ⟨u', y', e, h7⟩ := flat_leaf t xs[i] (hf hb) _ hc
        obtain ⟨rfl, _⟩ : u = u' ∧ HEq y y' := by simpa using e
        rcases h7 with h7 | ⟨e2, h7, _⟩
        · exact .inl fun x vs h8 => rep_flatTy u h7 x vs h8
        · exact .inr ⟨e2, h7⟩
      · exact .inl fun x vs h8 => U.pure u x vs (fun h9 => absurd h9 hb) h8
    | some p =>
      obtain ⟨i, k, v⟩ := p
      obtain ⟨rfl, _, hn⟩ := stat_nest h4 hs
      obtain ⟨u, ys, rfl, hi, hfl⟩ := nested_lst hn
      refine ⟨some (i, k, ver q), .lst ro u ys, by rw [stat_treeN h2, if_neg (Nat.lt_irrefl _), if_neg (by simp), hn], rfl, rfl, rfl, fun j cs hcs => ?_⟩
      obtain ⟨hj, rfl⟩ := at_lst hcs
      refine ⟨flat u ys[j], by simp [Cont.at?, hj], fun vs => pureL u _ vs fun hb => ?_⟩
      obtain ⟨u', y', e, h7⟩ := flat_leaf t xs[i] (hf hb) _ (List.mem_of_getElem? hfl)
      obtain ⟨rfl, _⟩ : Ty.slice u = u' ∧ HEq ys y' := by simpa using e
      rcases h7 with h7 | ⟨e, h8, h9⟩
      · cases h7
      · obtain rfl : u = e := by simpa using h8
        exact h9
  · obtain rfl : c0 = .cells k' [cs] := by simpa using h5
    obtain rfl : c = .cells k' [cs'] := by simpa using h6
    cases s with
    | none =>
      simp only [stat, h4, RefSt.on.injEq] at hs; subst hs
      refine ⟨none, _, stat_root h2 (by simp), rfl, rfl, rfl, fun i cs1 hcs => ?_⟩
      simp only [Cont.at?] at hcs
      obtain ⟨hi, rfl⟩ := List.getElem?_eq_some_iff.1 hcs
      obtain rfl : i = 0 := by simpa using hi
      exact ⟨cs', rfl, fun vs hv1 => hr _ _ _ _ _ U vs hv1⟩
    | some p => simp only [stat, h4] at hs; cases hs
theorem Cx.ros (X : Cx br n m base hv hp ρ tv ver h' os0 os J F E1 h1 w Ec w') {q : Nat} {c : Cont} (ho : os.getD q none = some c) : c.ro = false := by
  rcases Nat.lt_or_ge q n with hq | hq
  · have h2 := X.kd q hq
    rw [ho] at h2
    rcases h2 with ⟨_, _, _, h2⟩ | ⟨_, _, _, h2⟩ | ⟨_, _, _, h2 | ⟨_, _, h2⟩⟩ | ⟨_, _, _, h2 | ⟨_, _, _, h2⟩ | ⟨_, _, h2⟩⟩ | ⟨_, _, _, h2 | ⟨_, _, h2⟩⟩
    · cases h2
    · cases h2
    all_goals (simp at h2; subst h2; rfl)
  · obtain ⟨c', h2, h3⟩ := X.kn q hq (X.lt ho)
    rw [ho] at h2; simp at h2; subst h2; exact h3
theorem Cx.roq (X : Cx br n m base hv hp ρ tv ver h' os0 os J F E1 h1 w Ec w') {q r : Nat} (hr : ρ.getD q none = some r) : (roAt h' q = false → roAt h1 r = false ∧ ∃ c, os.getD q none = some c) ∧ ((∃ c, os.getD q none = some c) → roAt h' q = false ∧ roAt h1 r = false) := by
  obtain ⟨_, ⟨ro, ro', t, xs, h2, h3, h4, h5⟩ | ⟨ro, ro', v', t, xs, h2, _, h3, h4, h5⟩ | ⟨k, cs, cs', h2, h3, h5⟩⟩ := X.live hr
  · rw [roAt_of h2, roAt_of h3]
    rcases h5 with ⟨rfl, h5⟩ | ⟨rfl, h5⟩
    · exact ⟨fun h => by simp [Cont.ro] at h, fun ⟨c, h⟩ => by rw [h5] at h; cases h⟩
    · have : ro' = false := by cases ro' <;> first | rfl | cases h4
      subst this
      exact ⟨fun _ => ⟨rfl, by rcases h5 with h5 | ⟨_, _, h5⟩ <;> exact ⟨_, h5⟩⟩, fun _ => ⟨rfl, rfl⟩⟩
  · rw [roAt_of h2, roAt_of h3]
    rcases h5 with ⟨rfl, h5⟩ | ⟨rfl, h5⟩
    · exact ⟨fun h => by simp [Cont.ro] at h, fun ⟨c, h⟩ => by rw [h5] at h; cases h⟩
    · have : ro' = false := by cases ro' <;> first | rfl | cases h4
      subst this
      exact ⟨fun _ => ⟨rfl, by rcases h5 with h5 | ⟨_, _, _, h5⟩ | ⟨_, _, h5⟩ <;> exact ⟨_, h5⟩⟩, fun _ => ⟨rfl, rfl⟩⟩
  · rw [roAt_of h2, roAt_of h3]
    exact ⟨fun _ => ⟨rfl, by rcases h5 with h5 | ⟨_, _, h5⟩ <;> exact ⟨_, h5⟩⟩, fun _ => ⟨rfl, rfl⟩⟩
theorem Cx.B0 (X : Cx br n m base hv hp ρ tv ver h' os0 os J F E1 h1 w Ec w') {b : Nat} (hb : (frOf (E1.ren h' ρ J) h' w).B0 b) : ∃ q c κ k, os.getD q none = some c ∧ roAt h1 (rho ρ base q) = false ∧ E1.ι (rho ρ base q) κ = some (b, k) := by
  obtain ⟨q, κ, k, h2, h3⟩ := hb
  obtain ⟨r, hr, h4, _⟩ := ren_ι h2
  obtain ⟨h5, c, h6⟩ := (X.roq hr).1 h3
  exact ⟨q, c, κ, k, h6, by rw [rho_some hr]; exact h5, by rw [rho_some hr]; exact h4⟩
theorem Cx.touch (X : Cx br n m base hv hp ρ tv ver h' os0 os J F E1 h1 w Ec w') : Touch (fun r => ∃ q c, os.getD q none = some c ∧ rho ρ base q = r) E1 h1 w (upE br os (rho ρ base) E1 Ec) (apD h1 (deltaOf ρ base 0 os)) w' where
  hh := fun r hr => X.h2.2 r fun q c h2 h3 => hr ⟨q, c, h2, h3⟩
  hι := fun r κ hr => X.ι2 (fun q c h2 h3 => hr ⟨q, c, h2, h3⟩) κ
  II := fun b hb => by
    cases br with
    | true => exact hb
    | false => exact X.II b hb
  size := X.HC.bel.size
  os := X.HC.bel.os
  tape := X.HC.bel.tape
  output := X.HC.bel.output
  blk := fun b hb hn => X.HC.bel.blk b hb fun hB => by
    obtain ⟨q, c, κ, k, h2, h3, h4⟩ := X.B0 hB
    exact hn _ κ k ⟨q, c, h2, rfl⟩ h3 h4
  asz := fun b arr ty ha => by
    rcases Classical.em ((frOf (E1.ren h' ρ J) h' w).B0 b) with hB | hB
    · exact X.HC.bel.asz b hB arr ty ha
    · exact ⟨arr, by rw [X.HC.bel.blk b (Array.getElem?_eq_some_iff.1 ha).1 hB]; exact ha, rfl⟩
  off := by
    rintro r s ⟨q, c, ho, rfl⟩ hs
    have h4 := X.h2.1 q c ho
    cases hr : ρ.getD q none with
    | none =>
      rw [rho_none hr] at hs
      have := X.free q (X.lt ho)
      cases s <;> simp only [stat, this] at hs <;> cases hs
    | some r =>
      rw [rho_some hr] at hs h4 ⊢
      obtain ⟨_, ⟨ro, ro', t, xs, h2, h3, _, h5⟩ | ⟨ro, ro', v', t, xs, h2, h2v, h3, _, h5⟩ | ⟨k, cs, cs', h2, h3, h5⟩⟩ := X.live hr
      · cases s with
        | none => simp only [stat, h2] at hs; cases hs
        | some p =>
          rw [ho] at h5
          rcases h5 with ⟨_, h5⟩ | ⟨_, h5 | ⟨_, _, h5⟩⟩
          · cases h5
          · simp at h5; subst h5; exact stat_dead h4 _
          · simp at h5; subst h5; simp only [stat, h4]
      · cases s with
        | none => rw [stat_tree h2] at hs; cases hs
        | some p =>
          obtain ⟨i, k, v⟩ := p
          rw [stat_treeN h2] at hs
          have hv1 : v < v' := by
            split at hs
            · cases hs
            · split at hs
              · rename_i h6; simpa using h6
              · split at hs <;> cases hs
          rw [ho] at h5
          rcases h5 with ⟨_, h5⟩ | ⟨_, h5 | ⟨v2, t', ys, h5⟩ | ⟨_, _, h5⟩⟩
          · cases h5
          · simp at h5; subst h5; exact stat_dead h4 _
          · obtain rfl : c = .tree false v2 t' ys none := by simpa using h5
            have hv2 : v' ≤ v2 := by
              have h6 := X.two q
              rw [ho] at h6
              rcases h6 with ⟨_, h6⟩ | ⟨_, h6⟩ | ⟨_, _, _, _, h6, _⟩ | ⟨_, _, _, _, h6, _⟩ | ⟨_, _, _, _, h6, _⟩
              · cases h6
              · cases h6
              · cases h6
              · simp only [Option.some.injEq, Cont.tree.injEq] at h6
                rw [h6.2.1, X.nu hr h2v]; split <;> omega
              · cases h6
            rw [stat_treeN h4, if_neg (by omega), if_pos (.inl (by omega))]
          · simp at h5; subst h5; simp only [stat, h4]
      · cases s with
        | none => simp only [stat, h2] at hs; cases hs
        | some p => simp only [stat, h2] at hs; cases hs
  on := by
    rintro r s c1 ⟨q, c, ho, rfl⟩ hs
    have h4 := X.h2.1 q c ho
    obtain ⟨c0, hc0, h3⟩ := X.hc ho
    cases hr : ρ.getD q none with
    | none =>
      rw [rho_none hr] at hs
      have := X.free q (X.lt ho)
      cases s <;> simp only [stat, this] at hs <;> cases hs
    | some r =>
      have hfind : ∃ s' c', stat h' q s' = .on c' ∧ key s' = key s ∧ c'.len = c1.len ∧ c'.sz = c1.sz ∧ (s = none → s' = none) ∧ (∀ p, s = some p → s' = some (p.1, p.2.1, 0) ∧ ∃ ro v' t xs, hv.getD r none = some (.tree ro v' t xs none) ∧ p.2.2 = v') := by
        rw [rho_some hr] at hs
        obtain ⟨_, ⟨ro, ro', t, xs, h2, h3, _⟩ | ⟨ro, ro', v', t, xs, h2, h2v, h3, _⟩ | ⟨k, cs, cs', h2, h3, _⟩⟩ := X.live hr
        · cases s with
          | none =>
            simp only [stat, h2, RefSt.on.injEq] at hs; subst hs
            exact ⟨none, _, stat_root h3 (by simp), rfl, rfl, rfl, fun _ => rfl, fun p hp => by cases hp⟩
          | some p => simp only [stat, h2] at hs; cases hs
        · cases s with
          | none =>
            rw [stat_tree h2, RefSt.on.injEq] at hs; subst hs
            exact ⟨none, _, stat_tree h3, rfl, rfl, rfl, fun _ => rfl, fun p hp => by cases hp⟩
          | some p =>
            obtain ⟨i, k, v⟩ := p
            obtain ⟨rfl, _, hn⟩ := stat_nest h2 hs
            obtain ⟨u, ys, rfl, hn2⟩ := nested_ro (ro' := ro) hn
            exact ⟨some (i, k, 0), .lst ro u ys, by rw [stat_treeN h3, if_neg (Nat.lt_irrefl _), if_neg (by simp), hn2], rfl, rfl, rfl, (fun h => by cases h), (fun p hp => by cases hp; exact ⟨rfl, ro', _, t, xs, h2v, rfl⟩)⟩
        · cases s with
          | none =>
            simp only [stat, h2, RefSt.on.injEq] at hs; subst hs
            exact ⟨none, _, stat_root h3 (by simp), rfl, rfl, rfl, fun _ => rfl, fun p hp => by cases hp⟩
          | some p => simp only [stat, h2] at hs; cases hs
      obtain ⟨s', c', k1, k2, k3, k4, k5, k6⟩ := hfind
      rw [X.ι1 ho]
      have hkk := X.kept hr k1 (s1 := s) k2.symm
      rcases h3 with ⟨h5, _⟩ | ⟨_, h5⟩ | ⟨ro, t, xs, h5, h6, _⟩ | ⟨ro, t, xs, h5, h6, _⟩ | ⟨k', cs, cs', h5, h6, _⟩
      · cases h5
      · obtain rfl : c = .dead := by simpa using h5
        exact .inl (stat_dead h4 s)
      · obtain rfl : c0 = .lst ro t xs := by simpa using h5
        obtain rfl : c = .lst ro t xs := by simpa using h6
        cases s with
        | some p => left; simp only [stat, h4]
        | none =>
          obtain rfl := k5 rfl
          rcases hkk with h7 | ⟨c2, h7, h8, h9, h10⟩
          · rw [stat_root hc0 (by simp)] at h7; cases h7
          · rw [stat_root hc0 (by simp), RefSt.on.injEq] at h7; subst h7
            exact .inr ⟨_, stat_root h4 (by simp), h8.trans k3, h9.trans k4, by rw [rho_some hr]; exact h10⟩
      · obtain rfl : c0 = .tree ro (ver q) t xs none := by simpa using h5
        obtain rfl : c = .tree ro (nuOf hv ρ ver q) t xs none := by simpa using h6
        cases s with
        | none =>
          obtain rfl := k5 rfl
          rcases hkk with h7 | ⟨c2, h7, h8, h9, h10⟩
          · rw [stat_root hc0 (by simp)] at h7; cases h7
          · rw [stat_root hc0 (by simp), RefSt.on.injEq] at h7; subst h7
            exact .inr ⟨_, stat_root h4 (by simp), h8.trans k3, h9.trans k4, by rw [rho_some hr]; exact h10⟩
        | some p =>
          obtain ⟨i, k, v⟩ := p
          obtain ⟨rfl, ro', v', t', xs', h2v, rfl⟩ := k6 _ rfl
          have hnu : nuOf hv ρ ver q = if ver q = 0 then v else v + 1 := X.nu hr h2v
          rcases hkk with h7 | ⟨c2, h7, h8, h9, h10⟩
          · rw [stat_treeN hc0] at h7
            have hv0 : ver q ≠ 0 := by
              intro h11
              rw [h11, if_neg (Nat.lt_irrefl _), if_neg (by simp)] at h7
              split at h7 <;> cases h7
            left
            rw [if_neg hv0] at hnu
            rw [stat_treeN h4, if_neg (by omega), if_pos (.inl (by omega))]
          · obtain ⟨hv0, _, hn⟩ := stat_nest hc0 h7
            rw [if_pos hv0.symm] at hnu
            right
            exact ⟨c2, by rw [stat_treeN h4, if_neg (by omega), if_neg (by simp [hnu]), hn], h8.trans k3, h9.trans k4, by rw [rho_some hr]; exact h10⟩
      · obtain rfl : c0 = .cells k' [cs] := by simpa using h5
        obtain rfl : c = .cells k' [cs'] := by simpa using h6
        cases s with
        | none =>
          obtain rfl := k5 rfl
          rcases hkk with h7 | ⟨c2, h7, h8, h9, h10⟩
          · rw [stat_root hc0 (by simp)] at h7; cases h7
          · rw [stat_root hc0 (by simp), RefSt.on.injEq] at h7; subst h7
            exact .inr ⟨_, stat_root h4 (by simp), h8.trans k3, h9.trans k4, by rw [rho_some hr]; exact h10⟩
        | some p =>
          obtain ⟨i, k, v⟩ := p
          obtain ⟨rfl, _⟩ := k6 _ rfl
          rcases hkk with h7 | ⟨c2, h7, _⟩ <;> simp only [stat, hc0] at h7 <;> cases h7
  som := by
    rintro r ⟨q, c, ho, rfl⟩; exact ⟨c, X.h2.1 q c ho⟩
  fix := by
    rintro r ⟨q, c, ho, rfl⟩ h2
    cases hr : ρ.getD q none with
    | none => rw [rho_none hr] at h2; simp only [roAt, X.free q (X.lt ho)] at h2; cases h2
    | some r =>
      rw [rho_some hr] at h2
      rw [((X.roq hr).2 ⟨c, ho⟩).2] at h2; cases h2
  obj := by
    rintro K r s c2 ⟨q, c, ho, rfl⟩ hs
    obtain ⟨s0, c0, h2, h3, h4, h5, h6⟩ := X.down ho hs
    rcases X.HC.heap.obj q s0 c0 h2 with h7 | ⟨b, arr, ty, k1, k2, k3, k4⟩
    · exact .inl (h4.trans h7)
    · right
      refine ⟨b, arr, ty, by rw [X.ι1 ho, ← h3, h5]; exact k1, k2, by rw [h4, h5]; exact k3, fun i hi => ?_⟩
      obtain ⟨cs, vs, m1, m2, m3, m4⟩ := k4 i (by omega)
      obtain ⟨cs', m5, m6⟩ := h6 i cs m1
      exact ⟨cs', vs, m5, by rw [h5]; exact m2, m6 vs m3, by rw [h5]; exact m4⟩
  siz := by
    rintro r s c2 b k ⟨q, c, ho, rfl⟩ hs h7
    obtain ⟨s0, c0, h2, h3, h4, h5, h6⟩ := X.down ho hs
    rw [X.ι1 ho, ← h3] at h7
    rw [h5]; exact X.HC.heap.siz q s0 c0 b k h2 h7
  from_ := by
    rintro r κ b k ⟨q, c, ho, rfl⟩ h2
    rw [X.ι1 ho] at h2
    obtain ⟨c0, hc0, h3⟩ := X.hc ho
    have hro : roAt (mrg h' os0) q = false := by
      have h4 := X.ros ho
      rw [roAt_of hc0]
      rcases h3 with ⟨h5, _⟩ | ⟨h6, h5⟩ | ⟨ro, t, xs, h5, h6, _⟩ | ⟨ro, t, xs, h5, h6, _⟩ | ⟨k', cs, cs', h5, h6, _⟩
      · cases h5
      · simp at h6; subst h6; rfl
      · simp at h5 h6; subst h5; subst h6; exact h4
      · simp at h5 h6; subst h5; subst h6; exact h4
      · simp at h5; subst h5; rfl
    rcases X.HC.own_new q κ b k h2 hro with h4 | h4
    · right
      obtain ⟨q0, c', κ0, k0, h5, h6, h7⟩ := X.B0 h4
      exact ⟨_, κ0, k0, ⟨q0, c', h5, rfl⟩, .inl h6, h7⟩
    · exact .inl ⟨h4, X.HC.heap.own_lt b ⟨q, κ, k, h2⟩⟩
  inj := by
    rintro r κ r' κ' b k k' ⟨q, c, ho, rfl⟩ ⟨q', c', ho', rfl⟩ h2 h3
    rw [X.ι1 ho] at h2
    rw [X.ι1 ho'] at h3
    obtain ⟨rfl, rfl⟩ := X.HC.heap.inj _ _ _ _ _ _ _ h2 h3
    exact ⟨rfl, rfl⟩
  live := by
    rintro r κ x ⟨q, c, ho, rfl⟩ h2
    rw [X.ι1 ho] at h2
    obtain ⟨c1, h3, h4⟩ := X.HC.heap.live q κ x h2
    obtain ⟨c0, hc0, h5⟩ := X.hc ho
    rw [h3] at hc0; obtain rfl : c1 = c0 := by simpa using hc0
    refine ⟨c, X.h2.1 q c ho, ?_⟩
    rintro rfl
    rcases h5 with ⟨h5, _⟩ | ⟨h5, _⟩ | ⟨_, _, _, _, h5, _⟩ | ⟨_, _, _, _, h5, _⟩ | ⟨_, _, _, _, h5, _⟩
    · cases h5
    · simp at h5; exact h4 h5
    all_goals cases h5
  Inew := fun b hb => by
    cases br with
    | true => exact .inl hb
    | false =>
      rcases X.HC.I_new b hb with h2 | h2 | h2
      · exact .inl (X.JE rfl b h2)
      · right; right
        obtain ⟨q0, c', κ0, k0, h5, h6, h7⟩ := X.B0 h2
        exact ⟨_, κ0, k0, ⟨q0, c', h5, rfl⟩, h6, h7⟩
      · exact .inr (.inl ⟨h2, X.HC.heap.I_lt b hb⟩)
  apart := by
    rintro r κ b k ⟨q, c, ho, rfl⟩ h2 _ hI
    rw [X.ι1 ho] at h2
    obtain ⟨c0, hc0, h3⟩ := X.hc ho
    have hro : roAt (mrg h' os0) q = false := by
      have h4 := X.ros ho
      rw [roAt_of hc0]
      rcases h3 with ⟨h5, _⟩ | ⟨h6, h5⟩ | ⟨ro, t, xs, h5, h6, _⟩ | ⟨ro, t, xs, h5, h6, _⟩ | ⟨k', cs, cs', h5, h6, _⟩
      · cases h5
      · simp at h6; subst h6; rfl
      · simp at h5 h6; subst h5; subst h6; exact h4
      · simp at h5 h6; subst h5; subst h6; exact h4
      · simp at h5; subst h5; rfl
    refine X.HC.heap.apart q κ b k h2 hro ?_
    cases br with
    | true => exact X.II b hI
    | false => exact hI
  roI := by
    rintro r κ b k ⟨q, c, ho, rfl⟩ _ h3
    rw [roAt_of (X.h2.1 q c ho), X.ros ho] at h3; cases h3
theorem Cx.inv (X : Cx br n m base hv hp ρ tv ver h' os0 os J F E1 h1 w Ec w') : Inv F (upE br os (rho ρ base) E1 Ec) (apD h1 (deltaOf ρ base 0 os)) w' ∧ Keep E1 h1 w (upE br os (rho ρ base) E1 Ec) (apD h1 (deltaOf ρ base 0 os)) w' := X.touch.inv X.HI
end
end Go.Ab
