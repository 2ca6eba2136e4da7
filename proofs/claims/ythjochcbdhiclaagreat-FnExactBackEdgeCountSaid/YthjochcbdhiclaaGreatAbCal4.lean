import Derived.Test.YthjochcbdhiclaaGreatAbCal3
set_option linter.unnecessarySimpa false
set_option linter.unusedVariables false
set_option linter.unusedSimpArgs false
namespace Go.Ab
section
variable {br : Bool} {n m base : Nat} {hv hp : Heap} {ρ : Ren} {tv ver : Nat → Nat} {h' : Heap} {os0 os : List (Option Cont)} {J : Nat → Prop} {F : Fr} {E1 : Env} {h1 : Heap} {w : World} {Ec : Env} {w' : World}
theorem Cx.II (X : Cx br n m base hv hp ρ tv ver h' os0 os J F E1 h1 w Ec w') : ∀ b, E1.I b → Ec.I b := fun b hb => (X.HC.kept.stab b (X.JI b hb)).1
theorem Cx.pure (X : Cx br n m base hv hp ρ tv ver h' os0 os J F E1 h1 w Ec w') : ∀ (t : Ty) (x : den t) vs, (br = true → t.flat = true) → RepC Ec.I w' t x vs → RepC (upE br os (rho ρ base) E1 Ec).I w' t x vs := by
  intro t x vs hf h
  cases br with
  | true => exact rep_flatTy t (hf rfl) x vs h
  | false => exact h
theorem mref_move {E E' : Env} {h h' : Heap} {w : World} {r q : Nat} {s s' : Sub} {c c' : Cont} (h1 : stat h r s = .on c) (h2 : stat h' q s' = .on c') (hl : c'.len = c.len) (hs : c'.sz = c.sz) (hι : E'.ι q (key s') = E.ι r (key s)) :
    (∀ rg v, OwnAV E h w r s rg v → OwnAV E' h' w q s' rg v) ∧ ∀ i off v, PtrAV E h r s i off v → PtrAV E' h' q s' i off v := ref_move h1 h2 hl hs hι
theorem Cx.kept (X : Cx br n m base hv hp ρ tv ver h' os0 os J F E1 h1 w Ec w') {q r : Nat} (hr : ρ.getD q none = some r) {s s1 : Sub} {c : Cont} (hs : stat h' q s = .on c) (hk : key s1 = key s) :
    stat (mrg h' os0) q s = .off ∨ ∃ c', stat (mrg h' os0) q s = .on c' ∧ c'.len = c.len ∧ c'.sz = c.sz ∧ Ec.ι q (key s) = E1.ι r (key s1) := by
  rcases X.HC.kept.on q s c hs with h2 | ⟨c', h2, h3, h4, h5, _⟩
  · exact .inl h2
  · obtain ⟨c0, h6⟩ := stat_some hs
    have hd : c0 ≠ .dead := by
      rintro rfl
      have h7 : stat h' q s = .off := stat_dead h6 s
      rw [hs] at h7; cases h7
    exact .inr ⟨c', h2, h3, h4, by rw [h5, hk]; exact ren_ι' hr h6 hd⟩
theorem Cx.up (X : Cx br n m base hv hp ρ tv ver h' os0 os J F E1 h1 w Ec w') : RefUp br (rho ρ base) (nuOf hv ρ ver) ver Ec (mrg h' os0) w' (upE br os (rho ρ base) E1 Ec) (apD h1 (deltaOf ρ base 0 os)) := by
  have none_own : ∀ q, m ≤ q → ∀ s, stat (mrg h' os0) q s = .no := by
    intro q hq s
    have h2 : os.getD q none = none := getD_ge (by rw [X.len]; exact hq)
    have h3 : (mrg h' os0).getD q none = none := by rw [X.hk h2]; exact X.big q (Nat.le_trans X.nm hq)
    cases s <;> simp only [stat, h3]
  have noD : ∀ {q r}, q < m → os.getD q none = none → ρ.getD q none = some r → ∀ q' c, os.getD q' none = some c → rho ρ base q' ≠ r := by
    intro q r hq h2 hr q' c h3 h4
    have := X.inj (X.lt h3) hq (h4.trans (rho_some hr).symm)
    subst this; rw [h2] at h3; cases h3
  have root : ∀ q, (∀ rg v, OwnAV Ec (mrg h' os0) w' q none rg v → OwnAV (upE br os (rho ρ base) E1 Ec) (apD h1 (deltaOf ρ base 0 os)) w' (rho ρ base q) none rg v) ∧ ∀ i off v, PtrAV Ec (mrg h' os0) q none i off v → PtrAV (upE br os (rho ρ base) E1 Ec) (apD h1 (deltaOf ρ base 0 os)) (rho ρ base q) none i off v := by
    intro q
    rcases Nat.lt_or_ge q m with hq | hq
    · cases ho : os.getD q none with
      | some c =>
        obtain ⟨c0, h2, h3⟩ := X.hc ho
        have h4 := X.h2.1 q c ho
        have hι := X.ι1 ho none
        rcases h3 with ⟨h5, _⟩ | ⟨_, h5⟩ | ⟨ro, t, xs, h5, h6, _⟩ | ⟨ro, t, xs, h5, h6, _⟩ | ⟨k, cs, cs', h5, h6, _⟩
        · cases h5
        · obtain rfl : c = .dead := by simpa using h5
          have := ref_off (E := Ec) (h := mrg h' os0) (w := w') (r := q) (s := none) (E' := upE br os (rho ρ base) E1 Ec) (q := rho ρ base q) (s' := none) (stat_dead h4 none)
          exact this
        · obtain rfl : c0 = .lst ro t xs := by simpa using h5
          obtain rfl : c = .lst ro t xs := by simpa using h6
          have := ref_move (w := w') (stat_root h2 (by simp)) (stat_root h4 (by simp)) rfl rfl hι
          exact this
        · obtain rfl : c0 = .tree ro (ver q) t xs none := by simpa using h5
          obtain rfl : c = .tree ro (nuOf hv ρ ver q) t xs none := by simpa using h6
          have := ref_move (w := w') (stat_root h2 (by simp)) (stat_root h4 (by simp)) rfl rfl hι
          exact this
        · obtain rfl : c0 = .cells k [cs] := by simpa using h5
          obtain rfl : c = .cells k [cs'] := by simpa using h6
          have := ref_move (w := w') (stat_root h2 (by simp)) (stat_root h4 (by simp)) rfl rfl hι
          exact this
      | none =>
        obtain ⟨r, hr⟩ := X.kb q hq ho
        have hD := noD hq ho hr
        have h2 := X.hk ho
        have h3 := X.h2.2 r hD
        rw [rho_some hr]
        obtain ⟨hqn, h4⟩ := X.live hr
        have key2 : ∀ c c1, h'.getD q none = some c → c ≠ .dead → h1.getD r none = some c1 → c1 ≠ .dead → c1.len = c.len → c1.sz = c.sz → (∀ rg v, OwnAV Ec (mrg h' os0) w' q none rg v → OwnAV (upE br os (rho ρ base) E1 Ec) (apD h1 (deltaOf ρ base 0 os)) w' r none rg v) ∧ ∀ i off v, PtrAV Ec (mrg h' os0) q none i off v → PtrAV (upE br os (rho ρ base) E1 Ec) (apD h1 (deltaOf ρ base 0 os)) r none i off v := by
          intro c c1 h5 hd h6 hd1 hl hs
          refine ref_move (stat_root (h2.trans h5) hd) (stat_root (h3.trans h6) hd1) hl hs ?_
          rw [X.ι2 hD]
          rcases X.kept hr (s := none) (s1 := none) (stat_root h5 hd) rfl with h7 | ⟨_, _, _, _, h7⟩
          · rw [stat_root (h2.trans h5) hd] at h7; cases h7
          · exact h7.symm
        rcases h4 with ⟨ro, ro', t, xs, h5, h6, _⟩ | ⟨ro, ro', v', t, xs, h5, _, h6, _⟩ | ⟨k, cs, cs', h5, h6, _⟩
        · exact key2 _ _ h6 (by simp) h5 (by simp) rfl rfl
        · exact key2 _ _ h6 (by simp) h5 (by simp) rfl rfl
        · exact key2 _ _ h6 (by simp) h5 (by simp) rfl rfl
    · exact ⟨fun rg v hv => by unfold OwnAV at hv; rw [none_own q hq] at hv; exact hv.elim, fun i off v hv => by unfold PtrAV at hv; rw [none_own q hq] at hv; exact hv.elim⟩
  have nest : ∀ q i k, (∀ rg v, OwnAV Ec (mrg h' os0) w' q (some (i, k, ver q)) rg v → OwnAV (upE br os (rho ρ base) E1 Ec) (apD h1 (deltaOf ρ base 0 os)) w' (rho ρ base q) (some (i, k, nuOf hv ρ ver q)) rg v) ∧ ∀ j off v, PtrAV Ec (mrg h' os0) q (some (i, k, ver q)) j off v → PtrAV (upE br os (rho ρ base) E1 Ec) (apD h1 (deltaOf ρ base 0 os)) (rho ρ base q) (some (i, k, nuOf hv ρ ver q)) j off v := by
    intro q i k
    have no : ∀ {h : Heap} {E : Env} {E' : Env} {h' : Heap} {r r' : Nat} {s s' : Sub}, stat h r s = .no → (∀ rg v, OwnAV E h w' r s rg v → OwnAV E' h' w' r' s' rg v) ∧ ∀ j off v, PtrAV E h r s j off v → PtrAV E' h' r' s' j off v := by
      intro h E E' h' r r' s s' e
      exact ⟨fun rg v hv1 => by unfold OwnAV at hv1; rw [e] at hv1; exact hv1.elim, fun j off v hv1 => by unfold PtrAV at hv1; rw [e] at hv1; exact hv1.elim⟩
    rcases Nat.lt_or_ge q m with hq | hq
    · cases ho : os.getD q none with
      | some c =>
        obtain ⟨c0, h2, h3⟩ := X.hc ho
        have h4 := X.h2.1 q c ho
        rcases h3 with ⟨h5, _⟩ | ⟨_, h5⟩ | ⟨ro, t, xs, h5, h6, _⟩ | ⟨ro, t, xs, h5, h6, _⟩ | ⟨k', cs, cs', h5, h6, _⟩
        · cases h5
        · obtain rfl : c = .dead := by simpa using h5
          exact ref_off (E := Ec) (h := mrg h' os0) (w := w') (r := q) (s := some (i, k, ver q)) (E' := upE br os (rho ρ base) E1 Ec) (q := rho ρ base q) (s' := some (i, k, nuOf hv ρ ver q)) (stat_dead h4 _)
        · obtain rfl : c0 = .lst ro t xs := by simpa using h5
          obtain rfl : c = .lst ro t xs := by simpa using h6
          exact ref_off (E := Ec) (h := mrg h' os0) (w := w') (r := q) (s := some (i, k, ver q)) (E' := upE br os (rho ρ base) E1 Ec) (q := rho ρ base q) (s' := some (i, k, nuOf hv ρ ver q)) (by simp only [stat, h4])
        · obtain rfl : c0 = .tree ro (ver q) t xs none := by simpa using h5
          obtain rfl : c = .tree ro (nuOf hv ρ ver q) t xs none := by simpa using h6
          have e1 : stat (mrg h' os0) q (some (i, k, ver q)) = match nested ro t xs i k with | some c => .on c | none => .no := by
            rw [stat_treeN h2, if_neg (Nat.lt_irrefl _), if_neg (by simp)]; rfl
          have e2 : stat (apD h1 (deltaOf ρ base 0 os)) (rho ρ base q) (some (i, k, nuOf hv ρ ver q)) = match nested ro t xs i k with | some c => .on c | none => .no := by
            rw [stat_treeN h4, if_neg (Nat.lt_irrefl _), if_neg (by simp)]; rfl
          cases hn : nested ro t xs i k with
          | none => rw [hn] at e1; exact no e1
          | some c =>
            rw [hn] at e1 e2
            exact ref_move (w := w') e1 e2 rfl rfl (X.ι1 ho _)
        · obtain rfl : c0 = .cells k' [cs] := by simpa using h5
          exact no (by simp only [stat, h2])
      | none =>
        obtain ⟨r, hr⟩ := X.kb q hq ho
        have hD := noD hq ho hr
        have h2 := X.hk ho
        have h3 := X.h2.2 r hD
        have hv0 := X.kv q hq ho
        rw [rho_some hr]
        obtain ⟨hqn, h4⟩ := X.live hr
        rcases h4 with ⟨ro, ro', t, xs, h5, h6, _⟩ | ⟨ro, ro', v', t, xs, h5, h5v, h6, _⟩ | ⟨k', cs, cs', h5, h6, _⟩
        · exact ref_off (E := Ec) (h := mrg h' os0) (w := w') (r := q) (s := some (i, k, ver q)) (E' := upE br os (rho ρ base) E1 Ec) (q := r) (s' := some (i, k, nuOf hv ρ ver q)) (by simp only [stat, h3, h5])
        · have hnu := X.nu hr h5v
          rw [if_pos hv0] at hnu
          rw [hnu]
          have h2' := h2.trans h6
          have h3' := h3.trans h5
          rw [hv0]
          have e1 : stat (mrg h' os0) q (some (i, k, 0)) = match nested ro t xs i k with | some c => .on c | none => .no := by
            rw [stat_treeN h2', if_neg (Nat.lt_irrefl _), if_neg (by simp)]; rfl
          have e2 : stat (apD h1 (deltaOf ρ base 0 os)) r (some (i, k, v')) = match nested ro' t xs i k with | some c => .on c | none => .no := by
            rw [stat_treeN h3', if_neg (Nat.lt_irrefl _), if_neg (by simp)]; rfl
          cases hn : nested ro t xs i k with
          | none => rw [hn] at e1; exact no e1
          | some c =>
            obtain ⟨u, ys, rfl, hn2⟩ := nested_ro (ro' := ro') hn
            rw [hn] at e1; rw [hn2] at e2
            refine ref_move (w := w') e1 e2 rfl rfl ?_
            rw [X.ι2 hD]
            have e3 : stat h' q (some (i, k, 0)) = .on (.lst ro u ys) := by
              rw [stat_treeN h6, if_neg (Nat.lt_irrefl _), if_neg (by simp), hn]
            rcases X.kept hr (s := some (i, k, 0)) (s1 := some (i, k, v')) e3 rfl with h7 | ⟨_, _, _, _, h7⟩
            · rw [e1] at h7; cases h7
            · exact h7.symm
        · exact no (by simp only [stat, h2.trans h6])
    · exact no (none_own q hq _)
  exact ⟨fun q => (root q).1, fun q => (root q).2, fun q i k => (nest q i k).2, fun q i k => (nest q i k).1, X.pure⟩
end
end Go.Ab
