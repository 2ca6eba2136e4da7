import Derived.Test.YthjochcbdhiclaaGreatAbApp2
set_option linter.unnecessarySimpa false
set_option linter.unusedVariables false
set_option linter.unusedSimpArgs false
namespace Go.Ab
open Go.RowKit
section
variable {P : Program} {F : Fr} {E : Env} {h : Heap} {w : World} {t e : TypeId} {ie : TI}
theorem SrcRow.raw {sz M : Nat} {u : Value} {Q : Nat → List Value → Prop} (hs : SrcRow w sz M u Q) : ∃ (A : Option Addr) (m' : Nat) (news : List Value), u = .slice A M m' ∧ M ≤ m' ∧ news.length = M * sz ∧ (∀ x ∈ news, x.oneCell' = true) ∧ (M ≠ 0 → ∃ a, A = some a ∧ ∀ j z, news[j]? = some z → w.cell? (a.add j) = some z) ∧
    ∀ i, i < M → ∃ vs : List Value, vs.length = sz ∧ Q i vs ∧ ∀ (j : Nat) (hj : j < vs.length), news[i * sz + j]? = some vs[j] := by
  obtain ⟨A, m', h1, h2, h3⟩ := hs
  by_cases hM : M = 0
  · subst hM
    exact ⟨A, m', [], h1, h2, by simp, by simp, fun hne => absurd rfl hne, fun i hi => absurd hi (Nat.not_lt_zero _)⟩
  · obtain ⟨b, o, cells, rfl, H, hQ⟩ := h3 hM
    exact ⟨_, m', memRow w b o (M * sz), h1, h2, memRow_length _ _ _ _, H.news.1, fun _ => ⟨_, rfl, H.news.2⟩, fun i hi => ⟨cells i, H.len i hi, hQ i hi, fun j hj => H.seg hi hj⟩⟩
theorem own_raw {r : Nat} {c : Cont} {v : Value} (hv : OwnRep E w r none c none v) : (c.len = 0 ∧ v = .slice none 0 0) ∨ ∃ b n a arr ty', v = .slice (some a) c.len n ∧ c.len ≤ n ∧ (n ≠ 0 → a = ⟨b, 0, none⟩) ∧ w.heap[b]? = some (.cells arr ty' (0, 0)) ∧ n * c.sz ≤ arr.size ∧ E.ι r none = some (b, c.sz) := by
  obtain ⟨_, hv⟩ := hv
  refine hv.imp id ?_
  rintro ⟨b, n, a, h1, h2, h3, h4, arr, ty, h5, h6⟩
  exact ⟨b, n, a, arr, ty, by simpa using h2, by simpa using h3, by simpa using h4, h5, by simpa using h6, by simpa [key] using h1⟩
theorem app_nil (H : Inv F E h w) (hund : P.underlying t = some (.slice e)) (hte : TIOK P e ie) (ty : TypeId) {base : Nat} {u : Ty} {ys : List (den u)} (hb : h.getD base none = none) (hsz : u.size = ie.size) (hlim : ys.length ≤ ie.lim)
    {uu : Value} (hsrc : SrcRow w u.size ys.length uu (fun i vs => ∃ hi : i < ys.length, RepL E h w (flat u ys[i]) vs)) :
    ∃ val E' w', (Builtin.append_ #[t, t] ty #[.slice none 0 0, uu]).run P w = .ok val w' ∧ Inv F E' (setH h base (.lst false u ys)) w' ∧ Keep E h w E' (setH h base (.lst false u ys)) w' ∧ RepAV E' (setH h base (.lst false u ys)) w' (.own base none none) val := by
  obtain ⟨A, m', news, rfl, hm', hnl, hone, hA, hels⟩ := hsrc.raw
  have hg : (setH h base (.lst false u ys)).getD base none = some (.lst false u ys) := by rw [getD_setH, if_pos rfl]
  have hst := stat_root hg (by simp)
  rcases app_raw (P := P) hund hte ty (w := w) (.inr trivial) (N := 0) (.inl ⟨rfl, rfl⟩) rfl news (by rw [hnl, hsz]) hone hA hm' (by omega) with ⟨hM, hrun⟩ | ⟨hM, w', b', n', arr', ty', hrun, h1, h2, h3, h4, h5, h6, h7, h8, h9, _, h11, h12⟩
  · obtain ⟨g1, g2⟩ := inv_none H hb (.lst false u ys) trivial hM
    refine ⟨_, E, w, hrun, g1, g2, ?_⟩
    simp only [RepAV]; rw [own_on hst]
    exact ⟨by simp [Cont.len], .inl ⟨hM, rfl⟩⟩
  · rw [Nat.zero_add] at hrun h2
    have hfresh : w.heap.size ≤ b' := by
      rcases h12 with h | ⟨n, arr, hx, _⟩
      · exact h
      · cases hx
    obtain ⟨E', g1, g2, g3⟩ := inv_newW H hb (.lst false u ys) trivial h1 hfresh h5 h4 (fun k hk => h9 k (by omega) hk) h6 h7 h8 (by
      show ys.length * u.size ≤ _
      rw [hsz]; exact Nat.le_trans (Nat.mul_le_mul_right _ h2) h3) (fun i hi => by
      have hi' : i < ys.length := hi
      obtain ⟨vs, k1, ⟨_, k2⟩, k3⟩ := hels i hi'
      refine ⟨flat u (ys[i]'hi'), vs, by simp only [Cont.at?]; rw [List.getElem?_eq_getElem hi']; rfl, k1, k2, fun j hj => ?_⟩
      have := h11 (i * ie.size + j) (by
        have : i * ie.size + ie.size ≤ ys.length * ie.size := by rw [← Nat.succ_mul]; exact Nat.mul_le_mul_right _ hi'
        rw [k1, hsz] at hj; omega)
      rw [Nat.zero_mul, Nat.zero_add] at this
      show arr'[i * u.size + j]? = _
      rw [hsz, this, ← hsz]; exact k3 j hj)
    refine ⟨_, E', w', hrun, g1, g2, ?_⟩
    simp only [RepAV]; rw [own_on hst]
    exact ⟨by simp [Cont.len], .inr ⟨b', n', ⟨b', 0, none⟩, g3, rfl, h2, by simp, arr', ty', h1, by show 0 * u.size + n' * u.size ≤ _; rw [Nat.zero_mul, Nat.zero_add, hsz]; exact h3⟩⟩
theorem app_lst (H : Inv F E h w) (hund : P.underlying t = some (.slice e)) (hte : TIOK P e ie) (ty : TypeId) {q base : Nat} {u : Ty} {xs ys : List (den u)} (hc : h.getD q none = some (.lst false u xs)) (hb : h.getD base none = none) (hsz : u.size = ie.size) (hlim : (xs ++ ys).length ≤ ie.lim)
    {v uu : Value} (hv : OwnAV E h w q none none v) (hsrc : SrcRow w u.size ys.length uu (fun i vs => ∃ hi : i < ys.length, RepL E h w (flat u ys[i]) vs)) :
    ∃ val E' w', (Builtin.append_ #[t, t] ty #[v, uu]).run P w = .ok val w' ∧ Inv F E' (setH (setH h q .dead) base (.lst false u (xs ++ ys))) w' ∧ Keep E h w E' (setH (setH h q .dead) base (.lst false u (xs ++ ys))) w' ∧ RepAV E' (setH (setH h q .dead) base (.lst false u (xs ++ ys))) w' (.own base none none) val := by
  obtain ⟨A, m', news, rfl, hm', hnl, hone, hA, hels⟩ := hsrc.raw
  have hne : base ≠ q := by rintro rfl; rw [hc] at hb; cases hb
  have hst0 := stat_root hc (by simp)
  rw [own_on hst0] at hv
  have hv := own_raw hv
  simp only [Cont.len, Cont.sz] at hv
  have hg : (setH (setH h q .dead) base (.lst false u (xs ++ ys))).getD base none = some (.lst false u (xs ++ ys)) := by rw [getD_setH, if_pos rfl]
  have hst := stat_root hg (by simp)
  have hlen : (xs ++ ys).length = xs.length + ys.length := by simp
  have holds : ∀ b arr ty', E.ι q none = some (b, u.size) → w.heap[b]? = some (.cells arr ty' (0, 0)) → ∀ i (hi : i < xs.length), ∃ vs : List Value, vs.length = u.size ∧ RepL E h w (flat u xs[i]) vs ∧ ∀ (j : Nat) (hj : j < vs.length), arr[i * u.size + j]? = some vs[j] := by
    intro b arr ty' h1 h2 i hi
    rcases H.heap.obj q none _ hst0 with h0 | ⟨b0, arr0, ty0, k1, k2, k3, k4⟩
    · simp only [Cont.len] at h0; omega
    simp only [key, Cont.sz] at k1 k4
    rw [h1] at k1; obtain rfl : b = b0 := by simpa using k1
    rw [h2] at k2; obtain ⟨rfl, rfl⟩ : arr = arr0 ∧ ty' = ty0 := by simpa using k2
    obtain ⟨cs, vs, m1, m2, m3, m4⟩ := k4 i hi
    obtain ⟨_, rfl⟩ := at_lst m1
    exact ⟨vs, m2, m3, m4⟩
  rcases app_raw (P := P) hund hte ty (w := w) (.inr trivial) (N := xs.length) (v := v) (hv.imp id (fun ⟨b, n, a, arr, ty', k1, k2, k3, k4, k5, _⟩ => ⟨b, n, a, arr, ty', k1, k2, k3, k4, by rw [← hsz]; exact k5⟩)) rfl news (by rw [hnl, hsz]) hone hA hm' (by omega) with ⟨hM, hrun⟩ | ⟨hM, w', b', n', arr', ty', hrun, h1, h2, h3, h4, h5, h6, h7, h8, h9, h10, h11, h12⟩
  · -- nothing
    have hys : ys = [] := List.eq_nil_of_length_eq_zero hM
    subst hys
    rcases hv with ⟨h0, rfl⟩ | ⟨b, n, a, arr, ty', rfl, k2, k3, k4, k5, k6⟩
    · obtain ⟨g1, g2⟩ := inv_kill H hc rfl
      obtain ⟨g3, g4⟩ := inv_none g1 (r := base) (by rw [getD_setH, if_neg hne]; exact hb) (.lst false u (xs ++ [])) trivial (by simpa [Cont.len] using h0)
      refine ⟨_, _, w, hrun, g3, g2.trans g4, ?_⟩
      simp only [RepAV]; rw [own_on hst]
      exact ⟨by simp, .inl ⟨by simpa [Cont.len] using h0, rfl⟩⟩
    · obtain ⟨g1, g2⟩ := inv_move H hc trivial hb (d := .lst false u (xs ++ [])) trivial (w' := w) (b := b) (arr := arr) (ty := ty') k4 (fun _ _ _ => rfl) (.inl ⟨k6, fun a' t' ha' => by
          rw [k4] at ha'; have h9 : arr = a' ∧ ty' = t' := (by simpa using ha'); exact ⟨h9.2.symm, by rw [h9.1]⟩⟩) (Nat.le_refl _) (H.heap.own_lt b ⟨_, _, _, k6⟩) rfl rfl ⟨rfl, Nat.le_refl _⟩ (by
          show (xs ++ []).length * u.size ≤ _
          rw [List.append_nil]; exact Nat.le_trans (Nat.mul_le_mul_right _ k2) k5) (fun i hi => by
          have hi' : i < xs.length := by simpa [Cont.len] using hi
          obtain ⟨vs, m1, m2, m3⟩ := holds b arr ty' k6 k4 i hi'
          exact ⟨flat u (xs[i]'hi'), vs, by simp only [Cont.at?, List.append_nil]; rw [List.getElem?_eq_getElem hi']; rfl, m1, m2, m3⟩)
      refine ⟨_, _, w, hrun, g1, g2, ?_⟩
      simp only [RepAV]; rw [own_on hst]
      exact ⟨by simp, .inr ⟨b, n, a, by simp [Env.set, key, Cont.sz], by simp [Cont.len], by simpa [Cont.len] using k2, by simpa using k3, arr, ty', k4, by simpa [Cont.sz] using k5⟩⟩
  · have hel : ∀ i, i < (Cont.lst false u (xs ++ ys)).len → ∃ cs vs, (Cont.lst false u (xs ++ ys)).at? base i = some cs ∧ vs.length = (Cont.lst false u (xs ++ ys)).sz ∧ RepL E h w cs vs ∧ ∀ (j : Nat) (hj : j < vs.length), arr'[i * (Cont.lst false u (xs ++ ys)).sz + j]? = some vs[j] := by
      intro i hi
      have hi' : i < xs.length + ys.length := by simpa [Cont.len] using hi
      by_cases hlt : i < xs.length
      · rcases hv with ⟨h0, _⟩ | ⟨b, n, a, arr, ty'', k1, k2, k3, k4, k5, k6⟩
        · omega
        obtain ⟨vs, m1, m2, m3⟩ := holds b arr ty'' k6 k4 i hlt
        refine ⟨flat u (xs[i]'hlt), vs, by simp only [Cont.at?]; rw [List.getElem?_append_left hlt, List.getElem?_eq_getElem hlt]; rfl, m1, m2, fun j hj => ?_⟩
        have hle : i * u.size + u.size ≤ xs.length * u.size := by rw [← Nat.succ_mul]; exact Nat.mul_le_mul_right _ hlt
        show arr'[i * u.size + j]? = _
        rw [h10 _ (by rw [← hsz]; omega) b n a arr ty'' k1 k3 k4]
        exact m3 j hj
      · obtain ⟨vs, m1, ⟨hi2, m2⟩, m3⟩ := hels (i - xs.length) (by omega)
        refine ⟨flat u (ys[i - xs.length]'hi2), vs, by simp only [Cont.at?]; rw [List.getElem?_append_right (by omega), List.getElem?_eq_getElem hi2]; rfl, m1, m2, fun j hj => ?_⟩
        have hle : (i - xs.length) * u.size + u.size ≤ ys.length * u.size := by rw [← Nat.succ_mul]; exact Nat.mul_le_mul_right _ hi2
        have hmul : i * u.size = xs.length * u.size + (i - xs.length) * u.size := by rw [← Nat.add_mul]; congr 1; omega
        show arr'[i * u.size + j]? = _
        have := h11 ((i - xs.length) * u.size + j) (by rw [← hsz]; omega)
        rw [← hsz] at this
        rw [hmul, Nat.add_assoc, this]; exact m3 j hj
    have hfit : (Cont.lst false u (xs ++ ys)).len * (Cont.lst false u (xs ++ ys)).sz ≤ arr'.size := by
      show (xs ++ ys).length * u.size ≤ _
      rw [hsz, hlen]; exact Nat.le_trans (Nat.mul_le_mul_right _ h2) h3
    obtain ⟨g1, g2⟩ := inv_move H hc trivial hb (d := .lst false u (xs ++ ys)) trivial (w' := w') (b := b') (arr := arr') (ty := ty') h1 h9 (by
        rcases h12 with hf | ⟨n, arr, k1, k2, k3, k4⟩
        · exact .inr hf
        · left
          rcases hv with ⟨_, k0⟩ | ⟨b, n0, a, arr0, ty0, m1, m2, m3, m4, m5, m6⟩
          · rw [k0] at k1; cases k1
          · rw [m1] at k1
            obtain ⟨rfl, rfl⟩ : a = ⟨b', 0, none⟩ ∧ n0 = n := by simpa using k1
            have := m3 k2
            obtain rfl : b' = b := by simpa using this
            exact ⟨m6, fun a' t' ha' => (by rw [k3] at ha'; have h9 : arr = a' ∧ ty' = t' := (by simpa using ha'); exact ⟨h9.2.symm, by rw [k4, h9.1]⟩)⟩) h4 h5 h6 h7 h8 hfit hel
    refine ⟨_, _, w', hrun, g1, g2, ?_⟩
    simp only [RepAV]; rw [own_on hst]
    exact ⟨by simp, .inr ⟨b', n', ⟨b', 0, none⟩, by simp [Env.set, key, Cont.sz], by simp [Cont.len], by simpa [Cont.len] using h2, by simp, arr', ty', h1, by show (0 : Nat) * u.size + n' * u.size ≤ _; rw [Nat.zero_mul, Nat.zero_add, hsz]; exact h3⟩⟩
def headDead : Delta → Option Nat
  | [(q, .dead), (_, .dead), _] => some q
  | _ => none
theorem cellSrc_congr {σ σ' : Nat × Nat → Option (Nat × Nat)} {i i' k : Nat} {c : AV} {v : Value} (hσ : σ' (i', k) = σ (i, k)) (hs : CellSrc E h w σ i k c v) : CellSrc E h w σ' i' k c v := by
  unfold CellSrc at hs ⊢
  split
  · rename_i u ys
    simp only at hs
    rcases hs with ⟨q0, s0, m1, m2, m3⟩ | ⟨m1, m2, m3⟩
    · exact .inl ⟨q0, s0, m1, m2.trans hσ.symm, m3⟩
    · exact .inr ⟨m1, hσ.trans m2, m3⟩
  · rename_i hno
    split at hs
    · rename_i u ys; exact absurd rfl (hno u ys)
    · exact hs
theorem app_tree (H : Inv F E h w) (hund : P.underlying t = some (.slice e)) (hte : TIOK P e ie) (ty : TypeId) {r base : Nat} {u : Ty} {xs : List (den u)} {z : den u} {K : Nat → Prop} {δ : Delta} {v2 : Nat}
    (hcr : h.getD r none = some (.tree false v2 u [z] none)) (hb : h.getD base none = none) (hsz : u.size = ie.size) (hlim : (xs ++ [z]).length ≤ ie.lim) {v uu : Value} (hu : OwnAV E h w r none none uu)
    (hx : (xs = [] ∧ v = .slice none 0 0 ∧ δ = [(r, .dead), (base, .tree false 0 u (xs ++ [z]) none)]) ∨ ∃ q v1, q ≠ r ∧ h.getD q none = some (.tree false v1 u xs none) ∧ OwnAV E h w q none none v ∧ δ = [(q, .dead), (r, .dead), (base, .tree false 0 u (xs ++ [z]) none)]) :
    ∃ val E' w', (Builtin.append_ #[t, t] ty #[v, uu]).run P w = .ok val w' ∧ Inv F E' (apD h δ) w' ∧ Keep E h w E' (apD h δ) w' ∧ RepAV E' (apD h δ) w' (.own base none none) val := by
  have hner : base ≠ r := by rintro rfl; rw [hcr] at hb; cases hb
  rw [own_on (stat_tree hcr)] at hu
  obtain ⟨A, m', news, rfl, hm', hnl, hone, hA, hels⟩ := (obj_src H.heap (stat_tree hcr) hu (fun i cs hat d hd => by obtain ⟨_, rfl⟩ := at_tree hat; exact reloc_cell _ _ _ _ _ (fun c hc => flat_cell u _ c hc) d hd)).raw
  simp only [Option.getD_none, Cont.len, Cont.sz, List.length_singleton] at hnl hm' hA hels
  obtain ⟨vz, z1, ⟨csz, z2, z3⟩, z4⟩ := hels 0 (by omega)
  obtain ⟨hz0, rfl⟩ := at_tree z2
  have hsz0 := reloc_src hcr hz0 z3
  have hxx : (v = .slice none 0 0 ∧ xs = []) ∨ ∃ q v1 b n a arr ty', q ≠ r ∧ base ≠ q ∧ h.getD q none = some (.tree false v1 u xs none) ∧ ((xs.length = 0 ∧ v = .slice none 0 0) ∨ (v = .slice (some a) xs.length n ∧ xs.length ≤ n ∧ (n ≠ 0 → a = ⟨b, 0, none⟩) ∧ w.heap[b]? = some (.cells arr ty' (0, 0)) ∧ n * u.size ≤ arr.size ∧ E.ι q none = some (b, u.size))) := by
    rcases hx with ⟨h1, h2, _⟩ | ⟨q, v1, h1, h2, h3, _⟩
    · exact .inl ⟨h2, h1⟩
    · have hneq : base ≠ q := by rintro rfl; rw [h2] at hb; cases hb
      rw [own_on (stat_tree h2)] at h3
      rcases own_raw h3 with ⟨h4, h5⟩ | ⟨b, n, a, arr, ty', k1, k2, k3, k4, k5, k6⟩
      · exact .inr ⟨q, v1, 0, 0, ⟨0, 0, none⟩, #[], 0, h1, hneq, h2, .inl ⟨h4, h5⟩⟩
      · exact .inr ⟨q, v1, b, n, a, arr, ty', h1, hneq, h2, .inr ⟨k1, k2, k3, k4, k5, k6⟩⟩
  have hraw : (xs.length = 0 ∧ v = .slice none 0 0) ∨ ∃ b n a arr ty', v = .slice (some a) xs.length n ∧ xs.length ≤ n ∧ (n ≠ 0 → a = ⟨b, 0, none⟩) ∧ w.heap[b]? = some (.cells arr ty' (0, 0)) ∧ n * ie.size ≤ arr.size := by
    rcases hxx with ⟨h1, h2⟩ | ⟨q, v1, b, n, a, arr, ty', _, _, _, ⟨h1, h2⟩ | ⟨k1, k2, k3, k4, k5, _⟩⟩
    · exact .inl ⟨by rw [h2]; rfl, h1⟩
    · exact .inl ⟨h1, h2⟩
    · exact .inr ⟨b, n, a, arr, ty', k1, k2, k3, k4, by rw [← hsz]; exact k5⟩
  rcases app_raw (P := P) hund hte ty (w := w) (.inr trivial) (N := xs.length) (v := v) hraw rfl news (by rw [hnl, hsz]) hone hA hm' (by simpa using hlim) with ⟨hM, _⟩ | ⟨_, w', b', n', arr', ty', hrun, h1, h2, h3, h4, h5, h6, h7, h8, h9, h10, h11, h12⟩
  · exact absurd hM (by decide)
  let Kq : Nat → Prop := fun q' => q' = r ∨ (∃ v1, h.getD q' none = some (.tree false v1 u xs none) ∧ δ = [(q', .dead), (r, .dead), (base, .tree false 0 u (xs ++ [z]) none)] ∧ OwnAV E h w q' none none v ∧ q' ≠ r)
  have hKb : ∀ q', Kq q' → q' ≠ base ∧ ∃ c, h.getD q' none = some c ∧ c.ro = false := by
    rintro q' (rfl | ⟨v1, k1, _⟩)
    · exact ⟨Ne.symm hner, _, hcr, rfl⟩
    · exact ⟨(by rintro rfl; rw [k1] at hb; cases hb), _, k1, rfl⟩
  let σ : Nat × Nat → Option (Nat × Nat) := fun p => if p.1 < xs.length then ((headDead δ).bind fun q => E.ι q (some p)) else if p.1 = xs.length then E.ι r (some (0, p.2)) else none
  have hδ : ∀ q', q' ≠ base → ¬ Kq q' → (apD h δ).getD q' none = h.getD q' none := by
    intro q' k1 k2
    rcases hx with ⟨_, _, rfl⟩ | ⟨q, v1, m1, m2, m3, rfl⟩
    · have : q' ≠ r := fun e => k2 (.inl e)
      simp only [apD]; rw [getD_setH, if_neg k1, getD_setH, if_neg this]
    · have : q' ≠ r := fun e => k2 (.inl e)
      have h3 : q' ≠ q := fun e => k2 (.inr ⟨v1, by rw [e]; exact m2, by rw [e], by rw [e]; exact m3, by rw [e]; exact m1⟩)
      simp only [apD]; rw [getD_setH, if_neg k1, getD_setH, if_neg this, getD_setH, if_neg h3]
  have hδb : (apD h δ).getD base none = some (.tree false 0 u (xs ++ [z]) none) := by
    rcases hx with ⟨_, _, rfl⟩ | ⟨q, v1, m1, m2, m3, rfl⟩ <;> (simp only [apD]; rw [getD_setH, if_pos rfl])
  have hδK : ∀ q', Kq q' → (apD h δ).getD q' none = some .dead := by
    intro q' hq
    have hqb := (hKb q' hq).1
    rcases hq with rfl | ⟨v1, k1, k2, _, k4⟩
    · rcases hx with ⟨_, _, rfl⟩ | ⟨q, v1, m1, m2, m3, rfl⟩
      · simp only [apD]; rw [getD_setH, if_neg hqb, getD_setH, if_pos rfl]
      · simp only [apD]; rw [getD_setH, if_neg hqb, getD_setH, if_pos rfl]
    · rw [k2]; simp only [apD]; rw [getD_setH, if_neg hqb, getD_setH, if_neg k4, getD_setH, if_pos rfl]
  have hσ1 : ∀ p b0 n0, σ p = some (b0, n0) → (p.1 < xs.length ∧ ∃ q v1, q ≠ r ∧ h.getD q none = some (.tree false v1 u xs none) ∧ OwnAV E h w q none none v ∧ δ = [(q, .dead), (r, .dead), (base, .tree false 0 u (xs ++ [z]) none)] ∧ E.ι q (some p) = some (b0, n0)) ∨ (p.1 = xs.length ∧ E.ι r (some (0, p.2)) = some (b0, n0)) := by
    intro p b0 n0 ee
    simp only [σ] at ee
    split at ee
    · rename_i hlt
      rcases hx with ⟨hxs, _, _⟩ | ⟨q, v1, m1, m2, m3, hd0⟩
      · rw [hxs] at hlt; simp at hlt
      · subst hd0; exact .inl ⟨hlt, q, v1, m1, m2, m3, rfl, by simpa [headDead] using ee⟩
    · split at ee
      · rename_i _ hp; exact .inr ⟨hp, ee⟩
      · cases ee
  have hblock : (∃ q n, (q = base ∨ Kq q) ∧ E.ι q none = some (b', n) ∧ ∀ a ty'', w.heap[b']? = some (.cells a ty'' (0, 0)) → ty'' = ty' ∧ arr'.size = a.size) ∨ w.heap.size ≤ b' := by
    rcases h12 with hf | ⟨n, arr, k1, k2, k3, k4⟩
    · exact .inr hf
    · left
      rcases hx with ⟨_, hv, _⟩ | ⟨q, v1, m1, m2, m3, hd⟩
      · rw [hv] at k1; cases k1
      · have m3' := m3
        rw [own_on (stat_tree m2)] at m3
        rcases own_raw m3 with ⟨_, hv⟩ | ⟨b, n0, a, arr0, ty0, e1, e2, e3, e4, e5, e6⟩
        · rw [hv] at k1; cases k1
        · rw [e1] at k1
          obtain ⟨rfl, rfl⟩ : a = ⟨b', 0, none⟩ ∧ n0 = n := by simpa [Cont.len] using k1
          have := e3 k2
          obtain rfl : b' = b := by simpa using this
          exact ⟨q, _, .inr (.inr ⟨v1, m2, hd, m3', m1⟩), e6, fun a' t' ha' => (by rw [k3] at ha'; have h9 : arr = a' ∧ ty' = t' := (by simpa using ha'); exact ⟨h9.2.symm, by rw [k4, h9.1]⟩)⟩
  have hbroot : ∀ q κ n, E.ι q (some κ) ≠ some (b', n) := by
    intro q κ n ee
    rcases hblock with ⟨q0, n0, _, k1, _⟩ | k1
    · have := (H.heap.inj _ _ _ _ _ _ _ ee k1).2; cases this
    · have := H.heap.own_lt b' ⟨_, _, _, ee⟩; omega
  obtain ⟨E', g1, g2, g3⟩ := inv_tree H (r := base) (ver := 0) (t := u) (xs := xs ++ [z]) (K := Kq) hKb (h' := apD h δ) hδb hδK hδ h1 h9 (.inl hb) hblock h4 h5 h6 h7 h8 (by
      simp only [List.length_append, List.length_singleton]; rw [hsz]; exact Nat.le_trans (Nat.mul_le_mul_right _ h2) h3) σ
    (fun p b0 n0 ee => by
      rcases hσ1 p b0 n0 ee with ⟨_, q, v1, m1, m2, m3, m4, m5⟩ | ⟨_, m5⟩
      · exact ⟨q, some p, .inr (.inr ⟨v1, m2, m4, m3, m1⟩), m5, fun hbb => by subst hbb; exact hbroot _ _ _ m5⟩
      · exact ⟨r, some (0, p.2), .inr (.inl rfl), m5, fun hbb => by subst hbb; exact hbroot _ _ _ m5⟩)
    (fun p p' b0 n0 n1 ee ee' => by
      obtain ⟨p1, p2⟩ := p; obtain ⟨p1', p2'⟩ := p'
      rcases hσ1 _ b0 n0 ee with ⟨l1, q, v1, m1, m2, m3, m4, m5⟩ | ⟨l1, m5⟩ <;> rcases hσ1 _ b0 n1 ee' with ⟨l2, q', v1', m1', m2', m3', m4', m5'⟩ | ⟨l2, m5'⟩
      · have := (H.heap.inj _ _ _ _ _ _ _ m5 m5').2; simpa using this
      · have := (H.heap.inj _ _ _ _ _ _ _ m5 m5').1; exact absurd this m1
      · have := (H.heap.inj _ _ _ _ _ _ _ m5 m5').1; exact absurd this.symm m1'
      · have := (H.heap.inj _ _ _ _ _ _ _ m5 m5').2
        simp only [Option.some.injEq, Prod.mk.injEq, true_and] at this l1 l2 ⊢
        exact ⟨by omega, this⟩)
    (fun i hi => by
      have hi' : i < xs.length + 1 := by simpa using hi
      by_cases hlt : i < xs.length
      · rcases hx with ⟨hxs, _, _⟩ | ⟨q, v1, m1, m2, m3, hd⟩
        · rw [hxs] at hlt; simp at hlt
        obtain ⟨b, arr, ty0, t1, t2, t3, t4⟩ := tree_srcs H.heap m2 (by omega)
        obtain ⟨vs, k1, k2, k3⟩ := t4 i hlt
        refine ⟨vs, ?_, fun j hj => ?_⟩
        · rw [List.getElem_append_left hlt]
          refine SrcL.of (by rw [flat_len, k1]) fun j hj1 hj2 => ?_
          rw [Nat.zero_add]
          have hh : headDead δ = some q := (by rw [hd]; rfl)
          exact cellSrc_congr (by simp only [σ]; rw [if_pos hlt, hh]; rfl) (k3 j hj1 hj2 (by simp))
        · have hle : i * u.size + u.size ≤ xs.length * u.size := by rw [← Nat.succ_mul]; exact Nat.mul_le_mul_right _ hlt
          rw [own_on (stat_tree m2)] at m3
          rcases own_raw m3 with ⟨h0, _⟩ | ⟨b0, n0, a0, arr0, ty0, e1, e2, e3, e4, e5, e6⟩
          · simp only [Cont.len] at h0; omega
          · simp only [Cont.sz] at e6
            rw [t1] at e6; obtain rfl : b = b0 := by simpa using e6
            rw [t2] at e4; obtain ⟨rfl, rfl⟩ : arr = arr0 ∧ _ := by simpa using e4
            rw [h10 _ (by rw [← hsz]; omega) b n0 a0 arr _ e1 e3 t2]
            exact k2 j hj
      · have : i = xs.length := by omega
        subst this
        refine ⟨vz, ?_, fun j hj => ?_⟩
        · have : (xs ++ [z])[xs.length]'hi = z := by simp
          rw [this]
          refine SrcL.of (by rw [flat_len, z1]) fun j hj1 hj2 => ?_
          rw [Nat.zero_add]
          exact cellSrc_congr (σ := fun p => E.ι r (some p)) (i := 0) (by simp only [σ]; rw [if_neg (Nat.lt_irrefl _)]; simp) (hsz0 j hj1 hj2 (by simp))
        · have := h11 j (by rw [← hsz]; omega)
          rw [← hsz] at this
          rw [this]
          simpa using z4 j hj)
  refine ⟨_, E', w', hrun, g1, g2, ?_⟩
  simp only [RepAV]; rw [own_on (stat_tree hδb)]
  exact ⟨by simp, .inr ⟨b', n', ⟨b', 0, none⟩, g3, by simp [Cont.len], by simpa [Cont.len] using h2, by simp, arr', ty', h1, by show (0 : Nat) * u.size + n' * u.size ≤ _; rw [Nat.zero_mul, Nat.zero_add, hsz]; exact h3⟩⟩
end
end Go.Ab
