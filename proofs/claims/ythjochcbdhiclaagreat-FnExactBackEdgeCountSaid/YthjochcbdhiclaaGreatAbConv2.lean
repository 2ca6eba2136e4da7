import Derived.Test.YthjochcbdhiclaaGreatAbStore2
set_option linter.unnecessarySimpa false
set_option linter.unusedVariables false
set_option linter.unusedSimpArgs false
namespace Go.Ab
open Go.RowKit
section
variable {F : Fr} {E : Env} {h : Heap} {w : World}
theorem inv_thin (H : Inv F E h w) {r ver : Nat} {t : Ty} {xs : List (den t)} (hc : h.getD r none = some (.tree false ver t xs none)) :
    ∃ E', Inv F E' (setH h r (.lst false t xs)) w ∧ Keep E h w E' (setH h r (.lst false t xs)) w := by
  have hg : (setH h r (.lst false t xs)).getD r none = some (.lst false t xs) := by rw [getD_setH, if_pos rfl]
  have hro : roAt h r = false := by rw [roAt_of hc]; rfl
  let E' : Env := ⟨fun q κ => if q = r ∧ κ ≠ none then none else E.ι q κ, fun b => E.I b ∨ ∃ p n, E.ι r (some p) = some (b, n)⟩
  have hι0 : E'.ι r none = E.ι r none := by simp [E']
  have hιs : ∀ p, E'.ι r (some p) = none := by intro p; simp [E']
  have hst : ∀ s, stat (setH h r (.lst false t xs)) r s = (match s with | none => .on (.lst false t xs) | some _ => .off) := fun s => stat_plain hg trivial s
  have T : Touch (fun q => q = r) E h w E' (setH h r (.lst false t xs)) w := by
    refine { hh := fun q hq => by rw [getD_setH, if_neg hq], hι := fun q κ hq => by simp only [E']; rw [if_neg (fun e => hq e.1)], II := fun b hb => .inl hb, size := Nat.le_refl _, os := rfl, tape := rfl, output := ⟨rfl, Nat.le_refl _⟩,
             blk := fun b hb _ => rfl, asz := fun b a t ha => ⟨a, ha, rfl⟩, off := ?_, on := ?_, som := ?_, fix := (fun q hq h1 => by subst hq; rw [hro] at h1; cases h1), obj := ?_, siz := ?_, from_ := ?_, inj := ?_, live := ?_, Inew := ?_, apart := ?_, roI := ?_ }
    · rintro q s rfl e
      cases s with
      | none => rw [stat_tree hc] at e; cases e
      | some p => rw [hst]
    · rintro q s c rfl e
      cases s with
      | none =>
        rw [stat_tree hc] at e; obtain rfl : Cont.tree false ver t xs none = c := by simpa using e
        exact .inr ⟨.lst false t xs, by rw [hst], rfl, rfl, hι0⟩
      | some p => exact .inl (by rw [hst])
    · rintro q rfl; exact ⟨_, hg⟩
    · rintro K q s c rfl e
      rw [hst] at e
      cases s with
      | some p => cases e
      | none =>
        obtain rfl : Cont.lst false t xs = c := by simpa using e
        refine (H.heap.obj q none _ (stat_tree hc)).imp id ?_
        rintro ⟨b, arr, ty, h1, h2, h3, h4⟩
        refine ⟨b, arr, ty, hι0.trans h1, h2, h3, fun i hi => ?_⟩
        obtain ⟨cs, vs, k1, k2, k3, k4⟩ := h4 i hi
        obtain ⟨hi', rfl⟩ := at_tree k1
        refine ⟨flat t xs[i], vs, by simp only [Cont.at?]; rw [List.getElem?_eq_getElem hi']; rfl, k2, ?_, k4⟩
        exact rep_flat (E := E') t (tree_reads H.heap (J := E'.I) (fun b hb => .inl hb) hc (fun p b n hb => .inr ⟨p, n, hb⟩) hi' t _ 0 (fun j hj => by rw [Nat.zero_add]) k3)
    · rintro q s c b n rfl e h1
      rw [hst] at e
      cases s with
      | some p => cases e
      | none =>
        obtain rfl : Cont.lst false t xs = c := by simpa using e
        simp only [key] at h1; rw [hι0] at h1
        have h9 := H.heap.siz q none (.tree false ver t xs none) b n (stat_tree hc) h1
        exact h9
    · rintro q κ b n rfl h1
      cases κ with
      | none => rw [hι0] at h1; exact .inr ⟨q, none, n, rfl, .inl hro, h1⟩
      | some p => rw [hιs] at h1; cases h1
    · rintro q κ q' κ' b n n' rfl rfl h1 h2
      cases κ with
      | none => cases κ' with
        | none => exact ⟨rfl, rfl⟩
        | some p => rw [hιs] at h2; cases h2
      | some p => rw [hιs] at h1; cases h1
    · rintro q κ x rfl h1; exact ⟨_, hg, by simp⟩
    · rintro b (hb | ⟨p, n, hb⟩)
      · exact .inl hb
      · exact .inr (.inr ⟨r, some p, n, rfl, hro, hb⟩)
    · rintro q κ b n rfl h1 h2 hI
      cases κ with
      | none =>
        rw [hι0] at h1
        rcases hI with hI | ⟨p, n', hI⟩
        · exact H.heap.apart _ _ _ _ h1 hro hI
        · have := (H.heap.inj _ _ _ _ _ _ _ h1 hI).2; cases this
      | some p => rw [hιs] at h1; cases h1
    · rintro q κ b n rfl h1 h2; rw [roAt_of hg] at h2; cases h2
  exact ⟨E', T.inv H⟩
theorem inv_solid (H : Inv F E h w) {r n : Nat} {es : List (List AV)} {t : Ty} {xs : List (den t)} (hc : h.getD r none = some (.cells n es)) (hn : t.size = n) (hl : xs.length = es.length)
    (hel : ∀ (i : Nat) (h1 : i < xs.length) (h2 : i < es.length) vs, RepL E h w es[i] vs → RepC E.I w t xs[i] vs) : Inv F E (setH h r (.lst false t xs)) w ∧ Keep E h w E (setH h r (.lst false t xs)) w := by
  have hg : (setH h r (.lst false t xs)).getD r none = some (.lst false t xs) := by rw [getD_setH, if_pos rfl]
  have hro : roAt h r = false := by rw [roAt_of hc]; rfl
  have hst : ∀ s, stat (setH h r (.lst false t xs)) r s = (match s with | none => .on (.lst false t xs) | some _ => .off) := fun s => stat_plain hg trivial s
  have hst0 := stat_plain hc trivial
  have T : Touch (fun q => q = r) E h w E (setH h r (.lst false t xs)) w := by
    refine { hh := fun q hq => by rw [getD_setH, if_neg hq], hι := fun q κ hq => rfl, II := fun b hb => hb, size := Nat.le_refl _, os := rfl, tape := rfl, output := ⟨rfl, Nat.le_refl _⟩,
             blk := fun b hb _ => rfl, asz := fun b a t ha => ⟨a, ha, rfl⟩, off := ?_, on := ?_, som := ?_, fix := (fun q hq h1 => by subst hq; rw [hro] at h1; cases h1), obj := ?_, siz := ?_, from_ := ?_, inj := ?_, live := ?_, Inew := fun b hb => .inl hb, apart := ?_, roI := ?_ }
    · rintro q s rfl e
      rw [hst0] at e
      cases s with
      | none => cases e
      | some p => cases e
    · rintro q s c rfl e
      rw [hst0] at e
      cases s with
      | none => obtain rfl : Cont.cells n es = c := by simpa using e
                exact .inr ⟨.lst false t xs, by rw [hst], hl, hn, rfl⟩
      | some p => cases e
    · rintro q rfl; exact ⟨_, hg⟩
    · rintro K q s c rfl e
      rw [hst] at e
      cases s with
      | some p => cases e
      | none =>
        obtain rfl : Cont.lst false t xs = c := by simpa using e
        rcases H.heap.obj q none _ (stat_root hc (by simp)) with h0 | ⟨b, arr, ty, h1, h2, h3, h4⟩
        · left; exact hl.trans h0
        · right
          simp only [Cont.sz, Cont.len] at h1 h3 h4
          refine ⟨b, arr, ty, by simp only [Cont.sz]; rw [hn]; exact h1, h2, by simp only [Cont.sz, Cont.len]; rw [hl, hn]; exact h3, fun i hi => ?_⟩
          have hi' : i < xs.length := hi
          obtain ⟨cs, vs, k1, k2, k3, k4⟩ := h4 i (by omega)
          simp only [Cont.at?] at k1
          obtain ⟨hi2, rfl⟩ := List.getElem?_eq_some_iff.1 k1
          exact ⟨flat t (xs[i]'hi'), vs, by simp only [Cont.at?]; rw [List.getElem?_eq_getElem hi']; rfl, by simp only [Cont.sz]; rw [hn]; exact k2, rep_flat t (hel i hi' hi2 vs k3), by simp only [Cont.sz]; rw [hn]; exact k4⟩
    · rintro q s c b m rfl e h1
      rw [hst] at e
      cases s with
      | some p => cases e
      | none =>
        obtain rfl : Cont.lst false t xs = c := by simpa using e
        have := H.heap.siz q none _ b m (stat_root hc (by simp)) h1
        simp only [Cont.sz] at this ⊢; omega
    · rintro q κ b m rfl h1; exact .inr ⟨q, κ, m, rfl, .inl hro, h1⟩
    · rintro q κ q' κ' b m m' rfl rfl h1 h2; exact H.heap.inj _ _ _ _ _ _ _ h1 h2
    · rintro q κ x rfl h1; exact ⟨_, hg, by simp⟩
    · rintro q κ b m rfl h1 h2; exact H.heap.apart _ _ _ _ h1 hro
    · rintro q κ b m rfl h1 h2; rw [roAt_of hg] at h2; cases h2
  exact T.inv H
theorem inv_plant (H : Inv F E h w) {hp : Heap} (hs : SubH hp h) {r n : Nat} {e d : List AV} {t : Ty} {x : den t} (hc : h.getD r none = some (.cells n [e])) (hn : t.size = n) (hnd : nodupB (r :: rootsOf e) = true) (hpl : plantC hp e = some d)
    (hdl : d.length = t.size) (hcell : ∀ (j : Nat) (h1 : j < d.length) (h2 : j < (flat t x).length), CellIs d[j] (flat t x)[j]) :
    ∃ E', Inv F E' (apD h ((r, .tree false 0 t [x] none) :: killD (rootsOf e))) w ∧ Keep E h w E' (apD h ((r, .tree false 0 t [x] none) :: killD (rootsOf e))) w := by
  obtain ⟨hpl1, hpis⟩ := plantC_spec _ hpl
  obtain ⟨hq1, hq2⟩ := nodupB_cons hnd
  rcases H.heap.obj r none _ (stat_root hc (by simp)) with h0 | ⟨b, arr, ty, h1, h2, h3, h4⟩
  · simp [Cont.len] at h0
  simp only [Cont.sz, Cont.len, key] at h1 h3 h4
  let σ : Nat × Nat → Option (Nat × Nat) := fun p => if p.1 = 0 then (match e[p.2]? with | some (.own q' none none) => E.ι q' none | _ => none) else none
  have hroot : ∀ q' ∈ rootsOf e, q' ≠ r ∧ ∃ u ys, h.getD q' none = some (.lst false u ys) := by
    intro q' hm
    refine ⟨fun e => hq1 (by rw [← e]; exact hm), ?_⟩
    obtain ⟨m, hm'⟩ := (mem_rootsOf _ q').1 hm
    obtain ⟨hml, hme⟩ := List.getElem?_eq_some_iff.1 hm'
    rcases hpis m hml (by omega) with ⟨q0, u, ys, e1, e2, _⟩ | ⟨e1, _⟩ | ⟨_, _, e1, _⟩
    · rw [hme] at e1; obtain rfl : q' = q0 := by simpa using e1
      exact ⟨u, ys, hs.lst e2 (by simp) (by simp)⟩
    · rw [hme] at e1; cases e1
    · rw [hme] at e1; cases e1
  have hσr : ∀ p b' n', σ p = some (b', n') → p.1 = 0 ∧ ∃ q', e[p.2]? = some (.own q' none none) ∧ E.ι q' none = some (b', n') := by
    intro p b' n' ee
    simp only [σ] at ee
    split at ee
    · rename_i hin
      split at ee
      · rename_i q' hq'; exact ⟨hin, q', hq', ee⟩
      · cases ee
    · cases ee
  obtain ⟨E', g1, g2, g3⟩ := inv_tree H (r := r) (ver := 0) (t := t) (xs := [x]) (K := fun q' => q' ∈ rootsOf e) (fun q' hm => ⟨(hroot q' hm).1, by obtain ⟨u, ys, e⟩ := (hroot q' hm).2; exact ⟨_, e, rfl⟩⟩)
    (h' := apD h ((r, .tree false 0 t [x] none) :: killD (rootsOf e))) (by show (apD (setH h r _) (killD _)).getD r none = _; rw [getD_kill, if_neg hq1, getD_setH, if_pos rfl]) (fun q' hm => by show (apD (setH h r _) (killD _)).getD q' none = _; rw [getD_kill, if_pos hm]) (fun q' hne hm => by show (apD (setH h r _) (killD _)).getD q' none = _; rw [getD_kill, if_neg hm, getD_setH, if_neg hne])
    (w' := w) (b := b) (arr := arr) (ty := ty) h2 (fun k _ _ => rfl)
    (.inr ⟨_, hc, rfl, by simp, by simp [Cont.len], by simp only [Cont.sz]; exact hn.symm, by rw [hn]; exact h1, fun p hne => by
      exfalso; apply hne
      rw [stat_plain hc trivial]; rfl⟩)
    (.inl ⟨r, _, .inl rfl, h1, fun a' ty' ha' => (by rw [h2] at ha'; have h9 : arr = a' ∧ ty = ty' := (by simpa using ha'); exact ⟨h9.2.symm, by rw [h9.1]⟩)⟩)
    (Nat.le_refl _) (H.heap.own_lt b ⟨_, _, _, h1⟩) rfl rfl ⟨rfl, Nat.le_refl _⟩ (by simpa [hn] using h3) σ
    (fun p b' n' ee => by
      obtain ⟨_, q', h5, h6⟩ := hσr p b' n' ee
      have hm := (mem_rootsOf _ q').2 ⟨_, h5⟩
      exact ⟨q', none, .inr hm, h6, fun hbb => by subst hbb; exact (hroot q' hm).1 (H.heap.inj _ _ _ _ _ _ _ h6 h1).1⟩)
    (fun p p' b' m m' ee ee' => by
      obtain ⟨hin, q1, h5, h6⟩ := hσr p b' m ee
      obtain ⟨hin', q2, h7, h8⟩ := hσr p' b' m' ee'
      have := (H.heap.inj _ _ _ _ _ _ _ h6 h8).1; subst this
      have := nodup_pos _ hq2 _ _ _ h5 h7
      obtain ⟨p1, p2⟩ := p; obtain ⟨p1', p2'⟩ := p'
      simp only at hin hin' this ⊢
      rw [hin, hin', this])
    (fun i hi => by
      have hi0 : i = 0 := by simpa using hi
      subst hi0
      obtain ⟨cs, vs, k1, k2, k3, k4⟩ := h4 0 (by simp)
      have hcs : e = cs := by simpa [Cont.at?] using k1
      subst hcs
      refine ⟨vs, ?_, by rw [hn]; exact k4⟩
      refine SrcL.of (by rw [flat_len, hn, k2]) fun m hm1 hm2 => ?_
      rw [Nat.zero_add]
      have hme : m < e.length := by rw [← hpl1, hdl, ← flat_len (x := x)]; exact hm1
      exact plant_src hs (hpis m hme (by omega)) (hcell m (by omega) hm1) (k3.getAt m hme hm2) (fun q' ee => by simp only [σ]; rw [if_pos trivial, List.getElem?_eq_getElem hme, ee]) (fun ee => by simp only [σ]; rw [if_pos trivial, List.getElem?_eq_getElem hme, ee]))
  exact ⟨E', g1, g2⟩
end
theorem apD_none : (δ : Delta) → {h : Heap} → (∀ p ∈ δ, ∃ c, h.getD p.1 none = some c) → ∀ q, h.getD q none = none → (apD h δ).getD q none = none
  | [], h, _, q, e => e
  | p :: δ, h, hp, q, e => by
    have hne : q ≠ p.1 := by rintro rfl; obtain ⟨c, h1⟩ := hp p (by simp); rw [e] at h1; cases h1
    refine apD_none δ (fun p' hp' => ?_) q (by rw [getD_setH, if_neg hne]; exact e)
    rw [getD_setH]
    split
    · exact ⟨_, rfl⟩
    · exact hp p' (by simp [hp'])
theorem SubH.some {hp h : Heap} (hs : SubH hp h) {r : Nat} {c : Cont} (hc : hp.getD r none = some c) (hd : c ≠ .dead) : ∃ c', h.getD r none = some c' := by
  rcases hs r c hc hd with h1 | ⟨n, l, c', e, h1, _⟩
  · exact ⟨_, h1⟩
  · exact ⟨_, h1⟩
theorem one {hp h : Heap} (hs : SubH hp h) {r : Nat} {c c' : Cont} (hc : hp.getD r none = some c) (hd : c ≠ .dead) : ∀ q, h.getD q none = none → (apD h [(r, c')]).getD q none = none :=
  apD_none _ (fun p hp => by
    obtain rfl : p = (r, c') := by simpa using hp
    exact hs.some hc hd)
theorem convK_spec {R : Type} {c : Conv} {hp : Heap} {K : Delta → Option R} {r : R} (e : convK c hp K = some r) : ∃ δ, K δ = some r ∧ ∀ h, SubH hp h → (∀ q, h.getD q none = none → (apD h δ).getD q none = none) ∧ ∀ (F : Fr) (E : Env) (w : World), Inv F E h w → ∃ E', Inv F E' (apD h δ) w ∧ Keep E h w E' (apD h δ) w := by
  cases c with
  | fz q =>
    simp only [convK] at e
    split at e
    · rename_i ro t xs hc
      exact ⟨_, e, fun h hs => ⟨one hs hc (by simp), fun F E w H => ⟨_, inv_fz_lst H (hs.lst hc (by simp) (by simp))⟩⟩⟩
    · rename_i ro v t xs hc
      exact ⟨_, e, fun h hs => ⟨one hs hc (by simp), fun F E w H => ⟨_, inv_fz_tree H (hs.lst hc (by simp) (by simp))⟩⟩⟩
    · cases e
  | thin q =>
    simp only [convK] at e
    split at e
    · rename_i v t xs hc
      exact ⟨_, e, fun h hs => ⟨one hs hc (by simp), fun F E w H => inv_thin H (hs.lst hc (by simp) (by simp))⟩⟩
    · cases e
  | solid q t =>
    simp only [convK] at e
    split at e
    · rename_i n es hc
      split at e
      · rename_i hn
        obtain ⟨xs, h1, h2, h3⟩ := packEsK_spec es e (fun e x => ∀ h0, SubH hp h0 → ∀ (E : Env) (w : World), HeapOK E h0 w → ∀ vs, RepL E h0 w e vs → RepC E.I w t x vs) (fun e _ K r hpk => by
          obtain ⟨x, rest, k1, k2⟩ := (packK_spec t).1 _ _ _ _ hpk
          refine ⟨x, rest, k1, fun hr h0 hs E w H vs hvs => ?_⟩
          subst hr
          obtain ⟨us, ws, rfl, k3, k4⟩ := k2 E h0 w E.I (pack_ro hs H) vs hvs
          simp only [RepL] at k4; subst k4
          rw [List.append_nil]; exact k3)
        exact ⟨_, h1, fun h hs => ⟨one hs hc (by simp), fun F E w H => ⟨_, inv_solid H (hs.lst hc (by simp) (by simp)) hn h2 (fun i h4 h5 vs hv => h3 i h4 h5 h hs E w H.heap vs hv)⟩⟩⟩
      · cases e
    · cases e
  | plant q t =>
    simp only [convK] at e
    split at e
    · rename_i n el hc
      split at e
      · rename_i hn
        split at e
        · rename_i d hd
          obtain ⟨x, hK, hl, hcell⟩ := pack_all e (plantC_pv hd)
          refine ⟨_, hK, fun h hs => ⟨apD_none _ (fun p hp => ?_), fun F E w H => inv_plant H hs (hs.lst hc (by simp) (by simp)) hn.1 hn.2 hd hl hcell⟩⟩
          simp only [List.mem_cons, killD, List.mem_map] at hp
          rcases hp with rfl | ⟨q', hq', rfl⟩
          · exact hs.some hc (by simp)
          · obtain ⟨m, hm⟩ := (mem_rootsOf _ q').1 hq'
            obtain ⟨hml, hme⟩ := List.getElem?_eq_some_iff.1 hm
            obtain ⟨hpl1, hpis⟩ := plantC_spec _ hd
            rcases hpis m hml (by omega) with ⟨q0, u, ys, e1, e2, _⟩ | ⟨e1, _⟩ | ⟨_, _, e1, _⟩
            · rw [hme] at e1; obtain rfl : q' = q0 := by simpa using e1
              exact hs.some e2 (by simp)
            · rw [hme] at e1; cases e1
            · rw [hme] at e1; cases e1
        · cases e
      · cases e
    · cases e
theorem convsK_spec {R : Type} : (cs : List Conv) → {hp : Heap} → {K : Delta → Option R} → {r : R} → convsK cs hp K = some r → ∃ δ, K δ = some r ∧ ∀ h, SubH hp h → (∀ q, h.getD q none = none → (apD h δ).getD q none = none) ∧ ∀ (F : Fr) (E : Env) (w : World), Inv F E h w → ∃ E', Inv F E' (apD h δ) w ∧ Keep E h w E' (apD h δ) w
  | [], hp, K, r, e => ⟨[], e, fun h hs => ⟨fun q e => e, fun F E w H => ⟨E, H, Keep.refl E h w⟩⟩⟩
  | c :: cs, hp, K, r, e => by
    obtain ⟨δ, h1, h2⟩ := convK_spec e
    obtain ⟨δ', h3, h4⟩ := convsK_spec cs h1
    refine ⟨δ ++ δ', h3, fun h hs => ⟨fun q e => by rw [← apD_append]; exact (h4 _ (hs.apD δ)).1 q ((h2 h hs).1 q e), fun F E w H => ?_⟩⟩
    obtain ⟨E1, k1, k2⟩ := (h2 h hs).2 F E w H
    obtain ⟨E2, k3, k4⟩ := (h4 (apD h δ) (hs.apD δ)).2 F E1 w k1
    rw [apD_append] at k3 k4
    exact ⟨E2, k3, k2.trans k4⟩
end Go.Ab
