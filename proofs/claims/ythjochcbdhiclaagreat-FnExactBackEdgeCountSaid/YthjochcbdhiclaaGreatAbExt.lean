import Derived.Test.YthjochcbdhiclaaGreatAbApp
set_option linter.unnecessarySimpa false
set_option linter.unusedVariables false
set_option linter.unusedSimpArgs false
namespace Go.Ab
open Go.RowKit
theorem reloc_rep {E E' : Env} {h h' : Heap} {w : World} (Kp : Keep E h w E' h' w) {σ : Nat × Nat → Option (Nat × Nat)} {q ver i : Nat} {ho : Option (Nat × Nat)} : (cs : List AV) → (k : Nat) → (us : List Value) → cs.length = us.length →
    (∀ (j : Nat) (h1 : j < cs.length) (h2 : j < us.length), CellSrc E h w σ i (k + j) cs[j] us[j]) →
    (∀ (j : Nat) (h1 : j < cs.length) (u : Ty) (ys : List (den u)), cs[j] = .pv (.slice u) ys → ho ≠ some (i, k + j) → stat h' q (some (i, k + j, ver)) = .on (.lst false u ys) ∧ E'.ι q (some (i, k + j)) = σ (i, k + j)) →
    RepL E' h' w (reloc q ver ho i k cs) us
  | [], k, [], _, _, _ => RepL.nil
  | c :: cs, k, v :: us, hl, h1, h2 => by
    have ih := reloc_rep Kp cs (k + 1) us (by simpa using hl) (fun j h3 h4 => by
      have := h1 (j + 1) (Nat.succ_lt_succ h3) (Nat.succ_lt_succ h4)
      rw [show k + (j + 1) = k + 1 + j by omega] at this; exact this) (fun j h3 u ys e hn => by
      have := h2 (j + 1) (Nat.succ_lt_succ h3) u ys e (by rw [show k + (j + 1) = k + 1 + j by omega]; exact hn)
      rw [show k + (j + 1) = k + 1 + j by omega] at this; exact this)
    have a1 := h1 0 (Nat.succ_pos _) (Nat.succ_pos _)
    have a2 := h2 0 (Nat.succ_pos _)
    simp only [Nat.add_zero, List.getElem_cons_zero] at a1 a2
    cases c with
    | pv t x =>
      cases t with
      | slice u =>
        simp only [reloc]
        by_cases hh : ho = some (i, k)
        · rw [if_pos hh]; exact RepL.cons (by simp only [RepAV]) ih
        · rw [if_neg hh]
          refine RepL.cons ?_ ih
          obtain ⟨e1, e2⟩ := a2 u x rfl hh
          simp only [RepAV]
          rw [own_on e1]
          rcases a1 with ⟨q0, s0, m1, m2, m3⟩ | ⟨m1, m2, m3⟩
          · obtain ⟨hle, m4⟩ := m3
            refine ⟨hle, m4.imp id ?_⟩
            rintro ⟨b0, n, a, k1, k2, k3, k4, arr0, ty0, k5, k6⟩
            exact ⟨b0, n, a, by simp only [key]; rw [e2, ← m2]; exact k1, k2, k3, k4, arr0, ty0, k5, k6⟩
          · subst m1; subst m3; exact ⟨by simp [Cont.len], .inl ⟨rfl, rfl⟩⟩
      | _ =>
        exact RepL.cons (keep_rep Kp _ a1) ih
    | _ =>
      exact RepL.cons (keep_rep Kp _ a1) ih
theorem inv_ext {F : Fr} {E : Env} {h : Heap} {w : World} (H : Inv F E h w) {q ver : Nat} {u : Ty} {xs : List (den u)} (hc : h.getD q none = some (.tree false ver u xs none)) {i k : Nat} (hi : i < xs.length) {u' : Ty} {zs : List (den u')} (hk : (flat u xs[i])[k]? = some (.pv (.slice u') zs))
    {base : Nat} (hb : h.getD base none = none) :
    ∃ E', Inv F E' (setH (setH h q (.tree false (ver + 1) u xs (some (i, k)))) base (.lst false u' zs)) w ∧ Keep E h w E' (setH (setH h q (.tree false (ver + 1) u xs (some (i, k)))) base (.lst false u' zs)) w ∧
      ∀ v, OwnAV E h w q (some (i, k, ver)) none v → OwnAV E' (setH (setH h q (.tree false (ver + 1) u xs (some (i, k)))) base (.lst false u' zs)) w base none none v := by
  have hne : base ≠ q := by rintro rfl; rw [hc] at hb; cases hb
  let h' := setH (setH h q (.tree false (ver + 1) u xs (some (i, k)))) base (.lst false u' zs)
  have hg : h'.getD q none = some (.tree false (ver + 1) u xs (some (i, k))) := by simp only [h']; rw [getD_setH, if_neg (Ne.symm hne), getD_setH, if_pos rfl]
  have hgb : h'.getD base none = some (.lst false u' zs) := by simp only [h']; rw [getD_setH, if_pos rfl]
  have hgo : ∀ r, r ≠ q → r ≠ base → h'.getD r none = h.getD r none := fun r h1 h2 => by simp only [h']; rw [getD_setH, if_neg h2, getD_setH, if_neg h1]
  let E' : Env := ⟨fun r κ => if r = base then (if κ = none then E.ι q (some (i, k)) else none) else if r = q ∧ κ = some (i, k) then none else E.ι r κ, E.I⟩
  have hro : roAt h q = false := by rw [roAt_of hc]; rfl
  have hn : nested false u xs i k = some (.lst false u' zs) := by unfold nested; rw [List.getElem?_eq_getElem hi]; simp only [Option.bind_some, hk]
  have hst0 : stat h q (some (i, k, ver)) = .on (.lst false u' zs) := by rw [stat_treeN hc]; simp [hn]
  have hstb := stat_plain hgb (c := .lst false u' zs) trivial
  have hιb : E'.ι base none = E.ι q (some (i, k)) := by simp [E']
  have hιbs : ∀ p, E'.ι base (some p) = none := by intro p; simp [E']
  have hιq0 : E'.ι q none = E.ι q none := by simp only [E']; rw [if_neg (Ne.symm hne), if_neg (fun e => by cases e.2)]
  have hιqk : E'.ι q (some (i, k)) = none := by simp only [E']; rw [if_neg (Ne.symm hne), if_pos ⟨trivial, trivial⟩]
  have hιqo : ∀ p, p ≠ (i, k) → E'.ι q (some p) = E.ι q (some p) := fun p hp => by simp only [E']; rw [if_neg (Ne.symm hne), if_neg (fun e => hp (by simpa using e.2))]
  have hnob : ∀ κ x, E.ι base κ ≠ some x := fun κ x hx => by obtain ⟨c', h1, _⟩ := H.heap.live base κ x hx; rw [hb] at h1; cases h1
  have hfrom : ∀ r κ x, (r = q ∨ r = base) → E'.ι r κ = some x → ∃ κ0, E.ι q κ0 = some x ∧ (r = base → κ = none ∧ κ0 = some (i, k)) ∧ (r = q → κ0 = κ ∧ κ ≠ some (i, k)) := by
    rintro r κ x (rfl | rfl) h1
    · cases κ with
      | none => rw [hιq0] at h1; exact ⟨none, h1, fun e => absurd e.symm hne, fun _ => (by simp)⟩
      | some p =>
        by_cases hp : p = (i, k)
        · subst hp; rw [hιqk] at h1; cases h1
        · rw [hιqo p hp] at h1; exact ⟨some p, h1, fun e => absurd e.symm hne, fun _ => ⟨rfl, by simpa using hp⟩⟩
    · cases κ with
      | none => rw [hιb] at h1; exact ⟨some (i, k), h1, fun _ => ⟨rfl, rfl⟩, fun e => absurd e hne⟩
      | some p => rw [hιbs] at h1; cases h1
  have T : Touch (fun r => r = q ∨ r = base) E h w E' h' w := by
    refine { hh := fun r hr => hgo r (fun e => hr (.inl e)) (fun e => hr (.inr e)), hι := fun r κ hr => by simp only [E']; rw [if_neg (fun e => hr (.inr e)), if_neg (fun e => hr (.inl e.1))], II := fun b hb => hb, size := Nat.le_refl _, os := rfl, tape := rfl, output := ⟨rfl, Nat.le_refl _⟩,
             blk := fun b hb _ => rfl, asz := fun b a t ha => ⟨a, ha, rfl⟩, off := ?_, on := ?_, som := ?_, fix := (fun r hr h1 => by rcases hr with rfl | rfl; (rw [roAt_of hc] at h1; cases h1); (simp only [roAt, hb] at h1; cases h1)), obj := ?_, siz := ?_, from_ := ?_, inj := ?_, live := ?_, Inew := fun b hb => .inl hb, apart := ?_, roI := ?_ }
    · rintro r s (rfl | rfl) e
      · cases s with
        | none => rw [stat_tree hc] at e; cases e
        | some p =>
          obtain ⟨i0, k0, v0⟩ := p
          rw [stat_treeN hc] at e
          by_cases hlt : ver < v0
          · rw [if_pos hlt] at e; cases e
          · rw [stat_treeN hg, if_neg (by omega), if_pos (.inl (by omega))]
      · rw [stat_none hb] at e; cases e
    · rintro r s c (rfl | rfl) e
      · cases s with
        | none =>
          rw [stat_tree hc] at e; obtain rfl : Cont.tree false ver u xs none = c := by simpa using e
          exact .inr ⟨_, stat_tree hg, rfl, rfl, hιq0⟩
        | some p =>
          obtain ⟨i0, k0, v0⟩ := p
          obtain ⟨rfl, _, _⟩ := stat_nest hc e
          left; rw [stat_treeN hg, if_neg (by omega), if_pos (.inl (by omega))]
      · rw [stat_none hb] at e; cases e
    · rintro r (rfl | rfl)
      · exact ⟨_, hg⟩
      · exact ⟨_, hgb⟩
    · rintro Kp r s c (rfl | rfl) e
      · cases s with
        | none =>
          rw [stat_tree hg] at e; obtain rfl : Cont.tree false (ver + 1) u xs (some (i, k)) = c := by simpa using e
          right
          obtain ⟨b, arr, ty, h1, h2, h3, h4⟩ := tree_srcs H.heap hc (by omega)
          refine ⟨b, arr, ty, by simp only [key]; rw [hιq0]; exact h1, h2, h3, fun m hm => ?_⟩
          have hm' : m < xs.length := hm
          obtain ⟨vs, k1, k2, k3⟩ := h4 m hm'
          refine ⟨reloc r (ver + 1) (some (i, k)) m 0 (flat u (xs[m]'hm')), vs, by simp only [Cont.at?]; rw [List.getElem?_eq_getElem hm']; rfl, k1, ?_, k2⟩
          refine reloc_rep Kp _ 0 vs (by rw [flat_len, k1]) (fun j h5 h6 => by rw [Nat.zero_add]; exact k3 j h5 h6 (by simp)) (fun j h5 u3 ys3 e3 hno => ?_)
          rw [Nat.zero_add] at hno ⊢
          refine ⟨?_, hιqo _ (fun e => hno (by rw [e]))⟩
          have hn3 : nested false u xs m j = some (.lst false u3 ys3) := by unfold nested; rw [List.getElem?_eq_getElem hm']; simp only [Option.bind_some, List.getElem?_eq_getElem h5, e3]
          rw [stat_treeN hg, if_neg (Nat.lt_irrefl _), if_neg (by rintro (h | h); exact Nat.lt_irrefl _ h; exact hno h), hn3]
        | some p =>
          obtain ⟨i0, k0, v0⟩ := p
          obtain ⟨rfl, hno, hn0⟩ := stat_nest hg e
          have hst : stat h r (some (i0, k0, ver)) = .on c := by rw [stat_treeN hc]; simp [hn0]
          refine (H.heap.obj r _ c hst).imp id ?_
          rintro ⟨b, arr, ty, h1, h2, h3, h4⟩
          refine ⟨b, arr, ty, by simp only [key]; rw [hιqo _ (fun e => hno (by rw [e]))]; exact h1, h2, h3, fun m hm => ?_⟩
          obtain ⟨u3, ys3, rfl, _⟩ := nested_lst hn0
          obtain ⟨cs, vs, k1, k2, k3, k4⟩ := h4 m hm
          exact ⟨cs, vs, k1, k2, keep_repL Kp cs k3, k4⟩
      · rw [hstb] at e
        cases s with
        | some p => cases e
        | none =>
          obtain rfl : Cont.lst false u' zs = c := by simpa using e
          refine (H.heap.obj q _ _ hst0).imp id ?_
          rintro ⟨b, arr, ty, h1, h2, h3, h4⟩
          refine ⟨b, arr, ty, by simp only [key]; rw [hιb]; exact h1, h2, h3, fun m hm => ?_⟩
          obtain ⟨cs, vs, k1, k2, k3, k4⟩ := h4 m hm
          exact ⟨cs, vs, k1, k2, keep_repL Kp cs k3, k4⟩
    · rintro r s c b n (rfl | rfl) e h1
      · cases s with
        | none =>
          rw [stat_tree hg] at e; obtain rfl : Cont.tree false (ver + 1) u xs (some (i, k)) = c := by simpa using e
          simp only [key] at h1; rw [hιq0] at h1
          have h9 := H.heap.siz r none (.tree false ver u xs none) b n (stat_tree hc) h1
          exact h9
        | some p =>
          obtain ⟨i0, k0, v0⟩ := p
          obtain ⟨rfl, hno, hn0⟩ := stat_nest hg e
          have hst : stat h r (some (i0, k0, ver)) = .on c := by rw [stat_treeN hc]; simp [hn0]
          simp only [key] at h1; rw [hιqo _ (fun e => hno (by rw [e]))] at h1
          exact H.heap.siz r _ c b n hst h1
      · rw [hstb] at e
        cases s with
        | some p => cases e
        | none =>
          obtain rfl : Cont.lst false u' zs = c := by simpa using e
          simp only [key] at h1; rw [hιb] at h1
          exact H.heap.siz q _ _ b n hst0 h1
    · rintro r κ b n hr h1
      obtain ⟨κ0, h2, _⟩ := hfrom r κ _ hr h1
      exact .inr ⟨q, κ0, n, .inl rfl, .inl hro, h2⟩
    · rintro r κ r' κ' b n n' hr hr' h1 h2
      obtain ⟨κ0, h3, h4, h5⟩ := hfrom r κ _ hr h1
      obtain ⟨κ1, h6, h7, h8⟩ := hfrom r' κ' _ hr' h2
      have := (H.heap.inj _ _ _ _ _ _ _ h3 h6).2
      subst this
      rcases hr with rfl | rfl <;> rcases hr' with rfl | rfl
      · obtain ⟨rfl, _⟩ := h5 rfl; obtain ⟨rfl, _⟩ := h8 rfl; exact ⟨rfl, rfl⟩
      · obtain ⟨rfl, h9⟩ := h5 rfl; obtain ⟨_, rfl⟩ := h7 rfl; exact absurd rfl h9
      · obtain ⟨_, rfl⟩ := h4 rfl; obtain ⟨rfl, h9⟩ := h8 rfl; exact absurd rfl h9
      · obtain ⟨rfl, _⟩ := h4 rfl; obtain ⟨rfl, _⟩ := h7 rfl; exact ⟨rfl, rfl⟩
    · rintro r κ x (rfl | rfl) h1
      · exact ⟨_, hg, by simp⟩
      · exact ⟨_, hgb, by simp⟩
    · rintro r κ b n hr h1 _
      obtain ⟨κ0, h2, _⟩ := hfrom r κ _ hr h1
      exact H.heap.apart _ _ _ _ h2 hro
    · rintro r κ b n (rfl | rfl) h1 h2
      · rw [roAt_of hg] at h2; cases h2
      · rw [roAt_of hgb] at h2; cases h2
  obtain ⟨g1, g2⟩ := T.inv H
  refine ⟨E', g1, g2, fun v hv => ?_⟩
  rw [own_on hst0] at hv
  rw [own_on (show stat h' base none = _ from hstb none)]
  obtain ⟨hle, hv⟩ := hv
  refine ⟨hle, hv.imp id ?_⟩
  rintro ⟨b, n, a, h1, h2⟩
  exact ⟨b, n, a, by simp only [key]; rw [hιb]; exact h1, h2⟩
end Go.Ab
