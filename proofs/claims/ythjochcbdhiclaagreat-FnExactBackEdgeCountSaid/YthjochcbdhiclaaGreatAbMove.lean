import Derived.Test.YthjochcbdhiclaaGreatAbStore2
import Derived.Test.YthjochcbdhiclaaGreatAbApp3
import Derived.Test.YthjochcbdhiclaaGreatAbVrD
set_option linter.unnecessarySimpa false
set_option linter.unusedVariables false
set_option linter.unusedSimpArgs false
namespace Go.Ab
open Go.RowKit
section
variable {F : Fr} {E : Env} {h : Heap} {w : World}
theorem inv_none_tree (H : Inv F E h w) {r : Nat} (hr : h.getD r none = none) (t : Ty) : Inv F E (setH h r (.tree false 0 t [] none)) w ∧ Keep E h w E (setH h r (.tree false 0 t [] none)) w := by
  have hg : (setH h r (.tree false 0 t [] none)).getD r none = some (.tree false 0 t [] none) := by rw [getD_setH, if_pos rfl]
  have hno : ∀ κ x, E.ι r κ ≠ some x := fun κ x hx => by obtain ⟨c', h1, _⟩ := H.heap.live r κ x hx; rw [hr] at h1; cases h1
  have hst : ∀ s c, stat (setH h r (.tree false 0 t [] none)) r s = .on c → s = none ∧ c = .tree false 0 t [] none := by
    intro s c e
    cases s with
    | none => rw [stat_tree hg] at e; exact ⟨rfl, by simpa using e.symm⟩
    | some p =>
      obtain ⟨i, k, v⟩ := p
      obtain ⟨_, _, hn⟩ := stat_nest hg e
      obtain ⟨u, ys, _, hi, _⟩ := nested_lst hn
      simp at hi
  have T : Touch (fun q => q = r) E h w E (setH h r (.tree false 0 t [] none)) w := by
    refine { hh := fun q hq => by rw [getD_setH, if_neg hq], hι := fun q κ hq => rfl, II := fun b hb => hb, size := Nat.le_refl _, os := rfl, tape := rfl, output := ⟨rfl, Nat.le_refl _⟩,
             blk := fun b hb _ => rfl, asz := fun b a t ha => ⟨a, ha, rfl⟩, off := ?_, on := ?_, som := ?_, fix := (fun q hq h1 => by subst hq; simp only [roAt, hr] at h1; cases h1), obj := ?_, siz := ?_, from_ := ?_, inj := ?_, live := ?_, Inew := fun b hb => .inl hb, apart := ?_, roI := ?_ }
    · rintro q s rfl e; rw [stat_none hr] at e; cases e
    · rintro q s c0 rfl e; rw [stat_none hr] at e; cases e
    · rintro q rfl; exact ⟨_, hg⟩
    · rintro K q s c0 rfl e
      obtain ⟨rfl, rfl⟩ := hst s c0 e
      exact .inl rfl
    · rintro q s c0 b n rfl e h1; exact absurd h1 (hno _ _)
    · rintro q κ b n rfl h1; exact absurd h1 (hno _ _)
    · rintro q κ q' κ' b n n' rfl rfl h1 h2; exact absurd h1 (hno _ _)
    · rintro q κ x rfl h1; exact absurd h1 (hno _ _)
    · rintro q κ b n rfl h1; exact absurd h1 (hno _ _)
    · rintro q κ b n rfl h1; exact absurd h1 (hno _ _)
  exact T.inv H
theorem cut_one (H : Inv F E h w) {r r2 : Nat} {t : Ty} {xs : List (den t)} {n : Nat} {rg : Option (Nat × Nat)} (hc : h.getD r none = some (.lst false t xs)) (hnew : h.getD r2 none = none) (hrg : rg.getD (0, xs.length) = (0, n)) {v : Value} (hv : RepAV E h w (.own r none rg) v) :
    ∃ E', Inv F E' (setH (setH h r .dead) r2 (.lst false t (xs.take n))) w ∧ Keep E h w E' (setH (setH h r .dead) r2 (.lst false t (xs.take n))) w ∧ RepAV E' (setH (setH h r .dead) r2 (.lst false t (xs.take n))) w (.own r2 none none) v := by
  have hst := stat_root hc (by simp)
  simp only [RepAV] at hv ⊢
  rw [own_on hst] at hv
  obtain ⟨hle, h1⟩ := hv
  simp only [Cont.len, Cont.sz, key, hrg] at hle h1
  have hl : (xs.take n).length = n := by simp; omega
  have hne : r2 ≠ r := by rintro rfl; rw [hc] at hnew; cases hnew
  have hst2 : stat (setH (setH h r .dead) r2 (.lst false t (xs.take n))) r2 none = .on (.lst false t (xs.take n)) := stat_root (by rw [getD_setH, if_pos rfl]) (by simp)
  rcases h1 with ⟨h0, rfl⟩ | ⟨b, m, a, hι, rfl, hm, ha, arr, ty, hb, hcap⟩
  · obtain ⟨k1, k2⟩ := inv_kill H hc rfl
    obtain ⟨k3, k4⟩ := inv_none k1 (r := r2) (by rw [getD_setH, if_neg hne]; exact hnew) (.lst false t (xs.take n)) trivial (by show (xs.take n).length = 0; omega)
    refine ⟨_, k3, k2.trans k4, ?_⟩
    rw [own_on hst2]
    exact ⟨by simp [Cont.len], .inl ⟨by show (xs.take n).length = 0; omega, rfl⟩⟩
  · simp only [Nat.zero_mul, Nat.zero_add] at ha hcap
    have hnm : n * t.size ≤ m * t.size := Nat.mul_le_mul_right _ hm
    obtain ⟨k1, k2⟩ := inv_move H hc trivial hnew (d := .lst false t (xs.take n)) trivial hb (fun _ _ _ => rfl) (.inl ⟨hι, fun a' t' e => by rw [hb] at e; simp only [Option.some.injEq, Obj.cells.injEq] at e; exact ⟨e.2.1.symm, by rw [e.1]⟩⟩) (Nat.le_refl _) (Array.getElem?_eq_some_iff.1 hb).1 rfl rfl ⟨rfl, Nat.le_refl _⟩ (by show (xs.take n).length * t.size ≤ _; rw [hl]; omega) (fun i hi => by
      have hi : i < (xs.take n).length := hi
      rcases H.heap.obj r none _ hst with h0 | ⟨b', arr', ty', hι', hb', _, hels⟩
      · simp only [Cont.len] at h0; omega
      simp only [key, Cont.sz] at hι'
      rw [hι] at hι'; obtain rfl : b = b' := by simpa using hι'
      rw [hb] at hb'
      simp only [Option.some.injEq, Obj.cells.injEq] at hb'
      obtain ⟨rfl, _⟩ := hb'
      obtain ⟨cs, vs, g1, g2, g3, g4⟩ := hels i (by show i < xs.length; omega)
      exact ⟨cs, vs, by rw [← g1]; simp only [Cont.at?]; rw [List.getElem?_take, if_pos (by omega)], g2, g3, g4⟩)
    refine ⟨_, k1, k2, ?_⟩
    rw [own_on hst2]
    exact ⟨by simp [Cont.len], .inr ⟨b, m, a, by simp [Env.set, key, Cont.sz], by simp [Cont.len, hl], by simp [Cont.len, hl]; omega, by simpa using ha, arr, ty, hb, by simpa [Cont.sz] using hcap⟩⟩
theorem cut_tree (H : Inv F E h w) {r r2 : Nat} {ver : Nat} {t : Ty} {xs : List (den t)} (hc : h.getD r none = some (.tree false ver t xs none)) (hnew : h.getD r2 none = none) {v : Value} (hv : RepAV E h w (.own r none none) v) :
    ∃ E', Inv F E' (setH (setH h r .dead) r2 (.tree false 0 t xs none)) w ∧ Keep E h w E' (setH (setH h r .dead) r2 (.tree false 0 t xs none)) w ∧ RepAV E' (setH (setH h r .dead) r2 (.tree false 0 t xs none)) w (.own r2 none none) v := by
  have hst := stat_tree hc
  have hne : r2 ≠ r := by rintro rfl; rw [hc] at hnew; cases hnew
  have hg2 : (setH (setH h r .dead) r2 (.tree false 0 t xs none)).getD r2 none = some (.tree false 0 t xs none) := by rw [getD_setH, if_pos rfl]
  simp only [RepAV] at hv ⊢
  rw [own_on hst] at hv
  rcases own_raw hv with ⟨h0, rfl⟩ | ⟨b, m, a, arr, ty, rfl, hm, ha, hb, hcap, hι⟩
  · have hx : xs = [] := List.eq_nil_of_length_eq_zero h0
    subst hx
    obtain ⟨k1, k2⟩ := inv_kill H hc rfl
    obtain ⟨k3, k4⟩ := inv_none_tree k1 (r := r2) (by rw [getD_setH, if_neg hne]; exact hnew) t
    exact ⟨_, k3, k2.trans k4, (own_on (stat_tree hg2)).2 ⟨by simp [Cont.len], .inl ⟨rfl, rfl⟩⟩⟩
  · simp only [Cont.len, Cont.sz] at hm hcap hι
    have hnm : xs.length * t.size ≤ m * t.size := Nat.mul_le_mul_right _ hm
    have hbroot : ∀ q κ n, E.ι q (some κ) ≠ some (b, n) := fun q κ n e => by have := (H.heap.inj _ _ _ _ _ _ _ e hι).2; cases this
    obtain ⟨E', g1, g2, g3⟩ := inv_tree H (r := r2) (ver := 0) (t := t) (xs := xs) (K := fun q => q = r) (fun q hq => ⟨by rw [hq]; exact Ne.symm hne, .tree false ver t xs none, by rw [hq]; exact hc, rfl⟩) (h' := setH (setH h r .dead) r2 (.tree false 0 t xs none)) hg2 (fun q hq => by rw [hq, getD_setH, if_neg (Ne.symm hne), getD_setH, if_pos rfl]) (fun q k1 k2 => by rw [getD_setH, if_neg k1, getD_setH, if_neg k2]) hb (fun _ _ _ => rfl) (.inl hnew) (.inl ⟨r, _, .inr rfl, hι, fun a' t' e => by rw [hb] at e; simp only [Option.some.injEq, Obj.cells.injEq] at e; exact ⟨e.2.1.symm, by rw [e.1]⟩⟩) (Nat.le_refl _) (Array.getElem?_eq_some_iff.1 hb).1 rfl rfl ⟨rfl, Nat.le_refl _⟩ (by omega) (fun p => E.ι r (some p))
      (fun p b0 n0 e => ⟨r, some p, .inr rfl, e, fun hbb => by subst hbb; exact hbroot _ _ _ e⟩) (fun p p' b0 n0 n1 e e' => by have := (H.heap.inj _ _ _ _ _ _ _ e e').2; simpa using this)
      (fun i hi => by
        obtain ⟨b', arr', ty0, t1, t2, t3, t4⟩ := tree_srcs H.heap hc (by omega)
        rw [hι] at t1; obtain rfl : b = b' := by simpa using t1
        rw [hb] at t2
        simp only [Option.some.injEq, Obj.cells.injEq] at t2
        obtain ⟨rfl, _⟩ := t2
        obtain ⟨vs, k1, k2, k3⟩ := t4 i hi
        exact ⟨vs, SrcL.of (by rw [flat_len, k1]) fun j hj1 hj2 => by rw [Nat.zero_add]; exact k3 j hj1 hj2 (by simp), k2⟩)
    exact ⟨E', g1, g2, (own_on (stat_tree hg2)).2 ⟨by simp [Cont.len], .inr ⟨b, m, a, by simpa [key, Cont.sz] using g3, by simp [Cont.len], by simpa [Cont.len] using hm, by simpa using ha, arr, ty, hb, by simpa [Cont.sz] using hcap⟩⟩⟩
theorem recell (H : Inv F E h w) {b n k : Nat} {es es' : List AV} (hc : h.getD b none = some (.cells n [es])) (hrep : ∀ b' arr ty (vs : List Value), E.ι b none = some (b', n) → w.heap[b']? = some (.cells arr ty (0, 0)) → vs.length = n → (∀ (j : Nat) (hj : j < vs.length), arr[j]? = some vs[j]) → RepL E h w es vs → RepL E h w es' vs) :
    Inv F E (setH h b (.cells n [es'])) w ∧ Keep E h w E (setH h b (.cells n [es'])) w := by
  have hst := stat_root hc (by simp)
  rcases H.heap.obj b none _ hst with h0 | ⟨b', arr, ty, hι, hb, hfit, hels⟩
  · simp [Cont.len] at h0
  simp only [key, Cont.sz] at hι hfit hels
  refine inv_set H hc trivial (c' := .cells n [es']) trivial rfl (arr' := arr) hι hb rfl rfl rfl hfit (fun i hi => ?_) (fun k _ => ?_) (Nat.le_refl _) rfl rfl ⟨rfl, Nat.le_refl _⟩
  · obtain ⟨cs, vs, k1, k2, k3, k4⟩ := hels i hi
    have hi0 : i = 0 := by have : i < 1 := hi; omega
    subst hi0
    obtain rfl : es = cs := by simpa [Cont.at?] using k1
    exact ⟨es', vs, rfl, k2, hrep b' arr ty vs hι hb k2 (fun j hj => by simpa using k4 j hj) k3, k4⟩
  · by_cases e : k = b'
    · subst e; rw [if_pos rfl, hb]
    · rw [if_neg e]
end
theorem renew {F : Fr} {E : Env} {h : Heap} {w : World} (H : Inv F E h w) {r r2 : Nat} {c c' : Cont} (hc : h.getD r none = some c) (hr : renewC c = some c') (hnew : h.getD r2 none = none) {v : Value} (hv : RepAV E h w (.own r none none) v) :
    ∃ E', Inv F E' (setH (setH h r .dead) r2 c') w ∧ Keep E h w E' (setH (setH h r .dead) r2 c') w ∧ RepAV E' (setH (setH h r .dead) r2 c') w (.own r2 none none) v := by
  unfold renewC at hr
  split at hr
  · rename_i t xs
    obtain rfl : _ = c' := by simpa using hr
    have := cut_one H (n := xs.length) hc hnew rfl hv
    rwa [List.take_length] at this
  · obtain rfl : _ = c' := by simpa using hr
    exact cut_tree H hc hnew hv
  · cases hr
theorem repL_set {E : Env} {h : Heap} {w : World} {c : AV} : {es : List AV} → {vs : List Value} → (k : Nat) → RepL E h w es vs → (∀ v, vs[k]? = some v → RepAV E h w c v) → RepL E h w (es.set k c) vs
  | [], vs, k, hr, _ => by simpa using hr
  | e :: es, vs, 0, hr, hc => by
    simp only [RepL] at hr
    obtain ⟨v, us, rfl, h1, h2⟩ := hr
    exact RepL.cons (hc v rfl) h2
  | e :: es, vs, k + 1, hr, hc => by
    simp only [RepL] at hr
    obtain ⟨v, us, rfl, h1, h2⟩ := hr
    exact RepL.cons h1 (repL_set k h2 (fun v' hv' => hc v' (by simpa using hv')))
theorem cutK_sem {R : Type} {c : Option (Nat × Nat)} {h : Heap} {vs : List AV} {K : Heap → List AV → Option R} {r : R} (e : cutK c h vs K = some r) :
    ∃ h' vs', K h' vs' = some r ∧ ∀ (F : Fr) (E : Env) (w : World) (us : List Value), Inv F E h w → RepL E h w vs us → ∃ E', Inv F E' h' w ∧ RepL E' h' w vs' us := by
  have hnew : h.getD h.length none = none := by simp
  unfold cutK at e
  split at e
  · split at e
    · rename_i q l
      split at e
      case h_2 => cases e
      rename_i c hq
      split at e
      case h_2 => cases e
      rename_i c' hc'
      refine ⟨_, _, e, fun F E w us H hr => ?_⟩
      simp only [RepL] at hr
      obtain ⟨u, us, rfl, h1, h2⟩ := hr
      obtain ⟨E', k1, k2, k3⟩ := renew H hq hc' hnew h1
      exact ⟨E', k1, RepL.cons k3 (keep_repL k2 l h2)⟩
    · rename_i q p l
      split at e
      case h_2 => cases e
      rename_i t xs hq
      split at e
      case isFalse => cases e
      rename_i hp
      refine ⟨_, _, e, fun F E w us H hr => ?_⟩
      simp only [RepL] at hr
      obtain ⟨u, us, rfl, h1, h2⟩ := hr
      obtain ⟨E', k1, k2, k3⟩ := cut_one H (n := p.2) hq hnew (by simp only [Option.getD_some]; rw [← hp]) h1
      exact ⟨E', k1, RepL.cons k3 (keep_repL k2 l h2)⟩
    · exact ⟨h, _, e, fun F E w us H hr => ⟨E, H, hr⟩⟩
    · cases e
  · rename_i b k
    split at e
    case h_2 => cases e
    rename_i n es hb
    split at e
    · rename_i q hk
      split at e
      case h_2 => cases e
      rename_i c hq
      split at e
      case h_2 => cases e
      rename_i c' hc'
      refine ⟨_, _, e, fun F E w us H hr => ?_⟩
      have hst := stat_root hb (by simp)
      rcases H.heap.obj b none _ hst with h0 | ⟨b', arr, ty, hι, hbb, hfit, hels⟩
      · simp [Cont.len] at h0
      obtain ⟨cs, ws, k1, k2, k3, k4⟩ := hels 0 (by simp [Cont.len])
      obtain rfl : es = cs := by simpa [Cont.at?] using k1
      obtain ⟨v, hv, h1⟩ := k3.get k hk
      have hqb : b ≠ q := by
        rintro rfl
        rw [hb] at hq
        obtain rfl := by simpa using hq
        cases hc'
      have hbl : b ≠ h.length := by rintro rfl; rw [hb] at hnew; cases hnew
      obtain ⟨E', m1, m2, m3⟩ := renew H hq hc' hnew h1
      have hb2 : (setH (setH h q .dead) h.length c').getD b none = some (.cells n [es]) := by rw [getD_setH, if_neg hbl, getD_setH, if_neg hqb]; exact hb
      simp only [key, Cont.sz] at hι k2 k4
      have hιE : E'.ι b none = some (b', n) := by
        rcases m2.on b none _ hst with g1 | ⟨c2, g1, _, _, g2, _⟩
        · rw [stat_root hb2 (by simp)] at g1; cases g1
        · exact g2.trans hι
      obtain ⟨j1, j2⟩ := recell (k := k) m1 hb2 (es' := es.set k (.own h.length none none)) (fun b2 arr2 ty2 vs2 g1 g2 g3 g4 g5 => by
        rw [hιE] at g1; obtain rfl : b' = b2 := by simpa using g1
        rw [hbb] at g2
        simp only [Option.some.injEq, Obj.cells.injEq] at g2
        obtain ⟨rfl, _⟩ := g2
        refine repL_set k g5 (fun v' hv' => ?_)
        obtain ⟨hkl, hke⟩ := List.getElem?_eq_some_iff.1 hv
        obtain ⟨hkl', hke'⟩ := List.getElem?_eq_some_iff.1 hv'
        have e1 := g4 k hkl'
        have e2 := k4 k hkl
        simp only [Nat.zero_mul, Nat.zero_add] at e2
        rw [e2] at e1
        have : v = v' := by rw [← hke, ← hke']; exact Option.some.inj e1
        subst this; exact m3)
      exact ⟨E', j1, keep_repL (m2.trans j2) vs hr⟩
    · exact ⟨h, vs, e, fun F E w us H hr => ⟨E, H, hr⟩⟩
    · cases e
theorem cutsK_sem {R : Type} : (cs : List (Option (Nat × Nat))) → {h : Heap} → {vs : List AV} → {K : Heap → List AV → Option R} → {r : R} → cutsK cs h vs K = some r →
    ∃ h' vs', K h' vs' = some r ∧ ∀ (F : Fr) (E : Env) (w : World) (us : List Value), Inv F E h w → RepL E h w vs us → ∃ E', Inv F E' h' w ∧ RepL E' h' w vs' us
  | [], h, vs, K, r, e => ⟨h, vs, e, fun F E w us H hr => ⟨E, H, hr⟩⟩
  | c :: cs, h, vs, K, r, e => by
    unfold cutsK at e
    obtain ⟨h1, vs1, e1, k1⟩ := cutK_sem e
    obtain ⟨h2, vs2, e2, k2⟩ := cutsK_sem cs e1
    refine ⟨h2, vs2, e2, fun F E w us H hr => ?_⟩
    obtain ⟨E1, m1, m2⟩ := k1 F E w us H hr
    exact k2 F E1 w us m1 m2
end Go.Ab
