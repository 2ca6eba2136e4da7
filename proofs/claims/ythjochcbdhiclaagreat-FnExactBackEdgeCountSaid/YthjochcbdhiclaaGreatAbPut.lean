import Derived.Test.YthjochcbdhiclaaGreatAbStore
set_option linter.unnecessarySimpa false
set_option linter.unusedVariables false
set_option linter.unusedSimpArgs false
namespace Go.Ab
open Go.RowKit
theorem SubH.lst {hp h : Heap} (hs : SubH hp h) {r : Nat} {c : Cont} (hc : hp.getD r none = some c) (hd : c ≠ .dead) (hn : ∀ n l, c ≠ .shp n l) : h.getD r none = some c := by
  rcases hs r c hc hd with h1 | ⟨n, l, c', e, _⟩
  · exact h1
  · exact absurd e (hn n l)
theorem setH_same : (h : Heap) → (r : Nat) → (c : Cont) → h.getD r none = some c → setH h r c = h
  | [], r, c, e => by simp at e
  | o :: h, 0, c, e => by simp at e; subst e; rfl
  | o :: h, r + 1, c, e => by
    show o :: setH h r c = o :: h
    rw [setH_same h r c (by simpa using e)]
section
variable {P : Program} {F : Fr} {E : Env} {h : Heap} {w : World}
theorem put_rows (P : Program) (H : Inv F E h w) {q : Nat} {t : Ty} {xs ys : List (den t)} (hc : h.getD q none = some (.lst false t xs)) {b : Nat} (hι : E.ι q none = some (b, t.size)) (h0 : xs.length ≠ 0) {o : Nat} (hfit : o + ys.length ≤ xs.length) {us : List Value} (hul : us.length = ys.length * t.size) (hone : ∀ u ∈ us, u.oneCell' = true)
    (hus : ∀ i (hi : i < ys.length), ∃ vs : List Value, vs.length = t.size ∧ RepL E h w (flat t ys[i]) vs ∧ ∀ (j : Nat) (hj : j < vs.length), us[i * t.size + j]? = some vs[j]) :
    ∃ w', (storeCells ⟨b, o * t.size, none⟩ us).run P w = .ok () w' ∧ Inv F E (setH h q (.lst false t (xs.take o ++ ys ++ xs.drop (o + ys.length)))) w' ∧ Keep E h w E (setH h q (.lst false t (xs.take o ++ ys ++ xs.drop (o + ys.length)))) w' := by
  have hst := stat_root hc (by simp)
  rcases H.heap.obj q none _ hst with h1 | ⟨b', arr, ty, hι', hb, hfit', hels⟩
  · exact absurd h1 h0
  simp only [key, Cont.sz] at hι'
  rw [hι] at hι'; obtain rfl : b = b' := by simpa using hι'
  simp only [Cont.len, Cont.sz] at hfit'
  have hle : (o + ys.length) * t.size ≤ xs.length * t.size := Nat.mul_le_mul_right _ hfit
  rw [Nat.add_mul] at hle
  obtain ⟨arr', h2, h3, h4⟩ := store_run P hb (pos := o * t.size) (us := us) (by omega) hone
  refine ⟨_, h2, ?_⟩
  have hlen : (xs.take o ++ ys ++ xs.drop (o + ys.length)).length = xs.length := by simp; omega
  have ht : (xs.take o).length = o := by simp; omega
  refine inv_set H hc trivial (c' := .lst false t (xs.take o ++ ys ++ xs.drop (o + ys.length))) trivial rfl (arr' := arr') hι hb hlen rfl h3 hfit' (fun i hi => ?_) (fun k _ => heap_setRow (cur' := arr') hb k) (by simp [World.setRow]) rfl rfl ⟨rfl, Nat.le_refl _⟩
  have hi : i < xs.length := hi
  have hi2 : i < (xs.take o ++ ys ++ xs.drop (o + ys.length)).length := by rw [hlen]; exact hi
  have hat : (Cont.lst false t (xs.take o ++ ys ++ xs.drop (o + ys.length))).at? q i = some (flat t (xs.take o ++ ys ++ xs.drop (o + ys.length))[i]) := by
    simp only [Cont.at?]; rw [List.getElem?_eq_getElem hi2]; rfl
  obtain ⟨cs, vs, k1, k2, k3, k4⟩ := hels i hi
  simp only [Cont.sz] at k2 k4
  have hcs : cs = flat t xs[i] := (at_lst k1).2
  by_cases hlt : i < o
  · have hm : i * t.size + t.size ≤ o * t.size := by rw [← Nat.succ_mul]; exact Nat.mul_le_mul_right _ hlt
    refine ⟨_, vs, hat, k2, ?_, fun j hj => ?_⟩
    · rw [List.getElem_append_left (by simp; omega), List.getElem_append_left (by omega), List.getElem_take, ← hcs]; exact k3
    · show arr'[i * t.size + j]? = _
      rw [h4, if_pos (by omega)]; exact k4 j hj
  · by_cases hlt2 : i < o + ys.length
    · have hm : i * t.size = o * t.size + (i - o) * t.size := by rw [← Nat.add_mul]; congr 1; omega
      have hm2 : (i - o) * t.size + t.size ≤ ys.length * t.size := by rw [← Nat.succ_mul]; exact Nat.mul_le_mul_right _ (by omega)
      obtain ⟨vs', m1, m2, m3⟩ := hus (i - o) (by omega)
      refine ⟨_, vs', hat, m1, ?_, fun j hj => ?_⟩
      · rw [List.getElem_append_left (by simp; omega), List.getElem_append_right (by omega)]
        simp only [ht]; exact m2
      · show arr'[i * t.size + j]? = _
        rw [h4, if_neg (by omega), if_pos (by omega), ← m3 j hj]; congr 1; omega
    · have hm : (o + ys.length) * t.size ≤ i * t.size := Nat.mul_le_mul_right _ (by omega)
      rw [Nat.add_mul] at hm
      refine ⟨_, vs, hat, k2, ?_, fun j hj => ?_⟩
      · rw [List.getElem_append_right (by simp; omega)]
        simp only [List.length_append, ht, List.getElem_drop]
        have : o + ys.length + (i - (o + ys.length)) = i := by omega
        simp only [this]; rw [← hcs]; exact k3
      · show arr'[i * t.size + j]? = _
        rw [h4, if_neg (by omega), if_neg (by omega)]; exact k4 j hj
end
end Go.Ab
