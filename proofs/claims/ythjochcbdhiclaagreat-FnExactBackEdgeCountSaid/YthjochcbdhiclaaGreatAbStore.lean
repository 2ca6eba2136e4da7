import Derived.Test.YthjochcbdhiclaaGreatAbEff3
set_option linter.unnecessarySimpa false
set_option linter.unusedVariables false
set_option linter.unusedSimpArgs false
namespace Go.Ab
open Go.RowKit
theorem heap_setRow {w : World} {g : Nat} {cur cur' : Array Value} {ty : TypeId} (hg : w.heap[g]? = some (.cells cur ty (0, 0))) (b : Nat) : (w.setRow g cur').heap[b]? = if b = g then some (.cells cur' ty (0, 0)) else w.heap[b]? := by
  by_cases e : b = g
  · subst e; rw [if_pos rfl]; exact setRow_heap w b cur cur' ty (0, 0) hg
  · rw [if_neg e]
    simp only [World.setRow, Array.getElem?_modify, if_neg (Ne.symm e)]
theorem store_run (P : Program) {w : World} {b : Nat} {arr : Array Value} {ty : TypeId} (hb : w.heap[b]? = some (.cells arr ty (0, 0))) {pos : Nat} {us : List Value} (hpos : pos + us.length ≤ arr.size) (h1 : ∀ u ∈ us, u.oneCell' = true) :
    ∃ arr' : Array Value, (storeCells ⟨b, pos, none⟩ us).run P w = .ok () (w.setRow b arr') ∧ arr'.size = arr.size ∧ (∀ k, arr'[k]? = if k < pos then arr[k]? else if k < pos + us.length then us[k - pos]? else arr[k]?) := by
  let arr' := (arr.toList.take pos ++ us ++ arr.toList.drop (pos + us.length)).toArray
  have hrun := run_storeCells_at P b pos ty us 0 arr w hb (by simpa using hpos) h1
  simp only [Nat.add_zero] at hrun
  refine ⟨arr', hrun, by simp [arr']; omega, fun k => ?_⟩
  have hl : (arr.toList.take pos).length = pos := by simp; omega
  simp only [arr', List.getElem?_toArray]
  by_cases h2 : k < pos
  · rw [if_pos h2, List.append_assoc, List.getElem?_append_left (by omega), List.getElem?_take, if_pos h2]; simp
  · rw [if_neg h2]
    by_cases h3 : k < pos + us.length
    · rw [if_pos h3, List.append_assoc, List.getElem?_append_right (by omega), List.getElem?_append_left (by omega), hl]
    · rw [if_neg h3, List.getElem?_append_right (by simp; omega)]
      simp only [List.length_append, hl, List.getElem?_drop]
      rw [show pos + us.length + (k - (pos + us.length)) = k by omega]; simp
theorem row_splice {arr arr' : Array Value} {sz j off : Nat} {us : List Value} (hoff : off + us.length ≤ sz) (hget : ∀ k, arr'[k]? = if k < j * sz + off then arr[k]? else if k < j * sz + off + us.length then us[k - (j * sz + off)]? else arr[k]?)
    {i : Nat} {vs : List Value} (hl : vs.length = sz) (hv : ∀ (k : Nat) (hk : k < vs.length), arr[i * sz + k]? = some vs[k]) :
    (i ≠ j → ∀ (k : Nat) (hk : k < vs.length), arr'[i * sz + k]? = some vs[k]) ∧ (i = j → ∀ (k : Nat) (hk : k < (vs.take off ++ us ++ vs.drop (off + us.length)).length), arr'[i * sz + k]? = some (vs.take off ++ us ++ vs.drop (off + us.length))[k]) := by
  refine ⟨fun hne k hk => ?_, fun e k hk => ?_⟩
  · rw [hget, hv k hk]
    by_cases hlt : i < j
    · have : i * sz + sz ≤ j * sz := by rw [← Nat.succ_mul]; exact Nat.mul_le_mul_right _ hlt
      rw [if_pos (by omega)]
    · have : j * sz + sz ≤ i * sz := by rw [← Nat.succ_mul]; exact Nat.mul_le_mul_right _ (by omega)
      rw [if_neg (by omega), if_neg (by omega)]
  · subst e
    have hk' : k < sz := by simp at hk; omega
    have hwl : (vs.take off).length = off := by simp; omega
    rw [hget]
    have hofs := hv k (by omega)
    by_cases h2 : k < off
    · rw [if_pos (by omega), hofs]
      congr 1
      rw [List.getElem_append_left (by simp; omega), List.getElem_append_left (by omega)]; simp
    · rw [if_neg (by omega)]
      by_cases h3 : k < off + us.length
      · rw [if_pos (by omega)]
        rw [List.getElem_append_left (by simp; omega), List.getElem_append_right (by omega)]
        have : i * sz + k - (i * sz + off) = k - (vs.take off).length := by rw [hwl]; omega
        rw [this]; simp
      · rw [if_neg (by omega), hofs]
        congr 1
        rw [List.getElem_append_right (by simp; omega)]
        simp only [List.getElem_drop, List.length_append, hwl]
        congr 1; omega
section
variable {F : Fr} {E : Env} {h : Heap} {w : World}
theorem inv_same (H : Inv F E h w) {r : Nat} {c c' : Cont} (hc : h.getD r none = some c) (hro : c.ro = false) (hd' : c' ≠ .dead) (hro' : c'.ro = false) {b : Nat} {arr arr' : Array Value} {ty : TypeId} (hbr : ∃ κ n, E.ι r κ = some (b, n))
    (hb : w.heap[b]? = some (.cells arr ty (0, 0))) (harr : arr'.size = arr.size)
    (hcorr : ∀ s c0, stat h r s = .on c0 → ∃ c1, stat (setH h r c') r s = .on c1 ∧ c1.len = c0.len ∧ c1.sz = c0.sz) (hcorr' : ∀ s c1, stat (setH h r c') r s = .on c1 → ∃ c0, stat h r s = .on c0 ∧ c1.len = c0.len ∧ c1.sz = c0.sz)
    (hoffs : ∀ s, stat h r s = .off → stat (setH h r c') r s = .off)
    (hels : Keep E h w E (setH h r c') (w.setRow b arr') → ∀ s c1, stat (setH h r c') r s = .on c1 → ObjOK E (setH h r c') (w.setRow b arr') r s c1) :
    Inv F E (setH h r c') (w.setRow b arr') ∧ Keep E h w E (setH h r c') (w.setRow b arr') := by
  have hg : (setH h r c').getD r none = some c' := by rw [getD_setH, if_pos rfl]
  have hroh : roAt h r = false := by rw [roAt_of hc]; exact hro
  have hw := fun k => heap_setRow (cur' := arr') hb k
  obtain ⟨κb, nb, hbr⟩ := hbr
  have T : Touch (fun q => q = r) E h w E (setH h r c') (w.setRow b arr') := by
    refine { hh := fun q hq => by rw [getD_setH, if_neg hq], hι := fun q κ hq => rfl, II := fun b hb => hb, size := by simp [World.setRow], os := rfl, tape := rfl, output := ⟨rfl, Nat.le_refl _⟩,
             blk := fun k hk hn => by rw [hw, if_neg (fun e => hn r κb nb rfl hroh (by rw [e]; exact hbr))], asz := fun k a t ha => ?_, off := ?_, on := ?_, som := ?_, fix := (fun q hq h1 => by subst hq; rw [hroh] at h1; cases h1), obj := ?_, siz := ?_, from_ := ?_, inj := ?_, live := ?_, Inew := fun b hb => .inl hb, apart := ?_, roI := ?_ }
    · rw [hw]
      by_cases e : k = b
      · subst e; rw [hb] at ha; obtain ⟨rfl, rfl⟩ : arr = a ∧ ty = t := by simpa using ha
        exact ⟨arr', by simp, harr⟩
      · exact ⟨a, by rw [if_neg e]; exact ha, rfl⟩
    · rintro q s rfl e; exact hoffs s e
    · rintro q s c0 rfl e
      obtain ⟨c1, h1, h2, h3⟩ := hcorr s c0 e
      exact .inr ⟨c1, h1, h2, h3, rfl⟩
    · rintro q rfl; exact ⟨c', hg⟩
    · rintro K q s c0 rfl e; exact hels K s c0 e
    · rintro q s c1 b0 n rfl e h1
      obtain ⟨c0, h2, _, h3⟩ := hcorr' s c1 e
      rw [h3]; exact H.heap.siz _ s c0 b0 n h2 h1
    · rintro q κ b0 n rfl h1; exact .inr ⟨q, κ, n, rfl, .inl hroh, h1⟩
    · rintro q κ q' κ' b0 n n' rfl rfl h1 h2; exact H.heap.inj _ _ _ _ _ _ _ h1 h2
    · rintro q κ x rfl h1; exact ⟨c', hg, hd'⟩
    · rintro q κ b0 n rfl h1 _; exact H.heap.apart _ _ _ _ h1 hroh
    · rintro q κ b0 n rfl h1 h2; rw [roAt_of hg, hro'] at h2; cases h2
  exact T.inv H
theorem setSl_spec {t : Ty} {x x' : den t} {k : Nat} {u : Ty} {ys : List (den u)} (h : setSl t x k ys = some x') : k < (flat t x).length → ∀ (j : Nat) (h1 : j < (flat t x).length) (h2 : j < (flat t x').length), (flat t x')[j] = if j = k then .pv (.slice u) ys else (flat t x)[j] := by
  intro hk j h1 h2
  unfold setSl at h
  obtain ⟨y, e, hl, hh⟩ := pack_all (K := fun y => some y) h (fun c hc => by
    rcases List.mem_or_eq_of_mem_set hc with h3 | rfl
    · exact .inl (flat_pv t x c h3)
    · exact .inl ⟨_, _, rfl⟩)
  obtain rfl : y = x' := by simpa using e
  have := hh j (by simpa using h1) h2
  rw [List.getElem_set] at this
  rcases this with h3 | ⟨h3, _⟩
  · rw [← h3]; by_cases e2 : k = j
    · subst e2; simp
    · rw [if_neg e2, if_neg (Ne.symm e2)]
  · exfalso
    split at h3
    · cases h3
    · obtain ⟨u', y', e3⟩ := flat_pv t x _ (List.getElem_mem h1)
      rw [e3] at h3; cases h3
end
end Go.Ab
