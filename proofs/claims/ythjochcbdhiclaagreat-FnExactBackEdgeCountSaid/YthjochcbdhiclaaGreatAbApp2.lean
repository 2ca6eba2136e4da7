import Derived.Test.YthjochcbdhiclaaGreatAbExt
set_option linter.unnecessarySimpa false
set_option linter.unusedVariables false
set_option linter.unusedSimpArgs false
namespace Go.Ab
open Go.RowKit
def memRow (w : World) (b o n : Nat) : List Value := (List.range n).map fun k => (w.cell? ⟨b, o + k, none⟩).getD undef
theorem memRow_length (w : World) (b o n : Nat) : (memRow w b o n).length = n := by simp [memRow]
theorem memRow_get {w : World} {b o n k : Nat} (hk : k < n) : (memRow w b o n)[k]? = some ((w.cell? ⟨b, o + k, none⟩).getD undef) := by simp [memRow, hk]
theorem flat_cell (t : Ty) (x : den t) : ∀ c ∈ flat t x, c.cell = true := by
  induction t with
  | prod a b iha ihb =>
    intro c hc
    simp only [flat, List.mem_append] at hc
    rcases hc with hc | hc
    · exact iha x.1 c hc
    · exact ihb x.2 c hc
  | unit => intro c hc; simp [flat] at hc
  | _ => intro c hc; simp only [flat, List.mem_singleton] at hc; subst hc; rfl
theorem reloc_cell (r ver i : Nat) : (cs : List AV) → (k : Nat) → (∀ c ∈ cs, c.cell = true) → ∀ c ∈ reloc r ver none i k cs, c.cell = true
  | [], k, _, c, hc => by simp [reloc] at hc
  | d :: cs, k, h, c, hc => by
    have ih := reloc_cell r ver i cs (k + 1) (fun c hc => h c (by simp [hc]))
    cases d with
    | pv t x =>
      cases t with
      | slice u =>
        simp only [reloc, reduceCtorEq, if_false, List.mem_cons] at hc
        rcases hc with rfl | hc
        · rfl
        · exact ih c hc
      | _ =>
        simp only [reloc, List.mem_cons] at hc
        rcases hc with rfl | hc
        · exact h _ (by simp)
        · exact ih c hc
    | _ =>
      simp only [reloc, List.mem_cons] at hc
      rcases hc with rfl | hc
      · exact h _ (by simp)
      · exact ih c hc
structure RowsAt (w : World) (sz M b o : Nat) (cells : Nat → List Value) : Prop where
  len : ∀ i, i < M → (cells i).length = sz
  at_ : ∀ i, i < M → cellsAt w b (o + i * sz) (cells i)
  one : ∀ i, i < M → ∀ v ∈ cells i, v.oneCell' = true
section
variable {w : World} {sz M b o : Nat} {cells : Nat → List Value} (H : RowsAt w sz M b o cells)
include H
theorem RowsAt.cell {k : Nat} (hk : k < M * sz) : ∃ v, w.cell? ⟨b, o + k, none⟩ = some v ∧ (memRow w b o (M * sz))[k]? = some v ∧ v.oneCell' = true := by
  have hs : 0 < sz := by rcases Nat.eq_zero_or_pos sz with h | h; · rw [h] at hk; simp at hk
                         · exact h
  have hd : k / sz < M := Nat.div_lt_of_lt_mul (by rwa [Nat.mul_comm])
  have hm := Nat.mod_lt k hs
  have hl := H.len _ hd
  have := H.at_ _ hd (k % sz) (by omega)
  rw [Nat.add_assoc, Nat.div_add_mod'] at this
  exact ⟨_, this, by rw [memRow_get hk, this]; rfl, H.one _ hd _ (List.getElem_mem _)⟩
theorem RowsAt.news : (∀ v ∈ memRow w b o (M * sz), v.oneCell' = true) ∧ ∀ j z, (memRow w b o (M * sz))[j]? = some z → w.cell? ((⟨b, o, none⟩ : Addr).add j) = some z := by
  refine ⟨fun v hv => ?_, fun j z hj => ?_⟩
  · obtain ⟨k, hk, rfl⟩ := List.getElem_of_mem hv
    rw [memRow_length] at hk
    obtain ⟨v, _, h2, h3⟩ := H.cell hk
    obtain ⟨_, h4⟩ := List.getElem?_eq_some_iff.1 h2
    rw [h4]; exact h3
  · have hlt := (List.getElem?_eq_some_iff.1 hj).1
    rw [memRow_length] at hlt
    obtain ⟨v, h1, h2, _⟩ := H.cell hlt
    rw [h2] at hj; obtain rfl : v = z := by simpa using hj
    rw [addr_add]; exact h1
theorem RowsAt.seg {i j : Nat} (hi : i < M) (hj : j < (cells i).length) : (memRow w b o (M * sz))[i * sz + j]? = some (cells i)[j] := by
  have hl := H.len _ hi
  have : i * sz + sz ≤ M * sz := by rw [← Nat.succ_mul]; exact Nat.mul_le_mul_right _ hi
  rw [memRow_get (by omega), ← Nat.add_assoc, H.at_ _ hi j hj]; rfl
end
def SrcRow (w : World) (sz M : Nat) (u : Value) (P : Nat → List Value → Prop) : Prop :=
  ∃ A m', u = .slice A M m' ∧ M ≤ m' ∧ (M ≠ 0 → ∃ b o cells, A = some ⟨b, o, none⟩ ∧ RowsAt w sz M b o cells ∧ ∀ i, i < M → P i (cells i))
theorem obj_src {E : Env} {h : Heap} {w : World} (H : HeapOK E h w) {r : Nat} {s : Sub} {c : Cont} (hc : stat h r s = .on c) {rg : Option (Nat × Nat)} {u : Value} (hu : OwnRep E w r s c rg u) (hone : ∀ i cs, c.at? r i = some cs → ∀ d ∈ cs, d.cell = true) :
    SrcRow w c.sz (rg.getD (0, c.len)).2 u (fun i vs => ∃ cs, c.at? r ((rg.getD (0, c.len)).1 + i) = some cs ∧ RepL E h w cs vs) := by
  obtain ⟨hle, h1⟩ := hu
  rcases h1 with ⟨h0, rfl⟩ | ⟨b, n, a, hι, rfl, hn, ha, _⟩
  · exact ⟨none, 0, by congr 1; omega, by omega, fun hne => absurd (show (rg.getD (0, c.len)).2 = 0 by omega) hne⟩
  · refine ⟨some a, n, rfl, hn, fun hne => ?_⟩
    rcases H.obj r s c hc with h0 | ⟨b', arr, ty, hι', hb, hfit, hels⟩
    · omega
    rw [hι] at hι'; obtain rfl : b = b' := by simpa using hι'
    have hch : ∀ i, i < (rg.getD (0, c.len)).2 → ∃ vs : List Value, vs.length = c.sz ∧ cellsAt w b ((rg.getD (0, c.len)).1 * c.sz + i * c.sz) vs ∧ ∃ cs, c.at? r ((rg.getD (0, c.len)).1 + i) = some cs ∧ RepL E h w cs vs := by
      intro i hi
      obtain ⟨cs, vs, k1, k2, k3, k4⟩ := hels ((rg.getD (0, c.len)).1 + i) (by omega)
      refine ⟨vs, k2, fun j hj => ?_, cs, k1, k3⟩
      have := k4 j hj
      simp only [World.cell?, hb, Option.isSome_none, Bool.false_eq_true, if_false]
      rw [← this, Nat.add_mul]
    classical
    let cells : Nat → List Value := fun i => if hi : i < (rg.getD (0, c.len)).2 then (hch i hi).choose else []
    have hcells : ∀ i (hi : i < (rg.getD (0, c.len)).2), cells i = (hch i hi).choose := fun i hi => by simp only [cells]; rw [dif_pos hi]
    refine ⟨b, (rg.getD (0, c.len)).1 * c.sz, cells, by rw [ha (by omega)], ⟨fun i hi => ?_, fun i hi => ?_, fun i hi v hv => ?_⟩, fun i hi => ?_⟩
    · rw [hcells i hi]; exact (hch i hi).choose_spec.1
    · rw [hcells i hi]; exact (hch i hi).choose_spec.2.1
    · rw [hcells i hi] at hv
      obtain ⟨cs, k1, k2⟩ := (hch i hi).choose_spec.2.2
      obtain ⟨j, hj, rfl⟩ := List.getElem_of_mem hv
      have hl := k2.length
      exact cell_one (hone _ cs k1 _ (List.getElem_mem (show j < cs.length by omega))) (k2.getAt j (by omega) hj)
    · rw [hcells i hi]; exact (hch i hi).choose_spec.2.2
theorem srcK_spec {R : Type} {hp : Heap} {t : Ty} {y : AV} {K : List (den t) → Option R} {r : R} (e : srcK hp t y K = some r) : ∃ ys, K ys = some r ∧ ∀ h, SubH hp h → ∀ (E : Env) (w : World), HeapOK E h w → ∀ u, RepAV E h w y u → SrcRow w t.size ys.length u (fun i vs => ∃ hi : i < ys.length, RepL E h w (flat t ys[i]) vs) := by
  unfold srcK at e
  split at e
  · refine ⟨_, e, fun h hs E w H u hu => ?_⟩
    simp only [RepAV] at hu; subst hu
    exact ⟨none, 0, rfl, Nat.le_refl _, fun hne => absurd rfl hne⟩
  · rename_i u' ys
    obtain ⟨zs, h1, hK⟩ := bind_ok e
    obtain ⟨rfl, rfl⟩ := cast?_spec h1
    refine ⟨_, hK, fun h hs E w H u hu => ?_⟩
    simp only [RepAV, RepC] at hu
    obtain ⟨A, c, e1, hlc, h2⟩ := hu
    have e1 : u = .slice A (List.length zs) c := by simpa using e1
    refine ⟨A, c, e1, hlc, fun hne => ?_⟩
    obtain ⟨b, o, rfl, hI, h3⟩ := h2 hne
    classical
    let cells : Nat → List Value := fun i => if hi : i < (List.length zs) then (h3 i hi).choose else []
    have hcells : ∀ i (hi : i < (List.length zs)), cells i = (h3 i hi).choose := fun i hi => by simp only [cells]; rw [dif_pos hi]
    refine ⟨b, o, cells, rfl, ⟨fun i hi => ?_, fun i hi => ?_, fun i hi v hv => ?_⟩, fun i hi => ⟨hi, ?_⟩⟩
    · rw [hcells i hi]; exact (h3 i hi).choose_spec.1
    · rw [hcells i hi]; exact (h3 i hi).choose_spec.2.2
    · rw [hcells i hi] at hv
      have k2 := rep_flat (E := E) (h := h) t (h3 i hi).choose_spec.2.1
      obtain ⟨j, hj, rfl⟩ := List.getElem_of_mem hv
      have hl := k2.length
      exact cell_one (flat_cell t _ _ (List.getElem_mem (show j < (flat t zs[i]).length by omega))) (k2.getAt j (by omega) hj)
    · rw [hcells i hi]; exact rep_flat t (h3 i hi).choose_spec.2.1
  · rename_i q s rg
    obtain ⟨c, h1, _, hc⟩ := lookK_spec e
    split at h1
    · rename_i ro u' ys
      obtain ⟨zs, h2, hK⟩ := bind_ok h1
      obtain ⟨e2, rfl⟩ := cast?_spec h2
      obtain rfl : u' = t := by simpa using e2
      refine ⟨_, hK, fun h hs E w H u hu => ?_⟩
      have hc : stat h q s = .on (.lst ro u' ys) := (hc h hs).elim id (fun ⟨n, l, c', e, _⟩ => by cases e)
      simp only [RepAV] at hu
      rw [own_on hc] at hu
      have hle := hu.1
      have := obj_src H hc hu (fun i cs hat d hd => by obtain ⟨_, rfl⟩ := at_lst hat; exact flat_cell u' _ d hd)
      have hlen : (sub? ys rg).length = (rg.getD (0, (Cont.lst ro u' ys).len)).2 := by
        cases rg with
        | none => rfl
        | some p => simp [sub?, Cont.len] at hle ⊢; omega
      obtain ⟨A, m', k1, k2, k3⟩ := this
      refine ⟨A, m', by rw [show (sub? ys rg).length = _ from hlen]; exact k1, by rw [show (sub? ys rg).length = _ from hlen]; exact k2, fun hne => ?_⟩
      have hne : (rg.getD (0, (Cont.lst ro u' ys).len)).2 ≠ 0 := by rw [← hlen]; exact hne
      obtain ⟨b, o, cells, m1, m2, m3⟩ := k3 hne
      refine ⟨b, o, cells, m1, by rw [show (sub? ys rg).length = _ from hlen]; exact m2, fun i hi => ⟨hi, ?_⟩⟩
      obtain ⟨cs, n1, n2⟩ := m3 i (by rw [← hlen]; exact hi)
      obtain ⟨hj, rfl⟩ := at_lst n1
      have he : (sub? ys rg)[i]'hi = ys[(rg.getD (0, (Cont.lst ro u' ys).len)).1 + i] := by
        cases rg with
        | none => simp [sub?]
        | some p => simp [sub?]
      show RepL E h w (flat u' ((sub? ys rg)[i]'hi)) _
      rw [he]; exact n2
    · cases h1
  · cases e
end Go.Ab
