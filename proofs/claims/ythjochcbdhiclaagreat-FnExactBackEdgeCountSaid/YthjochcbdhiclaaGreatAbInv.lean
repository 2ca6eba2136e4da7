import Derived.Test.YthjochcbdhiclaaGreatAbRep
set_option linter.unnecessarySimpa false
set_option linter.unusedVariables false
set_option linter.unusedSimpArgs false
namespace Go.Ab
open Go.RowKit
def roAt (h : Heap) (r : Nat) : Bool := match h.getD r none with | some c => c.ro | none => false
def BlkB (E : Env) (b : Nat) : Prop := ∃ r κ n, E.ι r κ = some (b, n)
structure HeapOK (E : Env) (h : Heap) (w : World) : Prop where
  obj : ∀ r s c, stat h r s = .on c → c.len = 0 ∨ ∃ b arr ty, E.ι r (key s) = some (b, c.sz) ∧ w.heap[b]? = some (.cells arr ty (0, 0)) ∧ c.len * c.sz ≤ arr.size ∧
    ∀ i, i < c.len → ∃ cs vs, c.at? r i = some cs ∧ vs.length = c.sz ∧ RepL E h w cs vs ∧ ∀ (j : Nat) (hj : j < vs.length), arr[i * c.sz + j]? = some vs[j]
  siz : ∀ r s c b n, stat h r s = .on c → E.ι r (key s) = some (b, n) → n = c.sz
  inj : ∀ r κ r' κ' b n n', E.ι r κ = some (b, n) → E.ι r' κ' = some (b, n') → r = r' ∧ κ = κ'
  live : ∀ r κ x, E.ι r κ = some x → ∃ c, h.getD r none = some c ∧ c ≠ .dead
  I_lt : ∀ b, E.I b → b < w.heap.size
  own_lt : ∀ b, BlkB E b → b < w.heap.size
  apart : ∀ r κ b n, E.ι r κ = some (b, n) → roAt h r = false → ¬ E.I b
  roI : ∀ r κ b n, E.ι r κ = some (b, n) → roAt h r = true → E.I b
structure Keep (E : Env) (h : Heap) (w : World) (E' : Env) (h' : Heap) (w' : World) : Prop where
  stab : Stab E.I w E'.I w'
  off : ∀ r s, stat h r s = .off → stat h' r s = .off
  on : ∀ r s c, stat h r s = .on c → stat h' r s = .off ∨ ∃ c', stat h' r s = .on c' ∧ c'.len = c.len ∧ c'.sz = c.sz ∧ E'.ι r (key s) = E.ι r (key s) ∧
    ∀ b, E.ι r (key s) = some (b, c.sz) → ∀ arr ty, w.heap[b]? = some (.cells arr ty (0, 0)) → ∃ arr', w'.heap[b]? = some (.cells arr' ty (0, 0)) ∧ arr'.size = arr.size
theorem OwnRep.one {E : Env} {w : World} {r : Nat} {s : Sub} {c : Cont} {rg : Option (Nat × Nat)} {v : Value} (h : OwnRep E w r s c rg v) : v.oneCell' = true := by
  obtain ⟨_, ⟨_, rfl⟩ | ⟨b, n, a, _, rfl, _⟩⟩ := h <;> rfl
section
variable {E E' : Env} {h h' : Heap} {w w' : World} (hx : Keep E h w E' h' w')
include hx
theorem keep_own {r : Nat} {s : Sub} {rg : Option (Nat × Nat)} {v : Value} (h1 : OwnAV E h w r s rg v) : OwnAV E' h' w' r s rg v := by
  unfold OwnAV at h1 ⊢
  split at h1
  · cases h1
  · rename_i e; rw [hx.off r s e]; exact h1
  · rename_i c e
    rcases hx.on r s c e with h2 | ⟨c', h2, hl, hs, hιe, hb⟩
    · rw [h2]; exact h1.one
    · rw [h2]
      obtain ⟨hle, h3⟩ := h1
      show OwnRep E' w' r s c' rg v
      unfold OwnRep
      rw [hl, hs]
      refine ⟨hle, h3.imp id ?_⟩
      rintro ⟨b, n, a, hι, hv, hn, ha, arr, ty, hh, hcap⟩
      obtain ⟨arr', k3, k4⟩ := hb b hι arr ty hh
      exact ⟨b, n, a, hιe.trans hι, hv, hn, ha, arr', ty, k3, by rw [k4]; exact hcap⟩
theorem keep_ptr {r : Nat} {s : Sub} {i off : Nat} {v : Value} (h1 : PtrAV E h r s i off v) : PtrAV E' h' r s i off v := by
  unfold PtrAV at h1 ⊢
  split at h1
  · cases h1
  · rename_i e; rw [hx.off r s e]; exact h1
  · rename_i c e
    obtain ⟨b, hι, hv⟩ := h1
    rcases hx.on r s c e with h2 | ⟨c', h2, hl, hs, hιe, hb⟩
    · rw [h2]; exact ⟨_, hv⟩
    · rw [h2]
      exact ⟨b, by rw [hs]; exact hιe.trans hι, by rw [hs]; exact hv⟩
mutual
theorem keep_rep : (c : AV) → {v : Value} → RepAV E h w c v → RepAV E' h' w' c v
  | .pv t x, v, h1 => by simp only [RepAV] at h1 ⊢; exact h1.mono hx.stab
  | .agg cs, v, h1 => by simp only [RepAV] at h1 ⊢; obtain ⟨vs, e, h2⟩ := h1; exact ⟨vs, e, keep_repL cs h2⟩
  | .tup cs, v, h1 => by simp only [RepAV] at h1 ⊢; obtain ⟨vs, e, h2⟩ := h1; exact ⟨vs, e, keep_repL cs h2⟩
  | .fn f cs, v, h1 => by simp only [RepAV] at h1 ⊢; obtain ⟨vs, e, h2⟩ := h1; exact ⟨vs, e, keep_repL cs h2⟩
  | .iptr t x off, v, h1 => by
    simp only [RepAV] at h1 ⊢; obtain ⟨b, o, cs, e, hI, h2, h3⟩ := h1
    exact ⟨b, o, cs, e, (hx.stab b hI).1, h2.mono hx.stab, cellsAt_of_block (hx.stab b hI).2 h3⟩
  | .nils, v, h1 | .nilp, v, h1 | .nilf, v, h1 | .nili, v, h1 | .unk, v, h1 => by simpa only [RepAV] using h1
  | .ptr r s i o, v, h1 => by simp only [RepAV] at h1 ⊢; exact keep_ptr hx h1
  | .mptr r k ver off o, v, h1 => by
    cases o with
    | none => simpa only [RepAV] using h1
    | some p => simp only [RepAV] at h1 ⊢; exact keep_ptr hx h1
  | .junk, v, _ => by simp only [RepAV]
  | .own r s rg, v, h1 => by simp only [RepAV] at h1 ⊢; exact keep_own hx h1
theorem keep_repL : (cs : List AV) → {vs : List Value} → RepL E h w cs vs → RepL E' h' w' cs vs
  | [], vs, h1 => by have _hx := hx; simpa only [RepL] using h1
  | c :: cs, vs, h1 => by
    simp only [RepL] at h1; obtain ⟨v, us, rfl, h2, h3⟩ := h1
    exact RepL.cons (keep_rep c h2) (keep_repL cs h3)
end
end
theorem Keep.refl (E : Env) (h : Heap) (w : World) : Keep E h w E h w :=
  ⟨fun b hb => ⟨hb, rfl⟩, fun _ _ e => e, fun r s c e => .inr ⟨c, e, rfl, rfl, rfl, fun b hb arr ty ha => ⟨arr, ha, rfl⟩⟩⟩
theorem Keep.trans {E E' E'' : Env} {h h' h'' : Heap} {w w' w'' : World} (a : Keep E h w E' h' w') (b : Keep E' h' w' E'' h'' w'') : Keep E h w E'' h'' w'' := by
  refine ⟨fun k hk => ⟨(b.stab k (a.stab k hk).1).1, ((b.stab k (a.stab k hk).1).2).trans (a.stab k hk).2⟩, fun r s e => b.off r s (a.off r s e), fun r s c e => ?_⟩
  rcases a.on r s c e with h1 | ⟨c', h1, hl, hs, hι, hb⟩
  · exact .inl (b.off r s h1)
  · rcases b.on r s c' h1 with h2 | ⟨c'', h2, hl', hs', hι', hb'⟩
    · exact .inl h2
    · refine .inr ⟨c'', h2, hl'.trans hl, hs'.trans hs, hι'.trans hι, fun k hk arr ty ha => ?_⟩
      obtain ⟨a1, m1, m2⟩ := hb k hk arr ty ha
      obtain ⟨a2, m3, m4⟩ := hb' k (by rw [hs, hι]; exact hk) a1 ty m1
      exact ⟨a2, m3, m4.trans m2⟩
theorem at_lst {ro : Bool} {t : Ty} {xs : List (den t)} {r i : Nat} {cs : List AV} (h : (Cont.lst ro t xs).at? r i = some cs) : ∃ hi : i < xs.length, cs = flat t xs[i] := by
  simp only [Cont.at?, Option.map_eq_some_iff] at h
  obtain ⟨x, h1, rfl⟩ := h
  obtain ⟨hi, rfl⟩ := List.getElem?_eq_some_iff.1 h1
  exact ⟨hi, rfl⟩
theorem at_tree {ro : Bool} {ver : Nat} {t : Ty} {xs : List (den t)} {ho : Option (Nat × Nat)} {r i : Nat} {cs : List AV} (h : (Cont.tree ro ver t xs ho).at? r i = some cs) : ∃ hi : i < xs.length, cs = reloc r ver ho i 0 (flat t xs[i]) := by
  simp only [Cont.at?, Option.map_eq_some_iff] at h
  obtain ⟨x, h1, rfl⟩ := h
  obtain ⟨hi, rfl⟩ := List.getElem?_eq_some_iff.1 h1
  exact ⟨hi, rfl⟩
theorem at_len {c : Cont} {r i : Nat} {cs : List AV} (h : c.at? r i = some cs) : i < c.len := by
  cases c with
  | lst ro t xs => obtain ⟨h1, _⟩ := at_lst h; exact h1
  | tree ro ver t xs ho => obtain ⟨h1, _⟩ := at_tree h; exact h1
  | cells n es => exact (List.getElem?_eq_some_iff.1 h).1
  | shp n l => cases h
  | dead => cases h
theorem bind_ok {α β : Type} {x : Option α} {f : α → Option β} {r : β} (h : x.bind f = some r) : ∃ y, x = some y ∧ f y = some r := Option.bind_eq_some_iff.1 h
theorem atK_spec {R : Type} {r : Nat} {c : Cont} {i : Nat} {K : List AV → Option R} {x : R} (h : c.atK r i K = some x) : ∃ cs, c.at? r i = some cs ∧ K cs = some x := by
  cases c with
  | lst ro t xs => obtain ⟨y, h1, h2⟩ := bind_ok h; exact ⟨_, by simp [Cont.at?, h1], h2⟩
  | tree ro ver t xs ho => obtain ⟨y, h1, h2⟩ := bind_ok h; exact ⟨_, by simp [Cont.at?, h1], h2⟩
  | cells n es =>
    simp only [Cont.atK] at h
    split at h
    · rename_i cs e; exact ⟨cs, e, h⟩
    · cases h
  | shp n l => cases h
  | dead => cases h
def SubH (hp h : Heap) : Prop := ∀ r c, hp.getD r none = some c → c ≠ .dead → h.getD r none = some c ∨ ∃ n l c', c = .shp n l ∧ h.getD r none = some c' ∧ c' ≠ .dead ∧ c'.len = l ∧ c'.sz = n
theorem SubH.refl (h : Heap) : SubH h h := fun r c e _ => .inl e
def OnC (h : Heap) (r : Nat) (s : Sub) (c : Cont) : Prop := stat h r s = .on c ∨ ∃ n l c', c = .shp n l ∧ stat h r s = .on c' ∧ c'.len = l ∧ c'.sz = n
theorem stat_root {h : Heap} {r : Nat} {c : Cont} (e : h.getD r none = some c) (hd : c ≠ .dead) : stat h r none = .on c := by
  simp only [stat, e]
theorem stat_root_on {h : Heap} {r : Nat} {c : Cont} (e : stat h r none = .on c) : h.getD r none = some c ∧ c ≠ .dead := by
  simp only [stat] at e
  split at e
  · cases e
  · cases e
  · rename_i c' hne hc
    obtain rfl : c' = c := by simpa using e
    exact ⟨hc, fun hd => hne (by rw [hd])⟩
theorem nestedK_spec {R : Type} {ro : Bool} {t : Ty} {xs : List (den t)} {i k : Nat} {K : Cont → Option R} {x : R} (h : nestedK ro t xs i k K = some x) : ∃ u ys, nested ro t xs i k = some (.lst ro u ys) ∧ K (.lst ro u ys) = some x := by
  obtain ⟨y, h1, h2⟩ := bind_ok h
  unfold nested
  rw [h1]
  split at h2
  · rename_i u ys e; exact ⟨u, ys, by simp only [Option.bind_some, e], h2⟩
  · cases h2
theorem nested_lst {ro : Bool} {t : Ty} {xs : List (den t)} {i k : Nat} {c : Cont} (h : nested ro t xs i k = some c) : ∃ u ys, c = .lst ro u ys ∧ ∃ hi : i < xs.length, (flat t xs[i])[k]? = some (.pv (.slice u) ys) := by
  unfold nested at h
  obtain ⟨y, h1, h2⟩ := bind_ok h
  obtain ⟨hi, rfl⟩ := List.getElem?_eq_some_iff.1 h1
  split at h2
  · rename_i u ys e; exact ⟨u, ys, by simpa using h2.symm, hi, e⟩
  · cases h2
theorem lookK_spec {R : Type} {hp : Heap} {r : Nat} {s : Sub} {K : Cont → Option R} {x : R} (e : lookK hp r s K = some x) : ∃ c, K c = some x ∧ (∃ c0, hp.getD r none = some c0) ∧ ∀ h, SubH hp h → OnC h r s c := by
  unfold lookK at e
  split at e
  · cases e
  · cases e
  · rename_i c hne hc
    have hd : c ≠ .dead := fun hd => hne (by rw [hd])
    split at e
    · refine ⟨c, e, ⟨c, hc⟩, fun h hs => ?_⟩
      rcases hs r c hc hd with h1 | ⟨n, l, c', h1, h2, h3, h4⟩
      · exact .inl (stat_root h1 hd)
      · exact .inr ⟨n, l, c', h1, stat_root h2 h3, h4⟩
    · rename_i i k v
      split at e
      · rename_i ro ver u' xs
        split at e
        · rename_i hv; subst hv
          obtain ⟨u, ys, h1, h2⟩ := nestedK_spec e
          refine ⟨_, h2, ⟨_, hc⟩, fun h hs => .inl ?_⟩
          rcases hs r _ hc hd with h3 | ⟨n, l, c', h3, _⟩
          · simp only [stat, h3, Nat.lt_irrefl, if_false, false_or, h1, reduceCtorEq]
          · cases h3
        · cases e
      · cases e
theorem OnC.at {h : Heap} {r : Nat} {s : Sub} {c : Cont} (ho : OnC h r s c) {i : Nat} {cs : List AV} (ha : c.at? r i = some cs) : stat h r s = .on c := by
  rcases ho with h1 | ⟨n, l, c', rfl, _⟩
  · exact h1
  · cases ha
theorem OnC.shape {h : Heap} {r : Nat} {s : Sub} {c : Cont} (ho : OnC h r s c) : ∃ c', stat h r s = .on c' ∧ c'.len = c.len ∧ c'.sz = c.sz := by
  rcases ho with h1 | ⟨n, l, c', rfl, h1, h2, h3⟩
  · exact ⟨c, h1, rfl, rfl⟩
  · exact ⟨c', h1, h2, h3⟩
theorem own_on {E : Env} {h : Heap} {w : World} {r : Nat} {s : Sub} {c : Cont} (ho : stat h r s = .on c) {rg : Option (Nat × Nat)} {v : Value} : OwnAV E h w r s rg v ↔ OwnRep E w r s c rg v := by
  unfold OwnAV; rw [ho]
theorem ptr_on {E : Env} {h : Heap} {r : Nat} {s : Sub} {c : Cont} (ho : stat h r s = .on c) {i off : Nat} {v : Value} : PtrAV E h r s i off v ↔ ∃ b, E.ι r (key s) = some (b, c.sz) ∧ v = .pointer (some ⟨b, i * c.sz + off, none⟩) := by
  unfold PtrAV; rw [ho]
theorem cast?_spec {t u : Ty} {x : den t} {y : den u} (h : cast? t u x = some y) : ∃ e : t = u, y = e ▸ x := by
  unfold cast? at h
  split at h
  · rename_i e; exact ⟨e, by simpa using h.symm⟩
  · cases h
theorem repL_split {E : Env} {h : Heap} {w : World} : (l : List AV) → {m : List AV} → {us : List Value} → RepL E h w (l ++ m) us → ∃ u1 u2, us = u1 ++ u2 ∧ RepL E h w l u1 ∧ RepL E h w m u2
  | [], m, us, h => ⟨[], us, rfl, RepL.nil, h⟩
  | c :: l, m, us, h => by
    simp only [List.cons_append, RepL] at h; obtain ⟨v, us, rfl, h2, h3⟩ := h
    obtain ⟨u1, u2, rfl, h4, h5⟩ := repL_split l h3
    exact ⟨v :: u1, u2, rfl, RepL.cons h2 h4, h5⟩
theorem flat_rep {E : Env} {h : Heap} {w : World} : (t : Ty) → {x : den t} → {vs : List Value} → RepL E h w (flat t x) vs → RepC E.I w t x vs
  | .prod a b, x, vs, h1 => by
    obtain ⟨u1, u2, rfl, h2, h3⟩ := repL_split _ h1
    simp only [RepC]; exact ⟨u1, u2, rfl, flat_rep a h2, flat_rep b h3⟩
  | .unit, x, vs, h1 => by simp only [flat, RepL] at h1; simpa only [RepC] using h1
  | .int _, x, vs, h1 | .bool, x, vs, h1 | .str, x, vs, h1 | .err, x, vs, h1 | .idx, x, vs, h1 | .slice _, x, vs, h1 | .iref _, x, vs, h1 | .fn _ _, x, vs, h1 => by
    simp only [flat, RepL, RepAV] at h1; obtain ⟨v, us, rfl, h2, rfl⟩ := h1; exact h2
theorem reloc_append (r ver : Nat) (ho : Option (Nat × Nat)) (i : Nat) : (l m : List AV) → (k : Nat) → reloc r ver ho i k (l ++ m) = reloc r ver ho i k l ++ reloc r ver ho i (k + l.length) m
  | [], m, k => by simp [reloc]
  | c :: l, m, k => by
    have ih := reloc_append r ver ho i l m (k + 1)
    have : k + 1 + l.length = k + (c :: l).length := by simp; omega
    rw [this] at ih
    cases c with
    | pv t x => cases t <;> simp only [List.cons_append, reloc, ih]
    | _ => simp only [List.cons_append, reloc, ih]
theorem reloc_length (r ver : Nat) (ho : Option (Nat × Nat)) (i : Nat) : (l : List AV) → (k : Nat) → (reloc r ver ho i k l).length = l.length
  | [], k => rfl
  | c :: l, k => by
    have ih := reloc_length r ver ho i l (k + 1)
    cases c with
    | pv t x => cases t <;> simp [reloc, ih]
    | _ => simp [reloc, ih]
theorem obj_cells {E : Env} {hp : Heap} {w : World} (H : HeapOK E hp w) {r j : Nat} {s : Sub} {c : Cont} (hc : stat hp r s = .on c) {cs : List AV} (ha : c.at? r j = some cs) :
    ∃ b vs, E.ι r (key s) = some (b, c.sz) ∧ vs.length = c.sz ∧ RepL E hp w cs vs ∧ cellsAt w b (j * c.sz) vs := by
  have hj := at_len ha
  rcases H.obj r s c hc with h0 | ⟨b, arr, ty, hι, hb, hfit, hels⟩
  · omega
  · obtain ⟨cs', vs, h1, h2, h3, h4⟩ := hels j hj
    rw [ha] at h1; obtain rfl : cs = cs' := by simpa using h1
    refine ⟨b, vs, hι, h2, h3, fun k hk => ?_⟩
    have := h4 k hk
    simp only [World.cell?, hb, Option.isSome_none, Bool.false_eq_true, if_false]
    exact this
theorem own_reads {E : Env} {h : Heap} {w : World} {J : Nat → Prop} (H : HeapOK E h w) {r : Nat} {s : Sub} {c : Cont} (hc : stat h r s = .on c) (hJ : ∀ b n, E.ι r (key s) = some (b, n) → J b) {rg : Option (Nat × Nat)} {v : Value}
    (hv : OwnRep E w r s c rg v) {t : Ty} (xs : List (den t)) (hlen : xs.length = c.len)
    (hel : ∀ (i : Nat) (hi : i < xs.length) cs vs, c.at? r i = some cs → RepL E h w cs vs → RepC J w t xs[i] vs) : RepC J w (.slice t) (sub? xs rg) [v] := by
  obtain ⟨hle, hv⟩ := hv
  have hsub : (sub? xs rg).length = (rg.getD (0, c.len)).2 := by
    cases rg with
    | none => simpa [sub?] using hlen
    | some p => simp [sub?] at hle ⊢; omega
  have hget : ∀ (i : Nat) (hi : i < (sub? xs rg).length), ∃ hk : (rg.getD (0, c.len)).1 + i < xs.length, (sub? xs rg)[i] = xs[(rg.getD (0, c.len)).1 + i] := by
    intro i hi
    cases rg with
    | none => exact ⟨by simpa [sub?] using hi, by simp [sub?]⟩
    | some p =>
      have h2 : i < (sub? xs (some p)).length := hi
      simp only [sub?, List.length_take, List.length_drop] at h2
      have hk : p.1 + i < xs.length := by omega
      exact ⟨hk, by simp [sub?]⟩
  simp only [RepC]
  rcases hv with ⟨h0, rfl⟩ | ⟨b, n, a, hι, rfl, hn, ha, arr, ty, hb, hcap⟩
  · have : (rg.getD (0, c.len)).2 = 0 := by omega
    exact ⟨none, 0, by rw [hsub, this], by rw [hsub, this]; exact Nat.le_refl _, fun hne => absurd (hsub.trans this) hne⟩
  · refine ⟨some a, n, by rw [hsub], by rw [hsub]; exact hn, fun hne => ?_⟩
    have ha := ha (by omega)
    subst ha
    refine ⟨b, _, rfl, hJ b _ hι, fun i hi => ?_⟩
    obtain ⟨hk, he⟩ := hget i hi
    rcases H.obj r s c hc with h0 | ⟨b', arr', ty', hι', hb', hfit, hels⟩
    · omega
    · rw [hι] at hι'; obtain rfl : b = b' := by simpa using hι'
      rw [hb] at hb'; obtain ⟨rfl, rfl⟩ : arr = arr' ∧ ty = ty' := by simpa using hb'
      obtain ⟨cs, vs, hat, hvl, hrep, hcell⟩ := hels ((rg.getD (0, c.len)).1 + i) (by omega)
      have hR := hel _ hk cs vs hat hrep
      have htl := RepC.length t hR
      refine ⟨vs, htl, by rw [he]; exact hR, fun j hj => ?_⟩
      have := hcell j hj
      simp only [World.cell?, hb, Option.isSome_none, Bool.false_eq_true, if_false]
      rw [← this]
      congr 1
      have : t.size = c.sz := by omega
      rw [this, Nat.add_mul]
theorem flat_len {t : Ty} {x : den t} : (flat t x).length = t.size := by
  induction t with
  | prod a b iha ihb => simp only [flat, List.length_append, iha, ihb, Ty.size]
  | _ => rfl
theorem tree_reads {E : Env} {h : Heap} {w : World} {J : Nat → Prop} (H : HeapOK E h w) (hJI : ∀ b, E.I b → J b) {r : Nat} {ro : Bool} {ver : Nat} {T : Ty} {xs : List (den T)} (hc : h.getD r none = some (.tree ro ver T xs none)) (hJ : ∀ p b n, E.ι r (some p) = some (b, n) → J b)
    {i : Nat} (hi : i < xs.length) : (t : Ty) → (x : den t) → (k : Nat) → (∀ j, j < (flat t x).length → (flat T xs[i])[k + j]? = (flat t x)[j]?) → {vs : List Value} → RepL E h w (reloc r ver none i k (flat t x)) vs → RepC J w t x vs
  | .prod a b, x, k, hk, vs, h1 => by
    simp only [flat] at h1 hk
    rw [reloc_append] at h1
    obtain ⟨u1, u2, rfl, h2, h3⟩ := repL_split _ h1
    simp only [RepC]
    refine ⟨u1, u2, rfl, tree_reads H hJI hc hJ hi a x.1 k (fun j hj => ?_) h2, tree_reads H hJI hc hJ hi b x.2 _ (fun j hj => ?_) h3⟩
    · rw [hk j (by simp; omega), List.getElem?_append_left hj]
    · have := hk ((flat a x.1).length + j) (by simp; omega)
      rw [List.getElem?_append_right (by omega)] at this
      rw [Nat.add_assoc, this]; congr 1; omega
  | .unit, x, k, hk, vs, h1 => by simp only [flat, reloc, RepL] at h1; simpa only [RepC] using h1
  | .slice u, ys, k, hk, vs, h1 => by
    simp only [flat, reloc, RepL, reduceCtorEq, if_false] at h1
    obtain ⟨v, us, rfl, h2, rfl⟩ := h1
    simp only [RepAV] at h2
    have hst : stat h r (some (i, k, ver)) = .on (.lst ro u ys) := by
      have hn : nested ro T xs i k = some (.lst ro u ys) := by
        unfold nested
        rw [List.getElem?_eq_getElem hi]
        have := hk 0 (by simp [flat])
        simp only [Nat.add_zero, flat, List.getElem?_cons_zero] at this
        simp only [Option.bind_some, this]
      simp only [stat, hc, Nat.lt_irrefl, if_false, false_or, reduceCtorEq, hn]
    rw [own_on hst] at h2
    exact own_reads H hst (fun b n hb => hJ _ b n hb) h2 ys rfl fun j hj cs vs hat hr => by
      obtain ⟨_, rfl⟩ := at_lst hat
      exact (flat_rep u hr).mono (fun b hb => ⟨hJI b hb, rfl⟩)
  | .int _, x, k, hk, vs, h1 | .bool, x, k, hk, vs, h1 | .str, x, k, hk, vs, h1 | .err, x, k, hk, vs, h1 | .idx, x, k, hk, vs, h1 | .iref _, x, k, hk, vs, h1 | .fn _ _, x, k, hk, vs, h1 => by
    simp only [flat, reloc, RepL, RepAV] at h1; obtain ⟨v, us, rfl, h2, rfl⟩ := h1; exact h2.mono (fun b hb => ⟨hJI b hb, rfl⟩)
theorem packEsK_spec {R α : Type} {p : List AV → (α → List AV → Option R) → Option R} : (es : List (List AV)) → {K : List α → Option R} → {r : R} → packEsK p es K = some r →
    (Q : List AV → α → Prop) → (∀ e, e ∈ es → ∀ (K : α → List AV → Option R) (r : R), p e K = some r → ∃ x rest, K x rest = some r ∧ (rest = [] → Q e x)) → ∃ xs, K xs = some r ∧ xs.length = es.length ∧ ∀ (i : Nat) (h1 : i < xs.length) (h2 : i < es.length), Q es[i] xs[i]
  | [], K, r, h, Q, hp => ⟨[], h, rfl, fun i h1 => by simp at h1⟩
  | e :: es, K, r, h, Q, hp => by
    unfold packEsK at h
    obtain ⟨x, rest, h1, h2⟩ := hp e (by simp) _ _ h
    split at h1
    · rename_i he
      have he : rest = [] := by simpa using he
      obtain ⟨xs, h3, h4, h5⟩ := packEsK_spec es h1 Q (fun e' he' => hp e' (by simp [he']))
      refine ⟨x :: xs, h3, by simp [h4], fun i h6 h7 => ?_⟩
      cases i with
      | zero => exact h2 he
      | succ i => exact h5 i (by simpa using h6) (by simpa using h7)
    · cases h1
theorem stat_tree_root {h : Heap} {q : Nat} {s : Sub} {ro : Bool} {ver : Nat} {u : Ty} {xs : List (den u)} {ho : Option (Nat × Nat)} (hc : stat h q s = .on (.tree ro ver u xs ho)) : h.getD q none = some (.tree ro ver u xs ho) := by
  cases s with
  | none => exact (stat_root_on hc).1
  | some p =>
    obtain ⟨i, k, vv⟩ := p
    simp only [stat] at hc
    split at hc <;> first | (cases hc; done) | skip
    split at hc
    · cases hc
    · split at hc
      · cases hc
      · split at hc
        · rename_i hn
          obtain ⟨_, _, e, _⟩ := nested_lst hn
          rw [e] at hc; cases hc
        · cases hc
structure PackOK (hp : Heap) (E : Env) (h : Heap) (w : World) (J : Nat → Prop) : Prop where
  I : ∀ b, E.I b → J b
  sub : SubH hp h
  heap : hp = [] ∨ HeapOK E h w
  own : ∀ r c, hp.getD r none = some c → ∀ κ b n, E.ι r κ = some (b, n) → J b
theorem PackOK.stab {hp h : Heap} {E : Env} {w : World} {J : Nat → Prop} (p : PackOK hp E h w J) : Stab E.I w J w := fun b hb => ⟨p.I b hb, rfl⟩
theorem PackOK.ok {hp h : Heap} {E : Env} {w : World} {J : Nat → Prop} (p : PackOK hp E h w J) {r : Nat} {c : Cont} (hc : hp.getD r none = some c) : HeapOK E h w := p.heap.elim (fun e => by subst e; simp at hc) id
theorem packK_spec {hp : Heap} : (t : Ty) →
    (∀ (R : Type) (cs : List AV) (K : den t → List AV → Option R) (r : R), packK hp t cs K = some r → ∃ x rest, K x rest = some r ∧ ∀ E h w J, PackOK hp E h w J → ∀ vs, RepL E h w cs vs → ∃ us ws, vs = us ++ ws ∧ RepC J w t x us ∧ RepL E h w rest ws) ∧
    (∀ (R : Type) (cs : List AV) (K : den t → Option R) (r : R), packAK hp t cs K = some r → ∃ x, K x = some r ∧ ∀ E h w J, PackOK hp E h w J → ∀ vs, RepL E h w cs vs → RepA J w t x vs) := by
  have hpv : ∀ (R : Type) (t : Ty) (cs : List AV) (K : den t → List AV → Option R) (r : R) (u : Ty) (y : den u) (cs' : List AV), cs = .pv u y :: cs' → (cast? u t y).bind (fun z => K z cs') = some r → ∃ x rest, K x rest = some r ∧ ∀ E h w J, PackOK hp E h w J → ∀ vs, RepL E h w cs vs → ∃ us ws, vs = us ++ ws ∧ RepC J w t x us ∧ RepL E h w rest ws := by
    intro R t cs K r u y cs' e h1
    subst e
    obtain ⟨z, h3, hK⟩ := bind_ok h1
    obtain ⟨rfl, rfl⟩ := cast?_spec h3
    refine ⟨_, _, hK, fun E h w J p vs h2 => ?_⟩
    simp only [RepL, RepAV] at h2; obtain ⟨v, us, rfl, h4, h5⟩ := h2
    exact ⟨[v], us, rfl, h4.mono p.stab, h5⟩
  intro t
  induction t with
  | int k =>
    refine ⟨fun R cs K r h1 => ?_, fun R cs K r h1 => by simp [packAK] at h1⟩
    simp only [packK] at h1
    split at h1
    · exact hpv R _ _ K r _ _ _ rfl h1
    · cases h1
  | bool =>
    refine ⟨fun R cs K r h1 => ?_, fun R cs K r h1 => by simp [packAK] at h1⟩
    simp only [packK] at h1
    split at h1
    · exact hpv R _ _ K r _ _ _ rfl h1
    · cases h1
  | str =>
    refine ⟨fun R cs K r h1 => ?_, fun R cs K r h1 => by simp [packAK] at h1⟩
    simp only [packK] at h1
    split at h1
    · exact hpv R _ _ K r _ _ _ rfl h1
    · cases h1
  | idx =>
    refine ⟨fun R cs K r h1 => ?_, fun R cs K r h1 => by simp [packAK] at h1⟩
    simp only [packK] at h1
    split at h1
    · exact hpv R _ _ K r _ _ _ rfl h1
    · cases h1
  | err =>
    refine ⟨fun R cs K r h1 => ?_, fun R cs K r h1 => by simp [packAK] at h1⟩
    simp only [packK] at h1
    split at h1
    · exact hpv R _ _ K r _ _ _ rfl h1
    · refine ⟨_, _, h1, fun E h w J p vs h2 => ?_⟩
      simp only [RepL, RepAV] at h2; obtain ⟨v, us, rfl, rfl, h5⟩ := h2
      exact ⟨[.nilIface], us, rfl, by simp [RepC], h5⟩
    · cases h1
  | unit =>
    refine ⟨fun R cs K r h1 => ?_, fun R cs K r h1 => ?_⟩
    · simp only [packK] at h1
      exact ⟨_, _, h1, fun E h w J p vs h2 => ⟨[], vs, rfl, by simp [RepC], h2⟩⟩
    · simp only [packAK] at h1
      split at h1
      · rename_i he
        have : cs = [] := by simpa using he
        subst this
        exact ⟨(), h1, fun E h w J p vs h2 => by simp only [RepL] at h2; subst h2; simp [RepA]⟩
      · cases h1
  | prod a b iha ihb =>
    refine ⟨fun R cs K r h1 => ?_, fun R cs K r h1 => ?_⟩
    · simp only [packK] at h1
      obtain ⟨y, r1, h3, hA⟩ := iha.1 _ _ _ _ h1
      obtain ⟨z, r2, h4, hB⟩ := ihb.1 _ _ _ _ h3
      refine ⟨(y, z), r2, h4, fun E h w J p vs h2 => ?_⟩
      obtain ⟨us, ws, rfl, h5, h6⟩ := hA _ _ _ _ p vs h2
      obtain ⟨us', ws', rfl, h7, h8⟩ := hB _ _ _ _ p ws h6
      refine ⟨us ++ us', ws', by simp, ?_, h8⟩
      simp only [RepC]; exact ⟨us, us', rfl, h5, h7⟩
    · simp only [packAK] at h1
      split at h1
      · rename_i v vs'
        split at h1
        · rename_i ea
          split at h1
          · rename_i ds
            obtain ⟨y, r1, h3, hA⟩ := iha.1 _ _ _ _ h1
            split at h3
            · rename_i he
              have : r1 = [] := by simpa using he
              subst this
              obtain ⟨z, h12, hB⟩ := ihb.2 _ _ _ _ h3
              refine ⟨(y, z), h12, fun E h w J p vs h2 => ?_⟩
              simp only [RepL] at h2; obtain ⟨u, us, rfl, h5, h6⟩ := h2
              simp only [RepAV] at h5; obtain ⟨us', rfl, h9⟩ := h5
              obtain ⟨u1, u2, rfl, h10, h11⟩ := hA _ _ _ _ p _ h9
              simp only [RepL] at h11; subst h11
              simp only [RepA]
              exact ⟨_, us, rfl, by unfold RepV'; rw [if_pos ea]; exact ⟨u1, by simp, h10⟩, hB _ _ _ _ p _ h6⟩
            · cases h3
          · cases h1
        · rename_i ea
          obtain ⟨y, r1, h3, hA⟩ := iha.1 _ _ _ _ h1
          obtain ⟨z, h12, hB⟩ := ihb.2 _ _ _ _ h3
          refine ⟨(y, z), h12, fun E h w J p vs h2 => ?_⟩
          simp only [RepL] at h2; obtain ⟨u, us, rfl, h5, h6⟩ := h2
          obtain ⟨u1, u2, e, h10, h11⟩ := hA _ _ _ _ p _ (RepL.cons h5 RepL.nil)
          simp only [RepA]
          refine ⟨u, us, rfl, ?_, hB _ _ _ _ p _ h6⟩
          unfold RepV'; rw [if_neg ea]
          have hl := RepC.length a h10
          have : a.size = 1 := by cases a <;> first | rfl | simp [Ty.agg] at ea
          rw [this] at hl
          obtain ⟨q, rfl⟩ := List.length_eq_one_iff.1 hl
          have : q = u := by simpa using (List.cons.inj e).1.symm
          subst this; exact h10
      · cases h1
  | slice t ih =>
    refine ⟨fun R cs K r h1 => ?_, fun R cs K r h1 => by simp [packAK] at h1⟩
    simp only [packK] at h1
    split at h1
    · exact hpv R _ _ K r _ _ _ rfl h1
    · refine ⟨_, _, h1, fun E h w J p vs h2 => ?_⟩
      simp only [RepL, RepAV] at h2; obtain ⟨v, us, rfl, rfl, h5⟩ := h2
      exact ⟨[.slice none 0 0], us, rfl, by simp only [RepC]; exact ⟨none, 0, rfl, Nat.le_refl _, fun hn => absurd rfl hn⟩, h5⟩
    · rename_i q s rg cs'
      obtain ⟨c, h1, ⟨c0, hc0⟩, hcc⟩ := lookK_spec h1
      split at h1
      · rename_i ro u xs
        obtain ⟨ys, h6, h1⟩ := bind_ok h1
        obtain ⟨e, rfl⟩ := cast?_spec h6
        obtain rfl : u = t := by simpa using e
        refine ⟨_, _, h1, fun E h w J p vs h2 => ?_⟩
        have hc : stat h q s = .on (.lst ro u xs) := (hcc h p.sub).elim id (fun ⟨n, l, c', e, _⟩ => by cases e)
        have HO := p.ok hc0
        have hJq := p.own q c0 hc0
        simp only [RepL, RepAV] at h2; obtain ⟨v, us, rfl, h3, h5⟩ := h2
        rw [own_on hc] at h3
        refine ⟨[v], us, rfl, own_reads HO hc (fun b n hb => hJq _ b n hb) h3 xs rfl ?_, h5⟩
        intro i hi cs vs hat hrep
        obtain ⟨hi', rfl⟩ := at_lst hat
        exact (flat_rep u hrep).mono p.stab
      · rename_i ro ver u xs
        obtain ⟨ys, h6, h1⟩ := bind_ok h1
        obtain ⟨e, rfl⟩ := cast?_spec h6
        obtain rfl : u = t := by simpa using e
        refine ⟨_, _, h1, fun E h w J p vs h2 => ?_⟩
        have hc : stat h q s = .on (.tree ro ver u xs none) := (hcc h p.sub).elim id (fun ⟨n, l, c', e, _⟩ => by cases e)
        have hroot : h.getD q none = some (.tree ro ver u xs none) := stat_tree_root hc
        have HO := p.ok hc0
        have hJq := p.own q c0 hc0
        simp only [RepL, RepAV] at h2; obtain ⟨v, us, rfl, h3, h5⟩ := h2
        rw [own_on hc] at h3
        refine ⟨[v], us, rfl, own_reads HO hc (fun b n hb => hJq _ b n hb) h3 xs rfl ?_, h5⟩
        intro i hi cs vs hat hrep
        obtain ⟨hi', rfl⟩ := at_tree hat
        exact tree_reads HO p.I hroot (fun p b n => hJq (some p) b n) hi' u _ 0 (fun j hj => by rw [Nat.zero_add]) hrep
      · rename_i sz es
        obtain ⟨ys, h7, hl, hm⟩ := packEsK_spec es h1 (fun e x => ∀ E h w J, PackOK hp E h w J → ∀ vs, RepL E h w e vs → RepC J w t x vs) (fun e _ K r hp => by
          obtain ⟨x, rest, k1, k2⟩ := ih.1 _ _ _ _ hp
          refine ⟨x, rest, k1, fun hr E h w J p vs hvs => ?_⟩
          subst hr
          obtain ⟨us, ws, rfl, k3, k4⟩ := k2 _ _ _ _ p vs hvs
          simp only [RepL] at k4; subst k4
          rw [List.append_nil]; exact k3)
        refine ⟨_, _, h7, fun E h w J p vs h2 => ?_⟩
        have hc : stat h q s = .on (.cells sz es) := (hcc h p.sub).elim id (fun ⟨n, l, c', e, _⟩ => by cases e)
        have HO := p.ok hc0
        have hJq := p.own q c0 hc0
        simp only [RepL, RepAV] at h2; obtain ⟨v, us, rfl, h3, h5⟩ := h2
        rw [own_on hc] at h3
        refine ⟨[v], us, rfl, own_reads HO hc (fun b n hb => hJq _ b n hb) h3 ys hl ?_, h5⟩
        intro i hi cs vs hat hrep
        simp only [Cont.at?] at hat
        obtain ⟨hi', rfl⟩ := List.getElem?_eq_some_iff.1 hat
        exact hm i hi hi' _ _ _ _ p vs hrep
      · cases h1
    · cases h1
  | iref t ih =>
    refine ⟨fun R cs K r h1 => ?_, fun R cs K r h1 => by simp [packAK] at h1⟩
    simp only [packK] at h1
    split at h1
    · exact hpv R _ _ K r _ _ _ rfl h1
    · refine ⟨_, _, h1, fun E h w J p vs h2 => ?_⟩
      simp only [RepL, RepAV] at h2; obtain ⟨v, us, rfl, rfl, h5⟩ := h2
      exact ⟨[.pointer none], us, rfl, by simp [RepC], h5⟩
    · rename_i u y cs'
      obtain ⟨z, h3, hK⟩ := bind_ok h1
      obtain ⟨rfl, rfl⟩ := cast?_spec h3
      refine ⟨_, _, hK, fun E h w J p vs h2 => ?_⟩
      simp only [RepL, RepAV] at h2; obtain ⟨v, us, rfl, ⟨b, o, cs, rfl, hI, h4, h6⟩, h5⟩ := h2
      refine ⟨[_], us, rfl, ?_, h5⟩
      simp only [RepC]
      exact ⟨b, o, cs, by simp, p.I b hI, RepC.length u h4, h4.mono p.stab, h6⟩
    · rename_i q s i cs'
      obtain ⟨c, h1, ⟨c0, hc0⟩, hcc⟩ := lookK_spec h1
      obtain ⟨es, hat, h1⟩ := atK_spec h1
      obtain ⟨y, rest', h3, hA⟩ := ih.1 _ _ _ _ h1
      split at h3
      · rename_i hemp
        obtain rfl : rest' = [] := by simpa using hemp
        refine ⟨_, _, h3, fun E h w J p vs h2 => ?_⟩
        have hc := (hcc h p.sub).at hat
        have HO := p.ok hc0
        have hJq := p.own q c0 hc0
        simp only [RepL, RepAV] at h2; obtain ⟨v, us, rfl, h4, h5⟩ := h2
        obtain ⟨b, hι, rfl⟩ := (ptr_on hc).1 h4
        obtain ⟨b', vs', k0, k1, k2, k3⟩ := obj_cells HO hc hat
        rw [hι] at k0; obtain rfl : b = b' := by simpa using k0
        obtain ⟨us', ws, rfl, k4, k5⟩ := hA _ _ _ _ p vs' k2
        simp only [RepL] at k5; subst k5
        rw [List.append_nil] at k1 k3
        refine ⟨[_], us, rfl, ?_, h5⟩
        simp only [RepC]
        exact ⟨b, i * c.sz, us', by simp, hJq _ b _ hι, RepC.length t k4, k4, k3⟩
      · cases h3
    · cases h1
  | fn f t ih =>
    refine ⟨fun R cs K r h1 => ?_, fun R cs K r h1 => by simp [packAK] at h1⟩
    simp only [packK] at h1
    split at h1
    · exact hpv R _ _ K r _ _ _ rfl h1
    · rename_i g cap cs'
      split at h1
      · rename_i e
        subst e
        obtain ⟨z, h3, hA⟩ := ih.2 _ _ _ _ h1
        refine ⟨z, _, h3, fun E h w J p vs h2 => ?_⟩
        simp only [RepL, RepAV] at h2; obtain ⟨v, us, rfl, ⟨ws, rfl, h4⟩, h5⟩ := h2
        refine ⟨[_], us, rfl, ?_, h5⟩
        simp only [RepC]
        exact ⟨ws, rfl, hA _ _ _ _ p _ h4⟩
      · cases h1
    · cases h1
end Go.Ab
