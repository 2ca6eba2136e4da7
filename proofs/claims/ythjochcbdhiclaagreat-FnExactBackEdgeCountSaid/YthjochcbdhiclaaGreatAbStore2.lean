import Derived.Test.YthjochcbdhiclaaGreatAbPut
set_option linter.unnecessarySimpa false
set_option linter.unusedVariables false
set_option linter.unusedSimpArgs false
namespace Go.Ab
open Go.RowKit
theorem repL_splice {E : Env} {h : Heap} {w : World} {cs vs : List AV} {ws us : List Value} {off : Nat} (h1 : RepL E h w vs us) (h2 : RepL E h w cs ws) : RepL E h w (splice cs off vs) (ws.take off ++ us ++ ws.drop (off + us.length)) := by
  unfold splice; rw [h1.length]; exact RepL.append (RepL.append (h2.take _) h1) (h2.drop _)
theorem splice_length {cs vs : List AV} {off : Nat} (h : off + vs.length ≤ cs.length) : (splice cs off vs).length = cs.length := by unfold splice; simp; omega
theorem splice_get {cs vs : List AV} {off : Nat} (h : off + vs.length ≤ cs.length) (j : Nat) (hj : j < (splice cs off vs).length) : (splice cs off vs)[j] = if h2 : off ≤ j ∧ j < off + vs.length then vs[j - off]'(by omega) else cs[j]'(by rw [splice_length h] at hj; exact hj) := by
  have hto : (cs.take off).length = off := by simp; omega
  have key : ∀ (l : List AV) (hl : j < l.length), l = cs.take off ++ vs ++ cs.drop (off + vs.length) → l[j] = if h2 : off ≤ j ∧ j < off + vs.length then vs[j - off]'(by omega) else cs[j]'(by rw [splice_length h] at hj; exact hj) := by
    intro l hl e
    subst e
    by_cases h1 : j < off
    · rw [dif_neg (by omega)]
      rw [List.getElem_append_left (by simp; omega), List.getElem_append_left (by omega)]; simp
    · by_cases h3 : j < off + vs.length
      · rw [dif_pos ⟨by omega, h3⟩]
        rw [List.getElem_append_left (by simp; omega), List.getElem_append_right (by omega)]
        simp only [hto]
      · rw [dif_neg (by omega)]
        rw [List.getElem_append_right (by simp; omega)]
        simp only [List.getElem_drop, List.length_append, hto]
        congr 1; omega
  exact key _ hj rfl
theorem reloc_get (r ver : Nat) (ho : Option (Nat × Nat)) (i : Nat) : ∀ (l : List AV) (m j : Nat) (hj : j < l.length) (hj' : j < (reloc r ver ho i m l).length), (reloc r ver ho i m l)[j] = (match l[j] with | .pv (.slice _) _ => if ho = some (i, m + j) then .junk else .own r (some (i, m + j, ver)) none | c => c) := by
  intro l
  induction l with
  | nil => intro m j hj; exact absurd hj (Nat.not_lt_zero _)
  | cons c l ih =>
    intro m j hj hj'
    cases j with
    | zero => cases c with
      | pv t x => cases t <;> rfl
      | _ => rfl
    | succ j =>
      have ih := ih (m + 1) j (by simpa using hj)
      have e : m + 1 + j = m + (j + 1) := by omega
      rw [e] at ih
      cases c with
      | pv t x => cases t <;> (simp only [reloc] at hj' ⊢; simp only [List.getElem_cons_succ]; exact ih (by simpa using hj'))
      | _ => simp only [reloc] at hj' ⊢; simp only [List.getElem_cons_succ]; exact ih (by simpa using hj')
theorem reloc_src {E : Env} {h : Heap} {w : World} {r ver : Nat} {t : Ty} {xs : List (den t)} {ho : Option (Nat × Nat)} (hc : h.getD r none = some (.tree false ver t xs ho)) {i : Nat} (hi : i < xs.length) {vs : List Value} (hr : RepL E h w (reloc r ver ho i 0 (flat t xs[i])) vs) :
    ∀ (k : Nat) (h1 : k < (flat t xs[i]).length) (h2 : k < vs.length), ho ≠ some (i, k) → CellSrc E h w (fun p => E.ι r (some p)) i k (flat t xs[i])[k] vs[k] := by
  intro k h5 h6 hno
  have hl : (reloc r ver ho i 0 (flat t xs[i])).length = (flat t xs[i]).length := reloc_length _ _ _ _ _ _
  have hg := hr.getAt k (by omega) h6
  rw [reloc_get _ _ _ _ _ 0 k h5 (by omega)] at hg
  simp only [Nat.zero_add] at hg
  obtain ⟨u, y, e⟩ := flat_pv t xs[i] _ (List.getElem_mem h5)
  rw [e] at hg ⊢
  cases u with
  | slice u =>
    simp only [if_neg hno, RepAV] at hg
    have hst : stat h r (some (i, k, ver)) = .on (.lst false u y) := by
      have hn : nested false t xs i k = some (.lst false u y) := by
        unfold nested; rw [List.getElem?_eq_getElem hi]; simp only [Option.bind_some, List.getElem?_eq_getElem h5, e]
      rw [stat_treeN hc]; simp [hn, hno]
    rw [own_on hst] at hg
    exact .inl ⟨r, some (i, k, ver), hst, rfl, hg⟩
  | _ => exact hg
theorem tree_srcs {E : Env} {h : Heap} {w : World} (H : HeapOK E h w) {r ver : Nat} {t : Ty} {xs : List (den t)} {ho : Option (Nat × Nat)} (hc : h.getD r none = some (.tree false ver t xs ho)) (hne : xs.length ≠ 0) :
    ∃ b arr ty, E.ι r none = some (b, t.size) ∧ w.heap[b]? = some (.cells arr ty (0, 0)) ∧ xs.length * t.size ≤ arr.size ∧ ∀ i (hi : i < xs.length), ∃ vs : List Value, vs.length = t.size ∧ (∀ (j : Nat) (hj : j < vs.length), arr[i * t.size + j]? = some vs[j]) ∧
      ∀ (k : Nat) (h1 : k < (flat t xs[i]).length) (h2 : k < vs.length), ho ≠ some (i, k) → CellSrc E h w (fun p => E.ι r (some p)) i k (flat t xs[i])[k] vs[k] := by
  rcases H.obj r none _ (stat_tree hc) with h0 | ⟨b, arr, ty, h1, h2, h3, h4⟩
  · exact absurd h0 hne
  · refine ⟨b, arr, ty, h1, h2, h3, fun i hi => ?_⟩
    obtain ⟨cs, vs, k1, k2, k3, k4⟩ := h4 i hi
    obtain ⟨_, rfl⟩ := at_tree k1
    exact ⟨vs, k2, k4, reloc_src hc hi k3⟩
section
variable {P : Program} {C : Cfg} (HC : TabOK P C)
theorem getD_kill : (ks : List Nat) → (h : Heap) → (q : Nat) → (apD h (killD ks)).getD q none = if q ∈ ks then some .dead else h.getD q none
  | [], h, q => by simp [killD, apD]
  | a :: ks, h, q => by
    have ih := getD_kill ks (setH h a .dead) q
    have e : apD h (killD (a :: ks)) = apD (setH h a .dead) (killD ks) := rfl
    rw [e, ih, getD_setH]
    by_cases h1 : q ∈ ks
    · simp [h1]
    · by_cases h2 : q = a
      · simp [h1, h2]
      · simp [h1, h2]
include HC in
theorem store_sem {R : Type} {base : Nat} {s : St} {o : Oper} {t : TypeId} {x y : Operand} {K : AV → Delta → Option R} {r : R} (ho : o.op = .store t x y) (h : vopE C base s o K = some r) : ∃ v δ, K v δ = some r ∧ ∀ hp, SubH s.h hp → (∀ j, j < slots C o → hp.getD (base + j) none = none) → ESem P s.t hp o v δ := by
  have hx : x ∈ o.op.operands := by rw [ho]; simp [Op.operands]
  have hy : y ∈ o.op.operands := by rw [ho]; simp [Op.operands]
  unfold vopE at h; simp only [ho] at h
  split at h
  case h_2 => cases h
  rename_i i hi
  have hti := HC.ti t i hi
  split at h
  · rename_i n e hu
    unfold storeArrK at h
    split at h
    case h_2 => cases h
    rename_i q ex
    split at h
    case h_2 => cases h
    rename_i k xs hq
    split at h
    case h_2 => cases h
    rename_i ys hys
    split at h
    case isFalse => cases h
    rename_i hl
    refine ⟨_, _, h, fun hp hs hfree F E w a next Q hI hop hk => ?_⟩
    have hc := hs.lst hq (by simp) (by simp)
    have hst := stat_root hc (by simp)
    have h1 := hop x hx; rw [ex] at h1
    simp only [RepAV] at h1
    obtain ⟨b, hι, hax⟩ := (ptr_on hst).1 h1
    have hcells := intsOf_spec hys
    have hok : (ev s.t y).ok = true := by unfold AV.ok; rw [hcells]; simp [AV.cell, Ty.agg]
    obtain ⟨hr, _⟩ := cells_rep hok (hop y hy)
    rw [hcells] at hr
    have hvs := ints_rep ys hr
    have hyl : (a.eval y).cells.size = i.size := by
      have := congrArg List.length hvs
      simp only [List.length_map] at this
      rw [← hl.1, ← this]; simp
    have undefOK : ∀ (E : Env) (h : Heap) (w : World), RepAV E h w .undef undef := fun E h w => by simp only [RepAV]; exact ⟨[], rfl, RepL.nil⟩
    have fin : ∀ w', (storeCells ⟨b, 0, none⟩ (ys.map fun n => Value.int k n)).run P w = .ok () w' → Inv F E (setH hp q (.lst false (.int k) ys)) w' → Keep E hp w E (setH hp q (.lst false (.int k) ys)) w' → o.wp P a w next Q := by
      intro w' k1 k2 k3
      unfold Oper.wp
      have : (execOp a.eval o).run P w = .ok .skip w' := by
        simp only [execOp, ho, hax, Instr.storeAt, Instr.sureAddr, storeVar, Sem.run_bind, Sem.run_pure, Result.andThen_ok, tiok_size hti, hyl, ne_eq, not_true_eq_false, if_false, Sem.run_ite, hvs]
        simp only [Cont.sz, Ty.size, Nat.zero_mul, Nat.add_zero]
        rw [k1]; rfl
      rw [this, Oper.upon_skip]
      exact hk undef E w' k2 k3 (undefOK _ _ _)
    by_cases h0 : xs.length = 0
    · have hx0 : xs = [] := List.eq_nil_of_length_eq_zero h0
      have hy0 : ys = [] := List.eq_nil_of_length_eq_zero (by omega)
      subst hy0
      have hsame : setH hp q (.lst false (.int k) []) = hp := setH_same hp q _ (by rw [hc, hx0])
      refine fin w (by simp [storeCells]) ?_ ?_
      · rw [hsame]; exact hI
      · rw [hsame]; exact Keep.refl E hp w
    · obtain ⟨w', k1, k2, k3⟩ := put_rows P hI (t := .int k) (xs := xs) (ys := ys) hc hι h0 (o := 0) (by omega) (us := ys.map fun n => Value.int k n) (by simp [Ty.size]) (fun u hu => by obtain ⟨n, _, rfl⟩ := List.mem_map.1 hu; rfl) (fun j hj => ⟨[.int k ys[j]], by simp [Ty.size], RepL.cons (mk_int k _) RepL.nil, fun m hm => by
        have : m = 0 := by simpa using hm
        subst this
        simp [Ty.size, hj]⟩)
      have hx1 : xs.take 0 ++ ys ++ xs.drop (0 + ys.length) = ys := by
        rw [List.drop_of_length_le (by omega)]; simp
      rw [hx1] at k2 k3
      simp only [Ty.size, Nat.zero_mul] at k1
      exact fin w' k1 k2 k3
  unfold storeK at h
  split at h
  case isFalse => cases h
  rename_i hok
  have run : ∀ (hp : Heap) (E : Env) (w : World) (a : Act) (next : Act → World → Prop) (Q : Exit → Act → World → Prop) (b pos : Nat) (arr : Array Value) (ty : TypeId), (∀ z ∈ o.op.operands, RepAV E hp w (ev s.t z) (a.eval z)) → a.eval x = .pointer (some ⟨b, pos, none⟩) → w.heap[b]? = some (.cells arr ty (0, 0)) → pos + i.size ≤ arr.size →
      ∃ (us : List Value) (arr' : Array Value), us.length = i.size ∧ RepL E hp w (ev s.t y).cells us ∧ arr'.size = arr.size ∧ (∀ k, arr'[k]? = if k < pos then arr[k]? else if k < pos + us.length then us[k - pos]? else arr[k]?) ∧ (next (a.put o.dst undef) (w.setRow b arr') → o.wp P a w next Q) := by
    intro hp E w a next Q b pos arr ty hop hax hb hpos
    obtain ⟨hr, hone⟩ := cells_rep hok.1 (hop y hy)
    have hvs : (a.eval y).cells.toList.length = i.size := by rw [← hr.length]; exact hok.2
    obtain ⟨arr', h2, h3, h4⟩ := store_run P hb (pos := pos) (us := (a.eval y).cells.toList) (by rw [hvs]; exact hpos) hone
    refine ⟨_, arr', hvs, hr, h3, h4, fun hn => ?_⟩
    unfold Oper.wp
    have : (execOp a.eval o).run P w = .ok .skip (w.setRow b arr') := by
      simp only [execOp, ho, hax, Instr.storeAt, Instr.sureAddr, storeVar, Sem.run_bind, Sem.run_pure, Result.andThen_ok, tiok_size hti, show (a.eval y).cells.size = i.size by simpa using hvs, ne_eq, not_true_eq_false, if_false, Sem.run_ite, h2]
    rw [this, Oper.upon_skip]
    exact hn
  have undefOK : ∀ (E : Env) (h : Heap) (w : World), RepAV E h w .undef undef := fun E h w => by simp only [RepAV]; exact ⟨[], rfl, RepL.nil⟩
  have plain : ∀ (q j off : Nat) (c c' : Cont) (cs cs' : List AV), ev s.t x = .ptr q none j off → s.h.getD q none = some c → c.plain → c'.plain → c'.past = c.past → c.at? q j = some cs → off + i.size ≤ c.sz → c'.len = c.len → c'.sz = c.sz → c'.at? q j = some cs' →
      (∀ hp, SubH s.h hp → ∀ (E : Env) (w : World) (us ws : List Value), HeapOK E hp w → RepL E hp w (ev s.t y).cells us → RepL E hp w cs ws → RepL E hp w cs' (ws.take off ++ us ++ ws.drop (off + us.length))) → (∀ k, k ≠ j → c'.at? q k = c.at? q k) → ∀ hp, SubH s.h hp → ESem P s.t hp o .undef [(q, c')] := by
    intro q j off c c' cs cs' ex hcs hpl hpl' hpast hat hfit hlen hsz hat' hrep hoth hp hs F E w a next Q hI hop hk
    have hc : hp.getD q none = some c := by
      rcases hs q c hcs hpl.ro.2 with h1 | ⟨n, l, c'', e, _⟩
      · exact h1
      · subst e; cases hpl
    have hst := stat_root hc hpl.ro.2
    have h1 := hop x hx; rw [ex] at h1
    simp only [RepAV] at h1
    obtain ⟨b, hι, hax⟩ := (ptr_on hst).1 h1
    have hj := at_len hat
    rcases hI.heap.obj q none c hst with h0 | ⟨b', arr, ty, hι', hb, hfit', hels⟩
    · omega
    rw [hι] at hι'; obtain rfl : b = b' := by simpa using hι'
    have hjs : j * c.sz + c.sz ≤ c.len * c.sz := by rw [← Nat.succ_mul]; exact Nat.mul_le_mul_right _ hj
    obtain ⟨us, arr', hul, hur, has, hget, hgo⟩ := run hp E w a next Q b (j * c.sz + off) arr ty hop hax hb (by omega)
    refine hgo ?_
    obtain ⟨k1, k2⟩ := inv_set hI hc hpl hpl' hpast (arr' := arr') hι hb hlen hsz has hfit' (fun k hkl => by
      obtain ⟨ds, ws, e1, e2, e3, e4⟩ := hels k hkl
      obtain ⟨s1, s2⟩ := row_splice (by rw [hul]; exact hfit) hget e2 e4
      by_cases hkj : k = j
      · subst hkj
        rw [hat] at e1; obtain rfl : cs = ds := by simpa using e1
        exact ⟨cs', _, hat', by simp; omega, hrep hp hs E w us ws hI.heap hur e3, s2 rfl⟩
      · exact ⟨ds, ws, by rw [hoth k hkj]; exact e1, e2, e3, s1 hkj⟩) (fun k _ => heap_setRow (cur' := arr') hb k) (by simp [World.setRow]) rfl rfl ⟨rfl, Nat.le_refl _⟩
    exact hk undef E _ k1 k2 (undefOK _ _ _)
  have tree : ∀ (q j off ver : Nat) (t : Ty) (xs : List (den t)) (ho' : Option (Nat × Nat)) (z : den t) (d : List AV), ev s.t x = .ptr q none j off → s.h.getD q none = some (.tree false ver t xs ho') → (hj : j < xs.length) → off + i.size ≤ t.size → nodupB (q :: rootsOf (ev s.t y).cells) = true →
      (∀ p, ho' = some p → j = p.1 ∧ off ≤ p.2 ∧ p.2 < off + i.size) → plantC s.h (ev s.t y).cells = some d → (splice (flat t xs[j]) off d).length = t.size → (∀ (k : Nat) (h1 : k < (splice (flat t xs[j]) off d).length) (h2 : k < (flat t z).length), CellIs (splice (flat t xs[j]) off d)[k] (flat t z)[k]) →
      ∀ hp, SubH s.h hp → ESem P s.t hp o .undef ((q, .tree false (ver + 1) t (xs.set j z) none) :: killD (rootsOf (ev s.t y).cells)) := by
    intro q j off ver t xs ho' z d ex hcs hj hfit hnd hhole hpl hspl hcell hp hs F E w a next Q hI hop hk
    have hc : hp.getD q none = some (.tree false ver t xs ho') := by
      rcases hs q _ hcs (by simp) with h1 | ⟨n, l, c'', e, _⟩
      · exact h1
      · cases e
    have hst := stat_tree hc
    have h1 := hop x hx; rw [ex] at h1
    simp only [RepAV] at h1
    obtain ⟨b, hι, hax⟩ := (ptr_on hst).1 h1
    obtain ⟨b', arr, ty, hι', hb, hfit', hels⟩ := tree_srcs hI.heap hc (by omega)
    simp only [key] at hι
    rw [hι] at hι'; obtain ⟨rfl, hsz'⟩ : b = b' ∧ _ := by simpa using hι'
    simp only [Cont.sz] at hax hι
    have hjs : j * t.size + t.size ≤ xs.length * t.size := by rw [← Nat.succ_mul]; exact Nat.mul_le_mul_right _ hj
    obtain ⟨us, arr', hul, hur, has, hget, hgo⟩ := run hp E w a next Q b (j * t.size + off) arr ty hop hax hb (by omega)
    refine hgo ?_
    obtain ⟨hdl, hpis⟩ := plantC_spec _ hpl
    have hvl : (ev s.t y).cells.length = i.size := hok.2
    obtain ⟨hq1, hq2⟩ := nodupB_cons hnd
    let σ : Nat × Nat → Option (Nat × Nat) := fun p => if p.1 = j ∧ off ≤ p.2 ∧ p.2 < off + i.size then (match (ev s.t y).cells[p.2 - off]? with | some (.own q' none none) => E.ι q' none | _ => none) else E.ι q (some p)
    have hroot : ∀ q' ∈ rootsOf (ev s.t y).cells, q' ≠ q ∧ ∃ u ys, hp.getD q' none = some (.lst false u ys) := by
      intro q' hm
      refine ⟨fun e => hq1 (by rw [← e]; exact hm), ?_⟩
      obtain ⟨m, hm'⟩ := (mem_rootsOf _ q').1 hm
      obtain ⟨hml, hme⟩ := List.getElem?_eq_some_iff.1 hm'
      rcases hpis m hml (by omega) with ⟨q0, u, ys, e1, e2, _⟩ | ⟨e1, _⟩ | ⟨_, _, e1, _⟩
      · rw [hme] at e1; obtain rfl : q' = q0 := by simpa using e1
        rcases hs q' _ e2 (by simp) with h3 | ⟨n, l, c'', e, _⟩
        · exact ⟨u, ys, h3⟩
        · cases e
      · rw [hme] at e1; cases e1
      · rw [hme] at e1; cases e1
    have hσr : ∀ p b' n', σ p = some (b', n') → (¬ (p.1 = j ∧ off ≤ p.2 ∧ p.2 < off + i.size) ∧ E.ι q (some p) = some (b', n')) ∨ ((p.1 = j ∧ off ≤ p.2 ∧ p.2 < off + i.size) ∧ ∃ q', (ev s.t y).cells[p.2 - off]? = some (.own q' none none) ∧ E.ι q' none = some (b', n')) := by
      intro p b' n' e
      simp only [σ] at e
      split at e
      · rename_i hin
        split at e
        · rename_i q' hq'; exact .inr ⟨hin, q', hq', e⟩
        · cases e
      · rename_i hin; exact .inl ⟨hin, e⟩
    have hzl : (flat t z).length = t.size := flat_len
    obtain ⟨E', g1, g2, g3⟩ := inv_tree hI (r := q) (ver := ver + 1) (t := t) (xs := xs.set j z) (K := fun q' => q' ∈ rootsOf (ev s.t y).cells) (fun q' hm => ⟨(hroot q' hm).1, by obtain ⟨u, ys, e⟩ := (hroot q' hm).2; exact ⟨_, e, rfl⟩⟩)
      (h' := apD hp ((q, .tree false (ver + 1) t (xs.set j z) none) :: killD (rootsOf (ev s.t y).cells))) (by show (apD (setH hp q _) (killD _)).getD q none = _; rw [getD_kill, if_neg hq1, getD_setH, if_pos rfl]) (fun q' hm => by show (apD (setH hp q _) (killD _)).getD q' none = _; rw [getD_kill, if_pos hm]) (fun q' hne hm => by show (apD (setH hp q _) (killD _)).getD q' none = _; rw [getD_kill, if_neg hm, getD_setH, if_neg hne])
      (w' := w.setRow b arr') (b := b) (arr := arr') (ty := ty) (by rw [heap_setRow hb]; simp) (fun k hne _ => by rw [heap_setRow hb, if_neg hne])
      (.inr ⟨_, hc, rfl, by simp, by simp [Cont.len], rfl, hι, fun p hne => by
        obtain ⟨i0, k0, v0⟩ := p
        rw [stat_treeN hc] at hne
        by_cases hlt : ver < v0
        · rw [if_pos hlt] at hne; exact absurd rfl hne
        · show v0 < ver + 1; omega⟩)
      (.inl ⟨q, _, .inl rfl, hι, fun a' ty' ha' => (by rw [hb] at ha'; have h9 : arr = a' ∧ ty = ty' := (by simpa using ha'); exact ⟨h9.2.symm, by rw [has, h9.1]⟩)⟩)
      (by simp [World.setRow]) (by have := hI.heap.own_lt b ⟨_, _, _, hι⟩; simpa [World.setRow] using this) rfl rfl ⟨rfl, Nat.le_refl _⟩ (by rw [List.length_set, has]; exact hfit') σ
      (fun p b' n' e => by
        rcases hσr p b' n' e with ⟨_, h3⟩ | ⟨_, q', h3, h4⟩
        · exact ⟨q, some p, .inl rfl, h3, fun hbb => by subst hbb; have := (hI.heap.inj _ _ _ _ _ _ _ h3 hι).2; cases this⟩
        · have hm := (mem_rootsOf _ q').2 ⟨_, h3⟩
          exact ⟨q', none, .inr hm, h4, fun hbb => by subst hbb; exact (hroot q' hm).1 (hI.heap.inj _ _ _ _ _ _ _ h4 hι).1⟩)
      (fun p p' b' n n' e e' => by
        rcases hσr p b' n e with ⟨_, h3⟩ | ⟨hin, q1, h3, h4⟩ <;> rcases hσr p' b' n' e' with ⟨_, h5⟩ | ⟨hin', q2, h5, h6⟩
        · have := (hI.heap.inj _ _ _ _ _ _ _ h3 h5).2; simpa using this
        · have := (hI.heap.inj _ _ _ _ _ _ _ h3 h6).2; cases this
        · have := (hI.heap.inj _ _ _ _ _ _ _ h4 h5).2; cases this
        · have := (hI.heap.inj _ _ _ _ _ _ _ h4 h6).1; subst this
          have := nodup_pos _ hq2 _ _ _ h3 h5
          obtain ⟨p1, p2⟩ := p; obtain ⟨p1', p2'⟩ := p'
          simp only at hin hin' this ⊢
          congr 1
          · omega
          · omega)
      (fun k hkl => by
        have hkl' : k < xs.length := by simpa using hkl
        obtain ⟨vs, e1, e2, e3⟩ := hels k hkl'
        obtain ⟨s1, s2⟩ := row_splice (by rw [hul]; exact hfit) hget e1 e2
        by_cases hkj : k = j
        · subst hkj
          refine ⟨_, ?_, s2 rfl⟩
          simp only [List.getElem_set_self]
          have hwl : (vs.take off ++ us ++ vs.drop (off + us.length)).length = t.size := by simp; omega
          refine SrcL.of (by rw [hzl, hwl]) fun m hm1 hm2 => ?_
          rw [Nat.zero_add]
          have hm : m < t.size := by rw [hzl] at hm1; exact hm1
          have hcm := hcell m (by rw [hspl]; exact hm) hm1
          have hdle : off + d.length ≤ (flat t xs[k]).length := by rw [flat_len, hdl, hvl]; exact hfit
          rw [splice_get hdle] at hcm
          have hto : (vs.take off).length = off := by simp; omega
          by_cases hin : off ≤ m ∧ m < off + i.size
          · rw [dif_pos (by rw [hdl, hvl]; exact hin)] at hcm
            have hml : m - off < (ev s.t y).cells.length := by omega
            have hv : (vs.take off ++ us ++ vs.drop (off + us.length))[m] = us[m - off]'(by omega) := by
              rw [List.getElem_append_left (by simp; omega), List.getElem_append_right (by omega)]
              simp only [hto]
            rw [hv]
            refine plant_src hs (hpis (m - off) hml (by omega)) hcm (hur.getAt (m - off) hml (by omega)) (fun q' e => ?_) (fun e => ?_)
            · simp only [σ]; rw [if_pos ⟨trivial, hin⟩, List.getElem?_eq_getElem hml, e]
            · simp only [σ]; rw [if_pos ⟨trivial, hin⟩, List.getElem?_eq_getElem hml, e]
          · rw [dif_neg (by rw [hdl, hvl]; exact hin)] at hcm
            have hv : (vs.take off ++ us ++ vs.drop (off + us.length))[m] = vs[m]'(by omega) := by
              by_cases hlo : m < off
              · rw [List.getElem_append_left (by simp; omega), List.getElem_append_left (by omega)]; simp
              · rw [List.getElem_append_right (by simp; omega)]
                simp only [List.getElem_drop, List.length_append, hto]
                congr 1; omega
            rw [hv]
            have hold := e3 m (by rw [flat_len]; exact hm) (by omega) (fun e => by have := hhole _ e; simp only at this; exact hin this.2)
            have hf : (flat t z)[m] = (flat t xs[k])[m]'(by rw [flat_len]; exact hm) := by
              rcases hcm with h5 | ⟨h5, _⟩
              · exact h5.symm
              · obtain ⟨u', y', e5⟩ := flat_pv t xs[k] _ (List.getElem_mem (by rw [flat_len]; exact hm))
                rw [e5] at h5; cases h5
            rw [hf]
            have hσm : σ (k, m) = E.ι q (some (k, m)) := by simp only [σ]; rw [if_neg (by simpa using hin)]
            unfold CellSrc at hold ⊢
            split
            · rename_i u' ys' e5
              rw [e5] at hold
              simp only at hold
              rcases hold with ⟨q0, s0, m1, m2, m3⟩ | ⟨m1, m2, m3⟩
              · exact .inl ⟨q0, s0, m1, m2.trans hσm.symm, m3⟩
              · exact .inr ⟨m1, hσm.trans m2, m3⟩
            · rename_i hno
              split at hold
              · rename_i u' ys' e5; exact absurd e5 (hno u' ys')
              · exact hold
        · refine ⟨vs, ?_, s1 hkj⟩
          simp only [List.getElem_set_ne (Ne.symm hkj)]
          refine SrcL.of (by rw [flat_len, e1]) fun m hm1 hm2 => ?_
          rw [Nat.zero_add]
          have hold := e3 m hm1 hm2 (fun e => by have := hhole _ e; simp only at this; exact hkj this.1.symm)
          have hσm : σ (k, m) = E.ι q (some (k, m)) := by simp only [σ]; rw [if_neg (fun e => hkj e.1)]
          unfold CellSrc at hold ⊢
          split
          · rename_i u' ys' e5
            rw [e5] at hold
            simp only at hold
            rcases hold with ⟨q0, s0, m1, m2, m3⟩ | ⟨m1, m2, m3⟩
            · exact .inl ⟨q0, s0, m1, m2.trans hσm.symm, m3⟩
            · exact .inr ⟨m1, hσm.trans m2, m3⟩
          · rename_i hno
            split at hold
            · rename_i u' ys' e5; exact absurd e5 (hno u' ys')
            · exact hold)
    exact hk undef E' _ g1 g2 (undefOK _ _ _)
  split at h
  · rename_i q j off ex
    split at h
    · rename_i n es hc
      split at h
      · rename_i cs hcs
        split at h
        · rename_i hfit
          have hj := (List.getElem?_eq_some_iff.1 hcs).1
          refine ⟨_, _, h, fun hp hs _ F E w a next Q hI hop hk => ?_⟩
          have hc' : hp.getD q none = some (.cells n es) := by
            rcases hs q _ hc (by simp) with h1 | ⟨n, l, c'', e, _⟩
            · exact h1
            · cases e
          have hcsl : cs.length = n := by
            rcases hI.heap.obj q none _ (stat_root hc' (by simp)) with h0 | ⟨b, arr, ty, _, _, _, hels⟩
            · simp only [Cont.len] at h0; omega
            · obtain ⟨ds, vs, e1, e2, e3, _⟩ := hels j hj
              simp only [Cont.at?, hcs, Option.some.injEq] at e1; subst e1
              rw [e3.length, e2]; rfl
          exact plain q j off (.cells n es) (.cells n (es.set j (splice cs off (ev s.t y).cells))) cs (splice cs off (ev s.t y).cells) ex hc trivial trivial rfl hcs (by simp only [Cont.sz]; omega) (by simp [Cont.len]) rfl (by simp [Cont.at?, hj])
            (fun hp hs E w us ws _ h1 h2 => repL_splice h1 h2) (fun k hk => by simp [Cont.at?, List.getElem?_set_ne (Ne.symm hk)]) hp hs F E w a next Q hI hop hk
        · cases h
      · cases h
    · rename_i u xs hc
      obtain ⟨z, hz, h⟩ := bind_ok h
      obtain ⟨hj, rfl⟩ := List.getElem?_eq_some_iff.1 hz
      split at h
      · rename_i hfit
        obtain ⟨z', rest, hz', hpk⟩ := (packK_spec u).1 _ _ _ _ h
        split at hz'
        · rename_i he
          obtain rfl : rest = [] := by simpa using he
          refine ⟨_, _, hz', fun hp hs _ => plain q j off (.lst false u xs) (.lst false u (xs.set j z')) (flat u xs[j]) (flat u z') ex hc trivial trivial rfl (by simp [Cont.at?, hj]) hfit (by simp [Cont.len]) rfl (by simp [Cont.at?, hj]) (fun hp hs E w us ws H h1 h2 => ?_) (fun k hk => by simp [Cont.at?, List.getElem?_set_ne (Ne.symm hk)]) hp hs⟩
          obtain ⟨u1, u2, e, h4, h5⟩ := hpk E hp w E.I (pack_ro hs H) _ (repL_splice h1 h2)
          simp only [RepL] at h5; subst h5
          rw [e, List.append_nil]; exact rep_flat u h4
        · cases hz'
      · cases h
    · rename_i ver u xs hc
      obtain ⟨z, hz, h⟩ := bind_ok h
      obtain ⟨hj, rfl⟩ := List.getElem?_eq_some_iff.1 hz
      split at h
      · rename_i hfit
        split at h
        · rename_i d hd
          obtain ⟨hdl, _⟩ := plantC_spec _ hd
          obtain ⟨z', hK, hl, hcell⟩ := pack_all h (fun c hcm => by
            unfold splice at hcm
            simp only [List.mem_append] at hcm
            rcases hcm with (h1 | h1) | h1
            · exact .inl (flat_pv u _ c (List.mem_of_mem_take h1))
            · exact plantC_pv hd c h1
            · exact .inl (flat_pv u _ c (List.mem_of_mem_drop h1)))
          exact ⟨_, _, hK, fun hp hs _ => tree q j off ver u xs none z' d ex hc hj hfit.1 hfit.2 (fun p e => by cases e) hd hl hcell hp hs⟩
        · cases h
      · cases h
    · rename_i ver u xs p hc
      obtain ⟨z, hz, h⟩ := bind_ok h
      obtain ⟨hj, rfl⟩ := List.getElem?_eq_some_iff.1 hz
      split at h
      · rename_i hfit
        split at h
        · rename_i d hd
          obtain ⟨hdl, _⟩ := plantC_spec _ hd
          obtain ⟨z', hK, hl, hcell⟩ := pack_all h (fun c hcm => by
            unfold splice at hcm
            simp only [List.mem_append] at hcm
            rcases hcm with (h1 | h1) | h1
            · exact .inl (flat_pv u _ c (List.mem_of_mem_take h1))
            · exact plantC_pv hd c h1
            · exact .inl (flat_pv u _ c (List.mem_of_mem_drop h1)))
          exact ⟨_, _, hK, fun hp hs _ => tree q j off ver u xs (some p) z' d ex hc hj hfit.1 hfit.2.1 (fun p' e => (by have h9 : p = p' := (by simpa using e); rw [← h9]; exact hfit.2.2)) hd hl hcell hp hs⟩
        · cases h
      · cases h
    · cases h
  · -- a row that hangs at a tree
    rename_i q i' k v' j off ex
    split at h
    case h_2 => cases h
    rename_i ver u xs hcs
    split at h
    case isFalse => cases h
    rename_i hv
    subst hv
    obtain ⟨x0, hx0, h⟩ := bind_ok h
    obtain ⟨hi', rfl⟩ := List.getElem?_eq_some_iff.1 hx0
    split at h
    case h_2 => cases h
    rename_i u1 ys hk0
    obtain ⟨y0, hy0, h⟩ := bind_ok h
    obtain ⟨hj, rfl⟩ := List.getElem?_eq_some_iff.1 hy0
    split at h
    case isFalse => cases h
    rename_i hfit
    obtain ⟨z, rest, hz, hpk⟩ := (packK_spec u1).1 _ _ _ _ h
    split at hz
    case isFalse => cases hz
    rename_i hre
    obtain rfl : rest = [] := by simpa using hre
    split at hz
    case h_2 => cases hz
    rename_i x' hx'
    refine ⟨_, _, hz, fun hp hs _ F E w a next Q hI hop hk => ?_⟩
    obtain ⟨hkl, hk1⟩ := List.getElem?_eq_some_iff.1 hk0
    have hc : hp.getD q none = some (.tree false v' u xs none) := by
      rcases hs q _ hcs (by simp) with h1 | ⟨n, l, c'', e, _⟩
      · exact h1
      · cases e
    have hn : nested false u xs i' k = some (.lst false u1 ys) := by
      unfold nested; rw [List.getElem?_eq_getElem hi']; simp only [Option.bind_some, hk0]
    have hst : stat hp q (some (i', k, v')) = .on (.lst false u1 ys) := by rw [stat_treeN hc]; simp [hn]
    have hset := setSl_spec hx' hkl
    have hxl : (flat u x').length = (flat u xs[i']).length := by rw [flat_len, flat_len]
    have h1 := hop x hx; rw [ex] at h1
    simp only [RepAV] at h1
    obtain ⟨b, hι, hax⟩ := (ptr_on hst).1 h1
    rcases hI.heap.obj q _ _ hst with h0 | ⟨b', arr, ty, hι', hb, hfit', hels⟩
    · simp only [Cont.len] at h0; omega
    rw [hι] at hι'; obtain rfl : b = b' := by simpa using hι'
    have hjs : j * (Cont.lst false u1 ys).sz + (Cont.lst false u1 ys).sz ≤ (Cont.lst false u1 ys).len * (Cont.lst false u1 ys).sz := by rw [← Nat.succ_mul]; exact Nat.mul_le_mul_right _ hj
    obtain ⟨us, arr', hul, hur, has, hget, hgo⟩ := run hp E w a next Q b (j * (Cont.lst false u1 ys).sz + off) arr ty hop hax hb (by simp only [Cont.sz] at hjs hfit' ⊢; omega)
    refine hgo ?_
    have hg : (setH hp q (.tree false v' u (xs.set i' x') none)).getD q none = some (.tree false v' u (xs.set i' x') none) := by rw [getD_setH, if_pos rfl]
    have nest' : ∀ i0 k0 c, nested false u xs i0 k0 = some c → ∃ c', nested false u (xs.set i' x') i0 k0 = some c' ∧ c'.len = c.len ∧ c'.sz = c.sz ∧ ((i0 = i' ∧ k0 = k ∧ c' = .lst false u1 (ys.set j z)) ∨ (¬ (i0 = i' ∧ k0 = k) ∧ c' = c)) := by
      intro i0 k0 c hn0
      obtain ⟨u2, ys2, rfl, hi0, hf0⟩ := nested_lst hn0
      by_cases e : i0 = i'
      · subst e
        obtain ⟨hl0, hf1⟩ := List.getElem?_eq_some_iff.1 hf0
        have hs0 := hset k0 hl0 (by omega)
        by_cases e2 : k0 = k
        · subst e2
          rw [if_pos rfl] at hs0
          rw [hk1] at hf1
          obtain ⟨rfl, hh⟩ : u1 = u2 ∧ HEq ys ys2 := by simpa using hf1
          obtain rfl := eq_of_heq hh
          refine ⟨.lst false u1 (ys.set j z), ?_, by simp [Cont.len], rfl, .inl ⟨rfl, rfl, rfl⟩⟩
          unfold nested
          rw [List.getElem?_set_self (by simpa using hi0)]
          simp only [Option.bind_some, List.getElem?_eq_getElem (show k0 < (flat u x').length by omega), hs0]
        · rw [if_neg e2] at hs0
          refine ⟨_, ?_, rfl, rfl, .inr ⟨fun h => e2 h.2, rfl⟩⟩
          unfold nested
          rw [List.getElem?_set_self (by simpa using hi0)]
          simp only [Option.bind_some, List.getElem?_eq_getElem (show k0 < (flat u x').length by omega), hs0, hf1]
      · refine ⟨_, ?_, rfl, rfl, .inr ⟨fun h => e h.1, rfl⟩⟩
        unfold nested
        rw [List.getElem?_set_ne (Ne.symm e), List.getElem?_eq_getElem hi0]
        simp only [Option.bind_some, hf0]
    have nest'' : ∀ i0 k0 c', nested false u (xs.set i' x') i0 k0 = some c' → ∃ c, nested false u xs i0 k0 = some c := by
      intro i0 k0 c' hn0
      obtain ⟨u2, ys2, rfl, hi0, hf0⟩ := nested_lst hn0
      have hi1 : i0 < xs.length := by simpa using hi0
      by_cases e : i0 = i'
      · subst e
        simp only [List.getElem_set_self] at hf0
        obtain ⟨hl0, hf1⟩ := List.getElem?_eq_some_iff.1 hf0
        have hs0 := hset k0 (by omega) hl0
        by_cases e2 : k0 = k
        · subst e2; exact ⟨_, hn⟩
        · rw [if_neg e2, hf1] at hs0
          refine ⟨.lst false u2 ys2, ?_⟩
          unfold nested; rw [List.getElem?_eq_getElem hi1]
          simp only [Option.bind_some, List.getElem?_eq_getElem (show k0 < (flat u xs[i0]).length by omega), ← hs0]
      · rw [List.getElem_set_ne (Ne.symm e)] at hf0
        refine ⟨.lst false u2 ys2, ?_⟩
        unfold nested; rw [List.getElem?_eq_getElem hi1]
        simp only [Option.bind_some, hf0]
    obtain ⟨g1, g2⟩ := inv_same hI hc rfl (c' := .tree false v' u (xs.set i' x') none) (by simp) rfl (b := b) (arr' := arr') ⟨_, _, hι⟩ hb has (fun s0 c0 e => by
        cases s0 with
        | none => rw [stat_tree hc] at e; obtain rfl : Cont.tree false v' u xs none = c0 := by simpa using e
                  exact ⟨.tree false v' u (xs.set i' x') none, stat_tree hg, by simp [Cont.len], rfl⟩
        | some p =>
          obtain ⟨i0, k0, v0⟩ := p
          obtain ⟨rfl, _, hn0⟩ := stat_nest hc e
          obtain ⟨c', hn1, h2, h3, _⟩ := nest' i0 k0 c0 hn0
          exact ⟨c', by rw [stat_treeN hg]; simp [hn1], h2, h3⟩) (fun s0 c1 e => by
        cases s0 with
        | none => rw [stat_tree hg] at e; obtain rfl : Cont.tree false v' u (xs.set i' x') none = c1 := by simpa using e
                  exact ⟨.tree false v' u xs none, stat_tree hc, by simp [Cont.len], rfl⟩
        | some p =>
          obtain ⟨i0, k0, v0⟩ := p
          obtain ⟨rfl, _, hn0⟩ := stat_nest hg e
          obtain ⟨c0, hn1⟩ := nest'' i0 k0 c1 hn0
          obtain ⟨c1', hn2, h2, h3, _⟩ := nest' i0 k0 c0 hn1
          rw [hn0] at hn2; obtain rfl : c1 = c1' := by simpa using hn2
          exact ⟨c0, by rw [stat_treeN hc]; simp [hn1], h2, h3⟩) (fun s0 e => by
        cases s0 with
        | none => rw [stat_tree hc] at e; cases e
        | some p =>
          obtain ⟨i0, k0, v0⟩ := p
          rw [stat_treeN hc] at e; rw [stat_treeN hg]
          split at e
          · cases e
          · split at e
            · rename_i h1 h2; rw [if_neg h1, if_pos h2]
            · split at e <;> cases e) (fun Kp s0 c1 e => by
        have hw := fun k => heap_setRow (cur' := arr') hb k
        cases s0 with
        | none =>
          rw [stat_tree hg] at e; obtain rfl : Cont.tree false v' u (xs.set i' x') none = c1 := by simpa using e
          rcases hI.heap.obj q none _ (stat_tree hc) with h0 | ⟨b0, arr0, ty0, m1, m2, m3, m4⟩
          · left; simpa [Cont.len] using h0
          · right
            have hne : b0 ≠ b := by rintro rfl; have := (hI.heap.inj _ _ _ _ _ _ _ m1 hι).2; cases this
            refine ⟨b0, arr0, ty0, m1, by rw [hw, if_neg hne]; exact m2, by simpa [Cont.len, Cont.sz] using m3, fun m hm => ?_⟩
            have hm' : m < xs.length := by simpa [Cont.len] using hm
            obtain ⟨cs, vs, e1, e2, e3, e4⟩ := m4 m hm'
            obtain ⟨_, rfl⟩ := at_tree e1
            have hm2 : m < (xs.set i' x').length := by simpa using hm'
            refine ⟨reloc q v' none m 0 (flat u ((xs.set i' x')[m]'hm2)), vs, by simp only [Cont.at?]; rw [List.getElem?_eq_getElem hm2]; rfl, e2, ?_, e4⟩
            have : reloc q v' none m 0 (flat u ((xs.set i' x')[m]'hm2)) = reloc q v' none m 0 (flat u xs[m]) := by
              by_cases e : m = i'
              · subst e
                simp only [List.getElem_set_self]
                have same : ∀ (l l' : List AV) (k1 : Nat), l.length = l'.length → (∀ (j : Nat) (h1 : j < l.length) (h2 : j < l'.length), l'[j] = l[j] ∨ (∃ u3 y3 y3', l[j] = .pv (.slice u3) y3 ∧ l'[j] = .pv (.slice u3) y3')) → reloc q v' none m k1 l' = reloc q v' none m k1 l := by
                  intro l
                  induction l with
                  | nil => intro l' k1 hl _; cases l' with
                    | nil => rfl
                    | cons _ _ => simp at hl
                  | cons c l ih =>
                    intro l' k1 hl hh
                    cases l' with
                    | nil => simp at hl
                    | cons c' l' =>
                      have ih := ih l' (k1 + 1) (by simpa using hl) (fun j h1 h2 => hh (j + 1) (Nat.succ_lt_succ h1) (Nat.succ_lt_succ h2))
                      rcases hh 0 (by simp) (by simp) with h1 | ⟨u3, y3, y3', h1, h2⟩
                      · simp only [List.getElem_cons_zero] at h1; subst h1
                        cases c' with
                        | pv t x => cases t <;> simp only [reloc, ih]
                        | _ => simp only [reloc, ih]
                      · simp only [List.getElem_cons_zero] at h1 h2; subst h1; subst h2
                        simp only [reloc, ih]
                refine same _ _ 0 hxl.symm fun j0 h1 h2 => ?_
                rw [hset j0 h1 h2]
                by_cases e : j0 = k
                · subst e; rw [if_pos rfl]; exact .inr ⟨u1, ys, ys.set j z, hk1, rfl⟩
                · rw [if_neg e]; exact .inl rfl
              · rw [List.getElem_set_ne (Ne.symm e)]
            rw [this]; exact keep_repL Kp _ e3
        | some p =>
          obtain ⟨i0, k0, v0⟩ := p
          obtain ⟨rfl, _, hn0⟩ := stat_nest hg e
          obtain ⟨c0, hn1⟩ := nest'' i0 k0 c1 hn0
          obtain ⟨c1', hn2, h2, h3, h4⟩ := nest' i0 k0 c0 hn1
          rw [hn0] at hn2; obtain rfl : c1 = c1' := by simpa using hn2
          have hst0 : stat hp q (some (i0, k0, v0)) = .on c0 := by rw [stat_treeN hc]; simp [hn1]
          rcases h4 with ⟨rfl, rfl, rfl⟩ | ⟨hne, rfl⟩
          · right
            refine ⟨b, arr', ty, hι, by rw [hw, if_pos rfl], by simpa [Cont.len, Cont.sz, has] using hfit', fun m hm => ?_⟩
            have hm' : m < ys.length := by simpa [Cont.len] using hm
            obtain ⟨cs, vs, e1, e2, e3, e4⟩ := hels m hm'
            obtain ⟨_, rfl⟩ := at_lst e1
            obtain ⟨s1, s2⟩ := row_splice (sz := (Cont.lst false u1 ys).sz) (by rw [hul]; exact hfit) hget e2 e4
            by_cases hmj : m = j
            · subst hmj
              obtain ⟨w1, w2, e5, h5, h6⟩ := hpk E hp w E.I pack_nil _ (repL_splice hur e3)
              simp only [RepL] at h6; subst h6
              rw [List.append_nil] at e5
              have := RepC.length u1 h5
              exact ⟨flat u1 z, w1, by simp only [Cont.at?]; rw [List.getElem?_set_self hm']; rfl, this, keep_repL Kp _ (rep_flat u1 h5), by rw [← e5]; exact s2 rfl⟩
            · exact ⟨flat u1 (ys[m]'hm'), vs, by simp only [Cont.at?]; rw [List.getElem?_set_ne (Ne.symm hmj), List.getElem?_eq_getElem hm']; rfl, e2, keep_repL Kp _ e3, s1 hmj⟩
          · refine (hI.heap.obj q _ _ hst0).imp id ?_
            rintro ⟨b0, arr0, ty0, m1, m2, m3, m4⟩
            have hne' : b0 ≠ b := by
              rintro rfl; have := (hI.heap.inj _ _ _ _ _ _ _ m1 hι).2
              simp only [key, Option.some.injEq, Prod.mk.injEq] at this; exact hne this
            refine ⟨b0, arr0, ty0, m1, by rw [hw, if_neg hne']; exact m2, m3, fun m hm => ?_⟩
            obtain ⟨cs, vs, e1, e2, e3, e4⟩ := m4 m hm
            exact ⟨cs, vs, e1, e2, keep_repL Kp _ e3, e4⟩)
    exact hk undef E _ g1 g2 (undefOK _ _ _)
  · cases h
end
end Go.Ab
