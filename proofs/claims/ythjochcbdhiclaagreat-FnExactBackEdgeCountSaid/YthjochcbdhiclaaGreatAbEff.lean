import Derived.Test.YthjochcbdhiclaaGreatAbConv
import Derived.Laws.CopyRow
import Derived.Laws.AppendOwn
import Derived.IntWalk
set_option linter.unnecessarySimpa false
set_option linter.unusedVariables false
set_option linter.unusedSimpArgs false
namespace Go.Ab
open Go.RowKit
def ESem (P : Program) (T : List AV) (h : Heap) (o : Oper) (v : AV) (δ : Delta) : Prop :=
  ∀ (F : Fr) (E : Env) (w : World) (a : Act) (next : Act → World → Prop) (Q : Exit → Act → World → Prop), Inv F E h w → (∀ x ∈ o.op.operands, RepAV E h w (ev T x) (a.eval x)) →
    (∀ val E' w', Inv F E' (apD h δ) w' → Keep E h w E' (apD h δ) w' → RepAV E' (apD h δ) w' v val → next (a.put o.dst val) w') → o.wp P a w next Q
theorem ESem.of_q {P : Program} {T : List AV} {h : Heap} {o : Oper} {v : AV} (hq : QSem P T h o v) : ESem P T h o v [] := hq
theorem ESem.ghost {P : Program} {T : List AV} {h : Heap} {o : Oper} {v : AV} {δ δ' : Delta} (hg : ∀ (F : Fr) (E : Env) (w : World), Inv F E h w → ∃ E', Inv F E' (apD h δ) w ∧ Keep E h w E' (apD h δ) w) (he : ESem P T (apD h δ) o v δ') (hap : apD (apD h δ) δ' = apD h (δ ++ δ')) : ESem P T h o v (δ ++ δ') := by
  intro F E w a next Q hI hop hk
  obtain ⟨E1, h1, h2⟩ := hg F E w hI
  refine he F E1 w a next Q h1 (fun x hx => keep_rep h2 _ (hop x hx)) fun val E' w' h3 h4 h5 => ?_
  rw [hap] at h3 h4 h5
  exact hk val E' w' h3 (h2.trans h4) h5
theorem apD_append : (h : Heap) → (δ δ' : Delta) → apD (apD h δ) δ' = apD h (δ ++ δ')
  | h, [], δ' => rfl
  | h, p :: δ, δ' => apD_append (setH h p.1 p.2) δ δ'
theorem flatten_get {sz : Nat} : (vss : List (List Value)) → (∀ vs ∈ vss, vs.length = sz) → (i j : Nat) → {vs : List Value} → vss[i]? = some vs → j < sz → vss.flatten[i * sz + j]? = vs[j]?
  | [], _, i, j, vs, h, _ => by simp at h
  | us :: vss, hl, 0, j, vs, h, hj => by
    simp at h; subst h
    have := hl us (by simp)
    simp only [List.flatten_cons, Nat.zero_mul, Nat.zero_add]
    rw [List.getElem?_append_left (by omega)]
  | us :: vss, hl, i + 1, j, vs, h, hj => by
    have := hl us (by simp)
    simp only [List.flatten_cons]
    rw [List.getElem?_append_right (by rw [Nat.add_mul]; omega)]
    have e : (i + 1) * sz + j - us.length = i * sz + j := by rw [Nat.add_mul]; omega
    rw [e]
    exact flatten_get vss (fun v hv => hl v (by simp [hv])) i j (by simpa using h) hj
theorem flatten_len {sz : Nat} : (vss : List (List Value)) → (∀ vs ∈ vss, vs.length = sz) → vss.flatten.length = vss.length * sz
  | [], _ => by simp
  | us :: vss, hl => by
    rw [List.flatten_cons, List.length_append, flatten_len vss (fun v hv => hl v (by simp [hv])), hl us (by simp)]
    simp [Nat.add_mul]; omega
theorem flatten_set {sz : Nat} : (vss : List (List Value)) → (∀ vs ∈ vss, vs.length = sz) → (i : Nat) → i < vss.length → (us : List Value) → us.length = sz → (vss.set i us).flatten = vss.flatten.take (i * sz) ++ us ++ vss.flatten.drop (i * sz + us.length)
  | [], _, i, hi, _, _ => by simp at hi
  | ws :: vss, hl, 0, _, us, hus => by
    have := hl ws (by simp)
    simp [List.drop_append, this, hus]
  | ws :: vss, hl, i + 1, hi, us, hus => by
    have hw := hl ws (by simp)
    have ih := flatten_set vss (fun v hv => hl v (by simp [hv])) i (by simpa using hi) us hus
    simp only [List.set_cons_succ, List.flatten_cons, ih]
    have e1 : (i + 1) * sz = ws.length + i * sz := by rw [Nat.add_mul]; omega
    have e2 : ws.length + i * sz + us.length = ws.length + (i * sz + us.length) := by omega
    rw [e1, e2, List.take_length_add_append, List.drop_length_add_append]
    simp
theorem zero_cells (z : Array Value) (n : Nat) : (Array.range (n * z.size)).map (fun i => z[i % z.size]!) = (List.replicate n z.toList).flatten.toArray := by
  apply Array.ext
  · simp [flatten_len (sz := z.size) (List.replicate n z.toList) (by simp)]
  · intro k h1 h2
    simp only [Array.size_map, Array.size_range] at h1
    have hz : 0 < z.size := by rcases Nat.eq_zero_or_pos z.size with h | h; · rw [h] at h1; simp at h1
                               · exact h
    have hd : k / z.size < n := Nat.div_lt_of_lt_mul (by rwa [Nat.mul_comm])
    have hm := Nat.mod_lt k hz
    have := flatten_get (sz := z.size) (List.replicate n z.toList) (by simp) (k / z.size) (k % z.size) (vs := z.toList) (by simp [hd]) hm
    rw [Nat.div_add_mod' k z.size] at this
    simp only [Array.getElem_map, Array.getElem_range]
    rw [getElem!_pos z (k % z.size) hm]
    have e : (List.replicate n z.toList).flatten[k]? = some z[k % z.size] := by rw [this]; simp [hm]
    obtain ⟨_, e'⟩ := List.getElem?_eq_some_iff.1 e
    simpa using e'.symm
section
variable {P : Program} {C : Cfg} (HC : TabOK P C)
theorem fillE_sem {sz : Nat} {E : Env} {h : Heap} {w : World} : ∀ (ps : List (Nat × AV)) (es : List (List AV)) (qs : List (Nat × Value)) (vss : List (List Value)), (∀ e ∈ es, e.length = sz) → es.length = vss.length → (∀ (k : Nat) (h1 : k < es.length) (h2 : k < vss.length), RepL E h w es[k] vss[k]) →
    (∀ p ∈ ps, p.1 < es.length ∧ p.2.ok = true ∧ p.2.cells.length = sz) → ps.length = qs.length → (∀ (i : Nat) (h1 : i < ps.length) (h2 : i < qs.length), ps[i].1 = qs[i].1 ∧ RepAV E h w ps[i].2 qs[i].2) →
    ∃ vss' : List (List Value), Instr.fill (fun i => some (i * sz, sz)) vss.flatten.toArray qs = some vss'.flatten.toArray ∧ (∀ e ∈ fillE es ps, e.length = sz) ∧ (fillE es ps).length = es.length ∧ (fillE es ps).length = vss'.length ∧ (∀ (k : Nat) (h1 : k < (fillE es ps).length) (h2 : k < vss'.length), RepL E h w (fillE es ps)[k] vss'[k])
  | [], es, [], vss, hes, hl, hr, _, _, _ => ⟨vss, rfl, hes, rfl, hl, hr⟩
  | p :: ps, es, q :: qs, vss, hes, hl, hr, hp, hpl, hq => by
    obtain ⟨hlt, hok, hcl⟩ := hp p (by simp)
    obtain ⟨e1, hrep⟩ := hq 0 (by simp) (by simp)
    simp only [List.getElem_cons_zero] at e1 hrep
    obtain ⟨h1, _⟩ := cells_rep hok hrep
    have hul : q.2.cells.toList.length = sz := by rw [← h1.length]; exact hcl
    have hvl : ∀ vs ∈ vss, vs.length = sz := by
      intro vs hvs
      obtain ⟨k, hk, rfl⟩ := List.getElem_of_mem hvs
      rw [← (hr k (by omega) hk).length]; exact hes _ (List.getElem_mem _)
    have ih := fillE_sem ps (es.set p.1 p.2.cells) qs (vss.set p.1 q.2.cells.toList) (fun e he => by
        rcases List.mem_or_eq_of_mem_set he with h' | h'
        · exact hes e h'
        · rw [h']; exact hcl) (by simpa using hl) (fun k h2 h3 => by
        simp only [List.getElem_set]
        split
        · exact h1
        · exact hr k (by simpa using h2) (by simpa using h3)) (fun p' hp' => by simpa using hp p' (by simp [hp'])) (by simpa using hpl) (fun i h2 h3 => hq (i + 1) (by simpa using h2) (by simpa using h3))
    obtain ⟨vss', h2, h3, h4, h5, h6⟩ := ih
    refine ⟨vss', ?_, h3, (show (fillE (es.set p.1 p.2.cells) ps).length = es.length by rw [h4, List.length_set]), h5, h6⟩
    have hlt' : p.1 < vss.length := by omega
    have hfl := flatten_len vss hvl
    have hle : p.1 * sz + sz ≤ vss.length * sz := by rw [← Nat.succ_mul]; exact Nat.mul_le_mul_right _ hlt'
    simp only [Instr.fill, ← e1]
    have hs : q.2.cells.size = sz := by simpa using hul
    rw [if_neg (by simp [hs, hfl]; omega)]
    rw [← h2]
    congr 1
    rw [flatten_set vss hvl p.1 hlt' _ hul]
    have hf := foldl_splice vss.flatten.toArray (p.1 * sz) q.2.cells.toList 0 (by simp only [Nat.add_zero, List.size_toArray, hfl, hul]; omega)
    simp only [Nat.add_zero] at hf
    rw [← hf, ← Array.foldl_toList, Array.toList_zipIdx]
  | [], _, _ :: _, _, _, _, _, _, hl, _ => by simp at hl
  | _ :: _, _, [], _, _, _, _, _, hl, _ => by simp at hl
theorem row_new {F : Fr} {E : Env} {h : Heap} {w : World} (H : Inv F E h w) {r : Nat} (hr : h.getD r none = none) (c : Cont) (hc : c.plain) (arr : Array Value) (ty : TypeId) (n : Nat) (hn : c.len ≤ n) (hfit : n * c.sz ≤ arr.size)
    (hels : ∀ i, i < c.len → ∃ cs vs, c.at? r i = some cs ∧ vs.length = c.sz ∧ RepL E h w cs vs ∧ ∀ (j : Nat) (hj : j < vs.length), arr[i * c.sz + j]? = some vs[j]) :
    ∃ E', Inv F E' (setH h r c) (w.alloc (.cells arr ty (0, 0))) ∧ Keep E h w E' (setH h r c) (w.alloc (.cells arr ty (0, 0))) ∧ RepAV E' (setH h r c) (w.alloc (.cells arr ty (0, 0))) (.own r none none) (.slice (some ⟨w.heap.size, 0, none⟩) c.len n) := by
  obtain ⟨E', h1, h2, h3⟩ := inv_new H hr c hc arr ty (Nat.le_trans (Nat.mul_le_mul_right _ hn) hfit) hels
  refine ⟨E', h1, h2, ?_⟩
  have hst : stat (setH h r c) r none = .on c := stat_root (by rw [getD_setH, if_pos rfl]) hc.ro.2
  simp only [RepAV]
  rw [own_on hst]
  exact ⟨by simp, .inr ⟨w.heap.size, n, ⟨w.heap.size, 0, none⟩, h3, rfl, hn, by simp, arr, ty, by show (w.heap.push _)[w.heap.size]? = _; simp, by simpa using hfit⟩⟩
theorem box_new {F : Fr} {E : Env} {h : Heap} {w : World} (H : Inv F E h w) {r : Nat} (hr : h.getD r none = none) {cs : List AV} {vs : List Value} (hrep : RepL E h w cs vs) (ty : TypeId) :
    ∃ E', Inv F E' (setH h r (.cells cs.length [cs])) (w.alloc (.cells vs.toArray ty (0, 0))) ∧ Keep E h w E' (setH h r (.cells cs.length [cs])) (w.alloc (.cells vs.toArray ty (0, 0))) ∧
      RepAV E' (setH h r (.cells cs.length [cs])) (w.alloc (.cells vs.toArray ty (0, 0))) (.ptr r none 0 0) (.pointer (some ⟨w.heap.size, 0, none⟩)) := by
  have hl := hrep.length
  obtain ⟨E', h1, h2, h3⟩ := inv_new H hr (.cells cs.length [cs]) trivial vs.toArray ty (by simp [Cont.len, Cont.sz, hl]) (fun i hi => by
    have : i = 0 := by simpa [Cont.len] using hi
    subst this
    exact ⟨cs, vs, rfl, by simp [Cont.sz, hl], hrep, fun j hj => by simp [hj]⟩)
  refine ⟨E', h1, h2, ?_⟩
  have hst : stat (setH h r (.cells cs.length [cs])) r none = .on (.cells cs.length [cs]) := stat_root (by rw [getD_setH, if_pos rfl]) (by simp)
  simp only [RepAV]
  rw [ptr_on hst]
  exact ⟨_, h3, by simp⟩
theorem box_sem {R : Type} {base : Nat} {s : St} {o : Oper} {t : TypeId} {x : Operand} {K : AV → Delta → Option R} {r : R} (ho : o.op = .box t x) (h : vopE C base s o K = some r) : ∃ v δ, K v δ = some r ∧ ∀ hp, SubH s.h hp → (∀ j, j < slots C o → hp.getD (base + j) none = none) → ESem P s.t hp o v δ := by
  have hx : x ∈ o.op.operands := by rw [ho]; simp [Op.operands]
  unfold vopE at h; simp only [ho] at h
  split at h
  · rename_i i hi
    split at h
    · rename_i hc
      refine ⟨_, _, h, fun hp hs hfree F E w a next Q hI hop hk => ?_⟩
      obtain ⟨hr, _⟩ := cells_rep hc.1 (hop x hx)
      obtain ⟨E', h1, h2, h3⟩ := box_new hI (by simpa using hfree 0 (by simp [slots, ho])) hr t
      rw [hc.2] at h1 h2 h3
      unfold Oper.wp
      have : (execOp a.eval o).run P w = .ok (.value (.pointer (some ⟨w.heap.size, 0, none⟩))) (w.alloc (.cells (a.eval x).cells.toList.toArray t (0, 0))) := by
        simp only [execOp, ho, Instr.box, newVar, newRow, Sem.run_bind, run_newObj, Result.andThen_ok, Sem.run_pure, Array.toArray_toList]; rfl
      rw [this]
      exact hk _ E' _ h1 h2 h3
    · cases h
  · cases h
include HC in
theorem alloc_sem {R : Type} {base : Nat} {s : St} {o : Oper} {t : TypeId} {K : AV → Delta → Option R} {r : R} (ho : o.op = .alloc t) (h : vopE C base s o K = some r) : ∃ v δ, K v δ = some r ∧ ∀ hp, SubH s.h hp → (∀ j, j < slots C o → hp.getD (base + j) none = none) → ESem P s.t hp o v δ := by
  unfold vopE at h; simp only [ho] at h
  split at h
  · rename_i i hi
    obtain ⟨inf, d, hinf, hund, hsize, hu, ⟨zv, hz1, hz2, hz3⟩, _⟩ := HC.ti t i hi
    have hrun : ∀ (w : World) (a : Act), (execOp a.eval o).run P w = .ok (.value (.pointer (some ⟨w.heap.size, 0, none⟩))) (w.alloc (.cells zv.cells.toList.toArray t (0, 0))) := by
      intro w a
      simp only [execOp, ho, Instr.alloc, zeroValue, typeInfo, newVar, newRow, Sem.run_bind, run_program, hinf, hz1, run_newObj, Result.andThen_ok, Sem.run_pure, Array.toArray_toList]; rfl
    split at h
    · rename_i n e he
      split at h
      case h_2 => cases h
      rename_i k _ _ _ hie
      split at h
      case h_2 => cases h
      rename_i ys hys
      refine ⟨_, _, h, fun hp hs hfree F E w a next Q hI hop hk => ?_⟩
      have hzero : RepL E hp w i.zero zv.cells.toList := by
        rw [hz2]
        exact RepL.of (by simp) (fun j h1 h2 => by simpa using rep_const _)
      rw [intsOf_spec hys] at hzero
      have hzz := ints_rep ys hzero
      have hyl : zv.cells.toList.length = ys.length := by rw [hzz]; simp
      obtain ⟨E', k1, k2, k3⟩ := inv_new hI (by simpa using hfree 0 (by simp [slots, ho])) (.lst false (.int k) ys) trivial zv.cells.toList.toArray t (by simp only [Cont.len, Cont.sz, Ty.size, Nat.mul_one, List.size_toArray]; omega) (fun j hj => by
        have hj : j < ys.length := hj
        refine ⟨[.pv (.int k) ys[j]], [.int k ys[j]], by simp [Cont.at?, hj, flat], by simp [Cont.sz, Ty.size], RepL.cons (mk_int k _) RepL.nil, fun m hm => ?_⟩
        have : m = 0 := by simpa using hm
        subst this
        simp only [Cont.sz, Ty.size, Nat.mul_one, Nat.add_zero, List.getElem?_toArray]
        rw [hzz]; simp [hj])
      unfold Oper.wp
      rw [hrun]
      refine hk _ E' _ k1 k2 ?_
      simp only [RepAV]
      show PtrAV E' (setH hp base (.lst false (.int k) ys)) base none 0 0 _
      rw [ptr_on (stat_root (by rw [getD_setH, if_pos rfl]) (by simp))]
      exact ⟨_, k3, by simp⟩
    refine ⟨_, _, h, fun hp hs hfree F E w a next Q hI hop hk => ?_⟩
    have hzero : RepL E hp w i.zero zv.cells.toList := by
      rw [hz2]
      exact RepL.of (by simp) (fun j h1 h2 => by simpa using rep_const _)
    obtain ⟨E', h1, h2, h3⟩ := box_new hI (by simpa using hfree 0 (by simp [slots, ho])) hzero t
    have hl := hzero.length
    have hls : i.zero.length = i.size := by rw [hl]; simpa using hz3
    rw [hls] at h1 h2 h3
    unfold Oper.wp
    rw [hrun]
    exact hk _ E' _ h1 h2 h3
  · cases h
theorem pack_ro {hp h : Heap} {E : Env} {w : World} (hs : SubH hp h) (H : HeapOK E h w) : PackOK (roH hp) E h w E.I :=
  ⟨fun _ hb => hb, hs.ro, .inr H, fun r c hc κ b n hι => by
    refine H.roI r κ b n hι ?_
    rw [getD_roH] at hc
    split at hc
    · rename_i c' hc'
      split at hc
      · rename_i hro
        obtain rfl : c' = c := by simpa using hc
        rcases hs r c' hc' (by rintro rfl; cases hro) with h1 | ⟨n, l, c'', rfl, _⟩
        · rw [roAt_of h1]; exact hro
        · cases hro
      · cases hc
    · cases hc⟩
theorem pack_nil {E : Env} {h : Heap} {w : World} : PackOK [] E h w E.I := ⟨fun _ hb => hb, SubH.nil h, .inl rfl, fun r c hc => by simp at hc⟩
theorem mkContK_spec {R : Type} {hp : Heap} {i : TI} {es : List (List AV)} {K : Cont → Option R} {r : R} (h : mkContK hp i es K = some r) : ∃ c, K c = some r ∧ c.len = es.length ∧ c.sz = i.size ∧ (c.plain ∨ ∃ t, c = .tree false 0 t [] none ∧ es = []) ∧
    ∀ h0, SubH hp h0 → ∀ (E : Env) (w : World), HeapOK E h0 w → ∀ (q k : Nat) (hk : k < es.length) vs, RepL E h0 w es[k] vs → ∃ cs, c.at? q k = some cs ∧ RepL E h0 w cs vs := by
  have hcells : K (.cells i.size es) = some r → ∃ c, K c = some r ∧ c.len = es.length ∧ c.sz = i.size ∧ (c.plain ∨ ∃ t, c = .tree false 0 t [] none ∧ es = []) ∧
      ∀ h0, SubH hp h0 → ∀ (E : Env) (w : World), HeapOK E h0 w → ∀ (q k : Nat) (hk : k < es.length) vs, RepL E h0 w es[k] vs → ∃ cs, c.at? q k = some cs ∧ RepL E h0 w cs vs := fun h =>
    ⟨_, h, rfl, rfl, .inl trivial, fun h0 _ E w _ q k hk vs hr => ⟨es[k], by simp [Cont.at?, hk], hr⟩⟩
  unfold mkContK at h
  split at h
  · rename_i t ht
    split at h
    · rename_i hsz
      split at h
      · rename_i he
        have he : es = [] := by simpa using he.2
        subst he
        exact ⟨_, h, rfl, hsz, .inr ⟨t, rfl, rfl⟩, fun h0 _ E w _ q k hk => absurd hk (Nat.not_lt_zero _)⟩
      · split at h
        · obtain ⟨xs, h1, h2, h3⟩ := packEsK_spec es h (fun e x => ∀ h0, SubH hp h0 → ∀ (E : Env) (w : World), HeapOK E h0 w → ∀ vs, RepL E h0 w e vs → RepC E.I w t x vs) (fun e _ K r hpk => by
            obtain ⟨x, rest, k1, k2⟩ := (packK_spec t).1 _ _ _ _ hpk
            refine ⟨x, rest, k1, fun hr h0 hs E w H vs hvs => ?_⟩
            subst hr
            obtain ⟨us, ws, rfl, k3, k4⟩ := k2 E h0 w E.I (pack_ro hs H) vs hvs
            simp only [RepL] at k4; subst k4
            rw [List.append_nil]; exact k3)
          exact ⟨_, h1, h2, hsz, .inl trivial, fun h0 hs E w H q k hk vs hr => ⟨flat t (xs[k]'(by omega)), by simp [Cont.at?, h2, hk], rep_flat t (h3 k (by omega) hk h0 hs E w H vs hr)⟩⟩
        · exact hcells h
    · exact hcells h
  · exact hcells h
include HC in
theorem buildSlice_run {T : List AV} {hp : Heap} {o : Oper} {t e : TypeId} {n : Nat} {ps : Array (Nat × Operand)} {ie : TI} (ho : o.op = .buildSlice t n ps) (hund : P.underlying t = some (.slice e)) (hie : C.info e = some ie)
    (hps : (ps.toList.all fun p => decide (p.1 < n) && (ev T p.2).ok && (ev T p.2).cells.length == ie.size) = true) (hlim : n * ie.size ≤ 16777216)
    {E : Env} {w : World} {ρ : Operand → Value} (hev : ∀ p ∈ ps.toList, RepAV E hp w (ev T p.2) (ρ p.2)) :
    ∃ arr : Array Value, (execOp ρ o).run P w = .ok (.value (.slice (some ⟨w.heap.size, 0, none⟩) n n)) (w.alloc (.cells arr e (0, 0))) ∧ n * ie.size = arr.size ∧
      (fillE (zeroEs n ie.zero) (ps.toList.map fun p => (p.1, ev T p.2))).length = n ∧
      ∀ i (hi : i < (fillE (zeroEs n ie.zero) (ps.toList.map fun p => (p.1, ev T p.2))).length), ∃ vs : List Value, vs.length = ie.size ∧ RepL E hp w (fillE (zeroEs n ie.zero) (ps.toList.map fun p => (p.1, ev T p.2)))[i] vs ∧
        ∀ (j : Nat) (hj : j < vs.length), arr[i * ie.size + j]? = some vs[j] := by
  have hte := HC.ti e ie hie
  obtain ⟨inf, _, hinf, _, hsize, _, ⟨zv, hz1, hz2, hz3⟩, _⟩ := hte
  have hzero : RepL E hp w ie.zero zv.cells.toList := by
    rw [hz2]
    exact RepL.of (by simp) (fun j h1 h2 => by simpa using rep_const _)
  have hzl : ie.zero.length = ie.size := by rw [hzero.length]; simpa using hz3
  obtain ⟨vss, h1, h2, h3, h4, h5⟩ := fillE_sem (sz := ie.size) (E := E) (h := hp) (w := w) (ps.toList.map fun p => (p.1, ev T p.2)) (zeroEs n ie.zero) (ps.toList.map fun p => (p.1, ρ p.2)) (List.replicate n zv.cells.toList)
    (fun e he => by simp only [zeroEs, List.mem_replicate] at he; rw [he.2]; exact hzl) (by simp [zeroEs]) (fun k h1 h2 => by simpa [zeroEs] using hzero)
    (fun p hp => by
      obtain ⟨p', hp', rfl⟩ := List.mem_map.1 hp
      have := List.all_eq_true.1 hps p' hp'
      simp only [Bool.and_eq_true, decide_eq_true_eq, beq_iff_eq] at this
      exact ⟨by simpa [zeroEs] using this.1.1, this.1.2, this.2⟩) (by simp) (fun i h1 h2 => by simp only [List.getElem_map, true_and]; exact hev _ (List.getElem_mem _))
  have hn : (fillE (zeroEs n ie.zero) (ps.toList.map fun p => (p.1, ev T p.2))).length = n := by rw [h3]; simp [zeroEs]
  have hvl : ∀ vs ∈ vss, vs.length = ie.size := by
    intro vs hvs
    obtain ⟨k, hk, rfl⟩ := List.getElem_of_mem hvs
    rw [← (h5 k (by omega) hk).length]; exact h2 _ (List.getElem_mem _)
  have hvn : vss.length = n := by rw [← h4, hn]
  have hfl := flatten_len vss hvl
  have hrun : (execOp ρ o).run P w = .ok (.value (.slice (some ⟨w.heap.size, 0, none⟩) n n)) (w.alloc (.cells vss.flatten.toArray e (0, 0))) := by
    have hzs : zv.cells.size = ie.size := hz3
    simp only [execOp, ho, Instr.buildSlice, Sem.run_bind, run_underlying hund, Result.andThen_ok, tiok_size (HC.ti e ie hie), Sem.run_ite]
    rw [if_neg (show ¬ n * ie.size > 2 ^ 24 by omega)]
    have hfill : Instr.fill (fun i => some (i * ie.size, ie.size)) ((Array.range (n * ie.size)).map fun i => (if n * ie.size = 0 then #[] else zv.cells)[i % (if n * ie.size = 0 then #[] else zv.cells).size]!) (ps.toList.map fun p => (p.1, ρ p.2)) = some vss.flatten.toArray := by
      rw [← h1]
      congr 1
      by_cases h0 : n * ie.size = 0
      · simp only [h0, if_true]
        have : (List.replicate n zv.cells.toList).flatten.length = 0 := by rw [flatten_len (sz := ie.size) _ (by simp [hzs])]; simpa using h0
        rw [List.eq_nil_of_length_eq_zero this]; simp
      · simp only [h0, if_false]
        rw [← zero_cells, hzs]
    by_cases h0 : n * ie.size = 0
    · simp only [h0, if_true, Sem.run_pure, Result.andThen_ok] at hfill ⊢
      have hps' : (ps.map fun p => (p.1, ρ p.2)).toList = ps.toList.map fun p => (p.1, ρ p.2) := by simp
      rw [hps', hfill]
      simp [newRow]
    · simp only [h0, if_false, Sem.run_bind, zeroValue, typeInfo, run_program, hinf, hz1, Sem.run_pure, Result.andThen_ok] at hfill ⊢
      have hps' : (ps.map fun p => (p.1, ρ p.2)).toList = ps.toList.map fun p => (p.1, ρ p.2) := by simp
      rw [hps', hfill]
      simp [newRow]
  refine ⟨vss.flatten.toArray, hrun, by simp [hfl, hvn], hn, fun i hi => ?_⟩
  have hi2 : i < vss.length := by omega
  refine ⟨vss[i], hvl _ (List.getElem_mem _), h5 i hi hi2, fun j hj => ?_⟩
  have hj' : j < ie.size := by rw [← hvl _ (List.getElem_mem hi2)]; exact hj
  rw [List.getElem?_toArray, flatten_get vss hvl i j (List.getElem?_eq_getElem hi2) hj']
  simp [hj]
theorem tree_empty {F : Fr} {E : Env} {h : Heap} {w : World} (H : Inv F E h w) {r : Nat} (hr : h.getD r none = none) (t : Ty) (arr : Array Value) (ty : TypeId) (n : Nat) (hfit : n * t.size ≤ arr.size) :
    ∃ E', Inv F E' (setH h r (.tree false 0 t [] none)) (w.alloc (.cells arr ty (0, 0))) ∧ Keep E h w E' (setH h r (.tree false 0 t [] none)) (w.alloc (.cells arr ty (0, 0))) ∧ RepAV E' (setH h r (.tree false 0 t [] none)) (w.alloc (.cells arr ty (0, 0))) (.own r none none) (.slice (some ⟨w.heap.size, 0, none⟩) 0 n) := by
  have hold : ∀ b, b < w.heap.size → (w.alloc (.cells arr ty (0, 0))).heap[b]? = w.heap[b]? := fun b hb => Below.heap_alloc w _ b hb
  have hnew : (w.alloc (.cells arr ty (0, 0))).heap[w.heap.size]? = some (.cells arr ty (0, 0)) := by show (w.heap.push _)[w.heap.size]? = _; simp
  have hsize : (w.alloc (.cells arr ty (0, 0))).heap.size = w.heap.size + 1 := by show (w.heap.push _).size = _; simp
  obtain ⟨E', h1, h2, h3⟩ := inv_tree H (r := r) (ver := 0) (t := t) (xs := []) (K := fun _ => False) (fun q hq => hq.elim) (h' := setH h r (.tree false 0 t [] none)) (by rw [getD_setH, if_pos rfl]) (fun q hq => hq.elim) (fun q hq _ => by rw [getD_setH, if_neg hq]) hnew (fun k _ hk => hold k hk) (.inl hr) (.inr (Nat.le_refl _)) (by omega) (by omega) rfl rfl ⟨rfl, Nat.le_refl _⟩ (by simp) (fun _ => none) (fun p b' n' e => by cases e) (fun p p' b' n n' e => by cases e) (fun i hi => absurd hi (Nat.not_lt_zero _))
  refine ⟨E', h1, h2, ?_⟩
  simp only [RepAV]
  rw [own_on (stat_tree (by rw [getD_setH, if_pos rfl]))]
  exact ⟨by simp [Cont.len], .inr ⟨w.heap.size, n, ⟨w.heap.size, 0, none⟩, h3, rfl, Nat.zero_le _, by simp, arr, ty, hnew, by simpa [Cont.sz, Cont.len] using hfit⟩⟩
include HC in
theorem buildSlice_sem {R : Type} {base : Nat} {s : St} {o : Oper} {t : TypeId} {n : Nat} {ps : Array (Nat × Operand)} {K : AV → Delta → Option R} {r : R} (ho : o.op = .buildSlice t n ps) (h : vopE C base s o K = some r) : ∃ v δ, K v δ = some r ∧ ∀ hp, SubH s.h hp → (∀ j, j < slots C o → hp.getD (base + j) none = none) → ESem P s.t hp o v δ := by
  unfold vopE at h; simp only [ho] at h
  split at h
  · rename_i size e code zero lim hti
    obtain ⟨_, d, _, hund, _, hu, _⟩ := HC.ti t _ hti
    simp only [UndOK] at hu; subst hu
    split at h
    · rename_i ie hie
      split at h
      · rename_i hc
        simp only [Bool.and_eq_true, decide_eq_true_eq] at hc
        obtain ⟨hps, hlim⟩ := hc
        obtain ⟨c, hK, hcl, hcs, hcp, hcat⟩ := mkContK_spec h
        refine ⟨_, _, hK, fun hp hs hfree F E w a next Q hI hop hk => ?_⟩
        have hfree := hfree 0 (by simp [slots, ho])
        rw [Nat.add_zero] at hfree
        obtain ⟨arr, hrun, hasz, hfl, hels⟩ := buildSlice_run HC ho hund hie hps hlim (E := E) (w := w) (ρ := a.eval) (fun p hpm => hop p.2 (by rw [ho]; simp only [Op.operands]; exact List.mem_toArray.2 (List.mem_map.2 ⟨p, hpm, rfl⟩)))
        unfold Oper.wp
        rw [hrun]
        rcases hcp with hcp | ⟨t', rfl, hes⟩
        · obtain ⟨E', q1, q2, q3⟩ := row_new hI hfree c hcp arr e n (by rw [hcl, hfl]; exact Nat.le_refl _) (by rw [hcs, hasz]; exact Nat.le_refl _) (fun i hi => by
            obtain ⟨vs, h1, h2, h3⟩ := hels i (by rw [← hcl]; exact hi)
            obtain ⟨cs, h4, h5⟩ := hcat hp hs E w hI.heap base i (by rw [← hcl]; exact hi) vs h2
            exact ⟨cs, vs, h4, by rw [hcs]; exact h1, h5, fun j hj => by rw [hcs]; exact h3 j hj⟩)
          rw [hcl, hfl] at q3
          exact hk _ E' _ q1 q2 q3
        · rw [hes] at hfl
          have hn0 : n = 0 := by simpa using hfl.symm
          obtain ⟨E', q1, q2, q3⟩ := tree_empty hI hfree t' arr e n (by rw [hn0]; simp)
          rw [hn0] at q3 ⊢
          exact hk _ E' _ q1 q2 q3
      · cases h
    · cases h
  · cases h
end
end Go.Ab
