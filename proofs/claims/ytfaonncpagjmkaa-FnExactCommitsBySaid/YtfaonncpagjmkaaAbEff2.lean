import Derived.Test.YtfaonncpagjmkaaAbEff
import Derived.Laws.MakeOwn
set_option linter.unnecessarySimpa false
set_option linter.unusedVariables false
set_option linter.unusedSimpArgs false
namespace Go.Ab
open Go.RowKit

theorem flatten_get {sz : Nat} : (vss : List (List Value)) → (∀ vs ∈ vss, vs.length = sz) → (i j : Nat) → {vs : List Value} → vss[i]? = some vs → j < sz → vss.flatten[i * sz + j]? = vs[j]?
  | [], _, i, j, vs, h, _ => by simp at h
  | us :: vss, hl, 0, j, vs, h, hj => by
    simp at h; subst h
    have := hl us (by simp)
    simp only [List.flatten_cons, Nat.zero_mul, Nat.zero_add]
    rw [List.getElem?_append_left (by omega)]
  | us :: vss, hl, i + 1, j, vs, h, hj => by
    have := hl us (by simp)
    simp only [List.flatten_cons]
    rw [List.getElem?_append_right (by rw [Nat.add_mul]; omega)]
    have e : (i + 1) * sz + j - us.length = i * sz + j := by rw [Nat.add_mul]; omega
    rw [e]
    exact flatten_get vss (fun v hv => hl v (by simp [hv])) i j (by simpa using h) hj
theorem flatten_len {sz : Nat} : (vss : List (List Value)) → (∀ vs ∈ vss, vs.length = sz) → vss.flatten.length = vss.length * sz
  | [], _ => by simp
  | us :: vss, hl => by
    rw [List.flatten_cons, List.length_append, flatten_len vss (fun v hv => hl v (by simp [hv])), hl us (by simp)]
    simp [Nat.add_mul]; omega
theorem flatten_set {sz : Nat} : (vss : List (List Value)) → (∀ vs ∈ vss, vs.length = sz) → (i : Nat) → i < vss.length → (us : List Value) → us.length = sz → (vss.set i us).flatten = vss.flatten.take (i * sz) ++ us ++ vss.flatten.drop (i * sz + us.length)
  | [], _, i, hi, _, _ => by simp at hi
  | ws :: vss, hl, 0, _, us, hus => by
    have := hl ws (by simp)
    simp [List.drop_append, this, hus]
  | ws :: vss, hl, i + 1, hi, us, hus => by
    have hw := hl ws (by simp)
    have ih := flatten_set vss (fun v hv => hl v (by simp [hv])) i (by simpa using hi) us hus
    simp only [List.set_cons_succ, List.flatten_cons, ih]
    have e1 : (i + 1) * sz = ws.length + i * sz := by rw [Nat.add_mul]; omega
    have e2 : ws.length + i * sz + us.length = ws.length + (i * sz + us.length) := by omega
    rw [e1, e2, List.take_length_add_append, List.drop_length_add_append]
    simp

theorem zero_cells (z : Array Value) (n : Nat) : (Array.range (n * z.size)).map (fun i => z[i % z.size]!) = (List.replicate n z.toList).flatten.toArray := by
  apply Array.ext
  · simp [flatten_len (sz := z.size) (List.replicate n z.toList) (by simp)]
  · intro k h1 h2
    simp only [Array.size_map, Array.size_range] at h1
    have hz : 0 < z.size := by rcases Nat.eq_zero_or_pos z.size with h | h; · rw [h] at h1; simp at h1
                               · exact h
    have hd : k / z.size < n := Nat.div_lt_of_lt_mul (by rwa [Nat.mul_comm])
    have hm := Nat.mod_lt k hz
    have := flatten_get (sz := z.size) (List.replicate n z.toList) (by simp) (k / z.size) (k % z.size) (vs := z.toList) (by simp [hd]) hm
    rw [Nat.div_add_mod' k z.size] at this
    simp only [Array.getElem_map, Array.getElem_range]
    rw [getElem!_pos z (k % z.size) hm]
    have e : (List.replicate n z.toList).flatten[k]? = some z[k % z.size] := by rw [this]; simp [hm]
    obtain ⟨_, e'⟩ := List.getElem?_eq_some_iff.1 e
    simpa using e'.symm

section
variable {P : Program} {C : Cfg} (HC : CfgOK P C)

theorem fillE_sem {sz : Nat} {E : Env} {h : List (Option Cont)} {w : World} : ∀ (ps : List (Nat × AV)) (es : List (List AV)) (qs : List (Nat × Value)) (vss : List (List Value)), (∀ e ∈ es, e.length = sz) → es.length = vss.length → (∀ (k : Nat) (h1 : k < es.length) (h2 : k < vss.length), RepL E h w es[k] vss[k]) →
    (∀ p ∈ ps, p.1 < es.length ∧ p.2.ok = true ∧ p.2.cells.length = sz) → ps.length = qs.length → (∀ (i : Nat) (h1 : i < ps.length) (h2 : i < qs.length), ps[i].1 = qs[i].1 ∧ RepAV E h w ps[i].2 qs[i].2) →
    ∃ vss' : List (List Value), Instr.fill (fun i => some (i * sz, sz)) vss.flatten.toArray qs = some vss'.flatten.toArray ∧ (∀ e ∈ fillE es ps, e.length = sz) ∧ (fillE es ps).length = es.length ∧ (fillE es ps).length = vss'.length ∧ (∀ (k : Nat) (h1 : k < (fillE es ps).length) (h2 : k < vss'.length), RepL E h w (fillE es ps)[k] vss'[k])
  | [], es, [], vss, hes, hl, hr, _, _, _ => ⟨vss, rfl, hes, rfl, hl, hr⟩
  | p :: ps, es, q :: qs, vss, hes, hl, hr, hp, hpl, hq => by
    obtain ⟨hlt, hok, hcl⟩ := hp p (by simp)
    obtain ⟨e1, hrep⟩ := hq 0 (by simp) (by simp)
    simp only [List.getElem_cons_zero] at e1 hrep
    obtain ⟨h1, _⟩ := cells_rep hok hrep
    have hul : q.2.cells.toList.length = sz := by rw [← h1.length]; exact hcl
    have hvl : ∀ vs ∈ vss, vs.length = sz := by
      intro vs hvs
      obtain ⟨k, hk, rfl⟩ := List.getElem_of_mem hvs
      rw [← (hr k (by omega) hk).length]; exact hes _ (List.getElem_mem _)
    have ih := fillE_sem ps (es.set p.1 p.2.cells) qs (vss.set p.1 q.2.cells.toList) (fun e he => by
        rcases List.mem_or_eq_of_mem_set he with h' | h'
        · exact hes e h'
        · rw [h']; exact hcl) (by simpa using hl) (fun k h2 h3 => by
        simp only [List.getElem_set]
        split
        · exact h1
        · exact hr k (by simpa using h2) (by simpa using h3)) (fun p' hp' => by simpa using hp p' (by simp [hp'])) (by simpa using hpl) (fun i h2 h3 => hq (i + 1) (by simpa using h2) (by simpa using h3))
    obtain ⟨vss', h2, h3, h4, h5, h6⟩ := ih
    refine ⟨vss', ?_, h3, (show (fillE (es.set p.1 p.2.cells) ps).length = es.length by rw [h4, List.length_set]), h5, h6⟩
    have hlt' : p.1 < vss.length := by omega
    have hfl := flatten_len vss hvl
    have hle : p.1 * sz + sz ≤ vss.length * sz := by rw [← Nat.succ_mul]; exact Nat.mul_le_mul_right _ hlt'
    simp only [Instr.fill, ← e1]
    have hs : q.2.cells.size = sz := by simpa using hul
    rw [if_neg (by simp [hs, hfl]; omega)]
    rw [← h2]
    congr 1
    rw [flatten_set vss hvl p.1 hlt' _ hul]
    have hf := foldl_splice vss.flatten.toArray (p.1 * sz) q.2.cells.toList 0 (by simp only [Nat.add_zero, List.size_toArray, hfl, hul]; omega)
    simp only [Nat.add_zero] at hf
    rw [← hf, ← Array.foldl_toList, Array.toList_zipIdx]
  | [], _, _ :: _, _, _, _, _, _, hl, _ => by simp at hl
  | _ :: _, _, [], _, _, _, _, _, hl, _ => by simp at hl

/-- A new row. -/
theorem row_new {I0 : Nat → Prop} {w0 : World} {E : Env} {h : List (Option Cont)} {w : World} (H : Inv I0 w0 E h w) (c : Cont) (arr : Array Value) (ty : TypeId) (cap : Nat) (hcap : c.len ≤ cap) (harr : cap * c.sz ≤ arr.size)
    (hels : ∀ i, i < c.len → ∃ cs vs, c.at? i = some cs ∧ vs.length = c.sz ∧ RepL E h w cs vs ∧ ∀ (j : Nat) (hj : j < vs.length), arr[i * c.sz + j]? = some vs[j]) :
    ∃ E', Inv I0 w0 E' (h ++ [some c]) (w.alloc (.cells arr ty (0, 0))) ∧ Grow E h w E' (h ++ [some c]) (w.alloc (.cells arr ty (0, 0))) ∧
      RepAV E' (h ++ [some c]) (w.alloc (.cells arr ty (0, 0))) (.own h.length none) (.slice (some ⟨w.heap.size, 0, none⟩) c.len cap) := by
  obtain ⟨E', h1, h2, h3⟩ := inv_new H c arr ty (Nat.le_trans (Nat.mul_le_mul_right _ hcap) harr) hels
  refine ⟨E', h1, h2, ?_⟩
  simp only [RepAV, OwnRep]
  refine ⟨c, by rw [getD_snoc]; simp, by simp, .inr ⟨w.heap.size, 0, c.sz, cap, ⟨w.heap.size, 0, none⟩, h3, by simp, by simpa using hcap, by simp, arr, ty, by show (w.heap.push _)[w.heap.size]? = _; simp, by simpa using harr⟩⟩

include HC in
theorem buildSlice_sem {R : Type} {s : St} {o : Oper} {t : TypeId} {n : Nat} {ps : Array (Nat × Operand)} {K : AV → St → Option R} {r : R} (ho : o.op = .buildSlice t n ps) (h : vopE C s o K = some r) : ∃ v s', K v s' = some r ∧ ESem P s o v s' := by
  unfold vopE at h; simp only [ho] at h
  split at h
  · rename_i size e code zero lim hti
    obtain ⟨_, d, _, hund, _, hu, _⟩ := HC.ti t _ hti
    simp only [UndOK] at hu; subst hu
    split at h
    · rename_i ie hie
      have hte := HC.ti e ie hie
      obtain ⟨inf, _, hinf, _, hsize, _, ⟨zv, hz1, hz2, hz3⟩, _⟩ := hte
      split at h
      · rename_i hc
        simp only [Bool.and_eq_true, decide_eq_true_eq] at hc
        obtain ⟨hps, hlim⟩ := hc
        refine ⟨_, _, h, fun I0 w0 E w a next Q hI ht hk => ?_⟩
        have hzero : RepL E s.h w ie.zero zv.cells.toList := by
          rw [hz2]
          exact RepL.of (by simp) (fun j h1 h2 => by simpa using rep_const _)
        have hzl : ie.zero.length = ie.size := by rw [hzero.length]; simpa using hz3
        obtain ⟨vss, h1, h2, h3, h4, h5⟩ := fillE_sem (sz := ie.size) (E := E) (h := s.h) (w := w) (ps.toList.map fun p => (p.1, ev s.t p.2)) (zeroEs n ie.zero) (ps.toList.map fun p => (p.1, a.eval p.2)) (List.replicate n zv.cells.toList)
          (fun e he => by simp only [zeroEs, List.mem_replicate] at he; rw [he.2]; exact hzl) (by simp [zeroEs]) (fun k h1 h2 => by simpa [zeroEs] using hzero)
          (fun p hp => by
            obtain ⟨p', hp', rfl⟩ := List.mem_map.1 hp
            have := List.all_eq_true.1 hps p' hp'
            simp only [Bool.and_eq_true, decide_eq_true_eq, beq_iff_eq] at this
            exact ⟨by simpa [zeroEs] using this.1.1, this.1.2, this.2⟩) (by simp) (fun i h1 h2 => by simp only [List.getElem_map, true_and]; exact ht.eval _)
        have hn : (fillE (zeroEs n ie.zero) (ps.toList.map fun p => (p.1, ev s.t p.2))).length = n := by rw [h3]; simp [zeroEs]
        obtain ⟨hk1, hk2, hk3⟩ := mkCont_spec (i := ie) (es := fillE (zeroEs n ie.zero) (ps.toList.map fun p => (p.1, ev s.t p.2))) h2 (E := E) (h := s.h) (w := w) h4 h5
        have hvl : ∀ vs ∈ vss, vs.length = ie.size := by
          intro vs hvs
          obtain ⟨k, hk, rfl⟩ := List.getElem_of_mem hvs
          rw [← (h5 k (by omega) hk).length]; exact h2 _ (List.getElem_mem _)
        have hvn : vss.length = n := by rw [← h4, hn]
        have hfl := flatten_len vss hvl
        obtain ⟨E', q1, q2, q3⟩ := row_new hI (mkCont ie (fillE (zeroEs n ie.zero) (ps.toList.map fun p => (p.1, ev s.t p.2)))) vss.flatten.toArray e n (by rw [hk1, hn]; exact Nat.le_refl _) (by rw [hk2]; simp [hfl, hvn]) (fun i hi => by
          rw [hk1] at hi
          obtain ⟨cs, vs, e1, e2, e3, e4⟩ := hk3 i hi
          refine ⟨cs, vs, e1, by rw [hk2]; exact e3, e4, fun j hj => ?_⟩
          rw [hk2, List.getElem?_toArray, flatten_get vss hvl i j e2 (by omega)]
          simp [hj])
        rw [hk1, hn] at q3
        unfold Oper.wp
        have : (execOp a.eval o).run P w = .ok (.value (.slice (some ⟨w.heap.size, 0, none⟩) n n)) (w.alloc (.cells vss.flatten.toArray e (0, 0))) := by
          have hzs : zv.cells.size = ie.size := hz3
          simp only [execOp, ho, Instr.buildSlice, Sem.run_bind, run_underlying hund, Result.andThen_ok, tiok_size (HC.ti e ie hie), Sem.run_ite]
          rw [if_neg (show ¬ n * ie.size > 2 ^ 24 by omega)]
          have hfill : Instr.fill (fun i => some (i * ie.size, ie.size)) ((Array.range (n * ie.size)).map fun i => (if n * ie.size = 0 then #[] else zv.cells)[i % (if n * ie.size = 0 then #[] else zv.cells).size]!) (ps.toList.map fun p => (p.1, a.eval p.2)) = some vss.flatten.toArray := by
            rw [← h1]
            congr 1
            by_cases h0 : n * ie.size = 0
            · simp only [h0, if_true]
              have : (List.replicate n zv.cells.toList).flatten.length = 0 := by rw [flatten_len (sz := ie.size) _ (by simp [hzs])]; simpa using h0
              rw [List.eq_nil_of_length_eq_zero this]; simp
            · simp only [h0, if_false]
              rw [← zero_cells, hzs]
          by_cases h0 : n * ie.size = 0
          · simp only [h0, if_true, Sem.run_pure, Result.andThen_ok] at hfill ⊢
            have hps' : (ps.map fun p => (p.1, a.eval p.2)).toList = ps.toList.map fun p => (p.1, a.eval p.2) := by simp
            rw [hps', hfill]
            simp [newRow]
          · simp only [h0, if_false, Sem.run_bind, zeroValue, typeInfo, run_program, hinf, hz1, Sem.run_pure, Result.andThen_ok] at hfill ⊢
            have hps' : (ps.map fun p => (p.1, a.eval p.2)).toList = ps.toList.map fun p => (p.1, a.eval p.2) := by simp
            rw [hps', hfill]
            simp [newRow]
        rw [this]
        exact hk _ E' _ q1 (ht.grow q2) q3
      · cases h
    · cases h
  · cases h
end
end Go.Ab
