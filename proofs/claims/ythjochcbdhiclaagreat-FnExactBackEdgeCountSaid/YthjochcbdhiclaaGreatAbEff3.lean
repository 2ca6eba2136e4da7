import Derived.Test.YthjochcbdhiclaaGreatAbEff2
set_option linter.unnecessarySimpa false
set_option linter.unusedVariables false
set_option linter.unusedSimpArgs false
namespace Go.Ab
open Go.RowKit
theorem RepL.getAt {E : Env} {h : Heap} {w : World} {cs : List AV} {vs : List Value} (hr : RepL E h w cs vs) (j : Nat) (h1 : j < cs.length) (h2 : j < vs.length) : RepAV E h w cs[j] vs[j] := by
  obtain ⟨v, h3, h4⟩ := hr.get j (List.getElem?_eq_getElem h1)
  rw [List.getElem?_eq_getElem h2] at h3
  obtain rfl : vs[j] = v := by simpa using h3
  exact h4
theorem plant_src {E : Env} {h hp : Heap} {w : World} (hs : SubH hp h) {c d f : AV} {v : Value} {i k : Nat} {σ : Nat × Nat → Option (Nat × Nat)} (hp' : PlantIs hp c d) (hc : CellIs d f) (hr : RepAV E h w c v)
    (hσ : ∀ q, c = .own q none none → σ (i, k) = E.ι q none) (hn : c = .nils → σ (i, k) = none) : CellSrc E h w σ i k f v := by
  rcases hp' with ⟨q, u, ys, rfl, hq, rfl⟩ | ⟨rfl, rfl⟩ | ⟨t, x, rfl, ht, rfl⟩
  · rcases hc with rfl | ⟨e, _⟩
    · simp only [RepAV] at hr
      have hst : stat h q none = .on (.lst false u ys) := by
        rcases hs q _ hq (by simp) with h1 | ⟨n, l, c', e, _⟩
        · exact stat_root h1 (by simp)
        · cases e
      rw [own_on hst] at hr
      exact .inl ⟨q, none, hst, (hσ q rfl).symm, hr⟩
    · cases e
  · rcases hc with rfl | ⟨_, u, rfl⟩
    · exact hr
    · simp only [RepAV] at hr
      exact .inr ⟨rfl, hn rfl, hr⟩
  · rcases hc with rfl | ⟨e, _⟩
    · cases t <;> first | exact hr | (simp [Ty.scalar] at ht)
    · cases e
section
variable {P : Program} {C : Cfg} (HC : TabOK P C)
theorem slotsFree_plant {h : Heap} : (cs : List AV) → slotsFree cs = true → (∀ c ∈ cs, ∀ q, c ≠ AV.own q none none) → plantC h cs = some cs
  | [], _, _ => rfl
  | c :: cs, hs, hn => by
    cases c with
    | nils =>
      simp only [slotsFree] at hs
      simp only [plantC, slotsFree_plant cs hs (fun c hc => hn c (by simp [hc]))]
    | pv t x =>
      simp only [slotsFree, Bool.and_eq_true] at hs
      simp only [plantC, slotsFree_plant cs hs.2 (fun c hc => hn c (by simp [hc])), hs.1, if_true]
    | own q s rg =>
      cases s with
      | none => cases rg with
        | none => exact absurd rfl (hn _ (List.mem_cons_self ..) q)
        | some p => simp [slotsFree] at hs
      | some p => simp [slotsFree] at hs
    | _ => simp [slotsFree] at hs
include HC in
theorem makeSlice_sem {R : Type} {base : Nat} {s : St} {o : Oper} {t : TypeId} {l c : Operand} {K : AV → Delta → Option R} {r : R} (ho : o.op = .makeSlice t l c) (h : vopE C base s o K = some r) : ∃ v δ, K v δ = some r ∧ ∀ hp, SubH s.h hp → (∀ j, j < slots C o → hp.getD (base + j) none = none) → ESem P s.t hp o v δ := by
  have hlo : l ∈ o.op.operands := by rw [ho]; simp [Op.operands]
  have hco : c ∈ o.op.operands := by rw [ho]; simp [Op.operands]
  unfold vopE at h; simp only [ho] at h
  split at h
  case h_2 => cases h
  rename_i size e code zero lim n m hti hn hm
  obtain ⟨_, d, _, hund, _, hu, _⟩ := HC.ti t _ hti
  simp only [UndOK] at hu; subst hu
  split at h
  case h_2 => cases h
  rename_i ie hie
  have hte := HC.ti e ie hie
  obtain ⟨inf, _, hinf, _, hsize, _, ⟨zv, hz1, hz2, hz3⟩, hlim1, hlim2⟩ := hte
  split at h
  case isFalse => cases h
  rename_i hb
  split at h
  case h_2 => cases h
  rename_i u hu
  obtain ⟨hb0, hb1, hb2⟩ := hb
  let N := n.toNat
  let M := m.toNat
  have hM : (M : Int) = m := Int.toNat_of_nonneg (by omega)
  have hN : (N : Int) = n := Int.toNat_of_nonneg hb0
  have hzero : ∀ (E : Env) (hp : Heap) (w : World), RepL E hp w ie.zero zv.cells.toList := by
    intro E hp w
    rw [hz2]
    exact RepL.of (by simp) (fun j h1 h2 => by simpa using rep_const _)
  have hzc : ∀ c ∈ ie.zero, ∀ q, c ≠ AV.own q none none := by
    intro c hc q e
    rw [hz2] at hc
    obtain ⟨v, _, rfl⟩ := List.mem_map.1 hc
    unfold AV.const at e
    split at e <;> cases e
  have run : ∀ (hp : Heap) (E : Env) (w : World) (a : Act), (∀ x ∈ o.op.operands, RepAV E hp w (ev s.t x) (a.eval x)) → (execOp a.eval o).run P w = .ok (.value (.slice (some ⟨w.heap.size, 0, none⟩) N M)) (w.alloc (.cells (List.replicate M zv.cells.toList).flatten.toArray e (0, 0))) := by
    intro hp E w a hop
    have e1 := hop l hlo; rw [isInt_spec hn] at e1; have e1 := rep_int e1
    have e2 := hop c hco; rw [isInt_spec hm] at e2; have e2 := rep_int e2
    have hw1 : IntKind.i64.wrap n = n := by exact IntWalk.i64_in _ (by omega)
    have hw2 : IntKind.i64.wrap m = m := by exact IntWalk.i64_in _ (by omega)
    have hbytes : (inf.bytes : Int) * m ≤ 281474976710656 := by
      have h1 : M * inf.bytes ≤ ie.lim * inf.bytes := Nat.mul_le_mul_right _ (by omega)
      have h2 : ((M * inf.bytes : Nat) : Int) = (inf.bytes : Int) * m := by rw [← hM]; simp [Int.mul_comm]
      omega
    simp only [execOp, ho, e1, e2, Instr.makeSlice, Sem.run_bind, run_underlying hund, Result.andThen_ok, asInt, asIntOf, Sem.run_pure, typeInfo, run_program, hinf, Sem.run_ite, hw1, hw2]
    have h48 : (2 : Int) ^ 48 = 281474976710656 := by decide
    rw [if_neg (by simp only [h48, Bool.or_eq_true, decide_eq_true_eq]; omega)]
    simp only [run_askRoom, Result.andThen_ok, tiok_size (HC.ti e ie hie)]
    have hz := zero_cells zv.cells M
    rw [hz3] at hz
    have hMn : m.toNat = M := rfl
    have hNn : n.toNat = N := rfl
    by_cases h0 : M * ie.size = 0
    · simp only [hMn, hNn, h0, if_true, Sem.run_pure, Result.andThen_ok, newRow, Sem.run_bind, run_newObj]
      rw [h0] at hz
      rw [← hz]
      simp [show Array.range 0 = #[] from rfl]
    · simp only [hMn, hNn, h0, if_false, Sem.run_bind, zeroValue, typeInfo, run_program, hinf, hz1, Sem.run_pure, Result.andThen_ok, newRow, run_newObj, hz3]
      rw [hz]; simp
  have harr : ((List.replicate M zv.cells.toList).flatten).length = M * ie.size := by
    rw [flatten_len (sz := ie.size) _ (by simp [hz3])]; simp
  have hget : ∀ i j, i < N → j < ie.size → ((List.replicate M zv.cells.toList).flatten.toArray)[i * ie.size + j]? = zv.cells.toList[j]? := by
    intro i j hi hj
    rw [List.getElem?_toArray, flatten_get (sz := ie.size) (List.replicate M zv.cells.toList) (by intro vs hvs; rw [(List.mem_replicate.1 hvs).2]; simpa using hz3) i j (vs := zv.cells.toList) (by rw [List.getElem?_replicate, if_pos (by omega)]) hj]
  split at h
  case isFalse => cases h
  rename_i husz
  split at h
  · -- with slices
    rename_i hsl
    split at h
    case isFalse => cases h
    rename_i hfree0
    have hpl := slotsFree_plant (h := []) _ hfree0 hzc
    obtain ⟨z, hK, hzl, hcell⟩ := pack_all h (plantC_pv hpl)
    refine ⟨_, _, hK, fun hp hs hfree F E w a next Q hI hop hk => ?_⟩
    have hfree := hfree 0 (by simp [slots, ho])
    rw [Nat.add_zero] at hfree
    unfold Oper.wp
    rw [run hp E w a hop]
    obtain ⟨_, hpis⟩ := plantC_spec _ hpl
    have hzv : zv.cells.toList.length = ie.size := by simpa using hz3
    have hold : ∀ b, b < w.heap.size → (w.alloc (.cells (List.replicate M zv.cells.toList).flatten.toArray e (0, 0))).heap[b]? = w.heap[b]? := fun b hb => Below.heap_alloc w _ b hb
    have hnew : (w.alloc (.cells (List.replicate M zv.cells.toList).flatten.toArray e (0, 0))).heap[w.heap.size]? = some (.cells (List.replicate M zv.cells.toList).flatten.toArray e (0, 0)) := by show (w.heap.push _)[w.heap.size]? = _; simp
    have hsize2 : (w.alloc (.cells (List.replicate M zv.cells.toList).flatten.toArray e (0, 0))).heap.size = w.heap.size + 1 := by show (w.heap.push _).size = _; simp
    have hNM : N * u.size ≤ M * ie.size := by rw [husz]; exact Nat.mul_le_mul_right _ (by omega)
    obtain ⟨E', h1, h2, h3⟩ := inv_tree hI (r := base) (ver := 0) (t := u) (xs := List.replicate N z) (K := fun _ => False) (fun q hq => hq.elim) (h' := setH hp base (.tree false 0 u (List.replicate N z) none)) (by rw [getD_setH, if_pos rfl]) (fun q hq => hq.elim) (fun q hq _ => by rw [getD_setH, if_neg hq]) hnew (fun k _ hk => hold k hk) (.inl hfree) (.inr (Nat.le_refl _)) (by omega) (by omega) rfl rfl ⟨rfl, Nat.le_refl _⟩ (by rw [List.size_toArray, harr, List.length_replicate]; exact hNM) (fun _ => none) (fun p b' n' e => by cases e) (fun p p' b' n n' e => by cases e) (fun i hi => by
      have hiN : i < N := by simpa using hi
      refine ⟨zv.cells.toList, ?_, fun j hj => ?_⟩
      · simp only [List.getElem_replicate]
        refine SrcL.of (by rw [flat_len, husz, hzv]) fun j hj1 hj2 => ?_
        have hj0 : j < ie.zero.length := by rw [hzl, ← flat_len (x := z)]; exact hj1
        exact plant_src (SubH.nil hp) (hpis j hj0 hj0) (hcell j hj0 hj1) ((hzero E hp w).getAt j hj0 hj2) (fun q e => absurd e (hzc _ (List.getElem_mem _) q)) (fun _ => rfl)
      · rw [husz, hget i j hiN (by rw [← hzv]; exact hj)]
        simp)
    refine hk _ E' _ h1 h2 ?_
    simp only [RepAV]
    show OwnAV E' (setH hp base (.tree false 0 u (List.replicate N z) none)) _ base none none _
    rw [own_on (stat_tree (by rw [getD_setH, if_pos rfl]))]
    refine ⟨by simp [Cont.len], .inr ⟨w.heap.size, M, ⟨w.heap.size, 0, none⟩, h3, by simp [Cont.len], by simp [Cont.len]; omega, by simp, _, e, hnew, ?_⟩⟩
    simp only [Option.getD_none, Cont.sz, List.size_toArray, harr, husz]; omega
  · obtain ⟨z, rest, hz, hpk⟩ := (packK_spec u).1 _ _ _ _ h
    split at hz
    case isFalse => cases hz
    rename_i hre
    obtain rfl : rest = [] := by simpa using hre
    refine ⟨_, _, hz, fun hp hs hfree F E w a next Q hI hop hk => ?_⟩
    have hfree := hfree 0 (by simp [slots, ho])
    rw [Nat.add_zero] at hfree
    obtain ⟨us, ws, hsplit, h3, h4⟩ := hpk E hp w E.I pack_nil _ (hzero E hp w)
    simp only [RepL] at h4; subst h4
    rw [List.append_nil] at hsplit
    obtain ⟨E', q1, q2, q3⟩ := row_new hI hfree (.lst false u (List.replicate N z)) trivial ((List.replicate M zv.cells.toList).flatten.toArray) e M (by show (List.replicate N z).length ≤ M; rw [List.length_replicate]; omega) (by show M * u.size ≤ _; rw [List.size_toArray, harr, husz]; exact Nat.le_refl _) (fun i hi => by
      simp only [Cont.len, List.length_replicate] at hi
      refine ⟨flat u z, us, by simp [Cont.at?, hi], ?_, rep_flat u h3, fun j hj => ?_⟩
      · simp only [Cont.sz]; exact RepC.length u h3
      · simp only [Cont.sz, husz]
        rw [hget i j hi (by rw [← husz, ← RepC.length u h3]; exact hj), hsplit]
        simp [hj])
    unfold Oper.wp
    rw [run hp E w a hop]
    simp only [Cont.len, List.length_replicate] at q3
    exact hk _ E' _ q1 q2 q3
end
end Go.Ab
