import Derived.Test.YthjochcbdhiclaaGreatAbStore2
import Derived.Test.YthjochcbdhiclaaGreatAbApp4
set_option linter.unnecessarySimpa false
set_option linter.unusedVariables false
set_option linter.unusedSimpArgs false
namespace Go.Ab
open Go.RowKit
section
variable {P : Program} {C : Cfg} (HC : TabOK P C)
include HC in
theorem clear_sem {R : Type} {base : Nat} {s : St} {o : Oper} {args : Array Operand} {ats : Array TypeId} {K : AV → Delta → Option R} {r : R} (ho : o.op = .call { callee := .builtin .clear, args := args, argTypes := ats }) (h : vopE C base s o K = some r) : ∃ v δ, K v δ = some r ∧ ∀ hp, SubH s.h hp → (∀ j, j < slots C o → hp.getD (base + j) none = none) → ESem P s.t hp o v δ := by
  unfold vopE at h; simp only [ho] at h
  split at h
  case h_2 => cases h
  rename_i x t hargs hts
  split at h
  case h_2 => cases h
  rename_i size e code zero lim hti
  obtain ⟨_, d, _, hund, _, hu, _⟩ := HC.ti t _ hti
  simp only [UndOK] at hu; subst hu
  split at h
  case h_2 => cases h
  rename_i ie hie
  have hte := HC.ti e ie hie
  obtain ⟨inf, _, hinf, _, hsize, _, ⟨zv, hz1, hz2, hz3⟩, _⟩ := id hte
  split at h
  case h_2 => cases h
  rename_i u hcode
  split at h
  case isFalse => cases h
  rename_i husz
  obtain ⟨z, rest, hz, hpk⟩ := (packK_spec u).1 _ _ _ _ h
  split at hz
  case isFalse => cases hz
  rename_i hre
  obtain rfl : rest = [] := by simpa using hre
  unfold clearK at hz
  split at hz
  case h_2 => cases hz
  rename_i q rg ex
  split at hz
  case h_2 => cases hz
  rename_i t' xs hq
  obtain ⟨z', hz', hK⟩ := bind_ok hz
  obtain ⟨rfl, rfl⟩ := cast?_spec hz'
  have ha : args = #[x] := by rw [← Array.toArray_toList (xs := args), hargs]
  have ht' : ats = #[t] := by rw [← Array.toArray_toList (xs := ats), hts]
  have hxo : x ∈ o.op.operands := by rw [ho]; simp [Op.operands, Call.operands, ha]
  refine ⟨_, _, hK, fun hp hs hfree F E w a next Q hI hop hk => ?_⟩
  have hc := hs.lst hq (by simp) (by simp)
  have hst := stat_root hc (by simp)
  have h1 := hop x hxo; rw [ex] at h1
  simp only [RepAV] at h1
  rw [own_on hst] at h1
  obtain ⟨hle, h2⟩ := h1
  simp only [Cont.len, Cont.sz, key] at hle h2
  have undefOK : ∀ (E : Env) (h : Heap) (w : World), RepAV E h w .undef undef := fun E h w => by simp only [RepAV]; exact ⟨[], rfl, RepL.nil⟩
  have hexec : ∀ (v : Value) (w' : World), (Builtin.clear_ #[t] o.type #[a.eval x]).run P w = .ok v w' → (execOp a.eval o).run P w = .ok (.value v) w' := by
    intro v w' hr
    simp only [execOp, ho, resolve, ha, ht', List.map_toArray, List.map_cons, List.map_nil, Sem.run_bind, Sem.run_pure, Result.andThen_ok, invoke, builtin]
    rw [hr]; rfl
  have none_ : (rg.getD (0, xs.length)).2 = 0 → (∃ A n, a.eval x = .slice A 0 n) → o.wp P a w next Q := by
    rintro h0 ⟨A, n, e1⟩
    unfold Oper.wp
    rw [hexec undef w (by rw [e1]; cases A <;> simp [Builtin.clear_, run_underlying hund] <;> rfl)]
    have hsame : (xs.take (rg.getD (0, xs.length)).1 ++ List.replicate (rg.getD (0, xs.length)).2 z' ++ xs.drop ((rg.getD (0, xs.length)).1 + (rg.getD (0, xs.length)).2)) = xs := by rw [h0]; simp
    have : apD hp [(q, .lst false u (xs.take (rg.getD (0, xs.length)).1 ++ List.replicate (rg.getD (0, xs.length)).2 z' ++ xs.drop ((rg.getD (0, xs.length)).1 + (rg.getD (0, xs.length)).2)))] = hp := by
      rw [hsame]; exact setH_same hp q _ hc
    refine hk undef E w ?_ ?_ (undefOK _ _ _)
    · show Inv F E (apD hp [(q, _)]) w
      rw [this]; exact hI
    · show Keep E hp w E (apD hp [(q, _)]) w
      rw [this]; exact Keep.refl E hp w
  rcases h2 with ⟨h0, e1⟩ | ⟨b, n, ad, hι, e1, hn, had, arr, ty, hb, hcap⟩
  · exact none_ (by omega) ⟨none, 0, e1⟩
  · by_cases hz0 : (rg.getD (0, xs.length)).2 = 0
    · exact none_ hz0 ⟨some ad, n, by rw [e1, hz0]⟩
    · have had := had (by omega)
      subst had
      obtain ⟨vs, ws, hsplit, h3, h4⟩ := hpk E hp w E.I pack_nil _ (show RepL E hp w ie.zero zv.cells.toList by rw [hz2]; exact RepL.of (by simp) (fun j h1 h2 => by simpa using rep_const _))
      simp only [RepL] at h4; subst h4
      rw [List.append_nil] at hsplit
      have hvl : vs.length = u.size := RepC.length u h3
      have hvr := rep_flat (h := hp) (w := w) (E := E) u h3
      obtain ⟨w', k1, k2, k3⟩ := put_rows P hI hc hι (by omega) (o := (rg.getD (0, xs.length)).1) (ys := List.replicate (rg.getD (0, xs.length)).2 z') (by simpa using hle)
        (us := (List.replicate (rg.getD (0, xs.length)).2 vs).flatten) (by rw [flatten_len (sz := u.size) _ (by intro l hl; rw [(List.mem_replicate.1 hl).2]; exact hvl)]; simp)
        (by
          intro v hv
          obtain ⟨l, hl, hv⟩ := List.mem_flatten.1 hv
          rw [(List.mem_replicate.1 hl).2] at hv
          obtain ⟨j, hj, rfl⟩ := List.getElem_of_mem hv
          have hl2 := hvr.length
          exact cell_one (flat_cell u z' _ (List.getElem_mem (show j < (flat u z').length by omega))) (hvr.getAt j (by omega) hj))
        (fun i hi => ⟨vs, hvl, by simp only [List.getElem_replicate]; exact hvr, fun j hj => by
          rw [flatten_get (sz := u.size) (List.replicate (rg.getD (0, xs.length)).2 vs) (by intro l hl; rw [(List.mem_replicate.1 hl).2]; exact hvl) i j (vs := vs) (by rw [List.getElem?_replicate, if_pos (by simpa using hi)]) (by omega)]
          simp [hj]⟩)
      have hzc := zero_cells zv.cells (rg.getD (0, xs.length)).2
      unfold Oper.wp
      rw [hexec undef w' (by
        rw [e1]
        obtain ⟨m, hm⟩ := Nat.exists_eq_succ_of_ne_zero hz0
        have hzz : (Builtin.zeroCells zv.cells (rg.getD (0, xs.length)).2).toList = (List.replicate (rg.getD (0, xs.length)).2 vs).flatten := by
          unfold Builtin.zeroCells; rw [hzc, ← hsplit]
        simp only [Builtin.clear_, Sem.run_bind, Sem.run_pure, run_underlying hund, Result.andThen_ok, List.getElem?_toArray, List.getElem?_cons_zero]
        rw [hm] at hzz k1 ⊢
        simp only [zeroValue, typeInfo, Sem.run_bind, run_program, hinf, hz1, Result.andThen_ok, Sem.run_pure, hzz, k1]
        rfl)]
      simp only [List.length_replicate] at k2 k3
      exact hk undef E w' k2 k3 (undefOK _ _ _)
include HC in
theorem copy_sem {R : Type} {base : Nat} {s : St} {o : Oper} {args : Array Operand} {ats : Array TypeId} {K : AV → Delta → Option R} {r : R} (ho : o.op = .call { callee := .builtin .copy, args := args, argTypes := ats }) (h : vopE C base s o K = some r) : ∃ v δ, K v δ = some r ∧ ∀ hp, SubH s.h hp → (∀ j, j < slots C o → hp.getD (base + j) none = none) → ESem P s.t hp o v δ := by
  unfold vopE at h; simp only [ho] at h
  split at h
  case h_2 => cases h
  rename_i x y t t2 hargs hts
  split at h
  case h_2 => cases h
  rename_i size e code zero lim hti
  obtain ⟨_, d, _, hund, _, hu, _⟩ := HC.ti t _ hti
  simp only [UndOK] at hu; subst hu
  split at h
  case h_2 => cases h
  rename_i ie hie
  have hte := HC.ti e ie hie
  unfold copyK at h
  split at h
  case h_2 => cases h
  rename_i q rg ex
  split at h
  case h_2 => cases h
  rename_i u xs hq
  split at h
  case isFalse => cases h
  rename_i husz
  obtain ⟨ys, hK, hsrc⟩ := srcK_spec h
  have ha : args = #[x, y] := by rw [← Array.toArray_toList (xs := args), hargs]
  have ht' : ats = #[t, t2] := by rw [← Array.toArray_toList (xs := ats), hts]
  have hxo : x ∈ o.op.operands := by rw [ho]; simp [Op.operands, Call.operands, ha]
  have hyo : y ∈ o.op.operands := by rw [ho]; simp [Op.operands, Call.operands, ha]
  refine ⟨_, _, hK, fun hp hs hfree F E w a next Q hI hop hk => ?_⟩
  have hc := hs.lst hq (by simp) (by simp)
  have hst := stat_root hc (by simp)
  have h1 := hop x hxo; rw [ex] at h1
  simp only [RepAV] at h1
  rw [own_on hst] at h1
  obtain ⟨hle, h2⟩ := h1
  simp only [Cont.len, Cont.sz, key] at hle h2
  obtain ⟨A, m', news, hy, hm', hnl, hone, hA, hels⟩ := (hsrc hp hs E w hI.heap _ (hop y hyo)).raw
  have hexec : ∀ (v : Value) (w' : World), (Builtin.copy_ #[t, t2] o.type #[a.eval x, a.eval y]).run P w = .ok v w' → (execOp a.eval o).run P w = .ok (.value v) w' := by
    intro v w' hr
    simp only [execOp, ho, resolve, ha, ht', List.map_toArray, List.map_cons, List.map_nil, Sem.run_bind, Sem.run_pure, Result.andThen_ok, invoke, builtin]
    rw [hr]; rfl
  let N := (rg.getD (0, xs.length)).2
  let M := Nat.min ys.length N
  have hMN : min N ys.length = M := by simp only [M]; exact Nat.min_comm _ _
  have hfirst : (Builtin.firstCells ie.size M (.slice A ys.length m')).run P w = .ok (news.take (M * ie.size)).toArray w := by
    by_cases hM : ys.length = 0
    · have : M = 0 := by simp only [M]; rw [hM]; exact Nat.zero_min _
      rw [this]
      cases A with
      | none => simp [Builtin.firstCells]
      | some b => simp [Builtin.firstCells, loadCells, loadCellsFrom]
    · obtain ⟨sa, rfl, hcells⟩ := hA hM
      refine run_firstCells_some (P := P) w ie.size M sa ys.length m' _ ?_ (fun j z hj => ?_)
      · rw [List.length_take, hnl, husz]
        have : M * ie.size ≤ ys.length * ie.size := Nat.mul_le_mul_right _ (Nat.min_le_left _ _)
        omega
      · rw [List.getElem?_take] at hj
        split at hj
        · exact hcells j z hj
        · cases hj
  have hrun : ∀ (B : Option Addr) (n : Nat) (w' : World), (∀ a, B = some a → (storeCells a (news.take (M * ie.size))).run P w = .ok () w') → (B = none → w' = w) → (Builtin.copy_ #[t, t2] o.type #[.slice B N n, .slice A ys.length m']).run P w = .ok (goInt M) w' := by
    intro B n w' h3 h4
    simp only [Builtin.copy_, Sem.run_bind, Sem.run_pure, run_underlying hund, Result.andThen_ok, List.getElem?_toArray, List.getElem?_cons_zero, List.getElem?_cons_succ, Builtin.lenOf, tiok_size hte]
    rw [show Nat.min ys.length N = M from rfl, hfirst]
    cases B with
    | none => rw [h4 rfl]; simp
    | some a' => simp [h3 a' rfl]
  have hval : ∀ (E : Env) (h : Heap) (w : World), RepAV E h w (.n ((min (rg.getD (0, xs.length)).2 ys.length : Nat) : Int)) (goInt M) := by
    intro E h w
    rw [show min (rg.getD (0, xs.length)).2 ys.length = M from hMN]
    exact mk_int _ _
  have htl : (ys.take N).length = M := by rw [List.length_take]; exact hMN
  by_cases hM0 : M = 0
  · have hsame : copyInto xs (rg.getD (0, xs.length)).1 (rg.getD (0, xs.length)).2 ys = xs := by
      have : ys.take N = [] := List.eq_nil_of_length_eq_zero (by omega)
      unfold copyInto
      rw [show ys.take (rg.getD (0, xs.length)).2 = [] from this]; simp
    have hap : apD hp [(q, .lst false u (copyInto xs (rg.getD (0, xs.length)).1 (rg.getD (0, xs.length)).2 ys))] = hp := by
      rw [hsame]; exact setH_same hp q _ hc
    have hsl : ∃ B n, a.eval x = .slice B N n := by
      rcases h2 with ⟨h0, e1⟩ | ⟨b, n, ad, hι, e1, _⟩
      · exact ⟨none, 0, by rw [e1]; congr 1; simp only [N]; omega⟩
      · exact ⟨_, _, e1⟩
    obtain ⟨B, n, e1⟩ := hsl
    unfold Oper.wp
    rw [hexec (goInt M) w (by rw [e1, hy]; exact hrun B n w (fun a' _ => by rw [hM0]; simp [storeCells]) (fun _ => rfl))]
    refine hk _ E w ?_ ?_ (hval _ _ _)
    · rw [hap]; exact hI
    · rw [hap]; exact Keep.refl E hp w
  · have hMN2 : M ≤ N := Nat.min_le_right _ _
    have hMy : M ≤ ys.length := Nat.min_le_left _ _
    rcases h2 with ⟨h0, e1⟩ | ⟨b, n, ad, hι, e1, hn, had, arr, ty, hb, hcap⟩
    · exact absurd (show M = 0 by simp only [N] at hMN2; omega) hM0
    have had := had (by simp only [N] at hMN2; omega)
    subst had
    have hms : M * u.size ≤ ys.length * u.size := Nat.mul_le_mul_right _ hMy
    obtain ⟨w', k1, k2, k3⟩ := put_rows P hI hc hι (by simp only [N] at hMN2; omega) (o := (rg.getD (0, xs.length)).1) (ys := ys.take N) (by rw [htl]; simp only [N] at hMN2; omega)
      (us := news.take (M * u.size)) (by rw [List.length_take, hnl, htl]; omega) (fun v hv => hone v (List.mem_of_mem_take hv))
      (fun i hi => by
        rw [htl] at hi
        obtain ⟨vs, g1, ⟨g0, g2⟩, g3⟩ := hels i (by omega)
        refine ⟨vs, g1, by simpa using g2, fun j hj => ?_⟩
        have : i * u.size + u.size ≤ M * u.size := by rw [← Nat.succ_mul]; exact Nat.mul_le_mul_right _ hi
        rw [List.getElem?_take, if_pos (by omega)]; exact g3 j hj)
    unfold Oper.wp
    rw [hexec (goInt M) w' (by rw [e1, hy]; exact hrun _ n w' (fun a' ha' => by rw [← Option.some.inj ha', ← husz]; exact k1) (fun h => by cases h))]
    exact hk _ E w' k2 k3 (hval _ _ _)
end
end Go.Ab
