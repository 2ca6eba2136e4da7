import Derived.Test.YthjochcbdhiclaaGreatAbConv2
set_option linter.unnecessarySimpa false
set_option linter.unusedVariables false
set_option linter.unusedSimpArgs false
namespace Go.Ab
open Go.RowKit
theorem size_zero (z : Array Value) (n : Nat) : (Builtin.zeroCells z n).size = n * z.size := by simp [Builtin.zeroCells]
section
variable {P : Program} {C : Cfg} (HC : TabOK P C)
theorem run_app0 {t e : TypeId} {ie : TI} (hund : P.underlying t = some (.slice e)) (hte : TIOK P e ie) {ty : TypeId} {w : World} {A B : Option Addr} {n c c' : Nat} (hnc : n ≤ c) :
    (Builtin.append_ #[t, t] ty #[.slice A n c, .slice B 0 c']).run P w = .ok (.slice A n c) w := by
  obtain ⟨inf, d, hinf, _, hsz, _⟩ := hte
  have hf : (Builtin.firstCells inf.size 0 (.slice B 0 c')).run P w = .ok #[] w := by
    cases B with
    | none => simp [Builtin.firstCells]
    | some b => simp [Builtin.firstCells, loadCells, loadCellsFrom]
  simp only [Builtin.append_, Sem.run_bind, Sem.run_pure, Result.andThen_ok, run_underlying hund, sizeOf, typeInfo, run_program, hinf, Builtin.lenOf]
  simp [hnc, hinf, Builtin.lenOf, run_underlying hund, hf, storeCells]
  cases A <;> simp [storeCells]
theorem app_raw {t e : TypeId} {ie : TI} (hund : P.underlying t = some (.slice e)) (hte : TIOK P e ie) (ty : TypeId) {w : World} (hsz0 : ie.size ≠ 0 ∨ True)
    {v : Value} {N : Nat} (hv : (N = 0 ∧ v = .slice none 0 0) ∨ ∃ b n a arr ty', v = .slice (some a) N n ∧ N ≤ n ∧ (n ≠ 0 → a = ⟨b, 0, none⟩) ∧ w.heap[b]? = some (.cells arr ty' (0, 0)) ∧ n * ie.size ≤ arr.size)
    {u : Value} {A : Option Addr} {M m' : Nat} (hu : u = .slice A M m') (news : List Value) (hnl : news.length = M * ie.size) (hone : ∀ x ∈ news, x.oneCell' = true)
    (hA : M ≠ 0 → ∃ a, A = some a ∧ ∀ j z, news[j]? = some z → w.cell? (a.add j) = some z) (hm' : M ≤ m') (hlim : N + M ≤ ie.lim) :
    (M = 0 ∧ (Builtin.append_ #[t, t] ty #[v, u]).run P w = .ok v w) ∨ (M ≠ 0 ∧ ∃ w' b' n' arr' ty', (Builtin.append_ #[t, t] ty #[v, u]).run P w = .ok (.slice (some ⟨b', 0, none⟩) (N + M) n') w' ∧ w'.heap[b']? = some (.cells arr' ty' (0, 0)) ∧ N + M ≤ n' ∧ n' * ie.size ≤ arr'.size ∧
      w.heap.size ≤ w'.heap.size ∧ b' < w'.heap.size ∧ w'.os = w.os ∧ w'.tape = w.tape ∧ (w'.output = w.output ∧ w.drawn ≤ w'.drawn) ∧ (∀ k, k ≠ b' → k < w.heap.size → w'.heap[k]? = w.heap[k]?) ∧
      (∀ k, k < N * ie.size → ∀ b n a arr ty'', v = .slice (some a) N n → (n ≠ 0 → a = ⟨b, 0, none⟩) → w.heap[b]? = some (.cells arr ty'' (0, 0)) → arr'[k]? = arr[k]?) ∧ (∀ k, k < M * ie.size → arr'[N * ie.size + k]? = news[k]?) ∧
      (w.heap.size ≤ b' ∨ ∃ n arr, v = .slice (some ⟨b', 0, none⟩) N n ∧ n ≠ 0 ∧ w.heap[b']? = some (.cells arr ty' (0, 0)) ∧ arr'.size = arr.size)) := by
  subst hu
  obtain ⟨inf, dd, hinf, _, hsz, _, ⟨zv, hz1, hz2, hz3⟩, hlim1, hlim2⟩ := id hte
  by_cases hm0 : M = 0
  · left
    refine ⟨hm0, ?_⟩
    rw [hm0]
    rcases hv with ⟨_, rfl⟩ | ⟨b, n, a, arr, ty', rfl, hn, _⟩
    · exact run_app0 hund hte (Nat.le_refl _)
    · exact run_app0 hund hte hn
  right
  refine ⟨hm0, ?_⟩
  obtain ⟨sa, rfl, hcells⟩ := hA hm0
  have hbytes : (N + M) * inf.bytes ≤ 140737488355328 := by
    have := Nat.mul_le_mul_right inf.bytes hlim
    omega
  have hgc : ∀ w' need old, need ≤ 9223372036854775807 → need ≤ grownCap w' need old e := by
    intro w' need old _; unfold grownCap Question.cut; exact Nat.le_add_right _ _
  have hdrew : ∀ (k : Nat), w.drew.heap[k]? = w.heap[k]? := fun k => rfl
  have fresh : ∀ (arr : Array Value) (n' : Nat), (Builtin.append_ #[t, t] ty #[v, .slice (some sa) M m']).run P w = .ok (.slice (some ⟨w.heap.size, 0, none⟩) (N + M) n') (w.drew.alloc (.cells arr e (0, 0))) → N + M ≤ n' → n' * ie.size ≤ arr.size →
      (∀ k, k < N * ie.size → ∀ b n a arr0 ty'', v = .slice (some a) N n → (n ≠ 0 → a = ⟨b, 0, none⟩) → w.heap[b]? = some (.cells arr0 ty'' (0, 0)) → arr[k]? = arr0[k]?) → (∀ k, k < M * ie.size → arr[N * ie.size + k]? = news[k]?) →
      ∃ w' b' n' arr' ty', (Builtin.append_ #[t, t] ty #[v, .slice (some sa) M m']).run P w = .ok (.slice (some ⟨b', 0, none⟩) (N + M) n') w' ∧ w'.heap[b']? = some (.cells arr' ty' (0, 0)) ∧ N + M ≤ n' ∧ n' * ie.size ≤ arr'.size ∧
      w.heap.size ≤ w'.heap.size ∧ b' < w'.heap.size ∧ w'.os = w.os ∧ w'.tape = w.tape ∧ (w'.output = w.output ∧ w.drawn ≤ w'.drawn) ∧ (∀ k, k ≠ b' → k < w.heap.size → w'.heap[k]? = w.heap[k]?) ∧
      (∀ k, k < N * ie.size → ∀ b n a arr ty'', v = .slice (some a) N n → (n ≠ 0 → a = ⟨b, 0, none⟩) → w.heap[b]? = some (.cells arr ty'' (0, 0)) → arr'[k]? = arr[k]?) ∧ (∀ k, k < M * ie.size → arr'[N * ie.size + k]? = news[k]?) ∧
      (w.heap.size ≤ b' ∨ ∃ n arr, v = .slice (some ⟨b', 0, none⟩) N n ∧ n ≠ 0 ∧ w.heap[b']? = some (.cells arr ty' (0, 0)) ∧ arr'.size = arr.size) := by
    intro arr n' hrun hn' hfit holds hnews
    refine ⟨_, w.heap.size, n', arr, e, hrun, by show (w.drew.heap.push _)[w.heap.size]? = _; rw [show w.drew.heap = w.heap from rfl]; simp, hn', hfit, by show _ ≤ (w.drew.heap.push _).size; rw [show w.drew.heap = w.heap from rfl]; simp, by show _ < (w.drew.heap.push _).size; rw [show w.drew.heap = w.heap from rfl]; simp, rfl, rfl, ⟨rfl, Nat.le_succ _⟩, fun k _ hk => ?_, holds, hnews, .inl (Nat.le_refl _)⟩
    exact Below.heap_alloc w.drew _ k hk
  rcases hv with ⟨h0, rfl⟩ | ⟨b, n, a, arr, ty', rfl, hn, ha, hb, hcap⟩
  · -- to nil
    have hrun := run_append_nil (P := P) w t ty e inf zv hund hinf hz1 sa M m' news (by rw [hnl, hsz]) hcells (by omega) (by omega) (by rw [h0, Nat.zero_add] at hbytes; omega)
    have hg := hgc w M 0 (by omega)
    rw [h0, Nat.zero_add]
    have := fresh (news.toArray ++ Builtin.zeroCells zv.cells (grownCap w M 0 e - M)) (grownCap w M 0 e) (by rw [h0, Nat.zero_add]; exact hrun) (by omega) (by
      simp only [Array.size_append, List.size_toArray, hnl, size_zero, hz3]
      rw [← Nat.add_mul]; exact Nat.mul_le_mul_right _ (by omega)) (fun k hk => by rw [h0] at hk; simp at hk) (fun k hk => by
      rw [h0, Nat.zero_mul, Nat.zero_add, Array.getElem?_append_left (by simp [hnl]; exact hk)]; simp)
    rw [h0, Nat.zero_add, Nat.zero_mul] at this
    simpa [h0] using this
  · by_cases hroom : N + M ≤ n
    · -- there is room
      have ha := ha (by omega)
      subst ha
      have hrm : (N + M) * ie.size ≤ n * ie.size := Nat.mul_le_mul_right _ hroom
      have hpos : N * ie.size + news.length ≤ arr.size := by rw [hnl, ← Nat.add_mul]; omega
      obtain ⟨arr', hst, hasz, hget⟩ := store_run P hb hpos hone
      have hf := run_firstCells_some (P := P) w inf.size M sa M m' news (by rw [hnl, hsz]) hcells
      have hrun : (Builtin.append_ #[t, t] ty #[.slice (some ⟨b, 0, none⟩) N n, .slice (some sa) M m']).run P w = .ok (.slice (some ⟨b, 0, none⟩) (N + M) n) (w.setRow b arr') := by
        rw [← hsz] at hst
        simp [Builtin.append_, run_underlying hund, sizeOf, typeInfo, hinf, Builtin.lenOf, hroom, hf, addr_add, hst]
      have hbl := (Array.getElem?_eq_some_iff.1 hb).1
      refine ⟨_, b, n, arr', ty', hrun, by rw [heap_setRow hb]; simp, hroom, by rw [hasz]; exact hcap, by simp [World.setRow], by simpa [World.setRow] using hbl, rfl, rfl, ⟨rfl, Nat.le_refl _⟩, fun k hk _ => by rw [heap_setRow hb, if_neg hk], fun k hk b0 n0 a0 arr0 ty0 e1 e2 e3 => ?_, fun k hk => ?_, .inr ⟨n, arr, rfl, by omega, hb, hasz⟩⟩
      · obtain ⟨rfl, rfl⟩ : ⟨b, 0, none⟩ = a0 ∧ n = n0 := by simpa using e1
        have := e2 (by omega)
        obtain rfl : b = b0 := by simpa using this
        rw [hb] at e3; obtain ⟨rfl, _⟩ : arr = arr0 ∧ ty' = ty0 := by simpa using e3
        rw [hget, if_pos hk]
      · rw [hget, if_neg (by omega), if_pos (by omega)]; congr 1; omega
    · -- it grows
      have hNfit : N * ie.size ≤ arr.size := Nat.le_trans (Nat.mul_le_mul_right _ hn) hcap
      let olds := arr.toList.take (N * ie.size)
      have hol : olds.length = N * ie.size := by simp [olds]; omega
      have hrun := run_append_grow (P := P) w t ty e inf zv hund hinf hz1 a N n olds (by rw [hol, hsz]) (fun j z hj => by
          have hlt := (List.getElem?_eq_some_iff.1 hj).1
          have hn0 : n ≠ 0 := by rintro rfl; have : N = 0 := by omega
                                 subst this; simp [olds] at hlt
          rw [ha hn0, addr_add]
          simp only [World.cell?, hb, Option.isSome_none, Bool.false_eq_true, if_false, Nat.zero_add]
          simp only [olds] at hj
          rw [List.getElem?_take] at hj
          split at hj
          · simpa using hj
          · cases hj)
        sa M m' news (by rw [hnl, hsz]) hcells (by omega) (by omega) (growslice_fits (by omega) hbytes)
      have hg := hgc w (N + M) n (by omega)
      refine fresh (olds.toArray ++ news.toArray ++ Builtin.zeroCells zv.cells (grownCap w (N + M) n e - (N + M))) (grownCap w (N + M) n e) hrun hg (by
        simp only [Array.size_append, List.size_toArray, hol, hnl, size_zero, hz3]
        rw [← Nat.add_mul, ← Nat.add_mul]; exact Nat.mul_le_mul_right _ (by omega)) (fun k hk b0 n0 a0 arr0 ty0 e1 e2 e3 => ?_) (fun k hk => ?_)
      · obtain ⟨rfl, rfl⟩ : a = a0 ∧ n = n0 := by simpa using e1
        have hn0 : n ≠ 0 := by rintro rfl; have : N = 0 := by omega
                               subst this; simp at hk
        have h1 := ha hn0
        have h2 := e2 hn0
        rw [h1] at h2
        obtain rfl : b = b0 := by simpa using h2
        rw [hb] at e3; obtain ⟨rfl, _⟩ : arr = arr0 ∧ ty' = ty0 := by simpa using e3
        rw [Array.append_assoc, Array.getElem?_append_left (by simp [hol]; exact hk)]
        simp only [List.getElem?_toArray, olds, List.getElem?_take, if_pos hk]; simp
      · rw [Array.append_assoc, Array.getElem?_append_right (by simp [hol]), Array.getElem?_append_left (by simp [hol, hnl]; exact hk)]
        simp only [List.size_toArray, hol, List.getElem?_toArray]; congr 1; omega
end
end Go.Ab
