import Derived.Test.YtehjknclkaobhaaPlU
set_option linter.unusedVariables false
set_option linter.unusedSimpArgs false
namespace Go.Ab

/-- The last of the first k versions that begins not behind a stamp. -/
noncomputable def vA (l : List (den Y65)) (stamp : Int) : Nat → Int
  | 0 => -1
  | k + 1 => bif dec (∃ h : k < l.length, l[k].2.2.1 ≤ stamp) then (k : Int) else vA l stamp k
theorem vA_range (l : List (den Y65)) (stamp : Int) : ∀ k, -1 ≤ vA l stamp k ∧ vA l stamp k < k
  | 0 => by simp [vA]
  | k + 1 => by
    have := vA_range l stamp k
    unfold vA
    cases dec (∃ h : k < l.length, l[k].2.2.1 ≤ stamp) <;> simp <;> omega

theorem p_S59 {l : List (den Y65)} (hl : SmallC l) (hok : okC l) (stamp : Int) : g_S59 l stamp = some (vA l stamp l.length, ()) := by
  have hl' : l.length ≤ 1048576 := hl
  unfold g_S59
  have e := iter_up (B := fun v => g_L59_0 l stamp v.1 v.2 _ some) (n := l.length) (r := vA l stamp l.length) (fun i => (vA l stamp i, (i : Int))) (fun i hi => by
    unfold g_L59_0
    simp only
    rw [decide_eq_true (by omega), p_S55 hl, p_chain hl, dec_true hok, lAt_nat hi, wrap_succ hi (by omega)]
    simp only [cond_true, Option.bind_some]
    by_cases h : l[i].2.2.1 ≤ stamp
    · rw [decide_eq_true h]
      simp only [cond_true, vA]
      rw [dec_true ⟨hi, h⟩]; rfl
    · rw [decide_eq_false h]
      simp only [cond_false, vA]
      rw [dec_false fun ⟨_, h2⟩ => h h2]; rfl) (by
    unfold g_L59_0
    simp only
    rw [decide_eq_false (by omega)]; rfl)
  have e2 : iter (fun v => g_L59_0 l stamp v.1 v.2 _ some) (-1, 0) = some (vA l stamp l.length) := e
  rw [e2]; rfl

theorem p_S61 {l : List (den Y65)} (hl : SmallC l) (stamp : Int) : g_S61 l stamp = some (vA l stamp l.length, ()) := by
  have hl' : l.length ≤ 1048576 := hl
  have key : ∀ k, k ≤ l.length → iter (fun v => g_L61_0 l stamp v _ some) ((k : Int) - 1) = some (vA l stamp k) := by
    intro k
    induction k with
    | zero =>
      intro _
      rw [iter_eq]; unfold g_L61_0
      rfl
    | succ k ih =>
      intro hk
      have hlt : k < l.length := by omega
      rw [iter_eq]; unfold g_L61_0
      rw [show ((k + 1 : Nat) : Int) - 1 = (k : Int) by omega, decide_eq_true (show (k : Int) ≥ 0 by omega), lAt_nat hlt]
      simp only [cond_true, Option.bind_some]
      by_cases h : l[k].2.2.1 ≤ stamp
      · rw [decide_eq_false (show ¬ l[k].2.2.1 > stamp from Int.not_lt.2 h)]
        simp only [cond_false, Option.bind_some, vA]
        rw [dec_true ⟨hlt, h⟩]; rfl
      · rw [decide_eq_true (show l[k].2.2.1 > stamp from Int.not_le.1 h)]
        simp only [cond_true, Option.bind_some, vA]
        rw [dec_false fun ⟨_, h2⟩ => h h2, wrap_id (by omega) (by omega)]; exact ih (by omega)
  unfold g_S61
  rw [wrap_id (by omega) (by omega), key l.length (Nat.le_refl _)]; rfl

theorem p_read {s : den Y41} (hs : SmallCs s.1) (key stamp : Int) : ∃ (v : den Y65) (b : Bool), g_S45 s key stamp = some (v, b, ()) ∧ g_S46 s key stamp = some (v, b, ()) ∧ (b = false → v.2.1 = 0) := by
  unfold g_S45 g_S46 g_S60
  simp only [p_S39 hs, p_S42 hs, p_S40, p_S43, Option.bind_some]
  by_cases hok : okSt s.1
  · rw [dec_true hok]
    simp only [Bool.not_true, cond_false]
    cases hk : inB key 0 5 with
    | false => exact ⟨_, _, rfl, rfl, fun _ => rfl⟩
    | true =>
      simp only [Bool.not_true, cond_false]
      unfold inB at hk
      simp only [Bool.and_eq_true, decide_eq_true_eq] at hk
      obtain ⟨k, rfl⟩ := Int.eq_ofNat_of_zero_le hk.1
      have hlt : k < s.1.length := by have := hok.1; omega
      have hsm := hs.2 _ (List.getElem_mem hlt)
      have hc := (hok.2 _ (List.getElem_mem hlt)).1
      rw [lAt_nat hlt]
      simp only [Option.bind_some, p_S59 hsm hc, p_S61 hsm]
      have hr := vA_range s.1[k] stamp s.1[k].length
      by_cases h : vA s.1[k] stamp s.1[k].length < 0
      · rw [decide_eq_true h]
        exact ⟨_, _, rfl, rfl, fun _ => rfl⟩
      · rw [decide_eq_false h]
        obtain ⟨j, hj⟩ := Int.eq_ofNat_of_zero_le (show 0 ≤ vA s.1[k] stamp s.1[k].length by omega)
        rw [hj] at hr ⊢
        have hjl : j < s.1[k].length := by omega
        have e : lAt s.1[k] ((j : Nat) : Int) = some s.1[k][j] := lAt_nat hjl
        simp only [cond_false, e, Option.bind_some]
        exact ⟨_, _, rfl, rfl, fun h => by cases h⟩
  · rw [dec_false hok]
    exact ⟨_, _, rfl, rfl, fun _ => rfl⟩

/-- **FnExactReplicaRead's function answers true.** -/
theorem p_law7 (x : den (.prod Y43 (.prod .i .unit))) (hx : wf (.prod Y43 (.prod .i .unit)) x) : g_S7 x.1 x.2.1 = some (true, ()) := by
  refine law_sz (p_S18 hx.1 (by omega) (by omega)) fun n h0 h1 hA => ?_
  have e : ∃ (m : Int) (b : Bool), g_S24 x.1 x.2.1 = some (m, b, ()) ∧ g_S25 x.1 x.2.1 = some (m, b, ()) := by
    unfold g_S24 g_S25
    rw [p_S22 hA, p_S23 hA]
    obtain ⟨v, b, e1, e2, e3⟩ := p_read (s := x.1.2.2.1) hA x.2.1 x.1.2.1
    simp only [Option.bind_some, e1, e2]
    cases okR x.1 with
    | false => exact ⟨_, _, rfl, rfl⟩
    | true =>
      cases b with
      | false => exact ⟨0, false, rfl, by rw [e3 rfl]; rfl⟩
      | true => exact ⟨_, _, rfl, rfl⟩
  obtain ⟨m, b, e1, e2⟩ := e
  simp only [p_S20 hA, Option.bind_some, e1, e2, p_S15 hA]
  simp
end Go.Ab
