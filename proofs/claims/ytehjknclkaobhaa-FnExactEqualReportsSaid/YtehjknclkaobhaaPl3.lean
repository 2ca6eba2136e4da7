import Derived.Test.YtehjknclkaobhaaGen3
import Derived.Test.YtehjknclkaobhaaAbPlain
import Derived.Test.YtehjknclkaobhaaAbLaw
set_option linter.unusedVariables false
set_option linter.unusedSimpArgs false
namespace Go.Ab

theorem p_S26 {a : List Int} {l : Int} (ha : a.length ≤ maxLen) (h0 : 0 ≤ l) (h1 : l ≤ 1048576) : ∃ n : Int, g_S26 a l = some (n, ()) ∧ (n < 0 ∨ (0 ≤ n ∧ n ≤ 1048576 ∧ a.length ≤ 1048576)) := by
  unfold maxLen at ha
  unfold g_S26
  rw [wrap_id (by omega) (by omega)]
  by_cases h : l - (a.length : Int) < 0
  · rw [decide_eq_true h]; exact ⟨_, rfl, .inl (by omega)⟩
  · rw [decide_eq_false h]; exact ⟨_, rfl, .inr ⟨by omega, by omega, by omega⟩⟩

/-- What the laws' size test lets through. -/
def SmallR (a : den Y24) : Prop := a.1.length ≤ 1048576 ∧ a.2.1.length ≤ 1048576

theorem p_S8 {a : den Y24} (ha : wf Y24 a) {l : Int} (h0 : 0 ≤ l) (h1 : l ≤ 1048576) : ∃ n : Int, g_S8 a l = some (n, ()) ∧ (n < 0 ∨ (0 ≤ n ∧ n ≤ 1048576 ∧ SmallR a)) := by
  obtain ⟨⟨hl1, _⟩, ⟨hl2, _⟩, _⟩ := ha
  unfold g_S8
  obtain ⟨n, e1, h2⟩ := p_S26 (a := a.1) hl1 h0 h1
  rw [e1]
  simp only [Option.bind_some]
  rcases h2 with h2 | ⟨h2, h3, h4⟩
  · rw [decide_eq_true h2]; exact ⟨_, rfl, .inl (by omega)⟩
  · rw [decide_eq_false (show ¬ n < 0 by omega)]
    obtain ⟨m, e2, h5⟩ := p_S26 (a := a.2.1) hl2 h2 h3
    simp only [cond_false]
    rw [e2]
    simp only [Option.bind_some]
    rcases h5 with h5 | ⟨h5, h6, h7⟩
    · rw [decide_eq_true h5]; exact ⟨_, rfl, .inl (by omega)⟩
    · rw [decide_eq_false (show ¬ m < 0 by omega)]; exact ⟨_, rfl, .inr ⟨h5, h6, h4, h7⟩⟩

theorem p_S27 {a : List Int} (ha : a.length ≤ 1048576) : g_S27 a = some (a, ()) := by
  unfold g_S27
  rw [if_pos (by omega)]
  have e : ((a.length : Int) : Int).toNat = a.length := by omega
  rw [e]
  have := copy_loop (f := fun x : Int => x) (a := a) (z := (0 : Int)) (B := fun v => g_L27_0 a v.1 v.2 _ some) (by omega) (fun i out hi ho => by
    unfold g_L27_0
    simp only
    rw [decide_eq_true (by omega), lAt_nat hi]
    simp only [cond_true, Option.bind_some]
    rw [if_pos (by omega), wrap_succ hi (by omega)]
    simp [ho, hi]) (fun out => by
    unfold g_L27_0
    simp only
    rw [decide_eq_false (by omega)]; rfl)
  rw [this]
  simp

theorem p_S10 {a : den Y24} (ha : SmallR a) : g_S10 a = some (a, ()) := by
  unfold g_S10
  rw [p_S27 ha.1, p_S27 ha.2]; rfl

theorem p_S28 {a b : List Int} (ha : a.length ≤ 1048576) : g_S28 a b = some (decide (a = b), ()) := by
  unfold g_S28
  exact eq_list (by omega) ne_int fun i => rfl
theorem p_S29 {a b : List Int} (ha : a.length ≤ 1048576) : g_S29 a b = some (decide (a = b), ()) := by
  unfold g_S29
  exact eq_list (by omega) ne_int fun i => rfl

theorem p_S9 {a b : den Y24} (ha : SmallR a) : g_S9 a b = some (decide (a.1 = b.1 ∧ a.2.1 = b.2.1 ∧ a.2.2.1 = b.2.2.1), ()) := by
  unfold g_S9
  rw [len_ne, len_ne, ne_int]
  by_cases h1 : a.1.length = b.1.length
  · by_cases h2 : a.2.1.length = b.2.1.length
    · by_cases h3 : a.2.2.1 = b.2.2.1
      · simp only [h1, h2, h3, decide_true, Bool.not_true, cond_false]
        rw [eq_loop (B := fun v => g_L9_0 a b v _ some) (a := a.1) (b := b.1) h1 (by have := ha.1; omega) (no := Sum.inl ()) (yes := Sum.inr ()) ne_int (fun i => rfl)]
        by_cases e1 : a.1 = b.1
        · simp only [e1, if_true, Option.bind_some, sumC]
          rw [eq_loop (B := fun v => g_L9_1 a b v _ some) (a := a.2.1) (b := b.2.1) h2 (by have := ha.2; omega) (no := Sum.inl ()) (yes := Sum.inr ()) ne_int (fun i => rfl)]
          by_cases e2 : a.2.1 = b.2.1 <;> simp [e2, sumC]
        · simp [e1, sumC]
      · simp [h1, h2, h3]
    · have : a.2.1 ≠ b.2.1 := fun h => h2 (by rw [h])
      simp [h1, h2, this]
  · have : a.1 ≠ b.1 := fun h => h1 (by rw [h])
    simp [h1, this]

theorem p_S11 {a b : den Y24} (ha : SmallR a) : g_S11 a b = some (decide (a.1 = b.1 ∧ a.2.1 = b.2.1 ∧ a.2.2.1 = b.2.2.1), ()) := by
  unfold g_S11
  rw [p_S28 ha.1, p_S28 ha.2, eq_int]
  by_cases h1 : a.1 = b.1 <;> by_cases h2 : a.2.1 = b.2.1 <;> by_cases h3 : a.2.2.1 = b.2.2.1 <;> simp [h1, h2, h3]

theorem p_S12 {a : den Y24} (ha : SmallR a) : g_S12 a a = some (true, ()) := by
  unfold g_S12
  rw [p_S29 ha.1, p_S29 ha.2]
  simp

/-- **The law's function answers true.** -/
theorem p_law (x : den (.prod Y24 (.prod Y24 .unit))) (hx : wf (.prod Y24 (.prod Y24 .unit)) x) : g_S3 x.1 x.2.1 = some (true, ()) := by
  obtain ⟨h1, h2, _⟩ := hx
  unfold g_S3
  obtain ⟨n, e1, k1⟩ := p_S8 h1 (l := 1048576) (by omega) (by omega)
  rw [e1]
  simp only [Option.bind_some]
  rcases k1 with k1 | ⟨k1, k2, k3⟩
  · rw [decide_eq_true k1]; rfl
  rw [decide_eq_false (show ¬ n < 0 by omega)]
  obtain ⟨m, e2, k4⟩ := p_S8 h2 k1 k2
  simp only [cond_false]
  rw [e2]
  simp only [Option.bind_some]
  rcases k4 with k4 | ⟨_, _, k6⟩
  · rw [decide_eq_true k4]; rfl
  rw [decide_eq_false (show ¬ m < 0 by omega)]
  simp only [cond_false, p_S10 k3, p_S10 k6, Option.bind_some, p_S9 k3, p_S11 k3, p_S12 k3, p_S12 k6]
  simp
end Go.Ab
