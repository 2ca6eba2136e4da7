import Derived.Test.YtehjknclkaobhaaPlT
set_option linter.unusedVariables false
set_option linter.unusedSimpArgs false
namespace Go.Ab

theorem p_S40 (x lo hi : Int) : g_S40 x lo hi = some (inB x lo hi, ()) := by
  unfold g_S40 inB
  by_cases h : lo ≤ x <;> simp [h]
theorem p_S43 (x lo hi : Int) : g_S43 x lo hi = some (inB x lo hi, ()) := by
  unfold g_S43 inB
  by_cases h : lo ≤ x <;> simp [h]

/-- A valid version. -/
def okV (v : den Y65) : Bool := inB v.2.1 (-1) 99 && inB v.2.2.1 0 999 && inB v.2.2.2.1 v.2.2.1 999 && inB v.2.2.2.2.1 1 1000 && (bif v.2.2.1 == 0 then (bif v.1 == 0 then v.2.1 == -1 else false) else inB v.1 1 9)
theorem p_S68 (v : den Y65) : g_S68 v = some (okV v, ()) := by
  unfold g_S68 okV
  simp only [p_S40, Option.bind_some]
  cases inB v.2.1 (-1) 99 <;> cases inB v.2.2.1 0 999 <;> cases inB v.2.2.2.1 v.2.2.1 999 <;> cases inB v.2.2.2.2.1 1 1000 <;> cases (v.2.2.1 == 0 : Bool) <;> cases (v.1 == 0 : Bool) <;> simp
theorem p_S70 (v : den Y65) : g_S70 v = some (okV v, ()) := by
  unfold g_S70 okV g_S73 g_S74
  simp only [p_S43, Option.bind_some]
  cases inB v.2.1 (-1) 99 <;> cases inB v.2.2.1 0 999 <;> cases inB v.2.2.2.1 v.2.2.1 999 <;> cases inB v.2.2.2.2.1 1 1000 <;> cases (v.2.2.1 == 0 : Bool) <;> cases (v.1 == 0 : Bool) <;> simp
theorem okV_le {v : den Y65} (h : okV v = true) : v.2.2.1 ≤ v.2.2.2.1 := by
  unfold okV at h
  simp only [Bool.and_eq_true] at h
  have := h.1.1.2
  unfold inB at this
  simp only [Bool.and_eq_true, decide_eq_true_eq] at this
  exact this.1

/-- Two neighbours in a chain. -/
def okP (v w : den Y65) : Prop := v.2.2.1 < w.2.2.1 ∧ v.2.2.2.2.1 ≤ w.2.2.1
def okAt (l : List (den Y65)) (i : Nat) : Prop := ∃ h : i < l.length, okV l[i] = true ∧ ∀ h2 : i + 1 < l.length, okP l[i] l[i + 1]
def okAt' (l : List (den Y65)) (i : Nat) : Prop := ∃ h : i < l.length, okV l[i] = true ∧ ∀ h2 : 0 < i, okP (l[i - 1]'(by omega)) l[i]
theorem okAt_iff (l : List (den Y65)) : (∀ i, i < l.length → okAt l i) ↔ ∀ i, i < l.length → okAt' l i := by
  constructor
  · intro H i h
    obtain ⟨_, h1, _⟩ := H i h
    refine ⟨h, h1, fun h2 => ?_⟩
    obtain ⟨_, _, h4⟩ := H (i - 1) (by omega)
    have := h4 (by omega)
    simpa [show i - 1 + 1 = i by omega] using this
  · intro H i h
    obtain ⟨_, h1, _⟩ := H i h
    refine ⟨h, h1, fun h2 => ?_⟩
    obtain ⟨_, _, h4⟩ := H (i + 1) h2
    exact h4 (by omega)

/-- What the end of a chain's test answers. -/
def lastOK (l : List (den Y65)) : Option (Bool × Unit) := bif decide (((l.length : Nat) : Int) > 0) then (lAt l (IntKind.i64.wrap (((l.length : Nat) : Int) - 1))).bind fun e => some ((e.2.2.2.2.1 == 1000), ()) else some (false, ())

theorem p_S55 {l : List (den Y65)} (hl : SmallC l) : g_S55 l = bif dec (∀ i, i < l.length → okAt l i) then lastOK l else some (false, ()) := by
  unfold SmallC at hl
  refine all_loop (n := l.length) (B := fun v => g_L55_0 l v _ some) (c := okAt l) (t := ()) (fun i hi => ?_) ?_
  · unfold g_L55_0
    try simp only
    rw [decide_eq_true (by omega), lAt_nat hi]
    simp only [cond_true, Option.bind_some, p_S68]
    cases hv : okV l[i] with
    | false =>
      refine ⟨fun ⟨_, h, _⟩ => ?_, fun _ => ⟨(), rfl⟩⟩
      rw [hv] at h; cases h
    | true =>
      simp only [Bool.not_true, cond_false]
      rw [wrap_succ hi (by omega)]
      by_cases h2 : i + 1 < l.length
      · rw [decide_eq_true (by omega), lAt_nat h2]
        simp only [cond_true, Option.bind_some]
        by_cases p1 : l[i].2.2.1 ≥ l[i + 1].2.2.1
        · rw [decide_eq_true p1]
          refine ⟨fun ⟨_, _, h⟩ => ?_, fun _ => ⟨(), rfl⟩⟩
          exact (Int.not_lt.2 p1 (h h2).1).elim
        · rw [decide_eq_false p1]
          simp only [cond_false]
          by_cases p2 : l[i].2.2.2.2.1 > l[i + 1].2.2.1
          · rw [decide_eq_true p2]
            refine ⟨fun ⟨_, _, h⟩ => ?_, fun _ => ⟨(), rfl⟩⟩
            exact (Int.not_le.2 p2 (h h2).2).elim
          · rw [decide_eq_false p2]
            refine ⟨fun _ => rfl, fun h => absurd ⟨hi, hv, fun _ => ⟨Int.not_le.1 p1, Int.not_lt.1 p2⟩⟩ h⟩
      · rw [decide_eq_false (by omega)]
        refine ⟨fun _ => rfl, fun h => absurd ⟨hi, hv, fun h3 => absurd h3 h2⟩ h⟩
  · unfold g_L55_0
    try simp only
    rw [decide_eq_false (by omega)]; rfl

theorem p_S58 {l : List (den Y65)} (hl : SmallC l) : g_S58 l = bif dec (∀ i, i < l.length → okAt l i) then lastOK l else some (false, ()) := by
  unfold SmallC at hl
  rw [dec_congr (okAt_iff l)]
  refine all_loop (n := l.length) (B := fun v => g_L58_0 l l ((l.length : Nat) : Int) v _ some) (c := okAt' l) (t := ()) (fun i hi => ?_) ?_
  · unfold g_L58_0
    try simp only
    rw [decide_eq_true (by omega), lAt_nat hi]
    simp only [cond_true, Option.bind_some, p_S70]
    cases hv : okV l[i] with
    | false =>
      refine ⟨fun ⟨_, h, _⟩ => ?_, fun _ => ⟨_, rfl⟩⟩
      rw [hv] at h; cases h
    | true =>
      simp only [Bool.not_true, cond_false]
      rw [wrap_succ hi (by omega)]
      by_cases h2 : 0 < i
      · have hlt : i - 1 < l.length := by omega
        rw [decide_eq_true (show (i : Int) > 0 by omega), show IntKind.i64.wrap ((i : Int) - 1) = ((i - 1 : Nat) : Int) from by rw [wrap_id (by omega) (by omega)]; omega, lAt_nat hlt]
        simp only [cond_true, Option.bind_some]
        by_cases p1 : l[i - 1].2.2.1 ≥ l[i].2.2.1
        · rw [decide_eq_true p1]
          refine ⟨fun ⟨_, _, h⟩ => ?_, fun _ => ⟨_, rfl⟩⟩
          exact (Int.not_lt.2 p1 (h h2).1).elim
        · rw [decide_eq_false p1]
          simp only [cond_false]
          by_cases p2 : l[i - 1].2.2.2.2.1 > l[i].2.2.1
          · rw [decide_eq_true p2]
            refine ⟨fun ⟨_, _, h⟩ => ?_, fun _ => ⟨_, rfl⟩⟩
            exact (Int.not_le.2 p2 (h h2).2).elim
          · rw [decide_eq_false p2]
            refine ⟨fun _ => rfl, fun h => absurd ⟨hi, hv, fun _ => ⟨Int.not_le.1 p1, Int.not_lt.1 p2⟩⟩ h⟩
      · rw [decide_eq_false (show ¬ (i : Int) > 0 by omega)]
        refine ⟨fun _ => rfl, fun h => absurd ⟨hi, hv, fun h3 => absurd h3 h2⟩ h⟩
  · unfold g_L58_0
    try simp only
    rw [decide_eq_false (by omega)]; rfl

/-- A valid chain. -/
def okC (l : List (den Y65)) : Prop := (∀ i, i < l.length → okAt l i) ∧ ∃ h : 0 < l.length, (l[l.length - 1]'(by omega)).2.2.2.2.1 = 1000
theorem p_chain {l : List (den Y65)} (hl : SmallC l) : (bif dec (∀ i, i < l.length → okAt l i) then lastOK l else some (false, ())) = some (dec (okC l), ()) := by
  unfold SmallC at hl
  by_cases h : ∀ i, i < l.length → okAt l i
  · rw [dec_true h]
    unfold lastOK
    simp only [cond_true]
    by_cases h0 : 0 < l.length
    · have hlt : l.length - 1 < l.length := by omega
      rw [decide_eq_true (by omega), show IntKind.i64.wrap (((l.length : Nat) : Int) - 1) = ((l.length - 1 : Nat) : Int) from by rw [wrap_id (by omega) (by omega)]; omega, lAt_nat hlt]
      simp only [cond_true, Option.bind_some, eq_int]
      rw [dec_eq]
      congr 2
      apply dec_congr
      exact ⟨fun e => ⟨h, h0, e⟩, fun ⟨_, _, e⟩ => e⟩
    · rw [decide_eq_false (show ¬ ((l.length : Nat) : Int) > 0 by omega), dec_false (fun ⟨_, h1, _⟩ => h0 h1)]; rfl
  · rw [dec_false h, dec_false (fun h1 => h h1.1)]; rfl

/-- A valid store. -/
def okSt (s : List (List (den Y65))) : Prop := s.length = 6 ∧ ∀ c ∈ s, okC c ∧ c.length ≤ 50
theorem p_S39 {s : den Y41} (hs : SmallCs s.1) : g_S39 s = some (dec (okSt s.1), ()) := by
  have hn := hs.1
  have e : g_S39 s = bif dec (∀ i, i < s.1.length → (∃ h : i < s.1.length, okC s.1[i] ∧ s.1[i].length ≤ 50)) then some ((((s.1.length : Nat) : Int) == 6), ()) else some (false, ()) := by
    refine all_loop (n := s.1.length) (B := fun v => g_L39_0 s v _ some) (t := ()) (fun i hi => ?_) ?_
    · unfold g_L39_0
      try simp only
      have hsm := hs.2 _ (List.getElem_mem hi)
      rw [decide_eq_true (by omega), lAt_nat hi]
      simp only [cond_true, Option.bind_some, p_S55 hsm, p_chain hsm]
      by_cases hc : okC s.1[i]
      · have h0 : 0 < s.1[i].length := hc.2.1
        rw [dec_true hc, wrap_succ hi (by omega), show (0 : Int) = ((0 : Nat) : Int) from rfl, lAt_nat h0]
        simp only [Bool.not_true, cond_false, Option.bind_some]
        by_cases hl : s.1[i].length ≤ 50
        · refine ⟨fun _ => ?_, fun h => absurd ⟨hi, hc, hl⟩ h⟩
          rw [decide_eq_false (show ¬ ((s.1[i].length : Nat) : Int) > 50 by omega)]
          cases decide ((s.1[i][0]).2.2.1 > ((0 : Nat) : Int)) <;> rfl
        · refine ⟨fun ⟨_, _, h⟩ => absurd h hl, fun _ => ⟨(), ?_⟩⟩
          rw [decide_eq_true (show ((s.1[i].length : Nat) : Int) > 50 by omega)]
          cases decide ((s.1[i][0]).2.2.1 > ((0 : Nat) : Int)) <;> rfl
      · rw [dec_false hc]
        exact ⟨fun ⟨_, h, _⟩ => absurd h hc, fun _ => ⟨(), rfl⟩⟩
    · unfold g_L39_0
      try simp only
      rw [decide_eq_false (by omega)]; rfl
  rw [e]
  by_cases h : ∀ i, i < s.1.length → (∃ h : i < s.1.length, okC s.1[i] ∧ s.1[i].length ≤ 50)
  · rw [dec_true h, eq_int, dec_eq]
    simp only [cond_true]
    congr 2
    apply dec_congr
    constructor
    · intro e
      refine ⟨by omega, fun c hc => ?_⟩
      obtain ⟨i, hi, rfl⟩ := List.getElem_of_mem hc
      exact (h i hi).2
    · rintro ⟨e, _⟩; omega
  · rw [dec_false h, dec_false (fun h1 : okSt s.1 => h fun i hi => ⟨hi, h1.2 _ (List.getElem_mem hi)⟩)]; rfl

theorem p_S57 {l : List (den Y65)} (hl : SmallC l) : g_S57 l = some (dec (¬ (okC l ∧ l.length ≤ 50)), ()) := by
  unfold g_S57
  rw [p_S58 hl, p_chain hl]
  simp only [Option.bind_some]
  by_cases h : okC l
  · by_cases h2 : l.length ≤ 50
    · rw [dec_true h, decide_eq_false (show ¬ ((l.length : Nat) : Int) > 50 by omega), dec_false (fun hh => hh ⟨h, h2⟩)]; rfl
    · rw [dec_true h, decide_eq_true (show ((l.length : Nat) : Int) > 50 by omega), dec_true (fun hh => h2 hh.2)]; rfl
  · rw [dec_false h, dec_true (fun hh => h hh.1)]; rfl

theorem p_S42 {s : den Y41} (hs : SmallCs s.1) : g_S42 s = some (dec (okSt s.1), ()) := by
  have hn := hs.1
  have e : ∃ n : Int, g_S69 s.1 () = some (n, ()) ∧ (n ≥ 0 ↔ ¬ ∀ c ∈ s.1, okC c ∧ c.length ≤ 50) := by
    have key : ∀ k i : Nat, i + k = s.1.length → ∃ q, iter (fun v => g_L69_0 s.1 () ((s.1.length : Nat) : Int) v _ some) (i : Int) = some q ∧ ((∃ n : Nat, q = .inl (n : Int) ∧ ¬ ∀ c ∈ s.1.drop i, okC c ∧ c.length ≤ 50) ∨ (q = .inr () ∧ ∀ c ∈ s.1.drop i, okC c ∧ c.length ≤ 50)) := by
      intro k
      induction k with
      | zero =>
        intro i hi
        refine ⟨.inr (), ?_, .inr ⟨rfl, fun c hc => by rw [List.drop_eq_nil_iff.2 (by omega)] at hc; cases hc⟩⟩
        rw [iter_eq]; unfold g_L69_0
        try simp only
        rw [decide_eq_false (by omega)]; rfl
      | succ k ih =>
        intro i hi
        have hlt : i < s.1.length := by omega
        have hsm := hs.2 _ (List.getElem_mem hlt)
        rw [iter_eq]
        unfold g_L69_0
        try simp only
        rw [decide_eq_true (by omega), lAt_nat hlt]
        simp only [cond_true, Option.bind_some, p_S57 hsm]
        by_cases hc : okC s.1[i] ∧ s.1[i].length ≤ 50
        · rw [dec_false (fun h => h hc), wrap_succ hlt (by omega)]
          obtain ⟨q, h1, h2⟩ := ih (i + 1) (by omega)
          refine ⟨q, h1, h2.imp ?_ ?_⟩
          · rintro ⟨n, rfl, h3⟩
            exact ⟨n, rfl, fun h4 => h3 fun c hc => h4 c (by rw [List.drop_eq_getElem_cons hlt]; exact List.mem_cons_of_mem _ hc)⟩
          · rintro ⟨rfl, h3⟩
            refine ⟨rfl, fun c h4 => ?_⟩
            rw [List.drop_eq_getElem_cons hlt] at h4
            rcases List.mem_cons.1 h4 with rfl | h4
            · exact hc
            · exact h3 c h4
        · rw [dec_true hc]
          exact ⟨_, rfl, .inl ⟨i, rfl, fun h => hc (h _ (by rw [List.drop_eq_getElem_cons hlt]; exact List.mem_cons_self ..))⟩⟩
    obtain ⟨q, h1, h2⟩ := key s.1.length 0 (by omega)
    unfold g_S69
    simp only [Int.natCast_zero] at h1
    rw [h1]
    rcases h2 with ⟨n, rfl, h3⟩ | ⟨rfl, h3⟩
    · exact ⟨n, rfl, by simp only [List.drop_zero] at h3; exact ⟨fun _ => h3, fun _ => by omega⟩⟩
    · exact ⟨-1, rfl, by simp only [List.drop_zero] at h3; exact ⟨fun h => by omega, fun h => absurd h3 h⟩⟩
  obtain ⟨n, h1, h2⟩ := e
  unfold g_S42 g_S56
  rw [h1, eq_int]
  simp only [Option.bind_some]
  by_cases h6 : s.1.length = 6
  · rw [decide_eq_true (by omega)]
    simp only [cond_true]
    congr 2
    by_cases h : ∀ c ∈ s.1, okC c ∧ c.length ≤ 50
    · rw [decide_eq_false (fun hn => h2.1 hn h), dec_true (show okSt s.1 from ⟨h6, h⟩)]; rfl
    · rw [decide_eq_true (h2.2 h), dec_false (fun hh : okSt s.1 => h hh.2)]; rfl
  · rw [decide_eq_false (by omega), dec_false (fun hh : okSt s.1 => h6 hh.1)]; rfl

/-- The last stamp of a store. -/
def lastC (n : Int) (l : List (den Y65)) : Int := l.foldl (fun n v => mx n v.2.2.2.1) n
theorem p_L44 {s : List (List (den Y65))} {x2 x3 : Int} {l : List (den Y65)} (hl : SmallC l) (n : Int) : iter (fun v => g_L44_1 s x2 x3 l ((l.length : Nat) : Int) v.1 v.2 _ some) (n, 0) = some (lastC n l) := by
  unfold SmallC at hl
  refine fold_loop (l := l) (f := fun n v => mx n v.2.2.2.1) (fun i h n => ?_) (fun n => ?_) n
  · unfold g_L44_1
    simp only
    rw [decide_eq_true (by omega), lAt_nat h, wrap_succ h (by omega)]; rfl
  · unfold g_L44_1
    simp only
    rw [decide_eq_false (by omega)]; rfl
theorem p_S44 {s : den Y41} (hs : SmallCs s.1) : g_S44 s = some (s.1.foldl lastC 0, ()) := by
  have hn := hs.1
  unfold g_S44
  rw [fold_loop (l := s.1) (f := lastC) (B := fun v => g_L44_0 s.1 ((s.1.length : Nat) : Int) v.1 v.2 _ some) (fun i h n => ?_) (fun n => ?_) 0]
  · rfl
  · unfold g_L44_0
    simp only
    rw [decide_eq_true (by omega), lAt_nat h, wrap_succ h (by omega)]
    simp only [cond_true, Option.bind_some, p_L44 (hs.2 _ (List.getElem_mem h))]
  · unfold g_L44_0
    simp only
    rw [decide_eq_false (by omega)]; rfl

theorem foldl_mem {α σ : Type} {f g : σ → α → σ} : (l : List α) → (∀ x ∈ l, ∀ n, f n x = g n x) → ∀ n, l.foldl f n = l.foldl g n
  | [], _, _ => rfl
  | x :: l, h, n => by
    simp only [List.foldl_cons]
    rw [h x (by simp)]
    exact foldl_mem l (fun y hy => h y (by simp [hy])) _
theorem mx_mx {n a b : Int} (h : a ≤ b) : mx (mx n a) b = mx n b := by
  unfold mx; repeat' split
  all_goals omega

theorem p_S41 {s : den Y41} (hs : SmallCs s.1) (hok : okSt s.1) : g_S41 s = some (s.1.foldl lastC 0, ()) := by
  have hn := hs.1
  unfold g_S41
  rw [fold_loop (l := s.1) (f := lastC) (B := fun v => g_L41_0 s v.1 v.2 _ some) (fun i h n => ?_) (fun n => ?_) 0]
  · rfl
  · unfold g_L41_0
    simp only
    rw [decide_eq_true (by omega), p_S39 hs, dec_true hok, wrap_succ h (by omega)]
    simp only [cond_true, Option.bind_some]
    have hsm := hs.2 _ (List.getElem_mem h)
    have hc := (hok.2 _ (List.getElem_mem h)).1
    have hsm' : s.1[i].length ≤ 1048576 := hsm
    have e := fold_loop (l := s.1[i]) (f := fun n v => mx (mx n v.2.2.1) v.2.2.2.1) (B := fun v => g_L41_1 (i : Int) s v.1 v.2 _ some) (fun k hk n => by
      unfold g_L41_1
      simp only
      rw [lAt_nat h]
      simp only [Option.bind_some]
      rw [decide_eq_true (by omega), lAt_nat hk, wrap_succ hk (by omega)]; rfl) (fun n => by
      unfold g_L41_1
      simp only
      rw [lAt_nat h]
      simp only [Option.bind_some]
      rw [decide_eq_false (by omega)]; rfl) n
    rw [e]
    simp only [Option.bind_some]
    rw [foldl_mem (g := fun n (v : den Y65) => mx n v.2.2.2.1) s.1[i] (fun v hv n => ?_) n]
    · rfl
    · obtain ⟨k, hk, rfl⟩ := List.getElem_of_mem hv
      obtain ⟨_, h1, _⟩ := hc.1 k hk
      exact mx_mx (okV_le h1)
  · unfold g_L41_0
    simp only
    rw [decide_eq_false (by omega)]; rfl

/-- A valid replica. -/
noncomputable def okR (r : den Y43) : Bool := bif dec (okSt r.2.2.1.1) then (bif inB r.1 (r.2.2.1.1.foldl lastC 0) 999 then inB r.2.1 0 r.1 else false) else false
theorem p_S22 {r : den Y43} (hr : SmallCs r.2.2.1.1) : g_S22 r = some (okR r, ()) := by
  unfold g_S22 okR
  rw [p_S39 hr]
  simp only [Option.bind_some]
  by_cases h : okSt r.2.2.1.1
  · rw [dec_true h]
    simp only [cond_true, p_S41 hr h, p_S40, Option.bind_some]
    cases inB r.1 (r.2.2.1.1.foldl lastC 0) 999 <;> rfl
  · rw [dec_false h]; rfl
theorem p_S23 {r : den Y43} (hr : SmallCs r.2.2.1.1) : g_S23 r = some (okR r, ()) := by
  unfold g_S23 okR
  rw [p_S42 hr]
  simp only [Option.bind_some]
  by_cases h : okSt r.2.2.1.1
  · rw [dec_true h]
    simp only [cond_true, p_S44 hr, p_S43, Option.bind_some]
    cases inB r.1 (r.2.2.1.1.foldl lastC 0) 999 <;> rfl
  · rw [dec_false h]; rfl

/-- **FnExactIsValidReplica's function answers true.** -/
theorem p_law6 (x : den (.prod Y43 .unit)) (hx : wf (.prod Y43 .unit) x) : g_S6 x.1 = some (true, ()) := by
  refine law_sz (p_S18 hx.1 (by omega) (by omega)) fun n h0 h1 hA => ?_
  simp only [p_S20 hA, Option.bind_some, p_S22 hA, p_S23 hA, p_S15 hA]
  simp
end Go.Ab
