import Derived.Test.YtaefbkkplgaplaaPlB
set_option linter.unusedVariables false
set_option linter.unusedSimpArgs false
namespace Go.Ab

/-- The last stamp of a store. -/
def lastC (n : Int) (l : List VV) : Int := l.foldl (fun n v => mx n v.2.2.2.1) n
theorem p_implLast {s : List (List VV)} (hs : SmallCs s) : impl_Store_lastStamp_S ((s, ()), ()) = some (s.foldl lastC 0, ()) := by
  have hn := hs.1
  unfold impl_Store_lastStamp_S
  refine fold_loopK (l := s) (f := lastC) (X := fun n => some (n, ())) 0 (fun i h n => ?_) (fun n => ⟨(n, ()), ?_, rfl⟩) rfl
  · unfold impl_Store_lastStamp_D3
    have hsm : s[i].length ≤ 1048576 := hs.2 _ (List.getElem_mem h)
    simp only [lAt_nat h, Option.bind_some]
    rw [decide_eq_true (by omega), wrap_succ h (by omega)]
    simp only [cond_true]
    refine fold_loopK (l := s[i]) (f := fun n v => mx n v.2.2.2.1) (X := fun n => some (.inl (n, ((i + 1 : Nat) : Int), ()))) n (fun j hj n => ?_) (fun n => ⟨(n, ()), ?_, rfl⟩) rfl
    · unfold impl_Store_lastStamp_D6
      simp only [lAt_nat hj, Option.bind_some]
      rw [decide_eq_true (by omega), wrap_succ hj (by omega)]; rfl
    · unfold impl_Store_lastStamp_D6
      simp only
      rw [decide_eq_false (by omega)]; rfl
  · unfold impl_Store_lastStamp_D3
    simp only
    rw [decide_eq_false (by omega)]; rfl
theorem foldl_mem {α σ : Type} {f g : σ → α → σ} : (l : List α) → (∀ x ∈ l, ∀ n, f n x = g n x) → ∀ n, l.foldl f n = l.foldl g n
  | [], _, _ => rfl
  | x :: l, h, n => by
    simp only [List.foldl_cons]
    rw [h x (by simp)]
    exact foldl_mem l (fun y hy => h y (by simp [hy])) _
theorem mx_mx {n a b : Int} (h : a ≤ b) : mx (mx n a) b = mx n b := by
  unfold mx; repeat' split
  all_goals omega
theorem p_specLast {s : List (List VV)} (hs : SmallCs s) (hok : okSt s) : spec_LastStamp_S ((s, ()), ()) = some (s.foldl lastC 0, ()) := by
  have hn := hs.1
  unfold spec_LastStamp_S
  refine fold_loopK (l := s) (f := lastC) (X := fun n => some (n, ())) 0 (fun i h n => ?_) (fun n => ⟨.inr (n, ()), ?_, rfl⟩) rfl
  · unfold spec_LastStamp_D3
    have hsm : s[i].length ≤ 1048576 := hs.2 _ (List.getElem_mem h)
    simp only [p_specS hs, dec_true hok, Option.bind_some]
    rw [decide_eq_true (by omega), wrap_succ h (by omega)]
    simp only [cond_true]
    have hc := (hok.2 _ (List.getElem_mem h)).1
    refine fold_loopK (l := s[i]) (f := fun n v => mx (mx n v.2.2.1) v.2.2.2.1) (X := fun n => some (.inl (n, ((i + 1 : Nat) : Int), ()))) n (fun j hj n => ?_) (fun n => ⟨(n, ()), ?_, rfl⟩) ?_
    · unfold spec_LastStamp_D6
      simp only [lAt_nat h, lAt_nat hj, Option.bind_some]
      rw [decide_eq_true (by omega), wrap_succ hj (by omega)]; rfl
    · unfold spec_LastStamp_D6
      simp only [lAt_nat h, Option.bind_some]
      rw [decide_eq_false (by omega)]; rfl
    · rw [foldl_mem (g := fun n (v : VV) => mx n v.2.2.2.1) s[i] (fun v hv n => ?_) n]
      · rfl
      · obtain ⟨k, hk, rfl⟩ := List.getElem_of_mem hv
        obtain ⟨_, h1, _⟩ := hc.1 k hk
        exact mx_mx (okV_le h1)
  · unfold spec_LastStamp_D3
    simp only
    rw [decide_eq_false (by omega)]; rfl

/-- A valid replica. -/
noncomputable def okR (a b : Int) (s : List (List VV)) : Bool := bif dec (okSt s) then (bif inB a (s.foldl lastC 0) 999 then inB b 0 a else false) else false
theorem p_specR {a b : Int} {s : List (List VV)} (hs : SmallCs s) : spec_IsValidReplica_S ((a, b, (s, ()), ()), ()) = some (okR a b s, ()) := by
  unfold spec_IsValidReplica_S okR
  simp only [p_specS hs, Option.bind_some]
  by_cases h : okSt s
  · rw [dec_true h]
    simp only [cond_true, p_specLast hs h, p_specIn, Option.bind_some]
    cases inB a (s.foldl lastC 0) 999 <;> rfl
  · rw [dec_false h]; rfl
theorem p_implR {a b : Int} {s : List (List VV)} (hs : SmallCs s) : impl_IsValidReplica_S ((a, b, (s, ()), ()), ()) = some (okR a b s, ()) := by
  unfold impl_IsValidReplica_S okR
  simp only [p_implS hs, Option.bind_some]
  by_cases h : okSt s
  · rw [dec_true h]
    simp only [cond_true, p_implLast hs, p_implIn, Option.bind_some]
    cases inB a (s.foldl lastC 0) 999 <;> rfl
  · rw [dec_false h]; rfl

/-- The last of the first k versions that begins not behind a stamp. -/
noncomputable def vA (l : List VV) (stamp : Int) : Nat → Int
  | 0 => -1
  | k + 1 => bif dec (∃ h : k < l.length, l[k].2.2.1 ≤ stamp) then (k : Int) else vA l stamp k
theorem vA_range (l : List VV) (stamp : Int) : ∀ k, -1 ≤ vA l stamp k ∧ vA l stamp k < k
  | 0 => by simp [vA]
  | k + 1 => by
    have := vA_range l stamp k
    unfold vA
    cases dec (∃ h : k < l.length, l[k].2.2.1 ≤ stamp) <;> simp <;> omega
theorem p_specAt {l : List VV} (hl : SmallC l) (hok : okC l) (stamp : Int) : spec_VersionAt_S (l, stamp, ()) = some (vA l stamp l.length, ()) := by
  have hl' : l.length ≤ 1048576 := hl
  unfold spec_VersionAt_S
  refine iter_upK l.length (fun i => (vA l stamp i, (i : Int), ())) rfl (fun i hi => ?_) ⟨.inr (vA l stamp l.length, ()), ?_, rfl⟩
  · unfold spec_VersionAt_D3
    simp only [p_specC hl, dec_true hok, lAt_nat hi, Option.bind_some]
    rw [decide_eq_true (by omega), wrap_succ hi (by omega)]
    simp only [cond_true]
    by_cases h : l[i].2.2.1 ≤ stamp
    · rw [decide_eq_true h]
      simp only [cond_true, vA]
      rw [dec_true ⟨hi, h⟩]; rfl
    · rw [decide_eq_false h]
      simp only [cond_false, vA]
      rw [dec_false fun ⟨_, h2⟩ => h h2]; rfl
  · unfold spec_VersionAt_D3
    simp only
    rw [decide_eq_false (by omega)]; rfl
theorem p_implAt {l : List VV} (hl : SmallC l) (stamp : Int) : impl_versionAt_S (l, stamp, ()) = some (vA l stamp l.length, ()) := by
  have hl' : l.length ≤ 1048576 := hl
  unfold impl_versionAt_S
  have key : ∀ k : Nat, k ≤ l.length → ((iter (fun v => impl_versionAt_D2 (l, stamp, ()) v _ some) ((k : Int) - 1, ())).bind fun p => sumC p (fun p => some (p.1, ())) fun p => some (p.1, ())) = some (vA l stamp k, ()) := by
    intro k
    induction k with
    | zero =>
      intro _
      rw [iter_eq]; unfold impl_versionAt_D2
      rfl
    | succ k ih =>
      intro hk
      have hlt : k < l.length := by omega
      rw [iter_eq]
      have hB : impl_versionAt_D2 (l, stamp, ()) (((k + 1 : Nat) : Int) - 1, ()) _ some = some (bif decide (l[k].2.2.1 ≤ stamp) then .inr (.inl ((k : Int), ())) else .inl ((k : Int) - 1, ())) := by
        unfold impl_versionAt_D2
        simp only [show ((k + 1 : Nat) : Int) - 1 = (k : Int) by omega, lAt_nat hlt, Option.bind_some]
        rw [decide_eq_true (show (k : Int) ≥ 0 by omega), wrap_id (by omega) (by omega)]
        by_cases h : l[k].2.2.1 ≤ stamp
        · rw [decide_eq_false (show ¬ l[k].2.2.1 > stamp from Int.not_lt.2 h), decide_eq_true h]; rfl
        · rw [decide_eq_true (show l[k].2.2.1 > stamp from Int.not_le.1 h), decide_eq_false h]; rfl
      rw [hB]
      by_cases h : l[k].2.2.1 ≤ stamp
      · rw [decide_eq_true h]
        simp only [cond_true, Option.bind_some, vA]
        rw [dec_true ⟨hlt, h⟩]; rfl
      · rw [decide_eq_false h]
        simp only [cond_false, Option.bind_some, vA]
        rw [dec_false fun ⟨_, h2⟩ => h h2]; exact ih (by omega)
  simp only
  rw [wrap_id (by omega) (by omega)]
  exact key l.length (Nat.le_refl _)

/-- What is read of a key at a stamp. -/
noncomputable def rdV (s : List (List VV)) (key stamp : Int) : Option VV :=
  bif dec (okSt s) then (bif inB key 0 5 then ((s[key.toNat]?).bind fun l => bif decide (vA l stamp l.length < 0) then none else l[(vA l stamp l.length).toNat]?) else none) else none
def rdT (o : Option VV) : Int × Int × Int × Int × Int × Bool × Unit := match o with
  | some v => (v.1, v.2.1, v.2.2.1, v.2.2.2.1, v.2.2.2.2.1, true, ())
  | none => (0, 0, 0, 0, 0, false, ())
theorem p_read {s : List (List VV)} (hs : SmallCs s) (key stamp : Int) : spec_ReadAt_S ((s, ()), key, stamp, ()) = some (rdT (rdV s key stamp)) ∧ impl_ReadAt_S ((s, ()), key, stamp, ()) = some (rdT (rdV s key stamp)) := by
  unfold spec_ReadAt_S impl_ReadAt_S rdV
  simp only [p_specS hs, p_implS hs, p_specIn, p_isKey, Option.bind_some]
  by_cases hok : okSt s
  · rw [dec_true hok]
    simp only [Bool.not_true, cond_false]
    cases hk : inB key 0 5 with
    | false => exact ⟨rfl, rfl⟩
    | true =>
      simp only [Bool.not_true, cond_false]
      unfold inB at hk
      simp only [Bool.and_eq_true, decide_eq_true_eq] at hk
      obtain ⟨k, rfl⟩ := Int.eq_ofNat_of_zero_le hk.1
      have hlt : k < s.length := by have := hok.1; omega
      have hsm := hs.2 _ (List.getElem_mem hlt)
      have hc := (hok.2 _ (List.getElem_mem hlt)).1
      rw [lAt_nat hlt]
      simp only [Option.bind_some, p_specAt hsm hc, p_implAt hsm, cond_true]
      have hr := vA_range s[k] stamp s[k].length
      have hg : s[((k : Nat) : Int).toNat]? = some s[k] := by simp [hlt]
      rw [hg]
      simp only [Option.bind_some]
      by_cases h : vA s[k] stamp s[k].length < 0
      · rw [decide_eq_true h]
        exact ⟨rfl, rfl⟩
      · rw [decide_eq_false h]
        obtain ⟨j, hj⟩ := Int.eq_ofNat_of_zero_le (show 0 ≤ vA s[k] stamp s[k].length by omega)
        rw [hj] at hr ⊢
        have hjl : j < s[k].length := by omega
        have e : lAt s[k] ((j : Nat) : Int) = some s[k][j] := lAt_nat hjl
        have e2 : s[k][((j : Nat) : Int).toNat]? = some s[k][j] := by simp [hjl]
        simp only [cond_false, e, e2, Option.bind_some]
        exact ⟨rfl, rfl⟩
  · rw [dec_false hok]
    exact ⟨rfl, rfl⟩

/-- The marks at a stamp. -/
noncomputable def mkA (s : List (List VV)) (stamp : Int) : Nat → Nat → List VM → List VM
  | 0, _, acc => acc
  | n + 1, k, acc => match rdV s k stamp with
    | some v => mkA s stamp n (k + 1) (acc ++ [((k : Int), v.2.2.1, ())])
    | none => []
theorem mkA_length (s : List (List VV)) (stamp : Int) : ∀ n k acc, acc.length ≤ k → (mkA s stamp n k acc).length ≤ k + n
  | 0, k, acc, h => by simpa [mkA] using h
  | n + 1, k, acc, h => by
    unfold mkA
    cases rdV s k stamp with
    | none => simp
    | some v => have := mkA_length s stamp n (k + 1) (acc ++ [((k : Int), v.2.2.1, ())]) (by simp; omega); simp only; omega
theorem p_implMarks {s : List (List VV)} (hs : SmallCs s) (stamp : Int) : impl_MarksAt_S ((s, ()), stamp, ()) = some (mkA s stamp 6 0 [], ()) := by
  unfold impl_MarksAt_S
  have key : ∀ n k : Nat, ∀ acc : List VM, k + n = 6 → acc.length ≤ k → ((iter (fun v => impl_MarksAt_D3 (stamp, s, ()) v _ some) ((k : Int), acc, ())).bind fun p => sumC p (fun p => some ([], ())) fun p => some (p.1, ())) = some (mkA s stamp n k acc, ()) := by
    intro n
    induction n with
    | zero =>
      intro k acc hk ha
      rw [iter_eq]
      unfold impl_MarksAt_D3
      simp only
      rw [decide_eq_false (by omega)]; rfl
    | succ n ih =>
      intro k acc hk ha
      rw [iter_eq]
      unfold mkA
      cases hv : rdV s (k : Int) stamp with
      | none =>
        have hB : ∃ r, impl_MarksAt_D3 (stamp, s, ()) ((k : Int), acc, ()) _ some = some (.inr (.inl r)) := by
          unfold impl_MarksAt_D3
          simp only [(p_read hs (k : Int) stamp).2, hv, rdT, Option.bind_some]
          rw [decide_eq_true (by omega)]
          exact ⟨_, rfl⟩
        obtain ⟨r, hB⟩ := hB
        rw [hB]; rfl
      | some v =>
        have hB : impl_MarksAt_D3 (stamp, s, ()) ((k : Int), acc, ()) _ some = some (.inl (((k + 1 : Nat) : Int), acc ++ [((k : Int), v.2.2.1, ())], ())) := by
          unfold impl_MarksAt_D3
          simp only [(p_read hs (k : Int) stamp).2, hv, rdT, Option.bind_some]
          rw [decide_eq_true (by omega), if_pos (by simp; omega), wr1 (by omega) (by omega)]
          simp only [Bool.not_true, cond_true, cond_false]
          push_cast; rfl
        rw [hB]
        simp only [Option.bind_some]
        exact ih (k + 1) _ (by omega) (by simp; omega)
  exact key 6 0 [] rfl (by simp)
theorem p_specMarks {s : List (List VV)} (hs : SmallCs s) (hok : okSt s) (stamp : Int) : spec_MarksAt_S ((s, ()), stamp, ()) = some (mkA s stamp 6 0 [], ()) := by
  unfold spec_MarksAt_S
  have key : ∀ n k : Nat, ∀ acc : List VM, k + n = 6 → acc.length ≤ k → ((iter (fun v => spec_MarksAt_D3 (stamp, s, ()) v _ some) ((k : Int), acc, ())).bind fun p => sumC p (fun p => some ([], ())) fun p => sumC p (fun p => some (p.1, ())) fun p => some (p.1, ())) = some (mkA s stamp n k acc, ()) := by
    intro n
    induction n with
    | zero =>
      intro k acc hk ha
      rw [iter_eq]
      unfold spec_MarksAt_D3
      simp only
      rw [decide_eq_false (by omega)]; rfl
    | succ n ih =>
      intro k acc hk ha
      rw [iter_eq]
      unfold mkA
      cases hv : rdV s (k : Int) stamp with
      | none =>
        have hB : ∃ r, spec_MarksAt_D3 (stamp, s, ()) ((k : Int), acc, ()) _ some = some (.inr (.inl r)) := by
          unfold spec_MarksAt_D3
          simp only [(p_read hs (k : Int) stamp).1, hv, rdT, Option.bind_some, p_specS hs, dec_true hok]
          rw [decide_eq_true (by omega)]
          exact ⟨_, rfl⟩
        obtain ⟨r, hB⟩ := hB
        rw [hB]; rfl
      | some v =>
        have hB : spec_MarksAt_D3 (stamp, s, ()) ((k : Int), acc, ()) _ some = some (.inl (((k + 1 : Nat) : Int), acc ++ [((k : Int), v.2.2.1, ())], ())) := by
          unfold spec_MarksAt_D3
          simp only [(p_read hs (k : Int) stamp).1, hv, rdT, Option.bind_some, p_specS hs, dec_true hok]
          rw [decide_eq_true (by omega), if_pos (by simp; omega), wr1 (by omega) (by omega)]
          simp only [Bool.not_true, cond_true, cond_false]
          push_cast; rfl
        rw [hB]
        simp only [Option.bind_some]
        exact ih (k + 1) _ (by omega) (by simp; omega)
  exact key 6 0 [] rfl (by simp)
theorem p_specMarks' {s : List (List VV)} (hs : SmallCs s) (stamp : Int) : ∃ m : List VM, spec_MarksAt_S ((s, ()), stamp, ()) = some (m, ()) ∧ (okSt s → m = mkA s stamp 6 0 []) := by
  by_cases hok : okSt s
  · exact ⟨_, p_specMarks hs hok stamp, fun _ => rfl⟩
  · refine ⟨[], ?_, fun h => absurd h hok⟩
    unfold spec_MarksAt_S
    have hB : spec_MarksAt_D3 (stamp, s, ()) (0, [], ()) _ some = some (.inr (.inr (.inl ([], ())))) := by
      unfold spec_MarksAt_D3
      simp only [p_specS hs, dec_false hok, Option.bind_some]
      rfl
    simp only
    rw [iter_eq, hB]; rfl

/-- **ReplicaEntry: the program's and the reference's.** -/
theorem p_entry {a b id : Int} {s : List (List VV)} (hs : SmallCs s) : ∃ (x y : Int) (m : List VM) (t : Bool), m.length ≤ 6 ∧ spec_ReplicaEntry_S ((a, b, (s, ()), ()), id, ()) = some (x, y, t, m, ()) ∧ impl_ReplicaEntry_S ((a, b, (s, ()), ()), id, ()) = some (x, y, t, m, ()) := by
  unfold spec_ReplicaEntry_S impl_ReplicaEntry_S impl_readerEntry_S
  obtain ⟨m, e1, e2⟩ := p_specMarks' hs b
  simp only [e1, Option.bind_some, p_specR hs, p_implR hs, p_implMarks hs, p_specIn, p_isID]
  cases hR : okR a b s with
  | false => exact ⟨0, 0, [], false, by simp, rfl, rfl⟩
  | true =>
    have hok : okSt s := by
      unfold okR at hR
      by_cases h : okSt s
      · exact h
      · rw [dec_false h] at hR; cases hR
    rw [e2 hok]
    simp only [Bool.not_true, cond_false]
    cases inB id 1 9 with
    | false => exact ⟨0, 0, [], false, by simp, rfl, rfl⟩
    | true =>
      simp only [Bool.not_true, cond_false]
      cases hz : ((((mkA s b 6 0 []).length : Nat) : Int) == 0) with
      | true => exact ⟨0, 0, [], false, by simp, rfl, rfl⟩
      | false =>
        refine ⟨id, mx 1 b, mkA s b 6 0 [], true, by have := mkA_length s b 6 0 [] (by simp); omega, rfl, ?_⟩
        simp only [cond_false, Option.bind_some]
        congr 2
        congr 1
        unfold mx; repeat' split
        all_goals omega
end Go.Ab
