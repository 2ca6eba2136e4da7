import Derived.Test.YthjochcbdhiclaaGreatAbMat3
set_option linter.unnecessarySimpa false
set_option linter.unusedVariables false
set_option linter.unusedSimpArgs false
namespace Go.Ab
structure FrOK (n : Nat) (F : Fr) : Prop where
  lt : ∀ r c, F.h0.getD r none = some c → r < n
  ver : ∀ r ro v t xs ho, F.h0.getD r none = some (.tree ro v t xs ho) → v = 0
theorem stat_some {h : Heap} {r : Nat} {s : Sub} {c : Cont} (e : stat h r s = .on c) : ∃ c0, h.getD r none = some c0 := by
  cases hc : h.getD r none with
  | none => cases s <;> simp only [stat, hc] at e <;> cases e
  | some c0 => exact ⟨c0, rfl⟩
theorem stat_ver {h : Heap} {r i k v : Nat} {c : Cont} (e : stat h r (some (i, k, v)) = .on c) : ∃ ro t xs ho, h.getD r none = some (.tree ro v t xs ho) := by
  obtain ⟨c0, hc⟩ := stat_some e
  cases c0 with
  | tree ro v' t xs ho => obtain ⟨rfl, _⟩ := stat_nest hc e; exact ⟨ro, t, xs, ho, hc⟩
  | lst ro t xs => simp only [stat, hc] at e; cases e
  | cells n es => simp only [stat, hc] at e; cases e
  | shp n l => simp only [stat, hc] at e; cases e
  | dead => simp only [stat, hc] at e; cases e
theorem verOk_lt {n q v v' : Nat} {ro : Bool} (h : verOk n q ro v v' = true) (hq : q < n) : v = 0 → v' = 0 := by
  unfold verOk at h
  have : Nat.blt q n = true := Nat.ble_eq_true_of_le hq
  rw [this] at h
  simp only [if_true] at h
  rintro rfl
  cases ro
  · simpa using h
  · simpa using h
theorem verOk_ro {n q v v' : Nat} (h : verOk n q true v v' = true) (hq : q < n) : v' = 0 → v = 0 := by
  unfold verOk at h
  have : Nat.blt q n = true := Nat.ble_eq_true_of_le hq
  rw [this] at h
  simp only [if_true, cond_true] at h
  rintro rfl
  simpa using h
section
variable {n m : Nat} {F : Fr} {E : Env} {h h' : Heap} {w : World} {ρ : Ren} {ver : Nat → Nat}
theorem read_inv (FO : FrOK n F) (HI : Inv F E h w) (hnm : n ≤ m) (hid : ∀ q, q < n → ρ.getD q none = some q) (hnd : (boundOf ρ).Nodup)
    {os : List (Option Cont)} (hS : ∀ q, q < m → Stands false n m h (roH h) ρ ver q (os.getD q none))
    (H' : ∀ q, q < m → h'.getD q none = match os.getD q none with | some c => some c | none => h.getD q none) (H2 : ∀ q, m ≤ q → h'.getD q none = none)
    (hk : ∀ q, q < n → os.getD q none = none → ∀ c, h.getD q none = some c → c ≠ .dead → ver q = 0 ∧ ((∃ t xs, c = .lst true t xs) ∨ ∃ t xs, c = .tree true 0 t xs none)) :
    Inv F (E.ren h' ρ E.I) h' w ∧ RefMap m h (roH h) ρ ver E h w (E.ren h' ρ E.I) h' := by
  have H : ∀ q, q < m → ∃ c, h'.getD q none = some c ∧ Src1 false n m h h (roH h) ρ ver q c := by
    intro q hq
    have h1 := hS q hq
    have h2 := H' q hq
    cases ho : os.getD q none with
    | some c => rw [ho] at h1 h2; exact ⟨c, h2, h1.src (SubH.refl h)⟩
    | none =>
      rw [ho] at h1 h2
      rcases h1 with h3 | ⟨_, hqn, c, hc, hd⟩ | ⟨_, h3⟩ | ⟨r, _, h3⟩
      · cases h3
      · refine ⟨c, by rw [h2]; exact hc, .inr (.inr ⟨q, hid q hqn, ?_⟩)⟩
        obtain ⟨hv0, ⟨t, xs, rfl⟩ | ⟨t, xs, rfl⟩⟩ := hk q hqn ho c hc hd
        · exact .inl ⟨true, true, t, xs, hc, rfl, rfl⟩
        · refine .inr (.inl ⟨true, true, 0, t, xs, hc, by rw [hv0], rfl, fun v hv1 => ?_, by rw [hv0]; unfold verOk; split <;> rfl⟩)
          unfold curVer at hv1; rw [hc] at hv1; exact (eq_of_beq hv1).symm
      · rcases h3 with ⟨_, _, h3⟩ | ⟨_, _, h3⟩ <;> cases h3
      · rcases h3 with ⟨_, _, _, _, _, h3, _⟩ | ⟨_, _, _, _, _, _, h3, _⟩ | ⟨_, _, _, _, h3, _⟩ <;> cases h3
  have hpk : PackOK (roH h) E h w E.I := ⟨fun b hb => hb, (SubH.refl h).ro, .inr HI.heap, fun r c hc κ b k h1 => by
    rw [getD_roH] at hc
    refine HI.heap.roI r κ b k h1 ?_
    unfold roAt
    split at hc
    · rename_i c' e
      rw [e]
      split at hc
      · rename_i e2; exact e2
      · cases hc
    · cases hc⟩
  have hro : ∀ q r c, ρ.getD q none = some r → h'.getD q none = some c → q < m → c ≠ .dead → roAt h r = c.ro := by
    intro q r c hr hc hq hd
    obtain ⟨c', hc', h1⟩ := H q hq
    rw [hc] at hc'; obtain rfl : c = c' := by simpa using hc'
    rcases h1 with rfl | ⟨h2, _⟩ | ⟨r', h2, h3⟩
    · exact absurd rfl hd
    · rw [hr] at h2; cases h2
    · rw [hr] at h2; obtain rfl : r = r' := by simpa using h2
      rcases h3 with ⟨ro, ro', t, xs, h4, rfl, h5⟩ | ⟨ro, ro', v', t, xs, h4, rfl, h5, _⟩ | ⟨k, cs, cs', h4, rfl, _⟩
      · rw [roAt_of h4]; cases ro <;> cases ro' <;> first | rfl | cases h5
      · rw [roAt_of h4]; cases ro <;> cases ro' <;> first | rfl | cases h5
      · rw [roAt_of h4]; rfl
  have hlt : ∀ q c, h'.getD q none = some c → q < m := fun q c hc => by
    rcases Nat.lt_or_ge q m with h1 | h1
    · exact h1
    · rw [H2 q h1] at hc; cases hc
  have hro2 : ∀ q κ b k, (E.ren h' ρ E.I).ι q κ = some (b, k) → ∃ r, E.ι r κ = some (b, k) ∧ roAt h r = roAt h' q := by
    intro q κ b k h1
    obtain ⟨r, h2, h3, c, h4, h5⟩ := ren_ι h1
    exact ⟨r, h3, by rw [hro q r c h2 h4 (hlt q c h4) h5, roAt_of h4]⟩
  have hHeap : HeapOK (E.ren h' ρ E.I) h' w := by
    refine ren_heap HI.heap (SubH.refl h) H H2 hpk hnd HI.heap.I_lt (fun q r κ b k hr hro' hex h1 => ?_) (fun q r κ b k hr hro' h1 => ?_)
    · obtain ⟨c, hc, hd⟩ := hex
      exact HI.heap.apart r κ b k h1 (by rw [hro q r c hr hc (hlt q c hc) hd]; rw [roAt_of hc] at hro'; exact hro')
    · unfold roAt at hro'
      split at hro'
      · rename_i c hc
        have hd : c ≠ .dead := by rintro rfl; cases hro'
        exact HI.heap.roI r κ b k h1 (by rw [hro q r c hr hc (hlt q c hc) hd]; exact hro')
      · cases hro'
  refine ⟨⟨hHeap, HI.bel, HI.B_lt, fun q κ b k h1 h2 => ?_, HI.I_new, ⟨HI.kept.stab, fun q s c e => ?_⟩, fun q hq => ?_⟩, ren_map (SubH.refl h) H hpk⟩
  · obtain ⟨r, h3, h4⟩ := hro2 q κ b k h1
    exact HI.own_new r κ b k h3 (h4.trans h2)
  · -- the lent references
    obtain ⟨c0, hc0⟩ := stat_some e
    have hqn := FO.lt q c0 hc0
    have hρ := hid q hqn
    obtain ⟨c', hc', h1⟩ := H q (Nat.lt_of_lt_of_le hqn hnm)
    have hver : ∀ i k v, s = some (i, k, v) → v = 0 := by
      rintro i k v rfl
      obtain ⟨ro, t, xs, ho, h2⟩ := stat_ver e
      exact FO.ver q ro v t xs ho h2
    rcases h1 with rfl | ⟨h2, _⟩ | ⟨r, h2, h3⟩
    · exact .inl (stat_dead hc' s)
    · rw [hρ] at h2; cases h2
    · rw [hρ] at h2; obtain rfl : q = r := by simpa using h2
      have hι := fun (hd : c' ≠ .dead) κ => ren_ι' (E := E) (J := E.I) (κ := κ) hρ hc' hd
      have same : ∀ c1, stat h q s = .on c1 → (stat h' q s = .off ∨ ∃ c2, stat h' q s = .on c2 ∧ c2.len = c1.len ∧ c2.sz = c1.sz ∧ c' ≠ .dead) := by
        intro c1 h5
        rcases h3 with ⟨ro, ro', t, xs, h4, rfl, _⟩ | ⟨ro, ro', v', t, xs, h4, rfl, _, _, h6⟩ | ⟨k, cs, cs', h4, rfl, _⟩
        · right
          cases s with
          | none =>
            simp only [stat, h4, RefSt.on.injEq] at h5; subst h5
            exact ⟨.lst ro t xs, by simp only [stat, hc'], rfl, rfl, by simp⟩
          | some p => simp only [stat, h4] at h5; cases h5
        · cases s with
          | none =>
            right
            rw [stat_tree h4, RefSt.on.injEq] at h5; subst h5
            exact ⟨_, stat_tree hc', rfl, rfl, by simp⟩
          | some p =>
            obtain ⟨i, k, v⟩ := p
            obtain ⟨rfl, _, hn⟩ := stat_nest h4 h5
            obtain rfl := hver i k v rfl
            by_cases hv0 : ver q = 0
            · right
              obtain ⟨u, ys, rfl, hn2⟩ := nested_ro (ro' := ro) hn
              exact ⟨.lst ro u ys, by rw [stat_treeN hc', hv0, if_neg (Nat.lt_irrefl _), if_neg (by simp), hn2], rfl, rfl, by simp⟩
            · left
              rw [stat_treeN hc', if_neg (by omega), if_pos (.inl (by omega))]
        · right
          cases s with
          | none =>
            simp only [stat, h4, RefSt.on.injEq] at h5; subst h5
            exact ⟨.cells k [cs'], by simp only [stat, hc'], rfl, rfl, by simp⟩
          | some p => simp only [stat, h4] at h5; cases h5
      have past : stat h q s = .off → stat h' q s = .off := by
        intro h5
        rcases h3 with ⟨ro, ro', t, xs, h4, rfl, _⟩ | ⟨ro, ro', v', t, xs, h4, rfl, _, _, h6⟩ | ⟨k, cs, cs', h4, rfl, _⟩
        · cases s with
          | none => simp only [stat, h4] at h5; cases h5
          | some p => simp only [stat, hc']
        · cases s with
          | none => rw [stat_tree h4] at h5; cases h5
          | some p =>
            obtain ⟨i, k, v⟩ := p
            obtain rfl := hver i k v rfl
            rw [stat_treeN h4] at h5
            by_cases h7 : v' = 0
            · subst h7
              rw [if_neg (Nat.lt_irrefl _), if_neg (by simp)] at h5
              split at h5 <;> cases h5
            · have hv0 : ver q ≠ 0 := by
                exact fun h8 => h7 (verOk_lt h6 hqn h8)
              rw [stat_treeN hc', if_neg (by omega), if_pos (.inl (by omega))]
        · cases s with
          | none => simp only [stat, h4] at h5; cases h5
          | some p => simp only [stat, h4] at h5; cases h5
      rcases HI.kept.on q s c e with h5 | ⟨c1, h5, hl, hs, hιe, hb⟩
      · exact .inl (past h5)
      · rcases same c1 h5 with h6 | ⟨c2, h6, hl2, hs2, hd⟩
        · exact .inl h6
        · exact .inr ⟨c2, h6, hl2.trans hl, hs2.trans hs, (hι hd _).trans hιe, hb⟩
  · rcases HI.fixed q hq with h1 | h1
    · have hqn : q < n := by
        unfold roAt at hq
        split at hq
        · rename_i c hc; exact FO.lt q c hc
        · cases hq
      have hρ := hid q hqn
      obtain ⟨c', hc', h2⟩ := H q (Nat.lt_of_lt_of_le hqn hnm)
      have hroh : roAt h q = true := by unfold roAt at hq ⊢; rw [h1]; exact hq
      rcases h2 with rfl | ⟨h2, _⟩ | ⟨r, h2, h3⟩
      · exact .inr hc'
      · rw [hρ] at h2; cases h2
      · rw [hρ] at h2; obtain rfl : q = r := by simpa using h2
        left
        rcases h3 with ⟨ro, ro', t, xs, h4, rfl, h5⟩ | ⟨ro, ro', v', t, xs, h4, rfl, h5, _, h6⟩ | ⟨k, cs, cs', h4, rfl, _⟩
        · rw [roAt_of h4] at hroh; obtain rfl : ro' = true := hroh
          rw [hc', ← h1, h4]; cases ro
          · cases h5
          · rfl
        · rw [roAt_of h4] at hroh; obtain rfl : ro' = true := hroh
          have hv' : v' = 0 := FO.ver q _ v' t xs none (by rw [← h1]; exact h4)
          subst hv'
          have hv0 : ver q = 0 := verOk_ro h6 hqn rfl
          rw [hc', ← h1, h4, hv0]; cases ro
          · cases h5
          · rfl
        · rw [roAt_of h4] at hroh; cases hroh
    · -- dead already
      right
      have hqn : q < n := by
        unfold roAt at hq
        split at hq
        · rename_i c hc; exact FO.lt q c hc
        · cases hq
      have hρ := hid q hqn
      obtain ⟨c', hc', h2⟩ := H q (Nat.lt_of_lt_of_le hqn hnm)
      rcases h2 with rfl | ⟨h2, _⟩ | ⟨r, h2, h3⟩
      · exact hc'
      · rw [hρ] at h2; cases h2
      · rw [hρ] at h2; obtain rfl : q = r := by simpa using h2
        rcases h3 with ⟨ro, ro', t, xs, h4, _⟩ | ⟨ro, ro', v', t, xs, h4, _⟩ | ⟨k, cs, cs', h4, _⟩ <;> rw [h1] at h4 <;> cases h4
end
end Go.Ab
