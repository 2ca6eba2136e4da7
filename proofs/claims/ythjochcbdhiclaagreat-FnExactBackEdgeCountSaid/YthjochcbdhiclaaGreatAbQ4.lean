import Derived.Test.YthjochcbdhiclaaGreatAbQ3
set_option linter.unnecessarySimpa false
set_option linter.unusedVariables false
set_option linter.unusedSimpArgs false
namespace Go.Ab
open Go.RowKit
section
variable {P : Program} {C : Cfg} (HC : TabOK P C)
theorem bound_spec {P : Program} {w : World} {v : Value} {i : Int} (hv : v = .int .i64 i) {y : Nat} (h0 : 0 ≤ i) (h1 : i ≤ y) (code : BoundsCode) : (Instr.sliceBound v y code).run P w = .ok i.toNat w := by
  subst hv; exact run_sliceBound w .i64 i y code h0 h1
theorem bounds_spec {P : Program} {w : World} {isS : Bool} {len cap : Nat} (hlc : len ≤ cap) {lo hi : Option Value} {l h : Int} (hl : (lo = none ∧ l = 0) ∨ lo = some (.int .i64 l)) (hh : (hi = none ∧ h = len) ∨ hi = some (.int .i64 h)) (h0 : 0 ≤ l) (h1 : l ≤ h) (h2 : h ≤ cap) :
    (Instr.sliceBounds isS len cap lo hi none).run P w = .ok (l.toNat, h.toNat, cap) w := by
  have e : ((h.toNat : Nat) : Int) = h := Int.toNat_of_nonneg (by omega)
  rcases hh with ⟨rfl, rfl⟩ | rfl <;> rcases hl with ⟨rfl, rfl⟩ | rfl
  · simp [Instr.sliceBounds]
  · simp only [Instr.sliceBounds, Sem.run_bind, Sem.run_pure, Result.andThen_ok, Option.isSome_none, Bool.false_eq_true, if_false, bound_spec rfl h0 h1, Int.toNat_natCast]
  · simp only [Instr.sliceBounds, Sem.run_bind, Sem.run_pure, Result.andThen_ok, Option.isSome_none, Bool.false_eq_true, if_false, bound_spec rfl (show 0 ≤ h by omega) h2]; rfl
  · simp only [Instr.sliceBounds, Sem.run_bind, Sem.run_pure, Result.andThen_ok, Option.isSome_none, Bool.false_eq_true, if_false, bound_spec rfl (show 0 ≤ h by omega) h2, bound_spec rfl h0 (show l ≤ (h.toNat : Nat) by omega)]
include HC in
theorem elemSz_spec {ti : TI} {n : Nat} {t : TypeId} (hti : C.info t = some ti) (h : elemSz C.ti ti n = true) : ∃ e ie, P.underlying t = some (.slice e) ∧ TIOK P e ie ∧ ie.size = n := by
  obtain ⟨inf, d, hinf, hund, _, hu, _⟩ := HC.ti t ti hti
  unfold elemSz at h
  split at h
  · rename_i e he
    rw [he] at hu; simp only [UndOK] at hu; subst hu
    cases hf : C.ti.find? fun x => x.1 == e with
    | none => simp [hf] at h
    | some x =>
      simp [hf] at h
      exact ⟨e, x.2, hund, HC.ti e x.2 (by simp [Cfg.info, hf]), h⟩
  · cases h
theorem slice_run {t e : TypeId} {ie : TI} (hund : P.underlying t = some (.slice e)) (hte : TIOK P e ie) {w : World} {A : Option Addr} {n c : Nat} (hnc : n ≤ c) {lo hi : Option Value} {l h : Int} (hl : (lo = none ∧ l = 0) ∨ lo = some (.int .i64 l)) (hh : (hi = none ∧ h = n) ∨ hi = some (.int .i64 h)) (h0 : 0 ≤ l) (h1 : l ≤ h) (h2 : h ≤ n) :
    (Instr.sliceAt t (.slice A n c) lo hi none).run P w = .ok (.slice (if c = l.toNat then A else A.map (·.add (l.toNat * ie.size))) (h.toNat - l.toNat) (c - l.toNat)) w := by
  simp only [Instr.sliceAt, Instr.slice, Sem.run_bind, run_underlying hund, Result.andThen_ok]
  rw [bounds_spec hnc hl hh h0 h1 (by omega)]
  simp only [Result.andThen_ok, tiok_size hte, Sem.run_pure]
include HC in
theorem slice_sem {R : Type} {s : St} {o : Oper} {t : TypeId} {x : Operand} {lo hi : Option Operand} {K : AV → Option R} {r : R} (ho : o.op = .slice t x lo hi none) (h : vopQ C s o K = some r) : ∃ v, K v = some r ∧ ∀ hp, SubH s.h hp → QSem P s.t hp o v := by
  have hx : x ∈ o.op.operands := by rw [ho]; simp [Op.operands]
  have hlo : ∀ y, lo = some y → y ∈ o.op.operands := by rintro y rfl; rw [ho]; simp [Op.operands]
  have hhi : ∀ y, hi = some y → y ∈ o.op.operands := by rintro y rfl; rw [ho]; simp [Op.operands]
  unfold vopQ at h; simp only [ho] at h
  split at h
  case h_2 => cases h
  rename_i ti hti
  have HT := HC.ti t ti hti
  unfold sliceK at h
  split at h
  · cases h
  · rename_i l hl
    have Hl : ∀ (hp : Heap) (E : Env) (w : World) (ρ : Operand → Value), (∀ z ∈ o.op.operands, RepAV E hp w (ev s.t z) (ρ z)) → (lo.map ρ = none ∧ l = 0) ∨ lo.map ρ = some (.int .i64 l) := by
      intro hp E w ρ hop
      cases lo with
      | none => left; exact ⟨rfl, by simpa [lowOf] using hl.symm⟩
      | some y =>
        right
        simp only [Option.map_some, lowOf] at hl ⊢
        have h1 := hop y (hlo y rfl)
        rw [isInt_spec hl] at h1
        rw [rep_int h1]
    have Hh : ∀ (n : Nat) (hh : Int), highOf n (hi.map (ev s.t)) = some hh → ∀ (hp : Heap) (E : Env) (w : World) (ρ : Operand → Value), (∀ z ∈ o.op.operands, RepAV E hp w (ev s.t z) (ρ z)) → (hi.map ρ = none ∧ hh = n) ∨ hi.map ρ = some (.int .i64 hh) := by
      intro n hh he hp E w ρ hop
      cases hi with
      | none => left; exact ⟨rfl, by simpa [highOf] using he.symm⟩
      | some y =>
        right
        simp only [Option.map_some, highOf] at he ⊢
        have h1 := hop y (hhi y rfl)
        rw [isInt_spec he] at h1
        rw [rep_int h1]
    split at h
    · -- a string
      rename_i b ex
      split at h
      · rename_i hstr
        obtain ⟨inf, d, hinf, hund, _, hu, _⟩ := HT
        unfold isStr at hstr
        split at hstr
        · rename_i hu'
          rw [hu'] at hu
          simp only [UndOK] at hu; subst hu
          split at h
          · rename_i hh he
            obtain ⟨y, hy, hK⟩ := bind_ok h
            refine ⟨_, hK, QSem.of_v fun hp hs E w ρ H hop => ?_⟩
            unfold ssAt at hy
            split at hy
            · rename_i hb
              obtain rfl := by simpa using hy
              have h1 := hop x hx; rw [ex] at h1
              have h1 := rep_str h1
              refine ⟨_, by
                simp only [execOp, ho]
                refine run_v ?_
                rw [h1]
                simp only [Instr.sliceAt, Instr.slice, Sem.run_bind, run_underlying hund, Result.andThen_ok, Option.map_none, Option.isSome_none, Bool.false_eq_true, if_false]
                rw [bounds_spec (Nat.le_refl _) (Hl hp E w ρ hop) (Hh _ _ he hp E w ρ hop) hb.1 hb.2.1 hb.2.2]
                rfl, mk_str _⟩
            · cases hy
          · cases h
        · cases hstr
      · cases h
    · -- a slice of pure data
      rename_i u xs ex
      split at h
      · rename_i hes
        obtain ⟨e, ie, hund, hte, hsz⟩ := elemSz_spec HC hti hes
        split at h
        · rename_i hh he
          obtain ⟨y, hy, hK⟩ := bind_ok h
          refine ⟨_, hK, QSem.of_v fun hp hs E w ρ H hop => ?_⟩
          unfold slAt at hy
          split at hy
          · rename_i hb
            have hy : y = ((xs : List (den u)).drop l.toNat).take (hh.toNat - l.toNat) := by simpa using hy.symm
            have h1 := hop x hx; rw [ex] at h1
            simp only [RepAV, RepC] at h1
            obtain ⟨A, c, e1, hlc, h3⟩ := h1
            have e1 : ρ x = .slice A (xs : List (den u)).length c := by simpa using e1
            refine ⟨_, by simp only [execOp, ho]; exact run_v (by rw [e1]; exact slice_run hund hte hlc (Hl hp E w ρ hop) (Hh _ _ he hp E w ρ hop) hb.1 hb.2.1 hb.2.2), ?_⟩
            have hyl : (y : List (den u)).length = hh.toNat - l.toNat := by rw [hy]; simp; omega
            simp only [RepAV, RepC]
            refine ⟨_, _, by rw [hyl], by rw [hyl]; omega, fun hne => ?_⟩
            rw [hyl] at hne
            obtain ⟨b, o', rfl, hI, h4⟩ := h3 (by omega)
            rw [if_neg (by omega)]
            refine ⟨b, o' + l.toNat * u.size, by simp only [Option.map_some, addr_add, hsz], hI, fun i hi => ?_⟩
            rw [hyl] at hi
            obtain ⟨cs, hcl, h5, h6⟩ := h4 (l.toNat + i) (by omega)
            refine ⟨cs, hcl, ?_, ?_⟩
            · have : (y : List (den u))[i]'(by rw [hyl]; exact hi) = (xs : List (den u))[l.toNat + i]'(by omega) := by
                subst hy; simp
              rw [this]; exact h5
            · rw [Nat.add_assoc, ← Nat.add_mul]; exact h6
          · cases hy
        · cases h
      · cases h
    · rename_i q sb rg ex
      obtain ⟨c0, h, _, hc0⟩ := lookK_spec h
      split at h
      case isFalse => cases h
      rename_i hes
      obtain ⟨e, ie, hund, hte, hsz⟩ := elemSz_spec HC hti hes
      split at h
      case h_2 => cases h
      rename_i hh he
      split at h
      case isFalse => cases h
      rename_i hb
      refine ⟨_, h, QSem.of_v fun hp hs E w ρ H hop => ?_⟩
      obtain ⟨c, hc, hl, hz⟩ := (hc0 hp hs).shape
      have h1 := hop x hx; rw [ex] at h1
      simp only [RepAV] at h1 ⊢
      rw [own_on hc] at h1
      have Hhi := Hh _ _ he hp E w ρ hop
      have Hlo := Hl hp E w ρ hop
      obtain ⟨hle, h3⟩ := h1
      rw [← hl] at hb Hhi ⊢
      rw [← hz] at hsz
      rcases h3 with ⟨h0, e1⟩ | ⟨b, n, a, hι, e1, hn, ha, arr, ty, hb', hcap⟩
      · refine ⟨_, by simp only [execOp, ho]; exact run_v (by rw [e1]; exact slice_run hund hte (Nat.le_refl _) Hlo (by rw [show (rg.getD (0, c.len)).2 = 0 by omega] at Hhi; simpa using Hhi) hb.1 hb.2.1 (by omega)), ?_⟩
        refine (own_on hc).2 ⟨by simp; omega, .inl ⟨h0, ?_⟩⟩
        have e2 : l.toNat = 0 := by omega
        have e3 : hh.toNat = 0 := by omega
        simp [e2, e3]
      · refine ⟨_, by simp only [execOp, ho]; exact run_v (by rw [e1]; exact slice_run hund hte hn Hlo Hhi hb.1 hb.2.1 hb.2.2), ?_⟩
        refine (own_on hc).2 ⟨by simp; omega, .inr ⟨b, n - l.toNat, if n = l.toNat then a else a.add (l.toNat * ie.size), hι, ?_, by simp; omega, fun hne => ?_, arr, ty, hb', ?_⟩⟩
        · simp only [Option.getD_some]; congr 1; split <;> simp
        · rw [if_neg (by omega), ha (by omega), addr_add, hsz]; simp [Nat.add_mul]
        · simp only [Option.getD_some]
          have : l.toNat * c.sz + (n - l.toNat) * c.sz = n * c.sz := by rw [← Nat.add_mul]; congr 1; omega
          rw [Nat.add_mul]; omega
    · cases h
end
end Go.Ab
