import Derived.Test.YthjochcbdhiclaaGreatAbVrun
import Derived.Test.YthjochcbdhiclaaGreatAbMove
import Derived.Laws.Sem
set_option linter.unnecessarySimpa false
set_option linter.unusedVariables false
set_option linter.unusedSimpArgs false
namespace Go.Ab
open Go.RowKit
section
variable {P : Program} {C : Cfg} (HC : CfgOK P C)
def resSem (tmps : Array Value) : ResultVar → Sem Value
  | .tmp t => pure (tmps.getD t undef)
  | .cell a t => do loadVar t (← asAddr (tmps.getD a undef))
theorem getD_rep {E : Env} {h : Heap} {w : World} {t : List AV} {a : Array Value} (ht : RepT E h w t a) (i : Nat) : RepAV E h w (t.getD i .junk) (a.getD i undef) := by
  have := ht.eval (a := { tmps := a, defers := [] }) (.tmp i)
  simpa [ev, Act.eval] using this
theorem ldK_spec {R : Type} {i : TI} {cs : List AV} {K : AV → Option R} {r : R} (h : ldK i cs K = some r) : ∃ v, ldCells i cs = some v ∧ K v = some r := by
  unfold ldK at h
  split at h
  · rename_i v e; exact ⟨v, e, h⟩
  · cases h
include HC in
theorem resK_sem {R : Type} {s : St} {rv : ResultVar} {K : AV → Option R} {r : R} (h : resK C s rv K = some r) :
    ∃ v, K v = some r ∧ ∀ {E : Env} {w : World} {a : Array Value}, HeapOK E s.h w → RepT E s.h w s.t a → ∃ u, (resSem a rv).run P w = .ok u w ∧ RepAV E s.h w v u := by
  cases rv with
  | tmp t =>
    exact ⟨_, h, fun {E w a} H ht => ⟨_, rfl, getD_rep ht t⟩⟩
  | cell x t =>
    simp only [resK] at h
    split at h
    case h_2 => cases h
    rename_i i hi
    split at h
    · rename_i n e hu
      obtain ⟨v, hK, hv⟩ := loadArr_sem (P := P) (HC.tab.ti _ _ hi) hu h
      refine ⟨v, hK, fun {E w a} H ht => ?_⟩
      have hx := getD_rep ht x
      obtain ⟨u, k5, k6⟩ := hv s.h (SubH.refl _) E w _ H hx
      refine ⟨u, ?_, k6⟩
      unfold loadArrK at h
      split at h
      case h_2 => cases h
      rename_i q hp
      rw [hp] at hx
      simp only [RepAV] at hx
      obtain ⟨a', hv'⟩ := ptr_some hx
      rw [hv'] at k5
      rw [Instr.loadAt] at k5
      simp only [resSem, hv', asAddr, Sem.run_bind, Sem.run_pure, Result.andThen_ok]
      simpa [Instr.sureAddr] using k5
    split at h
    · rename_i r' q j off hp
      obtain ⟨c, h1, _, h2⟩ := lookK_spec h
      obtain ⟨cs, h3, h4⟩ := atK_spec h1
      obtain ⟨v, h5, h6⟩ := ldK_spec h4
      refine ⟨v, h6, fun {E w a} H ht => ?_⟩
      have hx := getD_rep ht x
      rw [hp] at hx
      simp only [RepAV] at hx
      have hon := (h2 s.h (SubH.refl _)).at h3
      rw [ptr_on hon] at hx
      obtain ⟨b, hι, hv⟩ := hx
      obtain ⟨b', vs, k1, k2, k3, k4⟩ := obj_cells H hon h3
      rw [hι] at k1; obtain rfl : b = b' := by simpa using k1
      obtain ⟨u, k5, k6⟩ := run_loadAt (HC.tab.ti _ _ hi) (k3.drop off) (cellsAt_drop k4 off) h5
      refine ⟨u, ?_, k6⟩
      rw [Instr.loadAt] at k5
      simp only [resSem, hv, asAddr, Sem.run_bind, Sem.run_pure, Result.andThen_ok]
      simpa [Instr.sureAddr] using k5
    · cases h
include HC in
theorem resKs_sem {R : Type} {s : St} : (l : List ResultVar) → {K : List AV → Option R} → {r : R} → resKs C s l K = some r →
    ∃ vs, K vs = some r ∧ ∀ {E : Env} {w : World} {a : Array Value}, HeapOK E s.h w → RepT E s.h w s.t a → ∃ us, (l.mapM (resSem a)).run P w = .ok us w ∧ RepL E s.h w vs us
  | [], K, r, h => ⟨[], h, fun {E w a} H ht => ⟨[], rfl, RepL.nil⟩⟩
  | rv :: l, K, r, h => by
    unfold resKs at h
    obtain ⟨v, h1, h2⟩ := resK_sem (P := P) HC h
    obtain ⟨vs, h3, h4⟩ := resKs_sem l h1
    refine ⟨v :: vs, h3, fun {E w a} H ht => ?_⟩
    obtain ⟨u, k1, k2⟩ := h2 H ht
    obtain ⟨us, k3, k4⟩ := h4 H ht
    exact ⟨u :: us, by simp [List.mapM_cons, k1, k3], RepL.cons k2 k4⟩
theorem results_run {fn : Func} {a : Act} {w : World} {us : List Value} (h1 : (fn.results.toList.mapM (resSem a.tmps)).run P w = .ok us w) : (results fn a.tmps).run P w = .ok (resV us) w := by
  have e : results fn a.tmps = (do let vs ← fn.results.mapM (resSem a.tmps); pure (if h : vs.size = 1 then vs[0] else .tuple vs)) := by
    unfold results
    congr 1
  rw [e, Array.mapM_eq_mapM_toList]
  simp only [Sem.run_bind, map_eq_pure_bind, h1, Result.andThen_ok, Sem.run_pure, bind_assoc, pure_bind]
  congr 1
  unfold resV
  match us with
  | [] => rfl
  | [u] => rfl
  | u :: v :: us => simp
theorem ver0_spec {ρ ν : Nat → Nat} : (l : TmH) → l.ver0 = true → (q0 : Nat) → (∀ k, ν (q0 + k) = l.ver k) → (x : den l.ty) → ∀ k ro v t xs ho, (l.write ρ ν q0 x).getD k none = some (.tree ro v t xs ho) → v = 0 := by
  have sh : ∀ {a : TmH} {f : TmH → TmH} {q0 : Nat} {ν : Nat → Nat}, (∀ k, ν (q0 + k) = (f a).ver k) → (∀ k, (f a).ver (k + 1) = a.ver k) → ∀ k, ν (q0 + 1 + k) = a.ver k := by
    intro a f q0 ν h1 h2 k
    rw [← h2, ← h1]; congr 1; omega
  intro l
  induction l with
  | nil => intro _ q0 _ x k ro v t xs ho h; simp [TmH.write] at h
  | gone l ih =>
    intro h0 q0 hν x k ro v t xs ho h
    cases k with
    | zero => simp [TmH.write] at h
    | succ k => exact ih h0 (q0 + 1) (sh (f := .gone) hν (fun k => rfl)) x k ro v t xs ho h
  | kept l ih =>
    intro h0 q0 hν x k ro v t xs ho h
    cases k with
    | zero => simp [TmH.write] at h
    | succ k => exact ih h0 (q0 + 1) (sh (f := .kept) hν (fun k => rfl)) x k ro v t xs ho h
  | lst r u l ih =>
    intro h0 q0 hν x k ro v t xs ho h
    cases k with
    | zero => simp [TmH.write] at h
    | succ k => exact ih h0 (q0 + 1) (sh (f := .lst r u) hν (fun k => rfl)) x.2 k ro v t xs ho h
  | tree r v0 u l ih =>
    intro h0 q0 hν x k ro v t xs ho h
    unfold TmH.ver0 at h0
    rw [Bool.and_eq_true] at h0
    obtain rfl := eq_of_beq h0.1
    cases k with
    | zero =>
      have hν0 : ν q0 = 0 := hν 0
      simp only [TmH.write, List.getD_cons_zero, Option.some.injEq, Cont.tree.injEq] at h
      rw [← h.2.1]; exact hν0
    | succ k => exact ih h0.2 (q0 + 1) (sh (f := .tree r 0 u) hν (fun k => rfl)) x.2 k ro v t xs ho h
  | one u l ih =>
    intro h0 q0 hν x k ro v t xs ho h
    cases k with
    | zero => simp [TmH.write] at h
    | succ k => exact ih h0 (q0 + 1) (sh (f := .one u) hν (fun k => rfl)) x.2 k ro v t xs ho h
  | cells n ms l ih =>
    intro h0 q0 hν x k ro v t xs ho h
    cases k with
    | zero => simp [TmH.write] at h
    | succ k => exact ih h0 (q0 + 1) (sh (f := .cells n ms) hν (fun k => rfl)) _ k ro v t xs ho h
include HC in
theorem vcall_sem {f : FuncId} {fn : Func} {ti to : Tmpl} {x : den ti.ty} {y : den to.ty} (hf : P.funcs[f]? = some fn) (HL : ∀ c, fn.body = some c → LoopsOK P C c) (h : vcall C fn ti to x = some y) : PSpec P f ti to x y := by
  intro E w vs hH hA
  unfold vcall at h
  split at h
  · cases h
  · rename_i c hb
    split at h
    case isFalse => cases h
    rename_i hc
    rw [Bool.and_eq_true] at hc
    have hlent : C.lent = ti.hs.len := Nat.eq_of_beq_eq_true hc.1
    have hlen := hA.length
    have hlen0 : (ti.objs0 x).length = ti.hs.len := write_len ti.hs 0 _
    have FO : FrOK ti.hs.len (frOf E (ti.objs0 x) w) := by
      constructor
      · intro r c hc
        rcases Nat.lt_or_ge r ti.hs.len with h1 | h1
        · exact h1
        · have h2 : (ti.objs0 x).getD r none = none := getD_ge (by rw [hlen0]; exact h1)
          have h3 : (ti.objs0 x).getD r none = some c := hc
          rw [h2] at h3; cases h3
      · intro r ro v t xs ho h1
        exact ver0_spec ti.hs hc.2 0 (fun k => by rw [Nat.zero_add]) _ r ro v t xs ho h1
    refine calls_of_wp hf hb (vrun_sem HC c (HL c hb) h (frOf E (ti.objs0 x) w) E w _ _ (by rw [hlent]; exact FO) ⟨hH, Bel.refl _ w, fun b hb => ?_, fun r κ b n h1 h2 => .inl ⟨r, κ, n, h1, h2⟩, fun b hb => .inl hb, (Keep.refl E _ w).kept, fun r _ => .inl rfl⟩ ⟨?_, ?_⟩ fun e s E' a' w' h1 h2 h3 h4 => ?_)
    · obtain ⟨r, κ, n, h1, _⟩ := hb
      exact hH.own_lt b ⟨r, κ, n, h1⟩
    · simp [hlen]
    · intro i c hi
      by_cases hlt : i < (ti.vals0 x).length
      · rw [List.getElem?_append_left hlt] at hi
        obtain ⟨v, k1, k2⟩ := hA.get i hi
        refine ⟨v, ?_, k2⟩
        rw [Array.getElem?_append_left (by simp; omega)]
        simpa using k1
      · rw [List.getElem?_append_right (by omega)] at hi
        obtain ⟨hlt', rfl⟩ := List.getElem?_eq_some_iff.1 hi
        simp at hlt'
        refine ⟨undef, ?_, ?_⟩
        · rw [Array.getElem?_append_right (by simp; omega)]
          simp [Array.getElem?_replicate]; omega
        · simp only [List.getElem_replicate, RepAV]; exact ⟨[], rfl, RepL.nil⟩
    · have fin : resKs C s fn.results.toList (fun vs => cutsK C.cut s.h vs fun h vs => retK ti to ⟨s.t, h⟩ vs some) = some y → a'.defers = [] ∧ ∃ v, (results fn a'.tmps).run P w' = .ok v w' ∧ (∃ us E', Ending.returned v = .returned (resV us) ∧ Inv (frOf E (ti.objs0 x) w) E' (mrg (ti.objs0 x) (to.objs0 y)) w' ∧ RepL E' (mrg (ti.objs0 x) (to.objs0 y)) w' (to.vals0 y) us) := by
        intro h1
        obtain ⟨vs', k1, k2⟩ := resKs_sem (P := P) HC _ h1
        obtain ⟨us, k3, k4⟩ := k2 h2.heap h3
        obtain ⟨hx', vx', k1, kc⟩ := cutsK_sem _ k1
        obtain ⟨E1, h2, k4⟩ := kc (frOf E (ti.objs0 x) w) E' w' us h2 k4
        obtain ⟨y', k5, k6⟩ := retK_sem k1
        obtain rfl : y' = y := by simpa using k5
        obtain ⟨E'', k7, k8⟩ := k6 (frOf E (ti.objs0 x) w) E1 w' x rfl FO h2 us k4
        exact ⟨h4, _, results_run k3, us, E'', rfl, k7, k8⟩
      cases e with
      | normal => exact fin h1
      | ret => exact fin h1
      | exit id => cases h1
include HC in
theorem EntOK.of_vcall {f : FuncId} {fn : Func} {ti to : Tmpl} {S : den ti.ty → Option (den to.ty)} (hf : P.funcs[f]? = some fn) (HL : ∀ c, fn.body = some c → LoopsOK P C c) (hn : (fn.name == "runtime.NumGoroutine") = false) (hb : fn.body.isNone = false) (h : ∀ x, vcall C fn ti to x = S x) : EntOK P ⟨f, ti, to, S⟩ :=
  ⟨⟨fn, hf, hn, hb⟩, fun x y hy => vcall_sem HC hf HL ((h x).trans hy)⟩
end
end Go.Ab
