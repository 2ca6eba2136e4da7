import Derived.Test.YtehjknclkaobhaaAbCall
import Derived.Test.YtehjknclkaobhaaProg
import Derived.KernelRfl
set_option linter.unusedVariables false
set_option maxRecDepth 100000
namespace Go.Ab
abbrev Y24 : Ty := (.prod (.slice .i) (.prod (.slice .i) (.prod .i .unit)))

noncomputable def g_tis : List (TypeId × TI) := [(3, ⟨1, (.int .i64), (some .i), [.pv (.int .i64) 0], 4398046511104⟩), (4, ⟨1, .bool, (some .bool), [.b false], 35184372088832⟩), (22, ⟨1, (.slice 3), (some (.slice .i)), [.nils], 1466015503701⟩), (24, ⟨3, (.struct [(0, 22), (1, 22), (2, 3)]), (some Y24), [.nils, .nils, .pv (.int .i64) 0], 628292358729⟩), (27, ⟨3, (.struct [(0, 22), (1, 22), (2, 3)]), (some Y24), [.nils, .nils, .pv (.int .i64) 0], 628292358729⟩)]

theorem g_ti3 : TIOK Go.Proofs.Try.prog 3 ⟨1, (.int .i64), (some .i), [.pv (.int .i64) 0], 4398046511104⟩ :=
  ⟨Go.Proofs.Try.t3, _, by kernel_rfl, Go.Proofs.Try.underlying3, by kernel_rfl, rfl, ⟨_, rfl, by kernel_rfl, by kernel_rfl⟩, of_decide_eq_true (by kernel_rfl), of_decide_eq_true (by kernel_rfl)⟩

theorem g_ti4 : TIOK Go.Proofs.Try.prog 4 ⟨1, .bool, (some .bool), [.b false], 35184372088832⟩ :=
  ⟨Go.Proofs.Try.t4, _, by kernel_rfl, Go.Proofs.Try.underlying4, by kernel_rfl, rfl, ⟨_, rfl, by kernel_rfl, by kernel_rfl⟩, of_decide_eq_true (by kernel_rfl), of_decide_eq_true (by kernel_rfl)⟩

theorem g_ti22 : TIOK Go.Proofs.Try.prog 22 ⟨1, (.slice 3), (some (.slice .i)), [.nils], 1466015503701⟩ :=
  ⟨Go.Proofs.Try.t22, _, by kernel_rfl, Go.Proofs.Try.underlying22, by kernel_rfl, rfl, ⟨_, rfl, by kernel_rfl, by kernel_rfl⟩, of_decide_eq_true (by kernel_rfl), of_decide_eq_true (by kernel_rfl)⟩

theorem g_ti24 : TIOK Go.Proofs.Try.prog 24 ⟨3, (.struct [(0, 22), (1, 22), (2, 3)]), (some Y24), [.nils, .nils, .pv (.int .i64) 0], 628292358729⟩ :=
  ⟨Go.Proofs.Try.t24, _, by kernel_rfl, Go.Proofs.Try.underlying24, by kernel_rfl, ⟨_, rfl, by kernel_rfl, by kernel_rfl, by kernel_rfl, by kernel_rfl, of_decide_eq_true (by kernel_rfl)⟩, ⟨_, rfl, by kernel_rfl, by kernel_rfl⟩, of_decide_eq_true (by kernel_rfl), of_decide_eq_true (by kernel_rfl)⟩

theorem g_ti27 : TIOK Go.Proofs.Try.prog 27 ⟨3, (.struct [(0, 22), (1, 22), (2, 3)]), (some Y24), [.nils, .nils, .pv (.int .i64) 0], 628292358729⟩ :=
  ⟨Go.Proofs.Try.t27, _, by kernel_rfl, Go.Proofs.Try.underlying27, by kernel_rfl, ⟨_, rfl, by kernel_rfl, by kernel_rfl, by kernel_rfl, by kernel_rfl, of_decide_eq_true (by kernel_rfl)⟩, ⟨_, rfl, by kernel_rfl, by kernel_rfl⟩, of_decide_eq_true (by kernel_rfl), of_decide_eq_true (by kernel_rfl)⟩

theorem g_tisOK : ∀ p ∈ g_tis, TIOK Go.Proofs.Try.prog p.1 p.2 := (all_cons g_ti3 (all_cons g_ti4 (all_cons g_ti22 (all_cons g_ti24 (all_cons g_ti27 all_nil)))))

theorem g_wide : Go.Proofs.Try.prog.follows .mixedOrders = true := by kernel_rfl

/-! ### loop.example/g01924/laws.szIntS -/

noncomputable def g_C26 : Cfg := ⟨g_tis, [], []⟩

theorem g_HC26 : CfgOK Go.Proofs.Try.prog g_C26 := ⟨info_ok g_tisOK, all_nil, g_wide⟩

/-- loop.example/g01924/laws.szIntS -/
noncomputable def g_S26 (a0 : (List Int)) (left1 : Int) : Option (den (.prod .i .unit)) :=
  bif (decide ((IntKind.i64.wrap (left1 - ((a0.length : Nat) : Int))) < 0)) then
    some ((-1), ())
  else
    some ((IntKind.i64.wrap (left1 - ((a0.length : Nat) : Int))), ())

noncomputable def g_Ent26 : Ent := ⟨26, (.prod (.slice .i) (.prod .i .unit)), (.prod .i .unit), fun x => g_S26 x.1 x.2.1⟩

theorem g_VC26 : ∀ x : den (.prod (.slice .i) (.prod .i .unit)), vcall g_C26 Go.Proofs.Try.f26 (.prod (.slice .i) (.prod .i .unit)) (.prod .i .unit) x = g_S26 x.1 x.2.1 := fun x => by kernel_rfl

theorem g_OK26 : EntOK Go.Proofs.Try.prog g_Ent26 := EntOK.of_vcall g_HC26 Go.Proofs.Try.func26
  (body_loops (by kernel_rfl) (loops_all 0 (by kernel_rfl) fun k hk => absurd hk (Nat.not_lt_zero k)))
  (by kernel_rfl) (by kernel_rfl) g_VC26

/-! ### loop.example/g01924/laws.szReport -/

noncomputable def g_C8 : Cfg := ⟨g_tis, [g_Ent26], []⟩

theorem g_HC8 : CfgOK Go.Proofs.Try.prog g_C8 := ⟨info_ok g_tisOK, (all_cons g_OK26 all_nil), g_wide⟩

/-- loop.example/g01924/laws.szReport -/
noncomputable def g_S8 (a0 : (den Y24)) (left1 : Int) : Option (den (.prod .i .unit)) :=
  (g_S26 a0.1 left1).bind fun r1 =>
  bif (decide (r1.1 < 0)) then
    some ((-1), ())
  else
    (g_S26 a0.2.1 r1.1).bind fun r2 =>
    bif (decide (r2.1 < 0)) then
      some ((-1), ())
    else
      some (r2.1, ())

noncomputable def g_Ent8 : Ent := ⟨8, (.prod Y24 (.prod .i .unit)), (.prod .i .unit), fun x => g_S8 x.1 x.2.1⟩

theorem g_VC8 : ∀ x : den (.prod Y24 (.prod .i .unit)), vcall g_C8 Go.Proofs.Try.f8 (.prod Y24 (.prod .i .unit)) (.prod .i .unit) x = g_S8 x.1 x.2.1 := fun x => by kernel_rfl

theorem g_OK8 : EntOK Go.Proofs.Try.prog g_Ent8 := EntOK.of_vcall g_HC8 Go.Proofs.Try.func8
  (body_loops (by kernel_rfl) (loops_all 0 (by kernel_rfl) fun k hk => absurd hk (Nat.not_lt_zero k)))
  (by kernel_rfl) (by kernel_rfl) g_VC8

/-! ### loop.example/g01924/laws.toIntS -/

noncomputable def g_L27_0 (a' : (List Int)) (i' : Int) (out' : (List Int)) (R : Type) (K : (Int × (List Int)) ⊕ (((List Int))) → Option R) : Option R :=
  bif (decide (i' < ((a'.length : Nat) : Int))) then
    (lAt a' i').bind fun e1 =>
    if 0 ≤ i' ∧ i' < ((out'.length : Nat) : Int) then
      (out'[(i').toNat]?).bind fun e2 =>
      K (.inl ((IntKind.i64.wrap (i' + 1)), (out'.set (i').toNat e1)))
    else none
  else
    K (.inr (out'))

theorem g_L27_0_nat (a' : (List Int)) (i' : Int) (out' : (List Int)) (R : Type) (K : (Int × (List Int)) ⊕ (((List Int))) → Option R) : g_L27_0 a' i' out' R K = (g_L27_0 a' i' out' _ some).bind K := by
  unfold g_L27_0
  repeat' first | exact nat_none | exact nat_some | apply nat_bif | (refine nat_bind fun _ => ?_) | apply nat_ite | (refine nat_sum (fun _ => ?_) fun _ => ?_) | rfl

def g_T27_0 : Tmpl := ⟨(.slot (.slice .i) (.junk (.junk (.own 0 (.slot .i (.junk (.junk (.junk (.junk (.junk (.junk (.junk (.junk (.junk (.junk (.junk (.junk (.junk (.junk (.junk (.junk (.junk .nil)))))))))))))))))))))), (.lst .i .nil)⟩

abbrev g_I27_0 : Type := (List Int)
abbrev g_V27_0 : Type := Int × (List Int)
abbrev g_X27_0 : Type := ((List Int))

def g_M27_0 : g_I27_0 → g_V27_0 → den g_T27_0.ty := fun I v => (I, v.1, v.2, ())

def g_P27_0 : den g_T27_0.ty → g_I27_0 × g_V27_0 := fun x => (x.1, (x.2.1, x.2.2.1))

noncomputable def g_D27_0 : g_I27_0 → g_V27_0 → (R : Type) → ((g_V27_0 ⊕ g_X27_0) → Option R) → Option R := fun I v R K => g_L27_0 I v.1 v.2 R K

def g_E27_0 : g_I27_0 → g_X27_0 → (R : Type) → (Ex → St → Option R) → Option R := fun I p R K => K (.exit 0) ⟨[.junk, .junk, .junk, (.own 0 none), .junk, .junk, .junk, .junk, .junk, .junk, .junk, .junk, .junk, .junk, .junk, .junk, .junk, .junk, .junk, .junk, .junk, .junk], [some (.lst .i p)]⟩

def g_K27_0 : g_I27_0 → g_X27_0 → Ex × St := fun I p => ((.exit 0), ⟨[.junk, .junk, .junk, (.own 0 none), .junk, .junk, .junk, .junk, .junk, .junk, .junk, .junk, .junk, .junk, .junk, .junk, .junk, .junk, .junk, .junk, .junk, .junk], [some (.lst .i p)]⟩)

noncomputable def g_F27_0 : LoopFn := fun s R K => (Tmpl.read g_T27_0 s).bind fun x => (iter (fun v => g_D27_0 (g_P27_0 x).1 v _ some) (g_P27_0 x).2).bind fun p => g_E27_0 (g_P27_0 x).1 p R K

noncomputable def g_C27 : Cfg := ⟨g_tis, [], [(3, g_F27_0)]⟩

theorem g_HC27 : CfgOK Go.Proofs.Try.prog g_C27 := ⟨info_ok g_tisOK, all_nil, g_wide⟩

theorem g_lk27_0 : ∀ F, ((g_C27).ann.find? fun x => x.1 == firstId ((loopsOf (codeOf Go.Proofs.Try.f27)).getD 0 .skip)).map (·.2) = some F → LoopOK Go.Proofs.Try.prog ((loopsOf (codeOf Go.Proofs.Try.f27)).getD 0 .skip) F := by
  refine lookup_ok (show ((g_C27).ann.find? fun x => x.1 == firstId ((loopsOf (codeOf Go.Proofs.Try.f27)).getD 0 .skip)).map (·.2) = some g_F27_0 from by kernel_rfl) ?_
  exact loop_ok g_HC27 (loops_all 0 (by kernel_rfl) fun k hk => absurd hk (Nat.not_lt_zero k)) g_T27_0 [3] g_M27_0 g_P27_0 (fun x => rfl) g_D27_0
    (fun I v R K => g_L27_0_nat _ _ _ R K) g_E27_0 g_K27_0 (fun I p R K => rfl) (fun I v => by kernel_rfl)

/-- loop.example/g01924/laws.toIntS -/
noncomputable def g_S27 (a0 : (List Int)) : Option (den (.prod (.slice .i) .unit)) :=
  if 0 ≤ ((a0.length : Nat) : Int) ∧ ((a0.length : Nat) : Int) ≤ ((a0.length : Nat) : Int) ∧ ((a0.length : Nat) : Int) ≤ 4398046511104 then
    (iter (fun v => g_L27_0 a0 v.1 v.2 _ some) (0, (List.replicate (((a0.length : Nat) : Int) : Int).toNat 0))).bind fun q3 =>
    some (q3, ())
  else none

noncomputable def g_Ent27 : Ent := ⟨27, (.prod (.slice .i) .unit), (.prod (.slice .i) .unit), fun x => g_S27 x.1⟩

theorem g_VC27 : ∀ x : den (.prod (.slice .i) .unit), vcall g_C27 Go.Proofs.Try.f27 (.prod (.slice .i) .unit) (.prod (.slice .i) .unit) x = g_S27 x.1 := fun x => by kernel_rfl

theorem g_OK27 : EntOK Go.Proofs.Try.prog g_Ent27 := EntOK.of_vcall g_HC27 Go.Proofs.Try.func27
  (body_loops (by kernel_rfl) (loops_all 1 (by kernel_rfl) (fun k hk => match k, hk with
    | 0, _ => g_lk27_0)))
  (by kernel_rfl) (by kernel_rfl) g_VC27

/-! ### loop.example/g01924/laws.toReport -/

noncomputable def g_C10 : Cfg := ⟨g_tis, [g_Ent27], []⟩

theorem g_HC10 : CfgOK Go.Proofs.Try.prog g_C10 := ⟨info_ok g_tisOK, (all_cons g_OK27 all_nil), g_wide⟩

/-- loop.example/g01924/laws.toReport -/
noncomputable def g_S10 (a0 : (den Y24)) : Option (den (.prod Y24 .unit)) :=
  (g_S27 a0.1).bind fun r1 =>
  (g_S27 a0.2.1).bind fun r2 =>
  some ((r1.1, r2.1, a0.2.2.1, ()), ())

noncomputable def g_Ent10 : Ent := ⟨10, (.prod Y24 .unit), (.prod Y24 .unit), fun x => g_S10 x.1⟩

theorem g_VC10 : ∀ x : den (.prod Y24 .unit), vcall g_C10 Go.Proofs.Try.f10 (.prod Y24 .unit) (.prod Y24 .unit) x = g_S10 x.1 := fun x => by kernel_rfl

theorem g_OK10 : EntOK Go.Proofs.Try.prog g_Ent10 := EntOK.of_vcall g_HC10 Go.Proofs.Try.func10
  (body_loops (by kernel_rfl) (loops_all 0 (by kernel_rfl) fun k hk => absurd hk (Nat.not_lt_zero k)))
  (by kernel_rfl) (by kernel_rfl) g_VC10

/-! ### loop.example/g01924/spec.EqualReports -/

noncomputable def g_L9_1 (a' : (den Y24)) (b' : (den Y24)) (i' : Int) (R : Type) (K : (Int) ⊕ ((Unit) ⊕ (Unit)) → Option R) : Option R :=
  bif (decide (i' < ((a'.2.1.length : Nat) : Int))) then
    (lAt a'.2.1 i').bind fun e6 =>
    (lAt b'.2.1 i').bind fun e7 =>
    bif (e6 != e7) then
      K (.inr (.inl ()))
    else
      K (.inl (IntKind.i64.wrap (i' + 1)))
  else
    K (.inr (.inr ()))

theorem g_L9_1_nat (a' : (den Y24)) (b' : (den Y24)) (i' : Int) (R : Type) (K : (Int) ⊕ ((Unit) ⊕ (Unit)) → Option R) : g_L9_1 a' b' i' R K = (g_L9_1 a' b' i' _ some).bind K := by
  unfold g_L9_1
  repeat' first | exact nat_none | exact nat_some | apply nat_bif | (refine nat_bind fun _ => ?_) | apply nat_ite | (refine nat_sum (fun _ => ?_) fun _ => ?_) | rfl

def g_T9_1 : Tmpl := ⟨(.junk (.junk (.ptr 0 0 0 (.ptr 1 0 0 (.junk (.junk (.slot .i (.junk (.junk (.junk (.junk (.junk (.junk (.junk (.junk (.junk (.junk (.junk (.junk (.junk (.junk (.junk (.junk (.junk (.junk (.junk (.junk (.junk (.junk (.junk (.junk (.junk (.junk (.junk (.junk (.junk (.junk (.junk (.junk (.junk (.junk (.junk (.junk (.junk (.junk (.junk (.junk (.junk (.junk (.junk (.junk (.junk (.junk (.junk (.junk (.junk (.junk (.junk (.junk (.junk (.junk (.junk (.junk (.junk (.junk (.junk .nil)))))))))))))))))))))))))))))))))))))))))))))))))))))))))))))))))), (.one Y24 (.one Y24 .nil))⟩

abbrev g_I9_1 : Type := (den Y24) × (den Y24)
abbrev g_V9_1 : Type := Int
abbrev g_X9_1 : Type := (Unit) ⊕ (Unit)

def g_M9_1 : g_I9_1 → g_V9_1 → den g_T9_1.ty := fun I v => (v, I.1, I.2, ())

def g_P9_1 : den g_T9_1.ty → g_I9_1 × g_V9_1 := fun x => ((x.2.1, x.2.2.1), x.1)

noncomputable def g_D9_1 : g_I9_1 → g_V9_1 → (R : Type) → ((g_V9_1 ⊕ g_X9_1) → Option R) → Option R := fun I v R K => g_L9_1 I.1 I.2 v R K

def g_E9_1 : g_I9_1 → g_X9_1 → (R : Type) → (Ex → St → Option R) → Option R := fun I p R K => sumC p (fun a => K .ret ⟨[.junk, .junk, .junk, .junk, (.pv .bool false), .junk, .junk, .junk, .junk, .junk, .junk, .junk, .junk, .junk, .junk, .junk, .junk, .junk, .junk, .junk, .junk, .junk, .junk, .junk, .junk, .junk, .junk, .junk, .junk, .junk, .junk, .junk, .junk, .junk, .junk, .junk, .junk, .junk, .junk, .junk, .junk, .junk, .junk, .junk, .junk, .junk, .junk, .junk, .junk, .junk, .junk, .junk, .junk, .junk, .junk, .junk, .junk, .junk, .junk, .junk, .junk, .junk, .junk, .junk, .junk, .junk], [some (.cells 3 [[(.pv (.slice .i) I.1.1), (.pv (.slice .i) I.1.2.1), (.pv .i I.1.2.2.1)]]), some (.cells 3 [[(.pv (.slice .i) I.2.1), (.pv (.slice .i) I.2.2.1), (.pv .i I.2.2.2.1)]])]⟩) (fun b => K (.exit 2) ⟨[.junk, .junk, .junk, .junk, .junk, .junk, .junk, .junk, .junk, .junk, .junk, .junk, .junk, .junk, .junk, .junk, .junk, .junk, .junk, .junk, .junk, .junk, .junk, .junk, .junk, .junk, .junk, .junk, .junk, .junk, .junk, .junk, .junk, .junk, .junk, .junk, .junk, .junk, .junk, .junk, .junk, .junk, .junk, .junk, .junk, .junk, .junk, .junk, .junk, .junk, .junk, .junk, .junk, .junk, .junk, .junk, .junk, .junk, .junk, .junk, .junk, .junk, .junk, .junk, .junk, .junk], [some (.cells 3 [[(.pv (.slice .i) I.1.1), (.pv (.slice .i) I.1.2.1), (.pv .i I.1.2.2.1)]]), some (.cells 3 [[(.pv (.slice .i) I.2.1), (.pv (.slice .i) I.2.2.1), (.pv .i I.2.2.2.1)]])]⟩)

def g_K9_1 : g_I9_1 → g_X9_1 → Ex × St := fun I p => sumC p (fun a => (.ret, ⟨[.junk, .junk, .junk, .junk, (.pv .bool false), .junk, .junk, .junk, .junk, .junk, .junk, .junk, .junk, .junk, .junk, .junk, .junk, .junk, .junk, .junk, .junk, .junk, .junk, .junk, .junk, .junk, .junk, .junk, .junk, .junk, .junk, .junk, .junk, .junk, .junk, .junk, .junk, .junk, .junk, .junk, .junk, .junk, .junk, .junk, .junk, .junk, .junk, .junk, .junk, .junk, .junk, .junk, .junk, .junk, .junk, .junk, .junk, .junk, .junk, .junk, .junk, .junk, .junk, .junk, .junk, .junk], [some (.cells 3 [[(.pv (.slice .i) I.1.1), (.pv (.slice .i) I.1.2.1), (.pv .i I.1.2.2.1)]]), some (.cells 3 [[(.pv (.slice .i) I.2.1), (.pv (.slice .i) I.2.2.1), (.pv .i I.2.2.2.1)]])]⟩)) (fun b => ((.exit 2), ⟨[.junk, .junk, .junk, .junk, .junk, .junk, .junk, .junk, .junk, .junk, .junk, .junk, .junk, .junk, .junk, .junk, .junk, .junk, .junk, .junk, .junk, .junk, .junk, .junk, .junk, .junk, .junk, .junk, .junk, .junk, .junk, .junk, .junk, .junk, .junk, .junk, .junk, .junk, .junk, .junk, .junk, .junk, .junk, .junk, .junk, .junk, .junk, .junk, .junk, .junk, .junk, .junk, .junk, .junk, .junk, .junk, .junk, .junk, .junk, .junk, .junk, .junk, .junk, .junk, .junk, .junk], [some (.cells 3 [[(.pv (.slice .i) I.1.1), (.pv (.slice .i) I.1.2.1), (.pv .i I.1.2.2.1)]]), some (.cells 3 [[(.pv (.slice .i) I.2.1), (.pv (.slice .i) I.2.2.1), (.pv .i I.2.2.2.1)]])]⟩))

noncomputable def g_F9_1 : LoopFn := fun s R K => (Tmpl.read g_T9_1 s).bind fun x => (iter (fun v => g_D9_1 (g_P9_1 x).1 v _ some) (g_P9_1 x).2).bind fun p => g_E9_1 (g_P9_1 x).1 p R K

noncomputable def g_L9_0 (a' : (den Y24)) (b' : (den Y24)) (i' : Int) (R : Type) (K : (Int) ⊕ ((Unit) ⊕ (Unit)) → Option R) : Option R :=
  bif (decide (i' < ((a'.1.length : Nat) : Int))) then
    (lAt a'.1 i').bind fun e1 =>
    (lAt b'.1 i').bind fun e2 =>
    bif (e1 != e2) then
      K (.inr (.inl ()))
    else
      K (.inl (IntKind.i64.wrap (i' + 1)))
  else
    K (.inr (.inr ()))

theorem g_L9_0_nat (a' : (den Y24)) (b' : (den Y24)) (i' : Int) (R : Type) (K : (Int) ⊕ ((Unit) ⊕ (Unit)) → Option R) : g_L9_0 a' b' i' R K = (g_L9_0 a' b' i' _ some).bind K := by
  unfold g_L9_0
  repeat' first | exact nat_none | exact nat_some | apply nat_bif | (refine nat_bind fun _ => ?_) | apply nat_ite | (refine nat_sum (fun _ => ?_) fun _ => ?_) | rfl

def g_T9_0 : Tmpl := ⟨(.junk (.junk (.ptr 0 0 0 (.ptr 1 0 0 (.junk (.slot .i (.junk (.junk (.junk (.junk (.junk (.junk (.junk (.junk (.junk (.junk (.junk (.junk (.junk (.junk (.junk (.junk (.junk (.junk (.junk (.junk (.junk (.junk (.junk (.junk (.junk (.junk (.junk (.junk (.junk (.junk (.junk (.junk (.junk (.junk (.junk (.junk (.junk (.junk (.junk (.junk (.junk (.junk (.junk (.junk (.junk (.junk (.junk (.junk (.junk (.junk (.junk (.junk (.junk (.junk (.junk (.junk (.junk (.junk (.junk (.junk .nil)))))))))))))))))))))))))))))))))))))))))))))))))))))))))))))))))), (.one Y24 (.one Y24 .nil))⟩

abbrev g_I9_0 : Type := (den Y24) × (den Y24)
abbrev g_V9_0 : Type := Int
abbrev g_X9_0 : Type := (Unit) ⊕ (Unit)

def g_M9_0 : g_I9_0 → g_V9_0 → den g_T9_0.ty := fun I v => (v, I.1, I.2, ())

def g_P9_0 : den g_T9_0.ty → g_I9_0 × g_V9_0 := fun x => ((x.2.1, x.2.2.1), x.1)

noncomputable def g_D9_0 : g_I9_0 → g_V9_0 → (R : Type) → ((g_V9_0 ⊕ g_X9_0) → Option R) → Option R := fun I v R K => g_L9_0 I.1 I.2 v R K

def g_E9_0 : g_I9_0 → g_X9_0 → (R : Type) → (Ex → St → Option R) → Option R := fun I p R K => sumC p (fun a => K .ret ⟨[.junk, .junk, (.ptr 0 0 0), (.ptr 1 0 0), (.pv .bool false), .junk, .junk, .junk, .junk, .junk, .junk, .junk, .junk, .junk, .junk, .junk, .junk, .junk, .junk, .junk, .junk, .junk, .junk, .junk, .junk, .junk, .junk, .junk, .junk, .junk, .junk, .junk, .junk, .junk, .junk, .junk, .junk, .junk, .junk, .junk, .junk, .junk, .junk, .junk, .junk, .junk, .junk, .junk, .junk, .junk, .junk, .junk, .junk, .junk, .junk, .junk, .junk, .junk, .junk, .junk, .junk, .junk, .junk, .junk, .junk, .junk], [some (.cells 3 [[(.pv (.slice .i) I.1.1), (.pv (.slice .i) I.1.2.1), (.pv .i I.1.2.2.1)]]), some (.cells 3 [[(.pv (.slice .i) I.2.1), (.pv (.slice .i) I.2.2.1), (.pv .i I.2.2.2.1)]])]⟩) (fun b => K (.exit 0) ⟨[.junk, .junk, (.ptr 0 0 0), (.ptr 1 0 0), .junk, .junk, .junk, .junk, .junk, .junk, .junk, .junk, .junk, .junk, .junk, .junk, .junk, .junk, .junk, .junk, .junk, .junk, .junk, .junk, .junk, .junk, .junk, .junk, .junk, .junk, .junk, .junk, .junk, .junk, .junk, .junk, .junk, .junk, .junk, .junk, .junk, .junk, .junk, .junk, .junk, .junk, .junk, .junk, .junk, .junk, .junk, .junk, .junk, .junk, .junk, .junk, .junk, .junk, .junk, .junk, .junk, .junk, .junk, .junk, .junk, .junk], [some (.cells 3 [[(.pv (.slice .i) I.1.1), (.pv (.slice .i) I.1.2.1), (.pv .i I.1.2.2.1)]]), some (.cells 3 [[(.pv (.slice .i) I.2.1), (.pv (.slice .i) I.2.2.1), (.pv .i I.2.2.2.1)]])]⟩)

def g_K9_0 : g_I9_0 → g_X9_0 → Ex × St := fun I p => sumC p (fun a => (.ret, ⟨[.junk, .junk, (.ptr 0 0 0), (.ptr 1 0 0), (.pv .bool false), .junk, .junk, .junk, .junk, .junk, .junk, .junk, .junk, .junk, .junk, .junk, .junk, .junk, .junk, .junk, .junk, .junk, .junk, .junk, .junk, .junk, .junk, .junk, .junk, .junk, .junk, .junk, .junk, .junk, .junk, .junk, .junk, .junk, .junk, .junk, .junk, .junk, .junk, .junk, .junk, .junk, .junk, .junk, .junk, .junk, .junk, .junk, .junk, .junk, .junk, .junk, .junk, .junk, .junk, .junk, .junk, .junk, .junk, .junk, .junk, .junk], [some (.cells 3 [[(.pv (.slice .i) I.1.1), (.pv (.slice .i) I.1.2.1), (.pv .i I.1.2.2.1)]]), some (.cells 3 [[(.pv (.slice .i) I.2.1), (.pv (.slice .i) I.2.2.1), (.pv .i I.2.2.2.1)]])]⟩)) (fun b => ((.exit 0), ⟨[.junk, .junk, (.ptr 0 0 0), (.ptr 1 0 0), .junk, .junk, .junk, .junk, .junk, .junk, .junk, .junk, .junk, .junk, .junk, .junk, .junk, .junk, .junk, .junk, .junk, .junk, .junk, .junk, .junk, .junk, .junk, .junk, .junk, .junk, .junk, .junk, .junk, .junk, .junk, .junk, .junk, .junk, .junk, .junk, .junk, .junk, .junk, .junk, .junk, .junk, .junk, .junk, .junk, .junk, .junk, .junk, .junk, .junk, .junk, .junk, .junk, .junk, .junk, .junk, .junk, .junk, .junk, .junk, .junk, .junk], [some (.cells 3 [[(.pv (.slice .i) I.1.1), (.pv (.slice .i) I.1.2.1), (.pv .i I.1.2.2.1)]]), some (.cells 3 [[(.pv (.slice .i) I.2.1), (.pv (.slice .i) I.2.2.1), (.pv .i I.2.2.2.1)]])]⟩))

noncomputable def g_F9_0 : LoopFn := fun s R K => (Tmpl.read g_T9_0 s).bind fun x => (iter (fun v => g_D9_0 (g_P9_0 x).1 v _ some) (g_P9_0 x).2).bind fun p => g_E9_0 (g_P9_0 x).1 p R K

noncomputable def g_C9 : Cfg := ⟨g_tis, [], [(4, g_F9_0), (9, g_F9_1)]⟩

theorem g_HC9 : CfgOK Go.Proofs.Try.prog g_C9 := ⟨info_ok g_tisOK, all_nil, g_wide⟩

theorem g_lk9_1 : ∀ F, ((g_C9).ann.find? fun x => x.1 == firstId ((loopsOf (codeOf Go.Proofs.Try.f9)).getD 1 .skip)).map (·.2) = some F → LoopOK Go.Proofs.Try.prog ((loopsOf (codeOf Go.Proofs.Try.f9)).getD 1 .skip) F := by
  refine lookup_ok (show ((g_C9).ann.find? fun x => x.1 == firstId ((loopsOf (codeOf Go.Proofs.Try.f9)).getD 1 .skip)).map (·.2) = some g_F9_1 from by kernel_rfl) ?_
  exact loop_ok g_HC9 (loops_all 0 (by kernel_rfl) fun k hk => absurd hk (Nat.not_lt_zero k)) g_T9_1 [4] g_M9_1 g_P9_1 (fun x => rfl) g_D9_1
    (fun I v R K => g_L9_1_nat _ _ _ R K) g_E9_1 g_K9_1 (fun I p R K => by
      rcases p with p | p <;> rfl) (fun I v => by kernel_rfl)

theorem g_lk9_0 : ∀ F, ((g_C9).ann.find? fun x => x.1 == firstId ((loopsOf (codeOf Go.Proofs.Try.f9)).getD 0 .skip)).map (·.2) = some F → LoopOK Go.Proofs.Try.prog ((loopsOf (codeOf Go.Proofs.Try.f9)).getD 0 .skip) F := by
  refine lookup_ok (show ((g_C9).ann.find? fun x => x.1 == firstId ((loopsOf (codeOf Go.Proofs.Try.f9)).getD 0 .skip)).map (·.2) = some g_F9_0 from by kernel_rfl) ?_
  exact loop_ok g_HC9 (loops_all 0 (by kernel_rfl) fun k hk => absurd hk (Nat.not_lt_zero k)) g_T9_0 [2, 3, 4] g_M9_0 g_P9_0 (fun x => rfl) g_D9_0
    (fun I v R K => g_L9_0_nat _ _ _ R K) g_E9_0 g_K9_0 (fun I p R K => by
      rcases p with p | p <;> rfl) (fun I v => by kernel_rfl)

/-- loop.example/g01924/spec.EqualReports -/
noncomputable def g_S9 (a0 : (den Y24)) (b1 : (den Y24)) : Option (den (.prod .bool .unit)) :=
  bif (((a0.1.length : Nat) : Int) != ((b1.1.length : Nat) : Int)) then
    some (false, ())
  else
    bif (((a0.2.1.length : Nat) : Int) != ((b1.2.1.length : Nat) : Int)) then
      some (false, ())
    else
      bif (a0.2.2.1 != b1.2.2.1) then
        some (false, ())
      else
        (iter (fun v => g_L9_0 a0 b1 v _ some) (0)).bind fun q3 =>
        sumC q3
          (fun a4 =>
            some (false, ()))
          (fun b5 =>
            (iter (fun v => g_L9_1 a0 b1 v _ some) (0)).bind fun q8 =>
            sumC q8
              (fun a9 =>
                some (false, ()))
              (fun b10 =>
                some (true, ())))

noncomputable def g_Ent9 : Ent := ⟨9, (.prod Y24 (.prod Y24 .unit)), (.prod .bool .unit), fun x => g_S9 x.1 x.2.1⟩

theorem g_VC9 : ∀ x : den (.prod Y24 (.prod Y24 .unit)), vcall g_C9 Go.Proofs.Try.f9 (.prod Y24 (.prod Y24 .unit)) (.prod .bool .unit) x = g_S9 x.1 x.2.1 := fun x => by kernel_rfl

theorem g_OK9 : EntOK Go.Proofs.Try.prog g_Ent9 := EntOK.of_vcall g_HC9 Go.Proofs.Try.func9
  (body_loops (by kernel_rfl) (loops_all 2 (by kernel_rfl) (fun k hk => match k, hk with
    | 0, _ => g_lk9_0
    | 1, _ => g_lk9_1)))
  (by kernel_rfl) (by kernel_rfl) g_VC9

/-! ### slices.Equal[[]int,int] -/

noncomputable def g_L28_0 (s1' : (List Int)) (s2' : (List Int)) (x' : Int) (x_2' : Int) (R : Type) (K : (Int) ⊕ ((Unit) ⊕ (Unit)) → Option R) : Option R :=
  bif (decide (x_2' < x')) then
    (lAt s1' x_2').bind fun e1 =>
    (lAt s2' x_2').bind fun e2 =>
    bif (e1 != e2) then
      K (.inr (.inl ()))
    else
      K (.inl (IntKind.i64.wrap (x_2' + 1)))
  else
    K (.inr (.inr ()))

theorem g_L28_0_nat (s1' : (List Int)) (s2' : (List Int)) (x' : Int) (x_2' : Int) (R : Type) (K : (Int) ⊕ ((Unit) ⊕ (Unit)) → Option R) : g_L28_0 s1' s2' x' x_2' R K = (g_L28_0 s1' s2' x' x_2' _ some).bind K := by
  unfold g_L28_0
  repeat' first | exact nat_none | exact nat_some | apply nat_bif | (refine nat_bind fun _ => ?_) | apply nat_ite | (refine nat_sum (fun _ => ?_) fun _ => ?_) | rfl

def g_T28_0 : Tmpl := ⟨(.slot (.slice .i) (.slot (.slice .i) (.junk (.junk (.junk (.junk (.junk (.junk (.junk (.junk (.junk (.junk (.slot .i (.slot .i (.junk (.junk (.junk (.junk (.junk (.junk (.junk (.junk (.junk (.junk (.junk (.junk .nil)))))))))))))))))))))))))), .nil⟩

abbrev g_I28_0 : Type := (List Int) × (List Int) × Int
abbrev g_V28_0 : Type := Int
abbrev g_X28_0 : Type := (Unit) ⊕ (Unit)

def g_M28_0 : g_I28_0 → g_V28_0 → den g_T28_0.ty := fun I v => (I.1, I.2.1, I.2.2, v, ())

def g_P28_0 : den g_T28_0.ty → g_I28_0 × g_V28_0 := fun x => ((x.1, x.2.1, x.2.2.1), x.2.2.2.1)

noncomputable def g_D28_0 : g_I28_0 → g_V28_0 → (R : Type) → ((g_V28_0 ⊕ g_X28_0) → Option R) → Option R := fun I v R K => g_L28_0 I.1 I.2.1 I.2.2 v R K

def g_E28_0 : g_I28_0 → g_X28_0 → (R : Type) → (Ex → St → Option R) → Option R := fun I p R K => sumC p (fun a => K .ret ⟨[.junk, .junk, .junk, .junk, (.pv .bool false), .junk, .junk, .junk, .junk, .junk, .junk, .junk, .junk, .junk, .junk, .junk, .junk, .junk, .junk, .junk, .junk, .junk, .junk, .junk, .junk, .junk], []⟩) (fun b => K (.exit 0) ⟨[.junk, .junk, .junk, .junk, .junk, .junk, .junk, .junk, .junk, .junk, .junk, .junk, .junk, .junk, .junk, .junk, .junk, .junk, .junk, .junk, .junk, .junk, .junk, .junk, .junk, .junk], []⟩)

def g_K28_0 : g_I28_0 → g_X28_0 → Ex × St := fun I p => sumC p (fun a => (.ret, ⟨[.junk, .junk, .junk, .junk, (.pv .bool false), .junk, .junk, .junk, .junk, .junk, .junk, .junk, .junk, .junk, .junk, .junk, .junk, .junk, .junk, .junk, .junk, .junk, .junk, .junk, .junk, .junk], []⟩)) (fun b => ((.exit 0), ⟨[.junk, .junk, .junk, .junk, .junk, .junk, .junk, .junk, .junk, .junk, .junk, .junk, .junk, .junk, .junk, .junk, .junk, .junk, .junk, .junk, .junk, .junk, .junk, .junk, .junk, .junk], []⟩))

noncomputable def g_F28_0 : LoopFn := fun s R K => (Tmpl.read g_T28_0 s).bind fun x => (iter (fun v => g_D28_0 (g_P28_0 x).1 v _ some) (g_P28_0 x).2).bind fun p => g_E28_0 (g_P28_0 x).1 p R K

noncomputable def g_C28 : Cfg := ⟨g_tis, [], [(4, g_F28_0)]⟩

theorem g_HC28 : CfgOK Go.Proofs.Try.prog g_C28 := ⟨info_ok g_tisOK, all_nil, g_wide⟩

theorem g_lk28_0 : ∀ F, ((g_C28).ann.find? fun x => x.1 == firstId ((loopsOf (codeOf Go.Proofs.Try.f28)).getD 0 .skip)).map (·.2) = some F → LoopOK Go.Proofs.Try.prog ((loopsOf (codeOf Go.Proofs.Try.f28)).getD 0 .skip) F := by
  refine lookup_ok (show ((g_C28).ann.find? fun x => x.1 == firstId ((loopsOf (codeOf Go.Proofs.Try.f28)).getD 0 .skip)).map (·.2) = some g_F28_0 from by kernel_rfl) ?_
  exact loop_ok g_HC28 (loops_all 0 (by kernel_rfl) fun k hk => absurd hk (Nat.not_lt_zero k)) g_T28_0 [4] g_M28_0 g_P28_0 (fun x => rfl) g_D28_0
    (fun I v R K => g_L28_0_nat _ _ _ _ R K) g_E28_0 g_K28_0 (fun I p R K => by
      rcases p with p | p <;> rfl) (fun I v => by kernel_rfl)

/-- slices.Equal[[]int,int] -/
noncomputable def g_S28 (s10 : (List Int)) (s21 : (List Int)) : Option (den (.prod .bool .unit)) :=
  bif (((s10.length : Nat) : Int) != ((s21.length : Nat) : Int)) then
    some (false, ())
  else
    (iter (fun v => g_L28_0 s10 s21 ((s10.length : Nat) : Int) v _ some) (0)).bind fun q3 =>
    sumC q3
      (fun a4 =>
        some (false, ()))
      (fun b5 =>
        some (true, ()))

noncomputable def g_Ent28 : Ent := ⟨28, (.prod (.slice .i) (.prod (.slice .i) .unit)), (.prod .bool .unit), fun x => g_S28 x.1 x.2.1⟩

theorem g_VC28 : ∀ x : den (.prod (.slice .i) (.prod (.slice .i) .unit)), vcall g_C28 Go.Proofs.Try.f28 (.prod (.slice .i) (.prod (.slice .i) .unit)) (.prod .bool .unit) x = g_S28 x.1 x.2.1 := fun x => by kernel_rfl

theorem g_OK28 : EntOK Go.Proofs.Try.prog g_Ent28 := EntOK.of_vcall g_HC28 Go.Proofs.Try.func28
  (body_loops (by kernel_rfl) (loops_all 1 (by kernel_rfl) (fun k hk => match k, hk with
    | 0, _ => g_lk28_0)))
  (by kernel_rfl) (by kernel_rfl) g_VC28

/-! ### loop.example/g01924/impl.EqualReports -/

noncomputable def g_C11 : Cfg := ⟨g_tis, [g_Ent28], []⟩

theorem g_HC11 : CfgOK Go.Proofs.Try.prog g_C11 := ⟨info_ok g_tisOK, (all_cons g_OK28 all_nil), g_wide⟩

/-- loop.example/g01924/impl.EqualReports -/
noncomputable def g_S11 (a0 : (den Y24)) (b1 : (den Y24)) : Option (den (.prod .bool .unit)) :=
  bif (a0.2.2.1 == b1.2.2.1) then
    (g_S28 a0.1 b1.1).bind fun r1 =>
    bif r1.1 then
      (g_S28 a0.2.1 b1.2.1).bind fun r2 =>
      some (r2.1, ())
    else
      some (false, ())
  else
    some (false, ())

noncomputable def g_Ent11 : Ent := ⟨11, (.prod Y24 (.prod Y24 .unit)), (.prod .bool .unit), fun x => g_S11 x.1 x.2.1⟩

theorem g_VC11 : ∀ x : den (.prod Y24 (.prod Y24 .unit)), vcall g_C11 Go.Proofs.Try.f11 (.prod Y24 (.prod Y24 .unit)) (.prod .bool .unit) x = g_S11 x.1 x.2.1 := fun x => by kernel_rfl

theorem g_OK11 : EntOK Go.Proofs.Try.prog g_Ent11 := EntOK.of_vcall g_HC11 Go.Proofs.Try.func11
  (body_loops (by kernel_rfl) (loops_all 0 (by kernel_rfl) fun k hk => absurd hk (Nat.not_lt_zero k)))
  (by kernel_rfl) (by kernel_rfl) g_VC11

/-! ### loop.example/g01924/laws.eqIntS -/

noncomputable def g_L29_0 (a' : (List Int)) (b' : (List Int)) (i' : Int) (R : Type) (K : (Int) ⊕ ((Unit) ⊕ (Unit)) → Option R) : Option R :=
  bif (decide (i' < ((a'.length : Nat) : Int))) then
    (lAt a' i').bind fun e1 =>
    (lAt b' i').bind fun e2 =>
    bif (e1 != e2) then
      K (.inr (.inl ()))
    else
      K (.inl (IntKind.i64.wrap (i' + 1)))
  else
    K (.inr (.inr ()))

theorem g_L29_0_nat (a' : (List Int)) (b' : (List Int)) (i' : Int) (R : Type) (K : (Int) ⊕ ((Unit) ⊕ (Unit)) → Option R) : g_L29_0 a' b' i' R K = (g_L29_0 a' b' i' _ some).bind K := by
  unfold g_L29_0
  repeat' first | exact nat_none | exact nat_some | apply nat_bif | (refine nat_bind fun _ => ?_) | apply nat_ite | (refine nat_sum (fun _ => ?_) fun _ => ?_) | rfl

def g_T29_0 : Tmpl := ⟨(.slot (.slice .i) (.slot (.slice .i) (.junk (.junk (.junk (.slot .i (.junk (.junk (.junk (.junk (.junk (.junk (.junk (.junk (.junk (.junk (.junk (.junk (.junk (.junk (.junk (.junk (.junk (.junk (.junk (.junk .nil)))))))))))))))))))))))))), .nil⟩

abbrev g_I29_0 : Type := (List Int) × (List Int)
abbrev g_V29_0 : Type := Int
abbrev g_X29_0 : Type := (Unit) ⊕ (Unit)

def g_M29_0 : g_I29_0 → g_V29_0 → den g_T29_0.ty := fun I v => (I.1, I.2, v, ())

def g_P29_0 : den g_T29_0.ty → g_I29_0 × g_V29_0 := fun x => ((x.1, x.2.1), x.2.2.1)

noncomputable def g_D29_0 : g_I29_0 → g_V29_0 → (R : Type) → ((g_V29_0 ⊕ g_X29_0) → Option R) → Option R := fun I v R K => g_L29_0 I.1 I.2 v R K

def g_E29_0 : g_I29_0 → g_X29_0 → (R : Type) → (Ex → St → Option R) → Option R := fun I p R K => sumC p (fun a => K .ret ⟨[.junk, .junk, .junk, .junk, (.pv .bool false), .junk, .junk, .junk, .junk, .junk, .junk, .junk, .junk, .junk, .junk, .junk, .junk, .junk, .junk, .junk, .junk, .junk, .junk, .junk, .junk, .junk], []⟩) (fun b => K (.exit 0) ⟨[.junk, .junk, .junk, .junk, .junk, .junk, .junk, .junk, .junk, .junk, .junk, .junk, .junk, .junk, .junk, .junk, .junk, .junk, .junk, .junk, .junk, .junk, .junk, .junk, .junk, .junk], []⟩)

def g_K29_0 : g_I29_0 → g_X29_0 → Ex × St := fun I p => sumC p (fun a => (.ret, ⟨[.junk, .junk, .junk, .junk, (.pv .bool false), .junk, .junk, .junk, .junk, .junk, .junk, .junk, .junk, .junk, .junk, .junk, .junk, .junk, .junk, .junk, .junk, .junk, .junk, .junk, .junk, .junk], []⟩)) (fun b => ((.exit 0), ⟨[.junk, .junk, .junk, .junk, .junk, .junk, .junk, .junk, .junk, .junk, .junk, .junk, .junk, .junk, .junk, .junk, .junk, .junk, .junk, .junk, .junk, .junk, .junk, .junk, .junk, .junk], []⟩))

noncomputable def g_F29_0 : LoopFn := fun s R K => (Tmpl.read g_T29_0 s).bind fun x => (iter (fun v => g_D29_0 (g_P29_0 x).1 v _ some) (g_P29_0 x).2).bind fun p => g_E29_0 (g_P29_0 x).1 p R K

noncomputable def g_C29 : Cfg := ⟨g_tis, [], [(4, g_F29_0)]⟩

theorem g_HC29 : CfgOK Go.Proofs.Try.prog g_C29 := ⟨info_ok g_tisOK, all_nil, g_wide⟩

theorem g_lk29_0 : ∀ F, ((g_C29).ann.find? fun x => x.1 == firstId ((loopsOf (codeOf Go.Proofs.Try.f29)).getD 0 .skip)).map (·.2) = some F → LoopOK Go.Proofs.Try.prog ((loopsOf (codeOf Go.Proofs.Try.f29)).getD 0 .skip) F := by
  refine lookup_ok (show ((g_C29).ann.find? fun x => x.1 == firstId ((loopsOf (codeOf Go.Proofs.Try.f29)).getD 0 .skip)).map (·.2) = some g_F29_0 from by kernel_rfl) ?_
  exact loop_ok g_HC29 (loops_all 0 (by kernel_rfl) fun k hk => absurd hk (Nat.not_lt_zero k)) g_T29_0 [4] g_M29_0 g_P29_0 (fun x => rfl) g_D29_0
    (fun I v R K => g_L29_0_nat _ _ _ R K) g_E29_0 g_K29_0 (fun I p R K => by
      rcases p with p | p <;> rfl) (fun I v => by kernel_rfl)

/-- loop.example/g01924/laws.eqIntS -/
noncomputable def g_S29 (a0 : (List Int)) (b1 : (List Int)) : Option (den (.prod .bool .unit)) :=
  bif (((a0.length : Nat) : Int) != ((b1.length : Nat) : Int)) then
    some (false, ())
  else
    (iter (fun v => g_L29_0 a0 b1 v _ some) (0)).bind fun q3 =>
    sumC q3
      (fun a4 =>
        some (false, ()))
      (fun b5 =>
        some (true, ()))

noncomputable def g_Ent29 : Ent := ⟨29, (.prod (.slice .i) (.prod (.slice .i) .unit)), (.prod .bool .unit), fun x => g_S29 x.1 x.2.1⟩

theorem g_VC29 : ∀ x : den (.prod (.slice .i) (.prod (.slice .i) .unit)), vcall g_C29 Go.Proofs.Try.f29 (.prod (.slice .i) (.prod (.slice .i) .unit)) (.prod .bool .unit) x = g_S29 x.1 x.2.1 := fun x => by kernel_rfl

theorem g_OK29 : EntOK Go.Proofs.Try.prog g_Ent29 := EntOK.of_vcall g_HC29 Go.Proofs.Try.func29
  (body_loops (by kernel_rfl) (loops_all 1 (by kernel_rfl) (fun k hk => match k, hk with
    | 0, _ => g_lk29_0)))
  (by kernel_rfl) (by kernel_rfl) g_VC29

/-! ### loop.example/g01924/laws.eqReport -/

noncomputable def g_C12 : Cfg := ⟨g_tis, [g_Ent29], []⟩

theorem g_HC12 : CfgOK Go.Proofs.Try.prog g_C12 := ⟨info_ok g_tisOK, (all_cons g_OK29 all_nil), g_wide⟩

/-- loop.example/g01924/laws.eqReport -/
noncomputable def g_S12 (a0 : (den Y24)) (b1 : (den Y24)) : Option (den (.prod .bool .unit)) :=
  (g_S29 a0.1 b1.1).bind fun r1 =>
  bif (!r1.1) then
    some (false, ())
  else
    (g_S29 a0.2.1 b1.2.1).bind fun r2 =>
    bif (!r2.1) then
      some (false, ())
    else
      bif (a0.2.2.1 != b1.2.2.1) then
        some (false, ())
      else
        some (true, ())

noncomputable def g_Ent12 : Ent := ⟨12, (.prod Y24 (.prod Y24 .unit)), (.prod .bool .unit), fun x => g_S12 x.1 x.2.1⟩

theorem g_VC12 : ∀ x : den (.prod Y24 (.prod Y24 .unit)), vcall g_C12 Go.Proofs.Try.f12 (.prod Y24 (.prod Y24 .unit)) (.prod .bool .unit) x = g_S12 x.1 x.2.1 := fun x => by kernel_rfl

theorem g_OK12 : EntOK Go.Proofs.Try.prog g_Ent12 := EntOK.of_vcall g_HC12 Go.Proofs.Try.func12
  (body_loops (by kernel_rfl) (loops_all 0 (by kernel_rfl) fun k hk => absurd hk (Nat.not_lt_zero k)))
  (by kernel_rfl) (by kernel_rfl) g_VC12

/-! ### loop.example/g01924/laws.FnExactEqualReports -/

noncomputable def g_C3 : Cfg := ⟨g_tis, [g_Ent8, g_Ent10, g_Ent9, g_Ent11, g_Ent12], []⟩

theorem g_HC3 : CfgOK Go.Proofs.Try.prog g_C3 := ⟨info_ok g_tisOK, (all_cons g_OK8 (all_cons g_OK10 (all_cons g_OK9 (all_cons g_OK11 (all_cons g_OK12 all_nil))))), g_wide⟩

/-- loop.example/g01924/laws.FnExactEqualReports -/
noncomputable def g_S3 (aA0 : (den Y24)) (aB1 : (den Y24)) : Option (den (.prod .bool .unit)) :=
  (g_S8 aA0 1048576).bind fun r1 =>
  bif (decide (r1.1 < 0)) then
    some (true, ())
  else
    (g_S8 aB1 r1.1).bind fun r2 =>
    bif (decide (r2.1 < 0)) then
      some (true, ())
    else
      (g_S10 aA0).bind fun r3 =>
      (g_S10 aB1).bind fun r4 =>
      (g_S9 r3.1 r4.1).bind fun r5 =>
      (g_S10 aA0).bind fun r6 =>
      (g_S10 aB1).bind fun r7 =>
      (g_S11 r6.1 r7.1).bind fun r8 =>
      bif (!(r8.1 == r5.1)) then
        some (false, ())
      else
        (g_S10 aA0).bind fun r9 =>
        (g_S12 r6.1 r9.1).bind fun r10 =>
        bif (!r10.1) then
          some (false, ())
        else
          (g_S10 aB1).bind fun r11 =>
          (g_S12 r7.1 r11.1).bind fun r12 =>
          bif (!r12.1) then
            some (false, ())
          else
            some (true, ())

noncomputable def g_Ent3 : Ent := ⟨3, (.prod Y24 (.prod Y24 .unit)), (.prod .bool .unit), fun x => g_S3 x.1 x.2.1⟩

theorem g_VC3 : ∀ x : den (.prod Y24 (.prod Y24 .unit)), vcall g_C3 Go.Proofs.Try.f3 (.prod Y24 (.prod Y24 .unit)) (.prod .bool .unit) x = g_S3 x.1 x.2.1 := fun x => by kernel_rfl

theorem g_OK3 : EntOK Go.Proofs.Try.prog g_Ent3 := EntOK.of_vcall g_HC3 Go.Proofs.Try.func3
  (body_loops (by kernel_rfl) (loops_all 0 (by kernel_rfl) fun k hk => absurd hk (Nat.not_lt_zero k)))
  (by kernel_rfl) (by kernel_rfl) g_VC3
end Go.Ab
