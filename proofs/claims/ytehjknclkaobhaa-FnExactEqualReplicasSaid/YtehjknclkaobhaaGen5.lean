import Derived.Test.YtehjknclkaobhaaAbCall
import Derived.Test.YtehjknclkaobhaaProg
import Derived.KernelRfl
set_option linter.unusedVariables false
set_option maxRecDepth 100000
namespace Go.Ab
abbrev Y43 : Ty := (.prod .i (.prod .i (.prod (.prod (.slice (.slice (.prod .i (.prod .i (.prod .i (.prod .i (.prod .i .unit))))))) .unit) .unit)))

abbrev Y41 : Ty := (.prod (.slice (.slice (.prod .i (.prod .i (.prod .i (.prod .i (.prod .i .unit))))))) .unit)

abbrev Y65 : Ty := (.prod .i (.prod .i (.prod .i (.prod .i (.prod .i .unit)))))

noncomputable def g_tis : List (TypeId × TI) := [(3, ⟨1, (.int .i64), (some .i), [.pv (.int .i64) 0], 4398046511104⟩), (4, ⟨1, .bool, (some .bool), [.b false], 35184372088832⟩), (30, ⟨1, (.slice 68), (some (.slice (.slice Y65))), [.nils], 1466015503701⟩), (32, ⟨1, (.struct [(0, 30)]), (some Y41), [.nils], 1466015503701⟩), (34, ⟨3, (.struct [(0, 3), (1, 3), (2, 32)]), (some Y43), [.pv (.int .i64) 0, .pv (.int .i64) 0, .nils], 879609302220⟩), (39, ⟨1, (.slice 80), (some (.slice (.slice Y65))), [.nils], 1466015503701⟩), (41, ⟨1, (.struct [(0, 39)]), (some Y41), [.nils], 1466015503701⟩), (43, ⟨3, (.struct [(0, 3), (1, 3), (2, 41)]), (some Y43), [.pv (.int .i64) 0, .pv (.int .i64) 0, .nils], 879609302220⟩), (65, ⟨5, (.struct [(0, 3), (1, 3), (2, 3), (3, 3), (4, 3)]), (some Y65), [.pv (.int .i64) 0, .pv (.int .i64) 0, .pv (.int .i64) 0, .pv (.int .i64) 0, .pv (.int .i64) 0], 879609302220⟩), (68, ⟨1, (.slice 65), (some (.slice Y65)), [.nils], 1466015503701⟩), (80, ⟨1, (.slice 86), (some (.slice Y65)), [.nils], 1466015503701⟩), (86, ⟨5, (.struct [(0, 3), (1, 3), (2, 3), (3, 3), (4, 3)]), (some Y65), [.pv (.int .i64) 0, .pv (.int .i64) 0, .pv (.int .i64) 0, .pv (.int .i64) 0, .pv (.int .i64) 0], 879609302220⟩)]

theorem g_ti3 : TIOK Go.Proofs.Try.prog 3 ⟨1, (.int .i64), (some .i), [.pv (.int .i64) 0], 4398046511104⟩ :=
  ⟨Go.Proofs.Try.t3, _, by kernel_rfl, Go.Proofs.Try.underlying3, by kernel_rfl, rfl, ⟨_, rfl, by kernel_rfl, by kernel_rfl⟩, of_decide_eq_true (by kernel_rfl), of_decide_eq_true (by kernel_rfl)⟩

theorem g_ti4 : TIOK Go.Proofs.Try.prog 4 ⟨1, .bool, (some .bool), [.b false], 35184372088832⟩ :=
  ⟨Go.Proofs.Try.t4, _, by kernel_rfl, Go.Proofs.Try.underlying4, by kernel_rfl, rfl, ⟨_, rfl, by kernel_rfl, by kernel_rfl⟩, of_decide_eq_true (by kernel_rfl), of_decide_eq_true (by kernel_rfl)⟩

theorem g_ti30 : TIOK Go.Proofs.Try.prog 30 ⟨1, (.slice 68), (some (.slice (.slice Y65))), [.nils], 1466015503701⟩ :=
  ⟨Go.Proofs.Try.t30, _, by kernel_rfl, Go.Proofs.Try.underlying30, by kernel_rfl, rfl, ⟨_, rfl, by kernel_rfl, by kernel_rfl⟩, of_decide_eq_true (by kernel_rfl), of_decide_eq_true (by kernel_rfl)⟩

theorem g_ti32 : TIOK Go.Proofs.Try.prog 32 ⟨1, (.struct [(0, 30)]), (some Y41), [.nils], 1466015503701⟩ :=
  ⟨Go.Proofs.Try.t32, _, by kernel_rfl, Go.Proofs.Try.underlying32, by kernel_rfl, ⟨_, rfl, by kernel_rfl, by kernel_rfl, by kernel_rfl, by kernel_rfl, of_decide_eq_true (by kernel_rfl)⟩, ⟨_, rfl, by kernel_rfl, by kernel_rfl⟩, of_decide_eq_true (by kernel_rfl), of_decide_eq_true (by kernel_rfl)⟩

theorem g_ti34 : TIOK Go.Proofs.Try.prog 34 ⟨3, (.struct [(0, 3), (1, 3), (2, 32)]), (some Y43), [.pv (.int .i64) 0, .pv (.int .i64) 0, .nils], 879609302220⟩ :=
  ⟨Go.Proofs.Try.t34, _, by kernel_rfl, Go.Proofs.Try.underlying34, by kernel_rfl, ⟨_, rfl, by kernel_rfl, by kernel_rfl, by kernel_rfl, by kernel_rfl, of_decide_eq_true (by kernel_rfl)⟩, ⟨_, rfl, by kernel_rfl, by kernel_rfl⟩, of_decide_eq_true (by kernel_rfl), of_decide_eq_true (by kernel_rfl)⟩

theorem g_ti39 : TIOK Go.Proofs.Try.prog 39 ⟨1, (.slice 80), (some (.slice (.slice Y65))), [.nils], 1466015503701⟩ :=
  ⟨Go.Proofs.Try.t39, _, by kernel_rfl, Go.Proofs.Try.underlying39, by kernel_rfl, rfl, ⟨_, rfl, by kernel_rfl, by kernel_rfl⟩, of_decide_eq_true (by kernel_rfl), of_decide_eq_true (by kernel_rfl)⟩

theorem g_ti41 : TIOK Go.Proofs.Try.prog 41 ⟨1, (.struct [(0, 39)]), (some Y41), [.nils], 1466015503701⟩ :=
  ⟨Go.Proofs.Try.t41, _, by kernel_rfl, Go.Proofs.Try.underlying41, by kernel_rfl, ⟨_, rfl, by kernel_rfl, by kernel_rfl, by kernel_rfl, by kernel_rfl, of_decide_eq_true (by kernel_rfl)⟩, ⟨_, rfl, by kernel_rfl, by kernel_rfl⟩, of_decide_eq_true (by kernel_rfl), of_decide_eq_true (by kernel_rfl)⟩

theorem g_ti43 : TIOK Go.Proofs.Try.prog 43 ⟨3, (.struct [(0, 3), (1, 3), (2, 41)]), (some Y43), [.pv (.int .i64) 0, .pv (.int .i64) 0, .nils], 879609302220⟩ :=
  ⟨Go.Proofs.Try.t43, _, by kernel_rfl, Go.Proofs.Try.underlying43, by kernel_rfl, ⟨_, rfl, by kernel_rfl, by kernel_rfl, by kernel_rfl, by kernel_rfl, of_decide_eq_true (by kernel_rfl)⟩, ⟨_, rfl, by kernel_rfl, by kernel_rfl⟩, of_decide_eq_true (by kernel_rfl), of_decide_eq_true (by kernel_rfl)⟩

theorem g_ti65 : TIOK Go.Proofs.Try.prog 65 ⟨5, (.struct [(0, 3), (1, 3), (2, 3), (3, 3), (4, 3)]), (some Y65), [.pv (.int .i64) 0, .pv (.int .i64) 0, .pv (.int .i64) 0, .pv (.int .i64) 0, .pv (.int .i64) 0], 879609302220⟩ :=
  ⟨Go.Proofs.Try.t65, _, by kernel_rfl, Go.Proofs.Try.underlying65, by kernel_rfl, ⟨_, rfl, by kernel_rfl, by kernel_rfl, by kernel_rfl, by kernel_rfl, of_decide_eq_true (by kernel_rfl)⟩, ⟨_, rfl, by kernel_rfl, by kernel_rfl⟩, of_decide_eq_true (by kernel_rfl), of_decide_eq_true (by kernel_rfl)⟩

theorem g_ti68 : TIOK Go.Proofs.Try.prog 68 ⟨1, (.slice 65), (some (.slice Y65)), [.nils], 1466015503701⟩ :=
  ⟨Go.Proofs.Try.t68, _, by kernel_rfl, Go.Proofs.Try.underlying68, by kernel_rfl, rfl, ⟨_, rfl, by kernel_rfl, by kernel_rfl⟩, of_decide_eq_true (by kernel_rfl), of_decide_eq_true (by kernel_rfl)⟩

theorem g_ti80 : TIOK Go.Proofs.Try.prog 80 ⟨1, (.slice 86), (some (.slice Y65)), [.nils], 1466015503701⟩ :=
  ⟨Go.Proofs.Try.t80, _, by kernel_rfl, Go.Proofs.Try.underlying80, by kernel_rfl, rfl, ⟨_, rfl, by kernel_rfl, by kernel_rfl⟩, of_decide_eq_true (by kernel_rfl), of_decide_eq_true (by kernel_rfl)⟩

theorem g_ti86 : TIOK Go.Proofs.Try.prog 86 ⟨5, (.struct [(0, 3), (1, 3), (2, 3), (3, 3), (4, 3)]), (some Y65), [.pv (.int .i64) 0, .pv (.int .i64) 0, .pv (.int .i64) 0, .pv (.int .i64) 0, .pv (.int .i64) 0], 879609302220⟩ :=
  ⟨Go.Proofs.Try.t86, _, by kernel_rfl, Go.Proofs.Try.underlying86, by kernel_rfl, ⟨_, rfl, by kernel_rfl, by kernel_rfl, by kernel_rfl, by kernel_rfl, of_decide_eq_true (by kernel_rfl)⟩, ⟨_, rfl, by kernel_rfl, by kernel_rfl⟩, of_decide_eq_true (by kernel_rfl), of_decide_eq_true (by kernel_rfl)⟩

theorem g_tisOK : ∀ p ∈ g_tis, TIOK Go.Proofs.Try.prog p.1 p.2 := (all_cons g_ti3 (all_cons g_ti4 (all_cons g_ti30 (all_cons g_ti32 (all_cons g_ti34 (all_cons g_ti39 (all_cons g_ti41 (all_cons g_ti43 (all_cons g_ti65 (all_cons g_ti68 (all_cons g_ti80 (all_cons g_ti86 all_nil))))))))))))

theorem g_wide : Go.Proofs.Try.prog.follows .mixedOrders = true := by kernel_rfl

/-! ### loop.example/g01924/laws.szVersionS -/

noncomputable def g_C65 : Cfg := ⟨g_tis, [], []⟩

theorem g_HC65 : CfgOK Go.Proofs.Try.prog g_C65 := ⟨info_ok g_tisOK, all_nil, g_wide⟩

/-- loop.example/g01924/laws.szVersionS -/
noncomputable def g_S65 (a0 : (List (den Y65))) (left1 : Int) : Option (den (.prod .i .unit)) :=
  bif (decide ((IntKind.i64.wrap (left1 - ((a0.length : Nat) : Int))) < 0)) then
    some ((-1), ())
  else
    some ((IntKind.i64.wrap (left1 - ((a0.length : Nat) : Int))), ())

noncomputable def g_Ent65 : Ent := ⟨65, (.prod (.slice Y65) (.prod .i .unit)), (.prod .i .unit), fun x => g_S65 x.1 x.2.1⟩

theorem g_VC65 : ∀ x : den (.prod (.slice Y65) (.prod .i .unit)), vcall g_C65 Go.Proofs.Try.f65 (.prod (.slice Y65) (.prod .i .unit)) (.prod .i .unit) x = g_S65 x.1 x.2.1 := fun x => by kernel_rfl

theorem g_OK65 : EntOK Go.Proofs.Try.prog g_Ent65 := EntOK.of_vcall g_HC65 Go.Proofs.Try.func65
  (body_loops (by kernel_rfl) (loops_all 0 (by kernel_rfl) fun k hk => absurd hk (Nat.not_lt_zero k)))
  (by kernel_rfl) (by kernel_rfl) g_VC65

/-! ### loop.example/g01924/laws.szVersionSS -/

noncomputable def g_L50_0 (a' : (List (List (den Y65)))) (left' : Int) (i' : Int) (R : Type) (K : (Int × Int) ⊕ ((Int) ⊕ (Int)) → Option R) : Option R :=
  bif (decide (i' < ((a'.length : Nat) : Int))) then
    (lAt a' i').bind fun e1 =>
    (g_S65 e1 (left')).bind fun r2 =>
    bif (decide (r2.1 < 0)) then
      K (.inr (.inl r2.1))
    else
      K (.inl (r2.1, (IntKind.i64.wrap (i' + 1))))
  else
    K (.inr (.inr (left')))

theorem g_L50_0_nat (a' : (List (List (den Y65)))) (left' : Int) (i' : Int) (R : Type) (K : (Int × Int) ⊕ ((Int) ⊕ (Int)) → Option R) : g_L50_0 a' left' i' R K = (g_L50_0 a' left' i' _ some).bind K := by
  unfold g_L50_0
  repeat' first | exact nat_none | exact nat_some | apply nat_bif | (refine nat_bind fun _ => ?_) | apply nat_ite | (refine nat_sum (fun _ => ?_) fun _ => ?_) | rfl

def g_T50_0 : Tmpl := ⟨(.slot (.slice (.slice Y65)) (.slot .i (.junk (.junk (.junk (.slot .i (.junk (.junk (.junk (.junk (.junk (.junk (.junk (.junk (.junk (.junk (.junk (.junk (.junk (.junk (.junk (.junk (.junk (.junk (.junk (.junk (.junk .nil))))))))))))))))))))))))))), .nil⟩

abbrev g_I50_0 : Type := (List (List (den Y65)))
abbrev g_V50_0 : Type := Int × Int
abbrev g_X50_0 : Type := (Int) ⊕ (Int)

def g_M50_0 : g_I50_0 → g_V50_0 → den g_T50_0.ty := fun I v => (I, v.1, v.2, ())

def g_P50_0 : den g_T50_0.ty → g_I50_0 × g_V50_0 := fun x => (x.1, (x.2.1, x.2.2.1))

noncomputable def g_D50_0 : g_I50_0 → g_V50_0 → (R : Type) → ((g_V50_0 ⊕ g_X50_0) → Option R) → Option R := fun I v R K => g_L50_0 I v.1 v.2 R K

def g_E50_0 : g_I50_0 → g_X50_0 → (R : Type) → (Ex → St → Option R) → Option R := fun I p R K => sumC p (fun a => K .ret ⟨[.junk, (.pv .i a), .junk, .junk, (.pv .i (-1)), .junk, .junk, .junk, .junk, .junk, .junk, .junk, .junk, .junk, .junk, .junk, .junk, .junk, .junk, .junk, .junk, .junk, .junk, .junk, .junk, .junk, .junk], []⟩) (fun b => K (.exit 0) ⟨[.junk, (.pv .i b), .junk, .junk, .junk, .junk, .junk, .junk, .junk, .junk, .junk, .junk, .junk, .junk, .junk, .junk, .junk, .junk, .junk, .junk, .junk, .junk, .junk, .junk, .junk, .junk, .junk], []⟩)

def g_K50_0 : g_I50_0 → g_X50_0 → Ex × St := fun I p => sumC p (fun a => (.ret, ⟨[.junk, (.pv .i a), .junk, .junk, (.pv .i (-1)), .junk, .junk, .junk, .junk, .junk, .junk, .junk, .junk, .junk, .junk, .junk, .junk, .junk, .junk, .junk, .junk, .junk, .junk, .junk, .junk, .junk, .junk], []⟩)) (fun b => ((.exit 0), ⟨[.junk, (.pv .i b), .junk, .junk, .junk, .junk, .junk, .junk, .junk, .junk, .junk, .junk, .junk, .junk, .junk, .junk, .junk, .junk, .junk, .junk, .junk, .junk, .junk, .junk, .junk, .junk, .junk], []⟩))

noncomputable def g_F50_0 : LoopFn := fun s R K => (Tmpl.read g_T50_0 s).bind fun x => (iter (fun v => g_D50_0 (g_P50_0 x).1 v _ some) (g_P50_0 x).2).bind fun p => g_E50_0 (g_P50_0 x).1 p R K

noncomputable def g_C50 : Cfg := ⟨g_tis, [g_Ent65], [(5, g_F50_0)]⟩

theorem g_HC50 : CfgOK Go.Proofs.Try.prog g_C50 := ⟨info_ok g_tisOK, (all_cons g_OK65 all_nil), g_wide⟩

theorem g_lk50_0 : ∀ F, ((g_C50).ann.find? fun x => x.1 == firstId ((loopsOf (codeOf Go.Proofs.Try.f50)).getD 0 .skip)).map (·.2) = some F → LoopOK Go.Proofs.Try.prog ((loopsOf (codeOf Go.Proofs.Try.f50)).getD 0 .skip) F := by
  refine lookup_ok (show ((g_C50).ann.find? fun x => x.1 == firstId ((loopsOf (codeOf Go.Proofs.Try.f50)).getD 0 .skip)).map (·.2) = some g_F50_0 from by kernel_rfl) ?_
  exact loop_ok g_HC50 (loops_all 0 (by kernel_rfl) fun k hk => absurd hk (Nat.not_lt_zero k)) g_T50_0 [1, 4] g_M50_0 g_P50_0 (fun x => rfl) g_D50_0
    (fun I v R K => g_L50_0_nat _ _ _ R K) g_E50_0 g_K50_0 (fun I p R K => by
      rcases p with p | p <;> rfl) (fun I v => by kernel_rfl)

/-- loop.example/g01924/laws.szVersionSS -/
noncomputable def g_S50 (a0 : (List (List (den Y65)))) (left1 : Int) : Option (den (.prod .i .unit)) :=
  bif (decide ((IntKind.i64.wrap (left1 - ((a0.length : Nat) : Int))) < 0)) then
    some ((-1), ())
  else
    (iter (fun v => g_L50_0 a0 v.1 v.2 _ some) ((IntKind.i64.wrap (left1 - ((a0.length : Nat) : Int))), 0)).bind fun q3 =>
    sumC q3
      (fun a4 =>
        some ((-1), ()))
      (fun b5 =>
        some (b5, ()))

noncomputable def g_Ent50 : Ent := ⟨50, (.prod (.slice (.slice Y65)) (.prod .i .unit)), (.prod .i .unit), fun x => g_S50 x.1 x.2.1⟩

theorem g_VC50 : ∀ x : den (.prod (.slice (.slice Y65)) (.prod .i .unit)), vcall g_C50 Go.Proofs.Try.f50 (.prod (.slice (.slice Y65)) (.prod .i .unit)) (.prod .i .unit) x = g_S50 x.1 x.2.1 := fun x => by kernel_rfl

theorem g_OK50 : EntOK Go.Proofs.Try.prog g_Ent50 := EntOK.of_vcall g_HC50 Go.Proofs.Try.func50
  (body_loops (by kernel_rfl) (loops_all 1 (by kernel_rfl) (fun k hk => match k, hk with
    | 0, _ => g_lk50_0)))
  (by kernel_rfl) (by kernel_rfl) g_VC50

/-! ### loop.example/g01924/laws.szStore -/

noncomputable def g_C35 : Cfg := ⟨g_tis, [g_Ent50], []⟩

theorem g_HC35 : CfgOK Go.Proofs.Try.prog g_C35 := ⟨info_ok g_tisOK, (all_cons g_OK50 all_nil), g_wide⟩

/-- loop.example/g01924/laws.szStore -/
noncomputable def g_S35 (a0 : (den Y41)) (left1 : Int) : Option (den (.prod .i .unit)) :=
  (g_S50 a0.1 left1).bind fun r1 =>
  bif (decide (r1.1 < 0)) then
    some ((-1), ())
  else
    some (r1.1, ())

noncomputable def g_Ent35 : Ent := ⟨35, (.prod Y41 (.prod .i .unit)), (.prod .i .unit), fun x => g_S35 x.1 x.2.1⟩

theorem g_VC35 : ∀ x : den (.prod Y41 (.prod .i .unit)), vcall g_C35 Go.Proofs.Try.f35 (.prod Y41 (.prod .i .unit)) (.prod .i .unit) x = g_S35 x.1 x.2.1 := fun x => by kernel_rfl

theorem g_OK35 : EntOK Go.Proofs.Try.prog g_Ent35 := EntOK.of_vcall g_HC35 Go.Proofs.Try.func35
  (body_loops (by kernel_rfl) (loops_all 0 (by kernel_rfl) fun k hk => absurd hk (Nat.not_lt_zero k)))
  (by kernel_rfl) (by kernel_rfl) g_VC35

/-! ### loop.example/g01924/laws.szReplica -/

noncomputable def g_C18 : Cfg := ⟨g_tis, [g_Ent35], []⟩

theorem g_HC18 : CfgOK Go.Proofs.Try.prog g_C18 := ⟨info_ok g_tisOK, (all_cons g_OK35 all_nil), g_wide⟩

/-- loop.example/g01924/laws.szReplica -/
noncomputable def g_S18 (a0 : (den Y43)) (left1 : Int) : Option (den (.prod .i .unit)) :=
  (g_S35 a0.2.2.1 left1).bind fun r1 =>
  bif (decide (r1.1 < 0)) then
    some ((-1), ())
  else
    some (r1.1, ())

noncomputable def g_Ent18 : Ent := ⟨18, (.prod Y43 (.prod .i .unit)), (.prod .i .unit), fun x => g_S18 x.1 x.2.1⟩

theorem g_VC18 : ∀ x : den (.prod Y43 (.prod .i .unit)), vcall g_C18 Go.Proofs.Try.f18 (.prod Y43 (.prod .i .unit)) (.prod .i .unit) x = g_S18 x.1 x.2.1 := fun x => by kernel_rfl

theorem g_OK18 : EntOK Go.Proofs.Try.prog g_Ent18 := EntOK.of_vcall g_HC18 Go.Proofs.Try.func18
  (body_loops (by kernel_rfl) (loops_all 0 (by kernel_rfl) fun k hk => absurd hk (Nat.not_lt_zero k)))
  (by kernel_rfl) (by kernel_rfl) g_VC18

/-! ### loop.example/g01924/laws.toVersion -/

noncomputable def g_C72 : Cfg := ⟨g_tis, [], []⟩

theorem g_HC72 : CfgOK Go.Proofs.Try.prog g_C72 := ⟨info_ok g_tisOK, all_nil, g_wide⟩

/-- loop.example/g01924/laws.toVersion -/
noncomputable def g_S72 (a0 : (den Y65)) : Option (den (.prod Y65 .unit)) :=
  some (a0, ())

noncomputable def g_Ent72 : Ent := ⟨72, (.prod Y65 .unit), (.prod Y65 .unit), fun x => g_S72 x.1⟩

theorem g_VC72 : ∀ x : den (.prod Y65 .unit), vcall g_C72 Go.Proofs.Try.f72 (.prod Y65 .unit) (.prod Y65 .unit) x = g_S72 x.1 := fun x => by kernel_rfl

theorem g_OK72 : EntOK Go.Proofs.Try.prog g_Ent72 := EntOK.of_vcall g_HC72 Go.Proofs.Try.func72
  (body_loops (by kernel_rfl) (loops_all 0 (by kernel_rfl) fun k hk => absurd hk (Nat.not_lt_zero k)))
  (by kernel_rfl) (by kernel_rfl) g_VC72

/-! ### loop.example/g01924/laws.toVersionS -/

noncomputable def g_L66_0 (a' : (List (den Y65))) (i' : Int) (out' : (List (den Y65))) (R : Type) (K : (Int × (List (den Y65))) ⊕ (((List (den Y65)))) → Option R) : Option R :=
  bif (decide (i' < ((a'.length : Nat) : Int))) then
    (lAt a' i').bind fun e1 =>
    (g_S72 e1).bind fun r2 =>
    if 0 ≤ i' ∧ i' < ((out'.length : Nat) : Int) then
      (out'[(i').toNat]?).bind fun e3 =>
      K (.inl ((IntKind.i64.wrap (i' + 1)), (out'.set (i').toNat r2.1)))
    else none
  else
    K (.inr (out'))

theorem g_L66_0_nat (a' : (List (den Y65))) (i' : Int) (out' : (List (den Y65))) (R : Type) (K : (Int × (List (den Y65))) ⊕ (((List (den Y65)))) → Option R) : g_L66_0 a' i' out' R K = (g_L66_0 a' i' out' _ some).bind K := by
  unfold g_L66_0
  repeat' first | exact nat_none | exact nat_some | apply nat_bif | (refine nat_bind fun _ => ?_) | apply nat_ite | (refine nat_sum (fun _ => ?_) fun _ => ?_) | rfl

def g_T66_0 : Tmpl := ⟨(.slot (.slice Y65) (.junk (.junk (.own 0 (.slot .i (.junk (.junk (.junk (.junk (.junk (.junk (.junk (.junk (.junk (.junk (.junk (.junk (.junk (.junk (.junk (.junk (.junk (.junk .nil))))))))))))))))))))))), (.lst Y65 .nil)⟩

abbrev g_I66_0 : Type := (List (den Y65))
abbrev g_V66_0 : Type := Int × (List (den Y65))
abbrev g_X66_0 : Type := ((List (den Y65)))

def g_M66_0 : g_I66_0 → g_V66_0 → den g_T66_0.ty := fun I v => (I, v.1, v.2, ())

def g_P66_0 : den g_T66_0.ty → g_I66_0 × g_V66_0 := fun x => (x.1, (x.2.1, x.2.2.1))

noncomputable def g_D66_0 : g_I66_0 → g_V66_0 → (R : Type) → ((g_V66_0 ⊕ g_X66_0) → Option R) → Option R := fun I v R K => g_L66_0 I v.1 v.2 R K

def g_E66_0 : g_I66_0 → g_X66_0 → (R : Type) → (Ex → St → Option R) → Option R := fun I p R K => K (.exit 0) ⟨[.junk, .junk, .junk, (.own 0 none), .junk, .junk, .junk, .junk, .junk, .junk, .junk, .junk, .junk, .junk, .junk, .junk, .junk, .junk, .junk, .junk, .junk, .junk, .junk], [some (.lst Y65 p)]⟩

def g_K66_0 : g_I66_0 → g_X66_0 → Ex × St := fun I p => ((.exit 0), ⟨[.junk, .junk, .junk, (.own 0 none), .junk, .junk, .junk, .junk, .junk, .junk, .junk, .junk, .junk, .junk, .junk, .junk, .junk, .junk, .junk, .junk, .junk, .junk, .junk], [some (.lst Y65 p)]⟩)

noncomputable def g_F66_0 : LoopFn := fun s R K => (Tmpl.read g_T66_0 s).bind fun x => (iter (fun v => g_D66_0 (g_P66_0 x).1 v _ some) (g_P66_0 x).2).bind fun p => g_E66_0 (g_P66_0 x).1 p R K

noncomputable def g_C66 : Cfg := ⟨g_tis, [g_Ent72], [(3, g_F66_0)]⟩

theorem g_HC66 : CfgOK Go.Proofs.Try.prog g_C66 := ⟨info_ok g_tisOK, (all_cons g_OK72 all_nil), g_wide⟩

theorem g_lk66_0 : ∀ F, ((g_C66).ann.find? fun x => x.1 == firstId ((loopsOf (codeOf Go.Proofs.Try.f66)).getD 0 .skip)).map (·.2) = some F → LoopOK Go.Proofs.Try.prog ((loopsOf (codeOf Go.Proofs.Try.f66)).getD 0 .skip) F := by
  refine lookup_ok (show ((g_C66).ann.find? fun x => x.1 == firstId ((loopsOf (codeOf Go.Proofs.Try.f66)).getD 0 .skip)).map (·.2) = some g_F66_0 from by kernel_rfl) ?_
  exact loop_ok g_HC66 (loops_all 0 (by kernel_rfl) fun k hk => absurd hk (Nat.not_lt_zero k)) g_T66_0 [3] g_M66_0 g_P66_0 (fun x => rfl) g_D66_0
    (fun I v R K => g_L66_0_nat _ _ _ R K) g_E66_0 g_K66_0 (fun I p R K => rfl) (fun I v => by kernel_rfl)

/-- loop.example/g01924/laws.toVersionS -/
noncomputable def g_S66 (a0 : (List (den Y65))) : Option (den (.prod (.slice Y65) .unit)) :=
  if 0 ≤ ((a0.length : Nat) : Int) ∧ ((a0.length : Nat) : Int) ≤ ((a0.length : Nat) : Int) ∧ ((a0.length : Nat) : Int) ≤ 879609302220 then
    (iter (fun v => g_L66_0 a0 v.1 v.2 _ some) (0, (List.replicate (((a0.length : Nat) : Int) : Int).toNat ((0, 0, 0, 0, 0, ()) : (den Y65))))).bind fun q4 =>
    some (q4, ())
  else none

noncomputable def g_Ent66 : Ent := ⟨66, (.prod (.slice Y65) .unit), (.prod (.slice Y65) .unit), fun x => g_S66 x.1⟩

theorem g_VC66 : ∀ x : den (.prod (.slice Y65) .unit), vcall g_C66 Go.Proofs.Try.f66 (.prod (.slice Y65) .unit) (.prod (.slice Y65) .unit) x = g_S66 x.1 := fun x => by kernel_rfl

theorem g_OK66 : EntOK Go.Proofs.Try.prog g_Ent66 := EntOK.of_vcall g_HC66 Go.Proofs.Try.func66
  (body_loops (by kernel_rfl) (loops_all 1 (by kernel_rfl) (fun k hk => match k, hk with
    | 0, _ => g_lk66_0)))
  (by kernel_rfl) (by kernel_rfl) g_VC66

/-! ### loop.example/g01924/laws.toVersionSS -/

noncomputable def g_L52_0 (a' : (List (List (den Y65)))) (i' : Int) (out' : (List (List (den Y65)))) (R : Type) (K : (Int × (List (List (den Y65)))) ⊕ (((List (List (den Y65))))) → Option R) : Option R :=
  bif (decide (i' < ((a'.length : Nat) : Int))) then
    (lAt a' i').bind fun e1 =>
    (g_S66 e1).bind fun r2 =>
    if 0 ≤ i' ∧ i' < ((out'.length : Nat) : Int) then
      (out'[(i').toNat]?).bind fun e3 =>
      K (.inl ((IntKind.i64.wrap (i' + 1)), (out'.set (i').toNat r2.1)))
    else none
  else
    K (.inr (out'))

theorem g_L52_0_nat (a' : (List (List (den Y65)))) (i' : Int) (out' : (List (List (den Y65)))) (R : Type) (K : (Int × (List (List (den Y65)))) ⊕ (((List (List (den Y65))))) → Option R) : g_L52_0 a' i' out' R K = (g_L52_0 a' i' out' _ some).bind K := by
  unfold g_L52_0
  repeat' first | exact nat_none | exact nat_some | apply nat_bif | (refine nat_bind fun _ => ?_) | apply nat_ite | (refine nat_sum (fun _ => ?_) fun _ => ?_) | rfl

def g_T52_0 : Tmpl := ⟨(.slot (.slice (.slice Y65)) (.junk (.junk (.own 0 (.slot .i (.junk (.junk (.junk (.junk (.junk (.junk (.junk (.junk (.junk (.junk (.junk (.junk (.junk (.junk (.junk (.junk (.junk (.junk .nil))))))))))))))))))))))), (.lst (.slice Y65) .nil)⟩

abbrev g_I52_0 : Type := (List (List (den Y65)))
abbrev g_V52_0 : Type := Int × (List (List (den Y65)))
abbrev g_X52_0 : Type := ((List (List (den Y65))))

def g_M52_0 : g_I52_0 → g_V52_0 → den g_T52_0.ty := fun I v => (I, v.1, v.2, ())

def g_P52_0 : den g_T52_0.ty → g_I52_0 × g_V52_0 := fun x => (x.1, (x.2.1, x.2.2.1))

noncomputable def g_D52_0 : g_I52_0 → g_V52_0 → (R : Type) → ((g_V52_0 ⊕ g_X52_0) → Option R) → Option R := fun I v R K => g_L52_0 I v.1 v.2 R K

def g_E52_0 : g_I52_0 → g_X52_0 → (R : Type) → (Ex → St → Option R) → Option R := fun I p R K => K (.exit 0) ⟨[.junk, .junk, .junk, (.own 0 none), .junk, .junk, .junk, .junk, .junk, .junk, .junk, .junk, .junk, .junk, .junk, .junk, .junk, .junk, .junk, .junk, .junk, .junk, .junk], [some (.lst (.slice Y65) p)]⟩

def g_K52_0 : g_I52_0 → g_X52_0 → Ex × St := fun I p => ((.exit 0), ⟨[.junk, .junk, .junk, (.own 0 none), .junk, .junk, .junk, .junk, .junk, .junk, .junk, .junk, .junk, .junk, .junk, .junk, .junk, .junk, .junk, .junk, .junk, .junk, .junk], [some (.lst (.slice Y65) p)]⟩)

noncomputable def g_F52_0 : LoopFn := fun s R K => (Tmpl.read g_T52_0 s).bind fun x => (iter (fun v => g_D52_0 (g_P52_0 x).1 v _ some) (g_P52_0 x).2).bind fun p => g_E52_0 (g_P52_0 x).1 p R K

noncomputable def g_C52 : Cfg := ⟨g_tis, [g_Ent66], [(3, g_F52_0)]⟩

theorem g_HC52 : CfgOK Go.Proofs.Try.prog g_C52 := ⟨info_ok g_tisOK, (all_cons g_OK66 all_nil), g_wide⟩

theorem g_lk52_0 : ∀ F, ((g_C52).ann.find? fun x => x.1 == firstId ((loopsOf (codeOf Go.Proofs.Try.f52)).getD 0 .skip)).map (·.2) = some F → LoopOK Go.Proofs.Try.prog ((loopsOf (codeOf Go.Proofs.Try.f52)).getD 0 .skip) F := by
  refine lookup_ok (show ((g_C52).ann.find? fun x => x.1 == firstId ((loopsOf (codeOf Go.Proofs.Try.f52)).getD 0 .skip)).map (·.2) = some g_F52_0 from by kernel_rfl) ?_
  exact loop_ok g_HC52 (loops_all 0 (by kernel_rfl) fun k hk => absurd hk (Nat.not_lt_zero k)) g_T52_0 [3] g_M52_0 g_P52_0 (fun x => rfl) g_D52_0
    (fun I v R K => g_L52_0_nat _ _ _ R K) g_E52_0 g_K52_0 (fun I p R K => rfl) (fun I v => by kernel_rfl)

/-- loop.example/g01924/laws.toVersionSS -/
noncomputable def g_S52 (a0 : (List (List (den Y65)))) : Option (den Y41) :=
  if 0 ≤ ((a0.length : Nat) : Int) ∧ ((a0.length : Nat) : Int) ≤ ((a0.length : Nat) : Int) ∧ ((a0.length : Nat) : Int) ≤ 1466015503701 then
    (iter (fun v => g_L52_0 a0 v.1 v.2 _ some) (0, (List.replicate (((a0.length : Nat) : Int) : Int).toNat []))).bind fun q4 =>
    some (q4, ())
  else none

noncomputable def g_Ent52 : Ent := ⟨52, Y41, Y41, fun x => g_S52 x.1⟩

theorem g_VC52 : ∀ x : den Y41, vcall g_C52 Go.Proofs.Try.f52 Y41 Y41 x = g_S52 x.1 := fun x => by kernel_rfl

theorem g_OK52 : EntOK Go.Proofs.Try.prog g_Ent52 := EntOK.of_vcall g_HC52 Go.Proofs.Try.func52
  (body_loops (by kernel_rfl) (loops_all 1 (by kernel_rfl) (fun k hk => match k, hk with
    | 0, _ => g_lk52_0)))
  (by kernel_rfl) (by kernel_rfl) g_VC52

/-! ### loop.example/g01924/laws.toStore -/

noncomputable def g_C37 : Cfg := ⟨g_tis, [g_Ent52], []⟩

theorem g_HC37 : CfgOK Go.Proofs.Try.prog g_C37 := ⟨info_ok g_tisOK, (all_cons g_OK52 all_nil), g_wide⟩

/-- loop.example/g01924/laws.toStore -/
noncomputable def g_S37 (a0 : (den Y41)) : Option (den (.prod Y41 .unit)) :=
  (g_S52 a0.1).bind fun r1 =>
  some (r1, ())

noncomputable def g_Ent37 : Ent := ⟨37, (.prod Y41 .unit), (.prod Y41 .unit), fun x => g_S37 x.1⟩

theorem g_VC37 : ∀ x : den (.prod Y41 .unit), vcall g_C37 Go.Proofs.Try.f37 (.prod Y41 .unit) (.prod Y41 .unit) x = g_S37 x.1 := fun x => by kernel_rfl

theorem g_OK37 : EntOK Go.Proofs.Try.prog g_Ent37 := EntOK.of_vcall g_HC37 Go.Proofs.Try.func37
  (body_loops (by kernel_rfl) (loops_all 0 (by kernel_rfl) fun k hk => absurd hk (Nat.not_lt_zero k)))
  (by kernel_rfl) (by kernel_rfl) g_VC37

/-! ### loop.example/g01924/laws.toReplica -/

noncomputable def g_C20 : Cfg := ⟨g_tis, [g_Ent37], []⟩

theorem g_HC20 : CfgOK Go.Proofs.Try.prog g_C20 := ⟨info_ok g_tisOK, (all_cons g_OK37 all_nil), g_wide⟩

/-- loop.example/g01924/laws.toReplica -/
noncomputable def g_S20 (a0 : (den Y43)) : Option (den (.prod Y43 .unit)) :=
  (g_S37 a0.2.2.1).bind fun r1 =>
  some ((a0.1, a0.2.1, r1.1, ()), ())

noncomputable def g_Ent20 : Ent := ⟨20, (.prod Y43 .unit), (.prod Y43 .unit), fun x => g_S20 x.1⟩

theorem g_VC20 : ∀ x : den (.prod Y43 .unit), vcall g_C20 Go.Proofs.Try.f20 (.prod Y43 .unit) (.prod Y43 .unit) x = g_S20 x.1 := fun x => by kernel_rfl

theorem g_OK20 : EntOK Go.Proofs.Try.prog g_Ent20 := EntOK.of_vcall g_HC20 Go.Proofs.Try.func20
  (body_loops (by kernel_rfl) (loops_all 0 (by kernel_rfl) fun k hk => absurd hk (Nat.not_lt_zero k)))
  (by kernel_rfl) (by kernel_rfl) g_VC20

/-! ### loop.example/g01924/spec.EqualChains -/

noncomputable def g_L51_0 (a' : (List (den Y65))) (b' : (List (den Y65))) (i' : Int) (R : Type) (K : (Int) ⊕ ((Unit) ⊕ (Unit)) → Option R) : Option R :=
  bif (decide (i' < ((a'.length : Nat) : Int))) then
    (lAt a' i').bind fun e1 =>
    (lAt b' i').bind fun e2 =>
    bif (!((e1.1 == e2.1) && ((e1.2.1 == e2.2.1) && ((e1.2.2.1 == e2.2.2.1) && ((e1.2.2.2.1 == e2.2.2.2.1) && ((e1.2.2.2.2.1 == e2.2.2.2.2.1) && true)))))) then
      K (.inr (.inl ()))
    else
      K (.inl (IntKind.i64.wrap (i' + 1)))
  else
    K (.inr (.inr ()))

theorem g_L51_0_nat (a' : (List (den Y65))) (b' : (List (den Y65))) (i' : Int) (R : Type) (K : (Int) ⊕ ((Unit) ⊕ (Unit)) → Option R) : g_L51_0 a' b' i' R K = (g_L51_0 a' b' i' _ some).bind K := by
  unfold g_L51_0
  repeat' first | exact nat_none | exact nat_some | apply nat_bif | (refine nat_bind fun _ => ?_) | apply nat_ite | (refine nat_sum (fun _ => ?_) fun _ => ?_) | rfl

def g_T51_0 : Tmpl := ⟨(.slot (.slice Y65) (.slot (.slice Y65) (.junk (.junk (.junk (.slot .i (.junk (.junk (.junk (.junk (.junk (.junk (.junk (.junk (.junk (.junk (.junk (.junk (.junk (.junk (.junk (.junk (.junk (.junk (.junk (.junk .nil)))))))))))))))))))))))))), .nil⟩

abbrev g_I51_0 : Type := (List (den Y65)) × (List (den Y65))
abbrev g_V51_0 : Type := Int
abbrev g_X51_0 : Type := (Unit) ⊕ (Unit)

def g_M51_0 : g_I51_0 → g_V51_0 → den g_T51_0.ty := fun I v => (I.1, I.2, v, ())

def g_P51_0 : den g_T51_0.ty → g_I51_0 × g_V51_0 := fun x => ((x.1, x.2.1), x.2.2.1)

noncomputable def g_D51_0 : g_I51_0 → g_V51_0 → (R : Type) → ((g_V51_0 ⊕ g_X51_0) → Option R) → Option R := fun I v R K => g_L51_0 I.1 I.2 v R K

def g_E51_0 : g_I51_0 → g_X51_0 → (R : Type) → (Ex → St → Option R) → Option R := fun I p R K => sumC p (fun a => K .ret ⟨[.junk, .junk, .junk, .junk, (.pv .bool false), .junk, .junk, .junk, .junk, .junk, .junk, .junk, .junk, .junk, .junk, .junk, .junk, .junk, .junk, .junk, .junk, .junk, .junk, .junk, .junk, .junk], []⟩) (fun b => K (.exit 0) ⟨[.junk, .junk, .junk, .junk, .junk, .junk, .junk, .junk, .junk, .junk, .junk, .junk, .junk, .junk, .junk, .junk, .junk, .junk, .junk, .junk, .junk, .junk, .junk, .junk, .junk, .junk], []⟩)

def g_K51_0 : g_I51_0 → g_X51_0 → Ex × St := fun I p => sumC p (fun a => (.ret, ⟨[.junk, .junk, .junk, .junk, (.pv .bool false), .junk, .junk, .junk, .junk, .junk, .junk, .junk, .junk, .junk, .junk, .junk, .junk, .junk, .junk, .junk, .junk, .junk, .junk, .junk, .junk, .junk], []⟩)) (fun b => ((.exit 0), ⟨[.junk, .junk, .junk, .junk, .junk, .junk, .junk, .junk, .junk, .junk, .junk, .junk, .junk, .junk, .junk, .junk, .junk, .junk, .junk, .junk, .junk, .junk, .junk, .junk, .junk, .junk], []⟩))

noncomputable def g_F51_0 : LoopFn := fun s R K => (Tmpl.read g_T51_0 s).bind fun x => (iter (fun v => g_D51_0 (g_P51_0 x).1 v _ some) (g_P51_0 x).2).bind fun p => g_E51_0 (g_P51_0 x).1 p R K

noncomputable def g_C51 : Cfg := ⟨g_tis, [], [(4, g_F51_0)]⟩

theorem g_HC51 : CfgOK Go.Proofs.Try.prog g_C51 := ⟨info_ok g_tisOK, all_nil, g_wide⟩

theorem g_lk51_0 : ∀ F, ((g_C51).ann.find? fun x => x.1 == firstId ((loopsOf (codeOf Go.Proofs.Try.f51)).getD 0 .skip)).map (·.2) = some F → LoopOK Go.Proofs.Try.prog ((loopsOf (codeOf Go.Proofs.Try.f51)).getD 0 .skip) F := by
  refine lookup_ok (show ((g_C51).ann.find? fun x => x.1 == firstId ((loopsOf (codeOf Go.Proofs.Try.f51)).getD 0 .skip)).map (·.2) = some g_F51_0 from by kernel_rfl) ?_
  exact loop_ok g_HC51 (loops_all 0 (by kernel_rfl) fun k hk => absurd hk (Nat.not_lt_zero k)) g_T51_0 [4] g_M51_0 g_P51_0 (fun x => rfl) g_D51_0
    (fun I v R K => g_L51_0_nat _ _ _ R K) g_E51_0 g_K51_0 (fun I p R K => by
      rcases p with p | p <;> rfl) (fun I v => by kernel_rfl)

/-- loop.example/g01924/spec.EqualChains -/
noncomputable def g_S51 (a0 : (List (den Y65))) (b1 : (List (den Y65))) : Option (den (.prod .bool .unit)) :=
  bif (((a0.length : Nat) : Int) != ((b1.length : Nat) : Int)) then
    some (false, ())
  else
    (iter (fun v => g_L51_0 a0 b1 v _ some) (0)).bind fun q3 =>
    sumC q3
      (fun a4 =>
        some (false, ()))
      (fun b5 =>
        some (true, ()))

noncomputable def g_Ent51 : Ent := ⟨51, (.prod (.slice Y65) (.prod (.slice Y65) .unit)), (.prod .bool .unit), fun x => g_S51 x.1 x.2.1⟩

theorem g_VC51 : ∀ x : den (.prod (.slice Y65) (.prod (.slice Y65) .unit)), vcall g_C51 Go.Proofs.Try.f51 (.prod (.slice Y65) (.prod (.slice Y65) .unit)) (.prod .bool .unit) x = g_S51 x.1 x.2.1 := fun x => by kernel_rfl

theorem g_OK51 : EntOK Go.Proofs.Try.prog g_Ent51 := EntOK.of_vcall g_HC51 Go.Proofs.Try.func51
  (body_loops (by kernel_rfl) (loops_all 1 (by kernel_rfl) (fun k hk => match k, hk with
    | 0, _ => g_lk51_0)))
  (by kernel_rfl) (by kernel_rfl) g_VC51

/-! ### loop.example/g01924/spec.EqualStores -/

noncomputable def g_L36_0 (a' : (den Y41)) (b' : (den Y41)) (i' : Int) (R : Type) (K : (Int) ⊕ ((Unit) ⊕ (Unit)) → Option R) : Option R :=
  bif (decide (i' < ((a'.1.length : Nat) : Int))) then
    (lAt a'.1 i').bind fun e1 =>
    (lAt b'.1 i').bind fun e2 =>
    (g_S51 e1 e2).bind fun r3 =>
    bif (!r3.1) then
      K (.inr (.inl ()))
    else
      K (.inl (IntKind.i64.wrap (i' + 1)))
  else
    K (.inr (.inr ()))

theorem g_L36_0_nat (a' : (den Y41)) (b' : (den Y41)) (i' : Int) (R : Type) (K : (Int) ⊕ ((Unit) ⊕ (Unit)) → Option R) : g_L36_0 a' b' i' R K = (g_L36_0 a' b' i' _ some).bind K := by
  unfold g_L36_0
  repeat' first | exact nat_none | exact nat_some | apply nat_bif | (refine nat_bind fun _ => ?_) | apply nat_ite | (refine nat_sum (fun _ => ?_) fun _ => ?_) | rfl

def g_T36_0 : Tmpl := ⟨(.junk (.junk (.ptr 0 0 0 (.ptr 1 0 0 (.junk (.slot .i (.junk (.junk (.junk (.junk (.junk (.junk (.junk (.junk (.junk (.junk (.junk (.junk (.junk (.junk (.junk (.junk (.junk (.junk (.junk (.junk (.junk (.junk (.junk (.junk (.junk (.junk .nil)))))))))))))))))))))))))))))))), (.one Y41 (.one Y41 .nil))⟩

abbrev g_I36_0 : Type := (den Y41) × (den Y41)
abbrev g_V36_0 : Type := Int
abbrev g_X36_0 : Type := (Unit) ⊕ (Unit)

def g_M36_0 : g_I36_0 → g_V36_0 → den g_T36_0.ty := fun I v => (v, I.1, I.2, ())

def g_P36_0 : den g_T36_0.ty → g_I36_0 × g_V36_0 := fun x => ((x.2.1, x.2.2.1), x.1)

noncomputable def g_D36_0 : g_I36_0 → g_V36_0 → (R : Type) → ((g_V36_0 ⊕ g_X36_0) → Option R) → Option R := fun I v R K => g_L36_0 I.1 I.2 v R K

def g_E36_0 : g_I36_0 → g_X36_0 → (R : Type) → (Ex → St → Option R) → Option R := fun I p R K => sumC p (fun a => K .ret ⟨[.junk, .junk, .junk, .junk, (.pv .bool false), .junk, .junk, .junk, .junk, .junk, .junk, .junk, .junk, .junk, .junk, .junk, .junk, .junk, .junk, .junk, .junk, .junk, .junk, .junk, .junk, .junk, .junk, .junk, .junk, .junk, .junk, .junk], [some (.cells 1 [[(.pv (.slice (.slice Y65)) I.1.1)]]), some (.cells 1 [[(.pv (.slice (.slice Y65)) I.2.1)]])]⟩) (fun b => K (.exit 0) ⟨[.junk, .junk, .junk, .junk, .junk, .junk, .junk, .junk, .junk, .junk, .junk, .junk, .junk, .junk, .junk, .junk, .junk, .junk, .junk, .junk, .junk, .junk, .junk, .junk, .junk, .junk, .junk, .junk, .junk, .junk, .junk, .junk], [some (.cells 1 [[(.pv (.slice (.slice Y65)) I.1.1)]]), some (.cells 1 [[(.pv (.slice (.slice Y65)) I.2.1)]])]⟩)

def g_K36_0 : g_I36_0 → g_X36_0 → Ex × St := fun I p => sumC p (fun a => (.ret, ⟨[.junk, .junk, .junk, .junk, (.pv .bool false), .junk, .junk, .junk, .junk, .junk, .junk, .junk, .junk, .junk, .junk, .junk, .junk, .junk, .junk, .junk, .junk, .junk, .junk, .junk, .junk, .junk, .junk, .junk, .junk, .junk, .junk, .junk], [some (.cells 1 [[(.pv (.slice (.slice Y65)) I.1.1)]]), some (.cells 1 [[(.pv (.slice (.slice Y65)) I.2.1)]])]⟩)) (fun b => ((.exit 0), ⟨[.junk, .junk, .junk, .junk, .junk, .junk, .junk, .junk, .junk, .junk, .junk, .junk, .junk, .junk, .junk, .junk, .junk, .junk, .junk, .junk, .junk, .junk, .junk, .junk, .junk, .junk, .junk, .junk, .junk, .junk, .junk, .junk], [some (.cells 1 [[(.pv (.slice (.slice Y65)) I.1.1)]]), some (.cells 1 [[(.pv (.slice (.slice Y65)) I.2.1)]])]⟩))

noncomputable def g_F36_0 : LoopFn := fun s R K => (Tmpl.read g_T36_0 s).bind fun x => (iter (fun v => g_D36_0 (g_P36_0 x).1 v _ some) (g_P36_0 x).2).bind fun p => g_E36_0 (g_P36_0 x).1 p R K

noncomputable def g_C36 : Cfg := ⟨g_tis, [g_Ent51], [(4, g_F36_0)]⟩

theorem g_HC36 : CfgOK Go.Proofs.Try.prog g_C36 := ⟨info_ok g_tisOK, (all_cons g_OK51 all_nil), g_wide⟩

theorem g_lk36_0 : ∀ F, ((g_C36).ann.find? fun x => x.1 == firstId ((loopsOf (codeOf Go.Proofs.Try.f36)).getD 0 .skip)).map (·.2) = some F → LoopOK Go.Proofs.Try.prog ((loopsOf (codeOf Go.Proofs.Try.f36)).getD 0 .skip) F := by
  refine lookup_ok (show ((g_C36).ann.find? fun x => x.1 == firstId ((loopsOf (codeOf Go.Proofs.Try.f36)).getD 0 .skip)).map (·.2) = some g_F36_0 from by kernel_rfl) ?_
  exact loop_ok g_HC36 (loops_all 0 (by kernel_rfl) fun k hk => absurd hk (Nat.not_lt_zero k)) g_T36_0 [4] g_M36_0 g_P36_0 (fun x => rfl) g_D36_0
    (fun I v R K => g_L36_0_nat _ _ _ R K) g_E36_0 g_K36_0 (fun I p R K => by
      rcases p with p | p <;> rfl) (fun I v => by kernel_rfl)

/-- loop.example/g01924/spec.EqualStores -/
noncomputable def g_S36 (a0 : (den Y41)) (b1 : (den Y41)) : Option (den (.prod .bool .unit)) :=
  bif (((a0.1.length : Nat) : Int) != ((b1.1.length : Nat) : Int)) then
    some (false, ())
  else
    (iter (fun v => g_L36_0 a0 b1 v _ some) (0)).bind fun q4 =>
    sumC q4
      (fun a5 =>
        some (false, ()))
      (fun b6 =>
        some (true, ()))

noncomputable def g_Ent36 : Ent := ⟨36, (.prod Y41 (.prod Y41 .unit)), (.prod .bool .unit), fun x => g_S36 x.1 x.2.1⟩

theorem g_VC36 : ∀ x : den (.prod Y41 (.prod Y41 .unit)), vcall g_C36 Go.Proofs.Try.f36 (.prod Y41 (.prod Y41 .unit)) (.prod .bool .unit) x = g_S36 x.1 x.2.1 := fun x => by kernel_rfl

theorem g_OK36 : EntOK Go.Proofs.Try.prog g_Ent36 := EntOK.of_vcall g_HC36 Go.Proofs.Try.func36
  (body_loops (by kernel_rfl) (loops_all 1 (by kernel_rfl) (fun k hk => match k, hk with
    | 0, _ => g_lk36_0)))
  (by kernel_rfl) (by kernel_rfl) g_VC36

/-! ### loop.example/g01924/spec.EqualReplicas -/

noncomputable def g_C19 : Cfg := ⟨g_tis, [g_Ent36], []⟩

theorem g_HC19 : CfgOK Go.Proofs.Try.prog g_C19 := ⟨info_ok g_tisOK, (all_cons g_OK36 all_nil), g_wide⟩

/-- loop.example/g01924/spec.EqualReplicas -/
noncomputable def g_S19 (a0 : (den Y43)) (b1 : (den Y43)) : Option (den (.prod .bool .unit)) :=
  bif (a0.1 == b1.1) then
    bif (a0.2.1 == b1.2.1) then
      (g_S36 a0.2.2.1 b1.2.2.1).bind fun r1 =>
      some (r1.1, ())
    else
      some (false, ())
  else
    some (false, ())

noncomputable def g_Ent19 : Ent := ⟨19, (.prod Y43 (.prod Y43 .unit)), (.prod .bool .unit), fun x => g_S19 x.1 x.2.1⟩

theorem g_VC19 : ∀ x : den (.prod Y43 (.prod Y43 .unit)), vcall g_C19 Go.Proofs.Try.f19 (.prod Y43 (.prod Y43 .unit)) (.prod .bool .unit) x = g_S19 x.1 x.2.1 := fun x => by kernel_rfl

theorem g_OK19 : EntOK Go.Proofs.Try.prog g_Ent19 := EntOK.of_vcall g_HC19 Go.Proofs.Try.func19
  (body_loops (by kernel_rfl) (loops_all 0 (by kernel_rfl) fun k hk => absurd hk (Nat.not_lt_zero k)))
  (by kernel_rfl) (by kernel_rfl) g_VC19

/-! ### slices.Equal[[]loop.example/g01924/impl.Version,loop.example/g01924/impl.Version] -/

noncomputable def g_L67_0 (s1' : (List (den Y65))) (s2' : (List (den Y65))) (x' : Int) (x_2' : Int) (R : Type) (K : (Int) ⊕ ((Unit) ⊕ (Unit)) → Option R) : Option R :=
  bif (decide (x_2' < x')) then
    (lAt s1' x_2').bind fun e1 =>
    (lAt s2' x_2').bind fun e2 =>
    bif (!((e1.1 == e2.1) && ((e1.2.1 == e2.2.1) && ((e1.2.2.1 == e2.2.2.1) && ((e1.2.2.2.1 == e2.2.2.2.1) && ((e1.2.2.2.2.1 == e2.2.2.2.2.1) && true)))))) then
      K (.inr (.inl ()))
    else
      K (.inl (IntKind.i64.wrap (x_2' + 1)))
  else
    K (.inr (.inr ()))

theorem g_L67_0_nat (s1' : (List (den Y65))) (s2' : (List (den Y65))) (x' : Int) (x_2' : Int) (R : Type) (K : (Int) ⊕ ((Unit) ⊕ (Unit)) → Option R) : g_L67_0 s1' s2' x' x_2' R K = (g_L67_0 s1' s2' x' x_2' _ some).bind K := by
  unfold g_L67_0
  repeat' first | exact nat_none | exact nat_some | apply nat_bif | (refine nat_bind fun _ => ?_) | apply nat_ite | (refine nat_sum (fun _ => ?_) fun _ => ?_) | rfl

def g_T67_0 : Tmpl := ⟨(.slot (.slice Y65) (.slot (.slice Y65) (.junk (.junk (.junk (.junk (.junk (.junk (.junk (.junk (.junk (.junk (.slot .i (.slot .i (.junk (.junk (.junk (.junk (.junk (.junk (.junk (.junk (.junk (.junk (.junk (.junk .nil)))))))))))))))))))))))))), .nil⟩

abbrev g_I67_0 : Type := (List (den Y65)) × (List (den Y65)) × Int
abbrev g_V67_0 : Type := Int
abbrev g_X67_0 : Type := (Unit) ⊕ (Unit)

def g_M67_0 : g_I67_0 → g_V67_0 → den g_T67_0.ty := fun I v => (I.1, I.2.1, I.2.2, v, ())

def g_P67_0 : den g_T67_0.ty → g_I67_0 × g_V67_0 := fun x => ((x.1, x.2.1, x.2.2.1), x.2.2.2.1)

noncomputable def g_D67_0 : g_I67_0 → g_V67_0 → (R : Type) → ((g_V67_0 ⊕ g_X67_0) → Option R) → Option R := fun I v R K => g_L67_0 I.1 I.2.1 I.2.2 v R K

def g_E67_0 : g_I67_0 → g_X67_0 → (R : Type) → (Ex → St → Option R) → Option R := fun I p R K => sumC p (fun a => K .ret ⟨[.junk, .junk, .junk, .junk, (.pv .bool false), .junk, .junk, .junk, .junk, .junk, .junk, .junk, .junk, .junk, .junk, .junk, .junk, .junk, .junk, .junk, .junk, .junk, .junk, .junk, .junk, .junk], []⟩) (fun b => K (.exit 0) ⟨[.junk, .junk, .junk, .junk, .junk, .junk, .junk, .junk, .junk, .junk, .junk, .junk, .junk, .junk, .junk, .junk, .junk, .junk, .junk, .junk, .junk, .junk, .junk, .junk, .junk, .junk], []⟩)

def g_K67_0 : g_I67_0 → g_X67_0 → Ex × St := fun I p => sumC p (fun a => (.ret, ⟨[.junk, .junk, .junk, .junk, (.pv .bool false), .junk, .junk, .junk, .junk, .junk, .junk, .junk, .junk, .junk, .junk, .junk, .junk, .junk, .junk, .junk, .junk, .junk, .junk, .junk, .junk, .junk], []⟩)) (fun b => ((.exit 0), ⟨[.junk, .junk, .junk, .junk, .junk, .junk, .junk, .junk, .junk, .junk, .junk, .junk, .junk, .junk, .junk, .junk, .junk, .junk, .junk, .junk, .junk, .junk, .junk, .junk, .junk, .junk], []⟩))

noncomputable def g_F67_0 : LoopFn := fun s R K => (Tmpl.read g_T67_0 s).bind fun x => (iter (fun v => g_D67_0 (g_P67_0 x).1 v _ some) (g_P67_0 x).2).bind fun p => g_E67_0 (g_P67_0 x).1 p R K

noncomputable def g_C67 : Cfg := ⟨g_tis, [], [(4, g_F67_0)]⟩

theorem g_HC67 : CfgOK Go.Proofs.Try.prog g_C67 := ⟨info_ok g_tisOK, all_nil, g_wide⟩

theorem g_lk67_0 : ∀ F, ((g_C67).ann.find? fun x => x.1 == firstId ((loopsOf (codeOf Go.Proofs.Try.f67)).getD 0 .skip)).map (·.2) = some F → LoopOK Go.Proofs.Try.prog ((loopsOf (codeOf Go.Proofs.Try.f67)).getD 0 .skip) F := by
  refine lookup_ok (show ((g_C67).ann.find? fun x => x.1 == firstId ((loopsOf (codeOf Go.Proofs.Try.f67)).getD 0 .skip)).map (·.2) = some g_F67_0 from by kernel_rfl) ?_
  exact loop_ok g_HC67 (loops_all 0 (by kernel_rfl) fun k hk => absurd hk (Nat.not_lt_zero k)) g_T67_0 [4] g_M67_0 g_P67_0 (fun x => rfl) g_D67_0
    (fun I v R K => g_L67_0_nat _ _ _ _ R K) g_E67_0 g_K67_0 (fun I p R K => by
      rcases p with p | p <;> rfl) (fun I v => by kernel_rfl)

/-- slices.Equal[[]loop.example/g01924/impl.Version,loop.example/g01924/impl.Version] -/
noncomputable def g_S67 (s10 : (List (den Y65))) (s21 : (List (den Y65))) : Option (den (.prod .bool .unit)) :=
  bif (((s10.length : Nat) : Int) != ((s21.length : Nat) : Int)) then
    some (false, ())
  else
    (iter (fun v => g_L67_0 s10 s21 ((s10.length : Nat) : Int) v _ some) (0)).bind fun q3 =>
    sumC q3
      (fun a4 =>
        some (false, ()))
      (fun b5 =>
        some (true, ()))

noncomputable def g_Ent67 : Ent := ⟨67, (.prod (.slice Y65) (.prod (.slice Y65) .unit)), (.prod .bool .unit), fun x => g_S67 x.1 x.2.1⟩

theorem g_VC67 : ∀ x : den (.prod (.slice Y65) (.prod (.slice Y65) .unit)), vcall g_C67 Go.Proofs.Try.f67 (.prod (.slice Y65) (.prod (.slice Y65) .unit)) (.prod .bool .unit) x = g_S67 x.1 x.2.1 := fun x => by kernel_rfl

theorem g_OK67 : EntOK Go.Proofs.Try.prog g_Ent67 := EntOK.of_vcall g_HC67 Go.Proofs.Try.func67
  (body_loops (by kernel_rfl) (loops_all 1 (by kernel_rfl) (fun k hk => match k, hk with
    | 0, _ => g_lk67_0)))
  (by kernel_rfl) (by kernel_rfl) g_VC67

/-! ### loop.example/g01924/impl.EqualChains -/

noncomputable def g_C54 : Cfg := ⟨g_tis, [g_Ent67], []⟩

theorem g_HC54 : CfgOK Go.Proofs.Try.prog g_C54 := ⟨info_ok g_tisOK, (all_cons g_OK67 all_nil), g_wide⟩

/-- loop.example/g01924/impl.EqualChains -/
noncomputable def g_S54 (a0 : (List (den Y65))) (b1 : (List (den Y65))) : Option (den (.prod .bool .unit)) :=
  (g_S67 a0 b1).bind fun r1 =>
  some (r1.1, ())

noncomputable def g_Ent54 : Ent := ⟨54, (.prod (.slice Y65) (.prod (.slice Y65) .unit)), (.prod .bool .unit), fun x => g_S54 x.1 x.2.1⟩

theorem g_VC54 : ∀ x : den (.prod (.slice Y65) (.prod (.slice Y65) .unit)), vcall g_C54 Go.Proofs.Try.f54 (.prod (.slice Y65) (.prod (.slice Y65) .unit)) (.prod .bool .unit) x = g_S54 x.1 x.2.1 := fun x => by kernel_rfl

theorem g_OK54 : EntOK Go.Proofs.Try.prog g_Ent54 := EntOK.of_vcall g_HC54 Go.Proofs.Try.func54
  (body_loops (by kernel_rfl) (loops_all 0 (by kernel_rfl) fun k hk => absurd hk (Nat.not_lt_zero k)))
  (by kernel_rfl) (by kernel_rfl) g_VC54

/-! ### slices.EqualFunc[[][]loop.example/g01924/impl.Version,[][]loop.example/g01924/impl.Version,[]loop.example/g01924/impl.Version,[]loop.example/g01924/impl.Version] -/

noncomputable def g_L53_0 (s2' : (List (List (den Y65)))) (eq' : Unit) (x' : (List (List (den Y65)))) (x_2' : Int) (x_3' : Int) (R : Type) (K : (Int) ⊕ ((Unit) ⊕ (Unit)) → Option R) : Option R :=
  bif (decide (x_3' < x_2')) then
    (lAt x' x_3').bind fun e1 =>
    (lAt s2' x_3').bind fun e2 =>
    (g_S54 e1 e2).bind fun r3 =>
    bif (!r3.1) then
      K (.inr (.inl ()))
    else
      K (.inl (IntKind.i64.wrap (x_3' + 1)))
  else
    K (.inr (.inr ()))

theorem g_L53_0_nat (s2' : (List (List (den Y65)))) (eq' : Unit) (x' : (List (List (den Y65)))) (x_2' : Int) (x_3' : Int) (R : Type) (K : (Int) ⊕ ((Unit) ⊕ (Unit)) → Option R) : g_L53_0 s2' eq' x' x_2' x_3' R K = (g_L53_0 s2' eq' x' x_2' x_3' _ some).bind K := by
  unfold g_L53_0
  repeat' first | exact nat_none | exact nat_some | apply nat_bif | (refine nat_bind fun _ => ?_) | apply nat_ite | (refine nat_sum (fun _ => ?_) fun _ => ?_) | rfl

def g_T53_0 : Tmpl := ⟨(.junk (.slot (.slice (.slice Y65)) (.slot (.fn 54 .unit) (.junk (.junk (.junk (.junk (.junk (.junk (.junk (.junk (.junk (.junk (.junk (.junk (.slot (.slice (.slice Y65)) (.slot .i (.slot .i (.junk (.junk (.junk (.junk (.junk (.junk (.junk (.junk (.junk (.junk (.junk (.junk (.junk (.junk .nil)))))))))))))))))))))))))))))))), .nil⟩

abbrev g_I53_0 : Type := (List (List (den Y65))) × Unit × (List (List (den Y65))) × Int
abbrev g_V53_0 : Type := Int
abbrev g_X53_0 : Type := (Unit) ⊕ (Unit)

def g_M53_0 : g_I53_0 → g_V53_0 → den g_T53_0.ty := fun I v => (I.1, I.2.1, I.2.2.1, I.2.2.2, v, ())

def g_P53_0 : den g_T53_0.ty → g_I53_0 × g_V53_0 := fun x => ((x.1, x.2.1, x.2.2.1, x.2.2.2.1), x.2.2.2.2.1)

noncomputable def g_D53_0 : g_I53_0 → g_V53_0 → (R : Type) → ((g_V53_0 ⊕ g_X53_0) → Option R) → Option R := fun I v R K => g_L53_0 I.1 I.2.1 I.2.2.1 I.2.2.2 v R K

def g_E53_0 : g_I53_0 → g_X53_0 → (R : Type) → (Ex → St → Option R) → Option R := fun I p R K => sumC p (fun a => K .ret ⟨[.junk, .junk, .junk, .junk, .junk, .junk, (.pv .bool false), .junk, .junk, .junk, .junk, .junk, .junk, .junk, .junk, .junk, .junk, .junk, .junk, .junk, .junk, .junk, .junk, .junk, .junk, .junk, .junk, .junk, .junk, .junk, .junk, .junk], []⟩) (fun b => K (.exit 0) ⟨[.junk, .junk, .junk, .junk, .junk, .junk, .junk, .junk, .junk, .junk, .junk, .junk, .junk, .junk, .junk, .junk, .junk, .junk, .junk, .junk, .junk, .junk, .junk, .junk, .junk, .junk, .junk, .junk, .junk, .junk, .junk, .junk], []⟩)

def g_K53_0 : g_I53_0 → g_X53_0 → Ex × St := fun I p => sumC p (fun a => (.ret, ⟨[.junk, .junk, .junk, .junk, .junk, .junk, (.pv .bool false), .junk, .junk, .junk, .junk, .junk, .junk, .junk, .junk, .junk, .junk, .junk, .junk, .junk, .junk, .junk, .junk, .junk, .junk, .junk, .junk, .junk, .junk, .junk, .junk, .junk], []⟩)) (fun b => ((.exit 0), ⟨[.junk, .junk, .junk, .junk, .junk, .junk, .junk, .junk, .junk, .junk, .junk, .junk, .junk, .junk, .junk, .junk, .junk, .junk, .junk, .junk, .junk, .junk, .junk, .junk, .junk, .junk, .junk, .junk, .junk, .junk, .junk, .junk], []⟩))

noncomputable def g_F53_0 : LoopFn := fun s R K => (Tmpl.read g_T53_0 s).bind fun x => (iter (fun v => g_D53_0 (g_P53_0 x).1 v _ some) (g_P53_0 x).2).bind fun p => g_E53_0 (g_P53_0 x).1 p R K

noncomputable def g_C53 : Cfg := ⟨g_tis, [g_Ent54], [(4, g_F53_0)]⟩

theorem g_HC53 : CfgOK Go.Proofs.Try.prog g_C53 := ⟨info_ok g_tisOK, (all_cons g_OK54 all_nil), g_wide⟩

theorem g_lk53_0 : ∀ F, ((g_C53).ann.find? fun x => x.1 == firstId ((loopsOf (codeOf Go.Proofs.Try.f53)).getD 0 .skip)).map (·.2) = some F → LoopOK Go.Proofs.Try.prog ((loopsOf (codeOf Go.Proofs.Try.f53)).getD 0 .skip) F := by
  refine lookup_ok (show ((g_C53).ann.find? fun x => x.1 == firstId ((loopsOf (codeOf Go.Proofs.Try.f53)).getD 0 .skip)).map (·.2) = some g_F53_0 from by kernel_rfl) ?_
  exact loop_ok g_HC53 (loops_all 0 (by kernel_rfl) fun k hk => absurd hk (Nat.not_lt_zero k)) g_T53_0 [6] g_M53_0 g_P53_0 (fun x => rfl) g_D53_0
    (fun I v R K => g_L53_0_nat _ _ _ _ _ R K) g_E53_0 g_K53_0 (fun I p R K => by
      rcases p with p | p <;> rfl) (fun I v => by kernel_rfl)

/-- slices.EqualFunc[[][]loop.example/g01924/impl.Version,[][]loop.example/g01924/impl.Version,[]loop.example/g01924/impl.Version,[]loop.example/g01924/impl.Version] -/
noncomputable def g_S53 (s10 : (List (List (den Y65)))) (s21 : (List (List (den Y65)))) (eq2 : Unit) : Option (den (.prod .bool .unit)) :=
  bif (((s10.length : Nat) : Int) != ((s21.length : Nat) : Int)) then
    some (false, ())
  else
    (iter (fun v => g_L53_0 s21 eq2 s10 ((s10.length : Nat) : Int) v _ some) (0)).bind fun q4 =>
    sumC q4
      (fun a5 =>
        some (false, ()))
      (fun b6 =>
        some (true, ()))

noncomputable def g_Ent53 : Ent := ⟨53, (.prod (.slice (.slice Y65)) (.prod (.slice (.slice Y65)) (.prod (.fn 54 .unit) .unit))), (.prod .bool .unit), fun x => g_S53 x.1 x.2.1 x.2.2.1⟩

theorem g_VC53 : ∀ x : den (.prod (.slice (.slice Y65)) (.prod (.slice (.slice Y65)) (.prod (.fn 54 .unit) .unit))), vcall g_C53 Go.Proofs.Try.f53 (.prod (.slice (.slice Y65)) (.prod (.slice (.slice Y65)) (.prod (.fn 54 .unit) .unit))) (.prod .bool .unit) x = g_S53 x.1 x.2.1 x.2.2.1 := fun x => by kernel_rfl

theorem g_OK53 : EntOK Go.Proofs.Try.prog g_Ent53 := EntOK.of_vcall g_HC53 Go.Proofs.Try.func53
  (body_loops (by kernel_rfl) (loops_all 1 (by kernel_rfl) (fun k hk => match k, hk with
    | 0, _ => g_lk53_0)))
  (by kernel_rfl) (by kernel_rfl) g_VC53

/-! ### loop.example/g01924/impl.EqualStores -/

noncomputable def g_C38 : Cfg := ⟨g_tis, [g_Ent53], []⟩

theorem g_HC38 : CfgOK Go.Proofs.Try.prog g_C38 := ⟨info_ok g_tisOK, (all_cons g_OK53 all_nil), g_wide⟩

/-- loop.example/g01924/impl.EqualStores -/
noncomputable def g_S38 (a0 : (den Y41)) (b1 : (den Y41)) : Option (den (.prod .bool .unit)) :=
  (g_S53 a0.1 b1.1 (())).bind fun r1 =>
  some (r1.1, ())

noncomputable def g_Ent38 : Ent := ⟨38, (.prod Y41 (.prod Y41 .unit)), (.prod .bool .unit), fun x => g_S38 x.1 x.2.1⟩

theorem g_VC38 : ∀ x : den (.prod Y41 (.prod Y41 .unit)), vcall g_C38 Go.Proofs.Try.f38 (.prod Y41 (.prod Y41 .unit)) (.prod .bool .unit) x = g_S38 x.1 x.2.1 := fun x => by kernel_rfl

theorem g_OK38 : EntOK Go.Proofs.Try.prog g_Ent38 := EntOK.of_vcall g_HC38 Go.Proofs.Try.func38
  (body_loops (by kernel_rfl) (loops_all 0 (by kernel_rfl) fun k hk => absurd hk (Nat.not_lt_zero k)))
  (by kernel_rfl) (by kernel_rfl) g_VC38

/-! ### loop.example/g01924/impl.EqualReplicas -/

noncomputable def g_C21 : Cfg := ⟨g_tis, [g_Ent38], []⟩

theorem g_HC21 : CfgOK Go.Proofs.Try.prog g_C21 := ⟨info_ok g_tisOK, (all_cons g_OK38 all_nil), g_wide⟩

/-- loop.example/g01924/impl.EqualReplicas -/
noncomputable def g_S21 (a0 : (den Y43)) (b1 : (den Y43)) : Option (den (.prod .bool .unit)) :=
  bif (a0.1 == b1.1) then
    bif (a0.2.1 == b1.2.1) then
      (g_S38 a0.2.2.1 b1.2.2.1).bind fun r1 =>
      some (r1.1, ())
    else
      some (false, ())
  else
    some (false, ())

noncomputable def g_Ent21 : Ent := ⟨21, (.prod Y43 (.prod Y43 .unit)), (.prod .bool .unit), fun x => g_S21 x.1 x.2.1⟩

theorem g_VC21 : ∀ x : den (.prod Y43 (.prod Y43 .unit)), vcall g_C21 Go.Proofs.Try.f21 (.prod Y43 (.prod Y43 .unit)) (.prod .bool .unit) x = g_S21 x.1 x.2.1 := fun x => by kernel_rfl

theorem g_OK21 : EntOK Go.Proofs.Try.prog g_Ent21 := EntOK.of_vcall g_HC21 Go.Proofs.Try.func21
  (body_loops (by kernel_rfl) (loops_all 0 (by kernel_rfl) fun k hk => absurd hk (Nat.not_lt_zero k)))
  (by kernel_rfl) (by kernel_rfl) g_VC21

/-! ### loop.example/g01924/laws.eqVersion -/

noncomputable def g_C71 : Cfg := ⟨g_tis, [], []⟩

theorem g_HC71 : CfgOK Go.Proofs.Try.prog g_C71 := ⟨info_ok g_tisOK, all_nil, g_wide⟩

/-- loop.example/g01924/laws.eqVersion -/
noncomputable def g_S71 (a0 : (den Y65)) (b1 : (den Y65)) : Option (den (.prod .bool .unit)) :=
  bif (a0.1 != b1.1) then
    some (false, ())
  else
    bif (a0.2.1 != b1.2.1) then
      some (false, ())
    else
      bif (a0.2.2.1 != b1.2.2.1) then
        some (false, ())
      else
        bif (a0.2.2.2.1 != b1.2.2.2.1) then
          some (false, ())
        else
          bif (a0.2.2.2.2.1 != b1.2.2.2.2.1) then
            some (false, ())
          else
            some (true, ())

noncomputable def g_Ent71 : Ent := ⟨71, (.prod Y65 (.prod Y65 .unit)), (.prod .bool .unit), fun x => g_S71 x.1 x.2.1⟩

theorem g_VC71 : ∀ x : den (.prod Y65 (.prod Y65 .unit)), vcall g_C71 Go.Proofs.Try.f71 (.prod Y65 (.prod Y65 .unit)) (.prod .bool .unit) x = g_S71 x.1 x.2.1 := fun x => by kernel_rfl

theorem g_OK71 : EntOK Go.Proofs.Try.prog g_Ent71 := EntOK.of_vcall g_HC71 Go.Proofs.Try.func71
  (body_loops (by kernel_rfl) (loops_all 0 (by kernel_rfl) fun k hk => absurd hk (Nat.not_lt_zero k)))
  (by kernel_rfl) (by kernel_rfl) g_VC71

/-! ### loop.example/g01924/laws.eqVersionS -/

noncomputable def g_L62_0 (a' : (List (den Y65))) (b' : (List (den Y65))) (i' : Int) (R : Type) (K : (Int) ⊕ ((Unit) ⊕ (Unit)) → Option R) : Option R :=
  bif (decide (i' < ((a'.length : Nat) : Int))) then
    (lAt a' i').bind fun e1 =>
    (lAt b' i').bind fun e2 =>
    (g_S71 e1 e2).bind fun r3 =>
    bif (!r3.1) then
      K (.inr (.inl ()))
    else
      K (.inl (IntKind.i64.wrap (i' + 1)))
  else
    K (.inr (.inr ()))

theorem g_L62_0_nat (a' : (List (den Y65))) (b' : (List (den Y65))) (i' : Int) (R : Type) (K : (Int) ⊕ ((Unit) ⊕ (Unit)) → Option R) : g_L62_0 a' b' i' R K = (g_L62_0 a' b' i' _ some).bind K := by
  unfold g_L62_0
  repeat' first | exact nat_none | exact nat_some | apply nat_bif | (refine nat_bind fun _ => ?_) | apply nat_ite | (refine nat_sum (fun _ => ?_) fun _ => ?_) | rfl

def g_T62_0 : Tmpl := ⟨(.slot (.slice Y65) (.slot (.slice Y65) (.junk (.junk (.junk (.slot .i (.junk (.junk (.junk (.junk (.junk (.junk (.junk (.junk (.junk (.junk (.junk (.junk (.junk (.junk (.junk (.junk (.junk (.junk (.junk (.junk (.junk .nil))))))))))))))))))))))))))), .nil⟩

abbrev g_I62_0 : Type := (List (den Y65)) × (List (den Y65))
abbrev g_V62_0 : Type := Int
abbrev g_X62_0 : Type := (Unit) ⊕ (Unit)

def g_M62_0 : g_I62_0 → g_V62_0 → den g_T62_0.ty := fun I v => (I.1, I.2, v, ())

def g_P62_0 : den g_T62_0.ty → g_I62_0 × g_V62_0 := fun x => ((x.1, x.2.1), x.2.2.1)

noncomputable def g_D62_0 : g_I62_0 → g_V62_0 → (R : Type) → ((g_V62_0 ⊕ g_X62_0) → Option R) → Option R := fun I v R K => g_L62_0 I.1 I.2 v R K

def g_E62_0 : g_I62_0 → g_X62_0 → (R : Type) → (Ex → St → Option R) → Option R := fun I p R K => sumC p (fun a => K .ret ⟨[.junk, .junk, .junk, .junk, (.pv .bool false), .junk, .junk, .junk, .junk, .junk, .junk, .junk, .junk, .junk, .junk, .junk, .junk, .junk, .junk, .junk, .junk, .junk, .junk, .junk, .junk, .junk, .junk], []⟩) (fun b => K (.exit 0) ⟨[.junk, .junk, .junk, .junk, .junk, .junk, .junk, .junk, .junk, .junk, .junk, .junk, .junk, .junk, .junk, .junk, .junk, .junk, .junk, .junk, .junk, .junk, .junk, .junk, .junk, .junk, .junk], []⟩)

def g_K62_0 : g_I62_0 → g_X62_0 → Ex × St := fun I p => sumC p (fun a => (.ret, ⟨[.junk, .junk, .junk, .junk, (.pv .bool false), .junk, .junk, .junk, .junk, .junk, .junk, .junk, .junk, .junk, .junk, .junk, .junk, .junk, .junk, .junk, .junk, .junk, .junk, .junk, .junk, .junk, .junk], []⟩)) (fun b => ((.exit 0), ⟨[.junk, .junk, .junk, .junk, .junk, .junk, .junk, .junk, .junk, .junk, .junk, .junk, .junk, .junk, .junk, .junk, .junk, .junk, .junk, .junk, .junk, .junk, .junk, .junk, .junk, .junk, .junk], []⟩))

noncomputable def g_F62_0 : LoopFn := fun s R K => (Tmpl.read g_T62_0 s).bind fun x => (iter (fun v => g_D62_0 (g_P62_0 x).1 v _ some) (g_P62_0 x).2).bind fun p => g_E62_0 (g_P62_0 x).1 p R K

noncomputable def g_C62 : Cfg := ⟨g_tis, [g_Ent71], [(4, g_F62_0)]⟩

theorem g_HC62 : CfgOK Go.Proofs.Try.prog g_C62 := ⟨info_ok g_tisOK, (all_cons g_OK71 all_nil), g_wide⟩

theorem g_lk62_0 : ∀ F, ((g_C62).ann.find? fun x => x.1 == firstId ((loopsOf (codeOf Go.Proofs.Try.f62)).getD 0 .skip)).map (·.2) = some F → LoopOK Go.Proofs.Try.prog ((loopsOf (codeOf Go.Proofs.Try.f62)).getD 0 .skip) F := by
  refine lookup_ok (show ((g_C62).ann.find? fun x => x.1 == firstId ((loopsOf (codeOf Go.Proofs.Try.f62)).getD 0 .skip)).map (·.2) = some g_F62_0 from by kernel_rfl) ?_
  exact loop_ok g_HC62 (loops_all 0 (by kernel_rfl) fun k hk => absurd hk (Nat.not_lt_zero k)) g_T62_0 [4] g_M62_0 g_P62_0 (fun x => rfl) g_D62_0
    (fun I v R K => g_L62_0_nat _ _ _ R K) g_E62_0 g_K62_0 (fun I p R K => by
      rcases p with p | p <;> rfl) (fun I v => by kernel_rfl)

/-- loop.example/g01924/laws.eqVersionS -/
noncomputable def g_S62 (a0 : (List (den Y65))) (b1 : (List (den Y65))) : Option (den (.prod .bool .unit)) :=
  bif (((a0.length : Nat) : Int) != ((b1.length : Nat) : Int)) then
    some (false, ())
  else
    (iter (fun v => g_L62_0 a0 b1 v _ some) (0)).bind fun q4 =>
    sumC q4
      (fun a5 =>
        some (false, ()))
      (fun b6 =>
        some (true, ()))

noncomputable def g_Ent62 : Ent := ⟨62, (.prod (.slice Y65) (.prod (.slice Y65) .unit)), (.prod .bool .unit), fun x => g_S62 x.1 x.2.1⟩

theorem g_VC62 : ∀ x : den (.prod (.slice Y65) (.prod (.slice Y65) .unit)), vcall g_C62 Go.Proofs.Try.f62 (.prod (.slice Y65) (.prod (.slice Y65) .unit)) (.prod .bool .unit) x = g_S62 x.1 x.2.1 := fun x => by kernel_rfl

theorem g_OK62 : EntOK Go.Proofs.Try.prog g_Ent62 := EntOK.of_vcall g_HC62 Go.Proofs.Try.func62
  (body_loops (by kernel_rfl) (loops_all 1 (by kernel_rfl) (fun k hk => match k, hk with
    | 0, _ => g_lk62_0)))
  (by kernel_rfl) (by kernel_rfl) g_VC62

/-! ### loop.example/g01924/laws.eqVersionSS -/

noncomputable def g_L47_0 (a' : (List (List (den Y65)))) (b' : (List (List (den Y65)))) (i' : Int) (R : Type) (K : (Int) ⊕ ((Unit) ⊕ (Unit)) → Option R) : Option R :=
  bif (decide (i' < ((a'.length : Nat) : Int))) then
    (lAt a' i').bind fun e1 =>
    (lAt b' i').bind fun e2 =>
    (g_S62 e1 e2).bind fun r3 =>
    bif (!r3.1) then
      K (.inr (.inl ()))
    else
      K (.inl (IntKind.i64.wrap (i' + 1)))
  else
    K (.inr (.inr ()))

theorem g_L47_0_nat (a' : (List (List (den Y65)))) (b' : (List (List (den Y65)))) (i' : Int) (R : Type) (K : (Int) ⊕ ((Unit) ⊕ (Unit)) → Option R) : g_L47_0 a' b' i' R K = (g_L47_0 a' b' i' _ some).bind K := by
  unfold g_L47_0
  repeat' first | exact nat_none | exact nat_some | apply nat_bif | (refine nat_bind fun _ => ?_) | apply nat_ite | (refine nat_sum (fun _ => ?_) fun _ => ?_) | rfl

def g_T47_0 : Tmpl := ⟨(.slot (.slice (.slice Y65)) (.slot (.slice (.slice Y65)) (.junk (.junk (.junk (.slot .i (.junk (.junk (.junk (.junk (.junk (.junk (.junk (.junk (.junk (.junk (.junk (.junk (.junk (.junk (.junk (.junk (.junk (.junk (.junk (.junk (.junk .nil))))))))))))))))))))))))))), .nil⟩

abbrev g_I47_0 : Type := (List (List (den Y65))) × (List (List (den Y65)))
abbrev g_V47_0 : Type := Int
abbrev g_X47_0 : Type := (Unit) ⊕ (Unit)

def g_M47_0 : g_I47_0 → g_V47_0 → den g_T47_0.ty := fun I v => (I.1, I.2, v, ())

def g_P47_0 : den g_T47_0.ty → g_I47_0 × g_V47_0 := fun x => ((x.1, x.2.1), x.2.2.1)

noncomputable def g_D47_0 : g_I47_0 → g_V47_0 → (R : Type) → ((g_V47_0 ⊕ g_X47_0) → Option R) → Option R := fun I v R K => g_L47_0 I.1 I.2 v R K

def g_E47_0 : g_I47_0 → g_X47_0 → (R : Type) → (Ex → St → Option R) → Option R := fun I p R K => sumC p (fun a => K .ret ⟨[.junk, .junk, .junk, .junk, (.pv .bool false), .junk, .junk, .junk, .junk, .junk, .junk, .junk, .junk, .junk, .junk, .junk, .junk, .junk, .junk, .junk, .junk, .junk, .junk, .junk, .junk, .junk, .junk], []⟩) (fun b => K (.exit 0) ⟨[.junk, .junk, .junk, .junk, .junk, .junk, .junk, .junk, .junk, .junk, .junk, .junk, .junk, .junk, .junk, .junk, .junk, .junk, .junk, .junk, .junk, .junk, .junk, .junk, .junk, .junk, .junk], []⟩)

def g_K47_0 : g_I47_0 → g_X47_0 → Ex × St := fun I p => sumC p (fun a => (.ret, ⟨[.junk, .junk, .junk, .junk, (.pv .bool false), .junk, .junk, .junk, .junk, .junk, .junk, .junk, .junk, .junk, .junk, .junk, .junk, .junk, .junk, .junk, .junk, .junk, .junk, .junk, .junk, .junk, .junk], []⟩)) (fun b => ((.exit 0), ⟨[.junk, .junk, .junk, .junk, .junk, .junk, .junk, .junk, .junk, .junk, .junk, .junk, .junk, .junk, .junk, .junk, .junk, .junk, .junk, .junk, .junk, .junk, .junk, .junk, .junk, .junk, .junk], []⟩))

noncomputable def g_F47_0 : LoopFn := fun s R K => (Tmpl.read g_T47_0 s).bind fun x => (iter (fun v => g_D47_0 (g_P47_0 x).1 v _ some) (g_P47_0 x).2).bind fun p => g_E47_0 (g_P47_0 x).1 p R K

noncomputable def g_C47 : Cfg := ⟨g_tis, [g_Ent62], [(4, g_F47_0)]⟩

theorem g_HC47 : CfgOK Go.Proofs.Try.prog g_C47 := ⟨info_ok g_tisOK, (all_cons g_OK62 all_nil), g_wide⟩

theorem g_lk47_0 : ∀ F, ((g_C47).ann.find? fun x => x.1 == firstId ((loopsOf (codeOf Go.Proofs.Try.f47)).getD 0 .skip)).map (·.2) = some F → LoopOK Go.Proofs.Try.prog ((loopsOf (codeOf Go.Proofs.Try.f47)).getD 0 .skip) F := by
  refine lookup_ok (show ((g_C47).ann.find? fun x => x.1 == firstId ((loopsOf (codeOf Go.Proofs.Try.f47)).getD 0 .skip)).map (·.2) = some g_F47_0 from by kernel_rfl) ?_
  exact loop_ok g_HC47 (loops_all 0 (by kernel_rfl) fun k hk => absurd hk (Nat.not_lt_zero k)) g_T47_0 [4] g_M47_0 g_P47_0 (fun x => rfl) g_D47_0
    (fun I v R K => g_L47_0_nat _ _ _ R K) g_E47_0 g_K47_0 (fun I p R K => by
      rcases p with p | p <;> rfl) (fun I v => by kernel_rfl)

/-- loop.example/g01924/laws.eqVersionSS -/
noncomputable def g_S47 (a0 : (List (List (den Y65)))) (b1 : (List (List (den Y65)))) : Option (den (.prod .bool .unit)) :=
  bif (((a0.length : Nat) : Int) != ((b1.length : Nat) : Int)) then
    some (false, ())
  else
    (iter (fun v => g_L47_0 a0 b1 v _ some) (0)).bind fun q4 =>
    sumC q4
      (fun a5 =>
        some (false, ()))
      (fun b6 =>
        some (true, ()))

noncomputable def g_Ent47 : Ent := ⟨47, (.prod (.slice (.slice Y65)) Y41), (.prod .bool .unit), fun x => g_S47 x.1 x.2.1⟩

theorem g_VC47 : ∀ x : den (.prod (.slice (.slice Y65)) Y41), vcall g_C47 Go.Proofs.Try.f47 (.prod (.slice (.slice Y65)) Y41) (.prod .bool .unit) x = g_S47 x.1 x.2.1 := fun x => by kernel_rfl

theorem g_OK47 : EntOK Go.Proofs.Try.prog g_Ent47 := EntOK.of_vcall g_HC47 Go.Proofs.Try.func47
  (body_loops (by kernel_rfl) (loops_all 1 (by kernel_rfl) (fun k hk => match k, hk with
    | 0, _ => g_lk47_0)))
  (by kernel_rfl) (by kernel_rfl) g_VC47

/-! ### loop.example/g01924/laws.eqStore -/

noncomputable def g_C32 : Cfg := ⟨g_tis, [g_Ent47], []⟩

theorem g_HC32 : CfgOK Go.Proofs.Try.prog g_C32 := ⟨info_ok g_tisOK, (all_cons g_OK47 all_nil), g_wide⟩

/-- loop.example/g01924/laws.eqStore -/
noncomputable def g_S32 (a0 : (den Y41)) (b1 : (den Y41)) : Option (den (.prod .bool .unit)) :=
  (g_S47 a0.1 b1.1).bind fun r1 =>
  bif (!r1.1) then
    some (false, ())
  else
    some (true, ())

noncomputable def g_Ent32 : Ent := ⟨32, (.prod Y41 (.prod Y41 .unit)), (.prod .bool .unit), fun x => g_S32 x.1 x.2.1⟩

theorem g_VC32 : ∀ x : den (.prod Y41 (.prod Y41 .unit)), vcall g_C32 Go.Proofs.Try.f32 (.prod Y41 (.prod Y41 .unit)) (.prod .bool .unit) x = g_S32 x.1 x.2.1 := fun x => by kernel_rfl

theorem g_OK32 : EntOK Go.Proofs.Try.prog g_Ent32 := EntOK.of_vcall g_HC32 Go.Proofs.Try.func32
  (body_loops (by kernel_rfl) (loops_all 0 (by kernel_rfl) fun k hk => absurd hk (Nat.not_lt_zero k)))
  (by kernel_rfl) (by kernel_rfl) g_VC32

/-! ### loop.example/g01924/laws.eqReplica -/

noncomputable def g_C15 : Cfg := ⟨g_tis, [g_Ent32], []⟩

theorem g_HC15 : CfgOK Go.Proofs.Try.prog g_C15 := ⟨info_ok g_tisOK, (all_cons g_OK32 all_nil), g_wide⟩

/-- loop.example/g01924/laws.eqReplica -/
noncomputable def g_S15 (a0 : (den Y43)) (b1 : (den Y43)) : Option (den (.prod .bool .unit)) :=
  bif (a0.1 != b1.1) then
    some (false, ())
  else
    bif (a0.2.1 != b1.2.1) then
      some (false, ())
    else
      (g_S32 a0.2.2.1 b1.2.2.1).bind fun r1 =>
      bif (!r1.1) then
        some (false, ())
      else
        some (true, ())

noncomputable def g_Ent15 : Ent := ⟨15, (.prod Y43 (.prod Y43 .unit)), (.prod .bool .unit), fun x => g_S15 x.1 x.2.1⟩

theorem g_VC15 : ∀ x : den (.prod Y43 (.prod Y43 .unit)), vcall g_C15 Go.Proofs.Try.f15 (.prod Y43 (.prod Y43 .unit)) (.prod .bool .unit) x = g_S15 x.1 x.2.1 := fun x => by kernel_rfl

theorem g_OK15 : EntOK Go.Proofs.Try.prog g_Ent15 := EntOK.of_vcall g_HC15 Go.Proofs.Try.func15
  (body_loops (by kernel_rfl) (loops_all 0 (by kernel_rfl) fun k hk => absurd hk (Nat.not_lt_zero k)))
  (by kernel_rfl) (by kernel_rfl) g_VC15

/-! ### loop.example/g01924/laws.FnExactEqualReplicas -/

noncomputable def g_C5 : Cfg := ⟨g_tis, [g_Ent18, g_Ent20, g_Ent19, g_Ent21, g_Ent15], []⟩

theorem g_HC5 : CfgOK Go.Proofs.Try.prog g_C5 := ⟨info_ok g_tisOK, (all_cons g_OK18 (all_cons g_OK20 (all_cons g_OK19 (all_cons g_OK21 (all_cons g_OK15 all_nil))))), g_wide⟩

/-- loop.example/g01924/laws.FnExactEqualReplicas -/
noncomputable def g_S5 (aA0 : (den Y43)) (aB1 : (den Y43)) : Option (den (.prod .bool .unit)) :=
  (g_S18 aA0 1048576).bind fun r1 =>
  bif (decide (r1.1 < 0)) then
    some (true, ())
  else
    (g_S18 aB1 r1.1).bind fun r2 =>
    bif (decide (r2.1 < 0)) then
      some (true, ())
    else
      (g_S20 aA0).bind fun r3 =>
      (g_S20 aB1).bind fun r4 =>
      (g_S19 r3.1 r4.1).bind fun r5 =>
      (g_S20 aA0).bind fun r6 =>
      (g_S20 aB1).bind fun r7 =>
      (g_S21 r6.1 r7.1).bind fun r8 =>
      bif (!(r8.1 == r5.1)) then
        some (false, ())
      else
        (g_S20 aA0).bind fun r9 =>
        (g_S15 r6.1 r9.1).bind fun r10 =>
        bif (!r10.1) then
          some (false, ())
        else
          (g_S20 aB1).bind fun r11 =>
          (g_S15 r7.1 r11.1).bind fun r12 =>
          bif (!r12.1) then
            some (false, ())
          else
            some (true, ())

noncomputable def g_Ent5 : Ent := ⟨5, (.prod Y43 (.prod Y43 .unit)), (.prod .bool .unit), fun x => g_S5 x.1 x.2.1⟩

theorem g_VC5 : ∀ x : den (.prod Y43 (.prod Y43 .unit)), vcall g_C5 Go.Proofs.Try.f5 (.prod Y43 (.prod Y43 .unit)) (.prod .bool .unit) x = g_S5 x.1 x.2.1 := fun x => by kernel_rfl

theorem g_OK5 : EntOK Go.Proofs.Try.prog g_Ent5 := EntOK.of_vcall g_HC5 Go.Proofs.Try.func5
  (body_loops (by kernel_rfl) (loops_all 0 (by kernel_rfl) fun k hk => absurd hk (Nat.not_lt_zero k)))
  (by kernel_rfl) (by kernel_rfl) g_VC5
end Go.Ab
