import Derived.Test.YtehjknclkaobhaaAbCall
import Derived.Test.YtehjknclkaobhaaProg
import Derived.KernelRfl
set_option linter.unusedVariables false
set_option maxRecDepth 100000
namespace Go.Ab
abbrev Y43 : Ty := (.prod .i (.prod .i (.prod (.prod (.slice (.slice (.prod .i (.prod .i (.prod .i (.prod .i (.prod .i .unit))))))) .unit) .unit)))

abbrev Y41 : Ty := (.prod (.slice (.slice (.prod .i (.prod .i (.prod .i (.prod .i (.prod .i .unit))))))) .unit)

abbrev Y65 : Ty := (.prod .i (.prod .i (.prod .i (.prod .i (.prod .i .unit)))))

noncomputable def g_tis : List (TypeId × TI) := [(3, ⟨1, (.int .i64), (some .i), [.pv (.int .i64) 0], 4398046511104⟩), (4, ⟨1, .bool, (some .bool), [.b false], 35184372088832⟩), (30, ⟨1, (.slice 68), (some (.slice (.slice Y65))), [.nils], 1466015503701⟩), (32, ⟨1, (.struct [(0, 30)]), (some Y41), [.nils], 1466015503701⟩), (34, ⟨3, (.struct [(0, 3), (1, 3), (2, 32)]), (some Y43), [.pv (.int .i64) 0, .pv (.int .i64) 0, .nils], 879609302220⟩), (39, ⟨1, (.slice 80), (some (.slice (.slice Y65))), [.nils], 1466015503701⟩), (41, ⟨1, (.struct [(0, 39)]), (some Y41), [.nils], 1466015503701⟩), (43, ⟨3, (.struct [(0, 3), (1, 3), (2, 41)]), (some Y43), [.pv (.int .i64) 0, .pv (.int .i64) 0, .nils], 879609302220⟩), (65, ⟨5, (.struct [(0, 3), (1, 3), (2, 3), (3, 3), (4, 3)]), (some Y65), [.pv (.int .i64) 0, .pv (.int .i64) 0, .pv (.int .i64) 0, .pv (.int .i64) 0, .pv (.int .i64) 0], 879609302220⟩), (68, ⟨1, (.slice 65), (some (.slice Y65)), [.nils], 1466015503701⟩), (80, ⟨1, (.slice 86), (some (.slice Y65)), [.nils], 1466015503701⟩), (86, ⟨5, (.struct [(0, 3), (1, 3), (2, 3), (3, 3), (4, 3)]), (some Y65), [.pv (.int .i64) 0, .pv (.int .i64) 0, .pv (.int .i64) 0, .pv (.int .i64) 0, .pv (.int .i64) 0], 879609302220⟩)]

theorem g_ti3 : TIOK Go.Proofs.Try.prog 3 ⟨1, (.int .i64), (some .i), [.pv (.int .i64) 0], 4398046511104⟩ :=
  ⟨Go.Proofs.Try.t3, _, by kernel_rfl, Go.Proofs.Try.underlying3, by kernel_rfl, rfl, ⟨_, rfl, by kernel_rfl, by kernel_rfl⟩, of_decide_eq_true (by kernel_rfl), of_decide_eq_true (by kernel_rfl)⟩

theorem g_ti4 : TIOK Go.Proofs.Try.prog 4 ⟨1, .bool, (some .bool), [.b false], 35184372088832⟩ :=
  ⟨Go.Proofs.Try.t4, _, by kernel_rfl, Go.Proofs.Try.underlying4, by kernel_rfl, rfl, ⟨_, rfl, by kernel_rfl, by kernel_rfl⟩, of_decide_eq_true (by kernel_rfl), of_decide_eq_true (by kernel_rfl)⟩

theorem g_ti30 : TIOK Go.Proofs.Try.prog 30 ⟨1, (.slice 68), (some (.slice (.slice Y65))), [.nils], 1466015503701⟩ :=
  ⟨Go.Proofs.Try.t30, _, by kernel_rfl, Go.Proofs.Try.underlying30, by kernel_rfl, rfl, ⟨_, rfl, by kernel_rfl, by kernel_rfl⟩, of_decide_eq_true (by kernel_rfl), of_decide_eq_true (by kernel_rfl)⟩

theorem g_ti32 : TIOK Go.Proofs.Try.prog 32 ⟨1, (.struct [(0, 30)]), (some Y41), [.nils], 1466015503701⟩ :=
  ⟨Go.Proofs.Try.t32, _, by kernel_rfl, Go.Proofs.Try.underlying32, by kernel_rfl, ⟨_, rfl, by kernel_rfl, by kernel_rfl, by kernel_rfl, by kernel_rfl, of_decide_eq_true (by kernel_rfl)⟩, ⟨_, rfl, by kernel_rfl, by kernel_rfl⟩, of_decide_eq_true (by kernel_rfl), of_decide_eq_true (by kernel_rfl)⟩

theorem g_ti34 : TIOK Go.Proofs.Try.prog 34 ⟨3, (.struct [(0, 3), (1, 3), (2, 32)]), (some Y43), [.pv (.int .i64) 0, .pv (.int .i64) 0, .nils], 879609302220⟩ :=
  ⟨Go.Proofs.Try.t34, _, by kernel_rfl, Go.Proofs.Try.underlying34, by kernel_rfl, ⟨_, rfl, by kernel_rfl, by kernel_rfl, by kernel_rfl, by kernel_rfl, of_decide_eq_true (by kernel_rfl)⟩, ⟨_, rfl, by kernel_rfl, by kernel_rfl⟩, of_decide_eq_true (by kernel_rfl), of_decide_eq_true (by kernel_rfl)⟩

theorem g_ti39 : TIOK Go.Proofs.Try.prog 39 ⟨1, (.slice 80), (some (.slice (.slice Y65))), [.nils], 1466015503701⟩ :=
  ⟨Go.Proofs.Try.t39, _, by kernel_rfl, Go.Proofs.Try.underlying39, by kernel_rfl, rfl, ⟨_, rfl, by kernel_rfl, by kernel_rfl⟩, of_decide_eq_true (by kernel_rfl), of_decide_eq_true (by kernel_rfl)⟩

theorem g_ti41 : TIOK Go.Proofs.Try.prog 41 ⟨1, (.struct [(0, 39)]), (some Y41), [.nils], 1466015503701⟩ :=
  ⟨Go.Proofs.Try.t41, _, by kernel_rfl, Go.Proofs.Try.underlying41, by kernel_rfl, ⟨_, rfl, by kernel_rfl, by kernel_rfl, by kernel_rfl, by kernel_rfl, of_decide_eq_true (by kernel_rfl)⟩, ⟨_, rfl, by kernel_rfl, by kernel_rfl⟩, of_decide_eq_true (by kernel_rfl), of_decide_eq_true (by kernel_rfl)⟩

theorem g_ti43 : TIOK Go.Proofs.Try.prog 43 ⟨3, (.struct [(0, 3), (1, 3), (2, 41)]), (some Y43), [.pv (.int .i64) 0, .pv (.int .i64) 0, .nils], 879609302220⟩ :=
  ⟨Go.Proofs.Try.t43, _, by kernel_rfl, Go.Proofs.Try.underlying43, by kernel_rfl, ⟨_, rfl, by kernel_rfl, by kernel_rfl, by kernel_rfl, by kernel_rfl, of_decide_eq_true (by kernel_rfl)⟩, ⟨_, rfl, by kernel_rfl, by kernel_rfl⟩, of_decide_eq_true (by kernel_rfl), of_decide_eq_true (by kernel_rfl)⟩

theorem g_ti65 : TIOK Go.Proofs.Try.prog 65 ⟨5, (.struct [(0, 3), (1, 3), (2, 3), (3, 3), (4, 3)]), (some Y65), [.pv (.int .i64) 0, .pv (.int .i64) 0, .pv (.int .i64) 0, .pv (.int .i64) 0, .pv (.int .i64) 0], 879609302220⟩ :=
  ⟨Go.Proofs.Try.t65, _, by kernel_rfl, Go.Proofs.Try.underlying65, by kernel_rfl, ⟨_, rfl, by kernel_rfl, by kernel_rfl, by kernel_rfl, by kernel_rfl, of_decide_eq_true (by kernel_rfl)⟩, ⟨_, rfl, by kernel_rfl, by kernel_rfl⟩, of_decide_eq_true (by kernel_rfl), of_decide_eq_true (by kernel_rfl)⟩

theorem g_ti68 : TIOK Go.Proofs.Try.prog 68 ⟨1, (.slice 65), (some (.slice Y65)), [.nils], 1466015503701⟩ :=
  ⟨Go.Proofs.Try.t68, _, by kernel_rfl, Go.Proofs.Try.underlying68, by kernel_rfl, rfl, ⟨_, rfl, by kernel_rfl, by kernel_rfl⟩, of_decide_eq_true (by kernel_rfl), of_decide_eq_true (by kernel_rfl)⟩

theorem g_ti80 : TIOK Go.Proofs.Try.prog 80 ⟨1, (.slice 86), (some (.slice Y65)), [.nils], 1466015503701⟩ :=
  ⟨Go.Proofs.Try.t80, _, by kernel_rfl, Go.Proofs.Try.underlying80, by kernel_rfl, rfl, ⟨_, rfl, by kernel_rfl, by kernel_rfl⟩, of_decide_eq_true (by kernel_rfl), of_decide_eq_true (by kernel_rfl)⟩

theorem g_ti86 : TIOK Go.Proofs.Try.prog 86 ⟨5, (.struct [(0, 3), (1, 3), (2, 3), (3, 3), (4, 3)]), (some Y65), [.pv (.int .i64) 0, .pv (.int .i64) 0, .pv (.int .i64) 0, .pv (.int .i64) 0, .pv (.int .i64) 0], 879609302220⟩ :=
  ⟨Go.Proofs.Try.t86, _, by kernel_rfl, Go.Proofs.Try.underlying86, by kernel_rfl, ⟨_, rfl, by kernel_rfl, by kernel_rfl, by kernel_rfl, by kernel_rfl, of_decide_eq_true (by kernel_rfl)⟩, ⟨_, rfl, by kernel_rfl, by kernel_rfl⟩, of_decide_eq_true (by kernel_rfl), of_decide_eq_true (by kernel_rfl)⟩

theorem g_tisOK : ∀ p ∈ g_tis, TIOK Go.Proofs.Try.prog p.1 p.2 := (all_cons g_ti3 (all_cons g_ti4 (all_cons g_ti30 (all_cons g_ti32 (all_cons g_ti34 (all_cons g_ti39 (all_cons g_ti41 (all_cons g_ti43 (all_cons g_ti65 (all_cons g_ti68 (all_cons g_ti80 (all_cons g_ti86 all_nil))))))))))))

theorem g_wide : Go.Proofs.Try.prog.follows .mixedOrders = true := by kernel_rfl

/-! ### loop.example/g01924/laws.szVersionS -/

noncomputable def g_C65 : Cfg := ⟨g_tis, [], []⟩

theorem g_HC65 : CfgOK Go.Proofs.Try.prog g_C65 := ⟨info_ok g_tisOK, all_nil, g_wide⟩

/-- loop.example/g01924/laws.szVersionS -/
noncomputable def g_S65 (a0 : (List (den Y65))) (left1 : Int) : Option (den (.prod .i .unit)) :=
  bif (decide ((IntKind.i64.wrap (left1 - ((a0.length : Nat) : Int))) < 0)) then
    some ((-1), ())
  else
    some ((IntKind.i64.wrap (left1 - ((a0.length : Nat) : Int))), ())

noncomputable def g_Ent65 : Ent := ⟨65, (.prod (.slice Y65) (.prod .i .unit)), (.prod .i .unit), fun x => g_S65 x.1 x.2.1⟩

theorem g_VC65 : ∀ x : den (.prod (.slice Y65) (.prod .i .unit)), vcall g_C65 Go.Proofs.Try.f65 (.prod (.slice Y65) (.prod .i .unit)) (.prod .i .unit) x = g_S65 x.1 x.2.1 := fun x => by kernel_rfl

theorem g_OK65 : EntOK Go.Proofs.Try.prog g_Ent65 := EntOK.of_vcall g_HC65 Go.Proofs.Try.func65
  (body_loops (by kernel_rfl) (loops_all 0 (by kernel_rfl) fun k hk => absurd hk (Nat.not_lt_zero k)))
  (by kernel_rfl) (by kernel_rfl) g_VC65

/-! ### loop.example/g01924/laws.szVersionSS -/

noncomputable def g_L50_0 (a' : (List (List (den Y65)))) (left' : Int) (i' : Int) (R : Type) (K : (Int × Int) ⊕ ((Int) ⊕ (Int)) → Option R) : Option R :=
  bif (decide (i' < ((a'.length : Nat) : Int))) then
    (lAt a' i').bind fun e1 =>
    (g_S65 e1 (left')).bind fun r2 =>
    bif (decide (r2.1 < 0)) then
      K (.inr (.inl r2.1))
    else
      K (.inl (r2.1, (IntKind.i64.wrap (i' + 1))))
  else
    K (.inr (.inr (left')))

theorem g_L50_0_nat (a' : (List (List (den Y65)))) (left' : Int) (i' : Int) (R : Type) (K : (Int × Int) ⊕ ((Int) ⊕ (Int)) → Option R) : g_L50_0 a' left' i' R K = (g_L50_0 a' left' i' _ some).bind K := by
  unfold g_L50_0
  repeat' first | exact nat_none | exact nat_some | apply nat_bif | (refine nat_bind fun _ => ?_) | apply nat_ite | (refine nat_sum (fun _ => ?_) fun _ => ?_) | rfl

def g_T50_0 : Tmpl := ⟨(.slot (.slice (.slice Y65)) (.slot .i (.junk (.junk (.junk (.slot .i (.junk (.junk (.junk (.junk (.junk (.junk (.junk (.junk (.junk (.junk (.junk (.junk (.junk (.junk (.junk (.junk (.junk (.junk (.junk (.junk (.junk .nil))))))))))))))))))))))))))), .nil⟩

abbrev g_I50_0 : Type := (List (List (den Y65)))
abbrev g_V50_0 : Type := Int × Int
abbrev g_X50_0 : Type := (Int) ⊕ (Int)

def g_M50_0 : g_I50_0 → g_V50_0 → den g_T50_0.ty := fun I v => (I, v.1, v.2, ())

def g_P50_0 : den g_T50_0.ty → g_I50_0 × g_V50_0 := fun x => (x.1, (x.2.1, x.2.2.1))

noncomputable def g_D50_0 : g_I50_0 → g_V50_0 → (R : Type) → ((g_V50_0 ⊕ g_X50_0) → Option R) → Option R := fun I v R K => g_L50_0 I v.1 v.2 R K

def g_E50_0 : g_I50_0 → g_X50_0 → (R : Type) → (Ex → St → Option R) → Option R := fun I p R K => sumC p (fun a => K .ret ⟨[.junk, (.pv .i a), .junk, .junk, (.pv .i (-1)), .junk, .junk, .junk, .junk, .junk, .junk, .junk, .junk, .junk, .junk, .junk, .junk, .junk, .junk, .junk, .junk, .junk, .junk, .junk, .junk, .junk, .junk], []⟩) (fun b => K (.exit 0) ⟨[.junk, (.pv .i b), .junk, .junk, .junk, .junk, .junk, .junk, .junk, .junk, .junk, .junk, .junk, .junk, .junk, .junk, .junk, .junk, .junk, .junk, .junk, .junk, .junk, .junk, .junk, .junk, .junk], []⟩)

def g_K50_0 : g_I50_0 → g_X50_0 → Ex × St := fun I p => sumC p (fun a => (.ret, ⟨[.junk, (.pv .i a), .junk, .junk, (.pv .i (-1)), .junk, .junk, .junk, .junk, .junk, .junk, .junk, .junk, .junk, .junk, .junk, .junk, .junk, .junk, .junk, .junk, .junk, .junk, .junk, .junk, .junk, .junk], []⟩)) (fun b => ((.exit 0), ⟨[.junk, (.pv .i b), .junk, .junk, .junk, .junk, .junk, .junk, .junk, .junk, .junk, .junk, .junk, .junk, .junk, .junk, .junk, .junk, .junk, .junk, .junk, .junk, .junk, .junk, .junk, .junk, .junk], []⟩))

noncomputable def g_F50_0 : LoopFn := fun s R K => (Tmpl.read g_T50_0 s).bind fun x => (iter (fun v => g_D50_0 (g_P50_0 x).1 v _ some) (g_P50_0 x).2).bind fun p => g_E50_0 (g_P50_0 x).1 p R K

noncomputable def g_C50 : Cfg := ⟨g_tis, [g_Ent65], [(5, g_F50_0)]⟩

theorem g_HC50 : CfgOK Go.Proofs.Try.prog g_C50 := ⟨info_ok g_tisOK, (all_cons g_OK65 all_nil), g_wide⟩

theorem g_lk50_0 : ∀ F, ((g_C50).ann.find? fun x => x.1 == firstId ((loopsOf (codeOf Go.Proofs.Try.f50)).getD 0 .skip)).map (·.2) = some F → LoopOK Go.Proofs.Try.prog ((loopsOf (codeOf Go.Proofs.Try.f50)).getD 0 .skip) F := by
  refine lookup_ok (show ((g_C50).ann.find? fun x => x.1 == firstId ((loopsOf (codeOf Go.Proofs.Try.f50)).getD 0 .skip)).map (·.2) = some g_F50_0 from by kernel_rfl) ?_
  exact loop_ok g_HC50 (loops_all 0 (by kernel_rfl) fun k hk => absurd hk (Nat.not_lt_zero k)) g_T50_0 [1, 4] g_M50_0 g_P50_0 (fun x => rfl) g_D50_0
    (fun I v R K => g_L50_0_nat _ _ _ R K) g_E50_0 g_K50_0 (fun I p R K => by
      rcases p with p | p <;> rfl) (fun I v => by kernel_rfl)

/-- loop.example/g01924/laws.szVersionSS -/
noncomputable def g_S50 (a0 : (List (List (den Y65)))) (left1 : Int) : Option (den (.prod .i .unit)) :=
  bif (decide ((IntKind.i64.wrap (left1 - ((a0.length : Nat) : Int))) < 0)) then
    some ((-1), ())
  else
    (iter (fun v => g_L50_0 a0 v.1 v.2 _ some) ((IntKind.i64.wrap (left1 - ((a0.length : Nat) : Int))), 0)).bind fun q3 =>
    sumC q3
      (fun a4 =>
        some ((-1), ()))
      (fun b5 =>
        some (b5, ()))

noncomputable def g_Ent50 : Ent := ⟨50, (.prod (.slice (.slice Y65)) (.prod .i .unit)), (.prod .i .unit), fun x => g_S50 x.1 x.2.1⟩

theorem g_VC50 : ∀ x : den (.prod (.slice (.slice Y65)) (.prod .i .unit)), vcall g_C50 Go.Proofs.Try.f50 (.prod (.slice (.slice Y65)) (.prod .i .unit)) (.prod .i .unit) x = g_S50 x.1 x.2.1 := fun x => by kernel_rfl

theorem g_OK50 : EntOK Go.Proofs.Try.prog g_Ent50 := EntOK.of_vcall g_HC50 Go.Proofs.Try.func50
  (body_loops (by kernel_rfl) (loops_all 1 (by kernel_rfl) (fun k hk => match k, hk with
    | 0, _ => g_lk50_0)))
  (by kernel_rfl) (by kernel_rfl) g_VC50

/-! ### loop.example/g01924/laws.szStore -/

noncomputable def g_C35 : Cfg := ⟨g_tis, [g_Ent50], []⟩

theorem g_HC35 : CfgOK Go.Proofs.Try.prog g_C35 := ⟨info_ok g_tisOK, (all_cons g_OK50 all_nil), g_wide⟩

/-- loop.example/g01924/laws.szStore -/
noncomputable def g_S35 (a0 : (den Y41)) (left1 : Int) : Option (den (.prod .i .unit)) :=
  (g_S50 a0.1 left1).bind fun r1 =>
  bif (decide (r1.1 < 0)) then
    some ((-1), ())
  else
    some (r1.1, ())

noncomputable def g_Ent35 : Ent := ⟨35, (.prod Y41 (.prod .i .unit)), (.prod .i .unit), fun x => g_S35 x.1 x.2.1⟩

theorem g_VC35 : ∀ x : den (.prod Y41 (.prod .i .unit)), vcall g_C35 Go.Proofs.Try.f35 (.prod Y41 (.prod .i .unit)) (.prod .i .unit) x = g_S35 x.1 x.2.1 := fun x => by kernel_rfl

theorem g_OK35 : EntOK Go.Proofs.Try.prog g_Ent35 := EntOK.of_vcall g_HC35 Go.Proofs.Try.func35
  (body_loops (by kernel_rfl) (loops_all 0 (by kernel_rfl) fun k hk => absurd hk (Nat.not_lt_zero k)))
  (by kernel_rfl) (by kernel_rfl) g_VC35

/-! ### loop.example/g01924/laws.szReplica -/

noncomputable def g_C18 : Cfg := ⟨g_tis, [g_Ent35], []⟩

theorem g_HC18 : CfgOK Go.Proofs.Try.prog g_C18 := ⟨info_ok g_tisOK, (all_cons g_OK35 all_nil), g_wide⟩

/-- loop.example/g01924/laws.szReplica -/
noncomputable def g_S18 (a0 : (den Y43)) (left1 : Int) : Option (den (.prod .i .unit)) :=
  (g_S35 a0.2.2.1 left1).bind fun r1 =>
  bif (decide (r1.1 < 0)) then
    some ((-1), ())
  else
    some (r1.1, ())

noncomputable def g_Ent18 : Ent := ⟨18, (.prod Y43 (.prod .i .unit)), (.prod .i .unit), fun x => g_S18 x.1 x.2.1⟩

theorem g_VC18 : ∀ x : den (.prod Y43 (.prod .i .unit)), vcall g_C18 Go.Proofs.Try.f18 (.prod Y43 (.prod .i .unit)) (.prod .i .unit) x = g_S18 x.1 x.2.1 := fun x => by kernel_rfl

theorem g_OK18 : EntOK Go.Proofs.Try.prog g_Ent18 := EntOK.of_vcall g_HC18 Go.Proofs.Try.func18
  (body_loops (by kernel_rfl) (loops_all 0 (by kernel_rfl) fun k hk => absurd hk (Nat.not_lt_zero k)))
  (by kernel_rfl) (by kernel_rfl) g_VC18

/-! ### loop.example/g01924/laws.toVersion -/

noncomputable def g_C72 : Cfg := ⟨g_tis, [], []⟩

theorem g_HC72 : CfgOK Go.Proofs.Try.prog g_C72 := ⟨info_ok g_tisOK, all_nil, g_wide⟩

/-- loop.example/g01924/laws.toVersion -/
noncomputable def g_S72 (a0 : (den Y65)) : Option (den (.prod Y65 .unit)) :=
  some (a0, ())

noncomputable def g_Ent72 : Ent := ⟨72, (.prod Y65 .unit), (.prod Y65 .unit), fun x => g_S72 x.1⟩

theorem g_VC72 : ∀ x : den (.prod Y65 .unit), vcall g_C72 Go.Proofs.Try.f72 (.prod Y65 .unit) (.prod Y65 .unit) x = g_S72 x.1 := fun x => by kernel_rfl

theorem g_OK72 : EntOK Go.Proofs.Try.prog g_Ent72 := EntOK.of_vcall g_HC72 Go.Proofs.Try.func72
  (body_loops (by kernel_rfl) (loops_all 0 (by kernel_rfl) fun k hk => absurd hk (Nat.not_lt_zero k)))
  (by kernel_rfl) (by kernel_rfl) g_VC72

/-! ### loop.example/g01924/laws.toVersionS -/

noncomputable def g_L66_0 (a' : (List (den Y65))) (i' : Int) (out' : (List (den Y65))) (R : Type) (K : (Int × (List (den Y65))) ⊕ (((List (den Y65)))) → Option R) : Option R :=
  bif (decide (i' < ((a'.length : Nat) : Int))) then
    (lAt a' i').bind fun e1 =>
    (g_S72 e1).bind fun r2 =>
    if 0 ≤ i' ∧ i' < ((out'.length : Nat) : Int) then
      (out'[(i').toNat]?).bind fun e3 =>
      K (.inl ((IntKind.i64.wrap (i' + 1)), (out'.set (i').toNat r2.1)))
    else none
  else
    K (.inr (out'))

theorem g_L66_0_nat (a' : (List (den Y65))) (i' : Int) (out' : (List (den Y65))) (R : Type) (K : (Int × (List (den Y65))) ⊕ (((List (den Y65)))) → Option R) : g_L66_0 a' i' out' R K = (g_L66_0 a' i' out' _ some).bind K := by
  unfold g_L66_0
  repeat' first | exact nat_none | exact nat_some | apply nat_bif | (refine nat_bind fun _ => ?_) | apply nat_ite | (refine nat_sum (fun _ => ?_) fun _ => ?_) | rfl

def g_T66_0 : Tmpl := ⟨(.slot (.slice Y65) (.junk (.junk (.own 0 (.slot .i (.junk (.junk (.junk (.junk (.junk (.junk (.junk (.junk (.junk (.junk (.junk (.junk (.junk (.junk (.junk (.junk (.junk (.junk .nil))))))))))))))))))))))), (.lst Y65 .nil)⟩

abbrev g_I66_0 : Type := (List (den Y65))
abbrev g_V66_0 : Type := Int × (List (den Y65))
abbrev g_X66_0 : Type := ((List (den Y65)))

def g_M66_0 : g_I66_0 → g_V66_0 → den g_T66_0.ty := fun I v => (I, v.1, v.2, ())

def g_P66_0 : den g_T66_0.ty → g_I66_0 × g_V66_0 := fun x => (x.1, (x.2.1, x.2.2.1))

noncomputable def g_D66_0 : g_I66_0 → g_V66_0 → (R : Type) → ((g_V66_0 ⊕ g_X66_0) → Option R) → Option R := fun I v R K => g_L66_0 I v.1 v.2 R K

def g_E66_0 : g_I66_0 → g_X66_0 → (R : Type) → (Ex → St → Option R) → Option R := fun I p R K => K (.exit 0) ⟨[.junk, .junk, .junk, (.own 0 none), .junk, .junk, .junk, .junk, .junk, .junk, .junk, .junk, .junk, .junk, .junk, .junk, .junk, .junk, .junk, .junk, .junk, .junk, .junk], [some (.lst Y65 p)]⟩

def g_K66_0 : g_I66_0 → g_X66_0 → Ex × St := fun I p => ((.exit 0), ⟨[.junk, .junk, .junk, (.own 0 none), .junk, .junk, .junk, .junk, .junk, .junk, .junk, .junk, .junk, .junk, .junk, .junk, .junk, .junk, .junk, .junk, .junk, .junk, .junk], [some (.lst Y65 p)]⟩)

noncomputable def g_F66_0 : LoopFn := fun s R K => (Tmpl.read g_T66_0 s).bind fun x => (iter (fun v => g_D66_0 (g_P66_0 x).1 v _ some) (g_P66_0 x).2).bind fun p => g_E66_0 (g_P66_0 x).1 p R K

noncomputable def g_C66 : Cfg := ⟨g_tis, [g_Ent72], [(3, g_F66_0)]⟩

theorem g_HC66 : CfgOK Go.Proofs.Try.prog g_C66 := ⟨info_ok g_tisOK, (all_cons g_OK72 all_nil), g_wide⟩

theorem g_lk66_0 : ∀ F, ((g_C66).ann.find? fun x => x.1 == firstId ((loopsOf (codeOf Go.Proofs.Try.f66)).getD 0 .skip)).map (·.2) = some F → LoopOK Go.Proofs.Try.prog ((loopsOf (codeOf Go.Proofs.Try.f66)).getD 0 .skip) F := by
  refine lookup_ok (show ((g_C66).ann.find? fun x => x.1 == firstId ((loopsOf (codeOf Go.Proofs.Try.f66)).getD 0 .skip)).map (·.2) = some g_F66_0 from by kernel_rfl) ?_
  exact loop_ok g_HC66 (loops_all 0 (by kernel_rfl) fun k hk => absurd hk (Nat.not_lt_zero k)) g_T66_0 [3] g_M66_0 g_P66_0 (fun x => rfl) g_D66_0
    (fun I v R K => g_L66_0_nat _ _ _ R K) g_E66_0 g_K66_0 (fun I p R K => rfl) (fun I v => by kernel_rfl)

/-- loop.example/g01924/laws.toVersionS -/
noncomputable def g_S66 (a0 : (List (den Y65))) : Option (den (.prod (.slice Y65) .unit)) :=
  if 0 ≤ ((a0.length : Nat) : Int) ∧ ((a0.length : Nat) : Int) ≤ ((a0.length : Nat) : Int) ∧ ((a0.length : Nat) : Int) ≤ 879609302220 then
    (iter (fun v => g_L66_0 a0 v.1 v.2 _ some) (0, (List.replicate (((a0.length : Nat) : Int) : Int).toNat ((0, 0, 0, 0, 0, ()) : (den Y65))))).bind fun q4 =>
    some (q4, ())
  else none

noncomputable def g_Ent66 : Ent := ⟨66, (.prod (.slice Y65) .unit), (.prod (.slice Y65) .unit), fun x => g_S66 x.1⟩

theorem g_VC66 : ∀ x : den (.prod (.slice Y65) .unit), vcall g_C66 Go.Proofs.Try.f66 (.prod (.slice Y65) .unit) (.prod (.slice Y65) .unit) x = g_S66 x.1 := fun x => by kernel_rfl

theorem g_OK66 : EntOK Go.Proofs.Try.prog g_Ent66 := EntOK.of_vcall g_HC66 Go.Proofs.Try.func66
  (body_loops (by kernel_rfl) (loops_all 1 (by kernel_rfl) (fun k hk => match k, hk with
    | 0, _ => g_lk66_0)))
  (by kernel_rfl) (by kernel_rfl) g_VC66

/-! ### loop.example/g01924/laws.toVersionSS -/

noncomputable def g_L52_0 (a' : (List (List (den Y65)))) (i' : Int) (out' : (List (List (den Y65)))) (R : Type) (K : (Int × (List (List (den Y65)))) ⊕ (((List (List (den Y65))))) → Option R) : Option R :=
  bif (decide (i' < ((a'.length : Nat) : Int))) then
    (lAt a' i').bind fun e1 =>
    (g_S66 e1).bind fun r2 =>
    if 0 ≤ i' ∧ i' < ((out'.length : Nat) : Int) then
      (out'[(i').toNat]?).bind fun e3 =>
      K (.inl ((IntKind.i64.wrap (i' + 1)), (out'.set (i').toNat r2.1)))
    else none
  else
    K (.inr (out'))

theorem g_L52_0_nat (a' : (List (List (den Y65)))) (i' : Int) (out' : (List (List (den Y65)))) (R : Type) (K : (Int × (List (List (den Y65)))) ⊕ (((List (List (den Y65))))) → Option R) : g_L52_0 a' i' out' R K = (g_L52_0 a' i' out' _ some).bind K := by
  unfold g_L52_0
  repeat' first | exact nat_none | exact nat_some | apply nat_bif | (refine nat_bind fun _ => ?_) | apply nat_ite | (refine nat_sum (fun _ => ?_) fun _ => ?_) | rfl

def g_T52_0 : Tmpl := ⟨(.slot (.slice (.slice Y65)) (.junk (.junk (.own 0 (.slot .i (.junk (.junk (.junk (.junk (.junk (.junk (.junk (.junk (.junk (.junk (.junk (.junk (.junk (.junk (.junk (.junk (.junk (.junk .nil))))))))))))))))))))))), (.lst (.slice Y65) .nil)⟩

abbrev g_I52_0 : Type := (List (List (den Y65)))
abbrev g_V52_0 : Type := Int × (List (List (den Y65)))
abbrev g_X52_0 : Type := ((List (List (den Y65))))

def g_M52_0 : g_I52_0 → g_V52_0 → den g_T52_0.ty := fun I v => (I, v.1, v.2, ())

def g_P52_0 : den g_T52_0.ty → g_I52_0 × g_V52_0 := fun x => (x.1, (x.2.1, x.2.2.1))

noncomputable def g_D52_0 : g_I52_0 → g_V52_0 → (R : Type) → ((g_V52_0 ⊕ g_X52_0) → Option R) → Option R := fun I v R K => g_L52_0 I v.1 v.2 R K

def g_E52_0 : g_I52_0 → g_X52_0 → (R : Type) → (Ex → St → Option R) → Option R := fun I p R K => K (.exit 0) ⟨[.junk, .junk, .junk, (.own 0 none), .junk, .junk, .junk, .junk, .junk, .junk, .junk, .junk, .junk, .junk, .junk, .junk, .junk, .junk, .junk, .junk, .junk, .junk, .junk], [some (.lst (.slice Y65) p)]⟩

def g_K52_0 : g_I52_0 → g_X52_0 → Ex × St := fun I p => ((.exit 0), ⟨[.junk, .junk, .junk, (.own 0 none), .junk, .junk, .junk, .junk, .junk, .junk, .junk, .junk, .junk, .junk, .junk, .junk, .junk, .junk, .junk, .junk, .junk, .junk, .junk], [some (.lst (.slice Y65) p)]⟩)

noncomputable def g_F52_0 : LoopFn := fun s R K => (Tmpl.read g_T52_0 s).bind fun x => (iter (fun v => g_D52_0 (g_P52_0 x).1 v _ some) (g_P52_0 x).2).bind fun p => g_E52_0 (g_P52_0 x).1 p R K

noncomputable def g_C52 : Cfg := ⟨g_tis, [g_Ent66], [(3, g_F52_0)]⟩

theorem g_HC52 : CfgOK Go.Proofs.Try.prog g_C52 := ⟨info_ok g_tisOK, (all_cons g_OK66 all_nil), g_wide⟩

theorem g_lk52_0 : ∀ F, ((g_C52).ann.find? fun x => x.1 == firstId ((loopsOf (codeOf Go.Proofs.Try.f52)).getD 0 .skip)).map (·.2) = some F → LoopOK Go.Proofs.Try.prog ((loopsOf (codeOf Go.Proofs.Try.f52)).getD 0 .skip) F := by
  refine lookup_ok (show ((g_C52).ann.find? fun x => x.1 == firstId ((loopsOf (codeOf Go.Proofs.Try.f52)).getD 0 .skip)).map (·.2) = some g_F52_0 from by kernel_rfl) ?_
  exact loop_ok g_HC52 (loops_all 0 (by kernel_rfl) fun k hk => absurd hk (Nat.not_lt_zero k)) g_T52_0 [3] g_M52_0 g_P52_0 (fun x => rfl) g_D52_0
    (fun I v R K => g_L52_0_nat _ _ _ R K) g_E52_0 g_K52_0 (fun I p R K => rfl) (fun I v => by kernel_rfl)

/-- loop.example/g01924/laws.toVersionSS -/
noncomputable def g_S52 (a0 : (List (List (den Y65)))) : Option (den Y41) :=
  if 0 ≤ ((a0.length : Nat) : Int) ∧ ((a0.length : Nat) : Int) ≤ ((a0.length : Nat) : Int) ∧ ((a0.length : Nat) : Int) ≤ 1466015503701 then
    (iter (fun v => g_L52_0 a0 v.1 v.2 _ some) (0, (List.replicate (((a0.length : Nat) : Int) : Int).toNat []))).bind fun q4 =>
    some (q4, ())
  else none

noncomputable def g_Ent52 : Ent := ⟨52, Y41, Y41, fun x => g_S52 x.1⟩

theorem g_VC52 : ∀ x : den Y41, vcall g_C52 Go.Proofs.Try.f52 Y41 Y41 x = g_S52 x.1 := fun x => by kernel_rfl

theorem g_OK52 : EntOK Go.Proofs.Try.prog g_Ent52 := EntOK.of_vcall g_HC52 Go.Proofs.Try.func52
  (body_loops (by kernel_rfl) (loops_all 1 (by kernel_rfl) (fun k hk => match k, hk with
    | 0, _ => g_lk52_0)))
  (by kernel_rfl) (by kernel_rfl) g_VC52

/-! ### loop.example/g01924/laws.toStore -/

noncomputable def g_C37 : Cfg := ⟨g_tis, [g_Ent52], []⟩

theorem g_HC37 : CfgOK Go.Proofs.Try.prog g_C37 := ⟨info_ok g_tisOK, (all_cons g_OK52 all_nil), g_wide⟩

/-- loop.example/g01924/laws.toStore -/
noncomputable def g_S37 (a0 : (den Y41)) : Option (den (.prod Y41 .unit)) :=
  (g_S52 a0.1).bind fun r1 =>
  some (r1, ())

noncomputable def g_Ent37 : Ent := ⟨37, (.prod Y41 .unit), (.prod Y41 .unit), fun x => g_S37 x.1⟩

theorem g_VC37 : ∀ x : den (.prod Y41 .unit), vcall g_C37 Go.Proofs.Try.f37 (.prod Y41 .unit) (.prod Y41 .unit) x = g_S37 x.1 := fun x => by kernel_rfl

theorem g_OK37 : EntOK Go.Proofs.Try.prog g_Ent37 := EntOK.of_vcall g_HC37 Go.Proofs.Try.func37
  (body_loops (by kernel_rfl) (loops_all 0 (by kernel_rfl) fun k hk => absurd hk (Nat.not_lt_zero k)))
  (by kernel_rfl) (by kernel_rfl) g_VC37

/-! ### loop.example/g01924/laws.toReplica -/

noncomputable def g_C20 : Cfg := ⟨g_tis, [g_Ent37], []⟩

theorem g_HC20 : CfgOK Go.Proofs.Try.prog g_C20 := ⟨info_ok g_tisOK, (all_cons g_OK37 all_nil), g_wide⟩

/-- loop.example/g01924/laws.toReplica -/
noncomputable def g_S20 (a0 : (den Y43)) : Option (den (.prod Y43 .unit)) :=
  (g_S37 a0.2.2.1).bind fun r1 =>
  some ((a0.1, a0.2.1, r1.1, ()), ())

noncomputable def g_Ent20 : Ent := ⟨20, (.prod Y43 .unit), (.prod Y43 .unit), fun x => g_S20 x.1⟩

theorem g_VC20 : ∀ x : den (.prod Y43 .unit), vcall g_C20 Go.Proofs.Try.f20 (.prod Y43 .unit) (.prod Y43 .unit) x = g_S20 x.1 := fun x => by kernel_rfl

theorem g_OK20 : EntOK Go.Proofs.Try.prog g_Ent20 := EntOK.of_vcall g_HC20 Go.Proofs.Try.func20
  (body_loops (by kernel_rfl) (loops_all 0 (by kernel_rfl) fun k hk => absurd hk (Nat.not_lt_zero k)))
  (by kernel_rfl) (by kernel_rfl) g_VC20

/-! ### loop.example/g01924/spec.l1In -/

noncomputable def g_C40 : Cfg := ⟨g_tis, [], []⟩

theorem g_HC40 : CfgOK Go.Proofs.Try.prog g_C40 := ⟨info_ok g_tisOK, all_nil, g_wide⟩

/-- loop.example/g01924/spec.l1In -/
noncomputable def g_S40 (x0 : Int) (low1 : Int) (high2 : Int) : Option (den (.prod .bool .unit)) :=
  bif (decide (x0 ≥ low1)) then
    some ((decide (x0 ≤ high2)), ())
  else
    some (false, ())

noncomputable def g_Ent40 : Ent := ⟨40, (.prod .i (.prod .i (.prod .i .unit))), (.prod .bool .unit), fun x => g_S40 x.1 x.2.1 x.2.2.1⟩

theorem g_VC40 : ∀ x : den (.prod .i (.prod .i (.prod .i .unit))), vcall g_C40 Go.Proofs.Try.f40 (.prod .i (.prod .i (.prod .i .unit))) (.prod .bool .unit) x = g_S40 x.1 x.2.1 x.2.2.1 := fun x => by kernel_rfl

theorem g_OK40 : EntOK Go.Proofs.Try.prog g_Ent40 := EntOK.of_vcall g_HC40 Go.Proofs.Try.func40
  (body_loops (by kernel_rfl) (loops_all 0 (by kernel_rfl) fun k hk => absurd hk (Nat.not_lt_zero k)))
  (by kernel_rfl) (by kernel_rfl) g_VC40

/-! ### loop.example/g01924/spec.IsValidVersion -/

noncomputable def g_C68 : Cfg := ⟨g_tis, [g_Ent40], []⟩

theorem g_HC68 : CfgOK Go.Proofs.Try.prog g_C68 := ⟨info_ok g_tisOK, (all_cons g_OK40 all_nil), g_wide⟩

/-- loop.example/g01924/spec.IsValidVersion -/
noncomputable def g_S68 (v_0 : (den Y65)) : Option (den (.prod .bool .unit)) :=
  (g_S40 v_0.2.1 (-1) 99).bind fun r1 =>
  bif (!r1.1) then
    some (false, ())
  else
    (g_S40 v_0.2.2.1 0 999).bind fun r2 =>
    bif (!r2.1) then
      some (false, ())
    else
      (g_S40 v_0.2.2.2.1 v_0.2.2.1 999).bind fun r3 =>
      bif (!r3.1) then
        some (false, ())
      else
        (g_S40 v_0.2.2.2.2.1 1 1000).bind fun r4 =>
        bif (!r4.1) then
          some (false, ())
        else
          bif (v_0.2.2.1 == 0) then
            bif (v_0.1 == 0) then
              some ((v_0.2.1 == (-1)), ())
            else
              some (false, ())
          else
            (g_S40 v_0.1 1 9).bind fun r5 =>
            some (r5.1, ())

noncomputable def g_Ent68 : Ent := ⟨68, (.prod Y65 .unit), (.prod .bool .unit), fun x => g_S68 x.1⟩

theorem g_VC68 : ∀ x : den (.prod Y65 .unit), vcall g_C68 Go.Proofs.Try.f68 (.prod Y65 .unit) (.prod .bool .unit) x = g_S68 x.1 := fun x => by kernel_rfl

theorem g_OK68 : EntOK Go.Proofs.Try.prog g_Ent68 := EntOK.of_vcall g_HC68 Go.Proofs.Try.func68
  (body_loops (by kernel_rfl) (loops_all 0 (by kernel_rfl) fun k hk => absurd hk (Nat.not_lt_zero k)))
  (by kernel_rfl) (by kernel_rfl) g_VC68

/-! ### loop.example/g01924/spec.IsValidChain -/

noncomputable def g_L55_0 (l' : (List (den Y65))) (i' : Int) (R : Type) (K : (Int) ⊕ ((Unit) ⊕ (Unit)) → Option R) : Option R :=
  bif (decide (i' < ((l'.length : Nat) : Int))) then
    (lAt l' i').bind fun e1 =>
    (g_S68 e1).bind fun r2 =>
    bif (!r2.1) then
      K (.inr (.inl ()))
    else
      bif (decide ((IntKind.i64.wrap (i' + 1)) < ((l'.length : Nat) : Int))) then
        (lAt l' i').bind fun e3 =>
        (lAt l' (IntKind.i64.wrap (i' + 1))).bind fun e4 =>
        bif (decide (e3.2.2.1 ≥ e4.2.2.1)) then
          K (.inr (.inl ()))
        else
          (lAt l' i').bind fun e5 =>
          (lAt l' (IntKind.i64.wrap (i' + 1))).bind fun e6 =>
          bif (decide (e5.2.2.2.2.1 > e6.2.2.1)) then
            K (.inr (.inl ()))
          else
            K (.inl (IntKind.i64.wrap (i' + 1)))
      else
        K (.inl (IntKind.i64.wrap (i' + 1)))
  else
    K (.inr (.inr ()))

theorem g_L55_0_nat (l' : (List (den Y65))) (i' : Int) (R : Type) (K : (Int) ⊕ ((Unit) ⊕ (Unit)) → Option R) : g_L55_0 l' i' R K = (g_L55_0 l' i' _ some).bind K := by
  unfold g_L55_0
  repeat' first | exact nat_none | exact nat_some | apply nat_bif | (refine nat_bind fun _ => ?_) | apply nat_ite | (refine nat_sum (fun _ => ?_) fun _ => ?_) | rfl

def g_T55_0 : Tmpl := ⟨(.slot (.slice Y65) (.junk (.junk (.slot .i (.junk (.junk (.junk (.junk (.junk (.junk (.junk (.junk (.junk (.junk (.junk (.junk (.junk (.junk (.junk (.junk (.junk (.junk (.junk (.junk (.junk (.junk (.junk (.junk (.junk (.junk (.junk (.junk (.junk (.junk (.junk (.junk (.junk (.junk (.junk (.junk (.junk (.junk (.junk (.junk (.junk (.junk (.junk (.junk (.junk (.junk (.junk (.junk (.junk (.junk (.junk (.junk (.junk (.junk (.junk (.junk (.junk (.junk .nil)))))))))))))))))))))))))))))))))))))))))))))))))))))))))))))), .nil⟩

abbrev g_I55_0 : Type := (List (den Y65))
abbrev g_V55_0 : Type := Int
abbrev g_X55_0 : Type := (Unit) ⊕ (Unit)

def g_M55_0 : g_I55_0 → g_V55_0 → den g_T55_0.ty := fun I v => (I, v, ())

def g_P55_0 : den g_T55_0.ty → g_I55_0 × g_V55_0 := fun x => (x.1, x.2.1)

noncomputable def g_D55_0 : g_I55_0 → g_V55_0 → (R : Type) → ((g_V55_0 ⊕ g_X55_0) → Option R) → Option R := fun I v R K => g_L55_0 I v R K

def g_E55_0 : g_I55_0 → g_X55_0 → (R : Type) → (Ex → St → Option R) → Option R := fun I p R K => sumC p (fun a => K .ret ⟨[(.pv (.slice Y65) I), .junk, (.pv .bool false), .junk, .junk, .junk, .junk, .junk, .junk, .junk, .junk, .junk, .junk, .junk, .junk, .junk, .junk, .junk, .junk, .junk, .junk, .junk, .junk, .junk, .junk, .junk, .junk, .junk, .junk, .junk, .junk, .junk, .junk, .junk, .junk, .junk, .junk, .junk, .junk, .junk, .junk, .junk, .junk, .junk, .junk, .junk, .junk, .junk, .junk, .junk, .junk, .junk, .junk, .junk, .junk, .junk, .junk, .junk, .junk, .junk, .junk, .junk], []⟩) (fun b => K (.exit 0) ⟨[(.pv (.slice Y65) I), .junk, .junk, .junk, .junk, .junk, .junk, .junk, .junk, .junk, .junk, .junk, .junk, .junk, .junk, .junk, .junk, .junk, .junk, .junk, .junk, .junk, .junk, .junk, .junk, .junk, .junk, .junk, .junk, .junk, .junk, .junk, .junk, .junk, .junk, .junk, .junk, .junk, .junk, .junk, .junk, .junk, .junk, .junk, .junk, .junk, .junk, .junk, .junk, .junk, .junk, .junk, .junk, .junk, .junk, .junk, .junk, .junk, .junk, .junk, .junk, .junk], []⟩)

def g_K55_0 : g_I55_0 → g_X55_0 → Ex × St := fun I p => sumC p (fun a => (.ret, ⟨[(.pv (.slice Y65) I), .junk, (.pv .bool false), .junk, .junk, .junk, .junk, .junk, .junk, .junk, .junk, .junk, .junk, .junk, .junk, .junk, .junk, .junk, .junk, .junk, .junk, .junk, .junk, .junk, .junk, .junk, .junk, .junk, .junk, .junk, .junk, .junk, .junk, .junk, .junk, .junk, .junk, .junk, .junk, .junk, .junk, .junk, .junk, .junk, .junk, .junk, .junk, .junk, .junk, .junk, .junk, .junk, .junk, .junk, .junk, .junk, .junk, .junk, .junk, .junk, .junk, .junk], []⟩)) (fun b => ((.exit 0), ⟨[(.pv (.slice Y65) I), .junk, .junk, .junk, .junk, .junk, .junk, .junk, .junk, .junk, .junk, .junk, .junk, .junk, .junk, .junk, .junk, .junk, .junk, .junk, .junk, .junk, .junk, .junk, .junk, .junk, .junk, .junk, .junk, .junk, .junk, .junk, .junk, .junk, .junk, .junk, .junk, .junk, .junk, .junk, .junk, .junk, .junk, .junk, .junk, .junk, .junk, .junk, .junk, .junk, .junk, .junk, .junk, .junk, .junk, .junk, .junk, .junk, .junk, .junk, .junk, .junk], []⟩))

noncomputable def g_F55_0 : LoopFn := fun s R K => (Tmpl.read g_T55_0 s).bind fun x => (iter (fun v => g_D55_0 (g_P55_0 x).1 v _ some) (g_P55_0 x).2).bind fun p => g_E55_0 (g_P55_0 x).1 p R K

noncomputable def g_C55 : Cfg := ⟨g_tis, [g_Ent68], [(2, g_F55_0)]⟩

theorem g_HC55 : CfgOK Go.Proofs.Try.prog g_C55 := ⟨info_ok g_tisOK, (all_cons g_OK68 all_nil), g_wide⟩

theorem g_lk55_0 : ∀ F, ((g_C55).ann.find? fun x => x.1 == firstId ((loopsOf (codeOf Go.Proofs.Try.f55)).getD 0 .skip)).map (·.2) = some F → LoopOK Go.Proofs.Try.prog ((loopsOf (codeOf Go.Proofs.Try.f55)).getD 0 .skip) F := by
  refine lookup_ok (show ((g_C55).ann.find? fun x => x.1 == firstId ((loopsOf (codeOf Go.Proofs.Try.f55)).getD 0 .skip)).map (·.2) = some g_F55_0 from by kernel_rfl) ?_
  exact loop_ok g_HC55 (loops_all 0 (by kernel_rfl) fun k hk => absurd hk (Nat.not_lt_zero k)) g_T55_0 [0, 2] g_M55_0 g_P55_0 (fun x => rfl) g_D55_0
    (fun I v R K => g_L55_0_nat _ _ R K) g_E55_0 g_K55_0 (fun I p R K => by
      rcases p with p | p <;> rfl) (fun I v => by kernel_rfl)

/-- loop.example/g01924/spec.IsValidChain -/
noncomputable def g_S55 (l0 : (List (den Y65))) : Option (den (.prod .bool .unit)) :=
  (iter (fun v => g_L55_0 l0 v _ some) (0)).bind fun q7 =>
  sumC q7
    (fun a8 =>
      some (false, ()))
    (fun b9 =>
      bif (decide (((l0.length : Nat) : Int) > 0)) then
        (lAt l0 (IntKind.i64.wrap (((l0.length : Nat) : Int) - 1))).bind fun e10 =>
        some ((e10.2.2.2.2.1 == 1000), ())
      else
        some (false, ()))

noncomputable def g_Ent55 : Ent := ⟨55, (.prod (.slice Y65) .unit), (.prod .bool .unit), fun x => g_S55 x.1⟩

theorem g_VC55 : ∀ x : den (.prod (.slice Y65) .unit), vcall g_C55 Go.Proofs.Try.f55 (.prod (.slice Y65) .unit) (.prod .bool .unit) x = g_S55 x.1 := fun x => by kernel_rfl

theorem g_OK55 : EntOK Go.Proofs.Try.prog g_Ent55 := EntOK.of_vcall g_HC55 Go.Proofs.Try.func55
  (body_loops (by kernel_rfl) (loops_all 1 (by kernel_rfl) (fun k hk => match k, hk with
    | 0, _ => g_lk55_0)))
  (by kernel_rfl) (by kernel_rfl) g_VC55

/-! ### loop.example/g01924/spec.IsValidStore -/

noncomputable def g_L39_0 (s' : (den Y41)) (i' : Int) (R : Type) (K : (Int) ⊕ ((Unit) ⊕ (Unit)) → Option R) : Option R :=
  bif (decide (i' < ((s'.1.length : Nat) : Int))) then
    (lAt s'.1 i').bind fun e1 =>
    (g_S55 e1).bind fun r2 =>
    bif (!r2.1) then
      K (.inr (.inl ()))
    else
      (lAt s'.1 i').bind fun e3 =>
      (lAt e3 0).bind fun e4 =>
      bif (decide (e4.2.2.1 > 0)) then
        (lAt s'.1 i').bind fun e5 =>
        bif (decide (((e5.length : Nat) : Int) > 50)) then
          K (.inr (.inl ()))
        else
          (lAt s'.1 i').bind fun e6 =>
          bif (decide (((e6.length : Nat) : Int) > 50)) then
            K (.inr (.inl ()))
          else
            K (.inl (IntKind.i64.wrap (i' + 1)))
      else
        (lAt s'.1 i').bind fun e7 =>
        bif (decide (((e7.length : Nat) : Int) > 50)) then
          K (.inr (.inl ()))
        else
          K (.inl (IntKind.i64.wrap (i' + 1)))
  else
    K (.inr (.inr ()))

theorem g_L39_0_nat (s' : (den Y41)) (i' : Int) (R : Type) (K : (Int) ⊕ ((Unit) ⊕ (Unit)) → Option R) : g_L39_0 s' i' R K = (g_L39_0 s' i' _ some).bind K := by
  unfold g_L39_0
  repeat' first | exact nat_none | exact nat_some | apply nat_bif | (refine nat_bind fun _ => ?_) | apply nat_ite | (refine nat_sum (fun _ => ?_) fun _ => ?_) | rfl

def g_T39_0 : Tmpl := ⟨(.junk (.ptr 0 0 0 (.junk (.slot .i (.junk (.junk (.junk (.junk (.junk (.junk (.junk (.junk (.junk (.junk (.junk (.junk (.junk (.junk (.junk (.junk (.junk (.junk (.junk (.junk (.junk (.junk (.junk (.junk (.junk (.junk (.junk (.junk (.junk (.junk (.junk (.junk (.junk (.junk (.junk (.junk (.junk (.junk (.junk (.junk (.junk (.junk (.junk (.junk (.junk (.junk (.junk .nil))))))))))))))))))))))))))))))))))))))))))))))))))), (.one Y41 .nil)⟩

abbrev g_I39_0 : Type := (den Y41)
abbrev g_V39_0 : Type := Int
abbrev g_X39_0 : Type := (Unit) ⊕ (Unit)

def g_M39_0 : g_I39_0 → g_V39_0 → den g_T39_0.ty := fun I v => (v, I, ())

def g_P39_0 : den g_T39_0.ty → g_I39_0 × g_V39_0 := fun x => (x.2.1, x.1)

noncomputable def g_D39_0 : g_I39_0 → g_V39_0 → (R : Type) → ((g_V39_0 ⊕ g_X39_0) → Option R) → Option R := fun I v R K => g_L39_0 I v R K

def g_E39_0 : g_I39_0 → g_X39_0 → (R : Type) → (Ex → St → Option R) → Option R := fun I p R K => sumC p (fun a => K .ret ⟨[.junk, (.ptr 0 0 0), (.pv .bool false), .junk, .junk, .junk, .junk, .junk, .junk, .junk, .junk, .junk, .junk, .junk, .junk, .junk, .junk, .junk, .junk, .junk, .junk, .junk, .junk, .junk, .junk, .junk, .junk, .junk, .junk, .junk, .junk, .junk, .junk, .junk, .junk, .junk, .junk, .junk, .junk, .junk, .junk, .junk, .junk, .junk, .junk, .junk, .junk, .junk, .junk, .junk, .junk], [some (.cells 1 [[(.pv (.slice (.slice Y65)) I.1)]])]⟩) (fun b => K (.exit 0) ⟨[.junk, (.ptr 0 0 0), .junk, .junk, .junk, .junk, .junk, .junk, .junk, .junk, .junk, .junk, .junk, .junk, .junk, .junk, .junk, .junk, .junk, .junk, .junk, .junk, .junk, .junk, .junk, .junk, .junk, .junk, .junk, .junk, .junk, .junk, .junk, .junk, .junk, .junk, .junk, .junk, .junk, .junk, .junk, .junk, .junk, .junk, .junk, .junk, .junk, .junk, .junk, .junk, .junk], [some (.cells 1 [[(.pv (.slice (.slice Y65)) I.1)]])]⟩)

def g_K39_0 : g_I39_0 → g_X39_0 → Ex × St := fun I p => sumC p (fun a => (.ret, ⟨[.junk, (.ptr 0 0 0), (.pv .bool false), .junk, .junk, .junk, .junk, .junk, .junk, .junk, .junk, .junk, .junk, .junk, .junk, .junk, .junk, .junk, .junk, .junk, .junk, .junk, .junk, .junk, .junk, .junk, .junk, .junk, .junk, .junk, .junk, .junk, .junk, .junk, .junk, .junk, .junk, .junk, .junk, .junk, .junk, .junk, .junk, .junk, .junk, .junk, .junk, .junk, .junk, .junk, .junk], [some (.cells 1 [[(.pv (.slice (.slice Y65)) I.1)]])]⟩)) (fun b => ((.exit 0), ⟨[.junk, (.ptr 0 0 0), .junk, .junk, .junk, .junk, .junk, .junk, .junk, .junk, .junk, .junk, .junk, .junk, .junk, .junk, .junk, .junk, .junk, .junk, .junk, .junk, .junk, .junk, .junk, .junk, .junk, .junk, .junk, .junk, .junk, .junk, .junk, .junk, .junk, .junk, .junk, .junk, .junk, .junk, .junk, .junk, .junk, .junk, .junk, .junk, .junk, .junk, .junk, .junk, .junk], [some (.cells 1 [[(.pv (.slice (.slice Y65)) I.1)]])]⟩))

noncomputable def g_F39_0 : LoopFn := fun s R K => (Tmpl.read g_T39_0 s).bind fun x => (iter (fun v => g_D39_0 (g_P39_0 x).1 v _ some) (g_P39_0 x).2).bind fun p => g_E39_0 (g_P39_0 x).1 p R K

noncomputable def g_C39 : Cfg := ⟨g_tis, [g_Ent55], [(2, g_F39_0)]⟩

theorem g_HC39 : CfgOK Go.Proofs.Try.prog g_C39 := ⟨info_ok g_tisOK, (all_cons g_OK55 all_nil), g_wide⟩

theorem g_lk39_0 : ∀ F, ((g_C39).ann.find? fun x => x.1 == firstId ((loopsOf (codeOf Go.Proofs.Try.f39)).getD 0 .skip)).map (·.2) = some F → LoopOK Go.Proofs.Try.prog ((loopsOf (codeOf Go.Proofs.Try.f39)).getD 0 .skip) F := by
  refine lookup_ok (show ((g_C39).ann.find? fun x => x.1 == firstId ((loopsOf (codeOf Go.Proofs.Try.f39)).getD 0 .skip)).map (·.2) = some g_F39_0 from by kernel_rfl) ?_
  exact loop_ok g_HC39 (loops_all 0 (by kernel_rfl) fun k hk => absurd hk (Nat.not_lt_zero k)) g_T39_0 [1, 2] g_M39_0 g_P39_0 (fun x => rfl) g_D39_0
    (fun I v R K => g_L39_0_nat _ _ R K) g_E39_0 g_K39_0 (fun I p R K => by
      rcases p with p | p <;> rfl) (fun I v => by kernel_rfl)

/-- loop.example/g01924/spec.IsValidStore -/
noncomputable def g_S39 (s0 : (den Y41)) : Option (den (.prod .bool .unit)) :=
  (iter (fun v => g_L39_0 s0 v _ some) (0)).bind fun q8 =>
  sumC q8
    (fun a9 =>
      some (false, ()))
    (fun b10 =>
      some ((((s0.1.length : Nat) : Int) == 6), ()))

noncomputable def g_Ent39 : Ent := ⟨39, (.prod Y41 .unit), (.prod .bool .unit), fun x => g_S39 x.1⟩

theorem g_VC39 : ∀ x : den (.prod Y41 .unit), vcall g_C39 Go.Proofs.Try.f39 (.prod Y41 .unit) (.prod .bool .unit) x = g_S39 x.1 := fun x => by kernel_rfl

theorem g_OK39 : EntOK Go.Proofs.Try.prog g_Ent39 := EntOK.of_vcall g_HC39 Go.Proofs.Try.func39
  (body_loops (by kernel_rfl) (loops_all 1 (by kernel_rfl) (fun k hk => match k, hk with
    | 0, _ => g_lk39_0)))
  (by kernel_rfl) (by kernel_rfl) g_VC39

/-! ### loop.example/g01924/spec.LastStamp -/

noncomputable def g_L41_1 (i' : Int) (s' : (den Y41)) (n' : Int) (k' : Int) (R : Type) (K : (Int × Int) ⊕ ((Int)) → Option R) : Option R :=
  (lAt s'.1 i').bind fun e2 =>
  bif (decide (k' < ((e2.length : Nat) : Int))) then
    (lAt s'.1 i').bind fun e3 =>
    (lAt e3 k').bind fun e4 =>
    (lAt s'.1 i').bind fun e5 =>
    (lAt e5 k').bind fun e6 =>
    K (.inl ((mx (mx n' e4.2.2.1) e6.2.2.2.1), (IntKind.i64.wrap (k' + 1))))
  else
    K (.inr (n'))

theorem g_L41_1_nat (i' : Int) (s' : (den Y41)) (n' : Int) (k' : Int) (R : Type) (K : (Int × Int) ⊕ ((Int)) → Option R) : g_L41_1 i' s' n' k' R K = (g_L41_1 i' s' n' k' _ some).bind K := by
  unfold g_L41_1
  repeat' first | exact nat_none | exact nat_some | apply nat_bif | (refine nat_bind fun _ => ?_) | apply nat_ite | (refine nat_sum (fun _ => ?_) fun _ => ?_) | rfl

def g_T41_1 : Tmpl := ⟨(.junk (.ptr 0 0 0 (.junk (.slot .i (.slot .i (.slot .i (.junk (.junk (.junk (.junk (.junk (.junk (.junk (.junk (.junk (.junk (.junk (.junk (.junk (.junk (.junk (.junk (.junk (.junk (.junk (.junk (.junk (.junk (.junk (.junk (.junk (.junk (.junk (.junk (.junk (.junk (.junk (.junk (.junk (.junk (.junk (.junk (.junk (.junk (.junk (.junk (.junk (.junk .nil)))))))))))))))))))))))))))))))))))))))))))))))), (.one Y41 .nil)⟩

abbrev g_I41_1 : Type := Int × (den Y41)
abbrev g_V41_1 : Type := Int × Int
abbrev g_X41_1 : Type := (Int)

def g_M41_1 : g_I41_1 → g_V41_1 → den g_T41_1.ty := fun I v => (v.1, I.1, v.2, I.2, ())

def g_P41_1 : den g_T41_1.ty → g_I41_1 × g_V41_1 := fun x => ((x.2.1, x.2.2.2.1), (x.1, x.2.2.1))

noncomputable def g_D41_1 : g_I41_1 → g_V41_1 → (R : Type) → ((g_V41_1 ⊕ g_X41_1) → Option R) → Option R := fun I v R K => g_L41_1 I.1 I.2 v.1 v.2 R K

def g_E41_1 : g_I41_1 → g_X41_1 → (R : Type) → (Ex → St → Option R) → Option R := fun I p R K => K (.exit 2) ⟨[.junk, (.ptr 0 0 0), .junk, (.pv .i p), (.pv .i I.1), .junk, .junk, .junk, .junk, .junk, .junk, .junk, .junk, .junk, .junk, .junk, .junk, .junk, .junk, .junk, .junk, .junk, .junk, .junk, .junk, .junk, .junk, .junk, .junk, .junk, .junk, .junk, .junk, .junk, .junk, .junk, .junk, .junk, .junk, .junk, .junk, .junk, .junk, .junk, .junk, .junk, .junk, .junk], [some (.cells 1 [[(.pv (.slice (.slice Y65)) I.2.1)]])]⟩

def g_K41_1 : g_I41_1 → g_X41_1 → Ex × St := fun I p => ((.exit 2), ⟨[.junk, (.ptr 0 0 0), .junk, (.pv .i p), (.pv .i I.1), .junk, .junk, .junk, .junk, .junk, .junk, .junk, .junk, .junk, .junk, .junk, .junk, .junk, .junk, .junk, .junk, .junk, .junk, .junk, .junk, .junk, .junk, .junk, .junk, .junk, .junk, .junk, .junk, .junk, .junk, .junk, .junk, .junk, .junk, .junk, .junk, .junk, .junk, .junk, .junk, .junk, .junk, .junk], [some (.cells 1 [[(.pv (.slice (.slice Y65)) I.2.1)]])]⟩)

noncomputable def g_F41_1 : LoopFn := fun s R K => (Tmpl.read g_T41_1 s).bind fun x => (iter (fun v => g_D41_1 (g_P41_1 x).1 v _ some) (g_P41_1 x).2).bind fun p => g_E41_1 (g_P41_1 x).1 p R K

noncomputable def g_L41_0 (s' : (den Y41)) (n' : Int) (i' : Int) (R : Type) (K : (Int × Int) ⊕ ((Int)) → Option R) : Option R :=
  bif (decide (i' < ((s'.1.length : Nat) : Int))) then
    (g_S39 (s')).bind fun r1 =>
    bif r1.1 then
      (iter (fun v => g_L41_1 (i') (s') v.1 v.2 _ some) (n', 0)).bind fun q7 =>
      K (.inl (q7, (IntKind.i64.wrap (i' + 1))))
    else
      K (.inr (n'))
  else
    K (.inr (n'))

theorem g_L41_0_nat (s' : (den Y41)) (n' : Int) (i' : Int) (R : Type) (K : (Int × Int) ⊕ ((Int)) → Option R) : g_L41_0 s' n' i' R K = (g_L41_0 s' n' i' _ some).bind K := by
  unfold g_L41_0
  repeat' first | exact nat_none | exact nat_some | apply nat_bif | (refine nat_bind fun _ => ?_) | apply nat_ite | (refine nat_sum (fun _ => ?_) fun _ => ?_) | rfl

def g_T41_0 : Tmpl := ⟨(.junk (.ptr 0 0 0 (.junk (.slot .i (.slot .i (.junk (.junk (.junk (.junk (.junk (.junk (.junk (.junk (.junk (.junk (.junk (.junk (.junk (.junk (.junk (.junk (.junk (.junk (.junk (.junk (.junk (.junk (.junk (.junk (.junk (.junk (.junk (.junk (.junk (.junk (.junk (.junk (.junk (.junk (.junk (.junk (.junk (.junk (.junk (.junk (.junk (.junk (.junk .nil)))))))))))))))))))))))))))))))))))))))))))))))), (.one Y41 .nil)⟩

abbrev g_I41_0 : Type := (den Y41)
abbrev g_V41_0 : Type := Int × Int
abbrev g_X41_0 : Type := (Int)

def g_M41_0 : g_I41_0 → g_V41_0 → den g_T41_0.ty := fun I v => (v.1, v.2, I, ())

def g_P41_0 : den g_T41_0.ty → g_I41_0 × g_V41_0 := fun x => (x.2.2.1, (x.1, x.2.1))

noncomputable def g_D41_0 : g_I41_0 → g_V41_0 → (R : Type) → ((g_V41_0 ⊕ g_X41_0) → Option R) → Option R := fun I v R K => g_L41_0 I v.1 v.2 R K

def g_E41_0 : g_I41_0 → g_X41_0 → (R : Type) → (Ex → St → Option R) → Option R := fun I p R K => K (.exit 0) ⟨[.junk, .junk, .junk, (.pv .i p), .junk, .junk, .junk, .junk, .junk, .junk, .junk, .junk, .junk, .junk, .junk, .junk, .junk, .junk, .junk, .junk, .junk, .junk, .junk, .junk, .junk, .junk, .junk, .junk, .junk, .junk, .junk, .junk, .junk, .junk, .junk, .junk, .junk, .junk, .junk, .junk, .junk, .junk, .junk, .junk, .junk, .junk, .junk, .junk], [some (.cells 1 [[(.pv (.slice (.slice Y65)) I.1)]])]⟩

def g_K41_0 : g_I41_0 → g_X41_0 → Ex × St := fun I p => ((.exit 0), ⟨[.junk, .junk, .junk, (.pv .i p), .junk, .junk, .junk, .junk, .junk, .junk, .junk, .junk, .junk, .junk, .junk, .junk, .junk, .junk, .junk, .junk, .junk, .junk, .junk, .junk, .junk, .junk, .junk, .junk, .junk, .junk, .junk, .junk, .junk, .junk, .junk, .junk, .junk, .junk, .junk, .junk, .junk, .junk, .junk, .junk, .junk, .junk, .junk, .junk], [some (.cells 1 [[(.pv (.slice (.slice Y65)) I.1)]])]⟩)

noncomputable def g_F41_0 : LoopFn := fun s R K => (Tmpl.read g_T41_0 s).bind fun x => (iter (fun v => g_D41_0 (g_P41_0 x).1 v _ some) (g_P41_0 x).2).bind fun p => g_E41_0 (g_P41_0 x).1 p R K

noncomputable def g_C41 : Cfg := ⟨g_tis, [g_Ent39], [(3, g_F41_0), (6, g_F41_1)]⟩

theorem g_HC41 : CfgOK Go.Proofs.Try.prog g_C41 := ⟨info_ok g_tisOK, (all_cons g_OK39 all_nil), g_wide⟩

theorem g_lk41_1 : ∀ F, ((g_C41).ann.find? fun x => x.1 == firstId ((loopsOf (codeOf Go.Proofs.Try.f41)).getD 1 .skip)).map (·.2) = some F → LoopOK Go.Proofs.Try.prog ((loopsOf (codeOf Go.Proofs.Try.f41)).getD 1 .skip) F := by
  refine lookup_ok (show ((g_C41).ann.find? fun x => x.1 == firstId ((loopsOf (codeOf Go.Proofs.Try.f41)).getD 1 .skip)).map (·.2) = some g_F41_1 from by kernel_rfl) ?_
  exact loop_ok g_HC41 (loops_all 0 (by kernel_rfl) fun k hk => absurd hk (Nat.not_lt_zero k)) g_T41_1 [1, 3, 4] g_M41_1 g_P41_1 (fun x => rfl) g_D41_1
    (fun I v R K => g_L41_1_nat _ _ _ _ R K) g_E41_1 g_K41_1 (fun I p R K => rfl) (fun I v => by kernel_rfl)

theorem g_lk41_0 : ∀ F, ((g_C41).ann.find? fun x => x.1 == firstId ((loopsOf (codeOf Go.Proofs.Try.f41)).getD 0 .skip)).map (·.2) = some F → LoopOK Go.Proofs.Try.prog ((loopsOf (codeOf Go.Proofs.Try.f41)).getD 0 .skip) F := by
  refine lookup_ok (show ((g_C41).ann.find? fun x => x.1 == firstId ((loopsOf (codeOf Go.Proofs.Try.f41)).getD 0 .skip)).map (·.2) = some g_F41_0 from by kernel_rfl) ?_
  exact loop_ok g_HC41 (loops_all 1 (by kernel_rfl) fun k hk => match k, hk with
    | 0, _ => by
      rw [show (loopsOf ((loopsOf (codeOf Go.Proofs.Try.f41)).getD 0 .skip)).getD 0 .skip = (loopsOf (codeOf Go.Proofs.Try.f41)).getD 1 .skip from by kernel_rfl]
      exact g_lk41_1) g_T41_0 [3] g_M41_0 g_P41_0 (fun x => rfl) g_D41_0
    (fun I v R K => g_L41_0_nat _ _ _ R K) g_E41_0 g_K41_0 (fun I p R K => rfl) (fun I v => by kernel_rfl)

/-- loop.example/g01924/spec.LastStamp -/
noncomputable def g_S41 (s0 : (den Y41)) : Option (den (.prod .i .unit)) :=
  (iter (fun v => g_L41_0 s0 v.1 v.2 _ some) (0, 0)).bind fun q8 =>
  some (q8, ())

noncomputable def g_Ent41 : Ent := ⟨41, (.prod Y41 .unit), (.prod .i .unit), fun x => g_S41 x.1⟩

theorem g_VC41 : ∀ x : den (.prod Y41 .unit), vcall g_C41 Go.Proofs.Try.f41 (.prod Y41 .unit) (.prod .i .unit) x = g_S41 x.1 := fun x => by kernel_rfl

theorem g_OK41 : EntOK Go.Proofs.Try.prog g_Ent41 := EntOK.of_vcall g_HC41 Go.Proofs.Try.func41
  (body_loops (by kernel_rfl) (loops_all 2 (by kernel_rfl) (fun k hk => match k, hk with
    | 0, _ => g_lk41_0
    | 1, _ => g_lk41_1)))
  (by kernel_rfl) (by kernel_rfl) g_VC41

/-! ### loop.example/g01924/spec.IsValidReplica -/

noncomputable def g_C22 : Cfg := ⟨g_tis, [g_Ent39, g_Ent41, g_Ent40], []⟩

theorem g_HC22 : CfgOK Go.Proofs.Try.prog g_C22 := ⟨info_ok g_tisOK, (all_cons g_OK39 (all_cons g_OK41 (all_cons g_OK40 all_nil))), g_wide⟩

/-- loop.example/g01924/spec.IsValidReplica -/
noncomputable def g_S22 (r0 : (den Y43)) : Option (den (.prod .bool .unit)) :=
  (g_S39 r0.2.2.1).bind fun r1 =>
  bif r1.1 then
    (g_S41 r0.2.2.1).bind fun r2 =>
    (g_S40 r0.1 r2.1 999).bind fun r3 =>
    bif r3.1 then
      (g_S40 r0.2.1 0 r0.1).bind fun r4 =>
      some (r4.1, ())
    else
      some (false, ())
  else
    some (false, ())

noncomputable def g_Ent22 : Ent := ⟨22, (.prod Y43 .unit), (.prod .bool .unit), fun x => g_S22 x.1⟩

theorem g_VC22 : ∀ x : den (.prod Y43 .unit), vcall g_C22 Go.Proofs.Try.f22 (.prod Y43 .unit) (.prod .bool .unit) x = g_S22 x.1 := fun x => by kernel_rfl

theorem g_OK22 : EntOK Go.Proofs.Try.prog g_Ent22 := EntOK.of_vcall g_HC22 Go.Proofs.Try.func22
  (body_loops (by kernel_rfl) (loops_all 0 (by kernel_rfl) fun k hk => absurd hk (Nat.not_lt_zero k)))
  (by kernel_rfl) (by kernel_rfl) g_VC22

/-! ### loop.example/g01924/impl.in -/

noncomputable def g_C43 : Cfg := ⟨g_tis, [], []⟩

theorem g_HC43 : CfgOK Go.Proofs.Try.prog g_C43 := ⟨info_ok g_tisOK, all_nil, g_wide⟩

/-- loop.example/g01924/impl.in -/
noncomputable def g_S43 (n0 : Int) (low1 : Int) (high2 : Int) : Option (den (.prod .bool .unit)) :=
  bif (decide (low1 ≤ n0)) then
    some ((decide (n0 ≤ high2)), ())
  else
    some (false, ())

noncomputable def g_Ent43 : Ent := ⟨43, (.prod .i (.prod .i (.prod .i .unit))), (.prod .bool .unit), fun x => g_S43 x.1 x.2.1 x.2.2.1⟩

theorem g_VC43 : ∀ x : den (.prod .i (.prod .i (.prod .i .unit))), vcall g_C43 Go.Proofs.Try.f43 (.prod .i (.prod .i (.prod .i .unit))) (.prod .bool .unit) x = g_S43 x.1 x.2.1 x.2.2.1 := fun x => by kernel_rfl

theorem g_OK43 : EntOK Go.Proofs.Try.prog g_Ent43 := EntOK.of_vcall g_HC43 Go.Proofs.Try.func43
  (body_loops (by kernel_rfl) (loops_all 0 (by kernel_rfl) fun k hk => absurd hk (Nat.not_lt_zero k)))
  (by kernel_rfl) (by kernel_rfl) g_VC43

/-! ### loop.example/g01924/impl.isValue -/

noncomputable def g_C73 : Cfg := ⟨g_tis, [g_Ent43], []⟩

theorem g_HC73 : CfgOK Go.Proofs.Try.prog g_C73 := ⟨info_ok g_tisOK, (all_cons g_OK43 all_nil), g_wide⟩

/-- loop.example/g01924/impl.isValue -/
noncomputable def g_S73 (n0 : Int) : Option (den (.prod .bool .unit)) :=
  (g_S43 n0 (-1) 99).bind fun r1 =>
  some (r1.1, ())

noncomputable def g_Ent73 : Ent := ⟨73, (.prod .i .unit), (.prod .bool .unit), fun x => g_S73 x.1⟩

theorem g_VC73 : ∀ x : den (.prod .i .unit), vcall g_C73 Go.Proofs.Try.f73 (.prod .i .unit) (.prod .bool .unit) x = g_S73 x.1 := fun x => by kernel_rfl

theorem g_OK73 : EntOK Go.Proofs.Try.prog g_Ent73 := EntOK.of_vcall g_HC73 Go.Proofs.Try.func73
  (body_loops (by kernel_rfl) (loops_all 0 (by kernel_rfl) fun k hk => absurd hk (Nat.not_lt_zero k)))
  (by kernel_rfl) (by kernel_rfl) g_VC73

/-! ### loop.example/g01924/impl.isID -/

noncomputable def g_C74 : Cfg := ⟨g_tis, [g_Ent43], []⟩

theorem g_HC74 : CfgOK Go.Proofs.Try.prog g_C74 := ⟨info_ok g_tisOK, (all_cons g_OK43 all_nil), g_wide⟩

/-- loop.example/g01924/impl.isID -/
noncomputable def g_S74 (n0 : Int) : Option (den (.prod .bool .unit)) :=
  (g_S43 n0 1 9).bind fun r1 =>
  some (r1.1, ())

noncomputable def g_Ent74 : Ent := ⟨74, (.prod .i .unit), (.prod .bool .unit), fun x => g_S74 x.1⟩

theorem g_VC74 : ∀ x : den (.prod .i .unit), vcall g_C74 Go.Proofs.Try.f74 (.prod .i .unit) (.prod .bool .unit) x = g_S74 x.1 := fun x => by kernel_rfl

theorem g_OK74 : EntOK Go.Proofs.Try.prog g_Ent74 := EntOK.of_vcall g_HC74 Go.Proofs.Try.func74
  (body_loops (by kernel_rfl) (loops_all 0 (by kernel_rfl) fun k hk => absurd hk (Nat.not_lt_zero k)))
  (by kernel_rfl) (by kernel_rfl) g_VC74

/-! ### loop.example/g01924/impl.IsValidVersion -/

noncomputable def g_C70 : Cfg := ⟨g_tis, [g_Ent73, g_Ent43, g_Ent74], []⟩

theorem g_HC70 : CfgOK Go.Proofs.Try.prog g_C70 := ⟨info_ok g_tisOK, (all_cons g_OK73 (all_cons g_OK43 (all_cons g_OK74 all_nil))), g_wide⟩

/-- loop.example/g01924/impl.IsValidVersion -/
noncomputable def g_S70 (v_0 : (den Y65)) : Option (den (.prod .bool .unit)) :=
  (g_S73 v_0.2.1).bind fun r1 =>
  bif (!r1.1) then
    some (false, ())
  else
    (g_S43 v_0.2.2.1 0 999).bind fun r2 =>
    bif (!r2.1) then
      some (false, ())
    else
      (g_S43 v_0.2.2.2.1 v_0.2.2.1 999).bind fun r3 =>
      bif (!r3.1) then
        some (false, ())
      else
        (g_S43 v_0.2.2.2.2.1 1 1000).bind fun r4 =>
        bif (!r4.1) then
          some (false, ())
        else
          bif (v_0.2.2.1 == 0) then
            bif (v_0.1 == 0) then
              some ((v_0.2.1 == (-1)), ())
            else
              some (false, ())
          else
            (g_S74 v_0.1).bind fun r5 =>
            some (r5.1, ())

noncomputable def g_Ent70 : Ent := ⟨70, (.prod Y65 .unit), (.prod .bool .unit), fun x => g_S70 x.1⟩

theorem g_VC70 : ∀ x : den (.prod Y65 .unit), vcall g_C70 Go.Proofs.Try.f70 (.prod Y65 .unit) (.prod .bool .unit) x = g_S70 x.1 := fun x => by kernel_rfl

theorem g_OK70 : EntOK Go.Proofs.Try.prog g_Ent70 := EntOK.of_vcall g_HC70 Go.Proofs.Try.func70
  (body_loops (by kernel_rfl) (loops_all 0 (by kernel_rfl) fun k hk => absurd hk (Nat.not_lt_zero k)))
  (by kernel_rfl) (by kernel_rfl) g_VC70

/-! ### loop.example/g01924/impl.IsValidChain -/

noncomputable def g_L58_0 (l' : (List (den Y65))) (x' : (List (den Y65))) (x_2' : Int) (x_3' : Int) (R : Type) (K : (Int) ⊕ ((Int × Int × Int × Int × Int) ⊕ (Unit)) → Option R) : Option R :=
  bif (decide (x_3' < x_2')) then
    (lAt x' x_3').bind fun e1 =>
    (g_S70 e1).bind fun r2 =>
    bif (!r2.1) then
      K (.inr (.inl (e1.1, e1.2.1, e1.2.2.1, e1.2.2.2.1, e1.2.2.2.2.1)))
    else
      bif (decide (x_3' > 0)) then
        (lAt l' (IntKind.i64.wrap (x_3' - 1))).bind fun e3 =>
        bif (decide (e3.2.2.1 ≥ e1.2.2.1)) then
          K (.inr (.inl (e1.1, e1.2.1, e1.2.2.1, e1.2.2.2.1, e1.2.2.2.2.1)))
        else
          (lAt l' (IntKind.i64.wrap (x_3' - 1))).bind fun e4 =>
          bif (decide (e4.2.2.2.2.1 > e1.2.2.1)) then
            K (.inr (.inl (e1.1, e1.2.1, e1.2.2.1, e1.2.2.2.1, e1.2.2.2.2.1)))
          else
            K (.inl (IntKind.i64.wrap (x_3' + 1)))
      else
        K (.inl (IntKind.i64.wrap (x_3' + 1)))
  else
    K (.inr (.inr ()))

theorem g_L58_0_nat (l' : (List (den Y65))) (x' : (List (den Y65))) (x_2' : Int) (x_3' : Int) (R : Type) (K : (Int) ⊕ ((Int × Int × Int × Int × Int) ⊕ (Unit)) → Option R) : g_L58_0 l' x' x_2' x_3' R K = (g_L58_0 l' x' x_2' x_3' _ some).bind K := by
  unfold g_L58_0
  repeat' first | exact nat_none | exact nat_some | apply nat_bif | (refine nat_bind fun _ => ?_) | apply nat_ite | (refine nat_sum (fun _ => ?_) fun _ => ?_) | rfl

def g_T58_0 : Tmpl := ⟨(.slot (.slice Y65) (.junk (.junk (.junk (.junk (.slot (.slice Y65) (.slot .i (.slot .i (.junk (.junk (.junk (.junk (.junk (.junk (.junk (.junk (.junk (.junk (.junk (.junk (.junk (.junk (.junk (.junk (.junk (.junk (.junk (.junk (.junk (.junk (.junk (.junk (.junk (.junk (.junk (.junk (.junk (.junk (.junk (.junk (.junk (.junk (.junk (.junk (.junk (.junk (.junk (.junk (.junk (.junk (.junk (.junk (.junk (.junk (.junk .nil))))))))))))))))))))))))))))))))))))))))))))))))))))))), .nil⟩

abbrev g_I58_0 : Type := (List (den Y65)) × (List (den Y65)) × Int
abbrev g_V58_0 : Type := Int
abbrev g_X58_0 : Type := (Int × Int × Int × Int × Int) ⊕ (Unit)

def g_M58_0 : g_I58_0 → g_V58_0 → den g_T58_0.ty := fun I v => (I.1, I.2.1, I.2.2, v, ())

def g_P58_0 : den g_T58_0.ty → g_I58_0 × g_V58_0 := fun x => ((x.1, x.2.1, x.2.2.1), x.2.2.2.1)

noncomputable def g_D58_0 : g_I58_0 → g_V58_0 → (R : Type) → ((g_V58_0 ⊕ g_X58_0) → Option R) → Option R := fun I v R K => g_L58_0 I.1 I.2.1 I.2.2 v R K

def g_E58_0 : g_I58_0 → g_X58_0 → (R : Type) → (Ex → St → Option R) → Option R := fun I p R K => sumC p (fun a => K .ret ⟨[(.pv (.slice Y65) I.1), .junk, (.pv .bool false), .junk, .junk, .junk, .junk, .junk, .junk, .junk, .junk, .junk, .junk, .junk, .junk, .junk, .junk, .junk, .junk, .junk, .junk, .junk, .junk, .junk, .junk, .junk, .junk, .junk, .junk, .junk, .junk, .junk, .junk, .junk, .junk, .junk, .junk, .junk, .junk, .junk, .junk, .junk, .junk, .junk, .junk, .junk, .junk, .junk, .junk, .junk, .junk, .junk, .junk, .junk, .junk], [some (.cells 5 [[(.pv .i a.1), (.pv .i a.2.1), (.pv .i a.2.2.1), (.pv .i a.2.2.2.1), (.pv .i a.2.2.2.2)]])]⟩) (fun b => K (.exit 0) ⟨[(.pv (.slice Y65) I.1), .junk, .junk, .junk, .junk, .junk, .junk, .junk, .junk, .junk, .junk, .junk, .junk, .junk, .junk, .junk, .junk, .junk, .junk, .junk, .junk, .junk, .junk, .junk, .junk, .junk, .junk, .junk, .junk, .junk, .junk, .junk, .junk, .junk, .junk, .junk, .junk, .junk, .junk, .junk, .junk, .junk, .junk, .junk, .junk, .junk, .junk, .junk, .junk, .junk, .junk, .junk, .junk, .junk, .junk], []⟩)

def g_K58_0 : g_I58_0 → g_X58_0 → Ex × St := fun I p => sumC p (fun a => (.ret, ⟨[(.pv (.slice Y65) I.1), .junk, (.pv .bool false), .junk, .junk, .junk, .junk, .junk, .junk, .junk, .junk, .junk, .junk, .junk, .junk, .junk, .junk, .junk, .junk, .junk, .junk, .junk, .junk, .junk, .junk, .junk, .junk, .junk, .junk, .junk, .junk, .junk, .junk, .junk, .junk, .junk, .junk, .junk, .junk, .junk, .junk, .junk, .junk, .junk, .junk, .junk, .junk, .junk, .junk, .junk, .junk, .junk, .junk, .junk, .junk], [some (.cells 5 [[(.pv .i a.1), (.pv .i a.2.1), (.pv .i a.2.2.1), (.pv .i a.2.2.2.1), (.pv .i a.2.2.2.2)]])]⟩)) (fun b => ((.exit 0), ⟨[(.pv (.slice Y65) I.1), .junk, .junk, .junk, .junk, .junk, .junk, .junk, .junk, .junk, .junk, .junk, .junk, .junk, .junk, .junk, .junk, .junk, .junk, .junk, .junk, .junk, .junk, .junk, .junk, .junk, .junk, .junk, .junk, .junk, .junk, .junk, .junk, .junk, .junk, .junk, .junk, .junk, .junk, .junk, .junk, .junk, .junk, .junk, .junk, .junk, .junk, .junk, .junk, .junk, .junk, .junk, .junk, .junk, .junk], []⟩))

noncomputable def g_F58_0 : LoopFn := fun s R K => (Tmpl.read g_T58_0 s).bind fun x => (iter (fun v => g_D58_0 (g_P58_0 x).1 v _ some) (g_P58_0 x).2).bind fun p => g_E58_0 (g_P58_0 x).1 p R K

noncomputable def g_C58 : Cfg := ⟨g_tis, [g_Ent70], [(2, g_F58_0)]⟩

theorem g_HC58 : CfgOK Go.Proofs.Try.prog g_C58 := ⟨info_ok g_tisOK, (all_cons g_OK70 all_nil), g_wide⟩

theorem g_lk58_0 : ∀ F, ((g_C58).ann.find? fun x => x.1 == firstId ((loopsOf (codeOf Go.Proofs.Try.f58)).getD 0 .skip)).map (·.2) = some F → LoopOK Go.Proofs.Try.prog ((loopsOf (codeOf Go.Proofs.Try.f58)).getD 0 .skip) F := by
  refine lookup_ok (show ((g_C58).ann.find? fun x => x.1 == firstId ((loopsOf (codeOf Go.Proofs.Try.f58)).getD 0 .skip)).map (·.2) = some g_F58_0 from by kernel_rfl) ?_
  exact loop_ok g_HC58 (loops_all 0 (by kernel_rfl) fun k hk => absurd hk (Nat.not_lt_zero k)) g_T58_0 [0, 2] g_M58_0 g_P58_0 (fun x => rfl) g_D58_0
    (fun I v R K => g_L58_0_nat _ _ _ _ R K) g_E58_0 g_K58_0 (fun I p R K => by
      rcases p with p | p <;> rfl) (fun I v => by kernel_rfl)

/-- loop.example/g01924/impl.IsValidChain -/
noncomputable def g_S58 (l0 : (List (den Y65))) : Option (den (.prod .bool .unit)) :=
  (iter (fun v => g_L58_0 l0 l0 ((l0.length : Nat) : Int) v _ some) (0)).bind fun q5 =>
  sumC q5
    (fun a6 =>
      some (false, ()))
    (fun b7 =>
      bif (decide (((l0.length : Nat) : Int) > 0)) then
        (lAt l0 (IntKind.i64.wrap (((l0.length : Nat) : Int) - 1))).bind fun e8 =>
        some ((e8.2.2.2.2.1 == 1000), ())
      else
        some (false, ()))

noncomputable def g_Ent58 : Ent := ⟨58, (.prod (.slice Y65) .unit), (.prod .bool .unit), fun x => g_S58 x.1⟩

theorem g_VC58 : ∀ x : den (.prod (.slice Y65) .unit), vcall g_C58 Go.Proofs.Try.f58 (.prod (.slice Y65) .unit) (.prod .bool .unit) x = g_S58 x.1 := fun x => by kernel_rfl

theorem g_OK58 : EntOK Go.Proofs.Try.prog g_Ent58 := EntOK.of_vcall g_HC58 Go.Proofs.Try.func58
  (body_loops (by kernel_rfl) (loops_all 1 (by kernel_rfl) (fun k hk => match k, hk with
    | 0, _ => g_lk58_0)))
  (by kernel_rfl) (by kernel_rfl) g_VC58

/-! ### loop.example/g01924/impl.IsValidStore$1 -/

noncomputable def g_C57 : Cfg := ⟨g_tis, [g_Ent58], []⟩

theorem g_HC57 : CfgOK Go.Proofs.Try.prog g_C57 := ⟨info_ok g_tisOK, (all_cons g_OK58 all_nil), g_wide⟩

/-- loop.example/g01924/impl.IsValidStore$1 -/
noncomputable def g_S57 (l0 : (List (den Y65))) : Option (den (.prod .bool .unit)) :=
  (g_S58 l0).bind fun r1 =>
  bif (!r1.1) then
    some (true, ())
  else
    some ((decide (((l0.length : Nat) : Int) > 50)), ())

noncomputable def g_Ent57 : Ent := ⟨57, (.prod (.slice Y65) .unit), (.prod .bool .unit), fun x => g_S57 x.1⟩

theorem g_VC57 : ∀ x : den (.prod (.slice Y65) .unit), vcall g_C57 Go.Proofs.Try.f57 (.prod (.slice Y65) .unit) (.prod .bool .unit) x = g_S57 x.1 := fun x => by kernel_rfl

theorem g_OK57 : EntOK Go.Proofs.Try.prog g_Ent57 := EntOK.of_vcall g_HC57 Go.Proofs.Try.func57
  (body_loops (by kernel_rfl) (loops_all 0 (by kernel_rfl) fun k hk => absurd hk (Nat.not_lt_zero k)))
  (by kernel_rfl) (by kernel_rfl) g_VC57

/-! ### slices.IndexFunc[[][]loop.example/g01924/impl.Version,[]loop.example/g01924/impl.Version] -/

noncomputable def g_L69_0 (s' : (List (List (den Y65)))) (f' : Unit) (x' : Int) (x_2' : Int) (R : Type) (K : (Int) ⊕ ((Int) ⊕ (Unit)) → Option R) : Option R :=
  bif (decide (x_2' < x')) then
    (lAt s' x_2').bind fun e1 =>
    (g_S57 e1).bind fun r2 =>
    bif r2.1 then
      K (.inr (.inl (x_2')))
    else
      K (.inl (IntKind.i64.wrap (x_2' + 1)))
  else
    K (.inr (.inr ()))

theorem g_L69_0_nat (s' : (List (List (den Y65)))) (f' : Unit) (x' : Int) (x_2' : Int) (R : Type) (K : (Int) ⊕ ((Int) ⊕ (Unit)) → Option R) : g_L69_0 s' f' x' x_2' R K = (g_L69_0 s' f' x' x_2' _ some).bind K := by
  unfold g_L69_0
  repeat' first | exact nat_none | exact nat_some | apply nat_bif | (refine nat_bind fun _ => ?_) | apply nat_ite | (refine nat_sum (fun _ => ?_) fun _ => ?_) | rfl

def g_T69_0 : Tmpl := ⟨(.slot (.slice (.slice Y65)) (.slot (.fn 57 .unit) (.junk (.junk (.junk (.junk (.junk (.slot .i (.slot .i (.junk (.junk (.junk (.junk (.junk (.junk (.junk (.junk (.junk (.junk .nil))))))))))))))))))), .nil⟩

abbrev g_I69_0 : Type := (List (List (den Y65))) × Unit × Int
abbrev g_V69_0 : Type := Int
abbrev g_X69_0 : Type := (Int) ⊕ (Unit)

def g_M69_0 : g_I69_0 → g_V69_0 → den g_T69_0.ty := fun I v => (I.1, I.2.1, I.2.2, v, ())

def g_P69_0 : den g_T69_0.ty → g_I69_0 × g_V69_0 := fun x => ((x.1, x.2.1, x.2.2.1), x.2.2.2.1)

noncomputable def g_D69_0 : g_I69_0 → g_V69_0 → (R : Type) → ((g_V69_0 ⊕ g_X69_0) → Option R) → Option R := fun I v R K => g_L69_0 I.1 I.2.1 I.2.2 v R K

def g_E69_0 : g_I69_0 → g_X69_0 → (R : Type) → (Ex → St → Option R) → Option R := fun I p R K => sumC p (fun a => K .ret ⟨[.junk, .junk, .junk, .junk, (.pv .i a), .junk, .junk, .junk, .junk, .junk, .junk, .junk, .junk, .junk, .junk, .junk, .junk, .junk, .junk], []⟩) (fun b => K (.exit 0) ⟨[.junk, .junk, .junk, .junk, .junk, .junk, .junk, .junk, .junk, .junk, .junk, .junk, .junk, .junk, .junk, .junk, .junk, .junk, .junk], []⟩)

def g_K69_0 : g_I69_0 → g_X69_0 → Ex × St := fun I p => sumC p (fun a => (.ret, ⟨[.junk, .junk, .junk, .junk, (.pv .i a), .junk, .junk, .junk, .junk, .junk, .junk, .junk, .junk, .junk, .junk, .junk, .junk, .junk, .junk], []⟩)) (fun b => ((.exit 0), ⟨[.junk, .junk, .junk, .junk, .junk, .junk, .junk, .junk, .junk, .junk, .junk, .junk, .junk, .junk, .junk, .junk, .junk, .junk, .junk], []⟩))

noncomputable def g_F69_0 : LoopFn := fun s R K => (Tmpl.read g_T69_0 s).bind fun x => (iter (fun v => g_D69_0 (g_P69_0 x).1 v _ some) (g_P69_0 x).2).bind fun p => g_E69_0 (g_P69_0 x).1 p R K

noncomputable def g_C69 : Cfg := ⟨g_tis, [g_Ent57], [(2, g_F69_0)]⟩

theorem g_HC69 : CfgOK Go.Proofs.Try.prog g_C69 := ⟨info_ok g_tisOK, (all_cons g_OK57 all_nil), g_wide⟩

theorem g_lk69_0 : ∀ F, ((g_C69).ann.find? fun x => x.1 == firstId ((loopsOf (codeOf Go.Proofs.Try.f69)).getD 0 .skip)).map (·.2) = some F → LoopOK Go.Proofs.Try.prog ((loopsOf (codeOf Go.Proofs.Try.f69)).getD 0 .skip) F := by
  refine lookup_ok (show ((g_C69).ann.find? fun x => x.1 == firstId ((loopsOf (codeOf Go.Proofs.Try.f69)).getD 0 .skip)).map (·.2) = some g_F69_0 from by kernel_rfl) ?_
  exact loop_ok g_HC69 (loops_all 0 (by kernel_rfl) fun k hk => absurd hk (Nat.not_lt_zero k)) g_T69_0 [4] g_M69_0 g_P69_0 (fun x => rfl) g_D69_0
    (fun I v R K => g_L69_0_nat _ _ _ _ R K) g_E69_0 g_K69_0 (fun I p R K => by
      rcases p with p | p <;> rfl) (fun I v => by kernel_rfl)

/-- slices.IndexFunc[[][]loop.example/g01924/impl.Version,[]loop.example/g01924/impl.Version] -/
noncomputable def g_S69 (s0 : (List (List (den Y65)))) (f1 : Unit) : Option (den (.prod .i .unit)) :=
  (iter (fun v => g_L69_0 s0 f1 ((s0.length : Nat) : Int) v _ some) (0)).bind fun q3 =>
  sumC q3
    (fun a4 =>
      some (a4, ()))
    (fun b5 =>
      some ((-1), ()))

noncomputable def g_Ent69 : Ent := ⟨69, (.prod (.slice (.slice Y65)) (.prod (.fn 57 .unit) .unit)), (.prod .i .unit), fun x => g_S69 x.1 x.2.1⟩

theorem g_VC69 : ∀ x : den (.prod (.slice (.slice Y65)) (.prod (.fn 57 .unit) .unit)), vcall g_C69 Go.Proofs.Try.f69 (.prod (.slice (.slice Y65)) (.prod (.fn 57 .unit) .unit)) (.prod .i .unit) x = g_S69 x.1 x.2.1 := fun x => by kernel_rfl

theorem g_OK69 : EntOK Go.Proofs.Try.prog g_Ent69 := EntOK.of_vcall g_HC69 Go.Proofs.Try.func69
  (body_loops (by kernel_rfl) (loops_all 1 (by kernel_rfl) (fun k hk => match k, hk with
    | 0, _ => g_lk69_0)))
  (by kernel_rfl) (by kernel_rfl) g_VC69

/-! ### slices.ContainsFunc[[][]loop.example/g01924/impl.Version,[]loop.example/g01924/impl.Version] -/

noncomputable def g_C56 : Cfg := ⟨g_tis, [g_Ent69], []⟩

theorem g_HC56 : CfgOK Go.Proofs.Try.prog g_C56 := ⟨info_ok g_tisOK, (all_cons g_OK69 all_nil), g_wide⟩

/-- slices.ContainsFunc[[][]loop.example/g01924/impl.Version,[]loop.example/g01924/impl.Version] -/
noncomputable def g_S56 (s0 : (List (List (den Y65)))) (f1 : Unit) : Option (den (.prod .bool .unit)) :=
  (g_S69 s0 f1).bind fun r1 =>
  some ((decide (r1.1 ≥ 0)), ())

noncomputable def g_Ent56 : Ent := ⟨56, (.prod (.slice (.slice Y65)) (.prod (.fn 57 .unit) .unit)), (.prod .bool .unit), fun x => g_S56 x.1 x.2.1⟩

theorem g_VC56 : ∀ x : den (.prod (.slice (.slice Y65)) (.prod (.fn 57 .unit) .unit)), vcall g_C56 Go.Proofs.Try.f56 (.prod (.slice (.slice Y65)) (.prod (.fn 57 .unit) .unit)) (.prod .bool .unit) x = g_S56 x.1 x.2.1 := fun x => by kernel_rfl

theorem g_OK56 : EntOK Go.Proofs.Try.prog g_Ent56 := EntOK.of_vcall g_HC56 Go.Proofs.Try.func56
  (body_loops (by kernel_rfl) (loops_all 0 (by kernel_rfl) fun k hk => absurd hk (Nat.not_lt_zero k)))
  (by kernel_rfl) (by kernel_rfl) g_VC56

/-! ### loop.example/g01924/impl.IsValidStore -/

noncomputable def g_C42 : Cfg := ⟨g_tis, [g_Ent56], []⟩

theorem g_HC42 : CfgOK Go.Proofs.Try.prog g_C42 := ⟨info_ok g_tisOK, (all_cons g_OK56 all_nil), g_wide⟩

/-- loop.example/g01924/impl.IsValidStore -/
noncomputable def g_S42 (s0 : (den Y41)) : Option (den (.prod .bool .unit)) :=
  bif (((s0.1.length : Nat) : Int) == 6) then
    (g_S56 s0.1 (())).bind fun r1 =>
    some ((!r1.1), ())
  else
    some (false, ())

noncomputable def g_Ent42 : Ent := ⟨42, (.prod Y41 .unit), (.prod .bool .unit), fun x => g_S42 x.1⟩

theorem g_VC42 : ∀ x : den (.prod Y41 .unit), vcall g_C42 Go.Proofs.Try.f42 (.prod Y41 .unit) (.prod .bool .unit) x = g_S42 x.1 := fun x => by kernel_rfl

theorem g_OK42 : EntOK Go.Proofs.Try.prog g_Ent42 := EntOK.of_vcall g_HC42 Go.Proofs.Try.func42
  (body_loops (by kernel_rfl) (loops_all 0 (by kernel_rfl) fun k hk => absurd hk (Nat.not_lt_zero k)))
  (by kernel_rfl) (by kernel_rfl) g_VC42

/-! ### (loop.example/g01924/impl.Store).lastStamp -/

noncomputable def g_L44_1 (x' : (List (List (den Y65)))) (x_2' : Int) (x_3' : Int) (x_4' : (List (den Y65))) (x_5' : Int) (most' : Int) (x_6' : Int) (R : Type) (K : (Int × Int) ⊕ ((Int)) → Option R) : Option R :=
  bif (decide (x_6' < x_5')) then
    (lAt x_4' x_6').bind fun e2 =>
    K (.inl ((mx most' e2.2.2.2.1), (IntKind.i64.wrap (x_6' + 1))))
  else
    K (.inr (most'))

theorem g_L44_1_nat (x' : (List (List (den Y65)))) (x_2' : Int) (x_3' : Int) (x_4' : (List (den Y65))) (x_5' : Int) (most' : Int) (x_6' : Int) (R : Type) (K : (Int × Int) ⊕ ((Int)) → Option R) : g_L44_1 x' x_2' x_3' x_4' x_5' most' x_6' R K = (g_L44_1 x' x_2' x_3' x_4' x_5' most' x_6' _ some).bind K := by
  unfold g_L44_1
  repeat' first | exact nat_none | exact nat_some | apply nat_bif | (refine nat_bind fun _ => ?_) | apply nat_ite | (refine nat_sum (fun _ => ?_) fun _ => ?_) | rfl

def g_T44_1 : Tmpl := ⟨(.junk (.junk (.junk (.slot .i (.junk (.junk (.junk (.junk (.junk (.slot (.slice (.slice Y65)) (.slot .i (.slot .i (.junk (.junk (.junk (.slot (.slice Y65) (.slot .i (.slot .i (.junk (.junk (.junk (.junk (.junk (.junk (.junk (.junk (.junk (.junk .nil)))))))))))))))))))))))))))), (.gone .nil)⟩

abbrev g_I44_1 : Type := (List (List (den Y65))) × Int × Int × (List (den Y65)) × Int
abbrev g_V44_1 : Type := Int × Int
abbrev g_X44_1 : Type := (Int)

def g_M44_1 : g_I44_1 → g_V44_1 → den g_T44_1.ty := fun I v => (v.1, I.1, I.2.1, I.2.2.1, I.2.2.2.1, I.2.2.2.2, v.2, ())

def g_P44_1 : den g_T44_1.ty → g_I44_1 × g_V44_1 := fun x => ((x.2.1, x.2.2.1, x.2.2.2.1, x.2.2.2.2.1, x.2.2.2.2.2.1), (x.1, x.2.2.2.2.2.2.1))

noncomputable def g_D44_1 : g_I44_1 → g_V44_1 → (R : Type) → ((g_V44_1 ⊕ g_X44_1) → Option R) → Option R := fun I v R K => g_L44_1 I.1 I.2.1 I.2.2.1 I.2.2.2.1 I.2.2.2.2 v.1 v.2 R K

def g_E44_1 : g_I44_1 → g_X44_1 → (R : Type) → (Ex → St → Option R) → Option R := fun I p R K => K (.exit 2) ⟨[.junk, .junk, .junk, (.pv .i p), .junk, .junk, .junk, .junk, .junk, (.pv (.slice (.slice Y65)) I.1), (.pv .i I.2.1), (.pv .i I.2.2.1), .junk, .junk, .junk, .junk, .junk, .junk, .junk, .junk, .junk, .junk, .junk, .junk, .junk, .junk, .junk, .junk], [none]⟩

def g_K44_1 : g_I44_1 → g_X44_1 → Ex × St := fun I p => ((.exit 2), ⟨[.junk, .junk, .junk, (.pv .i p), .junk, .junk, .junk, .junk, .junk, (.pv (.slice (.slice Y65)) I.1), (.pv .i I.2.1), (.pv .i I.2.2.1), .junk, .junk, .junk, .junk, .junk, .junk, .junk, .junk, .junk, .junk, .junk, .junk, .junk, .junk, .junk, .junk], [none]⟩)

noncomputable def g_F44_1 : LoopFn := fun s R K => (Tmpl.read g_T44_1 s).bind fun x => (iter (fun v => g_D44_1 (g_P44_1 x).1 v _ some) (g_P44_1 x).2).bind fun p => g_E44_1 (g_P44_1 x).1 p R K

noncomputable def g_L44_0 (x' : (List (List (den Y65)))) (x_2' : Int) (most' : Int) (x_3' : Int) (R : Type) (K : (Int × Int) ⊕ ((Int)) → Option R) : Option R :=
  bif (decide (x_3' < x_2')) then
    (lAt x' x_3').bind fun e1 =>
    (iter (fun v => g_L44_1 (x') (x_2') (x_3') e1 ((e1.length : Nat) : Int) v.1 v.2 _ some) (most', 0)).bind fun q3 =>
    K (.inl (q3, (IntKind.i64.wrap (x_3' + 1))))
  else
    K (.inr (most'))

theorem g_L44_0_nat (x' : (List (List (den Y65)))) (x_2' : Int) (most' : Int) (x_3' : Int) (R : Type) (K : (Int × Int) ⊕ ((Int)) → Option R) : g_L44_0 x' x_2' most' x_3' R K = (g_L44_0 x' x_2' most' x_3' _ some).bind K := by
  unfold g_L44_0
  repeat' first | exact nat_none | exact nat_some | apply nat_bif | (refine nat_bind fun _ => ?_) | apply nat_ite | (refine nat_sum (fun _ => ?_) fun _ => ?_) | rfl

def g_T44_0 : Tmpl := ⟨(.junk (.junk (.junk (.slot .i (.junk (.junk (.junk (.junk (.junk (.slot (.slice (.slice Y65)) (.slot .i (.slot .i (.junk (.junk (.junk (.junk (.junk (.junk (.junk (.junk (.junk (.junk (.junk (.junk (.junk (.junk (.junk (.junk .nil)))))))))))))))))))))))))))), (.gone .nil)⟩

abbrev g_I44_0 : Type := (List (List (den Y65))) × Int
abbrev g_V44_0 : Type := Int × Int
abbrev g_X44_0 : Type := (Int)

def g_M44_0 : g_I44_0 → g_V44_0 → den g_T44_0.ty := fun I v => (v.1, I.1, I.2, v.2, ())

def g_P44_0 : den g_T44_0.ty → g_I44_0 × g_V44_0 := fun x => ((x.2.1, x.2.2.1), (x.1, x.2.2.2.1))

noncomputable def g_D44_0 : g_I44_0 → g_V44_0 → (R : Type) → ((g_V44_0 ⊕ g_X44_0) → Option R) → Option R := fun I v R K => g_L44_0 I.1 I.2 v.1 v.2 R K

def g_E44_0 : g_I44_0 → g_X44_0 → (R : Type) → (Ex → St → Option R) → Option R := fun I p R K => K (.exit 0) ⟨[.junk, .junk, .junk, (.pv .i p), .junk, .junk, .junk, .junk, .junk, .junk, .junk, .junk, .junk, .junk, .junk, .junk, .junk, .junk, .junk, .junk, .junk, .junk, .junk, .junk, .junk, .junk, .junk, .junk], [none]⟩

def g_K44_0 : g_I44_0 → g_X44_0 → Ex × St := fun I p => ((.exit 0), ⟨[.junk, .junk, .junk, (.pv .i p), .junk, .junk, .junk, .junk, .junk, .junk, .junk, .junk, .junk, .junk, .junk, .junk, .junk, .junk, .junk, .junk, .junk, .junk, .junk, .junk, .junk, .junk, .junk, .junk], [none]⟩)

noncomputable def g_F44_0 : LoopFn := fun s R K => (Tmpl.read g_T44_0 s).bind fun x => (iter (fun v => g_D44_0 (g_P44_0 x).1 v _ some) (g_P44_0 x).2).bind fun p => g_E44_0 (g_P44_0 x).1 p R K

noncomputable def g_C44 : Cfg := ⟨g_tis, [], [(3, g_F44_0), (6, g_F44_1)]⟩

theorem g_HC44 : CfgOK Go.Proofs.Try.prog g_C44 := ⟨info_ok g_tisOK, all_nil, g_wide⟩

theorem g_lk44_1 : ∀ F, ((g_C44).ann.find? fun x => x.1 == firstId ((loopsOf (codeOf Go.Proofs.Try.f44)).getD 1 .skip)).map (·.2) = some F → LoopOK Go.Proofs.Try.prog ((loopsOf (codeOf Go.Proofs.Try.f44)).getD 1 .skip) F := by
  refine lookup_ok (show ((g_C44).ann.find? fun x => x.1 == firstId ((loopsOf (codeOf Go.Proofs.Try.f44)).getD 1 .skip)).map (·.2) = some g_F44_1 from by kernel_rfl) ?_
  exact loop_ok g_HC44 (loops_all 0 (by kernel_rfl) fun k hk => absurd hk (Nat.not_lt_zero k)) g_T44_1 [3, 9, 10, 11] g_M44_1 g_P44_1 (fun x => rfl) g_D44_1
    (fun I v R K => g_L44_1_nat _ _ _ _ _ _ _ R K) g_E44_1 g_K44_1 (fun I p R K => rfl) (fun I v => by kernel_rfl)

theorem g_lk44_0 : ∀ F, ((g_C44).ann.find? fun x => x.1 == firstId ((loopsOf (codeOf Go.Proofs.Try.f44)).getD 0 .skip)).map (·.2) = some F → LoopOK Go.Proofs.Try.prog ((loopsOf (codeOf Go.Proofs.Try.f44)).getD 0 .skip) F := by
  refine lookup_ok (show ((g_C44).ann.find? fun x => x.1 == firstId ((loopsOf (codeOf Go.Proofs.Try.f44)).getD 0 .skip)).map (·.2) = some g_F44_0 from by kernel_rfl) ?_
  exact loop_ok g_HC44 (loops_all 1 (by kernel_rfl) fun k hk => match k, hk with
    | 0, _ => by
      rw [show (loopsOf ((loopsOf (codeOf Go.Proofs.Try.f44)).getD 0 .skip)).getD 0 .skip = (loopsOf (codeOf Go.Proofs.Try.f44)).getD 1 .skip from by kernel_rfl]
      exact g_lk44_1) g_T44_0 [3] g_M44_0 g_P44_0 (fun x => rfl) g_D44_0
    (fun I v R K => g_L44_0_nat _ _ _ _ R K) g_E44_0 g_K44_0 (fun I p R K => rfl) (fun I v => by kernel_rfl)

/-- (loop.example/g01924/impl.Store).lastStamp -/
noncomputable def g_S44 (s0 : (den Y41)) : Option (den (.prod .i .unit)) :=
  (iter (fun v => g_L44_0 s0.1 ((s0.1.length : Nat) : Int) v.1 v.2 _ some) (0, 0)).bind fun q4 =>
  some (q4, ())

noncomputable def g_Ent44 : Ent := ⟨44, (.prod Y41 .unit), (.prod .i .unit), fun x => g_S44 x.1⟩

theorem g_VC44 : ∀ x : den (.prod Y41 .unit), vcall g_C44 Go.Proofs.Try.f44 (.prod Y41 .unit) (.prod .i .unit) x = g_S44 x.1 := fun x => by kernel_rfl

theorem g_OK44 : EntOK Go.Proofs.Try.prog g_Ent44 := EntOK.of_vcall g_HC44 Go.Proofs.Try.func44
  (body_loops (by kernel_rfl) (loops_all 2 (by kernel_rfl) (fun k hk => match k, hk with
    | 0, _ => g_lk44_0
    | 1, _ => g_lk44_1)))
  (by kernel_rfl) (by kernel_rfl) g_VC44

/-! ### loop.example/g01924/impl.IsValidReplica -/

noncomputable def g_C23 : Cfg := ⟨g_tis, [g_Ent42, g_Ent44, g_Ent43], []⟩

theorem g_HC23 : CfgOK Go.Proofs.Try.prog g_C23 := ⟨info_ok g_tisOK, (all_cons g_OK42 (all_cons g_OK44 (all_cons g_OK43 all_nil))), g_wide⟩

/-- loop.example/g01924/impl.IsValidReplica -/
noncomputable def g_S23 (r0 : (den Y43)) : Option (den (.prod .bool .unit)) :=
  (g_S42 r0.2.2.1).bind fun r1 =>
  bif r1.1 then
    (g_S44 r0.2.2.1).bind fun r2 =>
    (g_S43 r0.1 r2.1 999).bind fun r3 =>
    bif r3.1 then
      (g_S43 r0.2.1 0 r0.1).bind fun r4 =>
      some (r4.1, ())
    else
      some (false, ())
  else
    some (false, ())

noncomputable def g_Ent23 : Ent := ⟨23, (.prod Y43 .unit), (.prod .bool .unit), fun x => g_S23 x.1⟩

theorem g_VC23 : ∀ x : den (.prod Y43 .unit), vcall g_C23 Go.Proofs.Try.f23 (.prod Y43 .unit) (.prod .bool .unit) x = g_S23 x.1 := fun x => by kernel_rfl

theorem g_OK23 : EntOK Go.Proofs.Try.prog g_Ent23 := EntOK.of_vcall g_HC23 Go.Proofs.Try.func23
  (body_loops (by kernel_rfl) (loops_all 0 (by kernel_rfl) fun k hk => absurd hk (Nat.not_lt_zero k)))
  (by kernel_rfl) (by kernel_rfl) g_VC23

/-! ### loop.example/g01924/laws.eqVersion -/

noncomputable def g_C71 : Cfg := ⟨g_tis, [], []⟩

theorem g_HC71 : CfgOK Go.Proofs.Try.prog g_C71 := ⟨info_ok g_tisOK, all_nil, g_wide⟩

/-- loop.example/g01924/laws.eqVersion -/
noncomputable def g_S71 (a0 : (den Y65)) (b1 : (den Y65)) : Option (den (.prod .bool .unit)) :=
  bif (a0.1 != b1.1) then
    some (false, ())
  else
    bif (a0.2.1 != b1.2.1) then
      some (false, ())
    else
      bif (a0.2.2.1 != b1.2.2.1) then
        some (false, ())
      else
        bif (a0.2.2.2.1 != b1.2.2.2.1) then
          some (false, ())
        else
          bif (a0.2.2.2.2.1 != b1.2.2.2.2.1) then
            some (false, ())
          else
            some (true, ())

noncomputable def g_Ent71 : Ent := ⟨71, (.prod Y65 (.prod Y65 .unit)), (.prod .bool .unit), fun x => g_S71 x.1 x.2.1⟩

theorem g_VC71 : ∀ x : den (.prod Y65 (.prod Y65 .unit)), vcall g_C71 Go.Proofs.Try.f71 (.prod Y65 (.prod Y65 .unit)) (.prod .bool .unit) x = g_S71 x.1 x.2.1 := fun x => by kernel_rfl

theorem g_OK71 : EntOK Go.Proofs.Try.prog g_Ent71 := EntOK.of_vcall g_HC71 Go.Proofs.Try.func71
  (body_loops (by kernel_rfl) (loops_all 0 (by kernel_rfl) fun k hk => absurd hk (Nat.not_lt_zero k)))
  (by kernel_rfl) (by kernel_rfl) g_VC71

/-! ### loop.example/g01924/laws.eqVersionS -/

noncomputable def g_L62_0 (a' : (List (den Y65))) (b' : (List (den Y65))) (i' : Int) (R : Type) (K : (Int) ⊕ ((Unit) ⊕ (Unit)) → Option R) : Option R :=
  bif (decide (i' < ((a'.length : Nat) : Int))) then
    (lAt a' i').bind fun e1 =>
    (lAt b' i').bind fun e2 =>
    (g_S71 e1 e2).bind fun r3 =>
    bif (!r3.1) then
      K (.inr (.inl ()))
    else
      K (.inl (IntKind.i64.wrap (i' + 1)))
  else
    K (.inr (.inr ()))

theorem g_L62_0_nat (a' : (List (den Y65))) (b' : (List (den Y65))) (i' : Int) (R : Type) (K : (Int) ⊕ ((Unit) ⊕ (Unit)) → Option R) : g_L62_0 a' b' i' R K = (g_L62_0 a' b' i' _ some).bind K := by
  unfold g_L62_0
  repeat' first | exact nat_none | exact nat_some | apply nat_bif | (refine nat_bind fun _ => ?_) | apply nat_ite | (refine nat_sum (fun _ => ?_) fun _ => ?_) | rfl

def g_T62_0 : Tmpl := ⟨(.slot (.slice Y65) (.slot (.slice Y65) (.junk (.junk (.junk (.slot .i (.junk (.junk (.junk (.junk (.junk (.junk (.junk (.junk (.junk (.junk (.junk (.junk (.junk (.junk (.junk (.junk (.junk (.junk (.junk (.junk (.junk .nil))))))))))))))))))))))))))), .nil⟩

abbrev g_I62_0 : Type := (List (den Y65)) × (List (den Y65))
abbrev g_V62_0 : Type := Int
abbrev g_X62_0 : Type := (Unit) ⊕ (Unit)

def g_M62_0 : g_I62_0 → g_V62_0 → den g_T62_0.ty := fun I v => (I.1, I.2, v, ())

def g_P62_0 : den g_T62_0.ty → g_I62_0 × g_V62_0 := fun x => ((x.1, x.2.1), x.2.2.1)

noncomputable def g_D62_0 : g_I62_0 → g_V62_0 → (R : Type) → ((g_V62_0 ⊕ g_X62_0) → Option R) → Option R := fun I v R K => g_L62_0 I.1 I.2 v R K

def g_E62_0 : g_I62_0 → g_X62_0 → (R : Type) → (Ex → St → Option R) → Option R := fun I p R K => sumC p (fun a => K .ret ⟨[.junk, .junk, .junk, .junk, (.pv .bool false), .junk, .junk, .junk, .junk, .junk, .junk, .junk, .junk, .junk, .junk, .junk, .junk, .junk, .junk, .junk, .junk, .junk, .junk, .junk, .junk, .junk, .junk], []⟩) (fun b => K (.exit 0) ⟨[.junk, .junk, .junk, .junk, .junk, .junk, .junk, .junk, .junk, .junk, .junk, .junk, .junk, .junk, .junk, .junk, .junk, .junk, .junk, .junk, .junk, .junk, .junk, .junk, .junk, .junk, .junk], []⟩)

def g_K62_0 : g_I62_0 → g_X62_0 → Ex × St := fun I p => sumC p (fun a => (.ret, ⟨[.junk, .junk, .junk, .junk, (.pv .bool false), .junk, .junk, .junk, .junk, .junk, .junk, .junk, .junk, .junk, .junk, .junk, .junk, .junk, .junk, .junk, .junk, .junk, .junk, .junk, .junk, .junk, .junk], []⟩)) (fun b => ((.exit 0), ⟨[.junk, .junk, .junk, .junk, .junk, .junk, .junk, .junk, .junk, .junk, .junk, .junk, .junk, .junk, .junk, .junk, .junk, .junk, .junk, .junk, .junk, .junk, .junk, .junk, .junk, .junk, .junk], []⟩))

noncomputable def g_F62_0 : LoopFn := fun s R K => (Tmpl.read g_T62_0 s).bind fun x => (iter (fun v => g_D62_0 (g_P62_0 x).1 v _ some) (g_P62_0 x).2).bind fun p => g_E62_0 (g_P62_0 x).1 p R K

noncomputable def g_C62 : Cfg := ⟨g_tis, [g_Ent71], [(4, g_F62_0)]⟩

theorem g_HC62 : CfgOK Go.Proofs.Try.prog g_C62 := ⟨info_ok g_tisOK, (all_cons g_OK71 all_nil), g_wide⟩

theorem g_lk62_0 : ∀ F, ((g_C62).ann.find? fun x => x.1 == firstId ((loopsOf (codeOf Go.Proofs.Try.f62)).getD 0 .skip)).map (·.2) = some F → LoopOK Go.Proofs.Try.prog ((loopsOf (codeOf Go.Proofs.Try.f62)).getD 0 .skip) F := by
  refine lookup_ok (show ((g_C62).ann.find? fun x => x.1 == firstId ((loopsOf (codeOf Go.Proofs.Try.f62)).getD 0 .skip)).map (·.2) = some g_F62_0 from by kernel_rfl) ?_
  exact loop_ok g_HC62 (loops_all 0 (by kernel_rfl) fun k hk => absurd hk (Nat.not_lt_zero k)) g_T62_0 [4] g_M62_0 g_P62_0 (fun x => rfl) g_D62_0
    (fun I v R K => g_L62_0_nat _ _ _ R K) g_E62_0 g_K62_0 (fun I p R K => by
      rcases p with p | p <;> rfl) (fun I v => by kernel_rfl)

/-- loop.example/g01924/laws.eqVersionS -/
noncomputable def g_S62 (a0 : (List (den Y65))) (b1 : (List (den Y65))) : Option (den (.prod .bool .unit)) :=
  bif (((a0.length : Nat) : Int) != ((b1.length : Nat) : Int)) then
    some (false, ())
  else
    (iter (fun v => g_L62_0 a0 b1 v _ some) (0)).bind fun q4 =>
    sumC q4
      (fun a5 =>
        some (false, ()))
      (fun b6 =>
        some (true, ()))

noncomputable def g_Ent62 : Ent := ⟨62, (.prod (.slice Y65) (.prod (.slice Y65) .unit)), (.prod .bool .unit), fun x => g_S62 x.1 x.2.1⟩

theorem g_VC62 : ∀ x : den (.prod (.slice Y65) (.prod (.slice Y65) .unit)), vcall g_C62 Go.Proofs.Try.f62 (.prod (.slice Y65) (.prod (.slice Y65) .unit)) (.prod .bool .unit) x = g_S62 x.1 x.2.1 := fun x => by kernel_rfl

theorem g_OK62 : EntOK Go.Proofs.Try.prog g_Ent62 := EntOK.of_vcall g_HC62 Go.Proofs.Try.func62
  (body_loops (by kernel_rfl) (loops_all 1 (by kernel_rfl) (fun k hk => match k, hk with
    | 0, _ => g_lk62_0)))
  (by kernel_rfl) (by kernel_rfl) g_VC62

/-! ### loop.example/g01924/laws.eqVersionSS -/

noncomputable def g_L47_0 (a' : (List (List (den Y65)))) (b' : (List (List (den Y65)))) (i' : Int) (R : Type) (K : (Int) ⊕ ((Unit) ⊕ (Unit)) → Option R) : Option R :=
  bif (decide (i' < ((a'.length : Nat) : Int))) then
    (lAt a' i').bind fun e1 =>
    (lAt b' i').bind fun e2 =>
    (g_S62 e1 e2).bind fun r3 =>
    bif (!r3.1) then
      K (.inr (.inl ()))
    else
      K (.inl (IntKind.i64.wrap (i' + 1)))
  else
    K (.inr (.inr ()))

theorem g_L47_0_nat (a' : (List (List (den Y65)))) (b' : (List (List (den Y65)))) (i' : Int) (R : Type) (K : (Int) ⊕ ((Unit) ⊕ (Unit)) → Option R) : g_L47_0 a' b' i' R K = (g_L47_0 a' b' i' _ some).bind K := by
  unfold g_L47_0
  repeat' first | exact nat_none | exact nat_some | apply nat_bif | (refine nat_bind fun _ => ?_) | apply nat_ite | (refine nat_sum (fun _ => ?_) fun _ => ?_) | rfl

def g_T47_0 : Tmpl := ⟨(.slot (.slice (.slice Y65)) (.slot (.slice (.slice Y65)) (.junk (.junk (.junk (.slot .i (.junk (.junk (.junk (.junk (.junk (.junk (.junk (.junk (.junk (.junk (.junk (.junk (.junk (.junk (.junk (.junk (.junk (.junk (.junk (.junk (.junk .nil))))))))))))))))))))))))))), .nil⟩

abbrev g_I47_0 : Type := (List (List (den Y65))) × (List (List (den Y65)))
abbrev g_V47_0 : Type := Int
abbrev g_X47_0 : Type := (Unit) ⊕ (Unit)

def g_M47_0 : g_I47_0 → g_V47_0 → den g_T47_0.ty := fun I v => (I.1, I.2, v, ())

def g_P47_0 : den g_T47_0.ty → g_I47_0 × g_V47_0 := fun x => ((x.1, x.2.1), x.2.2.1)

noncomputable def g_D47_0 : g_I47_0 → g_V47_0 → (R : Type) → ((g_V47_0 ⊕ g_X47_0) → Option R) → Option R := fun I v R K => g_L47_0 I.1 I.2 v R K

def g_E47_0 : g_I47_0 → g_X47_0 → (R : Type) → (Ex → St → Option R) → Option R := fun I p R K => sumC p (fun a => K .ret ⟨[.junk, .junk, .junk, .junk, (.pv .bool false), .junk, .junk, .junk, .junk, .junk, .junk, .junk, .junk, .junk, .junk, .junk, .junk, .junk, .junk, .junk, .junk, .junk, .junk, .junk, .junk, .junk, .junk], []⟩) (fun b => K (.exit 0) ⟨[.junk, .junk, .junk, .junk, .junk, .junk, .junk, .junk, .junk, .junk, .junk, .junk, .junk, .junk, .junk, .junk, .junk, .junk, .junk, .junk, .junk, .junk, .junk, .junk, .junk, .junk, .junk], []⟩)

def g_K47_0 : g_I47_0 → g_X47_0 → Ex × St := fun I p => sumC p (fun a => (.ret, ⟨[.junk, .junk, .junk, .junk, (.pv .bool false), .junk, .junk, .junk, .junk, .junk, .junk, .junk, .junk, .junk, .junk, .junk, .junk, .junk, .junk, .junk, .junk, .junk, .junk, .junk, .junk, .junk, .junk], []⟩)) (fun b => ((.exit 0), ⟨[.junk, .junk, .junk, .junk, .junk, .junk, .junk, .junk, .junk, .junk, .junk, .junk, .junk, .junk, .junk, .junk, .junk, .junk, .junk, .junk, .junk, .junk, .junk, .junk, .junk, .junk, .junk], []⟩))

noncomputable def g_F47_0 : LoopFn := fun s R K => (Tmpl.read g_T47_0 s).bind fun x => (iter (fun v => g_D47_0 (g_P47_0 x).1 v _ some) (g_P47_0 x).2).bind fun p => g_E47_0 (g_P47_0 x).1 p R K

noncomputable def g_C47 : Cfg := ⟨g_tis, [g_Ent62], [(4, g_F47_0)]⟩

theorem g_HC47 : CfgOK Go.Proofs.Try.prog g_C47 := ⟨info_ok g_tisOK, (all_cons g_OK62 all_nil), g_wide⟩

theorem g_lk47_0 : ∀ F, ((g_C47).ann.find? fun x => x.1 == firstId ((loopsOf (codeOf Go.Proofs.Try.f47)).getD 0 .skip)).map (·.2) = some F → LoopOK Go.Proofs.Try.prog ((loopsOf (codeOf Go.Proofs.Try.f47)).getD 0 .skip) F := by
  refine lookup_ok (show ((g_C47).ann.find? fun x => x.1 == firstId ((loopsOf (codeOf Go.Proofs.Try.f47)).getD 0 .skip)).map (·.2) = some g_F47_0 from by kernel_rfl) ?_
  exact loop_ok g_HC47 (loops_all 0 (by kernel_rfl) fun k hk => absurd hk (Nat.not_lt_zero k)) g_T47_0 [4] g_M47_0 g_P47_0 (fun x => rfl) g_D47_0
    (fun I v R K => g_L47_0_nat _ _ _ R K) g_E47_0 g_K47_0 (fun I p R K => by
      rcases p with p | p <;> rfl) (fun I v => by kernel_rfl)

/-- loop.example/g01924/laws.eqVersionSS -/
noncomputable def g_S47 (a0 : (List (List (den Y65)))) (b1 : (List (List (den Y65)))) : Option (den (.prod .bool .unit)) :=
  bif (((a0.length : Nat) : Int) != ((b1.length : Nat) : Int)) then
    some (false, ())
  else
    (iter (fun v => g_L47_0 a0 b1 v _ some) (0)).bind fun q4 =>
    sumC q4
      (fun a5 =>
        some (false, ()))
      (fun b6 =>
        some (true, ()))

noncomputable def g_Ent47 : Ent := ⟨47, (.prod (.slice (.slice Y65)) Y41), (.prod .bool .unit), fun x => g_S47 x.1 x.2.1⟩

theorem g_VC47 : ∀ x : den (.prod (.slice (.slice Y65)) Y41), vcall g_C47 Go.Proofs.Try.f47 (.prod (.slice (.slice Y65)) Y41) (.prod .bool .unit) x = g_S47 x.1 x.2.1 := fun x => by kernel_rfl

theorem g_OK47 : EntOK Go.Proofs.Try.prog g_Ent47 := EntOK.of_vcall g_HC47 Go.Proofs.Try.func47
  (body_loops (by kernel_rfl) (loops_all 1 (by kernel_rfl) (fun k hk => match k, hk with
    | 0, _ => g_lk47_0)))
  (by kernel_rfl) (by kernel_rfl) g_VC47

/-! ### loop.example/g01924/laws.eqStore -/

noncomputable def g_C32 : Cfg := ⟨g_tis, [g_Ent47], []⟩

theorem g_HC32 : CfgOK Go.Proofs.Try.prog g_C32 := ⟨info_ok g_tisOK, (all_cons g_OK47 all_nil), g_wide⟩

/-- loop.example/g01924/laws.eqStore -/
noncomputable def g_S32 (a0 : (den Y41)) (b1 : (den Y41)) : Option (den (.prod .bool .unit)) :=
  (g_S47 a0.1 b1.1).bind fun r1 =>
  bif (!r1.1) then
    some (false, ())
  else
    some (true, ())

noncomputable def g_Ent32 : Ent := ⟨32, (.prod Y41 (.prod Y41 .unit)), (.prod .bool .unit), fun x => g_S32 x.1 x.2.1⟩

theorem g_VC32 : ∀ x : den (.prod Y41 (.prod Y41 .unit)), vcall g_C32 Go.Proofs.Try.f32 (.prod Y41 (.prod Y41 .unit)) (.prod .bool .unit) x = g_S32 x.1 x.2.1 := fun x => by kernel_rfl

theorem g_OK32 : EntOK Go.Proofs.Try.prog g_Ent32 := EntOK.of_vcall g_HC32 Go.Proofs.Try.func32
  (body_loops (by kernel_rfl) (loops_all 0 (by kernel_rfl) fun k hk => absurd hk (Nat.not_lt_zero k)))
  (by kernel_rfl) (by kernel_rfl) g_VC32

/-! ### loop.example/g01924/laws.eqReplica -/

noncomputable def g_C15 : Cfg := ⟨g_tis, [g_Ent32], []⟩

theorem g_HC15 : CfgOK Go.Proofs.Try.prog g_C15 := ⟨info_ok g_tisOK, (all_cons g_OK32 all_nil), g_wide⟩

/-- loop.example/g01924/laws.eqReplica -/
noncomputable def g_S15 (a0 : (den Y43)) (b1 : (den Y43)) : Option (den (.prod .bool .unit)) :=
  bif (a0.1 != b1.1) then
    some (false, ())
  else
    bif (a0.2.1 != b1.2.1) then
      some (false, ())
    else
      (g_S32 a0.2.2.1 b1.2.2.1).bind fun r1 =>
      bif (!r1.1) then
        some (false, ())
      else
        some (true, ())

noncomputable def g_Ent15 : Ent := ⟨15, (.prod Y43 (.prod Y43 .unit)), (.prod .bool .unit), fun x => g_S15 x.1 x.2.1⟩

theorem g_VC15 : ∀ x : den (.prod Y43 (.prod Y43 .unit)), vcall g_C15 Go.Proofs.Try.f15 (.prod Y43 (.prod Y43 .unit)) (.prod .bool .unit) x = g_S15 x.1 x.2.1 := fun x => by kernel_rfl

theorem g_OK15 : EntOK Go.Proofs.Try.prog g_Ent15 := EntOK.of_vcall g_HC15 Go.Proofs.Try.func15
  (body_loops (by kernel_rfl) (loops_all 0 (by kernel_rfl) fun k hk => absurd hk (Nat.not_lt_zero k)))
  (by kernel_rfl) (by kernel_rfl) g_VC15

/-! ### loop.example/g01924/laws.FnExactIsValidReplica -/

noncomputable def g_C6 : Cfg := ⟨g_tis, [g_Ent18, g_Ent20, g_Ent22, g_Ent23, g_Ent15], []⟩

theorem g_HC6 : CfgOK Go.Proofs.Try.prog g_C6 := ⟨info_ok g_tisOK, (all_cons g_OK18 (all_cons g_OK20 (all_cons g_OK22 (all_cons g_OK23 (all_cons g_OK15 all_nil))))), g_wide⟩

/-- loop.example/g01924/laws.FnExactIsValidReplica -/
noncomputable def g_S6 (aR0 : (den Y43)) : Option (den (.prod .bool .unit)) :=
  (g_S18 aR0 1048576).bind fun r1 =>
  bif (decide (r1.1 < 0)) then
    some (true, ())
  else
    (g_S20 aR0).bind fun r2 =>
    (g_S22 r2.1).bind fun r3 =>
    (g_S20 aR0).bind fun r4 =>
    (g_S23 r4.1).bind fun r5 =>
    bif (!(r5.1 == r3.1)) then
      some (false, ())
    else
      (g_S20 aR0).bind fun r6 =>
      (g_S15 r4.1 r6.1).bind fun r7 =>
      bif (!r7.1) then
        some (false, ())
      else
        some (true, ())

noncomputable def g_Ent6 : Ent := ⟨6, (.prod Y43 .unit), (.prod .bool .unit), fun x => g_S6 x.1⟩

theorem g_VC6 : ∀ x : den (.prod Y43 .unit), vcall g_C6 Go.Proofs.Try.f6 (.prod Y43 .unit) (.prod .bool .unit) x = g_S6 x.1 := fun x => by kernel_rfl

theorem g_OK6 : EntOK Go.Proofs.Try.prog g_Ent6 := EntOK.of_vcall g_HC6 Go.Proofs.Try.func6
  (body_loops (by kernel_rfl) (loops_all 0 (by kernel_rfl) fun k hk => absurd hk (Nat.not_lt_zero k)))
  (by kernel_rfl) (by kernel_rfl) g_VC6

/-! ### loop.example/g01924/spec.VersionAt -/

noncomputable def g_L59_0 (l' : (List (den Y65))) (stamp' : Int) (at_' : Int) (i' : Int) (R : Type) (K : (Int × Int) ⊕ ((Int)) → Option R) : Option R :=
  bif (decide (i' < ((l'.length : Nat) : Int))) then
    (g_S55 (l')).bind fun r1 =>
    bif r1.1 then
      (lAt l' i').bind fun e2 =>
      bif (decide (e2.2.2.1 ≤ stamp')) then
        K (.inl (i', (IntKind.i64.wrap (i' + 1))))
      else
        K (.inl (at_', (IntKind.i64.wrap (i' + 1))))
    else
      K (.inr (at_'))
  else
    K (.inr (at_'))

theorem g_L59_0_nat (l' : (List (den Y65))) (stamp' : Int) (at_' : Int) (i' : Int) (R : Type) (K : (Int × Int) ⊕ ((Int)) → Option R) : g_L59_0 l' stamp' at_' i' R K = (g_L59_0 l' stamp' at_' i' _ some).bind K := by
  unfold g_L59_0
  repeat' first | exact nat_none | exact nat_some | apply nat_bif | (refine nat_bind fun _ => ?_) | apply nat_ite | (refine nat_sum (fun _ => ?_) fun _ => ?_) | rfl

def g_T59_0 : Tmpl := ⟨(.slot (.slice Y65) (.slot .i (.junk (.junk (.junk (.slot .i (.slot .i (.junk (.junk (.junk (.junk (.junk (.junk (.junk (.junk (.junk (.junk (.junk (.junk (.junk (.junk (.junk (.junk (.junk (.junk (.junk .nil)))))))))))))))))))))))))), .nil⟩

abbrev g_I59_0 : Type := (List (den Y65)) × Int
abbrev g_V59_0 : Type := Int × Int
abbrev g_X59_0 : Type := (Int)

def g_M59_0 : g_I59_0 → g_V59_0 → den g_T59_0.ty := fun I v => (I.1, I.2, v.1, v.2, ())

def g_P59_0 : den g_T59_0.ty → g_I59_0 × g_V59_0 := fun x => ((x.1, x.2.1), (x.2.2.1, x.2.2.2.1))

noncomputable def g_D59_0 : g_I59_0 → g_V59_0 → (R : Type) → ((g_V59_0 ⊕ g_X59_0) → Option R) → Option R := fun I v R K => g_L59_0 I.1 I.2 v.1 v.2 R K

def g_E59_0 : g_I59_0 → g_X59_0 → (R : Type) → (Ex → St → Option R) → Option R := fun I p R K => K (.exit 0) ⟨[.junk, .junk, .junk, .junk, .junk, (.pv .i p), .junk, .junk, .junk, .junk, .junk, .junk, .junk, .junk, .junk, .junk, .junk, .junk, .junk, .junk, .junk, .junk, .junk, .junk, .junk, .junk], []⟩

def g_K59_0 : g_I59_0 → g_X59_0 → Ex × St := fun I p => ((.exit 0), ⟨[.junk, .junk, .junk, .junk, .junk, (.pv .i p), .junk, .junk, .junk, .junk, .junk, .junk, .junk, .junk, .junk, .junk, .junk, .junk, .junk, .junk, .junk, .junk, .junk, .junk, .junk, .junk], []⟩)

noncomputable def g_F59_0 : LoopFn := fun s R K => (Tmpl.read g_T59_0 s).bind fun x => (iter (fun v => g_D59_0 (g_P59_0 x).1 v _ some) (g_P59_0 x).2).bind fun p => g_E59_0 (g_P59_0 x).1 p R K

noncomputable def g_C59 : Cfg := ⟨g_tis, [g_Ent55], [(3, g_F59_0)]⟩

theorem g_HC59 : CfgOK Go.Proofs.Try.prog g_C59 := ⟨info_ok g_tisOK, (all_cons g_OK55 all_nil), g_wide⟩

theorem g_lk59_0 : ∀ F, ((g_C59).ann.find? fun x => x.1 == firstId ((loopsOf (codeOf Go.Proofs.Try.f59)).getD 0 .skip)).map (·.2) = some F → LoopOK Go.Proofs.Try.prog ((loopsOf (codeOf Go.Proofs.Try.f59)).getD 0 .skip) F := by
  refine lookup_ok (show ((g_C59).ann.find? fun x => x.1 == firstId ((loopsOf (codeOf Go.Proofs.Try.f59)).getD 0 .skip)).map (·.2) = some g_F59_0 from by kernel_rfl) ?_
  exact loop_ok g_HC59 (loops_all 0 (by kernel_rfl) fun k hk => absurd hk (Nat.not_lt_zero k)) g_T59_0 [5] g_M59_0 g_P59_0 (fun x => rfl) g_D59_0
    (fun I v R K => g_L59_0_nat _ _ _ _ R K) g_E59_0 g_K59_0 (fun I p R K => rfl) (fun I v => by kernel_rfl)

/-- loop.example/g01924/spec.VersionAt -/
noncomputable def g_S59 (l0 : (List (den Y65))) (stamp1 : Int) : Option (den (.prod .i .unit)) :=
  (iter (fun v => g_L59_0 l0 stamp1 v.1 v.2 _ some) ((-1), 0)).bind fun q3 =>
  some (q3, ())

noncomputable def g_Ent59 : Ent := ⟨59, (.prod (.slice Y65) (.prod .i .unit)), (.prod .i .unit), fun x => g_S59 x.1 x.2.1⟩

theorem g_VC59 : ∀ x : den (.prod (.slice Y65) (.prod .i .unit)), vcall g_C59 Go.Proofs.Try.f59 (.prod (.slice Y65) (.prod .i .unit)) (.prod .i .unit) x = g_S59 x.1 x.2.1 := fun x => by kernel_rfl

theorem g_OK59 : EntOK Go.Proofs.Try.prog g_Ent59 := EntOK.of_vcall g_HC59 Go.Proofs.Try.func59
  (body_loops (by kernel_rfl) (loops_all 1 (by kernel_rfl) (fun k hk => match k, hk with
    | 0, _ => g_lk59_0)))
  (by kernel_rfl) (by kernel_rfl) g_VC59

/-! ### loop.example/g01924/spec.ReadAt -/

noncomputable def g_C45 : Cfg := ⟨g_tis, [g_Ent39, g_Ent40, g_Ent59], []⟩

theorem g_HC45 : CfgOK Go.Proofs.Try.prog g_C45 := ⟨info_ok g_tisOK, (all_cons g_OK39 (all_cons g_OK40 (all_cons g_OK59 all_nil))), g_wide⟩

/-- loop.example/g01924/spec.ReadAt -/
noncomputable def g_S45 (s0 : (den Y41)) (key1 : Int) (stamp2 : Int) : Option (den (.prod Y65 (.prod .bool .unit))) :=
  (g_S39 s0).bind fun r1 =>
  bif (!r1.1) then
    some ((0, 0, 0, 0, 0, ()), false, ())
  else
    (g_S40 key1 0 5).bind fun r2 =>
    bif (!r2.1) then
      some ((0, 0, 0, 0, 0, ()), false, ())
    else
      (lAt s0.1 key1).bind fun e3 =>
      (g_S59 e3 stamp2).bind fun r4 =>
      bif (decide (r4.1 < 0)) then
        some ((0, 0, 0, 0, 0, ()), false, ())
      else
        (lAt s0.1 key1).bind fun e5 =>
        (lAt e5 r4.1).bind fun e6 =>
        some (e6, true, ())

noncomputable def g_Ent45 : Ent := ⟨45, (.prod Y41 (.prod .i (.prod .i .unit))), (.prod Y65 (.prod .bool .unit)), fun x => g_S45 x.1 x.2.1 x.2.2.1⟩

theorem g_VC45 : ∀ x : den (.prod Y41 (.prod .i (.prod .i .unit))), vcall g_C45 Go.Proofs.Try.f45 (.prod Y41 (.prod .i (.prod .i .unit))) (.prod Y65 (.prod .bool .unit)) x = g_S45 x.1 x.2.1 x.2.2.1 := fun x => by kernel_rfl

theorem g_OK45 : EntOK Go.Proofs.Try.prog g_Ent45 := EntOK.of_vcall g_HC45 Go.Proofs.Try.func45
  (body_loops (by kernel_rfl) (loops_all 0 (by kernel_rfl) fun k hk => absurd hk (Nat.not_lt_zero k)))
  (by kernel_rfl) (by kernel_rfl) g_VC45

/-! ### loop.example/g01924/spec.ReplicaRead -/

noncomputable def g_C24 : Cfg := ⟨g_tis, [g_Ent22, g_Ent45], []⟩

theorem g_HC24 : CfgOK Go.Proofs.Try.prog g_C24 := ⟨info_ok g_tisOK, (all_cons g_OK22 (all_cons g_OK45 all_nil)), g_wide⟩

/-- loop.example/g01924/spec.ReplicaRead -/
noncomputable def g_S24 (r0 : (den Y43)) (key1 : Int) : Option (den (.prod .i (.prod .bool .unit))) :=
  (g_S22 r0).bind fun r1 =>
  bif (!r1.1) then
    some (0, false, ())
  else
    (g_S45 r0.2.2.1 key1 r0.2.1).bind fun r2 =>
    bif (!r2.2.1) then
      some (0, false, ())
    else
      some (r2.1.2.1, true, ())

noncomputable def g_Ent24 : Ent := ⟨24, (.prod Y43 (.prod .i .unit)), (.prod .i (.prod .bool .unit)), fun x => g_S24 x.1 x.2.1⟩

theorem g_VC24 : ∀ x : den (.prod Y43 (.prod .i .unit)), vcall g_C24 Go.Proofs.Try.f24 (.prod Y43 (.prod .i .unit)) (.prod .i (.prod .bool .unit)) x = g_S24 x.1 x.2.1 := fun x => by kernel_rfl

theorem g_OK24 : EntOK Go.Proofs.Try.prog g_Ent24 := EntOK.of_vcall g_HC24 Go.Proofs.Try.func24
  (body_loops (by kernel_rfl) (loops_all 0 (by kernel_rfl) fun k hk => absurd hk (Nat.not_lt_zero k)))
  (by kernel_rfl) (by kernel_rfl) g_VC24

/-! ### loop.example/g01924/impl.isKey -/

noncomputable def g_C60 : Cfg := ⟨g_tis, [g_Ent43], []⟩

theorem g_HC60 : CfgOK Go.Proofs.Try.prog g_C60 := ⟨info_ok g_tisOK, (all_cons g_OK43 all_nil), g_wide⟩

/-- loop.example/g01924/impl.isKey -/
noncomputable def g_S60 (n0 : Int) : Option (den (.prod .bool .unit)) :=
  (g_S43 n0 0 5).bind fun r1 =>
  some (r1.1, ())

noncomputable def g_Ent60 : Ent := ⟨60, (.prod .i .unit), (.prod .bool .unit), fun x => g_S60 x.1⟩

theorem g_VC60 : ∀ x : den (.prod .i .unit), vcall g_C60 Go.Proofs.Try.f60 (.prod .i .unit) (.prod .bool .unit) x = g_S60 x.1 := fun x => by kernel_rfl

theorem g_OK60 : EntOK Go.Proofs.Try.prog g_Ent60 := EntOK.of_vcall g_HC60 Go.Proofs.Try.func60
  (body_loops (by kernel_rfl) (loops_all 0 (by kernel_rfl) fun k hk => absurd hk (Nat.not_lt_zero k)))
  (by kernel_rfl) (by kernel_rfl) g_VC60

/-! ### loop.example/g01924/impl.versionAt -/

noncomputable def g_L61_0 (l' : (List (den Y65))) (stamp' : Int) (at_' : Int) (R : Type) (K : (Int) ⊕ ((Int)) → Option R) : Option R :=
  bif (decide (at_' ≥ 0)) then
    (lAt l' at_').bind fun e1 =>
    bif (decide (e1.2.2.1 > stamp')) then
      K (.inl (IntKind.i64.wrap (at_' - 1)))
    else
      K (.inr (at_'))
  else
    K (.inr (at_'))

theorem g_L61_0_nat (l' : (List (den Y65))) (stamp' : Int) (at_' : Int) (R : Type) (K : (Int) ⊕ ((Int)) → Option R) : g_L61_0 l' stamp' at_' R K = (g_L61_0 l' stamp' at_' _ some).bind K := by
  unfold g_L61_0
  repeat' first | exact nat_none | exact nat_some | apply nat_bif | (refine nat_bind fun _ => ?_) | apply nat_ite | (refine nat_sum (fun _ => ?_) fun _ => ?_) | rfl

def g_T61_0 : Tmpl := ⟨(.slot (.slice Y65) (.slot .i (.junk (.junk (.junk (.slot .i (.junk (.junk (.junk (.junk (.junk (.junk (.junk (.junk (.junk (.junk (.junk (.junk (.junk (.junk (.junk (.junk (.junk .nil))))))))))))))))))))))), .nil⟩

abbrev g_I61_0 : Type := (List (den Y65)) × Int
abbrev g_V61_0 : Type := Int
abbrev g_X61_0 : Type := (Int)

def g_M61_0 : g_I61_0 → g_V61_0 → den g_T61_0.ty := fun I v => (I.1, I.2, v, ())

def g_P61_0 : den g_T61_0.ty → g_I61_0 × g_V61_0 := fun x => ((x.1, x.2.1), x.2.2.1)

noncomputable def g_D61_0 : g_I61_0 → g_V61_0 → (R : Type) → ((g_V61_0 ⊕ g_X61_0) → Option R) → Option R := fun I v R K => g_L61_0 I.1 I.2 v R K

def g_E61_0 : g_I61_0 → g_X61_0 → (R : Type) → (Ex → St → Option R) → Option R := fun I p R K => K (.exit 0) ⟨[.junk, .junk, .junk, .junk, .junk, (.pv .i p), .junk, .junk, .junk, .junk, .junk, .junk, .junk, .junk, .junk, .junk, .junk, .junk, .junk, .junk, .junk, .junk, .junk], []⟩

def g_K61_0 : g_I61_0 → g_X61_0 → Ex × St := fun I p => ((.exit 0), ⟨[.junk, .junk, .junk, .junk, .junk, (.pv .i p), .junk, .junk, .junk, .junk, .junk, .junk, .junk, .junk, .junk, .junk, .junk, .junk, .junk, .junk, .junk, .junk, .junk], []⟩)

noncomputable def g_F61_0 : LoopFn := fun s R K => (Tmpl.read g_T61_0 s).bind fun x => (iter (fun v => g_D61_0 (g_P61_0 x).1 v _ some) (g_P61_0 x).2).bind fun p => g_E61_0 (g_P61_0 x).1 p R K

noncomputable def g_C61 : Cfg := ⟨g_tis, [], [(2, g_F61_0)]⟩

theorem g_HC61 : CfgOK Go.Proofs.Try.prog g_C61 := ⟨info_ok g_tisOK, all_nil, g_wide⟩

theorem g_lk61_0 : ∀ F, ((g_C61).ann.find? fun x => x.1 == firstId ((loopsOf (codeOf Go.Proofs.Try.f61)).getD 0 .skip)).map (·.2) = some F → LoopOK Go.Proofs.Try.prog ((loopsOf (codeOf Go.Proofs.Try.f61)).getD 0 .skip) F := by
  refine lookup_ok (show ((g_C61).ann.find? fun x => x.1 == firstId ((loopsOf (codeOf Go.Proofs.Try.f61)).getD 0 .skip)).map (·.2) = some g_F61_0 from by kernel_rfl) ?_
  exact loop_ok g_HC61 (loops_all 0 (by kernel_rfl) fun k hk => absurd hk (Nat.not_lt_zero k)) g_T61_0 [5] g_M61_0 g_P61_0 (fun x => rfl) g_D61_0
    (fun I v R K => g_L61_0_nat _ _ _ R K) g_E61_0 g_K61_0 (fun I p R K => rfl) (fun I v => by kernel_rfl)

/-- loop.example/g01924/impl.versionAt -/
noncomputable def g_S61 (l0 : (List (den Y65))) (stamp1 : Int) : Option (den (.prod .i .unit)) :=
  (iter (fun v => g_L61_0 l0 stamp1 v _ some) ((IntKind.i64.wrap (((l0.length : Nat) : Int) - 1)))).bind fun q2 =>
  some (q2, ())

noncomputable def g_Ent61 : Ent := ⟨61, (.prod (.slice Y65) (.prod .i .unit)), (.prod .i .unit), fun x => g_S61 x.1 x.2.1⟩

theorem g_VC61 : ∀ x : den (.prod (.slice Y65) (.prod .i .unit)), vcall g_C61 Go.Proofs.Try.f61 (.prod (.slice Y65) (.prod .i .unit)) (.prod .i .unit) x = g_S61 x.1 x.2.1 := fun x => by kernel_rfl

theorem g_OK61 : EntOK Go.Proofs.Try.prog g_Ent61 := EntOK.of_vcall g_HC61 Go.Proofs.Try.func61
  (body_loops (by kernel_rfl) (loops_all 1 (by kernel_rfl) (fun k hk => match k, hk with
    | 0, _ => g_lk61_0)))
  (by kernel_rfl) (by kernel_rfl) g_VC61

/-! ### loop.example/g01924/impl.ReadAt -/

noncomputable def g_C46 : Cfg := ⟨g_tis, [g_Ent42, g_Ent60, g_Ent61], []⟩

theorem g_HC46 : CfgOK Go.Proofs.Try.prog g_C46 := ⟨info_ok g_tisOK, (all_cons g_OK42 (all_cons g_OK60 (all_cons g_OK61 all_nil))), g_wide⟩

/-- loop.example/g01924/impl.ReadAt -/
noncomputable def g_S46 (s0 : (den Y41)) (key1 : Int) (stamp2 : Int) : Option (den (.prod Y65 (.prod .bool .unit))) :=
  (g_S42 s0).bind fun r1 =>
  bif (!r1.1) then
    some ((0, 0, 0, 0, 0, ()), false, ())
  else
    (g_S60 key1).bind fun r2 =>
    bif (!r2.1) then
      some ((0, 0, 0, 0, 0, ()), false, ())
    else
      (lAt s0.1 key1).bind fun e3 =>
      (g_S61 e3 stamp2).bind fun r4 =>
      bif (decide (r4.1 < 0)) then
        some ((0, 0, 0, 0, 0, ()), false, ())
      else
        (lAt s0.1 key1).bind fun e5 =>
        (lAt e5 r4.1).bind fun e6 =>
        some (e6, true, ())

noncomputable def g_Ent46 : Ent := ⟨46, (.prod Y41 (.prod .i (.prod .i .unit))), (.prod Y65 (.prod .bool .unit)), fun x => g_S46 x.1 x.2.1 x.2.2.1⟩

theorem g_VC46 : ∀ x : den (.prod Y41 (.prod .i (.prod .i .unit))), vcall g_C46 Go.Proofs.Try.f46 (.prod Y41 (.prod .i (.prod .i .unit))) (.prod Y65 (.prod .bool .unit)) x = g_S46 x.1 x.2.1 x.2.2.1 := fun x => by kernel_rfl

theorem g_OK46 : EntOK Go.Proofs.Try.prog g_Ent46 := EntOK.of_vcall g_HC46 Go.Proofs.Try.func46
  (body_loops (by kernel_rfl) (loops_all 0 (by kernel_rfl) fun k hk => absurd hk (Nat.not_lt_zero k)))
  (by kernel_rfl) (by kernel_rfl) g_VC46

/-! ### loop.example/g01924/impl.ReplicaRead -/

noncomputable def g_C25 : Cfg := ⟨g_tis, [g_Ent23, g_Ent46], []⟩

theorem g_HC25 : CfgOK Go.Proofs.Try.prog g_C25 := ⟨info_ok g_tisOK, (all_cons g_OK23 (all_cons g_OK46 all_nil)), g_wide⟩

/-- loop.example/g01924/impl.ReplicaRead -/
noncomputable def g_S25 (r0 : (den Y43)) (key1 : Int) : Option (den (.prod .i (.prod .bool .unit))) :=
  (g_S23 r0).bind fun r1 =>
  bif (!r1.1) then
    some (0, false, ())
  else
    (g_S46 r0.2.2.1 key1 r0.2.1).bind fun r2 =>
    some (r2.1.2.1, r2.2.1, ())

noncomputable def g_Ent25 : Ent := ⟨25, (.prod Y43 (.prod .i .unit)), (.prod .i (.prod .bool .unit)), fun x => g_S25 x.1 x.2.1⟩

theorem g_VC25 : ∀ x : den (.prod Y43 (.prod .i .unit)), vcall g_C25 Go.Proofs.Try.f25 (.prod Y43 (.prod .i .unit)) (.prod .i (.prod .bool .unit)) x = g_S25 x.1 x.2.1 := fun x => by kernel_rfl

theorem g_OK25 : EntOK Go.Proofs.Try.prog g_Ent25 := EntOK.of_vcall g_HC25 Go.Proofs.Try.func25
  (body_loops (by kernel_rfl) (loops_all 0 (by kernel_rfl) fun k hk => absurd hk (Nat.not_lt_zero k)))
  (by kernel_rfl) (by kernel_rfl) g_VC25

/-! ### loop.example/g01924/laws.FnExactReplicaRead -/

noncomputable def g_C7 : Cfg := ⟨g_tis, [g_Ent18, g_Ent20, g_Ent24, g_Ent25, g_Ent15], []⟩

theorem g_HC7 : CfgOK Go.Proofs.Try.prog g_C7 := ⟨info_ok g_tisOK, (all_cons g_OK18 (all_cons g_OK20 (all_cons g_OK24 (all_cons g_OK25 (all_cons g_OK15 all_nil))))), g_wide⟩

/-- loop.example/g01924/laws.FnExactReplicaRead -/
noncomputable def g_S7 (aR0 : (den Y43)) (aKey1 : Int) : Option (den (.prod .bool .unit)) :=
  (g_S18 aR0 1048576).bind fun r1 =>
  bif (decide (r1.1 < 0)) then
    some (true, ())
  else
    (g_S20 aR0).bind fun r2 =>
    (g_S24 r2.1 aKey1).bind fun r3 =>
    (g_S20 aR0).bind fun r4 =>
    (g_S25 r4.1 aKey1).bind fun r5 =>
    bif (r5.1 != r3.1) then
      some (false, ())
    else
      bif (!(r5.2.1 == r3.2.1)) then
        some (false, ())
      else
        (g_S20 aR0).bind fun r6 =>
        (g_S15 r4.1 r6.1).bind fun r7 =>
        bif (!r7.1) then
          some (false, ())
        else
          some (true, ())

noncomputable def g_Ent7 : Ent := ⟨7, (.prod Y43 (.prod .i .unit)), (.prod .bool .unit), fun x => g_S7 x.1 x.2.1⟩

theorem g_VC7 : ∀ x : den (.prod Y43 (.prod .i .unit)), vcall g_C7 Go.Proofs.Try.f7 (.prod Y43 (.prod .i .unit)) (.prod .bool .unit) x = g_S7 x.1 x.2.1 := fun x => by kernel_rfl

theorem g_OK7 : EntOK Go.Proofs.Try.prog g_Ent7 := EntOK.of_vcall g_HC7 Go.Proofs.Try.func7
  (body_loops (by kernel_rfl) (loops_all 0 (by kernel_rfl) fun k hk => absurd hk (Nat.not_lt_zero k)))
  (by kernel_rfl) (by kernel_rfl) g_VC7
end Go.Ab
