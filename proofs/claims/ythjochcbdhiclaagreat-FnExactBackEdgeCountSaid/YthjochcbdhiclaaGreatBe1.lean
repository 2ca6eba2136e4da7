import Derived.Test.YthjochcbdhiclaaGreatHd
set_option maxRecDepth 100000
set_option linter.unusedVariables false
namespace Go.Ab
open Go.Proofs
noncomputable def q0_C : Cfg := { ti := g_tis, ents := [], ann := [], lent := 0 }
def q0_ti : Tmpl := ⟨(.slot (Ty.slice YReadMark) (.slot Ty.i .nil)), .nil⟩
def q0_to : Tmpl := ⟨(.slot Ty.i .nil), .nil⟩
noncomputable def laws_szReadMarkS_S (x : List (Int × Int × Unit) × Int × Unit) : Option (Int × Unit) :=
  bif decide (IntKind.wrap IntKind.i64 (x.2.1 - (↑(List.length x.1) : Int)) < 0) then some (-1, ()) else some (IntKind.wrap IntKind.i64 (x.2.1 - (↑(List.length x.1) : Int)), ())
noncomputable def q0_Ent : Ent := ⟨129, q0_ti, q0_to, laws_szReadMarkS_S⟩
theorem q0_HC : CfgOK Tryz.prog q0_C := hc_of g_tisOK g_wide all_nil
theorem q0_OK : EntOK Tryz.prog q0_Ent := ok_of q0_HC Tryz.func129 0 (by kernel_rfl) (fun k hk => absurd hk (Nat.not_lt_zero k)) (by kernel_rfl) (by kernel_rfl) (fun x => by kernel_rfl)
noncomputable def q1_C : Cfg := { ti := g_tis, ents := [], ann := [], lent := 0 }
def q1_ti : Tmpl := ⟨(.slot (Ty.slice YReadMark) (.slot Ty.i .nil)), .nil⟩
def q1_to : Tmpl := ⟨(.slot Ty.i .nil), .nil⟩
noncomputable def laws_szWriteS_S (x : List (Int × Int × Unit) × Int × Unit) : Option (Int × Unit) :=
  bif decide (IntKind.wrap IntKind.i64 (x.2.1 - (↑(List.length x.1) : Int)) < 0) then some (-1, ()) else some (IntKind.wrap IntKind.i64 (x.2.1 - (↑(List.length x.1) : Int)), ())
noncomputable def q1_Ent : Ent := ⟨130, q1_ti, q1_to, laws_szWriteS_S⟩
theorem q1_HC : CfgOK Tryz.prog q1_C := hc_of g_tisOK g_wide all_nil
theorem q1_OK : EntOK Tryz.prog q1_Ent := ok_of q1_HC Tryz.func130 0 (by kernel_rfl) (fun k hk => absurd hk (Nat.not_lt_zero k)) (by kernel_rfl) (by kernel_rfl) (fun x => by kernel_rfl)
noncomputable def q4_C : Cfg := { ti := g_tis, ents := [], ann := [], lent := 0 }
def q4_ti : Tmpl := ⟨(.slot YReadMark .nil), .nil⟩
def q4_to : Tmpl := ⟨(.agg (.slot Ty.i (.slot Ty.i .nil)) .nil), .nil⟩
noncomputable def laws_toReadMark_S (x : (Int × Int × Unit) × Unit) : Option (Int × Int × Unit) :=
  some (x.1.1, x.1.2.1, ())
noncomputable def q4_Ent : Ent := ⟨258, q4_ti, q4_to, laws_toReadMark_S⟩
theorem q4_HC : CfgOK Tryz.prog q4_C := hc_of g_tisOK g_wide all_nil
theorem q4_OK : EntOK Tryz.prog q4_Ent := ok_of q4_HC Tryz.func258 0 (by kernel_rfl) (fun k hk => absurd hk (Nat.not_lt_zero k)) (by kernel_rfl) (by kernel_rfl) (fun x => by kernel_rfl)
abbrev q5_I3 : Type := List (Int × Int × Unit) × Unit
abbrev q5_V3 : Type := Int × List (Int × Int × Unit) × Unit
abbrev q5_Q3 : Type := List (Int × Int × Unit) × Unit
noncomputable def laws_toReadMarkS_D3 (i : q5_I3) (v : q5_V3) (R : Type) (K : q5_V3 ⊕ q5_Q3 → Option R) : Option R :=
  bif decide (v.1 < (↑(List.length i.1) : Int)) then Option.bind (lAt i.1 v.1) fun v_1 => Option.bind (laws_toReadMark_S ((v_1.1, v_1.2.1, ()), ())) fun v_2 => if 0 ≤ v.1 ∧ v.1 < (↑(List.length v.2.1) : Int) then Option.bind v.2.1[0 +
  Int.toNat v.1]? fun v_3 => K (Sum.inl (IntKind.wrap IntKind.i64 (v.1 + 1), List.set v.2.1 (0 + Int.toNat v.1) (v_2.1, v_2.2.1, ()), ())) else none else K (Sum.inr (v.2.1, ()))
theorem laws_toReadMarkS_D3_nat : NatD laws_toReadMarkS_D3 := fun i v R K => nat_bif (nat_bind fun _ => nat_bind fun _ => nat_ite (nat_bind fun _ => nat_some)) (nat_some)
def q5_T3 : Tmpl := ⟨(.slot (Ty.slice YReadMark) (jk 2 (.own 0 (.slot Ty.i (jk 18 .nil))))), (.lst false YReadMark .nil)⟩
def q5_X3_0 (i : q5_I3) (p : List (Int × Int × Unit) × Unit) : St := ⟨jn 3 (AV.own 0 none none :: jn 19 ([])), [some (Cont.lst false YReadMark p.1)]⟩
noncomputable def q5_E3 (i : q5_I3) (p : q5_Q3) (R : Type) (K : Ex → St → Option R) : Option R := K (Ex.exit 0) (q5_X3_0 i p)
noncomputable def q5_K3 (i : q5_I3) (p : q5_Q3) : Ex × St := (Ex.exit 0, q5_X3_0 i p)
def q5_M3 (i : q5_I3) (v : q5_V3) : den q5_T3.ty := (i.1, v.1, v.2.1, ())
def q5_P3 (x : den q5_T3.ty) : q5_I3 × q5_V3 := ((x.1, ()), (x.2.1, x.2.2.1, ()))
noncomputable def q5_C : Cfg := { ti := g_tis, ents := [q4_Ent], ann := [(3, loopFn q5_T3 0 q5_P3 laws_toReadMarkS_D3 q5_E3)], lent := 0 }
def q5_ti : Tmpl := ⟨(.slot (Ty.slice YReadMark) .nil), .nil⟩
def q5_to : Tmpl := ⟨(.own 0 .nil), (.lst false YReadMark .nil)⟩
noncomputable def laws_toReadMarkS_S (x : List (Int × Int × Unit) × Unit) : Option (List (Int × Int × Unit) × Unit) :=
  if 0 ≤ (↑(List.length x.1) : Int) ∧ (↑(List.length x.1) : Int) ≤ (↑(List.length x.1) : Int) ∧ (↑(List.length x.1) : Int) ≤ (↑2199023255552 : Int) then Option.bind (iter (fun v => laws_toReadMarkS_D3 (x.1, ()) v _ some) (0,
  List.replicate (Int.toNat (↑(List.length x.1) : Int)) (0, 0, ()), ())) fun p => some (p.1, ()) else none
noncomputable def q5_Ent : Ent := ⟨138, q5_ti, q5_to, laws_toReadMarkS_S⟩
theorem q5_HC : CfgOK Tryz.prog q5_C := hc_of g_tisOK g_wide (all_cons q4_OK all_nil)
theorem q5_lk3 : LkOK Tryz.prog q5_C (lpc Tryz.f138 0) :=
  lk_of q5_HC (m := 0) (T := q5_T3) (sp := q5_P3) (D := laws_toReadMarkS_D3) (E := q5_E3) (by kernel_rfl) (by kernel_rfl) (fun k hk => absurd hk (Nat.not_lt_zero k)) [3] q5_M3 (fun x => rfl) laws_toReadMarkS_D3_nat q5_K3 (fun i p R K => rfl) (fun i v => by kernel_rfl)
theorem q5_OK : EntOK Tryz.prog q5_Ent := ok_of q5_HC Tryz.func138 1 (by kernel_rfl) (fun k hk => match k, hk with | 0, _ => q5_lk3) (by kernel_rfl) (by kernel_rfl) (fun x => by kernel_rfl)
noncomputable def q6_C : Cfg := { ti := g_tis, ents := [], ann := [], lent := 0 }
def q6_ti : Tmpl := ⟨(.slot YReadMark .nil), .nil⟩
def q6_to : Tmpl := ⟨(.agg (.slot Ty.i (.slot Ty.i .nil)) .nil), .nil⟩
noncomputable def laws_toWrite_S (x : (Int × Int × Unit) × Unit) : Option (Int × Int × Unit) :=
  some (x.1.1, x.1.2.1, ())
noncomputable def q6_Ent : Ent := ⟨259, q6_ti, q6_to, laws_toWrite_S⟩
theorem q6_HC : CfgOK Tryz.prog q6_C := hc_of g_tisOK g_wide all_nil
theorem q6_OK : EntOK Tryz.prog q6_Ent := ok_of q6_HC Tryz.func259 0 (by kernel_rfl) (fun k hk => absurd hk (Nat.not_lt_zero k)) (by kernel_rfl) (by kernel_rfl) (fun x => by kernel_rfl)
abbrev q7_I3 : Type := List (Int × Int × Unit) × Unit
abbrev q7_V3 : Type := Int × List (Int × Int × Unit) × Unit
abbrev q7_Q3 : Type := List (Int × Int × Unit) × Unit
noncomputable def laws_toWriteS_D3 (i : q7_I3) (v : q7_V3) (R : Type) (K : q7_V3 ⊕ q7_Q3 → Option R) : Option R :=
  bif decide (v.1 < (↑(List.length i.1) : Int)) then Option.bind (lAt i.1 v.1) fun v_1 => Option.bind (laws_toWrite_S ((v_1.1, v_1.2.1, ()), ())) fun v_2 => if 0 ≤ v.1 ∧ v.1 < (↑(List.length v.2.1) : Int) then Option.bind v.2.1[0 + Int.toNat
  v.1]? fun v_3 => K (Sum.inl (IntKind.wrap IntKind.i64 (v.1 + 1), List.set v.2.1 (0 + Int.toNat v.1) (v_2.1, v_2.2.1, ()), ())) else none else K (Sum.inr (v.2.1, ()))
theorem laws_toWriteS_D3_nat : NatD laws_toWriteS_D3 := fun i v R K => nat_bif (nat_bind fun _ => nat_bind fun _ => nat_ite (nat_bind fun _ => nat_some)) (nat_some)
def q7_T3 : Tmpl := ⟨(.slot (Ty.slice YReadMark) (jk 2 (.own 0 (.slot Ty.i (jk 18 .nil))))), (.lst false YReadMark .nil)⟩
def q7_X3_0 (i : q7_I3) (p : List (Int × Int × Unit) × Unit) : St := ⟨jn 3 (AV.own 0 none none :: jn 19 ([])), [some (Cont.lst false YReadMark p.1)]⟩
noncomputable def q7_E3 (i : q7_I3) (p : q7_Q3) (R : Type) (K : Ex → St → Option R) : Option R := K (Ex.exit 0) (q7_X3_0 i p)
noncomputable def q7_K3 (i : q7_I3) (p : q7_Q3) : Ex × St := (Ex.exit 0, q7_X3_0 i p)
def q7_M3 (i : q7_I3) (v : q7_V3) : den q7_T3.ty := (i.1, v.1, v.2.1, ())
def q7_P3 (x : den q7_T3.ty) : q7_I3 × q7_V3 := ((x.1, ()), (x.2.1, x.2.2.1, ()))
noncomputable def q7_C : Cfg := { ti := g_tis, ents := [q6_Ent], ann := [(3, loopFn q7_T3 0 q7_P3 laws_toWriteS_D3 q7_E3)], lent := 0 }
def q7_ti : Tmpl := ⟨(.slot (Ty.slice YReadMark) .nil), .nil⟩
def q7_to : Tmpl := ⟨(.own 0 .nil), (.lst false YReadMark .nil)⟩
noncomputable def laws_toWriteS_S (x : List (Int × Int × Unit) × Unit) : Option (List (Int × Int × Unit) × Unit) :=
  if 0 ≤ (↑(List.length x.1) : Int) ∧ (↑(List.length x.1) : Int) ≤ (↑(List.length x.1) : Int) ∧ (↑(List.length x.1) : Int) ≤ (↑2199023255552 : Int) then Option.bind (iter (fun v => laws_toWriteS_D3 (x.1, ()) v _ some) (0,
  List.replicate (Int.toNat (↑(List.length x.1) : Int)) (0, 0, ()), ())) fun p => some (p.1, ()) else none
noncomputable def q7_Ent : Ent := ⟨139, q7_ti, q7_to, laws_toWriteS_S⟩
theorem q7_HC : CfgOK Tryz.prog q7_C := hc_of g_tisOK g_wide (all_cons q6_OK all_nil)
theorem q7_lk3 : LkOK Tryz.prog q7_C (lpc Tryz.f139 0) :=
  lk_of q7_HC (m := 0) (T := q7_T3) (sp := q7_P3) (D := laws_toWriteS_D3) (E := q7_E3) (by kernel_rfl) (by kernel_rfl) (fun k hk => absurd hk (Nat.not_lt_zero k)) [3] q7_M3 (fun x => rfl) laws_toWriteS_D3_nat q7_K3 (fun i p R K => rfl) (fun i v => by kernel_rfl)
theorem q7_OK : EntOK Tryz.prog q7_Ent := ok_of q7_HC Tryz.func139 1 (by kernel_rfl) (fun k hk => match k, hk with | 0, _ => q7_lk3) (by kernel_rfl) (by kernel_rfl) (fun x => by kernel_rfl)
noncomputable def q10_C : Cfg := { ti := g_tis, ents := [], ann := [], lent := 0 }
def q10_ti : Tmpl := ⟨(.slot (Ty.prod Ty.i (Ty.prod Ty.i (Ty.prod (Ty.slice YReadMark) (Ty.prod (Ty.slice YReadMark)
  Ty.unit)))) .nil), .nil⟩
def q10_to : Tmpl := ⟨(.agg (.slot Ty.i (.slot Ty.i (.slot Ty.i (.slot Ty.i (.slot Ty.i (.slot Ty.i (.slot Ty.i (.slot (Ty.slice YReadMark) (.slot (Ty.slice YReadMark) .nil))))))))) .nil), .nil⟩
noncomputable def spec_l18Tx_S (x : (Int × Int × List (Int × Int × Unit) × List (Int × Int × Unit) × Unit) × Unit) : Option (Int × Int × Int × Int × Int × Int × Int × List (Int × Int × Unit) × List (Int × Int × Unit) × Unit) :=
  some (x.1.1, 1, 2, 0, 0, 1000, x.1.2.1, x.1.2.2.1, x.1.2.2.2.1, ())
noncomputable def q10_Ent : Ent := ⟨132, q10_ti, q10_to, spec_l18Tx_S⟩
theorem q10_HC : CfgOK Tryz.prog q10_C := hc_of g_tisOK g_wide all_nil
theorem q10_OK : EntOK Tryz.prog q10_Ent := ok_of q10_HC Tryz.func132 0 (by kernel_rfl) (fun k hk => absurd hk (Nat.not_lt_zero k)) (by kernel_rfl) (by kernel_rfl) (fun x => by kernel_rfl)
noncomputable def q11_C : Cfg := { ti := g_tis, ents := [], ann := [], lent := 0 }
def q11_ti : Tmpl := ⟨(.slot Ty.i (.slot Ty.i (.slot Ty.i .nil))), .nil⟩
def q11_to : Tmpl := ⟨(.slot (Ty.bool) .nil), .nil⟩
noncomputable def spec_l1In_S (x : Int × Int × Int × Unit) : Option (Bool × Unit) :=
  bif decide (x.1 ≥ x.2.1) then some (decide (x.1 ≤ x.2.2.1), ()) else some (false, ())
noncomputable def q11_Ent : Ent := ⟨226, q11_ti, q11_to, spec_l1In_S⟩
theorem q11_HC : CfgOK Tryz.prog q11_C := hc_of g_tisOK g_wide all_nil
theorem q11_OK : EntOK Tryz.prog q11_Ent := ok_of q11_HC Tryz.func226 0 (by kernel_rfl) (fun k hk => absurd hk (Nat.not_lt_zero k)) (by kernel_rfl) (by kernel_rfl) (fun x => by kernel_rfl)
noncomputable def q12_C : Cfg := { ti := g_tis, ents := [], ann := [], lent := 0 }
def q12_ti : Tmpl := ⟨(.slot YReadMark (.slot YReadMark .nil)), .nil⟩
def q12_to : Tmpl := ⟨(.slot (Ty.bool) .nil), .nil⟩
noncomputable def spec_l5Before_S (x : (Int × Int × Unit) × (Int × Int × Unit) × Unit) : Option (Bool × Unit) :=
  bif decide (x.1.1 < x.2.1.1) then some (true, ()) else bif x.1.1 == x.2.1.1 then some (decide (x.1.2.1 < x.2.1.2.1), ()) else some (false, ())
noncomputable def q12_Ent : Ent := ⟨255, q12_ti, q12_to, spec_l5Before_S⟩
theorem q12_HC : CfgOK Tryz.prog q12_C := hc_of g_tisOK g_wide all_nil
theorem q12_OK : EntOK Tryz.prog q12_Ent := ok_of q12_HC Tryz.func255 0 (by kernel_rfl) (fun k hk => absurd hk (Nat.not_lt_zero k)) (by kernel_rfl) (by kernel_rfl) (fun x => by kernel_rfl)
abbrev q13_I2 : Type := Int × Int × Int × Int × Int × Int × Int × List (Int × Int × Unit) × List (Int × Int × Unit) × Unit
abbrev q13_V2 : Type := Int × Unit
abbrev q13_Q2 : Type := Int × Int × Unit ⊕ Int × Int × Unit ⊕ Int × Int × Unit ⊕ Unit
noncomputable def spec_IsValidTransaction_D2 (i : q13_I2) (v : q13_V2) (R : Type) (K : q13_V2 ⊕ q13_Q2 → Option R) : Option R :=
  bif decide (v.1 < (↑(List.length i.2.2.2.2.2.2.2.1) : Int)) then Option.bind (lAt i.2.2.2.2.2.2.2.1 v.1) fun v_1 => Option.bind (spec_l1In_S (v_1.1, 0, 5, ())) fun v_2 => bif !v_2.1 then K (Sum.inr (Sum.inl (v_1.1, v_1.2.1, ()))) else
  Option.bind (spec_l1In_S (v_1.2.1, 0, 999, ())) fun v_3 => bif !v_3.1 then K (Sum.inr (Sum.inr (Sum.inl (v_1.1, v_1.2.1, ())))) else bif decide (v.1 > 0) then Option.bind (lAt i.2.2.2.2.2.2.2.1 (IntKind.wrap IntKind.i64 (v.1 - 1))) fun v_4
  => Option.bind (spec_l5Before_S ((v_4.1, v_4.2.1, ()), (v_1.1, v_1.2.1, ()), ())) fun v_5 => bif !v_5.1 then K (Sum.inr (Sum.inr (Sum.inr (Sum.inl (v_1.1, v_1.2.1, ()))))) else K (Sum.inl (IntKind.wrap IntKind.i64 (v.1 + 1), ())) else K
  (Sum.inl (IntKind.wrap IntKind.i64 (v.1 + 1), ())) else K (Sum.inr (Sum.inr (Sum.inr (Sum.inr ()))))
theorem spec_IsValidTransaction_D2_nat : NatD spec_IsValidTransaction_D2 := fun i v R K => nat_bif (nat_bind fun _ => nat_bind fun _ => nat_bif (nat_some) (nat_bind fun _ => nat_bif (nat_some) (nat_bif (nat_bind fun _ => nat_bind fun _ => nat_bif (nat_some) (nat_some)) (nat_some)))) (nat_some)
def q13_T2 : Tmpl := ⟨(.junk (.ptr 0 0 0 (.junk (.slot Ty.i (jk 127 .nil))))), (.cells 9 (.slot Ty.i (.slot Ty.i (.slot Ty.i (.slot Ty.i (.slot Ty.i (.slot Ty.i (.slot Ty.i (.slot (Ty.slice YReadMark) (.slot (Ty.slice YReadMark) .nil))))))))) .nil)⟩
def q13_X2_0 (i : q13_I2) (p : Int × Int × Unit) : St := ⟨jn 1 (AV.ptr 0 none 0 0 :: .b (false) :: jn 128 ([])), [some (Cont.cells 9 [[AV.pv Ty.i i.1, AV.pv Ty.i i.2.1, AV.pv Ty.i i.2.2.1, AV.pv Ty.i i.2.2.2.1, AV.pv (Ty.int
  IntKind.i64) i.2.2.2.2.1, AV.pv Ty.i i.2.2.2.2.2.1, AV.pv Ty.i i.2.2.2.2.2.2.1, AV.pv (Ty.slice YReadMark) i.2.2.2.2.2.2.2.1, AV.pv (Ty.slice
  YReadMark) i.2.2.2.2.2.2.2.2.1]]), some (Cont.cells 2 [[AV.pv Ty.i p.1, AV.pv Ty.i p.2.1]])]⟩
def q13_X2_1 (i : q13_I2) (p : Int × Int × Unit) : St := ⟨jn 1 (AV.ptr 0 none 0 0 :: .b (false) :: jn 128 ([])), [some (Cont.cells 9 [[AV.pv Ty.i i.1, AV.pv Ty.i i.2.1, AV.pv Ty.i i.2.2.1, AV.pv Ty.i i.2.2.2.1, AV.pv (Ty.int
  IntKind.i64) i.2.2.2.2.1, AV.pv Ty.i i.2.2.2.2.2.1, AV.pv Ty.i i.2.2.2.2.2.2.1, AV.pv (Ty.slice YReadMark) i.2.2.2.2.2.2.2.1, AV.pv (Ty.slice
  YReadMark) i.2.2.2.2.2.2.2.2.1]]), some (Cont.cells 2 [[AV.pv Ty.i p.1, AV.pv Ty.i p.2.1]])]⟩
def q13_X2_2 (i : q13_I2) (p : Int × Int × Unit) : St := ⟨jn 1 (AV.ptr 0 none 0 0 :: .b (false) :: jn 128 ([])), [some (Cont.cells 9 [[AV.pv Ty.i i.1, AV.pv Ty.i i.2.1, AV.pv Ty.i i.2.2.1, AV.pv Ty.i i.2.2.2.1, AV.pv (Ty.int
  IntKind.i64) i.2.2.2.2.1, AV.pv Ty.i i.2.2.2.2.2.1, AV.pv Ty.i i.2.2.2.2.2.2.1, AV.pv (Ty.slice YReadMark) i.2.2.2.2.2.2.2.1, AV.pv (Ty.slice
  YReadMark) i.2.2.2.2.2.2.2.2.1]]), some (Cont.cells 2 [[AV.pv Ty.i p.1, AV.pv Ty.i p.2.1]])]⟩
def q13_X2_3 (i : q13_I2) (p : Unit) : St := ⟨jn 1 (AV.ptr 0 none 0 0 :: jn 129 ([])), [some (Cont.cells 9 [[AV.pv Ty.i i.1, AV.pv Ty.i i.2.1, AV.pv Ty.i i.2.2.1, AV.pv Ty.i i.2.2.2.1, AV.pv Ty.i
  i.2.2.2.2.1, AV.pv Ty.i i.2.2.2.2.2.1, AV.pv Ty.i i.2.2.2.2.2.2.1, AV.pv (Ty.slice YReadMark) i.2.2.2.2.2.2.2.1, AV.pv (Ty.slice (Ty.prod (Ty.int
  IntKind.i64) (Ty.prod Ty.i Ty.unit))) i.2.2.2.2.2.2.2.2.1]])]⟩
noncomputable def q13_E2 (i : q13_I2) (p : q13_Q2) (R : Type) (K : Ex → St → Option R) : Option R := sumC p (fun p => K (Ex.ret) (q13_X2_0 i p)) fun p => sumC p (fun p => K (Ex.ret) (q13_X2_1 i p)) fun p => sumC p (fun p => K (Ex.ret) (q13_X2_2 i p)) fun p => K (Ex.exit 0) (q13_X2_3 i p)
noncomputable def q13_K2 (i : q13_I2) (p : q13_Q2) : Ex × St := sumC p (fun p => (Ex.ret, q13_X2_0 i p)) fun p => sumC p (fun p => (Ex.ret, q13_X2_1 i p)) fun p => sumC p (fun p => (Ex.ret, q13_X2_2 i p)) fun p => (Ex.exit 0, q13_X2_3 i p)
def q13_M2 (i : q13_I2) (v : q13_V2) : den q13_T2.ty := (v.1, i.1, i.2.1, i.2.2.1, i.2.2.2.1, i.2.2.2.2.1, i.2.2.2.2.2.1, i.2.2.2.2.2.2.1, i.2.2.2.2.2.2.2.1, i.2.2.2.2.2.2.2.2.1, ())
def q13_P2 (x : den q13_T2.ty) : q13_I2 × q13_V2 := ((x.2.1, x.2.2.1, x.2.2.2.1, x.2.2.2.2.1, x.2.2.2.2.2.1, x.2.2.2.2.2.2.1, x.2.2.2.2.2.2.2.1, x.2.2.2.2.2.2.2.2.1, x.2.2.2.2.2.2.2.2.2.1, ()), (x.1, ()))
abbrev q13_I8 : Type := Int × Int × Int × Int × Int × Int × Int × List (Int × Int × Unit) × List (Int × Int × Unit) × Unit
abbrev q13_V8 : Type := Int × Unit
abbrev q13_Q8 : Type := Int × Int × Unit ⊕ Int × Int × Unit ⊕ Int × Int × Unit ⊕ Unit
noncomputable def spec_IsValidTransaction_D8 (i : q13_I8) (v : q13_V8) (R : Type) (K : q13_V8 ⊕ q13_Q8 → Option R) : Option R :=
  bif decide (v.1 < (↑(List.length i.2.2.2.2.2.2.2.2.1) : Int)) then Option.bind (lAt i.2.2.2.2.2.2.2.2.1 v.1) fun v_1 => Option.bind (spec_l1In_S (v_1.1, 0, 5, ())) fun v_2 => bif !v_2.1 then K (Sum.inr (Sum.inl (v_1.1, v_1.2.1, ()))) else
  Option.bind (spec_l1In_S (v_1.2.1, -1, 99, ())) fun v_3 => bif !v_3.1 then K (Sum.inr (Sum.inr (Sum.inl (v_1.1, v_1.2.1, ())))) else bif decide (v.1 > 0) then Option.bind (lAt i.2.2.2.2.2.2.2.2.1 (IntKind.wrap IntKind.i64 (v.1 - 1))) fun v_4
  => bif decide (v_4.1 ≥ v_1.1) then K (Sum.inr (Sum.inr (Sum.inr (Sum.inl (v_1.1, v_1.2.1, ()))))) else K (Sum.inl (IntKind.wrap IntKind.i64 (v.1 + 1), ())) else K (Sum.inl (IntKind.wrap IntKind.i64 (v.1 + 1), ())) else K (Sum.inr (Sum.inr
  (Sum.inr (Sum.inr ()))))
theorem spec_IsValidTransaction_D8_nat : NatD spec_IsValidTransaction_D8 := fun i v R K => nat_bif (nat_bind fun _ => nat_bind fun _ => nat_bif (nat_some) (nat_bind fun _ => nat_bif (nat_some) (nat_bif (nat_bind fun _ => nat_bif (nat_some) (nat_some)) (nat_some)))) (nat_some)
def q13_T8 : Tmpl := ⟨(.junk (.ptr 0 0 0 (jk 3 (.slot Ty.i (jk 125 .nil))))), (.cells 9 (.slot Ty.i (.slot Ty.i (.slot Ty.i (.slot Ty.i (.slot Ty.i (.slot Ty.i (.slot Ty.i (.slot (Ty.slice YReadMark) (.slot (Ty.slice YReadMark) .nil))))))))) .nil)⟩
def q13_X8_0 (i : q13_I8) (p : Int × Int × Unit) : St := ⟨jn 1 (AV.ptr 0 none 0 0 :: .b (false) :: jn 128 ([])), [some (Cont.cells 9 [[AV.pv Ty.i i.1, AV.pv Ty.i i.2.1, AV.pv Ty.i i.2.2.1, AV.pv Ty.i i.2.2.2.1, AV.pv (Ty.int
  IntKind.i64) i.2.2.2.2.1, AV.pv Ty.i i.2.2.2.2.2.1, AV.pv Ty.i i.2.2.2.2.2.2.1, AV.pv (Ty.slice YReadMark) i.2.2.2.2.2.2.2.1, AV.pv (Ty.slice
  YReadMark) i.2.2.2.2.2.2.2.2.1]]), some (Cont.cells 2 [[AV.pv Ty.i p.1, AV.pv Ty.i p.2.1]])]⟩
def q13_X8_1 (i : q13_I8) (p : Int × Int × Unit) : St := ⟨jn 1 (AV.ptr 0 none 0 0 :: .b (false) :: jn 128 ([])), [some (Cont.cells 9 [[AV.pv Ty.i i.1, AV.pv Ty.i i.2.1, AV.pv Ty.i i.2.2.1, AV.pv Ty.i i.2.2.2.1, AV.pv (Ty.int
  IntKind.i64) i.2.2.2.2.1, AV.pv Ty.i i.2.2.2.2.2.1, AV.pv Ty.i i.2.2.2.2.2.2.1, AV.pv (Ty.slice YReadMark) i.2.2.2.2.2.2.2.1, AV.pv (Ty.slice
  YReadMark) i.2.2.2.2.2.2.2.2.1]]), some (Cont.cells 2 [[AV.pv Ty.i p.1, AV.pv Ty.i p.2.1]])]⟩
def q13_X8_2 (i : q13_I8) (p : Int × Int × Unit) : St := ⟨jn 1 (AV.ptr 0 none 0 0 :: .b (false) :: jn 128 ([])), [some (Cont.cells 9 [[AV.pv Ty.i i.1, AV.pv Ty.i i.2.1, AV.pv Ty.i i.2.2.1, AV.pv Ty.i i.2.2.2.1, AV.pv (Ty.int
  IntKind.i64) i.2.2.2.2.1, AV.pv Ty.i i.2.2.2.2.2.1, AV.pv Ty.i i.2.2.2.2.2.2.1, AV.pv (Ty.slice YReadMark) i.2.2.2.2.2.2.2.1, AV.pv (Ty.slice
  YReadMark) i.2.2.2.2.2.2.2.2.1]]), some (Cont.cells 2 [[AV.pv Ty.i p.1, AV.pv Ty.i p.2.1]])]⟩
def q13_X8_3 (i : q13_I8) (p : Unit) : St := ⟨jn 1 (AV.ptr 0 none 0 0 :: jn 129 ([])), [some (Cont.cells 9 [[AV.pv Ty.i i.1, AV.pv Ty.i i.2.1, AV.pv Ty.i i.2.2.1, AV.pv Ty.i i.2.2.2.1, AV.pv Ty.i
  i.2.2.2.2.1, AV.pv Ty.i i.2.2.2.2.2.1, AV.pv Ty.i i.2.2.2.2.2.2.1, AV.pv (Ty.slice YReadMark) i.2.2.2.2.2.2.2.1, AV.pv (Ty.slice (Ty.prod (Ty.int
  IntKind.i64) (Ty.prod Ty.i Ty.unit))) i.2.2.2.2.2.2.2.2.1]])]⟩
noncomputable def q13_E8 (i : q13_I8) (p : q13_Q8) (R : Type) (K : Ex → St → Option R) : Option R := sumC p (fun p => K (Ex.ret) (q13_X8_0 i p)) fun p => sumC p (fun p => K (Ex.ret) (q13_X8_1 i p)) fun p => sumC p (fun p => K (Ex.ret) (q13_X8_2 i p)) fun p => K (Ex.exit 2) (q13_X8_3 i p)
noncomputable def q13_K8 (i : q13_I8) (p : q13_Q8) : Ex × St := sumC p (fun p => (Ex.ret, q13_X8_0 i p)) fun p => sumC p (fun p => (Ex.ret, q13_X8_1 i p)) fun p => sumC p (fun p => (Ex.ret, q13_X8_2 i p)) fun p => (Ex.exit 2, q13_X8_3 i p)
def q13_M8 (i : q13_I8) (v : q13_V8) : den q13_T8.ty := (v.1, i.1, i.2.1, i.2.2.1, i.2.2.2.1, i.2.2.2.2.1, i.2.2.2.2.2.1, i.2.2.2.2.2.2.1, i.2.2.2.2.2.2.2.1, i.2.2.2.2.2.2.2.2.1, ())
def q13_P8 (x : den q13_T8.ty) : q13_I8 × q13_V8 := ((x.2.1, x.2.2.1, x.2.2.2.1, x.2.2.2.2.1, x.2.2.2.2.2.1, x.2.2.2.2.2.2.1, x.2.2.2.2.2.2.2.1, x.2.2.2.2.2.2.2.2.1, x.2.2.2.2.2.2.2.2.2.1, ()), (x.1, ()))
noncomputable def q13_C : Cfg := { ti := g_tis, ents := [q11_Ent, q12_Ent], ann := [(2, loopFn q13_T2 0 q13_P2 spec_IsValidTransaction_D2 q13_E2), (8, loopFn q13_T8 0 q13_P8 spec_IsValidTransaction_D8 q13_E8)], lent := 0 }
def q13_ti : Tmpl := ⟨(.slot (Ty.prod Ty.i (Ty.prod Ty.i (Ty.prod Ty.i (Ty.prod Ty.i (Ty.prod Ty.i (Ty.prod Ty.i (Ty.prod Ty.i (Ty.prod (Ty.slice (Ty.prod
  Ty.i (Ty.prod Ty.i Ty.unit))) (Ty.prod (Ty.slice YReadMark) Ty.unit))))))))) .nil), .nil⟩
def q13_to : Tmpl := ⟨(.slot (Ty.bool) .nil), .nil⟩
noncomputable def spec_IsValidTransaction_S (x : (Int × Int × Int × Int × Int × Int × Int × List (Int × Int × Unit) × List (Int × Int × Unit) × Unit) × Unit) : Option (Bool × Unit) :=
  Option.bind (iter (fun v => spec_IsValidTransaction_D2 (x.1.1, x.1.2.1, x.1.2.2.1, x.1.2.2.2.1, x.1.2.2.2.2.1, x.1.2.2.2.2.2.1, x.1.2.2.2.2.2.2.1, x.1.2.2.2.2.2.2.2.1, x.1.2.2.2.2.2.2.2.2.1, ()) v _ some) (0, ())) fun p => sumC p
  (fun p => some (false, ())) fun p => sumC p (fun p => some (false, ())) fun p => sumC p (fun p => some (false, ())) fun p => Option.bind (iter (fun v => spec_IsValidTransaction_D8 (x.1.1, x.1.2.1, x.1.2.2.1, x.1.2.2.2.1, x.1.2.2.2.2.1,
  x.1.2.2.2.2.2.1, x.1.2.2.2.2.2.2.1, x.1.2.2.2.2.2.2.2.1, x.1.2.2.2.2.2.2.2.2.1, ()) v _ some) (0, ())) fun p => sumC p (fun p => some (false, ())) fun p => sumC p (fun p => some (false, ())) fun p => sumC p (fun p => some (false,
  ())) fun p => Option.bind (spec_l1In_S (x.1.1, 1, 9, ())) fun v => bif !v.1 then some (false, ()) else Option.bind (spec_l1In_S (x.1.2.1, 1, 4, ())) fun v => bif !v.1 then some (false, ()) else Option.bind (spec_l1In_S (x.1.2.2.2.1, 0, 999,
  ())) fun v => bif !v.1 then some (false, ()) else Option.bind (spec_l1In_S (x.1.2.2.1, 1, 3, ())) fun v => bif v.1 then Option.bind (spec_l1In_S (x.1.2.2.2.2.1, 0, 999, ())) fun v => bif v.1 then Option.bind (spec_l1In_S (x.1.2.2.2.2.2.1, 1,
  1000, ())) fun v => bif v.1 then bif (x.1.2.2.1 == 2) == decide (x.1.2.2.2.2.2.2.1 > 0) then Option.bind (spec_l1In_S (x.1.2.2.2.2.2.2.1, 0, 999, ())) fun v => bif v.1 then some (decide ((↑(List.length x.1.2.2.2.2.2.2.2.1) : Int) ≤ 60), ())
  else some (false, ()) else some (false, ()) else some (false, ()) else some (false, ()) else some (false, ())
noncomputable def q13_Ent : Ent := ⟨131, q13_ti, q13_to, spec_IsValidTransaction_S⟩
theorem q13_HC : CfgOK Tryz.prog q13_C := hc_of g_tisOK g_wide (all_cons q11_OK (all_cons q12_OK all_nil))
theorem q13_lk8 : LkOK Tryz.prog q13_C (lpc Tryz.f131 1) :=
  lk_of q13_HC (m := 0) (T := q13_T8) (sp := q13_P8) (D := spec_IsValidTransaction_D8) (E := q13_E8) (by kernel_rfl) (by kernel_rfl) (fun k hk => absurd hk (Nat.not_lt_zero k)) [1, 2] q13_M8 (fun x => rfl) spec_IsValidTransaction_D8_nat q13_K8 (fun i p R K => by rcases p with p | p | p | p <;> rfl) (fun i v => by kernel_rfl)
theorem q13_lk2 : LkOK Tryz.prog q13_C (lpc Tryz.f131 0) :=
  lk_of q13_HC (m := 0) (T := q13_T2) (sp := q13_P2) (D := spec_IsValidTransaction_D2) (E := q13_E2) (by kernel_rfl) (by kernel_rfl) (fun k hk => absurd hk (Nat.not_lt_zero k)) [1, 2] q13_M2 (fun x => rfl) spec_IsValidTransaction_D2_nat q13_K2 (fun i p R K => by rcases p with p | p | p | p <;> rfl) (fun i v => by kernel_rfl)
theorem q13_OK : EntOK Tryz.prog q13_Ent := ok_of q13_HC Tryz.func131 2 (by kernel_rfl) (fun k hk => match k, hk with | 0, _ => q13_lk2 | 1, _ => q13_lk8) (by kernel_rfl) (by kernel_rfl) (fun x => by kernel_rfl)
abbrev q14_I2 : Type := List (Int × Int × List (Int × Int × Unit) × List (Int × Int × Unit) × Unit) × Int × Unit
abbrev q14_V2 : Type := Int × Unit
abbrev q14_Q2 : Type := Int × Unit ⊕ Unit
noncomputable def spec_FindEntry_D2 (i : q14_I2) (v : q14_V2) (R : Type) (K : q14_V2 ⊕ q14_Q2 → Option R) : Option R :=
  bif decide (v.1 < (↑(List.length i.1) : Int)) then Option.bind (lAt i.1 v.1) fun v_1 => bif v_1.1 == i.2.1 then K (Sum.inr (Sum.inl (v.1, ()))) else K (Sum.inl (IntKind.wrap IntKind.i64 (v.1 + 1), ())) else K (Sum.inr (Sum.inr ()))
theorem spec_FindEntry_D2_nat : NatD spec_FindEntry_D2 := fun i v R K => nat_bif (nat_bind fun _ => nat_bif (nat_some) (nat_some)) (nat_some)
def q14_T2 : Tmpl := ⟨(.slot (Ty.slice (Ty.prod Ty.i (Ty.prod Ty.i (Ty.prod (Ty.slice YReadMark) (Ty.prod (Ty.slice (Ty.prod Ty.i (Ty.prod Ty.i
  Ty.unit))) Ty.unit))))) (.slot Ty.i (jk 3 (.slot Ty.i (jk 14 .nil))))), .nil⟩
def q14_X2_0 (i : q14_I2) (p : Int × Unit) : St := ⟨jn 4 (.n (p.1) :: jn 15 ([])), []⟩
def q14_X2_1 (i : q14_I2) (p : Unit) : St := ⟨jn 20 ([]), []⟩
noncomputable def q14_E2 (i : q14_I2) (p : q14_Q2) (R : Type) (K : Ex → St → Option R) : Option R := sumC p (fun p => K (Ex.ret) (q14_X2_0 i p)) fun p => K (Ex.exit 0) (q14_X2_1 i p)
noncomputable def q14_K2 (i : q14_I2) (p : q14_Q2) : Ex × St := sumC p (fun p => (Ex.ret, q14_X2_0 i p)) fun p => (Ex.exit 0, q14_X2_1 i p)
def q14_M2 (i : q14_I2) (v : q14_V2) : den q14_T2.ty := (i.1, i.2.1, v.1, ())
def q14_P2 (x : den q14_T2.ty) : q14_I2 × q14_V2 := ((x.1, x.2.1, ()), (x.2.2.1, ()))
noncomputable def q14_C : Cfg := { ti := g_tis, ents := [], ann := [(2, loopFn q14_T2 0 q14_P2 spec_FindEntry_D2 q14_E2)], lent := 0 }
def q14_ti : Tmpl := ⟨(.slot (Ty.slice (Ty.prod Ty.i (Ty.prod Ty.i (Ty.prod (Ty.slice YReadMark) (Ty.prod (Ty.slice (Ty.prod Ty.i (Ty.prod Ty.i
  Ty.unit))) Ty.unit))))) (.slot Ty.i .nil)), .nil⟩
def q14_to : Tmpl := ⟨(.slot Ty.i .nil), .nil⟩
noncomputable def spec_FindEntry_S (x : List (Int × Int × List (Int × Int × Unit) × List (Int × Int × Unit) × Unit) × Int × Unit) : Option (Int × Unit) :=
  Option.bind (iter (fun v => spec_FindEntry_D2 (x.1, x.2.1, ()) v _ some) (0, ())) fun p => sumC p (fun p => some (p.1, ())) fun p => some (-1, ())
noncomputable def q14_Ent : Ent := ⟨133, q14_ti, q14_to, spec_FindEntry_S⟩
theorem q14_HC : CfgOK Tryz.prog q14_C := hc_of g_tisOK g_wide all_nil
theorem q14_lk2 : LkOK Tryz.prog q14_C (lpc Tryz.f133 0) :=
  lk_of q14_HC (m := 0) (T := q14_T2) (sp := q14_P2) (D := spec_FindEntry_D2) (E := q14_E2) (by kernel_rfl) (by kernel_rfl) (fun k hk => absurd hk (Nat.not_lt_zero k)) [4] q14_M2 (fun x => rfl) spec_FindEntry_D2_nat q14_K2 (fun i p R K => by rcases p with p | p <;> rfl) (fun i v => by kernel_rfl)
theorem q14_OK : EntOK Tryz.prog q14_Ent := ok_of q14_HC Tryz.func133 1 (by kernel_rfl) (fun k hk => match k, hk with | 0, _ => q14_lk2) (by kernel_rfl) (by kernel_rfl) (fun x => by kernel_rfl)
abbrev q15_I5 : Type := List (Int × Int × List (Int × Int × Unit) × List (Int × Int × Unit) × Unit) × Int × Int × Int × Unit
abbrev q15_V5 : Type := Int × Unit
abbrev q15_Q5 : Type := Int × Unit ⊕ Unit
noncomputable def spec_WriterOf_D5 (i : q15_I5) (v : q15_V5) (R : Type) (K : q15_V5 ⊕ q15_Q5 → Option R) : Option R :=
  Option.bind (lAt i.1 i.2.1) fun v_1 => bif decide (v.1 < (↑(List.length v_1.2.2.2.1) : Int)) then Option.bind (lAt i.1 i.2.1) fun v_2 => bif v_2.2.1 == i.2.2.2.1 then Option.bind (lAt i.1 i.2.1) fun v_3 => Option.bind (lAt v_3.2.2.2.1 v.1)
  fun v_4 => bif v_4.1 == i.2.2.1 then Option.bind (lAt i.1 i.2.1) fun v => K (Sum.inr (Sum.inl (v.1, ()))) else K (Sum.inl (IntKind.wrap IntKind.i64 (v.1 + 1), ())) else K (Sum.inl (IntKind.wrap IntKind.i64 (v.1 + 1), ())) else K (Sum.inr
  (Sum.inr ()))
theorem spec_WriterOf_D5_nat : NatD spec_WriterOf_D5 := fun i v R K => nat_bind fun _ => nat_bif (nat_bind fun _ => nat_bif (nat_bind fun _ => nat_bind fun _ => nat_bif (nat_bind fun _ => nat_some) (nat_some)) (nat_some)) (nat_some)
def q15_T5 : Tmpl := ⟨(.slot (Ty.slice (Ty.prod Ty.i (Ty.prod Ty.i (Ty.prod (Ty.slice YReadMark) (Ty.prod (Ty.slice (Ty.prod Ty.i (Ty.prod Ty.i
  Ty.unit))) Ty.unit))))) (jk 2 (.ptr 0 0 0 (.junk (.slot Ty.i (.slot Ty.i (jk 43 .nil))))))), (.cells 2 (.slot Ty.i (.slot Ty.i .nil)) .nil)⟩
def q15_X5_0 (i : q15_I5) (p : Int × Unit) : St := ⟨AV.pv (Ty.slice (Ty.prod Ty.i (Ty.prod Ty.i (Ty.prod (Ty.slice YReadMark) (Ty.prod (Ty.slice (Ty.prod Ty.i (Ty.prod (Ty.int
  IntKind.i64) Ty.unit))) Ty.unit))))) i.1 :: jn 2 (AV.ptr 0 none 0 0 :: .n (p.1) :: .n (i.2.1) :: jn 44 ([])), [some (Cont.cells 2 [[AV.pv Ty.i i.2.2.1, AV.pv Ty.i i.2.2.2.1]])]⟩
def q15_X5_1 (i : q15_I5) (p : Unit) : St := ⟨AV.pv (Ty.slice (Ty.prod Ty.i (Ty.prod Ty.i (Ty.prod (Ty.slice YReadMark) (Ty.prod (Ty.slice (Ty.prod Ty.i (Ty.prod (Ty.int
  IntKind.i64) Ty.unit))) Ty.unit))))) i.1 :: jn 2 (AV.ptr 0 none 0 0 :: jn 1 (.n (i.2.1) :: jn 44 ([]))), [some (Cont.cells 2 [[AV.pv Ty.i i.2.2.1, AV.pv Ty.i i.2.2.2.1]])]⟩
noncomputable def q15_E5 (i : q15_I5) (p : q15_Q5) (R : Type) (K : Ex → St → Option R) : Option R := sumC p (fun p => K (Ex.ret) (q15_X5_0 i p)) fun p => K (Ex.exit 2) (q15_X5_1 i p)
noncomputable def q15_K5 (i : q15_I5) (p : q15_Q5) : Ex × St := sumC p (fun p => (Ex.ret, q15_X5_0 i p)) fun p => (Ex.exit 2, q15_X5_1 i p)
def q15_M5 (i : q15_I5) (v : q15_V5) : den q15_T5.ty := (i.1, i.2.1, v.1, i.2.2.1, i.2.2.2.1, ())
def q15_P5 (x : den q15_T5.ty) : q15_I5 × q15_V5 := ((x.1, x.2.1, x.2.2.2.1, x.2.2.2.2.1, ()), (x.2.2.1, ()))
abbrev q15_I2 : Type := List (Int × Int × List (Int × Int × Unit) × List (Int × Int × Unit) × Unit) × Int × Int × Unit
abbrev q15_V2 : Type := Int × Unit
abbrev q15_Q2 : Type := Int × Unit ⊕ Unit
noncomputable def spec_WriterOf_D2 (i : q15_I2) (v : q15_V2) (R : Type) (K : q15_V2 ⊕ q15_Q2 → Option R) : Option R :=
  bif decide (v.1 < (↑(List.length i.1) : Int)) then Option.bind (iter (fun v_1 => spec_WriterOf_D5 (i.1, v.1, i.2.1, i.2.2.1, ()) v_1 _ some) (0, ())) fun p => sumC p (fun p => K (Sum.inr (Sum.inl (p.1, ())))) fun p => K (Sum.inl
  (IntKind.wrap IntKind.i64 (v.1 + 1), ())) else K (Sum.inr (Sum.inr ()))
theorem spec_WriterOf_D2_nat : NatD spec_WriterOf_D2 := fun i v R K => nat_bif (nat_bind fun _ => nat_sum (fun _ => nat_some) (fun _ => nat_some)) (nat_some)
def q15_T2 : Tmpl := ⟨(.slot (Ty.slice (Ty.prod Ty.i (Ty.prod Ty.i (Ty.prod (Ty.slice YReadMark) (Ty.prod (Ty.slice (Ty.prod Ty.i (Ty.prod Ty.i
  Ty.unit))) Ty.unit))))) (jk 2 (.ptr 0 0 0 (.junk (.slot Ty.i (jk 44 .nil)))))), (.cells 2 (.slot Ty.i (.slot Ty.i .nil)) .nil)⟩
def q15_X2_0 (i : q15_I2) (p : Int × Unit) : St := ⟨jn 4 (.n (p.1) :: jn 45 ([])), [some (Cont.cells 2 [[AV.pv Ty.i i.2.1, AV.pv Ty.i i.2.2.1]])]⟩
def q15_X2_1 (i : q15_I2) (p : Unit) : St := ⟨jn 50 ([]), [some (Cont.cells 2 [[AV.pv Ty.i i.2.1, AV.pv Ty.i i.2.2.1]])]⟩
noncomputable def q15_E2 (i : q15_I2) (p : q15_Q2) (R : Type) (K : Ex → St → Option R) : Option R := sumC p (fun p => K (Ex.ret) (q15_X2_0 i p)) fun p => K (Ex.exit 0) (q15_X2_1 i p)
noncomputable def q15_K2 (i : q15_I2) (p : q15_Q2) : Ex × St := sumC p (fun p => (Ex.ret, q15_X2_0 i p)) fun p => (Ex.exit 0, q15_X2_1 i p)
def q15_M2 (i : q15_I2) (v : q15_V2) : den q15_T2.ty := (i.1, v.1, i.2.1, i.2.2.1, ())
def q15_P2 (x : den q15_T2.ty) : q15_I2 × q15_V2 := ((x.1, x.2.2.1, x.2.2.2.1, ()), (x.2.1, ()))
noncomputable def q15_C : Cfg := { ti := g_tis, ents := [], ann := [(5, loopFn q15_T5 0 q15_P5 spec_WriterOf_D5 q15_E5), (2, loopFn q15_T2 0 q15_P2 spec_WriterOf_D2 q15_E2)], lent := 0 }
def q15_ti : Tmpl := ⟨(.slot (Ty.slice (Ty.prod Ty.i (Ty.prod Ty.i (Ty.prod (Ty.slice YReadMark) (Ty.prod (Ty.slice (Ty.prod Ty.i (Ty.prod Ty.i
  Ty.unit))) Ty.unit))))) (.slot YReadMark .nil)), .nil⟩
def q15_to : Tmpl := ⟨(.slot Ty.i .nil), .nil⟩
noncomputable def spec_WriterOf_S (x : List (Int × Int × List (Int × Int × Unit) × List (Int × Int × Unit) × Unit) × (Int × Int × Unit) × Unit) : Option (Int × Unit) :=
  Option.bind (iter (fun v => spec_WriterOf_D2 (x.1, x.2.1.1, x.2.1.2.1, ()) v _ some) (0, ())) fun p => sumC p (fun p => some (p.1, ())) fun p => some (0, ())
noncomputable def q15_Ent : Ent := ⟨134, q15_ti, q15_to, spec_WriterOf_S⟩
theorem q15_HC : CfgOK Tryz.prog q15_C := hc_of g_tisOK g_wide all_nil
theorem q15_lk5 : LkOK Tryz.prog q15_C (lpc Tryz.f134 1) :=
  lk_of q15_HC (m := 0) (T := q15_T5) (sp := q15_P5) (D := spec_WriterOf_D5) (E := q15_E5) (by kernel_rfl) (by kernel_rfl) (fun k hk => absurd hk (Nat.not_lt_zero k)) [0, 3, 4, 5] q15_M5 (fun x => rfl) spec_WriterOf_D5_nat q15_K5 (fun i p R K => by rcases p with p | p <;> rfl) (fun i v => by kernel_rfl)
theorem q15_lk2 : LkOK Tryz.prog q15_C (lpc Tryz.f134 0) :=
  lk_of q15_HC (m := 1) (T := q15_T2) (sp := q15_P2) (D := spec_WriterOf_D2) (E := q15_E2) (by kernel_rfl) (by kernel_rfl) (fun k hk => match k, hk with | 0, _ => lk_at (by kernel_rfl) q15_lk5) [4] q15_M2 (fun x => rfl) spec_WriterOf_D2_nat q15_K2 (fun i p R K => by rcases p with p | p <;> rfl) (fun i v => by kernel_rfl)
theorem q15_OK : EntOK Tryz.prog q15_Ent := ok_of q15_HC Tryz.func134 2 (by kernel_rfl) (fun k hk => match k, hk with | 0, _ => q15_lk2 | 1, _ => q15_lk5) (by kernel_rfl) (by kernel_rfl) (fun x => by kernel_rfl)
abbrev q16_I2 : Type := List (Int × Int × List (Int × Int × Unit) × List (Int × Int × Unit) × Unit) × Unit
abbrev q16_V2 : Type := Int × Unit
abbrev q16_Q2 : Type := Unit ⊕ Unit ⊕ Unit ⊕ Unit ⊕ Unit
noncomputable def spec_IsHistory_D2 (i : q16_I2) (v : q16_V2) (R : Type) (K : q16_V2 ⊕ q16_Q2 → Option R) : Option R :=
  bif decide (v.1 < (↑(List.length i.1) : Int)) then Option.bind (lAt i.1 v.1) fun v_1 => Option.bind (spec_l18Tx_S ((v_1.1, v_1.2.1, v_1.2.2.1, v_1.2.2.2.1, ()), ())) fun v_2 => Option.bind (spec_IsValidTransaction_S ((v_2.1, v_2.2.1,
  v_2.2.2.1, v_2.2.2.2.1, v_2.2.2.2.2.1, v_2.2.2.2.2.2.1, v_2.2.2.2.2.2.2.1, v_2.2.2.2.2.2.2.2.1, v_2.2.2.2.2.2.2.2.2.1, ()), ())) fun v_3 => bif !v_3.1 then K (Sum.inr (Sum.inl ())) else Option.bind (slAt i.1 0 v.1) fun v_4 => Option.bind
  (lAt i.1 v.1) fun v_5 => Option.bind (spec_FindEntry_S (v_4, v_5.1, ())) fun v_6 => bif decide (v_6.1 ≥ 0) then K (Sum.inr (Sum.inr (Sum.inl ()))) else bif decide (v.1 > 0) then Option.bind (lAt i.1 (IntKind.wrap IntKind.i64 (v.1 - 1))) fun
  v_7 => Option.bind (lAt i.1 v.1) fun v_8 => bif decide (v_7.2.1 > v_8.2.1) then K (Sum.inr (Sum.inr (Sum.inr (Sum.inl ())))) else Option.bind (lAt i.1 (IntKind.wrap IntKind.i64 (v.1 - 1))) fun v_9 => Option.bind (lAt i.1 v.1) fun v_10 => bif
  v_9.2.1 == v_10.2.1 then Option.bind (lAt i.1 v.1) fun v_11 => bif decide ((↑(List.length v_11.2.2.2.1) : Int) > 0) then K (Sum.inr (Sum.inr (Sum.inr (Sum.inr (Sum.inl ()))))) else K (Sum.inl (IntKind.wrap IntKind.i64 (v.1 + 1), ())) else K
  (Sum.inl (IntKind.wrap IntKind.i64 (v.1 + 1), ())) else K (Sum.inl (IntKind.wrap IntKind.i64 (v.1 + 1), ())) else K (Sum.inr (Sum.inr (Sum.inr (Sum.inr (Sum.inr ())))))
theorem spec_IsHistory_D2_nat : NatD spec_IsHistory_D2 := fun i v R K => nat_bif (nat_bind fun _ => nat_bind fun _ => nat_bind fun _ => nat_bif (nat_some) (nat_bind fun _ => nat_bind fun _ => nat_bind fun _ => nat_bif (nat_some) (nat_bif (nat_bind fun _ => nat_bind fun _ => nat_bif (nat_some) (nat_bind fun _ => nat_bind fun _ => nat_bif (nat_bind fun _ => nat_bif (nat_some) (nat_some)) (nat_some))) (nat_some)))) (nat_some)
def q16_T2 : Tmpl := ⟨(.slot (Ty.slice (Ty.prod Ty.i (Ty.prod Ty.i (Ty.prod (Ty.slice YReadMark) (Ty.prod (Ty.slice (Ty.prod Ty.i (Ty.prod Ty.i
  Ty.unit))) Ty.unit))))) (jk 2 (.slot Ty.i (jk 119 .nil)))), .nil⟩
def q16_X2_0 (i : q16_I2) (p : Unit) : St := ⟨AV.pv (Ty.slice (Ty.prod Ty.i (Ty.prod Ty.i (Ty.prod (Ty.slice YReadMark) (Ty.prod (Ty.slice (Ty.prod Ty.i (Ty.prod (Ty.int
  IntKind.i64) Ty.unit))) Ty.unit))))) i.1 :: jn 1 (.b (false) :: jn 120 ([])), []⟩
def q16_X2_1 (i : q16_I2) (p : Unit) : St := ⟨AV.pv (Ty.slice (Ty.prod Ty.i (Ty.prod Ty.i (Ty.prod (Ty.slice YReadMark) (Ty.prod (Ty.slice (Ty.prod Ty.i (Ty.prod (Ty.int
  IntKind.i64) Ty.unit))) Ty.unit))))) i.1 :: jn 1 (.b (false) :: jn 120 ([])), []⟩
def q16_X2_2 (i : q16_I2) (p : Unit) : St := ⟨AV.pv (Ty.slice (Ty.prod Ty.i (Ty.prod Ty.i (Ty.prod (Ty.slice YReadMark) (Ty.prod (Ty.slice (Ty.prod Ty.i (Ty.prod (Ty.int
  IntKind.i64) Ty.unit))) Ty.unit))))) i.1 :: jn 1 (.b (false) :: jn 120 ([])), []⟩
def q16_X2_3 (i : q16_I2) (p : Unit) : St := ⟨AV.pv (Ty.slice (Ty.prod Ty.i (Ty.prod Ty.i (Ty.prod (Ty.slice YReadMark) (Ty.prod (Ty.slice (Ty.prod Ty.i (Ty.prod (Ty.int
  IntKind.i64) Ty.unit))) Ty.unit))))) i.1 :: jn 1 (.b (false) :: jn 120 ([])), []⟩
def q16_X2_4 (i : q16_I2) (p : Unit) : St := ⟨AV.pv (Ty.slice (Ty.prod Ty.i (Ty.prod Ty.i (Ty.prod (Ty.slice YReadMark) (Ty.prod (Ty.slice (Ty.prod Ty.i (Ty.prod (Ty.int
  IntKind.i64) Ty.unit))) Ty.unit))))) i.1 :: jn 122 ([]), []⟩
noncomputable def q16_E2 (i : q16_I2) (p : q16_Q2) (R : Type) (K : Ex → St → Option R) : Option R := sumC p (fun p => K (Ex.ret) (q16_X2_0 i p)) fun p => sumC p (fun p => K (Ex.ret) (q16_X2_1 i p)) fun p => sumC p (fun p => K (Ex.ret) (q16_X2_2 i p)) fun p => sumC p (fun p => K (Ex.ret) (q16_X2_3 i p)) fun p => K (Ex.exit 0) (q16_X2_4 i p)
noncomputable def q16_K2 (i : q16_I2) (p : q16_Q2) : Ex × St := sumC p (fun p => (Ex.ret, q16_X2_0 i p)) fun p => sumC p (fun p => (Ex.ret, q16_X2_1 i p)) fun p => sumC p (fun p => (Ex.ret, q16_X2_2 i p)) fun p => sumC p (fun p => (Ex.ret, q16_X2_3 i p)) fun p => (Ex.exit 0, q16_X2_4 i p)
def q16_M2 (i : q16_I2) (v : q16_V2) : den q16_T2.ty := (i.1, v.1, ())
def q16_P2 (x : den q16_T2.ty) : q16_I2 × q16_V2 := ((x.1, ()), (x.2.1, ()))
abbrev q16_I12 : Type := List (Int × Int × List (Int × Int × Unit) × List (Int × Int × Unit) × Unit) × Int × Unit
abbrev q16_V12 : Type := Int × Unit
abbrev q16_Q12 : Type := Unit ⊕ Unit ⊕ Unit
noncomputable def spec_IsHistory_D12 (i : q16_I12) (v : q16_V12) (R : Type) (K : q16_V12 ⊕ q16_Q12 → Option R) : Option R :=
  Option.bind (lAt i.1 i.2.1) fun v_1 => bif decide (v.1 < (↑(List.length v_1.2.2.1) : Int)) then Option.bind (lAt i.1 i.2.1) fun v_2 => Option.bind (lAt v_2.2.2.1 v.1) fun v_3 => Option.bind (spec_WriterOf_S (i.1, (v_3.1, v_3.2.1, ()), ()))
  fun v_4 => Option.bind (lAt i.1 i.2.1) fun v_5 => bif v_4.1 == v_5.1 then K (Sum.inr (Sum.inl ())) else Option.bind (lAt i.1 i.2.1) fun v_6 => Option.bind (lAt v_6.2.2.1 v.1) fun v_7 => bif decide (v_7.2.1 > 0) then bif v_4.1 == 0 then K
  (Sum.inr (Sum.inr (Sum.inl ()))) else K (Sum.inl (IntKind.wrap IntKind.i64 (v.1 + 1), ())) else K (Sum.inl (IntKind.wrap IntKind.i64 (v.1 + 1), ())) else K (Sum.inr (Sum.inr (Sum.inr ())))
theorem spec_IsHistory_D12_nat : NatD spec_IsHistory_D12 := fun i v R K => nat_bind fun _ => nat_bif (nat_bind fun _ => nat_bind fun _ => nat_bind fun _ => nat_bind fun _ => nat_bif (nat_some) (nat_bind fun _ => nat_bind fun _ => nat_bif (nat_bif (nat_some) (nat_some)) (nat_some))) (nat_some)
def q16_T12 : Tmpl := ⟨(.slot (Ty.slice (Ty.prod Ty.i (Ty.prod Ty.i (Ty.prod (Ty.slice YReadMark) (Ty.prod (Ty.slice (Ty.prod Ty.i (Ty.prod Ty.i
  Ty.unit))) Ty.unit))))) (jk 3 (.slot Ty.i (.slot Ty.i (jk 117 .nil))))), .nil⟩
def q16_X12_0 (i : q16_I12) (p : Unit) : St := ⟨AV.pv (Ty.slice (Ty.prod Ty.i (Ty.prod Ty.i (Ty.prod (Ty.slice YReadMark) (Ty.prod (Ty.slice (Ty.prod Ty.i (Ty.prod (Ty.int
  IntKind.i64) Ty.unit))) Ty.unit))))) i.1 :: jn 1 (.b (false) :: jn 1 (.n (i.2.1) :: jn 118 ([]))), []⟩
def q16_X12_1 (i : q16_I12) (p : Unit) : St := ⟨AV.pv (Ty.slice (Ty.prod Ty.i (Ty.prod Ty.i (Ty.prod (Ty.slice YReadMark) (Ty.prod (Ty.slice (Ty.prod Ty.i (Ty.prod (Ty.int
  IntKind.i64) Ty.unit))) Ty.unit))))) i.1 :: jn 1 (.b (false) :: jn 1 (.n (i.2.1) :: jn 118 ([]))), []⟩
def q16_X12_2 (i : q16_I12) (p : Unit) : St := ⟨AV.pv (Ty.slice (Ty.prod Ty.i (Ty.prod Ty.i (Ty.prod (Ty.slice YReadMark) (Ty.prod (Ty.slice (Ty.prod Ty.i (Ty.prod (Ty.int
  IntKind.i64) Ty.unit))) Ty.unit))))) i.1 :: jn 3 (.n (i.2.1) :: jn 118 ([])), []⟩
noncomputable def q16_E12 (i : q16_I12) (p : q16_Q12) (R : Type) (K : Ex → St → Option R) : Option R := sumC p (fun p => K (Ex.ret) (q16_X12_0 i p)) fun p => sumC p (fun p => K (Ex.ret) (q16_X12_1 i p)) fun p => K (Ex.exit 4) (q16_X12_2 i p)
noncomputable def q16_K12 (i : q16_I12) (p : q16_Q12) : Ex × St := sumC p (fun p => (Ex.ret, q16_X12_0 i p)) fun p => sumC p (fun p => (Ex.ret, q16_X12_1 i p)) fun p => (Ex.exit 4, q16_X12_2 i p)
def q16_M12 (i : q16_I12) (v : q16_V12) : den q16_T12.ty := (i.1, i.2.1, v.1, ())
def q16_P12 (x : den q16_T12.ty) : q16_I12 × q16_V12 := ((x.1, x.2.1, ()), (x.2.2.1, ()))
abbrev q16_I9 : Type := List (Int × Int × List (Int × Int × Unit) × List (Int × Int × Unit) × Unit) × Unit
abbrev q16_V9 : Type := Int × Unit
abbrev q16_Q9 : Type := Unit ⊕ Unit ⊕ Unit
noncomputable def spec_IsHistory_D9 (i : q16_I9) (v : q16_V9) (R : Type) (K : q16_V9 ⊕ q16_Q9 → Option R) : Option R :=
  bif decide (v.1 < (↑(List.length i.1) : Int)) then Option.bind (iter (fun v_1 => spec_IsHistory_D12 (i.1, v.1, ()) v_1 _ some) (0, ())) fun p => sumC p (fun p => K (Sum.inr (Sum.inl ()))) fun p => sumC p (fun p => K (Sum.inr
  (Sum.inr (Sum.inl ())))) fun p => K (Sum.inl (IntKind.wrap IntKind.i64 (v.1 + 1), ())) else K (Sum.inr (Sum.inr (Sum.inr ())))
theorem spec_IsHistory_D9_nat : NatD spec_IsHistory_D9 := fun i v R K => nat_bif (nat_bind fun _ => nat_sum (fun _ => nat_some) (fun _ => nat_sum (fun _ => nat_some) (fun _ => nat_some))) (nat_some)
def q16_T9 : Tmpl := ⟨(.slot (Ty.slice (Ty.prod Ty.i (Ty.prod Ty.i (Ty.prod (Ty.slice YReadMark) (Ty.prod (Ty.slice (Ty.prod Ty.i (Ty.prod Ty.i
  Ty.unit))) Ty.unit))))) (jk 3 (.slot Ty.i (jk 118 .nil)))), .nil⟩
def q16_X9_0 (i : q16_I9) (p : Unit) : St := ⟨AV.pv (Ty.slice (Ty.prod Ty.i (Ty.prod Ty.i (Ty.prod (Ty.slice YReadMark) (Ty.prod (Ty.slice (Ty.prod Ty.i (Ty.prod (Ty.int
  IntKind.i64) Ty.unit))) Ty.unit))))) i.1 :: jn 1 (.b (false) :: jn 120 ([])), []⟩
def q16_X9_1 (i : q16_I9) (p : Unit) : St := ⟨AV.pv (Ty.slice (Ty.prod Ty.i (Ty.prod Ty.i (Ty.prod (Ty.slice YReadMark) (Ty.prod (Ty.slice (Ty.prod Ty.i (Ty.prod (Ty.int
  IntKind.i64) Ty.unit))) Ty.unit))))) i.1 :: jn 1 (.b (false) :: jn 120 ([])), []⟩
def q16_X9_2 (i : q16_I9) (p : Unit) : St := ⟨AV.pv (Ty.slice (Ty.prod Ty.i (Ty.prod Ty.i (Ty.prod (Ty.slice YReadMark) (Ty.prod (Ty.slice (Ty.prod Ty.i (Ty.prod (Ty.int
  IntKind.i64) Ty.unit))) Ty.unit))))) i.1 :: jn 122 ([]), []⟩
noncomputable def q16_E9 (i : q16_I9) (p : q16_Q9) (R : Type) (K : Ex → St → Option R) : Option R := sumC p (fun p => K (Ex.ret) (q16_X9_0 i p)) fun p => sumC p (fun p => K (Ex.ret) (q16_X9_1 i p)) fun p => K (Ex.exit 2) (q16_X9_2 i p)
noncomputable def q16_K9 (i : q16_I9) (p : q16_Q9) : Ex × St := sumC p (fun p => (Ex.ret, q16_X9_0 i p)) fun p => sumC p (fun p => (Ex.ret, q16_X9_1 i p)) fun p => (Ex.exit 2, q16_X9_2 i p)
def q16_M9 (i : q16_I9) (v : q16_V9) : den q16_T9.ty := (i.1, v.1, ())
def q16_P9 (x : den q16_T9.ty) : q16_I9 × q16_V9 := ((x.1, ()), (x.2.1, ()))
noncomputable def q16_C : Cfg := { ti := g_tis, ents := [q10_Ent, q13_Ent, q14_Ent, q15_Ent], ann := [(2, loopFn q16_T2 0 q16_P2 spec_IsHistory_D2 q16_E2), (12, loopFn q16_T12 0 q16_P12 spec_IsHistory_D12 q16_E12), (9, loopFn q16_T9 0 q16_P9 spec_IsHistory_D9 q16_E9)], lent := 0 }
def q16_ti : Tmpl := ⟨(.slot (Ty.slice (Ty.prod Ty.i (Ty.prod Ty.i (Ty.prod (Ty.slice YReadMark) (Ty.prod (Ty.slice (Ty.prod Ty.i (Ty.prod Ty.i
  Ty.unit))) Ty.unit))))) .nil), .nil⟩
def q16_to : Tmpl := ⟨(.slot (Ty.bool) .nil), .nil⟩
noncomputable def spec_IsHistory_S (x : List (Int × Int × List (Int × Int × Unit) × List (Int × Int × Unit) × Unit) × Unit) : Option (Bool × Unit) :=
  Option.bind (iter (fun v => spec_IsHistory_D2 (x.1, ()) v _ some) (0, ())) fun p => sumC p (fun p => some (false, ())) fun p => sumC p (fun p => some (false, ())) fun p => sumC p (fun p => some (false, ())) fun p => sumC p (fun p
  => some (false, ())) fun p => Option.bind (iter (fun v => spec_IsHistory_D9 (x.1, ()) v _ some) (0, ())) fun p => sumC p (fun p => some (false, ())) fun p => sumC p (fun p => some (false, ())) fun p => some (decide ((↑(List.length
  x.1) : Int) ≤ 9), ())
noncomputable def q16_Ent : Ent := ⟨61, q16_ti, q16_to, spec_IsHistory_S⟩
theorem q16_HC : CfgOK Tryz.prog q16_C := hc_of g_tisOK g_wide (all_cons q10_OK (all_cons q13_OK (all_cons q14_OK (all_cons q15_OK all_nil))))
theorem q16_lk12 : LkOK Tryz.prog q16_C (lpc Tryz.f61 2) :=
  lk_of q16_HC (m := 0) (T := q16_T12) (sp := q16_P12) (D := spec_IsHistory_D12) (E := q16_E12) (by kernel_rfl) (by kernel_rfl) (fun k hk => absurd hk (Nat.not_lt_zero k)) [0, 2, 4] q16_M12 (fun x => rfl) spec_IsHistory_D12_nat q16_K12 (fun i p R K => by rcases p with p | p | p <;> rfl) (fun i v => by kernel_rfl)
theorem q16_lk9 : LkOK Tryz.prog q16_C (lpc Tryz.f61 1) :=
  lk_of q16_HC (m := 1) (T := q16_T9) (sp := q16_P9) (D := spec_IsHistory_D9) (E := q16_E9) (by kernel_rfl) (by kernel_rfl) (fun k hk => match k, hk with | 0, _ => lk_at (by kernel_rfl) q16_lk12) [0, 2] q16_M9 (fun x => rfl) spec_IsHistory_D9_nat q16_K9 (fun i p R K => by rcases p with p | p | p <;> rfl) (fun i v => by kernel_rfl)
theorem q16_lk2 : LkOK Tryz.prog q16_C (lpc Tryz.f61 0) :=
  lk_of q16_HC (m := 0) (T := q16_T2) (sp := q16_P2) (D := spec_IsHistory_D2) (E := q16_E2) (by kernel_rfl) (by kernel_rfl) (fun k hk => absurd hk (Nat.not_lt_zero k)) [0, 2] q16_M2 (fun x => rfl) spec_IsHistory_D2_nat q16_K2 (fun i p R K => by rcases p with p | p | p | p | p <;> rfl) (fun i v => by kernel_rfl)
theorem q16_OK : EntOK Tryz.prog q16_Ent := ok_of q16_HC Tryz.func61 3 (by kernel_rfl) (fun k hk => match k, hk with | 0, _ => q16_lk2 | 1, _ => q16_lk9 | 2, _ => q16_lk12) (by kernel_rfl) (by kernel_rfl) (fun x => by kernel_rfl)
noncomputable def q17_C : Cfg := { ti := g_tis, ents := [], ann := [], lent := 0 }
def q17_ti : Tmpl := ⟨(.slot YEdge (.slot YEdge .nil)), .nil⟩
def q17_to : Tmpl := ⟨(.slot (Ty.bool) .nil), .nil⟩
noncomputable def spec_l19Less_S (x : (Int × Int × Int × Int × Unit) × (Int × Int × Int × Int × Unit) × Unit) : Option (Bool × Unit) :=
  bif x.1.1 != x.2.1.1 then some (decide (x.1.1 < x.2.1.1), ()) else bif x.1.2.1 != x.2.1.2.1 then some (decide (x.1.2.1 < x.2.1.2.1), ()) else bif x.1.2.2.1 != x.2.1.2.2.1 then some (decide (x.1.2.2.1 < x.2.1.2.2.1), ()) else some (decide
  (x.1.2.2.2.1 < x.2.1.2.2.2.1), ())
noncomputable def q17_Ent : Ent := ⟨269, q17_ti, q17_to, spec_l19Less_S⟩
theorem q17_HC : CfgOK Tryz.prog q17_C := hc_of g_tisOK g_wide all_nil
theorem q17_OK : EntOK Tryz.prog q17_Ent := ok_of q17_HC Tryz.func269 0 (by kernel_rfl) (fun k hk => absurd hk (Nat.not_lt_zero k)) (by kernel_rfl) (by kernel_rfl) (fun x => by kernel_rfl)
abbrev q18_I4 : Type := List (Int × Int × Int × Int × Unit) × Int × Int × Int × Int × Unit
abbrev q18_V4 : Type := Int × Unit
abbrev q18_Q4 : Type := Int × Unit ⊕ Int × Unit
noncomputable def spec_l19Put_D4 (i : q18_I4) (v : q18_V4) (R : Type) (K : q18_V4 ⊕ q18_Q4 → Option R) : Option R :=
  bif decide (v.1 < (↑(List.length i.1) : Int)) then Option.bind (lAt i.1 v.1) fun v_1 => Option.bind (spec_l19Less_S ((v_1.1, v_1.2.1, v_1.2.2.1, v_1.2.2.2.1, ()), (i.2.1, i.2.2.1, i.2.2.2.1, i.2.2.2.2.1, ()), ())) fun v_2 => bif v_2.1 then K
  (Sum.inl (IntKind.wrap IntKind.i64 (v.1 + 1), ())) else K (Sum.inr (Sum.inl (v.1, ()))) else K (Sum.inr (Sum.inr (v.1, ())))
theorem spec_l19Put_D4_nat : NatD spec_l19Put_D4 := fun i v R K => nat_bif (nat_bind fun _ => nat_bind fun _ => nat_bif (nat_some) (nat_some)) (nat_some)
def q18_T4 : Tmpl := ⟨(.slot (Ty.slice YEdge) (jk 2 (.ptr 0 0 0 (.junk (.slot Ty.i (jk 55 .nil)))))), (.cells 4 (.slot Ty.i (.slot Ty.i (.slot Ty.i (.slot Ty.i .nil)))) .nil)⟩
def q18_X4_0 (i : q18_I4) (p : Int × Unit) : St := ⟨AV.pv (Ty.slice YEdge) i.1 :: jn 2 (AV.ptr 0 none 0 0 :: jn 1 (.n (p.1) :: jn 55 ([]))), [some (Cont.cells 4
  [[AV.pv Ty.i i.2.1, AV.pv Ty.i i.2.2.1, AV.pv Ty.i i.2.2.2.1, AV.pv Ty.i i.2.2.2.2.1]])]⟩
def q18_X4_1 (i : q18_I4) (p : Int × Unit) : St := ⟨AV.pv (Ty.slice YEdge) i.1 :: jn 2 (AV.ptr 0 none 0 0 :: jn 1 (.n (p.1) :: jn 55 ([]))), [some (Cont.cells 4
  [[AV.pv Ty.i i.2.1, AV.pv Ty.i i.2.2.1, AV.pv Ty.i i.2.2.2.1, AV.pv Ty.i i.2.2.2.2.1]])]⟩
noncomputable def q18_E4 (i : q18_I4) (p : q18_Q4) (R : Type) (K : Ex → St → Option R) : Option R := sumC p (fun p => K (Ex.exit 0) (q18_X4_0 i p)) fun p => K (Ex.exit 0) (q18_X4_1 i p)
noncomputable def q18_K4 (i : q18_I4) (p : q18_Q4) : Ex × St := sumC p (fun p => (Ex.exit 0, q18_X4_0 i p)) fun p => (Ex.exit 0, q18_X4_1 i p)
def q18_M4 (i : q18_I4) (v : q18_V4) : den q18_T4.ty := (i.1, v.1, i.2.1, i.2.2.1, i.2.2.2.1, i.2.2.2.2.1, ())
def q18_P4 (x : den q18_T4.ty) : q18_I4 × q18_V4 := ((x.1, x.2.2.1, x.2.2.2.1, x.2.2.2.2.1, x.2.2.2.2.2.1, ()), (x.2.1, ()))
noncomputable def q18_C : Cfg := { ti := g_tis, ents := [q17_Ent], ann := [(4, loopFn q18_T4 0 q18_P4 spec_l19Put_D4 q18_E4)], lent := 0 }
def q18_ti : Tmpl := ⟨(.slot (Ty.slice YEdge) (.slot YEdge .nil)), .nil⟩
def q18_to : Tmpl := ⟨(.slot (Ty.slice YEdge) .nil), .nil⟩
noncomputable def spec_l19Put_S (x : List (Int × Int × Int × Int × Unit) × (Int × Int × Int × Int × Unit) × Unit) : Option (List (Int × Int × Int × Int × Unit) × Unit) :=
  bif x.2.1.1 == 0 then some (x.1, ()) else bif x.2.1.2.1 == 0 then some (x.1, ()) else bif x.2.1.1 == x.2.1.2.1 then some (x.1, ()) else Option.bind (iter (fun v => spec_l19Put_D4 (x.1, x.2.1.1, x.2.1.2.1, x.2.1.2.2.1, x.2.1.2.2.2.1, ()) v
  _ some) (0, ())) fun p => sumC p (fun p => bif decide (p.1 < (↑(List.length x.1) : Int)) then Option.bind (lAt x.1 p.1) fun v => bif v.1 == x.2.1.1 && (v.2.1 == x.2.1.2.1 && (v.2.2.1 == x.2.1.2.2.1 && (v.2.2.2.1 == x.2.1.2.2.2.1 &&
  true))) then some (x.1, ()) else Option.bind (slAt x.1 0 p.1) fun v => if List.length v ≤ 1099511627776 then if List.length (v ++ [(x.2.1.1, x.2.1.2.1, x.2.1.2.2.1, x.2.1.2.2.2.1, ())]) ≤ 1099511627776 then Option.bind (slAt x.1 p.1
  (↑(List.length x.1) : Int)) fun v_1 => if List.length (v ++ [(x.2.1.1, x.2.1.2.1, x.2.1.2.2.1, x.2.1.2.2.2.1, ())] ++ v_1) ≤ 1099511627776 then some (v ++ [(x.2.1.1, x.2.1.2.1, x.2.1.2.2.1, x.2.1.2.2.2.1, ())] ++ v_1, ()) else none else none
  else none else Option.bind (slAt x.1 0 p.1) fun v => if List.length v ≤ 1099511627776 then if List.length (v ++ [(x.2.1.1, x.2.1.2.1, x.2.1.2.2.1, x.2.1.2.2.2.1, ())]) ≤ 1099511627776 then Option.bind (slAt x.1 p.1 (↑(List.length x.1) :
  Int)) fun v_1 => if List.length (v ++ [(x.2.1.1, x.2.1.2.1, x.2.1.2.2.1, x.2.1.2.2.2.1, ())] ++ v_1) ≤ 1099511627776 then some (v ++ [(x.2.1.1, x.2.1.2.1, x.2.1.2.2.1, x.2.1.2.2.2.1, ())] ++ v_1, ()) else none else none else none) fun p =>
  bif decide (p.1 < (↑(List.length x.1) : Int)) then Option.bind (lAt x.1 p.1) fun v => bif v.1 == x.2.1.1 && (v.2.1 == x.2.1.2.1 && (v.2.2.1 == x.2.1.2.2.1 && (v.2.2.2.1 == x.2.1.2.2.2.1 && true))) then some (x.1, ()) else Option.bind (slAt
  x.1 0 p.1) fun v => if List.length v ≤ 1099511627776 then if List.length (v ++ [(x.2.1.1, x.2.1.2.1, x.2.1.2.2.1, x.2.1.2.2.2.1, ())]) ≤ 1099511627776 then Option.bind (slAt x.1 p.1 (↑(List.length x.1) : Int)) fun v_1 => if List.length (v ++
  [(x.2.1.1, x.2.1.2.1, x.2.1.2.2.1, x.2.1.2.2.2.1, ())] ++ v_1) ≤ 1099511627776 then some (v ++ [(x.2.1.1, x.2.1.2.1, x.2.1.2.2.1, x.2.1.2.2.2.1, ())] ++ v_1, ()) else none else none else none else Option.bind (slAt x.1 0 p.1) fun v => if
  List.length v ≤ 1099511627776 then if List.length (v ++ [(x.2.1.1, x.2.1.2.1, x.2.1.2.2.1, x.2.1.2.2.2.1, ())]) ≤ 1099511627776 then Option.bind (slAt x.1 p.1 (↑(List.length x.1) : Int)) fun v_1 => if List.length (v ++ [(x.2.1.1, x.2.1.2.1,
  x.2.1.2.2.1, x.2.1.2.2.2.1, ())] ++ v_1) ≤ 1099511627776 then some (v ++ [(x.2.1.1, x.2.1.2.1, x.2.1.2.2.1, x.2.1.2.2.2.1, ())] ++ v_1, ()) else none else none else none
noncomputable def q18_Ent : Ent := ⟨153, q18_ti, q18_to, spec_l19Put_S⟩
theorem q18_HC : CfgOK Tryz.prog q18_C := hc_of g_tisOK g_wide (all_cons q17_OK all_nil)
theorem q18_lk4 : LkOK Tryz.prog q18_C (lpc Tryz.f153 0) :=
  lk_of q18_HC (m := 0) (T := q18_T4) (sp := q18_P4) (D := spec_l19Put_D4) (E := q18_E4) (by kernel_rfl) (by kernel_rfl) (fun k hk => absurd hk (Nat.not_lt_zero k)) [0, 3, 5] q18_M4 (fun x => rfl) spec_l19Put_D4_nat q18_K4 (fun i p R K => by rcases p with p | p <;> rfl) (fun i v => by kernel_rfl)
theorem q18_OK : EntOK Tryz.prog q18_Ent := ok_of q18_HC Tryz.func153 1 (by kernel_rfl) (fun k hk => match k, hk with | 0, _ => q18_lk4) (by kernel_rfl) (by kernel_rfl) (fun x => by kernel_rfl)
abbrev q19_I6 : Type := List (Int × Int × List (Int × Int × Unit) × List (Int × Int × Unit) × Unit) × Int × Int × Int × Unit
abbrev q19_V6 : Type := Int × Int × Unit
abbrev q19_Q6 : Type := Int × Unit
noncomputable def spec_NextWriter_D6 (i : q19_I6) (v : q19_V6) (R : Type) (K : q19_V6 ⊕ q19_Q6 → Option R) : Option R :=
  Option.bind (lAt i.1 i.2.2.2.1) fun v_1 => bif decide (v.2.1 < (↑(List.length v_1.2.2.2.1) : Int)) then Option.bind (lAt i.1 i.2.2.2.1) fun v_2 => Option.bind (lAt v_2.2.2.2.1 v.2.1) fun v_3 => bif v_3.1 == i.2.1 then Option.bind (lAt i.1
  i.2.2.2.1) fun v_4 => bif decide (v_4.2.1 > i.2.2.1) then bif decide (v.1 < 0) then K (Sum.inl (i.2.2.2.1, IntKind.wrap IntKind.i64 (v.2.1 + 1), ())) else Option.bind (lAt i.1 i.2.2.2.1) fun v_5 => Option.bind (lAt i.1 v.1) fun v_6 => bif
  decide (v_5.2.1 < v_6.2.1) then K (Sum.inl (i.2.2.2.1, IntKind.wrap IntKind.i64 (v.2.1 + 1), ())) else K (Sum.inl (v.1, IntKind.wrap IntKind.i64 (v.2.1 + 1), ())) else K (Sum.inl (v.1, IntKind.wrap IntKind.i64 (v.2.1 + 1), ())) else K
  (Sum.inl (v.1, IntKind.wrap IntKind.i64 (v.2.1 + 1), ())) else K (Sum.inr (v.1, ()))
theorem spec_NextWriter_D6_nat : NatD spec_NextWriter_D6 := fun i v R K => nat_bind fun _ => nat_bif (nat_bind fun _ => nat_bind fun _ => nat_bif (nat_bind fun _ => nat_bif (nat_bif (nat_some) (nat_bind fun _ => nat_bind fun _ => nat_bif (nat_some) (nat_some))) (nat_some)) (nat_some)) (nat_some)
def q19_T6 : Tmpl := ⟨(.slot (Ty.slice (Ty.prod Ty.i (Ty.prod Ty.i (Ty.prod (Ty.slice YReadMark) (Ty.prod (Ty.slice (Ty.prod Ty.i (Ty.prod Ty.i
  Ty.unit))) Ty.unit))))) (.slot Ty.i (.slot Ty.i (jk 4 (.slot Ty.i (.slot Ty.i (.slot Ty.i (jk 61 .nil)))))))), .nil⟩
def q19_X6_0 (i : q19_I6) (p : Int × Unit) : St := ⟨AV.pv (Ty.slice (Ty.prod Ty.i (Ty.prod Ty.i (Ty.prod (Ty.slice YReadMark) (Ty.prod (Ty.slice (Ty.prod Ty.i (Ty.prod (Ty.int
  IntKind.i64) Ty.unit))) Ty.unit))))) i.1 :: .n (i.2.1) :: .n (i.2.2.1) :: jn 4 (.n (p.1) :: .n (i.2.2.2.1) :: jn 62 ([])), []⟩
noncomputable def q19_E6 (i : q19_I6) (p : q19_Q6) (R : Type) (K : Ex → St → Option R) : Option R := K (Ex.exit 2) (q19_X6_0 i p)
noncomputable def q19_K6 (i : q19_I6) (p : q19_Q6) : Ex × St := (Ex.exit 2, q19_X6_0 i p)
def q19_M6 (i : q19_I6) (v : q19_V6) : den q19_T6.ty := (i.1, i.2.1, i.2.2.1, v.1, i.2.2.2.1, v.2.1, ())
def q19_P6 (x : den q19_T6.ty) : q19_I6 × q19_V6 := ((x.1, x.2.1, x.2.2.1, x.2.2.2.2.1, ()), (x.2.2.2.1, x.2.2.2.2.2.1, ()))
abbrev q19_I3 : Type := List (Int × Int × List (Int × Int × Unit) × List (Int × Int × Unit) × Unit) × Int × Int × Unit
abbrev q19_V3 : Type := Int × Int × Unit
abbrev q19_Q3 : Type := Int × Unit
noncomputable def spec_NextWriter_D3 (i : q19_I3) (v : q19_V3) (R : Type) (K : q19_V3 ⊕ q19_Q3 → Option R) : Option R :=
  bif decide (v.2.1 < (↑(List.length i.1) : Int)) then Option.bind (iter (fun v_1 => spec_NextWriter_D6 (i.1, i.2.1, i.2.2.1, v.2.1, ()) v_1 _ some) (v.1, 0, ())) fun p => K (Sum.inl (p.1, IntKind.wrap IntKind.i64 (v.2.1 + 1), ()))
  else K (Sum.inr (v.1, ()))
theorem spec_NextWriter_D3_nat : NatD spec_NextWriter_D3 := fun i v R K => nat_bif (nat_bind fun _ => nat_some) (nat_some)
def q19_T3 : Tmpl := ⟨(.slot (Ty.slice (Ty.prod Ty.i (Ty.prod Ty.i (Ty.prod (Ty.slice YReadMark) (Ty.prod (Ty.slice (Ty.prod Ty.i (Ty.prod Ty.i
  Ty.unit))) Ty.unit))))) (.slot Ty.i (.slot Ty.i (jk 4 (.slot Ty.i (.slot Ty.i (jk 62 .nil))))))), .nil⟩
def q19_X3_0 (i : q19_I3) (p : Int × Unit) : St := ⟨AV.pv (Ty.slice (Ty.prod Ty.i (Ty.prod Ty.i (Ty.prod (Ty.slice YReadMark) (Ty.prod (Ty.slice (Ty.prod Ty.i (Ty.prod (Ty.int
  IntKind.i64) Ty.unit))) Ty.unit))))) i.1 :: jn 6 (.n (p.1) :: jn 63 ([])), []⟩
noncomputable def q19_E3 (i : q19_I3) (p : q19_Q3) (R : Type) (K : Ex → St → Option R) : Option R := K (Ex.exit 0) (q19_X3_0 i p)
noncomputable def q19_K3 (i : q19_I3) (p : q19_Q3) : Ex × St := (Ex.exit 0, q19_X3_0 i p)
def q19_M3 (i : q19_I3) (v : q19_V3) : den q19_T3.ty := (i.1, i.2.1, i.2.2.1, v.1, v.2.1, ())
def q19_P3 (x : den q19_T3.ty) : q19_I3 × q19_V3 := ((x.1, x.2.1, x.2.2.1, ()), (x.2.2.2.1, x.2.2.2.2.1, ()))
noncomputable def q19_C : Cfg := { ti := g_tis, ents := [], ann := [(6, loopFn q19_T6 0 q19_P6 spec_NextWriter_D6 q19_E6), (3, loopFn q19_T3 0 q19_P3 spec_NextWriter_D3 q19_E3)], lent := 0 }
def q19_ti : Tmpl := ⟨(.slot (Ty.slice (Ty.prod Ty.i (Ty.prod Ty.i (Ty.prod (Ty.slice YReadMark) (Ty.prod (Ty.slice (Ty.prod Ty.i (Ty.prod Ty.i
  Ty.unit))) Ty.unit))))) (.slot Ty.i (.slot Ty.i .nil))), .nil⟩
def q19_to : Tmpl := ⟨(.slot Ty.i .nil), .nil⟩
noncomputable def spec_NextWriter_S (x : List (Int × Int × List (Int × Int × Unit) × List (Int × Int × Unit) × Unit) × Int × Int × Unit) : Option (Int × Unit) :=
  Option.bind (iter (fun v => spec_NextWriter_D3 (x.1, x.2.1, x.2.2.1, ()) v _ some) (-1, 0, ())) fun p => bif decide (p.1 < 0) then some (0, ()) else Option.bind (lAt x.1 p.1) fun v => some (v.1, ())
noncomputable def q19_Ent : Ent := ⟨154, q19_ti, q19_to, spec_NextWriter_S⟩
theorem q19_HC : CfgOK Tryz.prog q19_C := hc_of g_tisOK g_wide all_nil
theorem q19_lk6 : LkOK Tryz.prog q19_C (lpc Tryz.f154 1) :=
  lk_of q19_HC (m := 0) (T := q19_T6) (sp := q19_P6) (D := spec_NextWriter_D6) (E := q19_E6) (by kernel_rfl) (by kernel_rfl) (fun k hk => absurd hk (Nat.not_lt_zero k)) [0, 1, 2, 7, 8] q19_M6 (fun x => rfl) spec_NextWriter_D6_nat q19_K6 (fun i p R K => rfl) (fun i v => by kernel_rfl)
theorem q19_lk3 : LkOK Tryz.prog q19_C (lpc Tryz.f154 0) :=
  lk_of q19_HC (m := 1) (T := q19_T3) (sp := q19_P3) (D := spec_NextWriter_D3) (E := q19_E3) (by kernel_rfl) (by kernel_rfl) (fun k hk => match k, hk with | 0, _ => lk_at (by kernel_rfl) q19_lk6) [0, 7] q19_M3 (fun x => rfl) spec_NextWriter_D3_nat q19_K3 (fun i p R K => rfl) (fun i v => by kernel_rfl)
theorem q19_OK : EntOK Tryz.prog q19_Ent := ok_of q19_HC Tryz.func154 2 (by kernel_rfl) (fun k hk => match k, hk with | 0, _ => q19_lk3 | 1, _ => q19_lk6) (by kernel_rfl) (by kernel_rfl) (fun x => by kernel_rfl)
abbrev q20_I6 : Type := List (Int × Int × List (Int × Int × Unit) × List (Int × Int × Unit) × Unit) × Int × Unit
abbrev q20_V6 : Type := List (Int × Int × Int × Int × Unit) × Int × List (Int × Int × Int × Int × Unit) × Unit
abbrev q20_Q6 : Type := List (Int × Int × Int × Int × Unit) × List (Int × Int × Int × Int × Unit) × Unit
noncomputable def spec_BuildGraph_D6 (i : q20_I6) (v : q20_V6) (R : Type) (K : q20_V6 ⊕ q20_Q6 → Option R) : Option R :=
  Option.bind (lAt i.1 i.2.1) fun v_1 => bif decide (v.2.1 < (↑(List.length v_1.2.2.1) : Int)) then Option.bind (lAt i.1 i.2.1) fun v_2 => Option.bind (lAt v_2.2.2.1 v.2.1) fun v_3 => Option.bind (spec_WriterOf_S (i.1, (v_3.1, v_3.2.1, ()),
  ())) fun v_4 => Option.bind (lAt i.1 i.2.1) fun v_5 => Option.bind (spec_l19Put_S (v.1, (v_4.1, v_5.1, 1, v_3.1, ()), ())) fun v_6 => Option.bind (lAt i.1 i.2.1) fun v_7 => Option.bind (spec_NextWriter_S (i.1, v_3.1, v_3.2.1, ())) fun v_8 =>
  Option.bind (spec_l19Put_S (v_6.1, (v_7.1, v_8.1, 3, v_3.1, ()), ())) fun v_9 => K (Sum.inl (v_9.1, IntKind.wrap IntKind.i64 (v.2.1 + 1), [], ())) else K (Sum.inr (v.1, v.2.2.1, ()))
theorem spec_BuildGraph_D6_nat : NatD spec_BuildGraph_D6 := fun i v R K => nat_bind fun _ => nat_bif (nat_bind fun _ => nat_bind fun _ => nat_bind fun _ => nat_bind fun _ => nat_bind fun _ => nat_bind fun _ => nat_bind fun _ => nat_bind fun _ => nat_some) (nat_some)
def q20_T6 : Tmpl := ⟨(.slot (Ty.slice (Ty.prod Ty.i (Ty.prod Ty.i (Ty.prod (Ty.slice YReadMark) (Ty.prod (Ty.slice (Ty.prod Ty.i (Ty.prod Ty.i
  Ty.unit))) Ty.unit))))) (jk 2 (.slot (Ty.slice YEdge) (.slot Ty.i (.slot Ty.i (jk 98 .nil)))))), (.lst false YEdge .nil)⟩
def q20_X6_0 (i : q20_I6) (p : List (Int × Int × Int × Int × Unit) × List (Int × Int × Int × Int × Unit) × Unit) : St := ⟨AV.pv (Ty.slice (Ty.prod Ty.i (Ty.prod Ty.i (Ty.prod (Ty.slice YReadMark) (Ty.prod (Ty.slice (Ty.prod Ty.i (Ty.prod (Ty.int
  IntKind.i64) Ty.unit))) Ty.unit))))) i.1 :: jn 2 (AV.pv (Ty.slice YEdge) p.1 :: .n (i.2.1) :: jn 99 ([])), [some
  (Cont.lst false YEdge p.2.1)]⟩
noncomputable def q20_E6 (i : q20_I6) (p : q20_Q6) (R : Type) (K : Ex → St → Option R) : Option R := K (Ex.exit 2) (q20_X6_0 i p)
noncomputable def q20_K6 (i : q20_I6) (p : q20_Q6) : Ex × St := (Ex.exit 2, q20_X6_0 i p)
def q20_M6 (i : q20_I6) (v : q20_V6) : den q20_T6.ty := (i.1, v.1, i.2.1, v.2.1, v.2.2.1, ())
def q20_P6 (x : den q20_T6.ty) : q20_I6 × q20_V6 := ((x.1, x.2.2.1, ()), (x.2.1, x.2.2.2.1, x.2.2.2.2.1, ()))
abbrev q20_I12 : Type := List (Int × Int × List (Int × Int × Unit) × List (Int × Int × Unit) × Unit) × Int × Unit
abbrev q20_V12 : Type := List (Int × Int × Int × Int × Unit) × Int × Unit
abbrev q20_Q12 : Type := List (Int × Int × Int × Int × Unit) × Unit
noncomputable def spec_BuildGraph_D12 (i : q20_I12) (v : q20_V12) (R : Type) (K : q20_V12 ⊕ q20_Q12 → Option R) : Option R :=
  Option.bind (lAt i.1 i.2.1) fun v_1 => bif decide (v.2.1 < (↑(List.length v_1.2.2.2.1) : Int)) then Option.bind (lAt i.1 i.2.1) fun v_2 => Option.bind (lAt v_2.2.2.2.1 v.2.1) fun v_3 => Option.bind (lAt i.1 i.2.1) fun v_4 => Option.bind (lAt
  i.1 i.2.1) fun v_5 => Option.bind (spec_NextWriter_S (i.1, v_3.1, v_5.2.1, ())) fun v_6 => Option.bind (spec_l19Put_S (v.1, (v_4.1, v_6.1, 2, v_3.1, ()), ())) fun v_7 => K (Sum.inl (v_7.1, IntKind.wrap IntKind.i64 (v.2.1 + 1), ())) else K
  (Sum.inr (v.1, ()))
theorem spec_BuildGraph_D12_nat : NatD spec_BuildGraph_D12 := fun i v R K => nat_bind fun _ => nat_bif (nat_bind fun _ => nat_bind fun _ => nat_bind fun _ => nat_bind fun _ => nat_bind fun _ => nat_bind fun _ => nat_some) (nat_some)
def q20_T12 : Tmpl := ⟨(.slot (Ty.slice (Ty.prod Ty.i (Ty.prod Ty.i (Ty.prod (Ty.slice YReadMark) (Ty.prod (Ty.slice (Ty.prod Ty.i (Ty.prod Ty.i
  Ty.unit))) Ty.unit))))) (jk 2 (.slot (Ty.slice YEdge) (.slot Ty.i (jk 2 (.slot Ty.i (jk 96 .nil))))))), .nil⟩
def q20_X12_0 (i : q20_I12) (p : List (Int × Int × Int × Int × Unit) × Unit) : St := ⟨AV.pv (Ty.slice (Ty.prod Ty.i (Ty.prod Ty.i (Ty.prod (Ty.slice YReadMark) (Ty.prod (Ty.slice (Ty.prod Ty.i (Ty.prod (Ty.int
  IntKind.i64) Ty.unit))) Ty.unit))))) i.1 :: jn 2 (AV.pv (Ty.slice YEdge) p.1 :: .n (i.2.1) :: jn 99 ([])), []⟩
noncomputable def q20_E12 (i : q20_I12) (p : q20_Q12) (R : Type) (K : Ex → St → Option R) : Option R := K (Ex.exit 4) (q20_X12_0 i p)
noncomputable def q20_K12 (i : q20_I12) (p : q20_Q12) : Ex × St := (Ex.exit 4, q20_X12_0 i p)
def q20_M12 (i : q20_I12) (v : q20_V12) : den q20_T12.ty := (i.1, v.1, i.2.1, v.2.1, ())
def q20_P12 (x : den q20_T12.ty) : q20_I12 × q20_V12 := ((x.1, x.2.2.1, ()), (x.2.1, x.2.2.2.1, ()))
abbrev q20_I3 : Type := List (Int × Int × List (Int × Int × Unit) × List (Int × Int × Unit) × Unit) × Unit
abbrev q20_V3 : Type := List (Int × Int × Int × Int × Unit) × Int × List (Int × Int × Int × Int × Unit) × Unit
abbrev q20_Q3 : Type := List (Int × Int × Int × Int × Unit) × List (Int × Int × Int × Int × Unit) × Unit ⊕ List (Int × Int × Int × Int × Unit) × List (Int × Int × Int × Int × Unit) × Unit
noncomputable def spec_BuildGraph_D3 (i : q20_I3) (v : q20_V3) (R : Type) (K : q20_V3 ⊕ q20_Q3 → Option R) : Option R :=
  bif decide (v.2.1 < (↑(List.length i.1) : Int)) then Option.bind (spec_IsHistory_S (i.1, ())) fun v_1 => bif v_1.1 then Option.bind (iter (fun v_2 => spec_BuildGraph_D6 (i.1, v.2.1, ()) v_2 _ some) (v.1, 0, [], ())) fun p =>
  Option.bind (iter (fun v_2 => spec_BuildGraph_D12 (i.1, v.2.1, ()) v_2 _ some) (p.1, 0, ())) fun p => K (Sum.inl (p.1, IntKind.wrap IntKind.i64 (v.2.1 + 1), [], ())) else K (Sum.inr (Sum.inl (v.1, v.2.2.1, ()))) else K (Sum.inr
  (Sum.inr (v.1, v.2.2.1, ())))
theorem spec_BuildGraph_D3_nat : NatD spec_BuildGraph_D3 := fun i v R K => nat_bif (nat_bind fun _ => nat_bif (nat_bind fun _ => nat_bind fun _ => nat_some) (nat_some)) (nat_some)
def q20_T3 : Tmpl := ⟨(.slot (Ty.slice (Ty.prod Ty.i (Ty.prod Ty.i (Ty.prod (Ty.slice YReadMark) (Ty.prod (Ty.slice (Ty.prod Ty.i (Ty.prod Ty.i
  Ty.unit))) Ty.unit))))) (jk 2 (.slot (Ty.slice YEdge) (.slot Ty.i (jk 99 .nil))))), (.lst false YEdge .nil)⟩
def q20_X3_0 (i : q20_I3) (p : List (Int × Int × Int × Int × Unit) × List (Int × Int × Int × Int × Unit) × Unit) : St := ⟨jn 3 (AV.pv (Ty.slice YEdge) p.1 :: jn 100 ([])), [some (Cont.lst false (Ty.prod Ty.i (Ty.prod
  Ty.i YReadMark)) p.2.1)]⟩
def q20_X3_1 (i : q20_I3) (p : List (Int × Int × Int × Int × Unit) × List (Int × Int × Int × Int × Unit) × Unit) : St := ⟨jn 3 (AV.pv (Ty.slice YEdge) p.1 :: jn 100 ([])), [some (Cont.lst false (Ty.prod Ty.i (Ty.prod
  Ty.i YReadMark)) p.2.1)]⟩
noncomputable def q20_E3 (i : q20_I3) (p : q20_Q3) (R : Type) (K : Ex → St → Option R) : Option R := sumC p (fun p => K (Ex.exit 0) (q20_X3_0 i p)) fun p => K (Ex.exit 0) (q20_X3_1 i p)
noncomputable def q20_K3 (i : q20_I3) (p : q20_Q3) : Ex × St := sumC p (fun p => (Ex.exit 0, q20_X3_0 i p)) fun p => (Ex.exit 0, q20_X3_1 i p)
def q20_M3 (i : q20_I3) (v : q20_V3) : den q20_T3.ty := (i.1, v.1, v.2.1, v.2.2.1, ())
def q20_P3 (x : den q20_T3.ty) : q20_I3 × q20_V3 := ((x.1, ()), (x.2.1, x.2.2.1, x.2.2.2.1, ()))
noncomputable def q20_C : Cfg := { ti := g_tis, ents := [q16_Ent, q15_Ent, q18_Ent, q19_Ent], ann := [(6, loopFn q20_T6 0 q20_P6 spec_BuildGraph_D6 q20_E6), (12, loopFn q20_T12 0 q20_P12 spec_BuildGraph_D12 q20_E12), (3, loopFn q20_T3 0 q20_P3 spec_BuildGraph_D3 q20_E3)], lent := 0 }
def q20_ti : Tmpl := ⟨(.slot (Ty.slice (Ty.prod Ty.i (Ty.prod Ty.i (Ty.prod (Ty.slice YReadMark) (Ty.prod (Ty.slice (Ty.prod Ty.i (Ty.prod Ty.i
  Ty.unit))) Ty.unit))))) .nil), .nil⟩
def q20_to : Tmpl := ⟨(.slot (Ty.slice YEdge) .nil), .nil⟩
noncomputable def spec_BuildGraph_S (x : List (Int × Int × List (Int × Int × Unit) × List (Int × Int × Unit) × Unit) × Unit) : Option (List (Int × Int × Int × Int × Unit) × Unit) :=
  Option.bind (iter (fun v => spec_BuildGraph_D3 (x.1, ()) v _ some) ([], 0, [], ())) fun p => sumC p (fun p => some (p.1, ())) fun p => some (p.1, ())
noncomputable def q20_Ent : Ent := ⟨73, q20_ti, q20_to, spec_BuildGraph_S⟩
theorem q20_HC : CfgOK Tryz.prog q20_C := hc_of g_tisOK g_wide (all_cons q16_OK (all_cons q15_OK (all_cons q18_OK (all_cons q19_OK all_nil))))
theorem q20_lk12 : LkOK Tryz.prog q20_C (lpc Tryz.f73 2) :=
  lk_of q20_HC (m := 0) (T := q20_T12) (sp := q20_P12) (D := spec_BuildGraph_D12) (E := q20_E12) (by kernel_rfl) (by kernel_rfl) (fun k hk => absurd hk (Nat.not_lt_zero k)) [0, 3, 4] q20_M12 (fun x => rfl) spec_BuildGraph_D12_nat q20_K12 (fun i p R K => rfl) (fun i v => by kernel_rfl)
theorem q20_lk6 : LkOK Tryz.prog q20_C (lpc Tryz.f73 1) :=
  lk_of q20_HC (m := 0) (T := q20_T6) (sp := q20_P6) (D := spec_BuildGraph_D6) (E := q20_E6) (by kernel_rfl) (by kernel_rfl) (fun k hk => absurd hk (Nat.not_lt_zero k)) [0, 3, 4] q20_M6 (fun x => rfl) spec_BuildGraph_D6_nat q20_K6 (fun i p R K => rfl) (fun i v => by kernel_rfl)
theorem q20_lk3 : LkOK Tryz.prog q20_C (lpc Tryz.f73 0) :=
  lk_of q20_HC (m := 2) (T := q20_T3) (sp := q20_P3) (D := spec_BuildGraph_D3) (E := q20_E3) (by kernel_rfl) (by kernel_rfl) (fun k hk => match k, hk with | 0, _ => lk_at (by kernel_rfl) q20_lk6 | 1, _ => lk_at (by kernel_rfl) q20_lk12) [3] q20_M3 (fun x => rfl) spec_BuildGraph_D3_nat q20_K3 (fun i p R K => by rcases p with p | p <;> rfl) (fun i v => by kernel_rfl)
theorem q20_OK : EntOK Tryz.prog q20_Ent := ok_of q20_HC Tryz.func73 3 (by kernel_rfl) (fun k hk => match k, hk with | 0, _ => q20_lk3 | 1, _ => q20_lk6 | 2, _ => q20_lk12) (by kernel_rfl) (by kernel_rfl) (fun x => by kernel_rfl)
noncomputable def q34_C : Cfg := { ti := g_tis, ents := [], ann := [], lent := 0 }
def q34_ti : Tmpl := ⟨(.slot Ty.i (.slot Ty.i (.slot Ty.i .nil))), .nil⟩
def q34_to : Tmpl := ⟨(.slot (Ty.bool) .nil), .nil⟩
noncomputable def impl_in_S (x : Int × Int × Int × Unit) : Option (Bool × Unit) :=
  bif decide (x.2.1 ≤ x.1) then some (decide (x.1 ≤ x.2.2.1), ()) else some (false, ())
noncomputable def q34_Ent : Ent := ⟨202, q34_ti, q34_to, impl_in_S⟩
theorem q34_HC : CfgOK Tryz.prog q34_C := hc_of g_tisOK g_wide all_nil
theorem q34_OK : EntOK Tryz.prog q34_Ent := ok_of q34_HC Tryz.func202 0 (by kernel_rfl) (fun k hk => absurd hk (Nat.not_lt_zero k)) (by kernel_rfl) (by kernel_rfl) (fun x => by kernel_rfl)
noncomputable def q35_C : Cfg := { ti := g_tis, ents := [q34_Ent], ann := [], lent := 0 }
def q35_ti : Tmpl := ⟨(.slot Ty.i .nil), .nil⟩
def q35_to : Tmpl := ⟨(.slot (Ty.bool) .nil), .nil⟩
noncomputable def impl_isID_S (x : Int × Unit) : Option (Bool × Unit) :=
  Option.bind (impl_in_S (x.1, 1, 9, ())) fun v => some (v.1, ())
noncomputable def q35_Ent : Ent := ⟨203, q35_ti, q35_to, impl_isID_S⟩
theorem q35_HC : CfgOK Tryz.prog q35_C := hc_of g_tisOK g_wide (all_cons q34_OK all_nil)
theorem q35_OK : EntOK Tryz.prog q35_Ent := ok_of q35_HC Tryz.func203 0 (by kernel_rfl) (fun k hk => absurd hk (Nat.not_lt_zero k)) (by kernel_rfl) (by kernel_rfl) (fun x => by kernel_rfl)
noncomputable def q36_C : Cfg := { ti := g_tis, ents := [q34_Ent], ann := [], lent := 0 }
def q36_ti : Tmpl := ⟨(.slot Ty.i .nil), .nil⟩
def q36_to : Tmpl := ⟨(.slot (Ty.bool) .nil), .nil⟩
noncomputable def impl_IsStamp_S (x : Int × Unit) : Option (Bool × Unit) :=
  Option.bind (impl_in_S (x.1, 1, 999, ())) fun v => some (v.1, ())
noncomputable def q36_Ent : Ent := ⟨260, q36_ti, q36_to, impl_IsStamp_S⟩
theorem q36_HC : CfgOK Tryz.prog q36_C := hc_of g_tisOK g_wide (all_cons q34_OK all_nil)
theorem q36_OK : EntOK Tryz.prog q36_Ent := ok_of q36_HC Tryz.func260 0 (by kernel_rfl) (fun k hk => absurd hk (Nat.not_lt_zero k)) (by kernel_rfl) (by kernel_rfl) (fun x => by kernel_rfl)
noncomputable def q37_C : Cfg := { ti := g_tis, ents := [q34_Ent], ann := [], lent := 0 }
def q37_ti : Tmpl := ⟨(.slot Ty.i .nil), .nil⟩
def q37_to : Tmpl := ⟨(.slot (Ty.bool) .nil), .nil⟩
noncomputable def impl_isKey_S (x : Int × Unit) : Option (Bool × Unit) :=
  Option.bind (impl_in_S (x.1, 0, 5, ())) fun v => some (v.1, ())
noncomputable def q37_Ent : Ent := ⟨200, q37_ti, q37_to, impl_isKey_S⟩
theorem q37_HC : CfgOK Tryz.prog q37_C := hc_of g_tisOK g_wide (all_cons q34_OK all_nil)
theorem q37_OK : EntOK Tryz.prog q37_Ent := ok_of q37_HC Tryz.func200 0 (by kernel_rfl) (fun k hk => absurd hk (Nat.not_lt_zero k)) (by kernel_rfl) (by kernel_rfl) (fun x => by kernel_rfl)
noncomputable def q38_C : Cfg := { ti := g_tis, ents := [], ann := [], lent := 0 }
def q38_ti : Tmpl := ⟨(.slot Ty.i .nil), .nil⟩
def q38_to : Tmpl := ⟨(.slot (Ty.bool) .nil), .nil⟩
noncomputable def cmp_isNaN_int_S (x : Int × Unit) : Option (Bool × Unit) :=
  some (x.1 != x.1, ())
noncomputable def q38_Ent : Ent := ⟨289, q38_ti, q38_to, cmp_isNaN_int_S⟩
theorem q38_HC : CfgOK Tryz.prog q38_C := hc_of g_tisOK g_wide all_nil
theorem q38_OK : EntOK Tryz.prog q38_Ent := ok_of q38_HC Tryz.func289 0 (by kernel_rfl) (fun k hk => absurd hk (Nat.not_lt_zero k)) (by kernel_rfl) (by kernel_rfl) (fun x => by kernel_rfl)
noncomputable def q39_C : Cfg := { ti := g_tis, ents := [q38_Ent], ann := [], lent := 0 }
def q39_ti : Tmpl := ⟨(.slot Ty.i (.slot Ty.i .nil)), .nil⟩
def q39_to : Tmpl := ⟨(.slot Ty.i .nil), .nil⟩
noncomputable def cmp_Compare_int_S (x : Int × Int × Unit) : Option (Int × Unit) :=
  Option.bind (cmp_isNaN_int_S (x.1, ())) fun v => Option.bind (cmp_isNaN_int_S (x.2.1, ())) fun v_1 => bif v.1 then bif v_1.1 then some (0, ()) else some (-1, ()) else bif v_1.1 then some (1, ()) else bif decide (x.1 < x.2.1) then some (-1,
  ()) else bif decide (x.1 > x.2.1) then some (1, ()) else some (0, ())
noncomputable def q39_Ent : Ent := ⟨190, q39_ti, q39_to, cmp_Compare_int_S⟩
theorem q39_HC : CfgOK Tryz.prog q39_C := hc_of g_tisOK g_wide (all_cons q38_OK all_nil)
theorem q39_OK : EntOK Tryz.prog q39_Ent := ok_of q39_HC Tryz.func190 0 (by kernel_rfl) (fun k hk => absurd hk (Nat.not_lt_zero k)) (by kernel_rfl) (by kernel_rfl) (fun x => by kernel_rfl)
abbrev q40_I3 : Type := Int × List Int × Int × Unit
abbrev q40_V3 : Type := Int × Unit
abbrev q40_Q3 : Type := Int × Unit ⊕ Unit
noncomputable def cmp_Or_int_D3 (i : q40_I3) (v : q40_V3) (R : Type) (K : q40_V3 ⊕ q40_Q3 → Option R) : Option R :=
  bif decide (v.1 < i.2.2.1) then Option.bind (lAt i.2.1 v.1) fun v_1 => bif v_1 != i.1 then K (Sum.inr (Sum.inl (v_1, ()))) else K (Sum.inl (IntKind.wrap IntKind.i64 (v.1 + 1), ())) else K (Sum.inr (Sum.inr ()))
theorem cmp_Or_int_D3_nat : NatD cmp_Or_int_D3 := fun i v R K => nat_bif (nat_bind fun _ => nat_bif (nat_some) (nat_some)) (nat_some)
def q40_T3 : Tmpl := ⟨(jk 3 (.slot Ty.i (jk 2 (.slot (Ty.slice Ty.i) (.slot Ty.i (.slot Ty.i (jk 9 .nil))))))), .nil⟩
def q40_X3_0 (i : q40_I3) (p : Int × Unit) : St := ⟨jn 2 (.n (p.1) :: .n (i.1) :: jn 14 ([])), []⟩
def q40_X3_1 (i : q40_I3) (p : Unit) : St := ⟨jn 3 (.n (i.1) :: jn 14 ([])), []⟩
noncomputable def q40_E3 (i : q40_I3) (p : q40_Q3) (R : Type) (K : Ex → St → Option R) : Option R := sumC p (fun p => K (Ex.ret) (q40_X3_0 i p)) fun p => K (Ex.exit 0) (q40_X3_1 i p)
noncomputable def q40_K3 (i : q40_I3) (p : q40_Q3) : Ex × St := sumC p (fun p => (Ex.ret, q40_X3_0 i p)) fun p => (Ex.exit 0, q40_X3_1 i p)
def q40_M3 (i : q40_I3) (v : q40_V3) : den q40_T3.ty := (i.1, i.2.1, i.2.2.1, v.1, ())
def q40_P3 (x : den q40_T3.ty) : q40_I3 × q40_V3 := ((x.1, x.2.1, x.2.2.1, ()), (x.2.2.2.1, ()))
noncomputable def q40_C : Cfg := { ti := g_tis, ents := [], ann := [(3, loopFn q40_T3 0 q40_P3 cmp_Or_int_D3 q40_E3)], lent := 0 }
def q40_ti : Tmpl := ⟨(.slot (Ty.slice Ty.i) .nil), .nil⟩
def q40_to : Tmpl := ⟨(.slot Ty.i .nil), .nil⟩
noncomputable def cmp_Or_int_S (x : List Int × Unit) : Option (Int × Unit) :=
  Option.bind (iter (fun v => cmp_Or_int_D3 (0, x.1, (↑(List.length x.1) : Int), ()) v _ some) (0, ())) fun p => sumC p (fun p => some (p.1, ())) fun p => some (0, ())
noncomputable def q40_Ent : Ent := ⟨275, q40_ti, q40_to, cmp_Or_int_S⟩
theorem q40_HC : CfgOK Tryz.prog q40_C := hc_of g_tisOK g_wide all_nil
theorem q40_lk3 : LkOK Tryz.prog q40_C (lpc Tryz.f275 0) :=
  lk_of q40_HC (m := 0) (T := q40_T3) (sp := q40_P3) (D := cmp_Or_int_D3) (E := q40_E3) (by kernel_rfl) (by kernel_rfl) (fun k hk => absurd hk (Nat.not_lt_zero k)) [2, 3] q40_M3 (fun x => rfl) cmp_Or_int_D3_nat q40_K3 (fun i p R K => by rcases p with p | p <;> rfl) (fun i v => by kernel_rfl)
theorem q40_OK : EntOK Tryz.prog q40_Ent := ok_of q40_HC Tryz.func275 1 (by kernel_rfl) (fun k hk => match k, hk with | 0, _ => q40_lk3) (by kernel_rfl) (by kernel_rfl) (fun x => by kernel_rfl)
noncomputable def q41_C : Cfg := { ti := g_tis, ents := [q39_Ent, q40_Ent], ann := [], lent := 0 }
def q41_ti : Tmpl := ⟨(.slot YReadMark (.slot YReadMark .nil)), .nil⟩
def q41_to : Tmpl := ⟨(.slot Ty.i .nil), .nil⟩
noncomputable def impl_compareMarks_S (x : (Int × Int × Unit) × (Int × Int × Unit) × Unit) : Option (Int × Unit) :=
  Option.bind (cmp_Compare_int_S (x.1.1, x.2.1.1, ())) fun v => Option.bind (cmp_Compare_int_S (x.1.2.1, x.2.1.2.1, ())) fun v_1 => Option.bind (cmp_Or_int_S ([v.1, v_1.1], ())) fun v => some (v.1, ())
noncomputable def q41_Ent : Ent := ⟨333, q41_ti, q41_to, impl_compareMarks_S⟩
theorem q41_HC : CfgOK Tryz.prog q41_C := hc_of g_tisOK g_wide (all_cons q39_OK (all_cons q40_OK all_nil))
theorem q41_OK : EntOK Tryz.prog q41_Ent := ok_of q41_HC Tryz.func333 0 (by kernel_rfl) (fun k hk => absurd hk (Nat.not_lt_zero k)) (by kernel_rfl) (by kernel_rfl) (fun x => by kernel_rfl)
abbrev q42_I2 : Type := List (Int × Int × Unit) × List (Int × Int × Unit) × Int × Unit
abbrev q42_V2 : Type := Int × Unit
abbrev q42_Q2 : Type := Int × Int × Unit ⊕ Int × Int × Unit ⊕ Int × Int × Unit ⊕ Unit
noncomputable def impl_areReads_D2 (i : q42_I2) (v : q42_V2) (R : Type) (K : q42_V2 ⊕ q42_Q2 → Option R) : Option R :=
  bif decide (v.1 < i.2.2.1) then Option.bind (lAt i.2.1 v.1) fun v_1 => Option.bind (impl_isKey_S (v_1.1, ())) fun v_2 => bif !v_2.1 then K (Sum.inr (Sum.inl (v_1.1, v_1.2.1, ()))) else Option.bind (impl_in_S (v_1.2.1, 0, 999, ())) fun v_3 =>
  bif !v_3.1 then K (Sum.inr (Sum.inr (Sum.inl (v_1.1, v_1.2.1, ())))) else bif decide (v.1 > 0) then Option.bind (lAt i.1 (IntKind.wrap IntKind.i64 (v.1 - 1))) fun v_4 => Option.bind (impl_compareMarks_S ((v_4.1, v_4.2.1, ()), (v_1.1,
  v_1.2.1, ()), ())) fun v_5 => bif decide (v_5.1 ≥ 0) then K (Sum.inr (Sum.inr (Sum.inr (Sum.inl (v_1.1, v_1.2.1, ()))))) else K (Sum.inl (IntKind.wrap IntKind.i64 (v.1 + 1), ())) else K (Sum.inl (IntKind.wrap IntKind.i64 (v.1 + 1), ())) else
  K (Sum.inr (Sum.inr (Sum.inr (Sum.inr ()))))
theorem impl_areReads_D2_nat : NatD impl_areReads_D2 := fun i v R K => nat_bif (nat_bind fun _ => nat_bind fun _ => nat_bif (nat_some) (nat_bind fun _ => nat_bif (nat_some) (nat_bif (nat_bind fun _ => nat_bind fun _ => nat_bif (nat_some) (nat_some)) (nat_some)))) (nat_some)
def q42_T2 : Tmpl := ⟨(.slot (Ty.slice YReadMark) (jk 4 (.slot (Ty.slice YReadMark) (.slot Ty.i (.slot Ty.i (jk 32 .nil)))))), .nil⟩
def q42_X2_0 (i : q42_I2) (p : Int × Int × Unit) : St := ⟨AV.pv (Ty.slice YReadMark) i.1 :: jn 1 (.b (false) :: jn 37 ([])), [some (Cont.cells 2 [[AV.pv Ty.i p.1, AV.pv Ty.i p.2.1]])]⟩
def q42_X2_1 (i : q42_I2) (p : Int × Int × Unit) : St := ⟨AV.pv (Ty.slice YReadMark) i.1 :: jn 1 (.b (false) :: jn 37 ([])), [some (Cont.cells 2 [[AV.pv Ty.i p.1, AV.pv Ty.i p.2.1]])]⟩
def q42_X2_2 (i : q42_I2) (p : Int × Int × Unit) : St := ⟨AV.pv (Ty.slice YReadMark) i.1 :: jn 1 (.b (false) :: jn 37 ([])), [some (Cont.cells 2 [[AV.pv Ty.i p.1, AV.pv Ty.i p.2.1]])]⟩
def q42_X2_3 (i : q42_I2) (p : Unit) : St := ⟨AV.pv (Ty.slice YReadMark) i.1 :: jn 39 ([]), []⟩
noncomputable def q42_E2 (i : q42_I2) (p : q42_Q2) (R : Type) (K : Ex → St → Option R) : Option R := sumC p (fun p => K (Ex.ret) (q42_X2_0 i p)) fun p => sumC p (fun p => K (Ex.ret) (q42_X2_1 i p)) fun p => sumC p (fun p => K (Ex.ret) (q42_X2_2 i p)) fun p => K (Ex.exit 0) (q42_X2_3 i p)
noncomputable def q42_K2 (i : q42_I2) (p : q42_Q2) : Ex × St := sumC p (fun p => (Ex.ret, q42_X2_0 i p)) fun p => sumC p (fun p => (Ex.ret, q42_X2_1 i p)) fun p => sumC p (fun p => (Ex.ret, q42_X2_2 i p)) fun p => (Ex.exit 0, q42_X2_3 i p)
def q42_M2 (i : q42_I2) (v : q42_V2) : den q42_T2.ty := (i.1, i.2.1, i.2.2.1, v.1, ())
def q42_P2 (x : den q42_T2.ty) : q42_I2 × q42_V2 := ((x.1, x.2.1, x.2.2.1, ()), (x.2.2.2.1, ()))
noncomputable def q42_C : Cfg := { ti := g_tis, ents := [q37_Ent, q34_Ent, q41_Ent], ann := [(2, loopFn q42_T2 0 q42_P2 impl_areReads_D2 q42_E2)], lent := 0 }
def q42_ti : Tmpl := ⟨(.slot (Ty.slice YReadMark) .nil), .nil⟩
def q42_to : Tmpl := ⟨(.slot (Ty.bool) .nil), .nil⟩
noncomputable def impl_areReads_S (x : List (Int × Int × Unit) × Unit) : Option (Bool × Unit) :=
  Option.bind (iter (fun v => impl_areReads_D2 (x.1, x.1, (↑(List.length x.1) : Int), ()) v _ some) (0, ())) fun p => sumC p (fun p => some (false, ())) fun p => sumC p (fun p => some (false, ())) fun p => sumC p (fun p => some
  (false, ())) fun p => some (decide ((↑(List.length x.1) : Int) ≤ 60), ())
noncomputable def q42_Ent : Ent := ⟨261, q42_ti, q42_to, impl_areReads_S⟩
theorem q42_HC : CfgOK Tryz.prog q42_C := hc_of g_tisOK g_wide (all_cons q37_OK (all_cons q34_OK (all_cons q41_OK all_nil)))
theorem q42_lk2 : LkOK Tryz.prog q42_C (lpc Tryz.f261 0) :=
  lk_of q42_HC (m := 0) (T := q42_T2) (sp := q42_P2) (D := impl_areReads_D2) (E := q42_E2) (by kernel_rfl) (by kernel_rfl) (fun k hk => absurd hk (Nat.not_lt_zero k)) [0, 2] q42_M2 (fun x => rfl) impl_areReads_D2_nat q42_K2 (fun i p R K => by rcases p with p | p | p | p <;> rfl) (fun i v => by kernel_rfl)
theorem q42_OK : EntOK Tryz.prog q42_Ent := ok_of q42_HC Tryz.func261 1 (by kernel_rfl) (fun k hk => match k, hk with | 0, _ => q42_lk2) (by kernel_rfl) (by kernel_rfl) (fun x => by kernel_rfl)
noncomputable def q43_C : Cfg := { ti := g_tis, ents := [q34_Ent], ann := [], lent := 0 }
def q43_ti : Tmpl := ⟨(.slot Ty.i .nil), .nil⟩
def q43_to : Tmpl := ⟨(.slot (Ty.bool) .nil), .nil⟩
noncomputable def impl_isValue_S (x : Int × Unit) : Option (Bool × Unit) :=
  Option.bind (impl_in_S (x.1, -1, 99, ())) fun v => some (v.1, ())
noncomputable def q43_Ent : Ent := ⟨201, q43_ti, q43_to, impl_isValue_S⟩
theorem q43_HC : CfgOK Tryz.prog q43_C := hc_of g_tisOK g_wide (all_cons q34_OK all_nil)
theorem q43_OK : EntOK Tryz.prog q43_Ent := ok_of q43_HC Tryz.func201 0 (by kernel_rfl) (fun k hk => absurd hk (Nat.not_lt_zero k)) (by kernel_rfl) (by kernel_rfl) (fun x => by kernel_rfl)
abbrev q44_I2 : Type := List (Int × Int × Unit) × List (Int × Int × Unit) × Int × Unit
abbrev q44_V2 : Type := Int × Unit
abbrev q44_Q2 : Type := Int × Int × Unit ⊕ Int × Int × Unit ⊕ Int × Int × Unit ⊕ Unit
noncomputable def impl_areWrites_D2 (i : q44_I2) (v : q44_V2) (R : Type) (K : q44_V2 ⊕ q44_Q2 → Option R) : Option R :=
  bif decide (v.1 < i.2.2.1) then Option.bind (lAt i.2.1 v.1) fun v_1 => Option.bind (impl_isKey_S (v_1.1, ())) fun v_2 => bif !v_2.1 then K (Sum.inr (Sum.inl (v_1.1, v_1.2.1, ()))) else Option.bind (impl_isValue_S (v_1.2.1, ())) fun v_3 =>
  bif !v_3.1 then K (Sum.inr (Sum.inr (Sum.inl (v_1.1, v_1.2.1, ())))) else bif decide (v.1 > 0) then Option.bind (lAt i.1 (IntKind.wrap IntKind.i64 (v.1 - 1))) fun v_4 => bif decide (v_4.1 ≥ v_1.1) then K (Sum.inr (Sum.inr (Sum.inr (Sum.inl
  (v_1.1, v_1.2.1, ()))))) else K (Sum.inl (IntKind.wrap IntKind.i64 (v.1 + 1), ())) else K (Sum.inl (IntKind.wrap IntKind.i64 (v.1 + 1), ())) else K (Sum.inr (Sum.inr (Sum.inr (Sum.inr ()))))
theorem impl_areWrites_D2_nat : NatD impl_areWrites_D2 := fun i v R K => nat_bif (nat_bind fun _ => nat_bind fun _ => nat_bif (nat_some) (nat_bind fun _ => nat_bif (nat_some) (nat_bif (nat_bind fun _ => nat_bif (nat_some) (nat_some)) (nat_some)))) (nat_some)
def q44_T2 : Tmpl := ⟨(.slot (Ty.slice YReadMark) (jk 4 (.slot (Ty.slice YReadMark) (.slot Ty.i (.slot Ty.i (jk 30 .nil)))))), .nil⟩
def q44_X2_0 (i : q44_I2) (p : Int × Int × Unit) : St := ⟨jn 2 (.b (false) :: jn 35 ([])), [some (Cont.cells 2 [[AV.pv Ty.i p.1, AV.pv Ty.i p.2.1]])]⟩
def q44_X2_1 (i : q44_I2) (p : Int × Int × Unit) : St := ⟨jn 2 (.b (false) :: jn 35 ([])), [some (Cont.cells 2 [[AV.pv Ty.i p.1, AV.pv Ty.i p.2.1]])]⟩
def q44_X2_2 (i : q44_I2) (p : Int × Int × Unit) : St := ⟨jn 2 (.b (false) :: jn 35 ([])), [some (Cont.cells 2 [[AV.pv Ty.i p.1, AV.pv Ty.i p.2.1]])]⟩
def q44_X2_3 (i : q44_I2) (p : Unit) : St := ⟨jn 38 ([]), []⟩
noncomputable def q44_E2 (i : q44_I2) (p : q44_Q2) (R : Type) (K : Ex → St → Option R) : Option R := sumC p (fun p => K (Ex.ret) (q44_X2_0 i p)) fun p => sumC p (fun p => K (Ex.ret) (q44_X2_1 i p)) fun p => sumC p (fun p => K (Ex.ret) (q44_X2_2 i p)) fun p => K (Ex.exit 0) (q44_X2_3 i p)
noncomputable def q44_K2 (i : q44_I2) (p : q44_Q2) : Ex × St := sumC p (fun p => (Ex.ret, q44_X2_0 i p)) fun p => sumC p (fun p => (Ex.ret, q44_X2_1 i p)) fun p => sumC p (fun p => (Ex.ret, q44_X2_2 i p)) fun p => (Ex.exit 0, q44_X2_3 i p)
def q44_M2 (i : q44_I2) (v : q44_V2) : den q44_T2.ty := (i.1, i.2.1, i.2.2.1, v.1, ())
def q44_P2 (x : den q44_T2.ty) : q44_I2 × q44_V2 := ((x.1, x.2.1, x.2.2.1, ()), (x.2.2.2.1, ()))
noncomputable def q44_C : Cfg := { ti := g_tis, ents := [q37_Ent, q43_Ent], ann := [(2, loopFn q44_T2 0 q44_P2 impl_areWrites_D2 q44_E2)], lent := 0 }
def q44_ti : Tmpl := ⟨(.slot (Ty.slice YReadMark) .nil), .nil⟩
def q44_to : Tmpl := ⟨(.slot (Ty.bool) .nil), .nil⟩
noncomputable def impl_areWrites_S (x : List (Int × Int × Unit) × Unit) : Option (Bool × Unit) :=
  Option.bind (iter (fun v => impl_areWrites_D2 (x.1, x.1, (↑(List.length x.1) : Int), ()) v _ some) (0, ())) fun p => sumC p (fun p => some (false, ())) fun p => sumC p (fun p => some (false, ())) fun p => sumC p (fun p => some
  (false, ())) fun p => some (true, ())
noncomputable def q44_Ent : Ent := ⟨262, q44_ti, q44_to, impl_areWrites_S⟩
theorem q44_HC : CfgOK Tryz.prog q44_C := hc_of g_tisOK g_wide (all_cons q37_OK (all_cons q43_OK all_nil))
theorem q44_lk2 : LkOK Tryz.prog q44_C (lpc Tryz.f262 0) :=
  lk_of q44_HC (m := 0) (T := q44_T2) (sp := q44_P2) (D := impl_areWrites_D2) (E := q44_E2) (by kernel_rfl) (by kernel_rfl) (fun k hk => absurd hk (Nat.not_lt_zero k)) [2] q44_M2 (fun x => rfl) impl_areWrites_D2_nat q44_K2 (fun i p R K => by rcases p with p | p | p | p <;> rfl) (fun i v => by kernel_rfl)
theorem q44_OK : EntOK Tryz.prog q44_Ent := ok_of q44_HC Tryz.func262 1 (by kernel_rfl) (fun k hk => match k, hk with | 0, _ => q44_lk2) (by kernel_rfl) (by kernel_rfl) (fun x => by kernel_rfl)
noncomputable def q45_C : Cfg := { ti := g_tis, ents := [q35_Ent, q36_Ent, q42_Ent, q44_Ent], ann := [], lent := 0 }
def q45_ti : Tmpl := ⟨(.slot (Ty.prod Ty.i (Ty.prod Ty.i (Ty.prod (Ty.slice YReadMark) (Ty.prod (Ty.slice YReadMark)
  Ty.unit)))) .nil), .nil⟩
def q45_to : Tmpl := ⟨(.slot (Ty.bool) .nil), .nil⟩
noncomputable def impl_isEntry_S (x : (Int × Int × List (Int × Int × Unit) × List (Int × Int × Unit) × Unit) × Unit) : Option (Bool × Unit) :=
  Option.bind (impl_isID_S (x.1.1, ())) fun v => bif v.1 then Option.bind (impl_IsStamp_S (x.1.2.1, ())) fun v => bif v.1 then Option.bind (impl_areReads_S (x.1.2.2.1, ())) fun v => bif v.1 then Option.bind (impl_areWrites_S (x.1.2.2.2.1, ()))
  fun v => some (v.1, ()) else some (false, ()) else some (false, ()) else some (false, ())
noncomputable def q45_Ent : Ent := ⟨140, q45_ti, q45_to, impl_isEntry_S⟩
theorem q45_HC : CfgOK Tryz.prog q45_C := hc_of g_tisOK g_wide (all_cons q35_OK (all_cons q36_OK (all_cons q42_OK (all_cons q44_OK all_nil))))
theorem q45_OK : EntOK Tryz.prog q45_Ent := ok_of q45_HC Tryz.func140 0 (by kernel_rfl) (fun k hk => absurd hk (Nat.not_lt_zero k)) (by kernel_rfl) (by kernel_rfl) (fun x => by kernel_rfl)
noncomputable def q46_C : Cfg := { ti := g_tis, ents := [], ann := [], lent := 0 }
def q46_ti : Tmpl := ⟨(.slot (Ty.prod Ty.i (Ty.prod Ty.i (Ty.prod (Ty.slice YReadMark) (Ty.prod (Ty.slice YReadMark)
  Ty.unit)))) (.slot (Ty.iref Ty.i) .nil)), .nil⟩
def q46_to : Tmpl := ⟨(.slot (Ty.bool) .nil), .nil⟩
noncomputable def impl_FindEntry_1_S (x : (Int × Int × List (Int × Int × Unit) × List (Int × Int × Unit) × Unit) × Option Int × Unit) : Option (Bool × Unit) :=
  Option.bind x.2.1 fun v => some (x.1.1 == v, ())
noncomputable def q46_Ent : Ent := ⟨263, q46_ti, q46_to, impl_FindEntry_1_S⟩
theorem q46_HC : CfgOK Tryz.prog q46_C := hc_of g_tisOK g_wide all_nil
theorem q46_OK : EntOK Tryz.prog q46_Ent := ok_of q46_HC Tryz.func263 0 (by kernel_rfl) (fun k hk => absurd hk (Nat.not_lt_zero k)) (by kernel_rfl) (by kernel_rfl) (fun x => by kernel_rfl)
abbrev q47_I2 : Type := List (Int × Int × List (Int × Int × Unit) × List (Int × Int × Unit) × Unit) × (Option Int × Unit) × Int × Unit
abbrev q47_V2 : Type := Int × Unit
abbrev q47_Q2 : Type := Int × Unit ⊕ Unit
noncomputable def slices_IndexFunc__impl_FindEntry_1_D2 (i : q47_I2) (v : q47_V2) (R : Type) (K : q47_V2 ⊕ q47_Q2 → Option R) : Option R :=
  bif decide (v.1 < i.2.2.1) then Option.bind (lAt i.1 v.1) fun v_1 => Option.bind (impl_FindEntry_1_S ((v_1.1, v_1.2.1, v_1.2.2.1, v_1.2.2.2.1, ()), i.2.1.1, ())) fun v_2 => bif v_2.1 then K (Sum.inr (Sum.inl (v.1, ()))) else K (Sum.inl
  (IntKind.wrap IntKind.i64 (v.1 + 1), ())) else K (Sum.inr (Sum.inr ()))
theorem slices_IndexFunc__impl_FindEntry_1_D2_nat : NatD slices_IndexFunc__impl_FindEntry_1_D2 := fun i v R K => nat_bif (nat_bind fun _ => nat_bind fun _ => nat_bif (nat_some) (nat_some)) (nat_some)
def q47_T2 : Tmpl := ⟨(.slot (Ty.slice (Ty.prod Ty.i (Ty.prod Ty.i (Ty.prod (Ty.slice YReadMark) (Ty.prod (Ty.slice (Ty.prod Ty.i (Ty.prod Ty.i
  Ty.unit))) Ty.unit))))) (.slot (Ty.fn 263 (Ty.prod (Ty.iref Ty.i) Ty.unit)) (jk 5 (.slot Ty.i (.slot Ty.i (jk 10 .nil)))))), .nil⟩
def q47_X2_0 (i : q47_I2) (p : Int × Unit) : St := ⟨jn 4 (.n (p.1) :: jn 14 ([])), []⟩
def q47_X2_1 (i : q47_I2) (p : Unit) : St := ⟨jn 19 ([]), []⟩
noncomputable def q47_E2 (i : q47_I2) (p : q47_Q2) (R : Type) (K : Ex → St → Option R) : Option R := sumC p (fun p => K (Ex.ret) (q47_X2_0 i p)) fun p => K (Ex.exit 0) (q47_X2_1 i p)
noncomputable def q47_K2 (i : q47_I2) (p : q47_Q2) : Ex × St := sumC p (fun p => (Ex.ret, q47_X2_0 i p)) fun p => (Ex.exit 0, q47_X2_1 i p)
def q47_M2 (i : q47_I2) (v : q47_V2) : den q47_T2.ty := (i.1, i.2.1, i.2.2.1, v.1, ())
def q47_P2 (x : den q47_T2.ty) : q47_I2 × q47_V2 := ((x.1, x.2.1, x.2.2.1, ()), (x.2.2.2.1, ()))
noncomputable def q47_C : Cfg := { ti := g_tis, ents := [q46_Ent], ann := [(2, loopFn q47_T2 0 q47_P2 slices_IndexFunc__impl_FindEntry_1_D2 q47_E2)], lent := 0 }
def q47_ti : Tmpl := ⟨(.slot (Ty.slice (Ty.prod Ty.i (Ty.prod Ty.i (Ty.prod (Ty.slice YReadMark) (Ty.prod (Ty.slice (Ty.prod Ty.i (Ty.prod Ty.i
  Ty.unit))) Ty.unit))))) (.slot (Ty.fn 263 (Ty.prod (Ty.iref Ty.i) Ty.unit)) .nil)), .nil⟩
def q47_to : Tmpl := ⟨(.slot Ty.i .nil), .nil⟩
noncomputable def slices_IndexFunc__impl_FindEntry_1_S (x : List (Int × Int × List (Int × Int × Unit) × List (Int × Int × Unit) × Unit) × (Option Int × Unit) × Unit) : Option (Int × Unit) :=
  Option.bind (iter (fun v => slices_IndexFunc__impl_FindEntry_1_D2 (x.1, x.2.1, (↑(List.length x.1) : Int), ()) v _ some) (0, ())) fun p => sumC p (fun p => some (p.1, ())) fun p => some (-1, ())
noncomputable def q47_Ent : Ent := ⟨143, q47_ti, q47_to, slices_IndexFunc__impl_FindEntry_1_S⟩
theorem q47_HC : CfgOK Tryz.prog q47_C := hc_of g_tisOK g_wide (all_cons q46_OK all_nil)
theorem q47_lk2 : LkOK Tryz.prog q47_C (lpc Tryz.f143 0) :=
  lk_of q47_HC (m := 0) (T := q47_T2) (sp := q47_P2) (D := slices_IndexFunc__impl_FindEntry_1_D2) (E := q47_E2) (by kernel_rfl) (by kernel_rfl) (fun k hk => absurd hk (Nat.not_lt_zero k)) [4] q47_M2 (fun x => rfl) slices_IndexFunc__impl_FindEntry_1_D2_nat q47_K2 (fun i p R K => by rcases p with p | p <;> rfl) (fun i v => by kernel_rfl)
theorem q47_OK : EntOK Tryz.prog q47_Ent := ok_of q47_HC Tryz.func143 1 (by kernel_rfl) (fun k hk => match k, hk with | 0, _ => q47_lk2) (by kernel_rfl) (by kernel_rfl) (fun x => by kernel_rfl)
noncomputable def q48_C : Cfg := { ti := g_tis, ents := [q47_Ent], ann := [], lent := 0 }
def q48_ti : Tmpl := ⟨(.slot (Ty.slice (Ty.prod Ty.i (Ty.prod Ty.i (Ty.prod (Ty.slice YReadMark) (Ty.prod (Ty.slice (Ty.prod Ty.i (Ty.prod Ty.i
  Ty.unit))) Ty.unit))))) (.slot Ty.i .nil)), .nil⟩
def q48_to : Tmpl := ⟨(.slot Ty.i .nil), .nil⟩
noncomputable def impl_FindEntry_S (x : List (Int × Int × List (Int × Int × Unit) × List (Int × Int × Unit) × Unit) × Int × Unit) : Option (Int × Unit) :=
  Option.bind (slices_IndexFunc__impl_FindEntry_1_S (x.1, (some x.2.1, ()), ())) fun v => some (v.1, ())
noncomputable def q48_Ent : Ent := ⟨141, q48_ti, q48_to, impl_FindEntry_S⟩
theorem q48_HC : CfgOK Tryz.prog q48_C := hc_of g_tisOK g_wide (all_cons q47_OK all_nil)
theorem q48_OK : EntOK Tryz.prog q48_Ent := ok_of q48_HC Tryz.func141 0 (by kernel_rfl) (fun k hk => absurd hk (Nat.not_lt_zero k)) (by kernel_rfl) (by kernel_rfl) (fun x => by kernel_rfl)
noncomputable def q49_C : Cfg := { ti := g_tis, ents := [], ann := [], lent := 0 }
def q49_ti : Tmpl := ⟨(.slot YReadMark (.slot (Ty.iref Ty.i) .nil)), .nil⟩
def q49_to : Tmpl := ⟨(.slot (Ty.bool) .nil), .nil⟩
noncomputable def impl_Entry_writes_1_S (x : (Int × Int × Unit) × Option Int × Unit) : Option (Bool × Unit) :=
  Option.bind x.2.1 fun v => some (x.1.1 == v, ())
noncomputable def q49_Ent : Ent := ⟨278, q49_ti, q49_to, impl_Entry_writes_1_S⟩
theorem q49_HC : CfgOK Tryz.prog q49_C := hc_of g_tisOK g_wide all_nil
theorem q49_OK : EntOK Tryz.prog q49_Ent := ok_of q49_HC Tryz.func278 0 (by kernel_rfl) (fun k hk => absurd hk (Nat.not_lt_zero k)) (by kernel_rfl) (by kernel_rfl) (fun x => by kernel_rfl)
abbrev q50_I2 : Type := List (Int × Int × Unit) × (Option Int × Unit) × Int × Unit
abbrev q50_V2 : Type := Int × Unit
abbrev q50_Q2 : Type := Int × Unit ⊕ Unit
noncomputable def slices_IndexFunc__impl_Entry_writes_1_D2 (i : q50_I2) (v : q50_V2) (R : Type) (K : q50_V2 ⊕ q50_Q2 → Option R) : Option R :=
  bif decide (v.1 < i.2.2.1) then Option.bind (lAt i.1 v.1) fun v_1 => Option.bind (impl_Entry_writes_1_S ((v_1.1, v_1.2.1, ()), i.2.1.1, ())) fun v_2 => bif v_2.1 then K (Sum.inr (Sum.inl (v.1, ()))) else K (Sum.inl (IntKind.wrap IntKind.i64
  (v.1 + 1), ())) else K (Sum.inr (Sum.inr ()))
theorem slices_IndexFunc__impl_Entry_writes_1_D2_nat : NatD slices_IndexFunc__impl_Entry_writes_1_D2 := fun i v R K => nat_bif (nat_bind fun _ => nat_bind fun _ => nat_bif (nat_some) (nat_some)) (nat_some)
def q50_T2 : Tmpl := ⟨(.slot (Ty.slice YReadMark) (.slot (Ty.fn 278 (Ty.prod (Ty.iref Ty.i) Ty.unit)) (jk 5 (.slot Ty.i (.slot Ty.i (jk 10 .nil)))))), .nil⟩
def q50_X2_0 (i : q50_I2) (p : Int × Unit) : St := ⟨jn 4 (.n (p.1) :: jn 14 ([])), []⟩
def q50_X2_1 (i : q50_I2) (p : Unit) : St := ⟨jn 19 ([]), []⟩
noncomputable def q50_E2 (i : q50_I2) (p : q50_Q2) (R : Type) (K : Ex → St → Option R) : Option R := sumC p (fun p => K (Ex.ret) (q50_X2_0 i p)) fun p => K (Ex.exit 0) (q50_X2_1 i p)
noncomputable def q50_K2 (i : q50_I2) (p : q50_Q2) : Ex × St := sumC p (fun p => (Ex.ret, q50_X2_0 i p)) fun p => (Ex.exit 0, q50_X2_1 i p)
def q50_M2 (i : q50_I2) (v : q50_V2) : den q50_T2.ty := (i.1, i.2.1, i.2.2.1, v.1, ())
def q50_P2 (x : den q50_T2.ty) : q50_I2 × q50_V2 := ((x.1, x.2.1, x.2.2.1, ()), (x.2.2.2.1, ()))
noncomputable def q50_C : Cfg := { ti := g_tis, ents := [q49_Ent], ann := [(2, loopFn q50_T2 0 q50_P2 slices_IndexFunc__impl_Entry_writes_1_D2 q50_E2)], lent := 0 }
def q50_ti : Tmpl := ⟨(.slot (Ty.slice YReadMark) (.slot (Ty.fn 278 (Ty.prod (Ty.iref Ty.i) Ty.unit)) .nil)), .nil⟩
def q50_to : Tmpl := ⟨(.slot Ty.i .nil), .nil⟩
noncomputable def slices_IndexFunc__impl_Entry_writes_1_S (x : List (Int × Int × Unit) × (Option Int × Unit) × Unit) : Option (Int × Unit) :=
  Option.bind (iter (fun v => slices_IndexFunc__impl_Entry_writes_1_D2 (x.1, x.2.1, (↑(List.length x.1) : Int), ()) v _ some) (0, ())) fun p => sumC p (fun p => some (p.1, ())) fun p => some (-1, ())
noncomputable def q50_Ent : Ent := ⟨277, q50_ti, q50_to, slices_IndexFunc__impl_Entry_writes_1_S⟩
theorem q50_HC : CfgOK Tryz.prog q50_C := hc_of g_tisOK g_wide (all_cons q49_OK all_nil)
theorem q50_lk2 : LkOK Tryz.prog q50_C (lpc Tryz.f277 0) :=
  lk_of q50_HC (m := 0) (T := q50_T2) (sp := q50_P2) (D := slices_IndexFunc__impl_Entry_writes_1_D2) (E := q50_E2) (by kernel_rfl) (by kernel_rfl) (fun k hk => absurd hk (Nat.not_lt_zero k)) [4] q50_M2 (fun x => rfl) slices_IndexFunc__impl_Entry_writes_1_D2_nat q50_K2 (fun i p R K => by rcases p with p | p <;> rfl) (fun i v => by kernel_rfl)
theorem q50_OK : EntOK Tryz.prog q50_Ent := ok_of q50_HC Tryz.func277 1 (by kernel_rfl) (fun k hk => match k, hk with | 0, _ => q50_lk2) (by kernel_rfl) (by kernel_rfl) (fun x => by kernel_rfl)
noncomputable def q51_C : Cfg := { ti := g_tis, ents := [q50_Ent], ann := [], lent := 0 }
def q51_ti : Tmpl := ⟨(.slot (Ty.slice YReadMark) (.slot (Ty.fn 278 (Ty.prod (Ty.iref Ty.i) Ty.unit)) .nil)), .nil⟩
def q51_to : Tmpl := ⟨(.slot (Ty.bool) .nil), .nil⟩
noncomputable def slices_ContainsFunc__impl_Entry_writes_1_S (x : List (Int × Int × Unit) × (Option Int × Unit) × Unit) : Option (Bool × Unit) :=
  Option.bind (slices_IndexFunc__impl_Entry_writes_1_S (x.1, x.2.1, ())) fun v => some (decide (v.1 ≥ 0), ())
noncomputable def q51_Ent : Ent := ⟨169, q51_ti, q51_to, slices_ContainsFunc__impl_Entry_writes_1_S⟩
theorem q51_HC : CfgOK Tryz.prog q51_C := hc_of g_tisOK g_wide (all_cons q50_OK all_nil)
theorem q51_OK : EntOK Tryz.prog q51_Ent := ok_of q51_HC Tryz.func169 0 (by kernel_rfl) (fun k hk => absurd hk (Nat.not_lt_zero k)) (by kernel_rfl) (by kernel_rfl) (fun x => by kernel_rfl)
noncomputable def q52_C : Cfg := { ti := g_tis, ents := [q51_Ent], ann := [], lent := 0 }
def q52_ti : Tmpl := ⟨(.slot (Ty.prod Ty.i (Ty.prod Ty.i (Ty.prod (Ty.slice YReadMark) (Ty.prod (Ty.slice YReadMark)
  Ty.unit)))) (.slot Ty.i .nil)), .nil⟩
def q52_to : Tmpl := ⟨(.slot (Ty.bool) .nil), .nil⟩
noncomputable def impl_Entry_writes_S (x : (Int × Int × List (Int × Int × Unit) × List (Int × Int × Unit) × Unit) × Int × Unit) : Option (Bool × Unit) :=
  Option.bind (slices_ContainsFunc__impl_Entry_writes_1_S (x.1.2.2.2.1, (some x.2.1, ()), ())) fun v => some (v.1, ())
noncomputable def q52_Ent : Ent := ⟨171, q52_ti, q52_to, impl_Entry_writes_S⟩
theorem q52_HC : CfgOK Tryz.prog q52_C := hc_of g_tisOK g_wide (all_cons q51_OK all_nil)
theorem q52_OK : EntOK Tryz.prog q52_Ent := ok_of q52_HC Tryz.func171 0 (by kernel_rfl) (fun k hk => absurd hk (Nat.not_lt_zero k)) (by kernel_rfl) (by kernel_rfl) (fun x => by kernel_rfl)
abbrev q53_I2 : Type := List (Int × Int × List (Int × Int × Unit) × List (Int × Int × Unit) × Unit) × Int × Int × Int × Unit
abbrev q53_V2 : Type := Int × Unit
abbrev q53_Q2 : Type := Int × Int × List (Int × Int × Unit) × List (Int × Int × Unit) × Unit ⊕ Unit
noncomputable def impl_WriterOf_D2 (i : q53_I2) (v : q53_V2) (R : Type) (K : q53_V2 ⊕ q53_Q2 → Option R) : Option R :=
  bif decide (v.1 < i.2.1) then Option.bind (lAt i.1 v.1) fun v_1 => bif v_1.2.1 == i.2.2.2.1 then Option.bind (impl_Entry_writes_S ((v_1.1, v_1.2.1, v_1.2.2.1, v_1.2.2.2.1, ()), i.2.2.1, ())) fun v_2 => bif v_2.1 then K (Sum.inr (Sum.inl
  (v_1.1, v_1.2.1, v_1.2.2.1, v_1.2.2.2.1, ()))) else K (Sum.inl (IntKind.wrap IntKind.i64 (v.1 + 1), ())) else K (Sum.inl (IntKind.wrap IntKind.i64 (v.1 + 1), ())) else K (Sum.inr (Sum.inr ()))
theorem impl_WriterOf_D2_nat : NatD impl_WriterOf_D2 := fun i v R K => nat_bif (nat_bind fun _ => nat_bif (nat_bind fun _ => nat_bif (nat_some) (nat_some)) (nat_some)) (nat_some)
def q53_T2 : Tmpl := ⟨(jk 3 (.ptr 0 0 0 (jk 3 (.slot (Ty.slice (Ty.prod Ty.i (Ty.prod Ty.i (Ty.prod (Ty.slice YReadMark) (Ty.prod (Ty.slice (Ty.prod Ty.i (Ty.prod Ty.i
  Ty.unit))) Ty.unit))))) (.slot Ty.i (.slot Ty.i (jk 17 .nil))))))), (.cells 2 (.slot Ty.i (.slot Ty.i .nil)) .nil)⟩
def q53_X2_0 (i : q53_I2) (p : Int × Int × List (Int × Int × Unit) × List (Int × Int × Unit) × Unit) : St := ⟨jn 4 (.n (p.1) :: jn 22 ([])), [some (Cont.cells 2 [[AV.pv Ty.i i.2.2.1, AV.pv Ty.i i.2.2.2.1]]), some (Cont.cells 4 [[AV.pv Ty.i p.1, AV.pv Ty.i p.2.1, AV.pv (Ty.slice
  YReadMark) p.2.2.1, AV.pv (Ty.slice YReadMark) p.2.2.2.1]])]⟩
def q53_X2_1 (i : q53_I2) (p : Unit) : St := ⟨jn 27 ([]), [some (Cont.cells 2 [[AV.pv Ty.i i.2.2.1, AV.pv Ty.i i.2.2.2.1]])]⟩
noncomputable def q53_E2 (i : q53_I2) (p : q53_Q2) (R : Type) (K : Ex → St → Option R) : Option R := sumC p (fun p => K (Ex.ret) (q53_X2_0 i p)) fun p => K (Ex.exit 0) (q53_X2_1 i p)
noncomputable def q53_K2 (i : q53_I2) (p : q53_Q2) : Ex × St := sumC p (fun p => (Ex.ret, q53_X2_0 i p)) fun p => (Ex.exit 0, q53_X2_1 i p)
def q53_M2 (i : q53_I2) (v : q53_V2) : den q53_T2.ty := (i.1, i.2.1, v.1, i.2.2.1, i.2.2.2.1, ())
def q53_P2 (x : den q53_T2.ty) : q53_I2 × q53_V2 := ((x.1, x.2.1, x.2.2.2.1, x.2.2.2.2.1, ()), (x.2.2.1, ()))
noncomputable def q53_C : Cfg := { ti := g_tis, ents := [q52_Ent], ann := [(2, loopFn q53_T2 0 q53_P2 impl_WriterOf_D2 q53_E2)], lent := 0 }
def q53_ti : Tmpl := ⟨(.slot (Ty.slice (Ty.prod Ty.i (Ty.prod Ty.i (Ty.prod (Ty.slice YReadMark) (Ty.prod (Ty.slice (Ty.prod Ty.i (Ty.prod Ty.i
  Ty.unit))) Ty.unit))))) (.slot YReadMark .nil)), .nil⟩
def q53_to : Tmpl := ⟨(.slot Ty.i .nil), .nil⟩
noncomputable def impl_WriterOf_S (x : List (Int × Int × List (Int × Int × Unit) × List (Int × Int × Unit) × Unit) × (Int × Int × Unit) × Unit) : Option (Int × Unit) :=
  Option.bind (iter (fun v => impl_WriterOf_D2 (x.1, (↑(List.length x.1) : Int), x.2.1.1, x.2.1.2.1, ()) v _ some) (0, ())) fun p => sumC p (fun p => some (p.1, ())) fun p => some (0, ())
noncomputable def q53_Ent : Ent := ⟨142, q53_ti, q53_to, impl_WriterOf_S⟩
theorem q53_HC : CfgOK Tryz.prog q53_C := hc_of g_tisOK g_wide (all_cons q52_OK all_nil)
theorem q53_lk2 : LkOK Tryz.prog q53_C (lpc Tryz.f142 0) :=
  lk_of q53_HC (m := 0) (T := q53_T2) (sp := q53_P2) (D := impl_WriterOf_D2) (E := q53_E2) (by kernel_rfl) (by kernel_rfl) (fun k hk => absurd hk (Nat.not_lt_zero k)) [4] q53_M2 (fun x => rfl) impl_WriterOf_D2_nat q53_K2 (fun i p R K => by rcases p with p | p <;> rfl) (fun i v => by kernel_rfl)
theorem q53_OK : EntOK Tryz.prog q53_Ent := ok_of q53_HC Tryz.func142 1 (by kernel_rfl) (fun k hk => match k, hk with | 0, _ => q53_lk2) (by kernel_rfl) (by kernel_rfl) (fun x => by kernel_rfl)
abbrev q54_I4 : Type := List (Int × Int × List (Int × Int × Unit) × List (Int × Int × Unit) × Unit) × List (Int × Int × List (Int × Int × Unit) × List (Int × Int × Unit) × Unit) × Int × Unit
abbrev q54_V4 : Type := Int × Unit
abbrev q54_Q4 : Type := Int × Int × List (Int × Int × Unit) × List (Int × Int × Unit) × Unit ⊕ Int × Int × List (Int × Int × Unit) × List (Int × Int × Unit) × Unit ⊕ Int × Int × List (Int × Int × Unit) × List (Int × Int × Unit) × Unit ⊕ Int × Int × List (Int × Int
  × Unit) × List (Int × Int × Unit) × Unit ⊕ Unit
noncomputable def impl_IsHistory_D4 (i : q54_I4) (v : q54_V4) (R : Type) (K : q54_V4 ⊕ q54_Q4 → Option R) : Option R :=
  bif decide (v.1 < i.2.2.1) then Option.bind (lAt i.2.1 v.1) fun v_1 => Option.bind (impl_isEntry_S ((v_1.1, v_1.2.1, v_1.2.2.1, v_1.2.2.2.1, ()), ())) fun v_2 => bif !v_2.1 then K (Sum.inr (Sum.inl (v_1.1, v_1.2.1, v_1.2.2.1, v_1.2.2.2.1,
  ()))) else Option.bind (impl_FindEntry_S (i.1, v_1.1, ())) fun v_3 => bif v_3.1 != v.1 then K (Sum.inr (Sum.inr (Sum.inl (v_1.1, v_1.2.1, v_1.2.2.1, v_1.2.2.2.1, ())))) else bif decide (v.1 > 0) then Option.bind (lAt i.1 (IntKind.wrap
  IntKind.i64 (v.1 - 1))) fun v_4 => bif decide (v_1.2.1 < v_4.2.1) then K (Sum.inr (Sum.inr (Sum.inr (Sum.inl (v_1.1, v_1.2.1, v_1.2.2.1, v_1.2.2.2.1, ()))))) else Option.bind (lAt i.1 (IntKind.wrap IntKind.i64 (v.1 - 1))) fun v_5 => bif
  v_1.2.1 == v_5.2.1 then bif decide ((↑(List.length v_1.2.2.2.1) : Int) > 0) then K (Sum.inr (Sum.inr (Sum.inr (Sum.inr (Sum.inl (v_1.1, v_1.2.1, v_1.2.2.1, v_1.2.2.2.1, ())))))) else K (Sum.inl (IntKind.wrap IntKind.i64 (v.1 + 1), ())) else
  K (Sum.inl (IntKind.wrap IntKind.i64 (v.1 + 1), ())) else K (Sum.inl (IntKind.wrap IntKind.i64 (v.1 + 1), ())) else K (Sum.inr (Sum.inr (Sum.inr (Sum.inr (Sum.inr ())))))
theorem impl_IsHistory_D4_nat : NatD impl_IsHistory_D4 := fun i v R K => nat_bif (nat_bind fun _ => nat_bind fun _ => nat_bif (nat_some) (nat_bind fun _ => nat_bif (nat_some) (nat_bif (nat_bind fun _ => nat_bif (nat_some) (nat_bind fun _ => nat_bif (nat_bif (nat_some) (nat_some)) (nat_some))) (nat_some)))) (nat_some)
def q54_T4 : Tmpl := ⟨(.slot (Ty.slice (Ty.prod Ty.i (Ty.prod Ty.i (Ty.prod (Ty.slice YReadMark) (Ty.prod (Ty.slice (Ty.prod Ty.i (Ty.prod Ty.i
  Ty.unit))) Ty.unit))))) (jk 12 (.slot (Ty.slice (Ty.prod Ty.i (Ty.prod Ty.i (Ty.prod (Ty.slice YReadMark) (Ty.prod (Ty.slice (Ty.prod Ty.i (Ty.prod Ty.i
  Ty.unit))) Ty.unit))))) (.slot Ty.i (.slot Ty.i (jk 77 .nil)))))), .nil⟩
def q54_X4_0 (i : q54_I4) (p : Int × Int × List (Int × Int × Unit) × List (Int × Int × Unit) × Unit) : St := ⟨AV.pv (Ty.slice (Ty.prod Ty.i (Ty.prod Ty.i (Ty.prod (Ty.slice YReadMark) (Ty.prod (Ty.slice (Ty.prod Ty.i (Ty.prod (Ty.int
  IntKind.i64) Ty.unit))) Ty.unit))))) i.1 :: jn 1 (.b (false) :: jn 90 ([])), [some (Cont.cells 4 [[AV.pv Ty.i p.1, AV.pv Ty.i p.2.1, AV.pv (Ty.slice (Ty.prod Ty.i (Ty.prod Ty.i
  Ty.unit))) p.2.2.1, AV.pv (Ty.slice YReadMark) p.2.2.2.1]])]⟩
def q54_X4_1 (i : q54_I4) (p : Int × Int × List (Int × Int × Unit) × List (Int × Int × Unit) × Unit) : St := ⟨AV.pv (Ty.slice (Ty.prod Ty.i (Ty.prod Ty.i (Ty.prod (Ty.slice YReadMark) (Ty.prod (Ty.slice (Ty.prod Ty.i (Ty.prod (Ty.int
  IntKind.i64) Ty.unit))) Ty.unit))))) i.1 :: jn 1 (.b (false) :: jn 90 ([])), [some (Cont.cells 4 [[AV.pv Ty.i p.1, AV.pv Ty.i p.2.1, AV.pv (Ty.slice (Ty.prod Ty.i (Ty.prod Ty.i
  Ty.unit))) p.2.2.1, AV.pv (Ty.slice YReadMark) p.2.2.2.1]])]⟩
def q54_X4_2 (i : q54_I4) (p : Int × Int × List (Int × Int × Unit) × List (Int × Int × Unit) × Unit) : St := ⟨AV.pv (Ty.slice (Ty.prod Ty.i (Ty.prod Ty.i (Ty.prod (Ty.slice YReadMark) (Ty.prod (Ty.slice (Ty.prod Ty.i (Ty.prod (Ty.int
  IntKind.i64) Ty.unit))) Ty.unit))))) i.1 :: jn 1 (.b (false) :: jn 90 ([])), [some (Cont.cells 4 [[AV.pv Ty.i p.1, AV.pv Ty.i p.2.1, AV.pv (Ty.slice (Ty.prod Ty.i (Ty.prod Ty.i
  Ty.unit))) p.2.2.1, AV.pv (Ty.slice YReadMark) p.2.2.2.1]])]⟩
def q54_X4_3 (i : q54_I4) (p : Int × Int × List (Int × Int × Unit) × List (Int × Int × Unit) × Unit) : St := ⟨AV.pv (Ty.slice (Ty.prod Ty.i (Ty.prod Ty.i (Ty.prod (Ty.slice YReadMark) (Ty.prod (Ty.slice (Ty.prod Ty.i (Ty.prod (Ty.int
  IntKind.i64) Ty.unit))) Ty.unit))))) i.1 :: jn 1 (.b (false) :: jn 90 ([])), [some (Cont.cells 4 [[AV.pv Ty.i p.1, AV.pv Ty.i p.2.1, AV.pv (Ty.slice (Ty.prod Ty.i (Ty.prod Ty.i
  Ty.unit))) p.2.2.1, AV.pv (Ty.slice YReadMark) p.2.2.2.1]])]⟩
def q54_X4_4 (i : q54_I4) (p : Unit) : St := ⟨AV.pv (Ty.slice (Ty.prod Ty.i (Ty.prod Ty.i (Ty.prod (Ty.slice YReadMark) (Ty.prod (Ty.slice (Ty.prod Ty.i (Ty.prod (Ty.int
  IntKind.i64) Ty.unit))) Ty.unit))))) i.1 :: jn 92 ([]), []⟩
noncomputable def q54_E4 (i : q54_I4) (p : q54_Q4) (R : Type) (K : Ex → St → Option R) : Option R := sumC p (fun p => K (Ex.ret) (q54_X4_0 i p)) fun p => sumC p (fun p => K (Ex.ret) (q54_X4_1 i p)) fun p => sumC p (fun p => K (Ex.ret) (q54_X4_2 i p)) fun p => sumC p (fun p => K (Ex.ret) (q54_X4_3 i p)) fun p => K (Ex.exit 0) (q54_X4_4 i p)
noncomputable def q54_K4 (i : q54_I4) (p : q54_Q4) : Ex × St := sumC p (fun p => (Ex.ret, q54_X4_0 i p)) fun p => sumC p (fun p => (Ex.ret, q54_X4_1 i p)) fun p => sumC p (fun p => (Ex.ret, q54_X4_2 i p)) fun p => sumC p (fun p => (Ex.ret, q54_X4_3 i p)) fun p => (Ex.exit 0, q54_X4_4 i p)
def q54_M4 (i : q54_I4) (v : q54_V4) : den q54_T4.ty := (i.1, i.2.1, i.2.2.1, v.1, ())
def q54_P4 (x : den q54_T4.ty) : q54_I4 × q54_V4 := ((x.1, x.2.1, x.2.2.1, ()), (x.2.2.2.1, ()))
abbrev q54_I15 : Type := List (Int × Int × List (Int × Int × Unit) × List (Int × Int × Unit) × Unit) × List (Int × Int × List (Int × Int × Unit) × List (Int × Int × Unit) × Unit) × Int × Int × List (Int × Int × Unit) × Int × Int × Int × List (Int × Int × Unit) ×
  List (Int × Int × Unit) × Unit
abbrev q54_V15 : Type := Int × Unit
abbrev q54_Q15 : Type := Int × Int × Unit ⊕ Int × Int × Unit ⊕ Unit
noncomputable def impl_IsHistory_D15 (i : q54_I15) (v : q54_V15) (R : Type) (K : q54_V15 ⊕ q54_Q15 → Option R) : Option R :=
  bif decide (v.1 < i.2.2.2.2.2.1) then Option.bind (lAt i.2.2.2.2.1 v.1) fun v_1 => Option.bind (impl_WriterOf_S (i.1, (v_1.1, v_1.2.1, ()), ())) fun v_2 => bif v_2.1 == i.2.2.2.2.2.2.1 then K (Sum.inr (Sum.inl (v_1.1, v_1.2.1, ()))) else bif
  decide (v_1.2.1 > 0) then bif v_2.1 == 0 then K (Sum.inr (Sum.inr (Sum.inl (v_1.1, v_1.2.1, ())))) else K (Sum.inl (IntKind.wrap IntKind.i64 (v.1 + 1), ())) else K (Sum.inl (IntKind.wrap IntKind.i64 (v.1 + 1), ())) else K (Sum.inr (Sum.inr
  (Sum.inr ())))
theorem impl_IsHistory_D15_nat : NatD impl_IsHistory_D15 := fun i v R K => nat_bif (nat_bind fun _ => nat_bind fun _ => nat_bif (nat_some) (nat_bif (nat_bif (nat_some) (nat_some)) (nat_some))) (nat_some)
def q54_T15 : Tmpl := ⟨(.slot (Ty.slice (Ty.prod Ty.i (Ty.prod Ty.i (Ty.prod (Ty.slice YReadMark) (Ty.prod (Ty.slice (Ty.prod Ty.i (Ty.prod Ty.i
  Ty.unit))) Ty.unit))))) (jk 5 (.ptr 0 0 0 (jk 55 (.slot (Ty.slice (Ty.prod Ty.i (Ty.prod Ty.i (Ty.prod (Ty.slice YReadMark) (Ty.prod (Ty.slice (Ty.prod Ty.i (Ty.prod Ty.i
  Ty.unit))) Ty.unit))))) (.slot Ty.i (.slot Ty.i (jk 4 (.slot (Ty.slice YReadMark) (.slot Ty.i (.slot Ty.i (jk 21 .nil)))))))))))), (.cells 4 (.slot Ty.i (.slot Ty.i (.slot (Ty.slice YReadMark) (.slot (Ty.slice YReadMark) .nil)))) .nil)⟩
def q54_X15_0 (i : q54_I15) (p : Int × Int × Unit) : St := ⟨AV.pv (Ty.slice (Ty.prod Ty.i (Ty.prod Ty.i (Ty.prod (Ty.slice YReadMark) (Ty.prod (Ty.slice (Ty.prod Ty.i (Ty.prod (Ty.int
  IntKind.i64) Ty.unit))) Ty.unit))))) i.1 :: jn 1 (.b (false) :: jn 59 (AV.pv (Ty.slice (Ty.prod Ty.i (Ty.prod Ty.i (Ty.prod (Ty.slice YReadMark)
  (Ty.prod (Ty.slice YReadMark) Ty.unit))))) i.2.1 :: .n (i.2.2.1) :: .n (i.2.2.2.1) :: jn 28 ([]))), [some (Cont.cells 4 [[AV.pv Ty.i i.2.2.2.2.2.2.1, AV.pv (Ty.int
  IntKind.i64) i.2.2.2.2.2.2.2.1, AV.pv (Ty.slice YReadMark) i.2.2.2.2.2.2.2.2.1, AV.pv (Ty.slice YReadMark)
  i.2.2.2.2.2.2.2.2.2.1]]), some (Cont.cells 2 [[AV.pv Ty.i p.1, AV.pv Ty.i p.2.1]])]⟩
def q54_X15_1 (i : q54_I15) (p : Int × Int × Unit) : St := ⟨AV.pv (Ty.slice (Ty.prod Ty.i (Ty.prod Ty.i (Ty.prod (Ty.slice YReadMark) (Ty.prod (Ty.slice (Ty.prod Ty.i (Ty.prod (Ty.int
  IntKind.i64) Ty.unit))) Ty.unit))))) i.1 :: jn 1 (.b (false) :: jn 59 (AV.pv (Ty.slice (Ty.prod Ty.i (Ty.prod Ty.i (Ty.prod (Ty.slice YReadMark)
  (Ty.prod (Ty.slice YReadMark) Ty.unit))))) i.2.1 :: .n (i.2.2.1) :: .n (i.2.2.2.1) :: jn 28 ([]))), [some (Cont.cells 4 [[AV.pv Ty.i i.2.2.2.2.2.2.1, AV.pv (Ty.int
  IntKind.i64) i.2.2.2.2.2.2.2.1, AV.pv (Ty.slice YReadMark) i.2.2.2.2.2.2.2.2.1, AV.pv (Ty.slice YReadMark)
  i.2.2.2.2.2.2.2.2.2.1]]), some (Cont.cells 2 [[AV.pv Ty.i p.1, AV.pv Ty.i p.2.1]])]⟩
def q54_X15_2 (i : q54_I15) (p : Unit) : St := ⟨AV.pv (Ty.slice (Ty.prod Ty.i (Ty.prod Ty.i (Ty.prod (Ty.slice YReadMark) (Ty.prod (Ty.slice (Ty.prod Ty.i (Ty.prod (Ty.int
  IntKind.i64) Ty.unit))) Ty.unit))))) i.1 :: jn 61 (AV.pv (Ty.slice (Ty.prod Ty.i (Ty.prod Ty.i (Ty.prod (Ty.slice YReadMark) (Ty.prod (Ty.slice
  YReadMark) Ty.unit))))) i.2.1 :: .n (i.2.2.1) :: .n (i.2.2.2.1) :: jn 28 ([])), [some (Cont.cells 4 [[AV.pv Ty.i i.2.2.2.2.2.2.1, AV.pv Ty.i
  i.2.2.2.2.2.2.2.1, AV.pv (Ty.slice YReadMark) i.2.2.2.2.2.2.2.2.1, AV.pv (Ty.slice YReadMark) i.2.2.2.2.2.2.2.2.2.1]])]⟩
noncomputable def q54_E15 (i : q54_I15) (p : q54_Q15) (R : Type) (K : Ex → St → Option R) : Option R := sumC p (fun p => K (Ex.ret) (q54_X15_0 i p)) fun p => sumC p (fun p => K (Ex.ret) (q54_X15_1 i p)) fun p => K (Ex.exit 4) (q54_X15_2 i p)
noncomputable def q54_K15 (i : q54_I15) (p : q54_Q15) : Ex × St := sumC p (fun p => (Ex.ret, q54_X15_0 i p)) fun p => sumC p (fun p => (Ex.ret, q54_X15_1 i p)) fun p => (Ex.exit 4, q54_X15_2 i p)
def q54_M15 (i : q54_I15) (v : q54_V15) : den q54_T15.ty := (i.1, i.2.1, i.2.2.1, i.2.2.2.1, i.2.2.2.2.1, i.2.2.2.2.2.1, v.1, i.2.2.2.2.2.2.1, i.2.2.2.2.2.2.2.1, i.2.2.2.2.2.2.2.2.1, i.2.2.2.2.2.2.2.2.2.1, ())
def q54_P15 (x : den q54_T15.ty) : q54_I15 × q54_V15 := ((x.1, x.2.1, x.2.2.1, x.2.2.2.1, x.2.2.2.2.1, x.2.2.2.2.2.1, x.2.2.2.2.2.2.2.1, x.2.2.2.2.2.2.2.2.1, x.2.2.2.2.2.2.2.2.2.1, x.2.2.2.2.2.2.2.2.2.2.1, ()), (x.2.2.2.2.2.2.1, ()))
abbrev q54_I12 : Type := List (Int × Int × List (Int × Int × Unit) × List (Int × Int × Unit) × Unit) × List (Int × Int × List (Int × Int × Unit) × List (Int × Int × Unit) × Unit) × Int × Unit
abbrev q54_V12 : Type := Int × Unit
abbrev q54_Q12 : Type := Int × Int × List (Int × Int × Unit) × List (Int × Int × Unit) × Int × Int × Unit ⊕ Int × Int × List (Int × Int × Unit) × List (Int × Int × Unit) × Int × Int × Unit ⊕ Unit
noncomputable def impl_IsHistory_D12 (i : q54_I12) (v : q54_V12) (R : Type) (K : q54_V12 ⊕ q54_Q12 → Option R) : Option R :=
  bif decide (v.1 < i.2.2.1) then Option.bind (lAt i.2.1 v.1) fun v_1 => Option.bind (iter (fun v_2 => impl_IsHistory_D15 (i.1, i.2.1, i.2.2.1, v.1, v_1.2.2.1, (↑(List.length v_1.2.2.1) : Int), v_1.1, v_1.2.1, v_1.2.2.1, v_1.2.2.2.1, ()) v_2
  _ some) (0, ())) fun p => sumC p (fun p => K (Sum.inr (Sum.inl (v_1.1, v_1.2.1, v_1.2.2.1, v_1.2.2.2.1, p.1, p.2.1, ())))) fun p => sumC p (fun p => K (Sum.inr (Sum.inr (Sum.inl (v_1.1, v_1.2.1, v_1.2.2.1, v_1.2.2.2.1, p.1, p.2.1,
  ()))))) fun p => K (Sum.inl (IntKind.wrap IntKind.i64 (v.1 + 1), ())) else K (Sum.inr (Sum.inr (Sum.inr ())))
theorem impl_IsHistory_D12_nat : NatD impl_IsHistory_D12 := fun i v R K => nat_bif (nat_bind fun _ => nat_bind fun _ => nat_sum (fun _ => nat_some) (fun _ => nat_sum (fun _ => nat_some) (fun _ => nat_some))) (nat_some)
def q54_T12 : Tmpl := ⟨(.slot (Ty.slice (Ty.prod Ty.i (Ty.prod Ty.i (Ty.prod (Ty.slice YReadMark) (Ty.prod (Ty.slice (Ty.prod Ty.i (Ty.prod Ty.i
  Ty.unit))) Ty.unit))))) (jk 61 (.slot (Ty.slice (Ty.prod Ty.i (Ty.prod Ty.i (Ty.prod (Ty.slice YReadMark) (Ty.prod (Ty.slice (Ty.prod Ty.i (Ty.prod Ty.i
  Ty.unit))) Ty.unit))))) (.slot Ty.i (.slot Ty.i (jk 28 .nil)))))), .nil⟩
def q54_X12_0 (i : q54_I12) (p : Int × Int × List (Int × Int × Unit) × List (Int × Int × Unit) × Int × Int × Unit) : St := ⟨jn 2 (.b (false) :: jn 90 ([])), [some (Cont.cells 4 [[AV.pv Ty.i p.1, AV.pv Ty.i p.2.1, AV.pv (Ty.slice YReadMark) p.2.2.1, AV.pv (Ty.slice
  YReadMark) p.2.2.2.1]]), some (Cont.cells 2 [[AV.pv Ty.i p.2.2.2.2.1, AV.pv Ty.i p.2.2.2.2.2.1]])]⟩
def q54_X12_1 (i : q54_I12) (p : Int × Int × List (Int × Int × Unit) × List (Int × Int × Unit) × Int × Int × Unit) : St := ⟨jn 2 (.b (false) :: jn 90 ([])), [some (Cont.cells 4 [[AV.pv Ty.i p.1, AV.pv Ty.i p.2.1, AV.pv (Ty.slice YReadMark) p.2.2.1, AV.pv (Ty.slice
  YReadMark) p.2.2.2.1]]), some (Cont.cells 2 [[AV.pv Ty.i p.2.2.2.2.1, AV.pv Ty.i p.2.2.2.2.2.1]])]⟩
def q54_X12_2 (i : q54_I12) (p : Unit) : St := ⟨jn 93 ([]), []⟩
noncomputable def q54_E12 (i : q54_I12) (p : q54_Q12) (R : Type) (K : Ex → St → Option R) : Option R := sumC p (fun p => K (Ex.ret) (q54_X12_0 i p)) fun p => sumC p (fun p => K (Ex.ret) (q54_X12_1 i p)) fun p => K (Ex.exit 2) (q54_X12_2 i p)
noncomputable def q54_K12 (i : q54_I12) (p : q54_Q12) : Ex × St := sumC p (fun p => (Ex.ret, q54_X12_0 i p)) fun p => sumC p (fun p => (Ex.ret, q54_X12_1 i p)) fun p => (Ex.exit 2, q54_X12_2 i p)
def q54_M12 (i : q54_I12) (v : q54_V12) : den q54_T12.ty := (i.1, i.2.1, i.2.2.1, v.1, ())
def q54_P12 (x : den q54_T12.ty) : q54_I12 × q54_V12 := ((x.1, x.2.1, x.2.2.1, ()), (x.2.2.2.1, ()))
noncomputable def q54_C : Cfg := { ti := g_tis, ents := [q45_Ent, q48_Ent, q53_Ent], ann := [(4, loopFn q54_T4 0 q54_P4 impl_IsHistory_D4 q54_E4), (15, loopFn q54_T15 0 q54_P15 impl_IsHistory_D15 q54_E15), (12, loopFn q54_T12 0 q54_P12 impl_IsHistory_D12 q54_E12)], lent := 0 }
def q54_ti : Tmpl := ⟨(.slot (Ty.slice (Ty.prod Ty.i (Ty.prod Ty.i (Ty.prod (Ty.slice YReadMark) (Ty.prod (Ty.slice (Ty.prod Ty.i (Ty.prod Ty.i
  Ty.unit))) Ty.unit))))) .nil), .nil⟩
def q54_to : Tmpl := ⟨(.slot (Ty.bool) .nil), .nil⟩
noncomputable def impl_IsHistory_S (x : List (Int × Int × List (Int × Int × Unit) × List (Int × Int × Unit) × Unit) × Unit) : Option (Bool × Unit) :=
  bif decide ((↑(List.length x.1) : Int) > 9) then some (false, ()) else Option.bind (iter (fun v => impl_IsHistory_D4 (x.1, x.1, (↑(List.length x.1) : Int), ()) v _ some) (0, ())) fun p => sumC p (fun p => some (false, ())) fun p =>
  sumC p (fun p => some (false, ())) fun p => sumC p (fun p => some (false, ())) fun p => sumC p (fun p => some (false, ())) fun p => Option.bind (iter (fun v => impl_IsHistory_D12 (x.1, x.1, (↑(List.length x.1) : Int), ()) v _ some)
  (0, ())) fun p => sumC p (fun p => some (false, ())) fun p => sumC p (fun p => some (false, ())) fun p => some (true, ())
noncomputable def q54_Ent : Ent := ⟨65, q54_ti, q54_to, impl_IsHistory_S⟩
theorem q54_HC : CfgOK Tryz.prog q54_C := hc_of g_tisOK g_wide (all_cons q45_OK (all_cons q48_OK (all_cons q53_OK all_nil)))
theorem q54_lk15 : LkOK Tryz.prog q54_C (lpc Tryz.f65 2) :=
  lk_of q54_HC (m := 0) (T := q54_T15) (sp := q54_P15) (D := impl_IsHistory_D15) (E := q54_E15) (by kernel_rfl) (by kernel_rfl) (fun k hk => absurd hk (Nat.not_lt_zero k)) [0, 2, 62, 63, 64] q54_M15 (fun x => rfl) impl_IsHistory_D15_nat q54_K15 (fun i p R K => by rcases p with p | p | p <;> rfl) (fun i v => by kernel_rfl)
theorem q54_lk12 : LkOK Tryz.prog q54_C (lpc Tryz.f65 1) :=
  lk_of q54_HC (m := 1) (T := q54_T12) (sp := q54_P12) (D := impl_IsHistory_D12) (E := q54_E12) (by kernel_rfl) (by kernel_rfl) (fun k hk => match k, hk with | 0, _ => lk_at (by kernel_rfl) q54_lk15) [2] q54_M12 (fun x => rfl) impl_IsHistory_D12_nat q54_K12 (fun i p R K => by rcases p with p | p | p <;> rfl) (fun i v => by kernel_rfl)
theorem q54_lk4 : LkOK Tryz.prog q54_C (lpc Tryz.f65 0) :=
  lk_of q54_HC (m := 0) (T := q54_T4) (sp := q54_P4) (D := impl_IsHistory_D4) (E := q54_E4) (by kernel_rfl) (by kernel_rfl) (fun k hk => absurd hk (Nat.not_lt_zero k)) [0, 2] q54_M4 (fun x => rfl) impl_IsHistory_D4_nat q54_K4 (fun i p R K => by rcases p with p | p | p | p | p <;> rfl) (fun i v => by kernel_rfl)
theorem q54_OK : EntOK Tryz.prog q54_Ent := ok_of q54_HC Tryz.func65 3 (by kernel_rfl) (fun k hk => match k, hk with | 0, _ => q54_lk4 | 1, _ => q54_lk12 | 2, _ => q54_lk15) (by kernel_rfl) (by kernel_rfl) (fun x => by kernel_rfl)
noncomputable def q55_C : Cfg := { ti := g_tis, ents := [], ann := [], lent := 2, cut := [(some (0, 0))] }
def q55_ti : Tmpl := ⟨(.slot Ty.i (.slot Ty.i (.slot Ty.i (.slot Ty.i (.ptr 0 0 0 .nil))))), (.cells 1 (.own 1 .nil) (.lst false YEdge .nil))⟩
def q55_to : Tmpl := ⟨.nil, (.cells 1 (.own 2 .nil) (.gone (.lst false YEdge .nil)))⟩
noncomputable def impl_graph_1_l_S (x : Int × Int × Int × Int × List (Int × Int × Int × Int × Unit) × Unit) : Option (List (Int × Int × Int × Int × Unit) × Unit) :=
  bif x.1 != 0 then bif x.2.1 != 0 then bif x.1 != x.2.1 then if List.length (x.2.2.2.2.1 ++ [(x.1, x.2.1, x.2.2.1, x.2.2.2.1, ())]) ≤ 1099511627776 then some (x.2.2.2.2.1 ++ [(x.1, x.2.1, x.2.2.1, x.2.2.2.1, ())], ()) else none else some
  (x.2.2.2.2.1, ()) else some (x.2.2.2.2.1, ()) else some (x.2.2.2.2.1, ())
noncomputable def q55_Ent : Ent := ⟨160, q55_ti, q55_to, impl_graph_1_l_S⟩
theorem q55_HC : CfgOK Tryz.prog q55_C := hc_of g_tisOK g_wide all_nil
theorem q55_OK : EntOK Tryz.prog q55_Ent := ok_of q55_HC Tryz.func160 0 (by kernel_rfl) (fun k hk => absurd hk (Nat.not_lt_zero k)) (by kernel_rfl) (by kernel_rfl) (fun x => by kernel_rfl)
abbrev q56_I3 : Type := Int × Int × List (Int × Int × List (Int × Int × Unit) × List (Int × Int × Unit) × Unit) × Int × Unit
abbrev q56_V3 : Type := Int × Int × Bool × Int × Unit
abbrev q56_Q3 : Type := Int × Unit
noncomputable def impl_NextWriter_D3 (i : q56_I3) (v : q56_V3) (R : Type) (K : q56_V3 ⊕ q56_Q3 → Option R) : Option R :=
  bif decide (v.2.2.2.1 < i.2.2.2.1) then Option.bind (lAt i.2.2.1 v.2.2.2.1) fun v_1 => bif decide (v_1.2.1 > i.2.1) then Option.bind (impl_Entry_writes_S ((v_1.1, v_1.2.1, v_1.2.2.1, v_1.2.2.2.1, ()), i.1, ())) fun v_2 => bif v_2.1 then bif
  !v.2.2.1 then K (Sum.inl (v_1.1, v_1.2.1, true, IntKind.wrap IntKind.i64 (v.2.2.2.1 + 1), ())) else bif decide (v_1.2.1 < v.2.1) then K (Sum.inl (v_1.1, v_1.2.1, true, IntKind.wrap IntKind.i64 (v.2.2.2.1 + 1), ())) else K (Sum.inl (v.1,
  v.2.1, v.2.2.1, IntKind.wrap IntKind.i64 (v.2.2.2.1 + 1), ())) else K (Sum.inl (v.1, v.2.1, v.2.2.1, IntKind.wrap IntKind.i64 (v.2.2.2.1 + 1), ())) else K (Sum.inl (v.1, v.2.1, v.2.2.1, IntKind.wrap IntKind.i64 (v.2.2.2.1 + 1), ())) else K
  (Sum.inr (v.1, ()))
theorem impl_NextWriter_D3_nat : NatD impl_NextWriter_D3 := fun i v R K => nat_bif (nat_bind fun _ => nat_bif (nat_bind fun _ => nat_bif (nat_bif (nat_some) (nat_bif (nat_some) (nat_some))) (nat_some)) (nat_some)) (nat_some)
def q56_T3 : Tmpl := ⟨(.junk (.slot Ty.i (.slot Ty.i (jk 4 (.slot Ty.i (.slot Ty.i (.slot (Ty.bool) (jk 2 (.slot (Ty.slice (Ty.prod Ty.i (Ty.prod Ty.i (Ty.prod (Ty.slice YReadMark) (Ty.prod (Ty.slice (Ty.prod Ty.i (Ty.prod Ty.i
  Ty.unit))) Ty.unit))))) (.slot Ty.i (.slot Ty.i (jk 28 .nil)))))))))))), .nil⟩
def q56_X3_0 (i : q56_I3) (p : Int × Unit) : St := ⟨jn 7 (.n (p.1) :: jn 35 ([])), []⟩
noncomputable def q56_E3 (i : q56_I3) (p : q56_Q3) (R : Type) (K : Ex → St → Option R) : Option R := K (Ex.exit 0) (q56_X3_0 i p)
noncomputable def q56_K3 (i : q56_I3) (p : q56_Q3) : Ex × St := (Ex.exit 0, q56_X3_0 i p)
def q56_M3 (i : q56_I3) (v : q56_V3) : den q56_T3.ty := (i.1, i.2.1, v.1, v.2.1, v.2.2.1, i.2.2.1, i.2.2.2.1, v.2.2.2.1, ())
def q56_P3 (x : den q56_T3.ty) : q56_I3 × q56_V3 := ((x.1, x.2.1, x.2.2.2.2.2.1, x.2.2.2.2.2.2.1, ()), (x.2.2.1, x.2.2.2.1, x.2.2.2.2.1, x.2.2.2.2.2.2.2.1, ()))
noncomputable def q56_C : Cfg := { ti := g_tis, ents := [q52_Ent], ann := [(3, loopFn q56_T3 0 q56_P3 impl_NextWriter_D3 q56_E3)], lent := 0 }
def q56_ti : Tmpl := ⟨(.slot (Ty.slice (Ty.prod Ty.i (Ty.prod Ty.i (Ty.prod (Ty.slice YReadMark) (Ty.prod (Ty.slice (Ty.prod Ty.i (Ty.prod Ty.i
  Ty.unit))) Ty.unit))))) (.slot Ty.i (.slot Ty.i .nil))), .nil⟩
def q56_to : Tmpl := ⟨(.slot Ty.i .nil), .nil⟩
noncomputable def impl_NextWriter_S (x : List (Int × Int × List (Int × Int × Unit) × List (Int × Int × Unit) × Unit) × Int × Int × Unit) : Option (Int × Unit) :=
  Option.bind (iter (fun v => impl_NextWriter_D3 (x.2.1, x.2.2.1, x.1, (↑(List.length x.1) : Int), ()) v _ some) (0, 0, false, 0, ())) fun p => some (p.1, ())
noncomputable def q56_Ent : Ent := ⟨161, q56_ti, q56_to, impl_NextWriter_S⟩
theorem q56_HC : CfgOK Tryz.prog q56_C := hc_of g_tisOK g_wide (all_cons q52_OK all_nil)
theorem q56_lk3 : LkOK Tryz.prog q56_C (lpc Tryz.f161 0) :=
  lk_of q56_HC (m := 0) (T := q56_T3) (sp := q56_P3) (D := impl_NextWriter_D3) (E := q56_E3) (by kernel_rfl) (by kernel_rfl) (fun k hk => absurd hk (Nat.not_lt_zero k)) [7] q56_M3 (fun x => rfl) impl_NextWriter_D3_nat q56_K3 (fun i p R K => rfl) (fun i v => by kernel_rfl)
theorem q56_OK : EntOK Tryz.prog q56_Ent := ok_of q56_HC Tryz.func161 1 (by kernel_rfl) (fun k hk => match k, hk with | 0, _ => q56_lk3) (by kernel_rfl) (by kernel_rfl) (fun x => by kernel_rfl)
noncomputable def q57_C : Cfg := { ti := g_tis, ents := [q39_Ent, q40_Ent], ann := [], lent := 0 }
def q57_ti : Tmpl := ⟨(.slot YEdge (.slot YEdge .nil)), .nil⟩
def q57_to : Tmpl := ⟨(.slot Ty.i .nil), .nil⟩
noncomputable def impl_compareEdges_S (x : (Int × Int × Int × Int × Unit) × (Int × Int × Int × Int × Unit) × Unit) : Option (Int × Unit) :=
  Option.bind (cmp_Compare_int_S (x.1.1, x.2.1.1, ())) fun v => Option.bind (cmp_Compare_int_S (x.1.2.1, x.2.1.2.1, ())) fun v_1 => Option.bind (cmp_Compare_int_S (x.1.2.2.1, x.2.1.2.2.1, ())) fun v_2 => Option.bind (cmp_Compare_int_S
  (x.1.2.2.2.1, x.2.1.2.2.2.1, ())) fun v_3 => Option.bind (cmp_Or_int_S ([v.1, v_1.1, v_2.1, v_3.1], ())) fun v => some (v.1, ())
noncomputable def q57_Ent : Ent := ⟨163, q57_ti, q57_to, impl_compareEdges_S⟩
theorem q57_HC : CfgOK Tryz.prog q57_C := hc_of g_tisOK g_wide (all_cons q39_OK (all_cons q40_OK all_nil))
theorem q57_OK : EntOK Tryz.prog q57_Ent := ok_of q57_HC Tryz.func163 0 (by kernel_rfl) (fun k hk => absurd hk (Nat.not_lt_zero k)) (by kernel_rfl) (by kernel_rfl) (fun x => by kernel_rfl)
def q58_ren : Go.Shelf.Ren := ⟨fun | 6 => 162 | 15 => 274 | 14 => 273 | 28 => 342 | 29 => 343 | 20 => 334 | 21 => 335 | 22 => 336 | 23 => 337 | 24 => 338 | 25 => 339 | 26 => 340 | 27 => 341 | 46 => 382 | 47 => 383 | 48 => 384 | 49 => 385 | 50 => 386 | 57 => 407 | n => n, fun | 22 => 119 | 24 => 186 | 25 => 192 | 3 => 3 | 39 => 287 | 0 => 0 | 53 => 340 | 55 => 342 | 4 => 4 | 46 => 334 | 45 => 333 | 50 => 302 | 5 => 5 | 9 => 9 | 66 => 369 | 70 => 373 | 76 => 386 | 77 => 155 | n => n, fun | n => n⟩
theorem q58_L : Go.Proofs.SlLaysF0.n6 Tryz.prog q58_ren where
  mixed := by kernel_rfl
  f6 := ⟨ "slices.SortFunc[[]loop.example/g01924/impl.Edge,loop.example/g01924/impl.Edge]", by decide, Tryz.func162.trans (congrArg some (by kernel_rfl))⟩
  f14 := ⟨ "slices.pdqsortCmpFunc[loop.example/g01924/impl.Edge]", by decide, Tryz.func273.trans (congrArg some (by kernel_rfl))⟩
  f15 := Tryz.func274.trans (congrArg some (by kernel_rfl))
  f20 := ⟨ "slices.insertionSortCmpFunc[loop.example/g01924/impl.Edge]", by decide, Tryz.func334.trans (congrArg some (by kernel_rfl))⟩
  f21 := ⟨ "slices.heapSortCmpFunc[loop.example/g01924/impl.Edge]", by decide, Tryz.func335.trans (congrArg some (by kernel_rfl))⟩
  f22 := ⟨ "slices.breakPatternsCmpFunc[loop.example/g01924/impl.Edge]", by decide, Tryz.func336.trans (congrArg some (by kernel_rfl))⟩
  f23 := ⟨ "slices.choosePivotCmpFunc[loop.example/g01924/impl.Edge]", by decide, Tryz.func337.trans (congrArg some (by kernel_rfl))⟩
  f24 := ⟨ "slices.reverseRangeCmpFunc[loop.example/g01924/impl.Edge]", by decide, Tryz.func338.trans (congrArg some (by kernel_rfl))⟩
  f25 := ⟨ "slices.partialInsertionSortCmpFunc[loop.example/g01924/impl.Edge]", by decide, Tryz.func339.trans (congrArg some (by kernel_rfl))⟩
  f26 := ⟨ "slices.partitionEqualCmpFunc[loop.example/g01924/impl.Edge]", by decide, Tryz.func340.trans (congrArg some (by kernel_rfl))⟩
  f27 := ⟨ "slices.partitionCmpFunc[loop.example/g01924/impl.Edge]", by decide, Tryz.func341.trans (congrArg some (by kernel_rfl))⟩
  f28 := Tryz.func342.trans (congrArg some (by kernel_rfl))
  f29 := Tryz.func343.trans (congrArg some (by kernel_rfl))
  f46 := ⟨ "slices.siftDownCmpFunc[loop.example/g01924/impl.Edge]", by decide, Tryz.func382.trans (congrArg some (by kernel_rfl))⟩
  f47 := Tryz.func383.trans (congrArg some (by kernel_rfl))
  f48 := Tryz.func384.trans (congrArg some (by kernel_rfl))
  f49 := ⟨ "slices.medianAdjacentCmpFunc[loop.example/g01924/impl.Edge]", by decide, Tryz.func385.trans (congrArg some (by kernel_rfl))⟩
  f50 := ⟨ "slices.medianCmpFunc[loop.example/g01924/impl.Edge]", by decide, Tryz.func386.trans (congrArg some (by kernel_rfl))⟩
  f57 := ⟨ "slices.order2CmpFunc[loop.example/g01924/impl.Edge]", by decide, Tryz.func407.trans (congrArg some (by kernel_rfl))⟩
  t0 := Tryz.underlying0
  a0 := Tryz.isAgg0
  z0 := Tryz.sizeOf0
  v0 := Tryz.zeroValue0
  t3 := Tryz.underlying3
  a3 := Tryz.isAgg3
  z3 := Tryz.sizeOf3
  v3 := Tryz.zeroValue3
  t4 := Tryz.underlying4
  a4 := Tryz.isAgg4
  z4 := Tryz.sizeOf4
  v4 := Tryz.zeroValue4
  t5 := Tryz.underlying5
  a5 := Tryz.isAgg5
  z5 := Tryz.sizeOf5
  v5 := Tryz.zeroValue5
  t9 := Tryz.underlying9
  a9 := Tryz.isAgg9
  z9 := Tryz.sizeOf9
  v9 := Tryz.zeroValue9
  t22 := Tryz.underlying119
  a22 := Tryz.isAgg119
  z22 := Tryz.sizeOf119
  v22 := Tryz.zeroValue119
  t25 := Tryz.underlying192
  a25 := Tryz.isAgg192
  z25 := Tryz.sizeOf192
  v25 := Tryz.zeroValue192
  t39 := Tryz.underlying287
  a39 := Tryz.isAgg287
  z39 := Tryz.sizeOf287
  v39 := Tryz.zeroValue287
  t45 := Tryz.underlying333
  a45 := Tryz.isAgg333
  z45 := Tryz.sizeOf333
  v45 := Tryz.zeroValue333
  t46 := Tryz.underlying334
  a46 := Tryz.isAgg334
  z46 := Tryz.sizeOf334
  v46 := Tryz.zeroValue334
  t50 := Tryz.underlying302
  a50 := Tryz.isAgg302
  z50 := Tryz.sizeOf302
  v50 := Tryz.zeroValue302
  t53 := Tryz.underlying340
  a53 := Tryz.isAgg340
  z53 := Tryz.sizeOf340
  v53 := Tryz.zeroValue340
  t55 := Tryz.underlying342
  a55 := Tryz.isAgg342
  z55 := Tryz.sizeOf342
  v55 := Tryz.zeroValue342
  t66 := Tryz.underlying369
  a66 := Tryz.isAgg369
  z66 := Tryz.sizeOf369
  v66 := Tryz.zeroValue369
  t70 := Tryz.underlying373
  a70 := Tryz.isAgg373
  z70 := Tryz.sizeOf373
  v70 := Tryz.zeroValue373
  t76 := Tryz.underlying386
  a76 := Tryz.isAgg386
  z76 := Tryz.sizeOf386
  v76 := Tryz.zeroValue386
  t77 := Tryz.underlying155
  a77 := Tryz.isAgg155
  z77 := Tryz.sizeOf155
  v77 := Tryz.zeroValue155
noncomputable def slices_SortFunc__impl_compareEdges_S (x : List (Int × Int × Int × Int × Unit) × Unit) : Option (List (Int × Int × Int × Int × Unit) × Unit) := sortS (t := YEdge) impl_compareEdges_S x
noncomputable def q58_C : Cfg := { ti := g_tis, ents := [q57_Ent], ann := [], lent := 1 }
noncomputable def q58_Ent : Ent := ⟨162, ⟨(.own 0 (.fn 163 .nil .nil)), (.lst false YEdge .nil)⟩, ⟨.nil, (.lst false YEdge .nil)⟩, slices_SortFunc__impl_compareEdges_S⟩
theorem q58_OK : EntOK Tryz.prog q58_Ent := sort_OK q58_L (t := YEdge) rfl rfl Tryz.isAgg186 Tryz.sizeOf186 rfl q57_OK
abbrev q59_I9 : Type := Unit
abbrev q59_V9 : Type := Int × (Nat × Nat) × Int × List (Int × Int × Int × Int × Unit) × Unit
abbrev q59_Q9 : Type := Int × List (Int × Int × Int × Int × Unit) × Unit
noncomputable def slices_Compact_impl_Edge_l_D9 (i : q59_I9) (v : q59_V9) (R : Type) (K : q59_V9 ⊕ q59_Q9 → Option R) : Option R :=
  bif decide (v.2.2.1 < (↑v.2.1.2 : Int)) then if 0 ≤ v.2.2.1 ∧ v.2.2.1 < (↑v.2.1.2 : Int) then Option.bind v.2.2.2.1[v.2.1.1 + Int.toNat v.2.2.1]? fun v_1 => if 0 ≤ IntKind.wrap IntKind.i64 (v.2.2.1 - 1) ∧ IntKind.wrap IntKind.i64 (v.2.2.1 -
  1) < (↑v.2.1.2 : Int) then Option.bind v.2.2.2.1[v.2.1.1 + Int.toNat (IntKind.wrap IntKind.i64 (v.2.2.1 - 1))]? fun v_2 => bif !(v_1.1 == v_2.1 && (v_1.2.1 == v_2.2.1 && (v_1.2.2.1 == v_2.2.2.1 && (v_1.2.2.2.1 == v_2.2.2.2.1 && true)))) then
  if 0 ≤ v.2.2.1 ∧ v.2.2.1 < (↑v.2.1.2 : Int) then Option.bind v.2.2.2.1[v.2.1.1 + Int.toNat v.2.2.1]? fun v_3 => if 0 ≤ v.1 ∧ v.1 < (↑(List.length v.2.2.2.1) : Int) then Option.bind v.2.2.2.1[0 + Int.toNat v.1]? fun v_4 => K (Sum.inl
  (IntKind.wrap IntKind.i64 (v.1 + 1), (v.2.1.1, v.2.1.2), IntKind.wrap IntKind.i64 (v.2.2.1 + 1), List.set v.2.2.2.1 (0 + Int.toNat v.1) (v_3.1, v_3.2.1, v_3.2.2.1, v_3.2.2.2.1, ()), ())) else none else none else K (Sum.inl (v.1, (v.2.1.1,
  v.2.1.2), IntKind.wrap IntKind.i64 (v.2.2.1 + 1), v.2.2.2.1, ())) else none else none else K (Sum.inr (v.1, v.2.2.2.1, ()))
theorem slices_Compact_impl_Edge_l_D9_nat : NatD slices_Compact_impl_Edge_l_D9 := fun i v R K => nat_bif (nat_ite (nat_bind fun _ => nat_ite (nat_bind fun _ => nat_bif (nat_ite (nat_bind fun _ => nat_ite (nat_bind fun _ => nat_some))) (nat_some)))) (nat_some)
def q59_T9 : Tmpl := ⟨(.own 0 (jk 2 (.slot Ty.i (.ownR 0 (.slot Ty.i (jk 55 .nil)))))), (.lst false YEdge .nil)⟩
def q59_X9_0 (i : q59_I9) (p : Int × List (Int × Int × Int × Int × Unit) × Unit) : St := ⟨AV.own 0 none none :: jn 2 (.n (p.1) :: jn 57 ([])), [some (Cont.lst false YEdge p.2.1)]⟩
noncomputable def q59_E9 (i : q59_I9) (p : q59_Q9) (R : Type) (K : Ex → St → Option R) : Option R := K (Ex.exit 2) (q59_X9_0 i p)
noncomputable def q59_K9 (i : q59_I9) (p : q59_Q9) : Ex × St := (Ex.exit 2, q59_X9_0 i p)
def q59_M9 (i : q59_I9) (v : q59_V9) : den q59_T9.ty := (v.1, v.2.1, v.2.2.1, v.2.2.2.1, ())
def q59_P9 (x : den q59_T9.ty) : q59_I9 × q59_V9 := ((()), (x.1, x.2.1, x.2.2.1, x.2.2.2.1, ()))
abbrev q59_I4 : Type := List (Int × Int × Int × Int × Unit) × Unit
abbrev q59_V4 : Type := Int × Unit
abbrev q59_Q4 : Type := Nat × List (Int × Int × Int × Int × Unit) × Unit ⊕ Unit
noncomputable def slices_Compact_impl_Edge_l_D4 (i : q59_I4) (v : q59_V4) (R : Type) (K : q59_V4 ⊕ q59_Q4 → Option R) : Option R :=
  bif decide (v.1 < (↑(List.length i.1) : Int)) then if 0 ≤ v.1 ∧ v.1 < (↑(List.length i.1) : Int) then Option.bind i.1[0 + Int.toNat v.1]? fun v_1 => if 0 ≤ IntKind.wrap IntKind.i64 (v.1 - 1) ∧ IntKind.wrap IntKind.i64 (v.1 - 1) <
  (↑(List.length i.1) : Int) then Option.bind i.1[0 + Int.toNat (IntKind.wrap IntKind.i64 (v.1 - 1))]? fun v_2 => bif v_1.1 == v_2.1 && (v_1.2.1 == v_2.2.1 && (v_1.2.2.1 == v_2.2.2.1 && (v_1.2.2.2.1 == v_2.2.2.2.1 && true))) then if 0 ≤ v.1 ∧
  v.1 ≤ (↑(List.length i.1) : Int) ∧ (↑(List.length i.1) : Int) ≤ (↑(List.length i.1) : Int) then Option.bind (iter (fun v => slices_Compact_impl_Edge_l_D9 () v _ some) (v.1, (0 + Int.toNat v.1, Int.toNat (↑(List.length i.1) : Int) -
  Int.toNat v.1), 1, i.1, ())) fun p => if 0 ≤ p.1 ∧ p.1 ≤ (↑(List.length p.2.1) : Int) ∧ (↑(List.length p.2.1) : Int) ≤ (↑(List.length p.2.1) : Int) then if (0 : Int) ≤ 0 ∧ 0 ≤ p.1 ∧ p.1 ≤ (↑(List.length (List.take (0 + Int.toNat p.1) p.2.1 ++
  List.replicate (Int.toNat (↑(List.length p.2.1) : Int) - Int.toNat p.1) (0, 0, 0, 0, ()) ++ List.drop (0 + Int.toNat p.1 + (Int.toNat (↑(List.length p.2.1) : Int) - Int.toNat p.1)) p.2.1)) : Int) then K (Sum.inr (Sum.inl (Int.toNat p.1 -
  Int.toNat 0, List.take (0 + Int.toNat p.1) p.2.1 ++ List.replicate (Int.toNat (↑(List.length p.2.1) : Int) - Int.toNat p.1) (0, 0, 0, 0, ()) ++ List.drop (0 + Int.toNat p.1 + (Int.toNat (↑(List.length p.2.1) : Int) - Int.toNat p.1)) p.2.1,
  ()))) else none else none else none else K (Sum.inl (IntKind.wrap IntKind.i64 (v.1 + 1), ())) else none else none else K (Sum.inr (Sum.inr ()))
theorem slices_Compact_impl_Edge_l_D4_nat : NatD slices_Compact_impl_Edge_l_D4 := fun i v R K => nat_bif (nat_ite (nat_bind fun _ => nat_ite (nat_bind fun _ => nat_bif (nat_ite (nat_bind fun _ => nat_ite (nat_ite (nat_some)))) (nat_some)))) (nat_some)
def q59_T4 : Tmpl := ⟨(.own 0 (jk 2 (.slot Ty.i (jk 57 .nil)))), (.lst false YEdge .nil)⟩
def q59_X4_0 (i : q59_I4) (p : Nat × List (Int × Int × Int × Int × Unit) × Unit) : St := ⟨AV.own 0 none none :: jn 1 (AV.own 0 none (some (0, p.1)) :: jn 58 ([])), [some (Cont.lst false YEdge p.2.1)]⟩
def q59_X4_1 (i : q59_I4) (p : Unit) : St := ⟨AV.own 0 none none :: jn 60 ([]), [some (Cont.lst false YEdge i.1)]⟩
noncomputable def q59_E4 (i : q59_I4) (p : q59_Q4) (R : Type) (K : Ex → St → Option R) : Option R := sumC p (fun p => K (Ex.ret) (q59_X4_0 i p)) fun p => K (Ex.exit 0) (q59_X4_1 i p)
noncomputable def q59_K4 (i : q59_I4) (p : q59_Q4) : Ex × St := sumC p (fun p => (Ex.ret, q59_X4_0 i p)) fun p => (Ex.exit 0, q59_X4_1 i p)
def q59_M4 (i : q59_I4) (v : q59_V4) : den q59_T4.ty := (v.1, i.1, ())
def q59_P4 (x : den q59_T4.ty) : q59_I4 × q59_V4 := ((x.2.1, ()), (x.1, ()))
noncomputable def q59_C : Cfg := { ti := g_tis, ents := [], ann := [(9, loopFn q59_T9 1 q59_P9 slices_Compact_impl_Edge_l_D9 q59_E9), (4, loopFn q59_T4 1 q59_P4 slices_Compact_impl_Edge_l_D4 q59_E4)], lent := 1, cut := [none] }
def q59_ti : Tmpl := ⟨(.own 0 .nil), (.lst false YEdge .nil)⟩
def q59_to : Tmpl := ⟨(.own 1 .nil), (.gone (.lst false YEdge .nil))⟩
noncomputable def slices_Compact_impl_Edge_l_S (x : List (Int × Int × Int × Int × Unit) × Unit) : Option (List (Int × Int × Int × Int × Unit) × Unit) :=
  bif decide ((↑(List.length x.1) : Int) < 2) then some (x.1, ()) else Option.bind (iter (fun v => slices_Compact_impl_Edge_l_D4 (x.1, ()) v _ some) (1, ())) fun p => sumC p (fun p => some (List.take p.1 p.2.1, ())) fun p => some
  (x.1, ())
noncomputable def q59_Ent : Ent := ⟨164, q59_ti, q59_to, slices_Compact_impl_Edge_l_S⟩
theorem q59_HC : CfgOK Tryz.prog q59_C := hc_of g_tisOK g_wide all_nil
theorem q59_lk9 : LkOK Tryz.prog q59_C (lpc Tryz.f164 1) :=
  lk_of q59_HC (m := 0) (T := q59_T9) (sp := q59_P9) (D := slices_Compact_impl_Edge_l_D9) (E := q59_E9) (by kernel_rfl) (by kernel_rfl) (fun k hk => absurd hk (Nat.not_lt_zero k)) [0, 3] q59_M9 (fun x => rfl) slices_Compact_impl_Edge_l_D9_nat q59_K9 (fun i p R K => rfl) (fun i v => by kernel_rfl)
theorem q59_lk4 : LkOK Tryz.prog q59_C (lpc Tryz.f164 0) :=
  lk_of q59_HC (m := 1) (T := q59_T4) (sp := q59_P4) (D := slices_Compact_impl_Edge_l_D4) (E := q59_E4) (by kernel_rfl) (by kernel_rfl) (fun k hk => match k, hk with | 0, _ => lk_at (by kernel_rfl) q59_lk9) [0, 2] q59_M4 (fun x => rfl) slices_Compact_impl_Edge_l_D4_nat q59_K4 (fun i p R K => by rcases p with p | p <;> rfl) (fun i v => by kernel_rfl)
theorem q59_OK : EntOK Tryz.prog q59_Ent := ok_of q59_HC Tryz.func164 2 (by kernel_rfl) (fun k hk => match k, hk with | 0, _ => q59_lk4 | 1, _ => q59_lk9) (by kernel_rfl) (by kernel_rfl) (fun x => by kernel_rfl)
abbrev q60_I7 : Type := List (Int × Int × List (Int × Int × Unit) × List (Int × Int × Unit) × Unit) × List (Int × Int × List (Int × Int × Unit) × List (Int × Int × Unit) × Unit) × Int × Int × List (Int × Int × Unit) × Int × Int × Int × List (Int × Int × Unit) ×
  List (Int × Int × Unit) × Unit
abbrev q60_V7 : Type := Int × List (Int × Int × Int × Int × Unit) × Unit
abbrev q60_Q7 : Type := List (Int × Int × Int × Int × Unit) × Unit
noncomputable def impl_graph_D7 (i : q60_I7) (v : q60_V7) (R : Type) (K : q60_V7 ⊕ q60_Q7 → Option R) : Option R :=
  bif decide (v.1 < i.2.2.2.2.2.1) then Option.bind (lAt i.2.2.2.2.1 v.1) fun v_1 => Option.bind (impl_WriterOf_S (i.1, (v_1.1, v_1.2.1, ()), ())) fun v_2 => Option.bind (impl_graph_1_l_S (v_2.1, i.2.2.2.2.2.2.1, 1, v_1.1, v.2.1, ())) fun v_3
  => Option.bind (impl_NextWriter_S (i.1, v_1.1, v_1.2.1, ())) fun v_4 => Option.bind (impl_graph_1_l_S (i.2.2.2.2.2.2.1, v_4.1, 3, v_1.1, v_3.1, ())) fun v_5 => K (Sum.inl (IntKind.wrap IntKind.i64 (v.1 + 1), v_5.1, ())) else K (Sum.inr
  (v.2.1, ()))
theorem impl_graph_D7_nat : NatD impl_graph_D7 := fun i v R K => nat_bif (nat_bind fun _ => nat_bind fun _ => nat_bind fun _ => nat_bind fun _ => nat_bind fun _ => nat_some) (nat_some)
def q60_T7 : Tmpl := ⟨(.slot (Ty.slice (Ty.prod Ty.i (Ty.prod Ty.i (Ty.prod (Ty.slice YReadMark) (Ty.prod (Ty.slice (Ty.prod Ty.i (Ty.prod Ty.i
  Ty.unit))) Ty.unit))))) (jk 2 (.ptr 0 0 0 (.fn 160 (.ptr 0 0 0 .nil) (.junk (.ptr 2 0 0 (jk 6 (.slot (Ty.slice (Ty.prod Ty.i (Ty.prod Ty.i (Ty.prod (Ty.slice YReadMark) (Ty.prod (Ty.slice (Ty.prod Ty.i (Ty.prod Ty.i
  Ty.unit))) Ty.unit))))) (.slot Ty.i (.slot Ty.i (jk 4 (.slot (Ty.slice YReadMark) (.slot Ty.i (.slot Ty.i (jk 50 .nil))))))))))))))), (.cells 1 (.own 1 .nil) (.lst false YEdge (.cells 4 (.slot Ty.i (.slot Ty.i (.slot (Ty.slice YReadMark) (.slot (Ty.slice YReadMark) .nil)))) .nil)))⟩
def q60_X7_0 (i : q60_I7) (p : List (Int × Int × Int × Int × Unit) × Unit) : St := ⟨AV.pv (Ty.slice (Ty.prod Ty.i (Ty.prod Ty.i (Ty.prod (Ty.slice YReadMark) (Ty.prod (Ty.slice (Ty.prod Ty.i (Ty.prod (Ty.int
  IntKind.i64) Ty.unit))) Ty.unit))))) i.1 :: jn 2 (AV.ptr 0 none 0 0 :: AV.fn 160 [AV.ptr 0 none 0 0] :: jn 1 (AV.ptr 2 none 0 0 :: jn 6 (AV.pv (Ty.slice (Ty.prod Ty.i (Ty.prod Ty.i (Ty.prod (Ty.slice (Ty.prod
  Ty.i (Ty.prod Ty.i Ty.unit))) (Ty.prod (Ty.slice YReadMark) Ty.unit))))) i.2.1 :: .n (i.2.2.1) :: .n (i.2.2.2.1) :: jn 57 ([])))), [some (Cont.cells
  1 [[AV.own 1 none none]]), some (Cont.lst false YEdge p.1), some (Cont.cells 4 [[AV.pv Ty.i
  i.2.2.2.2.2.2.1, AV.pv Ty.i i.2.2.2.2.2.2.2.1, AV.pv (Ty.slice YReadMark) i.2.2.2.2.2.2.2.2.1, AV.pv (Ty.slice (Ty.prod Ty.i (Ty.prod (Ty.int
  IntKind.i64) Ty.unit))) i.2.2.2.2.2.2.2.2.2.1]])]⟩
noncomputable def q60_E7 (i : q60_I7) (p : q60_Q7) (R : Type) (K : Ex → St → Option R) : Option R := K (Ex.exit 2) (q60_X7_0 i p)
noncomputable def q60_K7 (i : q60_I7) (p : q60_Q7) : Ex × St := (Ex.exit 2, q60_X7_0 i p)
def q60_M7 (i : q60_I7) (v : q60_V7) : den q60_T7.ty := (i.1, i.2.1, i.2.2.1, i.2.2.2.1, i.2.2.2.2.1, i.2.2.2.2.2.1, v.1, v.2.1, i.2.2.2.2.2.2.1, i.2.2.2.2.2.2.2.1, i.2.2.2.2.2.2.2.2.1, i.2.2.2.2.2.2.2.2.2.1, ())
def q60_P7 (x : den q60_T7.ty) : q60_I7 × q60_V7 := ((x.1, x.2.1, x.2.2.1, x.2.2.2.1, x.2.2.2.2.1, x.2.2.2.2.2.1, x.2.2.2.2.2.2.2.2.1, x.2.2.2.2.2.2.2.2.2.1, x.2.2.2.2.2.2.2.2.2.2.1, x.2.2.2.2.2.2.2.2.2.2.2.1, ()), (x.2.2.2.2.2.2.1, x.2.2.2.2.2.2.2.1, ()))
abbrev q60_I13 : Type := List (Int × Int × List (Int × Int × Unit) × List (Int × Int × Unit) × Unit) × List (Int × Int × List (Int × Int × Unit) × List (Int × Int × Unit) × Unit) × Int × Int × List (Int × Int × Unit) × Int × Int × Int × List (Int × Int × Unit) ×
  List (Int × Int × Unit) × Unit
abbrev q60_V13 : Type := Int × List (Int × Int × Int × Int × Unit) × Unit
abbrev q60_Q13 : Type := List (Int × Int × Int × Int × Unit) × Unit
noncomputable def impl_graph_D13 (i : q60_I13) (v : q60_V13) (R : Type) (K : q60_V13 ⊕ q60_Q13 → Option R) : Option R :=
  bif decide (v.1 < i.2.2.2.2.2.1) then Option.bind (lAt i.2.2.2.2.1 v.1) fun v_1 => Option.bind (impl_NextWriter_S (i.1, v_1.1, i.2.2.2.2.2.2.2.1, ())) fun v_2 => Option.bind (impl_graph_1_l_S (i.2.2.2.2.2.2.1, v_2.1, 2, v_1.1, v.2.1, ()))
  fun v_3 => K (Sum.inl (IntKind.wrap IntKind.i64 (v.1 + 1), v_3.1, ())) else K (Sum.inr (v.2.1, ()))
theorem impl_graph_D13_nat : NatD impl_graph_D13 := fun i v R K => nat_bif (nat_bind fun _ => nat_bind fun _ => nat_bind fun _ => nat_some) (nat_some)
def q60_T13 : Tmpl := ⟨(.slot (Ty.slice (Ty.prod Ty.i (Ty.prod Ty.i (Ty.prod (Ty.slice YReadMark) (Ty.prod (Ty.slice (Ty.prod Ty.i (Ty.prod Ty.i
  Ty.unit))) Ty.unit))))) (jk 2 (.ptr 0 0 0 (.fn 160 (.ptr 0 0 0 .nil) (.junk (.ptr 2 0 0 (jk 6 (.slot (Ty.slice (Ty.prod Ty.i (Ty.prod Ty.i (Ty.prod (Ty.slice YReadMark) (Ty.prod (Ty.slice (Ty.prod Ty.i (Ty.prod Ty.i
  Ty.unit))) Ty.unit))))) (.slot Ty.i (.slot Ty.i (jk 33 (.slot (Ty.slice YReadMark) (.slot Ty.i (.slot Ty.i (jk 21 .nil))))))))))))))), (.cells 1 (.own 1 .nil) (.lst false YEdge (.cells 4 (.slot Ty.i (.slot Ty.i (.slot (Ty.slice YReadMark) (.slot (Ty.slice YReadMark) .nil)))) .nil)))⟩
def q60_X13_0 (i : q60_I13) (p : List (Int × Int × Int × Int × Unit) × Unit) : St := ⟨AV.pv (Ty.slice (Ty.prod Ty.i (Ty.prod Ty.i (Ty.prod (Ty.slice YReadMark) (Ty.prod (Ty.slice (Ty.prod Ty.i (Ty.prod (Ty.int
  IntKind.i64) Ty.unit))) Ty.unit))))) i.1 :: jn 2 (AV.ptr 0 none 0 0 :: AV.fn 160 [AV.ptr 0 none 0 0] :: jn 8 (AV.pv (Ty.slice (Ty.prod Ty.i (Ty.prod Ty.i (Ty.prod (Ty.slice (Ty.prod Ty.i
  (Ty.prod Ty.i Ty.unit))) (Ty.prod (Ty.slice YReadMark) Ty.unit))))) i.2.1 :: .n (i.2.2.1) :: .n (i.2.2.2.1) :: jn 57 ([]))), [some (Cont.cells 1 [[AV.own 1 none
  none]]), some (Cont.lst false YEdge p.1), some (Cont.cells 4 [[AV.pv Ty.i i.2.2.2.2.2.2.1, AV.pv
  Ty.i i.2.2.2.2.2.2.2.1, AV.pv (Ty.slice YReadMark) i.2.2.2.2.2.2.2.2.1, AV.pv (Ty.slice YReadMark)
  i.2.2.2.2.2.2.2.2.2.1]])]⟩
noncomputable def q60_E13 (i : q60_I13) (p : q60_Q13) (R : Type) (K : Ex → St → Option R) : Option R := K (Ex.exit 4) (q60_X13_0 i p)
noncomputable def q60_K13 (i : q60_I13) (p : q60_Q13) : Ex × St := (Ex.exit 4, q60_X13_0 i p)
def q60_M13 (i : q60_I13) (v : q60_V13) : den q60_T13.ty := (i.1, i.2.1, i.2.2.1, i.2.2.2.1, i.2.2.2.2.1, i.2.2.2.2.2.1, v.1, v.2.1, i.2.2.2.2.2.2.1, i.2.2.2.2.2.2.2.1, i.2.2.2.2.2.2.2.2.1, i.2.2.2.2.2.2.2.2.2.1, ())
def q60_P13 (x : den q60_T13.ty) : q60_I13 × q60_V13 := ((x.1, x.2.1, x.2.2.1, x.2.2.2.1, x.2.2.2.2.1, x.2.2.2.2.2.1, x.2.2.2.2.2.2.2.2.1, x.2.2.2.2.2.2.2.2.2.1, x.2.2.2.2.2.2.2.2.2.2.1, x.2.2.2.2.2.2.2.2.2.2.2.1, ()), (x.2.2.2.2.2.2.1, x.2.2.2.2.2.2.2.1, ()))
abbrev q60_I4 : Type := List (Int × Int × List (Int × Int × Unit) × List (Int × Int × Unit) × Unit) × List (Int × Int × List (Int × Int × Unit) × List (Int × Int × Unit) × Unit) × Int × Unit
abbrev q60_V4 : Type := Int × List (Int × Int × Int × Int × Unit) × Unit
abbrev q60_Q4 : Type := List (Int × Int × Int × Int × Unit) × Unit
noncomputable def impl_graph_D4 (i : q60_I4) (v : q60_V4) (R : Type) (K : q60_V4 ⊕ q60_Q4 → Option R) : Option R :=
  bif decide (v.1 < i.2.2.1) then Option.bind (lAt i.2.1 v.1) fun v_1 => Option.bind (iter (fun v_2 => impl_graph_D7 (i.1, i.2.1, i.2.2.1, v.1, v_1.2.2.1, (↑(List.length v_1.2.2.1) : Int), v_1.1, v_1.2.1, v_1.2.2.1, v_1.2.2.2.1, ()) v_2
  _ some) (0, v.2.1, ())) fun p => Option.bind (iter (fun v_2 => impl_graph_D13 (i.1, i.2.1, i.2.2.1, v.1, v_1.2.2.2.1, (↑(List.length v_1.2.2.2.1) : Int), v_1.1, v_1.2.1, v_1.2.2.1, v_1.2.2.2.1, ()) v_2 _ some) (0, p.1,
  ())) fun p => K (Sum.inl (IntKind.wrap IntKind.i64 (v.1 + 1), p.1, ())) else K (Sum.inr (v.2.1, ()))
theorem impl_graph_D4_nat : NatD impl_graph_D4 := fun i v R K => nat_bif (nat_bind fun _ => nat_bind fun _ => nat_bind fun _ => nat_some) (nat_some)
def q60_T4 : Tmpl := ⟨(.slot (Ty.slice (Ty.prod Ty.i (Ty.prod Ty.i (Ty.prod (Ty.slice YReadMark) (Ty.prod (Ty.slice (Ty.prod Ty.i (Ty.prod Ty.i
  Ty.unit))) Ty.unit))))) (jk 2 (.ptr 0 0 0 (.fn 160 (.ptr 0 0 0 .nil) (jk 8 (.slot (Ty.slice (Ty.prod Ty.i (Ty.prod Ty.i (Ty.prod (Ty.slice YReadMark) (Ty.prod (Ty.slice (Ty.prod Ty.i (Ty.prod Ty.i
  Ty.unit))) Ty.unit))))) (.slot Ty.i (.slot Ty.i (jk 57 .nil))))))))), (.cells 1 (.own 1 .nil) (.lst false YEdge .nil))⟩
def q60_X4_0 (i : q60_I4) (p : List (Int × Int × Int × Int × Unit) × Unit) : St := ⟨jn 3 (AV.ptr 0 none 0 0 :: jn 69 ([])), [some (Cont.cells 1 [[AV.own 1 none none]]), some (Cont.lst false YEdge
  p.1)]⟩
noncomputable def q60_E4 (i : q60_I4) (p : q60_Q4) (R : Type) (K : Ex → St → Option R) : Option R := K (Ex.exit 0) (q60_X4_0 i p)
noncomputable def q60_K4 (i : q60_I4) (p : q60_Q4) : Ex × St := (Ex.exit 0, q60_X4_0 i p)
def q60_M4 (i : q60_I4) (v : q60_V4) : den q60_T4.ty := (i.1, i.2.1, i.2.2.1, v.1, v.2.1, ())
def q60_P4 (x : den q60_T4.ty) : q60_I4 × q60_V4 := ((x.1, x.2.1, x.2.2.1, ()), (x.2.2.2.1, x.2.2.2.2.1, ()))
noncomputable def q60_C : Cfg := { ti := g_tis, ents := [q55_Ent, q58_Ent, q59_Ent, q53_Ent, q56_Ent], ann := [(7, loopFn q60_T7 0 q60_P7 impl_graph_D7 q60_E7), (13, loopFn q60_T13 0 q60_P13 impl_graph_D13 q60_E13), (4, loopFn q60_T4 0 q60_P4 impl_graph_D4 q60_E4)], lent := 0 }
def q60_ti : Tmpl := ⟨(.slot (Ty.slice (Ty.prod Ty.i (Ty.prod Ty.i (Ty.prod (Ty.slice YReadMark) (Ty.prod (Ty.slice (Ty.prod Ty.i (Ty.prod Ty.i
  Ty.unit))) Ty.unit))))) .nil), .nil⟩
def q60_to : Tmpl := ⟨(.own 0 .nil), (.lst false YEdge .nil)⟩
noncomputable def impl_graph_S (x : List (Int × Int × List (Int × Int × Unit) × List (Int × Int × Unit) × Unit) × Unit) : Option (List (Int × Int × Int × Int × Unit) × Unit) :=
  Option.bind (iter (fun v => impl_graph_D4 (x.1, x.1, (↑(List.length x.1) : Int), ()) v _ some) (0, [], ())) fun p => Option.bind (slices_SortFunc__impl_compareEdges_S (p.1, ())) fun v => Option.bind (slices_Compact_impl_Edge_l_S
  (v.1, ())) fun v => some (v.1, ())
noncomputable def q60_Ent : Ent := ⟨79, q60_ti, q60_to, impl_graph_S⟩
theorem q60_HC : CfgOK Tryz.prog q60_C := hc_of g_tisOK g_wide (all_cons q55_OK (all_cons q58_OK (all_cons q59_OK (all_cons q53_OK (all_cons q56_OK all_nil)))))
theorem q60_lk13 : LkOK Tryz.prog q60_C (lpc Tryz.f79 2) :=
  lk_of q60_HC (m := 0) (T := q60_T13) (sp := q60_P13) (D := impl_graph_D13) (E := q60_E13) (by kernel_rfl) (by kernel_rfl) (fun k hk => absurd hk (Nat.not_lt_zero k)) [0, 3, 4, 13, 14, 15] q60_M13 (fun x => rfl) impl_graph_D13_nat q60_K13 (fun i p R K => rfl) (fun i v => by kernel_rfl)
theorem q60_lk7 : LkOK Tryz.prog q60_C (lpc Tryz.f79 1) :=
  lk_of q60_HC (m := 0) (T := q60_T7) (sp := q60_P7) (D := impl_graph_D7) (E := q60_E7) (by kernel_rfl) (by kernel_rfl) (fun k hk => absurd hk (Nat.not_lt_zero k)) [0, 3, 4, 6, 13, 14, 15] q60_M7 (fun x => rfl) impl_graph_D7_nat q60_K7 (fun i p R K => rfl) (fun i v => by kernel_rfl)
theorem q60_lk4 : LkOK Tryz.prog q60_C (lpc Tryz.f79 0) :=
  lk_of q60_HC (m := 2) (T := q60_T4) (sp := q60_P4) (D := impl_graph_D4) (E := q60_E4) (by kernel_rfl) (by kernel_rfl) (fun k hk => match k, hk with | 0, _ => lk_at (by kernel_rfl) q60_lk7 | 1, _ => lk_at (by kernel_rfl) q60_lk13) [3] q60_M4 (fun x => rfl) impl_graph_D4_nat q60_K4 (fun i p R K => rfl) (fun i v => by kernel_rfl)
theorem q60_OK : EntOK Tryz.prog q60_Ent := ok_of q60_HC Tryz.func79 3 (by kernel_rfl) (fun k hk => match k, hk with | 0, _ => q60_lk4 | 1, _ => q60_lk7 | 2, _ => q60_lk13) (by kernel_rfl) (by kernel_rfl) (fun x => by kernel_rfl)
noncomputable def q70_C : Cfg := { ti := g_tis, ents := [q54_Ent, q60_Ent], ann := [], lent := 0 }
def q70_ti : Tmpl := ⟨(.slot (Ty.slice (Ty.prod Ty.i (Ty.prod Ty.i (Ty.prod (Ty.slice YReadMark) (Ty.prod (Ty.slice (Ty.prod Ty.i (Ty.prod Ty.i
  Ty.unit))) Ty.unit))))) .nil), .nil⟩
def q70_to : Tmpl := ⟨(.own 0 .nil), (.lst false YEdge .nil)⟩
noncomputable def impl_BuildGraph_S (x : List (Int × Int × List (Int × Int × Unit) × List (Int × Int × Unit) × Unit) × Unit) : Option (List (Int × Int × Int × Int × Unit) × Unit) :=
  Option.bind (impl_IsHistory_S (x.1, ())) fun v => bif !v.1 then some ([], ()) else Option.bind (impl_graph_S (x.1, ())) fun v => some (v.1, ())
noncomputable def q70_Ent : Ent := ⟨148, q70_ti, q70_to, impl_BuildGraph_S⟩
theorem q70_HC : CfgOK Tryz.prog q70_C := hc_of g_tisOK g_wide (all_cons q54_OK (all_cons q60_OK all_nil))
theorem q70_OK : EntOK Tryz.prog q70_Ent := ok_of q70_HC Tryz.func148 0 (by kernel_rfl) (fun k hk => absurd hk (Nat.not_lt_zero k)) (by kernel_rfl) (by kernel_rfl) (fun x => by kernel_rfl)
noncomputable def q95_C : Cfg := { ti := g_tis, ents := [], ann := [], lent := 0 }
def q95_ti : Tmpl := ⟨(.slot YReadMark (.slot YReadMark .nil)), .nil⟩
def q95_to : Tmpl := ⟨(.slot (Ty.bool) .nil), .nil⟩
noncomputable def laws_eqReadMark_S (x : (Int × Int × Unit) × (Int × Int × Unit) × Unit) : Option (Bool × Unit) :=
  bif x.1.1 != x.2.1.1 then some (false, ()) else bif x.1.2.1 != x.2.1.2.1 then some (false, ()) else some (true, ())
noncomputable def q95_Ent : Ent := ⟨267, q95_ti, q95_to, laws_eqReadMark_S⟩
theorem q95_HC : CfgOK Tryz.prog q95_C := hc_of g_tisOK g_wide all_nil
theorem q95_OK : EntOK Tryz.prog q95_Ent := ok_of q95_HC Tryz.func267 0 (by kernel_rfl) (fun k hk => absurd hk (Nat.not_lt_zero k)) (by kernel_rfl) (by kernel_rfl) (fun x => by kernel_rfl)
abbrev q96_I4 : Type := List (Int × Int × Unit) × List (Int × Int × Unit) × Unit
abbrev q96_V4 : Type := Int × Unit
abbrev q96_Q4 : Type := Unit ⊕ Unit
noncomputable def laws_eqReadMarkS_D4 (i : q96_I4) (v : q96_V4) (R : Type) (K : q96_V4 ⊕ q96_Q4 → Option R) : Option R :=
  bif decide (v.1 < (↑(List.length i.1) : Int)) then Option.bind (lAt i.1 v.1) fun v_1 => Option.bind (lAt i.2.1 v.1) fun v_2 => Option.bind (laws_eqReadMark_S ((v_1.1, v_1.2.1, ()), (v_2.1, v_2.2.1, ()), ())) fun v_3 => bif !v_3.1 then K
  (Sum.inr (Sum.inl ())) else K (Sum.inl (IntKind.wrap IntKind.i64 (v.1 + 1), ())) else K (Sum.inr (Sum.inr ()))
theorem laws_eqReadMarkS_D4_nat : NatD laws_eqReadMarkS_D4 := fun i v R K => nat_bif (nat_bind fun _ => nat_bind fun _ => nat_bind fun _ => nat_bif (nat_some) (nat_some)) (nat_some)
def q96_T4 : Tmpl := ⟨(.slot (Ty.slice YReadMark) (.slot (Ty.slice YReadMark) (jk 3 (.slot Ty.i (jk 21 .nil))))), .nil⟩
def q96_X4_0 (i : q96_I4) (p : Unit) : St := ⟨jn 4 (.b (false) :: jn 22 ([])), []⟩
def q96_X4_1 (i : q96_I4) (p : Unit) : St := ⟨jn 27 ([]), []⟩
noncomputable def q96_E4 (i : q96_I4) (p : q96_Q4) (R : Type) (K : Ex → St → Option R) : Option R := sumC p (fun p => K (Ex.ret) (q96_X4_0 i p)) fun p => K (Ex.exit 0) (q96_X4_1 i p)
noncomputable def q96_K4 (i : q96_I4) (p : q96_Q4) : Ex × St := sumC p (fun p => (Ex.ret, q96_X4_0 i p)) fun p => (Ex.exit 0, q96_X4_1 i p)
def q96_M4 (i : q96_I4) (v : q96_V4) : den q96_T4.ty := (i.1, i.2.1, v.1, ())
def q96_P4 (x : den q96_T4.ty) : q96_I4 × q96_V4 := ((x.1, x.2.1, ()), (x.2.2.1, ()))
noncomputable def q96_C : Cfg := { ti := g_tis, ents := [q95_Ent], ann := [(4, loopFn q96_T4 0 q96_P4 laws_eqReadMarkS_D4 q96_E4)], lent := 0 }
def q96_ti : Tmpl := ⟨(.slot (Ty.slice YReadMark) (.slot (Ty.slice YReadMark) .nil)), .nil⟩
def q96_to : Tmpl := ⟨(.slot (Ty.bool) .nil), .nil⟩
noncomputable def laws_eqReadMarkS_S (x : List (Int × Int × Unit) × List (Int × Int × Unit) × Unit) : Option (Bool × Unit) :=
  bif (↑(List.length x.1) : Int) != (↑(List.length x.2.1) : Int) then some (false, ()) else Option.bind (iter (fun v => laws_eqReadMarkS_D4 (x.1, x.2.1, ()) v _ some) (0, ())) fun p => sumC p (fun p => some (false, ())) fun p => some
  (true, ())
noncomputable def q96_Ent : Ent := ⟨149, q96_ti, q96_to, laws_eqReadMarkS_S⟩
theorem q96_HC : CfgOK Tryz.prog q96_C := hc_of g_tisOK g_wide (all_cons q95_OK all_nil)
theorem q96_lk4 : LkOK Tryz.prog q96_C (lpc Tryz.f149 0) :=
  lk_of q96_HC (m := 0) (T := q96_T4) (sp := q96_P4) (D := laws_eqReadMarkS_D4) (E := q96_E4) (by kernel_rfl) (by kernel_rfl) (fun k hk => absurd hk (Nat.not_lt_zero k)) [4] q96_M4 (fun x => rfl) laws_eqReadMarkS_D4_nat q96_K4 (fun i p R K => by rcases p with p | p <;> rfl) (fun i v => by kernel_rfl)
theorem q96_OK : EntOK Tryz.prog q96_Ent := ok_of q96_HC Tryz.func149 1 (by kernel_rfl) (fun k hk => match k, hk with | 0, _ => q96_lk4) (by kernel_rfl) (by kernel_rfl) (fun x => by kernel_rfl)
noncomputable def q97_C : Cfg := { ti := g_tis, ents := [], ann := [], lent := 0 }
def q97_ti : Tmpl := ⟨(.slot YReadMark (.slot YReadMark .nil)), .nil⟩
def q97_to : Tmpl := ⟨(.slot (Ty.bool) .nil), .nil⟩
noncomputable def laws_eqWrite_S (x : (Int × Int × Unit) × (Int × Int × Unit) × Unit) : Option (Bool × Unit) :=
  bif x.1.1 != x.2.1.1 then some (false, ()) else bif x.1.2.1 != x.2.1.2.1 then some (false, ()) else some (true, ())
noncomputable def q97_Ent : Ent := ⟨268, q97_ti, q97_to, laws_eqWrite_S⟩
theorem q97_HC : CfgOK Tryz.prog q97_C := hc_of g_tisOK g_wide all_nil
theorem q97_OK : EntOK Tryz.prog q97_Ent := ok_of q97_HC Tryz.func268 0 (by kernel_rfl) (fun k hk => absurd hk (Nat.not_lt_zero k)) (by kernel_rfl) (by kernel_rfl) (fun x => by kernel_rfl)
abbrev q98_I4 : Type := List (Int × Int × Unit) × List (Int × Int × Unit) × Unit
abbrev q98_V4 : Type := Int × Unit
abbrev q98_Q4 : Type := Unit ⊕ Unit
noncomputable def laws_eqWriteS_D4 (i : q98_I4) (v : q98_V4) (R : Type) (K : q98_V4 ⊕ q98_Q4 → Option R) : Option R :=
  bif decide (v.1 < (↑(List.length i.1) : Int)) then Option.bind (lAt i.1 v.1) fun v_1 => Option.bind (lAt i.2.1 v.1) fun v_2 => Option.bind (laws_eqWrite_S ((v_1.1, v_1.2.1, ()), (v_2.1, v_2.2.1, ()), ())) fun v_3 => bif !v_3.1 then K
  (Sum.inr (Sum.inl ())) else K (Sum.inl (IntKind.wrap IntKind.i64 (v.1 + 1), ())) else K (Sum.inr (Sum.inr ()))
theorem laws_eqWriteS_D4_nat : NatD laws_eqWriteS_D4 := fun i v R K => nat_bif (nat_bind fun _ => nat_bind fun _ => nat_bind fun _ => nat_bif (nat_some) (nat_some)) (nat_some)
def q98_T4 : Tmpl := ⟨(.slot (Ty.slice YReadMark) (.slot (Ty.slice YReadMark) (jk 3 (.slot Ty.i (jk 21 .nil))))), .nil⟩
def q98_X4_0 (i : q98_I4) (p : Unit) : St := ⟨jn 4 (.b (false) :: jn 22 ([])), []⟩
def q98_X4_1 (i : q98_I4) (p : Unit) : St := ⟨jn 27 ([]), []⟩
noncomputable def q98_E4 (i : q98_I4) (p : q98_Q4) (R : Type) (K : Ex → St → Option R) : Option R := sumC p (fun p => K (Ex.ret) (q98_X4_0 i p)) fun p => K (Ex.exit 0) (q98_X4_1 i p)
noncomputable def q98_K4 (i : q98_I4) (p : q98_Q4) : Ex × St := sumC p (fun p => (Ex.ret, q98_X4_0 i p)) fun p => (Ex.exit 0, q98_X4_1 i p)
def q98_M4 (i : q98_I4) (v : q98_V4) : den q98_T4.ty := (i.1, i.2.1, v.1, ())
def q98_P4 (x : den q98_T4.ty) : q98_I4 × q98_V4 := ((x.1, x.2.1, ()), (x.2.2.1, ()))
noncomputable def q98_C : Cfg := { ti := g_tis, ents := [q97_Ent], ann := [(4, loopFn q98_T4 0 q98_P4 laws_eqWriteS_D4 q98_E4)], lent := 0 }
def q98_ti : Tmpl := ⟨(.slot (Ty.slice YReadMark) (.slot (Ty.slice YReadMark) .nil)), .nil⟩
def q98_to : Tmpl := ⟨(.slot (Ty.bool) .nil), .nil⟩
noncomputable def laws_eqWriteS_S (x : List (Int × Int × Unit) × List (Int × Int × Unit) × Unit) : Option (Bool × Unit) :=
  bif (↑(List.length x.1) : Int) != (↑(List.length x.2.1) : Int) then some (false, ()) else Option.bind (iter (fun v => laws_eqWriteS_D4 (x.1, x.2.1, ()) v _ some) (0, ())) fun p => sumC p (fun p => some (false, ())) fun p => some
  (true, ())
noncomputable def q98_Ent : Ent := ⟨150, q98_ti, q98_to, laws_eqWriteS_S⟩
theorem q98_HC : CfgOK Tryz.prog q98_C := hc_of g_tisOK g_wide (all_cons q97_OK all_nil)
theorem q98_lk4 : LkOK Tryz.prog q98_C (lpc Tryz.f150 0) :=
  lk_of q98_HC (m := 0) (T := q98_T4) (sp := q98_P4) (D := laws_eqWriteS_D4) (E := q98_E4) (by kernel_rfl) (by kernel_rfl) (fun k hk => absurd hk (Nat.not_lt_zero k)) [4] q98_M4 (fun x => rfl) laws_eqWriteS_D4_nat q98_K4 (fun i p R K => by rcases p with p | p <;> rfl) (fun i v => by kernel_rfl)
theorem q98_OK : EntOK Tryz.prog q98_Ent := ok_of q98_HC Tryz.func150 1 (by kernel_rfl) (fun k hk => match k, hk with | 0, _ => q98_lk4) (by kernel_rfl) (by kernel_rfl) (fun x => by kernel_rfl)
noncomputable def q138_C : Cfg := { ti := g_tis, ents := [], ann := [], lent := 0 }
def q138_ti : Tmpl := ⟨(.slot (Ty.slice YVersion) (.slot Ty.i .nil)), .nil⟩
def q138_to : Tmpl := ⟨(.slot Ty.i .nil), .nil⟩
noncomputable def laws_szVersionS_S (x : List (Int × Int × Int × Int × Int × Unit) × Int × Unit) : Option (Int × Unit) :=
  bif decide (IntKind.wrap IntKind.i64 (x.2.1 - (↑(List.length x.1) : Int)) < 0) then some (-1, ()) else some (IntKind.wrap IntKind.i64 (x.2.1 - (↑(List.length x.1) : Int)), ())
noncomputable def q138_Ent : Ent := ⟨284, q138_ti, q138_to, laws_szVersionS_S⟩
theorem q138_HC : CfgOK Tryz.prog q138_C := hc_of g_tisOK g_wide all_nil
theorem q138_OK : EntOK Tryz.prog q138_Ent := ok_of q138_HC Tryz.func284 0 (by kernel_rfl) (fun k hk => absurd hk (Nat.not_lt_zero k)) (by kernel_rfl) (by kernel_rfl) (fun x => by kernel_rfl)
abbrev q139_I5 : Type := List (List (Int × Int × Int × Int × Int × Unit)) × Unit
abbrev q139_V5 : Type := Int × Int × Unit
abbrev q139_Q5 : Type := Int × Unit ⊕ Int × Unit
noncomputable def laws_szVersionSS_D5 (i : q139_I5) (v : q139_V5) (R : Type) (K : q139_V5 ⊕ q139_Q5 → Option R) : Option R :=
  bif decide (v.2.1 < (↑(List.length i.1) : Int)) then Option.bind (lAt i.1 v.2.1) fun v_1 => Option.bind (laws_szVersionS_S (v_1, v.1, ())) fun v_2 => bif decide (v_2.1 < 0) then K (Sum.inr (Sum.inl (v_2.1, ()))) else K (Sum.inl (v_2.1,
  IntKind.wrap IntKind.i64 (v.2.1 + 1), ())) else K (Sum.inr (Sum.inr (v.1, ())))
theorem laws_szVersionSS_D5_nat : NatD laws_szVersionSS_D5 := fun i v R K => nat_bif (nat_bind fun _ => nat_bind fun _ => nat_bif (nat_some) (nat_some)) (nat_some)
def q139_T5 : Tmpl := ⟨(.slot (Ty.slice (Ty.slice YVersion)) (.slot Ty.i (jk 3 (.slot Ty.i (jk 21 .nil))))), .nil⟩
def q139_X5_0 (i : q139_I5) (p : Int × Unit) : St := ⟨jn 1 (.n (p.1) :: jn 2 (.n (-1) :: jn 22 ([]))), []⟩
def q139_X5_1 (i : q139_I5) (p : Int × Unit) : St := ⟨jn 1 (.n (p.1) :: jn 25 ([])), []⟩
noncomputable def q139_E5 (i : q139_I5) (p : q139_Q5) (R : Type) (K : Ex → St → Option R) : Option R := sumC p (fun p => K (Ex.ret) (q139_X5_0 i p)) fun p => K (Ex.exit 0) (q139_X5_1 i p)
noncomputable def q139_K5 (i : q139_I5) (p : q139_Q5) : Ex × St := sumC p (fun p => (Ex.ret, q139_X5_0 i p)) fun p => (Ex.exit 0, q139_X5_1 i p)
def q139_M5 (i : q139_I5) (v : q139_V5) : den q139_T5.ty := (i.1, v.1, v.2.1, ())
def q139_P5 (x : den q139_T5.ty) : q139_I5 × q139_V5 := ((x.1, ()), (x.2.1, x.2.2.1, ()))
noncomputable def q139_C : Cfg := { ti := g_tis, ents := [q138_Ent], ann := [(5, loopFn q139_T5 0 q139_P5 laws_szVersionSS_D5 q139_E5)], lent := 0 }
def q139_ti : Tmpl := ⟨(.slot (Ty.slice (Ty.slice YVersion)) (.slot Ty.i .nil)), .nil⟩
def q139_to : Tmpl := ⟨(.slot Ty.i .nil), .nil⟩
noncomputable def laws_szVersionSS_S (x : List (List (Int × Int × Int × Int × Int × Unit)) × Int × Unit) : Option (Int × Unit) :=
  bif decide (IntKind.wrap IntKind.i64 (x.2.1 - (↑(List.length x.1) : Int)) < 0) then some (-1, ()) else Option.bind (iter (fun v => laws_szVersionSS_D5 (x.1, ()) v _ some) (IntKind.wrap IntKind.i64 (x.2.1 - (↑(List.length x.1) :
  Int)), 0, ())) fun p => sumC p (fun p => some (-1, ())) fun p => some (p.1, ())
noncomputable def q139_Ent : Ent := ⟨178, q139_ti, q139_to, laws_szVersionSS_S⟩
theorem q139_HC : CfgOK Tryz.prog q139_C := hc_of g_tisOK g_wide (all_cons q138_OK all_nil)
theorem q139_lk5 : LkOK Tryz.prog q139_C (lpc Tryz.f178 0) :=
  lk_of q139_HC (m := 0) (T := q139_T5) (sp := q139_P5) (D := laws_szVersionSS_D5) (E := q139_E5) (by kernel_rfl) (by kernel_rfl) (fun k hk => absurd hk (Nat.not_lt_zero k)) [1, 4] q139_M5 (fun x => rfl) laws_szVersionSS_D5_nat q139_K5 (fun i p R K => by rcases p with p | p <;> rfl) (fun i v => by kernel_rfl)
theorem q139_OK : EntOK Tryz.prog q139_Ent := ok_of q139_HC Tryz.func178 1 (by kernel_rfl) (fun k hk => match k, hk with | 0, _ => q139_lk5) (by kernel_rfl) (by kernel_rfl) (fun x => by kernel_rfl)
noncomputable def q140_C : Cfg := { ti := g_tis, ents := [q139_Ent], ann := [], lent := 0 }
def q140_ti : Tmpl := ⟨(.slot YStore (.slot Ty.i .nil)), .nil⟩
def q140_to : Tmpl := ⟨(.slot Ty.i .nil), .nil⟩
noncomputable def laws_szStore_S (x : (List (List (Int × Int × Int × Int × Int × Unit)) × Unit) × Int × Unit) : Option (Int × Unit) :=
  Option.bind (laws_szVersionSS_S (x.1.1, x.2.1, ())) fun v => bif decide (v.1 < 0) then some (-1, ()) else some (v.1, ())
noncomputable def q140_Ent : Ent := ⟨83, q140_ti, q140_to, laws_szStore_S⟩
theorem q140_HC : CfgOK Tryz.prog q140_C := hc_of g_tisOK g_wide (all_cons q139_OK all_nil)
theorem q140_OK : EntOK Tryz.prog q140_Ent := ok_of q140_HC Tryz.func83 0 (by kernel_rfl) (fun k hk => absurd hk (Nat.not_lt_zero k)) (by kernel_rfl) (by kernel_rfl) (fun x => by kernel_rfl)
noncomputable def q141_C : Cfg := { ti := g_tis, ents := [q0_Ent, q1_Ent], ann := [], lent := 0 }
def q141_ti : Tmpl := ⟨(.slot (Ty.prod Ty.i (Ty.prod Ty.i (Ty.prod Ty.i (Ty.prod Ty.i (Ty.prod Ty.i (Ty.prod Ty.i (Ty.prod Ty.i (Ty.prod (Ty.slice (Ty.prod
  Ty.i (Ty.prod Ty.i Ty.unit))) (Ty.prod (Ty.slice YReadMark) Ty.unit))))))))) (.slot Ty.i .nil)), .nil⟩
def q141_to : Tmpl := ⟨(.slot Ty.i .nil), .nil⟩
noncomputable def laws_szTransaction_S (x : (Int × Int × Int × Int × Int × Int × Int × List (Int × Int × Unit) × List (Int × Int × Unit) × Unit) × Int × Unit) : Option (Int × Unit) :=
  Option.bind (laws_szReadMarkS_S (x.1.2.2.2.2.2.2.2.1, x.2.1, ())) fun v => bif decide (v.1 < 0) then some (-1, ()) else Option.bind (laws_szWriteS_S (x.1.2.2.2.2.2.2.2.2.1, v.1, ())) fun v => bif decide (v.1 < 0) then some (-1, ()) else some
  (v.1, ())
noncomputable def q141_Ent : Ent := ⟨179, q141_ti, q141_to, laws_szTransaction_S⟩
theorem q141_HC : CfgOK Tryz.prog q141_C := hc_of g_tisOK g_wide (all_cons q0_OK (all_cons q1_OK all_nil))
theorem q141_OK : EntOK Tryz.prog q141_Ent := ok_of q141_HC Tryz.func179 0 (by kernel_rfl) (fun k hk => absurd hk (Nat.not_lt_zero k)) (by kernel_rfl) (by kernel_rfl) (fun x => by kernel_rfl)
abbrev q142_I5 : Type := List (Int × Int × Int × Int × Int × Int × Int × List (Int × Int × Unit) × List (Int × Int × Unit) × Unit) × Unit
abbrev q142_V5 : Type := Int × Int × Unit
abbrev q142_Q5 : Type := Int × Unit ⊕ Int × Unit
noncomputable def laws_szTransactionS_D5 (i : q142_I5) (v : q142_V5) (R : Type) (K : q142_V5 ⊕ q142_Q5 → Option R) : Option R :=
  bif decide (v.2.1 < (↑(List.length i.1) : Int)) then Option.bind (lAt i.1 v.2.1) fun v_1 => Option.bind (laws_szTransaction_S ((v_1.1, v_1.2.1, v_1.2.2.1, v_1.2.2.2.1, v_1.2.2.2.2.1, v_1.2.2.2.2.2.1, v_1.2.2.2.2.2.2.1, v_1.2.2.2.2.2.2.2.1,
  v_1.2.2.2.2.2.2.2.2.1, ()), v.1, ())) fun v_2 => bif decide (v_2.1 < 0) then K (Sum.inr (Sum.inl (v_2.1, ()))) else K (Sum.inl (v_2.1, IntKind.wrap IntKind.i64 (v.2.1 + 1), ())) else K (Sum.inr (Sum.inr (v.1, ())))
theorem laws_szTransactionS_D5_nat : NatD laws_szTransactionS_D5 := fun i v R K => nat_bif (nat_bind fun _ => nat_bind fun _ => nat_bif (nat_some) (nat_some)) (nat_some)
def q142_T5 : Tmpl := ⟨(.slot (Ty.slice (Ty.prod Ty.i (Ty.prod Ty.i (Ty.prod Ty.i (Ty.prod Ty.i (Ty.prod Ty.i (Ty.prod Ty.i (Ty.prod Ty.i (Ty.prod (Ty.slice
  YReadMark) (Ty.prod (Ty.slice YReadMark) Ty.unit)))))))))) (.slot Ty.i (jk 3 (.slot Ty.i (jk 21 .nil))))), .nil⟩
def q142_X5_0 (i : q142_I5) (p : Int × Unit) : St := ⟨jn 1 (.n (p.1) :: jn 2 (.n (-1) :: jn 22 ([]))), []⟩
def q142_X5_1 (i : q142_I5) (p : Int × Unit) : St := ⟨jn 1 (.n (p.1) :: jn 25 ([])), []⟩
noncomputable def q142_E5 (i : q142_I5) (p : q142_Q5) (R : Type) (K : Ex → St → Option R) : Option R := sumC p (fun p => K (Ex.ret) (q142_X5_0 i p)) fun p => K (Ex.exit 0) (q142_X5_1 i p)
noncomputable def q142_K5 (i : q142_I5) (p : q142_Q5) : Ex × St := sumC p (fun p => (Ex.ret, q142_X5_0 i p)) fun p => (Ex.exit 0, q142_X5_1 i p)
def q142_M5 (i : q142_I5) (v : q142_V5) : den q142_T5.ty := (i.1, v.1, v.2.1, ())
def q142_P5 (x : den q142_T5.ty) : q142_I5 × q142_V5 := ((x.1, ()), (x.2.1, x.2.2.1, ()))
noncomputable def q142_C : Cfg := { ti := g_tis, ents := [q141_Ent], ann := [(5, loopFn q142_T5 0 q142_P5 laws_szTransactionS_D5 q142_E5)], lent := 0 }
def q142_ti : Tmpl := ⟨(.slot (Ty.slice (Ty.prod Ty.i (Ty.prod Ty.i (Ty.prod Ty.i (Ty.prod Ty.i (Ty.prod Ty.i (Ty.prod Ty.i (Ty.prod Ty.i (Ty.prod (Ty.slice
  YReadMark) (Ty.prod (Ty.slice YReadMark) Ty.unit)))))))))) (.slot Ty.i .nil)), .nil⟩
def q142_to : Tmpl := ⟨(.slot Ty.i .nil), .nil⟩
noncomputable def laws_szTransactionS_S (x : List (Int × Int × Int × Int × Int × Int × Int × List (Int × Int × Unit) × List (Int × Int × Unit) × Unit) × Int × Unit) : Option (Int × Unit) :=
  bif decide (IntKind.wrap IntKind.i64 (x.2.1 - (↑(List.length x.1) : Int)) < 0) then some (-1, ()) else Option.bind (iter (fun v => laws_szTransactionS_D5 (x.1, ()) v _ some) (IntKind.wrap IntKind.i64 (x.2.1 - (↑(List.length x.1) :
  Int)), 0, ())) fun p => sumC p (fun p => some (-1, ())) fun p => some (p.1, ())
noncomputable def q142_Ent : Ent := ⟨84, q142_ti, q142_to, laws_szTransactionS_S⟩
theorem q142_HC : CfgOK Tryz.prog q142_C := hc_of g_tisOK g_wide (all_cons q141_OK all_nil)
theorem q142_lk5 : LkOK Tryz.prog q142_C (lpc Tryz.f84 0) :=
  lk_of q142_HC (m := 0) (T := q142_T5) (sp := q142_P5) (D := laws_szTransactionS_D5) (E := q142_E5) (by kernel_rfl) (by kernel_rfl) (fun k hk => absurd hk (Nat.not_lt_zero k)) [1, 4] q142_M5 (fun x => rfl) laws_szTransactionS_D5_nat q142_K5 (fun i p R K => by rcases p with p | p <;> rfl) (fun i v => by kernel_rfl)
theorem q142_OK : EntOK Tryz.prog q142_Ent := ok_of q142_HC Tryz.func84 1 (by kernel_rfl) (fun k hk => match k, hk with | 0, _ => q142_lk5) (by kernel_rfl) (by kernel_rfl) (fun x => by kernel_rfl)
noncomputable def q143_C : Cfg := { ti := g_tis, ents := [], ann := [], lent := 0 }
def q143_ti : Tmpl := ⟨(.slot (Ty.slice YReadMark) (.slot Ty.i .nil)), .nil⟩
def q143_to : Tmpl := ⟨(.slot Ty.i .nil), .nil⟩
noncomputable def laws_szLockS_S (x : List (Int × Int × Unit) × Int × Unit) : Option (Int × Unit) :=
  bif decide (IntKind.wrap IntKind.i64 (x.2.1 - (↑(List.length x.1) : Int)) < 0) then some (-1, ()) else some (IntKind.wrap IntKind.i64 (x.2.1 - (↑(List.length x.1) : Int)), ())
noncomputable def q143_Ent : Ent := ⟨85, q143_ti, q143_to, laws_szLockS_S⟩
theorem q143_HC : CfgOK Tryz.prog q143_C := hc_of g_tisOK g_wide all_nil
theorem q143_OK : EntOK Tryz.prog q143_Ent := ok_of q143_HC Tryz.func85 0 (by kernel_rfl) (fun k hk => absurd hk (Nat.not_lt_zero k)) (by kernel_rfl) (by kernel_rfl) (fun x => by kernel_rfl)
noncomputable def q144_C : Cfg := { ti := g_tis, ents := [], ann := [], lent := 0 }
def q144_ti : Tmpl := ⟨(.slot (Ty.slice YReadMark) (.slot Ty.i .nil)), .nil⟩
def q144_to : Tmpl := ⟨(.slot Ty.i .nil), .nil⟩
noncomputable def laws_szWaitS_S (x : List (Int × Int × Unit) × Int × Unit) : Option (Int × Unit) :=
  bif decide (IntKind.wrap IntKind.i64 (x.2.1 - (↑(List.length x.1) : Int)) < 0) then some (-1, ()) else some (IntKind.wrap IntKind.i64 (x.2.1 - (↑(List.length x.1) : Int)), ())
noncomputable def q144_Ent : Ent := ⟨86, q144_ti, q144_to, laws_szWaitS_S⟩
theorem q144_HC : CfgOK Tryz.prog q144_C := hc_of g_tisOK g_wide all_nil
theorem q144_OK : EntOK Tryz.prog q144_Ent := ok_of q144_HC Tryz.func86 0 (by kernel_rfl) (fun k hk => absurd hk (Nat.not_lt_zero k)) (by kernel_rfl) (by kernel_rfl) (fun x => by kernel_rfl)
noncomputable def q145_C : Cfg := { ti := g_tis, ents := [q140_Ent, q142_Ent, q143_Ent, q144_Ent], ann := [], lent := 0 }
def q145_ti : Tmpl := ⟨(.slot (Ty.prod Ty.bool (Ty.prod YStore (Ty.prod
  (Ty.slice (Ty.prod Ty.i (Ty.prod Ty.i (Ty.prod Ty.i (Ty.prod Ty.i (Ty.prod Ty.i (Ty.prod Ty.i (Ty.prod Ty.i (Ty.prod (Ty.slice
  YReadMark) (Ty.prod (Ty.slice YReadMark) Ty.unit)))))))))) (Ty.prod (Ty.slice (Ty.prod Ty.i (Ty.prod
  Ty.i Ty.unit))) (Ty.prod (Ty.slice YReadMark) (Ty.prod Ty.i Ty.unit)))))) (.slot Ty.i .nil)), .nil⟩
def q145_to : Tmpl := ⟨(.slot Ty.i .nil), .nil⟩
noncomputable def laws_szEngine_S (x : (Bool × (List (List (Int × Int × Int × Int × Int × Unit)) × Unit) × List (Int × Int × Int × Int × Int × Int × Int × List (Int × Int × Unit) × List (Int × Int × Unit) × Unit) × List (Int × Int × Unit) × List (Int × Int × Unit) × Int × Unit) ×
  Int × Unit) : Option (Int × Unit) :=
  Option.bind (laws_szStore_S ((x.1.2.1.1, ()), x.2.1, ())) fun v => bif decide (v.1 < 0) then some (-1, ()) else Option.bind (laws_szTransactionS_S (x.1.2.2.1, v.1, ())) fun v => bif decide (v.1 < 0) then some (-1, ()) else Option.bind
  (laws_szLockS_S (x.1.2.2.2.1, v.1, ())) fun v => bif decide (v.1 < 0) then some (-1, ()) else Option.bind (laws_szWaitS_S (x.1.2.2.2.2.1, v.1, ())) fun v => bif decide (v.1 < 0) then some (-1, ()) else some (v.1, ())
noncomputable def q145_Ent : Ent := ⟨24, q145_ti, q145_to, laws_szEngine_S⟩
theorem q145_HC : CfgOK Tryz.prog q145_C := hc_of g_tisOK g_wide (all_cons q140_OK (all_cons q142_OK (all_cons q143_OK (all_cons q144_OK all_nil))))
theorem q145_OK : EntOK Tryz.prog q145_Ent := ok_of q145_HC Tryz.func24 0 (by kernel_rfl) (fun k hk => absurd hk (Nat.not_lt_zero k)) (by kernel_rfl) (by kernel_rfl) (fun x => by kernel_rfl)
noncomputable def q146_C : Cfg := { ti := g_tis, ents := [], ann := [], lent := 0 }
def q146_ti : Tmpl := ⟨(.slot YVersion .nil), .nil⟩
def q146_to : Tmpl := ⟨(.agg (.slot Ty.i (.slot Ty.i (.slot Ty.i (.slot Ty.i (.slot Ty.i .nil))))) .nil), .nil⟩
noncomputable def laws_toVersion_S (x : (Int × Int × Int × Int × Int × Unit) × Unit) : Option (Int × Int × Int × Int × Int × Unit) :=
  some (x.1.1, x.1.2.1, x.1.2.2.1, x.1.2.2.2.1, x.1.2.2.2.2.1, ())
noncomputable def q146_Ent : Ent := ⟨347, q146_ti, q146_to, laws_toVersion_S⟩
theorem q146_HC : CfgOK Tryz.prog q146_C := hc_of g_tisOK g_wide all_nil
theorem q146_OK : EntOK Tryz.prog q146_Ent := ok_of q146_HC Tryz.func347 0 (by kernel_rfl) (fun k hk => absurd hk (Nat.not_lt_zero k)) (by kernel_rfl) (by kernel_rfl) (fun x => by kernel_rfl)
abbrev q147_I3 : Type := List (Int × Int × Int × Int × Int × Unit) × Unit
abbrev q147_V3 : Type := Int × List (Int × Int × Int × Int × Int × Unit) × Unit
abbrev q147_Q3 : Type := List (Int × Int × Int × Int × Int × Unit) × Unit
noncomputable def laws_toVersionS_D3 (i : q147_I3) (v : q147_V3) (R : Type) (K : q147_V3 ⊕ q147_Q3 → Option R) : Option R :=
  bif decide (v.1 < (↑(List.length i.1) : Int)) then Option.bind (lAt i.1 v.1) fun v_1 => Option.bind (laws_toVersion_S ((v_1.1, v_1.2.1, v_1.2.2.1, v_1.2.2.2.1, v_1.2.2.2.2.1, ()), ())) fun v_2 => if 0 ≤ v.1 ∧ v.1 < (↑(List.length v.2.1) :
  Int) then Option.bind v.2.1[0 + Int.toNat v.1]? fun v_3 => K (Sum.inl (IntKind.wrap IntKind.i64 (v.1 + 1), List.set v.2.1 (0 + Int.toNat v.1) (v_2.1, v_2.2.1, v_2.2.2.1, v_2.2.2.2.1, v_2.2.2.2.2.1, ()), ())) else none else K (Sum.inr (v.2.1,
  ()))
theorem laws_toVersionS_D3_nat : NatD laws_toVersionS_D3 := fun i v R K => nat_bif (nat_bind fun _ => nat_bind fun _ => nat_ite (nat_bind fun _ => nat_some)) (nat_some)
def q147_T3 : Tmpl := ⟨(.slot (Ty.slice YVersion) (jk 2 (.own 0 (.slot Ty.i (jk 18 .nil))))), (.lst false YVersion .nil)⟩
def q147_X3_0 (i : q147_I3) (p : List (Int × Int × Int × Int × Int × Unit) × Unit) : St := ⟨jn 3 (AV.own 0 none none :: jn 19 ([])), [some (Cont.lst false YVersion p.1)]⟩
noncomputable def q147_E3 (i : q147_I3) (p : q147_Q3) (R : Type) (K : Ex → St → Option R) : Option R := K (Ex.exit 0) (q147_X3_0 i p)
noncomputable def q147_K3 (i : q147_I3) (p : q147_Q3) : Ex × St := (Ex.exit 0, q147_X3_0 i p)
def q147_M3 (i : q147_I3) (v : q147_V3) : den q147_T3.ty := (i.1, v.1, v.2.1, ())
def q147_P3 (x : den q147_T3.ty) : q147_I3 × q147_V3 := ((x.1, ()), (x.2.1, x.2.2.1, ()))
noncomputable def q147_C : Cfg := { ti := g_tis, ents := [q146_Ent], ann := [(3, loopFn q147_T3 0 q147_P3 laws_toVersionS_D3 q147_E3)], lent := 0 }
def q147_ti : Tmpl := ⟨(.slot (Ty.slice YVersion) .nil), .nil⟩
def q147_to : Tmpl := ⟨(.own 0 .nil), (.lst false YVersion .nil)⟩
noncomputable def laws_toVersionS_S (x : List (Int × Int × Int × Int × Int × Unit) × Unit) : Option (List (Int × Int × Int × Int × Int × Unit) × Unit) :=
  if 0 ≤ (↑(List.length x.1) : Int) ∧ (↑(List.length x.1) : Int) ≤ (↑(List.length x.1) : Int) ∧ (↑(List.length x.1) : Int) ≤ (↑879609302220 : Int) then Option.bind (iter (fun v => laws_toVersionS_D3 (x.1, ()) v _ some) (0,
  List.replicate (Int.toNat (↑(List.length x.1) : Int)) (0, 0, 0, 0, 0, ()), ())) fun p => some (p.1, ()) else none
noncomputable def q147_Ent : Ent := ⟨285, q147_ti, q147_to, laws_toVersionS_S⟩
theorem q147_HC : CfgOK Tryz.prog q147_C := hc_of g_tisOK g_wide (all_cons q146_OK all_nil)
theorem q147_lk3 : LkOK Tryz.prog q147_C (lpc Tryz.f285 0) :=
  lk_of q147_HC (m := 0) (T := q147_T3) (sp := q147_P3) (D := laws_toVersionS_D3) (E := q147_E3) (by kernel_rfl) (by kernel_rfl) (fun k hk => absurd hk (Nat.not_lt_zero k)) [3] q147_M3 (fun x => rfl) laws_toVersionS_D3_nat q147_K3 (fun i p R K => rfl) (fun i v => by kernel_rfl)
theorem q147_OK : EntOK Tryz.prog q147_Ent := ok_of q147_HC Tryz.func285 1 (by kernel_rfl) (fun k hk => match k, hk with | 0, _ => q147_lk3) (by kernel_rfl) (by kernel_rfl) (fun x => by kernel_rfl)
abbrev q148_I3 : Type := List (List (Int × Int × Int × Int × Int × Unit)) × Unit
abbrev q148_V3 : Type := Int × List (List (Int × Int × Int × Int × Int × Unit)) × Unit
abbrev q148_Q3 : Type := List (List (Int × Int × Int × Int × Int × Unit)) × Unit
noncomputable def laws_toVersionSS_D3 (i : q148_I3) (v : q148_V3) (R : Type) (K : q148_V3 ⊕ q148_Q3 → Option R) : Option R :=
  bif decide (v.1 < (↑(List.length i.1) : Int)) then Option.bind (lAt i.1 v.1) fun v_1 => Option.bind (laws_toVersionS_S (v_1, ())) fun v_2 => if 0 ≤ v.1 ∧ v.1 < (↑(List.length v.2.1) : Int) then Option.bind v.2.1[0 + Int.toNat v.1]? fun v_3
  => K (Sum.inl (IntKind.wrap IntKind.i64 (v.1 + 1), List.set v.2.1 (0 + Int.toNat v.1) v_2.1, ())) else none else K (Sum.inr (v.2.1, ()))
theorem laws_toVersionSS_D3_nat : NatD laws_toVersionSS_D3 := fun i v R K => nat_bif (nat_bind fun _ => nat_bind fun _ => nat_ite (nat_bind fun _ => nat_some)) (nat_some)
def q148_T3 : Tmpl := ⟨(.slot (Ty.slice (Ty.slice YVersion)) (jk 2 (.own 0 (.slot Ty.i (jk 18 .nil))))), (.tree false 1 (Ty.slice YVersion) .nil)⟩
def q148_X3_0 (i : q148_I3) (p : List (List (Int × Int × Int × Int × Int × Unit)) × Unit) : St := ⟨jn 3 (AV.own 0 none none :: jn 19 ([])), [some (Cont.tree false 1 (Ty.slice YVersion)
  p.1 none)]⟩
noncomputable def q148_E3 (i : q148_I3) (p : q148_Q3) (R : Type) (K : Ex → St → Option R) : Option R := K (Ex.exit 0) (q148_X3_0 i p)
noncomputable def q148_K3 (i : q148_I3) (p : q148_Q3) : Ex × St := (Ex.exit 0, q148_X3_0 i p)
def q148_M3 (i : q148_I3) (v : q148_V3) : den q148_T3.ty := (i.1, v.1, v.2.1, ())
def q148_P3 (x : den q148_T3.ty) : q148_I3 × q148_V3 := ((x.1, ()), (x.2.1, x.2.2.1, ()))
noncomputable def q148_C : Cfg := { ti := g_tis, ents := [q147_Ent], ann := [(3, loopFn q148_T3 0 q148_P3 laws_toVersionSS_D3 q148_E3)], lent := 0 }
def q148_ti : Tmpl := ⟨(.slot (Ty.slice (Ty.slice YVersion)) .nil), .nil⟩
def q148_to : Tmpl := ⟨(.own 0 .nil), (.tree false 1 (Ty.slice YVersion) .nil)⟩
noncomputable def laws_toVersionSS_S (x : List (List (Int × Int × Int × Int × Int × Unit)) × Unit) : Option (List (List (Int × Int × Int × Int × Int × Unit)) × Unit) :=
  if 0 ≤ (↑(List.length x.1) : Int) ∧ (↑(List.length x.1) : Int) ≤ (↑(List.length x.1) : Int) ∧ (↑(List.length x.1) : Int) ≤ (↑1466015503701 : Int) then Option.bind (iter (fun v => laws_toVersionSS_D3 (x.1, ()) v _ some) (0,
  List.replicate (Int.toNat (↑(List.length x.1) : Int)) [], ())) fun p => some (p.1, ()) else none
noncomputable def q148_Ent : Ent := ⟨181, q148_ti, q148_to, laws_toVersionSS_S⟩
theorem q148_HC : CfgOK Tryz.prog q148_C := hc_of g_tisOK g_wide (all_cons q147_OK all_nil)
theorem q148_lk3 : LkOK Tryz.prog q148_C (lpc Tryz.f181 0) :=
  lk_of q148_HC (m := 0) (T := q148_T3) (sp := q148_P3) (D := laws_toVersionSS_D3) (E := q148_E3) (by kernel_rfl) (by kernel_rfl) (fun k hk => absurd hk (Nat.not_lt_zero k)) [3] q148_M3 (fun x => rfl) laws_toVersionSS_D3_nat q148_K3 (fun i p R K => rfl) (fun i v => by kernel_rfl)
theorem q148_OK : EntOK Tryz.prog q148_Ent := ok_of q148_HC Tryz.func181 1 (by kernel_rfl) (fun k hk => match k, hk with | 0, _ => q148_lk3) (by kernel_rfl) (by kernel_rfl) (fun x => by kernel_rfl)
noncomputable def q149_C : Cfg := { ti := g_tis, ents := [q148_Ent], ann := [], lent := 0 }
def q149_ti : Tmpl := ⟨(.slot YStore .nil), .nil⟩
def q149_to : Tmpl := ⟨(.agg (.own 0 .nil) .nil), (.tree false 1 (Ty.slice YVersion) .nil)⟩
noncomputable def laws_toStore_S (x : (List (List (Int × Int × Int × Int × Int × Unit)) × Unit) × Unit) : Option (List (List (Int × Int × Int × Int × Int × Unit)) × Unit) :=
  Option.bind (laws_toVersionSS_S (x.1.1, ())) fun v => some (v.1, ())
noncomputable def q149_Ent : Ent := ⟨89, q149_ti, q149_to, laws_toStore_S⟩
theorem q149_HC : CfgOK Tryz.prog q149_C := hc_of g_tisOK g_wide (all_cons q148_OK all_nil)
theorem q149_OK : EntOK Tryz.prog q149_Ent := ok_of q149_HC Tryz.func89 0 (by kernel_rfl) (fun k hk => absurd hk (Nat.not_lt_zero k)) (by kernel_rfl) (by kernel_rfl) (fun x => by kernel_rfl)
noncomputable def q150_C : Cfg := { ti := g_tis, ents := [q5_Ent, q7_Ent], ann := [], lent := 0 }
def q150_ti : Tmpl := ⟨(.slot (Ty.prod Ty.i (Ty.prod Ty.i (Ty.prod Ty.i (Ty.prod Ty.i (Ty.prod Ty.i (Ty.prod Ty.i (Ty.prod Ty.i (Ty.prod (Ty.slice (Ty.prod
  Ty.i (Ty.prod Ty.i Ty.unit))) (Ty.prod (Ty.slice YReadMark) Ty.unit))))))))) .nil), .nil⟩
def q150_to : Tmpl := ⟨(.agg (.slot Ty.i (.slot Ty.i (.slot Ty.i (.slot Ty.i (.slot Ty.i (.slot Ty.i (.slot Ty.i (.own 0 (.own 1 .nil))))))))) .nil), (.lst false YReadMark (.lst false YReadMark .nil))⟩
noncomputable def laws_toTransaction_S (x : (Int × Int × Int × Int × Int × Int × Int × List (Int × Int × Unit) × List (Int × Int × Unit) × Unit) × Unit) : Option (Int × Int × Int × Int × Int × Int × Int × List (Int × Int × Unit) × List (Int × Int × Unit) × Unit) :=
  Option.bind (laws_toReadMarkS_S (x.1.2.2.2.2.2.2.2.1, ())) fun v => Option.bind (laws_toWriteS_S (x.1.2.2.2.2.2.2.2.2.1, ())) fun v_1 => some (x.1.1, x.1.2.1, x.1.2.2.1, x.1.2.2.2.1, x.1.2.2.2.2.1, x.1.2.2.2.2.2.1, x.1.2.2.2.2.2.2.1, v.1,
  v_1.1, ())
noncomputable def q150_Ent : Ent := ⟨182, q150_ti, q150_to, laws_toTransaction_S⟩
theorem q150_HC : CfgOK Tryz.prog q150_C := hc_of g_tisOK g_wide (all_cons q5_OK (all_cons q7_OK all_nil))
theorem q150_OK : EntOK Tryz.prog q150_Ent := ok_of q150_HC Tryz.func182 0 (by kernel_rfl) (fun k hk => absurd hk (Nat.not_lt_zero k)) (by kernel_rfl) (by kernel_rfl) (fun x => by kernel_rfl)
abbrev q151_I3 : Type := List (Int × Int × Int × Int × Int × Int × Int × List (Int × Int × Unit) × List (Int × Int × Unit) × Unit) × Unit
abbrev q151_V3 : Type := Int × List (Int × Int × Int × Int × Int × Int × Int × List (Int × Int × Unit) × List (Int × Int × Unit) × Unit) × Unit
abbrev q151_Q3 : Type := List (Int × Int × Int × Int × Int × Int × Int × List (Int × Int × Unit) × List (Int × Int × Unit) × Unit) × Unit
noncomputable def laws_toTransactionS_D3 (i : q151_I3) (v : q151_V3) (R : Type) (K : q151_V3 ⊕ q151_Q3 → Option R) : Option R :=
  bif decide (v.1 < (↑(List.length i.1) : Int)) then Option.bind (lAt i.1 v.1) fun v_1 => Option.bind (laws_toTransaction_S ((v_1.1, v_1.2.1, v_1.2.2.1, v_1.2.2.2.1, v_1.2.2.2.2.1, v_1.2.2.2.2.2.1, v_1.2.2.2.2.2.2.1, v_1.2.2.2.2.2.2.2.1,
  v_1.2.2.2.2.2.2.2.2.1, ()), ())) fun v_2 => if 0 ≤ v.1 ∧ v.1 < (↑(List.length v.2.1) : Int) then Option.bind v.2.1[0 + Int.toNat v.1]? fun v_3 => K (Sum.inl (IntKind.wrap IntKind.i64 (v.1 + 1), List.set v.2.1 (0 + Int.toNat v.1) (v_2.1,
  v_2.2.1, v_2.2.2.1, v_2.2.2.2.1, v_2.2.2.2.2.1, v_2.2.2.2.2.2.1, v_2.2.2.2.2.2.2.1, v_2.2.2.2.2.2.2.2.1, v_2.2.2.2.2.2.2.2.2.1, ()), ())) else none else K (Sum.inr (v.2.1, ()))
theorem laws_toTransactionS_D3_nat : NatD laws_toTransactionS_D3 := fun i v R K => nat_bif (nat_bind fun _ => nat_bind fun _ => nat_ite (nat_bind fun _ => nat_some)) (nat_some)
def q151_T3 : Tmpl := ⟨(.slot (Ty.slice (Ty.prod Ty.i (Ty.prod Ty.i (Ty.prod Ty.i (Ty.prod Ty.i (Ty.prod Ty.i (Ty.prod Ty.i (Ty.prod Ty.i (Ty.prod (Ty.slice
  YReadMark) (Ty.prod (Ty.slice YReadMark) Ty.unit)))))))))) (jk 2 (.own 0 (.slot Ty.i (jk 18 .nil))))), (.tree false 1 (Ty.prod Ty.i (Ty.prod Ty.i (Ty.prod Ty.i (Ty.prod Ty.i (Ty.prod Ty.i (Ty.prod Ty.i (Ty.prod Ty.i (Ty.prod (Ty.slice (Ty.prod
  Ty.i (Ty.prod Ty.i Ty.unit))) (Ty.prod (Ty.slice YReadMark) Ty.unit))))))))) .nil)⟩
def q151_X3_0 (i : q151_I3) (p : List (Int × Int × Int × Int × Int × Int × Int × List (Int × Int × Unit) × List (Int × Int × Unit) × Unit) × Unit) : St := ⟨jn 3 (AV.own 0 none none :: jn 19 ([])), [some (Cont.tree false 1 (Ty.prod Ty.i (Ty.prod Ty.i (Ty.prod Ty.i (Ty.prod Ty.i (Ty.prod Ty.i (Ty.prod (Ty.int
  IntKind.i64) (Ty.prod Ty.i (Ty.prod (Ty.slice YReadMark) (Ty.prod (Ty.slice YReadMark) Ty.unit)))))))))
  p.1 none)]⟩
noncomputable def q151_E3 (i : q151_I3) (p : q151_Q3) (R : Type) (K : Ex → St → Option R) : Option R := K (Ex.exit 0) (q151_X3_0 i p)
noncomputable def q151_K3 (i : q151_I3) (p : q151_Q3) : Ex × St := (Ex.exit 0, q151_X3_0 i p)
def q151_M3 (i : q151_I3) (v : q151_V3) : den q151_T3.ty := (i.1, v.1, v.2.1, ())
def q151_P3 (x : den q151_T3.ty) : q151_I3 × q151_V3 := ((x.1, ()), (x.2.1, x.2.2.1, ()))
noncomputable def q151_C : Cfg := { ti := g_tis, ents := [q150_Ent], ann := [(3, loopFn q151_T3 0 q151_P3 laws_toTransactionS_D3 q151_E3)], lent := 0 }
def q151_ti : Tmpl := ⟨(.slot (Ty.slice (Ty.prod Ty.i (Ty.prod Ty.i (Ty.prod Ty.i (Ty.prod Ty.i (Ty.prod Ty.i (Ty.prod Ty.i (Ty.prod Ty.i (Ty.prod (Ty.slice
  YReadMark) (Ty.prod (Ty.slice YReadMark) Ty.unit)))))))))) .nil), .nil⟩
def q151_to : Tmpl := ⟨(.own 0 .nil), (.tree false 1 (Ty.prod Ty.i (Ty.prod Ty.i (Ty.prod Ty.i (Ty.prod Ty.i (Ty.prod Ty.i (Ty.prod Ty.i (Ty.prod Ty.i (Ty.prod (Ty.slice (Ty.prod
  Ty.i (Ty.prod Ty.i Ty.unit))) (Ty.prod (Ty.slice YReadMark) Ty.unit))))))))) .nil)⟩
noncomputable def laws_toTransactionS_S (x : List (Int × Int × Int × Int × Int × Int × Int × List (Int × Int × Unit) × List (Int × Int × Unit) × Unit) × Unit) : Option (List (Int × Int × Int × Int × Int × Int × Int × List (Int × Int × Unit) × List (Int × Int × Unit) × Unit) × Unit) :=
  if 0 ≤ (↑(List.length x.1) : Int) ∧ (↑(List.length x.1) : Int) ≤ (↑(List.length x.1) : Int) ∧ (↑(List.length x.1) : Int) ≤ (↑338311270084 : Int) then Option.bind (iter (fun v => laws_toTransactionS_D3 (x.1, ()) v _ some) (0,
  List.replicate (Int.toNat (↑(List.length x.1) : Int)) (0, 0, 0, 0, 0, 0, 0, [], [], ()), ())) fun p => some (p.1, ()) else none
noncomputable def q151_Ent : Ent := ⟨90, q151_ti, q151_to, laws_toTransactionS_S⟩
theorem q151_HC : CfgOK Tryz.prog q151_C := hc_of g_tisOK g_wide (all_cons q150_OK all_nil)
theorem q151_lk3 : LkOK Tryz.prog q151_C (lpc Tryz.f90 0) :=
  lk_of q151_HC (m := 0) (T := q151_T3) (sp := q151_P3) (D := laws_toTransactionS_D3) (E := q151_E3) (by kernel_rfl) (by kernel_rfl) (fun k hk => absurd hk (Nat.not_lt_zero k)) [3] q151_M3 (fun x => rfl) laws_toTransactionS_D3_nat q151_K3 (fun i p R K => rfl) (fun i v => by kernel_rfl)
theorem q151_OK : EntOK Tryz.prog q151_Ent := ok_of q151_HC Tryz.func90 1 (by kernel_rfl) (fun k hk => match k, hk with | 0, _ => q151_lk3) (by kernel_rfl) (by kernel_rfl) (fun x => by kernel_rfl)
noncomputable def q152_C : Cfg := { ti := g_tis, ents := [], ann := [], lent := 0 }
def q152_ti : Tmpl := ⟨(.slot YReadMark .nil), .nil⟩
def q152_to : Tmpl := ⟨(.agg (.slot Ty.i (.slot Ty.i .nil)) .nil), .nil⟩
noncomputable def laws_toLock_S (x : (Int × Int × Unit) × Unit) : Option (Int × Int × Unit) :=
  some (x.1.1, x.1.2.1, ())
noncomputable def q152_Ent : Ent := ⟨183, q152_ti, q152_to, laws_toLock_S⟩
theorem q152_HC : CfgOK Tryz.prog q152_C := hc_of g_tisOK g_wide all_nil
theorem q152_OK : EntOK Tryz.prog q152_Ent := ok_of q152_HC Tryz.func183 0 (by kernel_rfl) (fun k hk => absurd hk (Nat.not_lt_zero k)) (by kernel_rfl) (by kernel_rfl) (fun x => by kernel_rfl)
abbrev q153_I3 : Type := List (Int × Int × Unit) × Unit
abbrev q153_V3 : Type := Int × List (Int × Int × Unit) × Unit
abbrev q153_Q3 : Type := List (Int × Int × Unit) × Unit
noncomputable def laws_toLockS_D3 (i : q153_I3) (v : q153_V3) (R : Type) (K : q153_V3 ⊕ q153_Q3 → Option R) : Option R :=
  bif decide (v.1 < (↑(List.length i.1) : Int)) then Option.bind (lAt i.1 v.1) fun v_1 => Option.bind (laws_toLock_S ((v_1.1, v_1.2.1, ()), ())) fun v_2 => if 0 ≤ v.1 ∧ v.1 < (↑(List.length v.2.1) : Int) then Option.bind v.2.1[0 + Int.toNat
  v.1]? fun v_3 => K (Sum.inl (IntKind.wrap IntKind.i64 (v.1 + 1), List.set v.2.1 (0 + Int.toNat v.1) (v_2.1, v_2.2.1, ()), ())) else none else K (Sum.inr (v.2.1, ()))
theorem laws_toLockS_D3_nat : NatD laws_toLockS_D3 := fun i v R K => nat_bif (nat_bind fun _ => nat_bind fun _ => nat_ite (nat_bind fun _ => nat_some)) (nat_some)
def q153_T3 : Tmpl := ⟨(.slot (Ty.slice YReadMark) (jk 2 (.own 0 (.slot Ty.i (jk 18 .nil))))), (.lst false YReadMark .nil)⟩
def q153_X3_0 (i : q153_I3) (p : List (Int × Int × Unit) × Unit) : St := ⟨jn 3 (AV.own 0 none none :: jn 19 ([])), [some (Cont.lst false YReadMark p.1)]⟩
noncomputable def q153_E3 (i : q153_I3) (p : q153_Q3) (R : Type) (K : Ex → St → Option R) : Option R := K (Ex.exit 0) (q153_X3_0 i p)
noncomputable def q153_K3 (i : q153_I3) (p : q153_Q3) : Ex × St := (Ex.exit 0, q153_X3_0 i p)
def q153_M3 (i : q153_I3) (v : q153_V3) : den q153_T3.ty := (i.1, v.1, v.2.1, ())
def q153_P3 (x : den q153_T3.ty) : q153_I3 × q153_V3 := ((x.1, ()), (x.2.1, x.2.2.1, ()))
noncomputable def q153_C : Cfg := { ti := g_tis, ents := [q152_Ent], ann := [(3, loopFn q153_T3 0 q153_P3 laws_toLockS_D3 q153_E3)], lent := 0 }
def q153_ti : Tmpl := ⟨(.slot (Ty.slice YReadMark) .nil), .nil⟩
def q153_to : Tmpl := ⟨(.own 0 .nil), (.lst false YReadMark .nil)⟩
noncomputable def laws_toLockS_S (x : List (Int × Int × Unit) × Unit) : Option (List (Int × Int × Unit) × Unit) :=
  if 0 ≤ (↑(List.length x.1) : Int) ∧ (↑(List.length x.1) : Int) ≤ (↑(List.length x.1) : Int) ∧ (↑(List.length x.1) : Int) ≤ (↑2199023255552 : Int) then Option.bind (iter (fun v => laws_toLockS_D3 (x.1, ()) v _ some) (0,
  List.replicate (Int.toNat (↑(List.length x.1) : Int)) (0, 0, ()), ())) fun p => some (p.1, ()) else none
noncomputable def q153_Ent : Ent := ⟨91, q153_ti, q153_to, laws_toLockS_S⟩
theorem q153_HC : CfgOK Tryz.prog q153_C := hc_of g_tisOK g_wide (all_cons q152_OK all_nil)
theorem q153_lk3 : LkOK Tryz.prog q153_C (lpc Tryz.f91 0) :=
  lk_of q153_HC (m := 0) (T := q153_T3) (sp := q153_P3) (D := laws_toLockS_D3) (E := q153_E3) (by kernel_rfl) (by kernel_rfl) (fun k hk => absurd hk (Nat.not_lt_zero k)) [3] q153_M3 (fun x => rfl) laws_toLockS_D3_nat q153_K3 (fun i p R K => rfl) (fun i v => by kernel_rfl)
theorem q153_OK : EntOK Tryz.prog q153_Ent := ok_of q153_HC Tryz.func91 1 (by kernel_rfl) (fun k hk => match k, hk with | 0, _ => q153_lk3) (by kernel_rfl) (by kernel_rfl) (fun x => by kernel_rfl)
noncomputable def q154_C : Cfg := { ti := g_tis, ents := [], ann := [], lent := 0 }
def q154_ti : Tmpl := ⟨(.slot YReadMark .nil), .nil⟩
def q154_to : Tmpl := ⟨(.agg (.slot Ty.i (.slot Ty.i .nil)) .nil), .nil⟩
noncomputable def laws_toWait_S (x : (Int × Int × Unit) × Unit) : Option (Int × Int × Unit) :=
  some (x.1.1, x.1.2.1, ())
noncomputable def q154_Ent : Ent := ⟨184, q154_ti, q154_to, laws_toWait_S⟩
theorem q154_HC : CfgOK Tryz.prog q154_C := hc_of g_tisOK g_wide all_nil
theorem q154_OK : EntOK Tryz.prog q154_Ent := ok_of q154_HC Tryz.func184 0 (by kernel_rfl) (fun k hk => absurd hk (Nat.not_lt_zero k)) (by kernel_rfl) (by kernel_rfl) (fun x => by kernel_rfl)
abbrev q155_I3 : Type := List (Int × Int × Unit) × Unit
abbrev q155_V3 : Type := Int × List (Int × Int × Unit) × Unit
abbrev q155_Q3 : Type := List (Int × Int × Unit) × Unit
noncomputable def laws_toWaitS_D3 (i : q155_I3) (v : q155_V3) (R : Type) (K : q155_V3 ⊕ q155_Q3 → Option R) : Option R :=
  bif decide (v.1 < (↑(List.length i.1) : Int)) then Option.bind (lAt i.1 v.1) fun v_1 => Option.bind (laws_toWait_S ((v_1.1, v_1.2.1, ()), ())) fun v_2 => if 0 ≤ v.1 ∧ v.1 < (↑(List.length v.2.1) : Int) then Option.bind v.2.1[0 + Int.toNat
  v.1]? fun v_3 => K (Sum.inl (IntKind.wrap IntKind.i64 (v.1 + 1), List.set v.2.1 (0 + Int.toNat v.1) (v_2.1, v_2.2.1, ()), ())) else none else K (Sum.inr (v.2.1, ()))
theorem laws_toWaitS_D3_nat : NatD laws_toWaitS_D3 := fun i v R K => nat_bif (nat_bind fun _ => nat_bind fun _ => nat_ite (nat_bind fun _ => nat_some)) (nat_some)
def q155_T3 : Tmpl := ⟨(.slot (Ty.slice YReadMark) (jk 2 (.own 0 (.slot Ty.i (jk 18 .nil))))), (.lst false YReadMark .nil)⟩
def q155_X3_0 (i : q155_I3) (p : List (Int × Int × Unit) × Unit) : St := ⟨jn 3 (AV.own 0 none none :: jn 19 ([])), [some (Cont.lst false YReadMark p.1)]⟩
noncomputable def q155_E3 (i : q155_I3) (p : q155_Q3) (R : Type) (K : Ex → St → Option R) : Option R := K (Ex.exit 0) (q155_X3_0 i p)
noncomputable def q155_K3 (i : q155_I3) (p : q155_Q3) : Ex × St := (Ex.exit 0, q155_X3_0 i p)
def q155_M3 (i : q155_I3) (v : q155_V3) : den q155_T3.ty := (i.1, v.1, v.2.1, ())
def q155_P3 (x : den q155_T3.ty) : q155_I3 × q155_V3 := ((x.1, ()), (x.2.1, x.2.2.1, ()))
noncomputable def q155_C : Cfg := { ti := g_tis, ents := [q154_Ent], ann := [(3, loopFn q155_T3 0 q155_P3 laws_toWaitS_D3 q155_E3)], lent := 0 }
def q155_ti : Tmpl := ⟨(.slot (Ty.slice YReadMark) .nil), .nil⟩
def q155_to : Tmpl := ⟨(.own 0 .nil), (.lst false YReadMark .nil)⟩
noncomputable def laws_toWaitS_S (x : List (Int × Int × Unit) × Unit) : Option (List (Int × Int × Unit) × Unit) :=
  if 0 ≤ (↑(List.length x.1) : Int) ∧ (↑(List.length x.1) : Int) ≤ (↑(List.length x.1) : Int) ∧ (↑(List.length x.1) : Int) ≤ (↑2199023255552 : Int) then Option.bind (iter (fun v => laws_toWaitS_D3 (x.1, ()) v _ some) (0,
  List.replicate (Int.toNat (↑(List.length x.1) : Int)) (0, 0, ()), ())) fun p => some (p.1, ()) else none
noncomputable def q155_Ent : Ent := ⟨92, q155_ti, q155_to, laws_toWaitS_S⟩
theorem q155_HC : CfgOK Tryz.prog q155_C := hc_of g_tisOK g_wide (all_cons q154_OK all_nil)
theorem q155_lk3 : LkOK Tryz.prog q155_C (lpc Tryz.f92 0) :=
  lk_of q155_HC (m := 0) (T := q155_T3) (sp := q155_P3) (D := laws_toWaitS_D3) (E := q155_E3) (by kernel_rfl) (by kernel_rfl) (fun k hk => absurd hk (Nat.not_lt_zero k)) [3] q155_M3 (fun x => rfl) laws_toWaitS_D3_nat q155_K3 (fun i p R K => rfl) (fun i v => by kernel_rfl)
theorem q155_OK : EntOK Tryz.prog q155_Ent := ok_of q155_HC Tryz.func92 1 (by kernel_rfl) (fun k hk => match k, hk with | 0, _ => q155_lk3) (by kernel_rfl) (by kernel_rfl) (fun x => by kernel_rfl)
noncomputable def q156_C : Cfg := { ti := g_tis, ents := [q149_Ent, q151_Ent, q153_Ent, q155_Ent], ann := [], lent := 0 }
def q156_ti : Tmpl := ⟨(.slot (Ty.prod Ty.bool (Ty.prod YStore (Ty.prod
  (Ty.slice (Ty.prod Ty.i (Ty.prod Ty.i (Ty.prod Ty.i (Ty.prod Ty.i (Ty.prod Ty.i (Ty.prod Ty.i (Ty.prod Ty.i (Ty.prod (Ty.slice
  YReadMark) (Ty.prod (Ty.slice YReadMark) Ty.unit)))))))))) (Ty.prod (Ty.slice (Ty.prod Ty.i (Ty.prod
  Ty.i Ty.unit))) (Ty.prod (Ty.slice YReadMark) (Ty.prod Ty.i Ty.unit)))))) .nil), .nil⟩
def q156_to : Tmpl := ⟨(.agg (.slot (Ty.bool) (.own 0 (.own 1 (.own 2 (.own 3 (.slot Ty.i .nil)))))) .nil), (.tree false 1 (Ty.slice YVersion) (.tree false 1 (Ty.prod Ty.i (Ty.prod Ty.i (Ty.prod Ty.i (Ty.prod Ty.i (Ty.prod Ty.i (Ty.prod Ty.i (Ty.prod Ty.i (Ty.prod (Ty.slice (Ty.prod
  Ty.i (Ty.prod Ty.i Ty.unit))) (Ty.prod (Ty.slice YReadMark) Ty.unit))))))))) (.lst false YReadMark (.lst false YReadMark .nil))))⟩
noncomputable def laws_toEngine_S (x : (Bool × (List (List (Int × Int × Int × Int × Int × Unit)) × Unit) × List (Int × Int × Int × Int × Int × Int × Int × List (Int × Int × Unit) × List (Int × Int × Unit) × Unit) × List (Int × Int × Unit) × List (Int × Int × Unit) × Int × Unit) ×
  Unit) : Option (Bool × Int × List (List (Int × Int × Int × Int × Int × Unit)) × List (Int × Int × Int × Int × Int × Int × Int × List (Int × Int × Unit) × List (Int × Int × Unit) × Unit) × List (Int × Int × Unit) × List (Int × Int × Unit) × Unit) :=
  Option.bind (laws_toStore_S ((x.1.2.1.1, ()), ())) fun v => Option.bind (laws_toTransactionS_S (x.1.2.2.1, ())) fun v_1 => Option.bind (laws_toLockS_S (x.1.2.2.2.1, ())) fun v_2 => Option.bind (laws_toWaitS_S (x.1.2.2.2.2.1, ())) fun v_3 =>
  some (x.1.1, x.1.2.2.2.2.2.1, v.1, v_1.1, v_2.1, v_3.1, ())
noncomputable def q156_Ent : Ent := ⟨26, q156_ti, q156_to, laws_toEngine_S⟩
theorem q156_HC : CfgOK Tryz.prog q156_C := hc_of g_tisOK g_wide (all_cons q149_OK (all_cons q151_OK (all_cons q153_OK (all_cons q155_OK all_nil))))
theorem q156_OK : EntOK Tryz.prog q156_Ent := ok_of q156_HC Tryz.func26 0 (by kernel_rfl) (fun k hk => absurd hk (Nat.not_lt_zero k)) (by kernel_rfl) (by kernel_rfl) (fun x => by kernel_rfl)
noncomputable def q157_C : Cfg := { ti := g_tis, ents := [q11_Ent], ann := [], lent := 0 }
def q157_ti : Tmpl := ⟨(.slot YVersion .nil), .nil⟩
def q157_to : Tmpl := ⟨(.slot (Ty.bool) .nil), .nil⟩
noncomputable def spec_IsValidVersion_S (x : (Int × Int × Int × Int × Int × Unit) × Unit) : Option (Bool × Unit) :=
  Option.bind (spec_l1In_S (x.1.2.1, -1, 99, ())) fun v => bif !v.1 then some (false, ()) else Option.bind (spec_l1In_S (x.1.2.2.1, 0, 999, ())) fun v => bif !v.1 then some (false, ()) else Option.bind (spec_l1In_S (x.1.2.2.2.1, x.1.2.2.1,
  999, ())) fun v => bif !v.1 then some (false, ()) else Option.bind (spec_l1In_S (x.1.2.2.2.2.1, 1, 1000, ())) fun v => bif !v.1 then some (false, ()) else bif x.1.2.2.1 == 0 then bif x.1.1 == 0 then some (x.1.2.1 == -1, ()) else some (false,
  ()) else Option.bind (spec_l1In_S (x.1.1, 1, 9, ())) fun v => some (v.1, ())
noncomputable def q157_Ent : Ent := ⟨319, q157_ti, q157_to, spec_IsValidVersion_S⟩
theorem q157_HC : CfgOK Tryz.prog q157_C := hc_of g_tisOK g_wide (all_cons q11_OK all_nil)
theorem q157_OK : EntOK Tryz.prog q157_Ent := ok_of q157_HC Tryz.func319 0 (by kernel_rfl) (fun k hk => absurd hk (Nat.not_lt_zero k)) (by kernel_rfl) (by kernel_rfl) (fun x => by kernel_rfl)
abbrev q158_I2 : Type := List (Int × Int × Int × Int × Int × Unit) × Unit
abbrev q158_V2 : Type := Int × Unit
abbrev q158_Q2 : Type := Unit ⊕ Unit ⊕ Unit ⊕ Unit
noncomputable def spec_IsValidChain_D2 (i : q158_I2) (v : q158_V2) (R : Type) (K : q158_V2 ⊕ q158_Q2 → Option R) : Option R :=
  bif decide (v.1 < (↑(List.length i.1) : Int)) then Option.bind (lAt i.1 v.1) fun v_1 => Option.bind (spec_IsValidVersion_S ((v_1.1, v_1.2.1, v_1.2.2.1, v_1.2.2.2.1, v_1.2.2.2.2.1, ()), ())) fun v_2 => bif !v_2.1 then K (Sum.inr (Sum.inl ()))
  else bif decide (IntKind.wrap IntKind.i64 (v.1 + 1) < (↑(List.length i.1) : Int)) then Option.bind (lAt i.1 v.1) fun v_3 => Option.bind (lAt i.1 (IntKind.wrap IntKind.i64 (v.1 + 1))) fun v_4 => bif decide (v_3.2.2.1 ≥ v_4.2.2.1) then K
  (Sum.inr (Sum.inr (Sum.inl ()))) else Option.bind (lAt i.1 v.1) fun v_5 => Option.bind (lAt i.1 (IntKind.wrap IntKind.i64 (v.1 + 1))) fun v_6 => bif decide (v_5.2.2.2.2.1 > v_6.2.2.1) then K (Sum.inr (Sum.inr (Sum.inr (Sum.inl ())))) else K
  (Sum.inl (IntKind.wrap IntKind.i64 (v.1 + 1), ())) else K (Sum.inl (IntKind.wrap IntKind.i64 (v.1 + 1), ())) else K (Sum.inr (Sum.inr (Sum.inr (Sum.inr ()))))
theorem spec_IsValidChain_D2_nat : NatD spec_IsValidChain_D2 := fun i v R K => nat_bif (nat_bind fun _ => nat_bind fun _ => nat_bif (nat_some) (nat_bif (nat_bind fun _ => nat_bind fun _ => nat_bif (nat_some) (nat_bind fun _ => nat_bind fun _ => nat_bif (nat_some) (nat_some))) (nat_some))) (nat_some)
def q158_T2 : Tmpl := ⟨(.slot (Ty.slice YVersion) (jk 2 (.slot Ty.i (jk 58 .nil)))), .nil⟩
def q158_X2_0 (i : q158_I2) (p : Unit) : St := ⟨AV.pv (Ty.slice YVersion) i.1 :: jn 1 (.b (false) :: jn 59 ([])), []⟩
def q158_X2_1 (i : q158_I2) (p : Unit) : St := ⟨AV.pv (Ty.slice YVersion) i.1 :: jn 1 (.b (false) :: jn 59 ([])), []⟩
def q158_X2_2 (i : q158_I2) (p : Unit) : St := ⟨AV.pv (Ty.slice YVersion) i.1 :: jn 1 (.b (false) :: jn 59 ([])), []⟩
def q158_X2_3 (i : q158_I2) (p : Unit) : St := ⟨AV.pv (Ty.slice YVersion) i.1 :: jn 61 ([]), []⟩
noncomputable def q158_E2 (i : q158_I2) (p : q158_Q2) (R : Type) (K : Ex → St → Option R) : Option R := sumC p (fun p => K (Ex.ret) (q158_X2_0 i p)) fun p => sumC p (fun p => K (Ex.ret) (q158_X2_1 i p)) fun p => sumC p (fun p => K (Ex.ret) (q158_X2_2 i p)) fun p => K (Ex.exit 0) (q158_X2_3 i p)
noncomputable def q158_K2 (i : q158_I2) (p : q158_Q2) : Ex × St := sumC p (fun p => (Ex.ret, q158_X2_0 i p)) fun p => sumC p (fun p => (Ex.ret, q158_X2_1 i p)) fun p => sumC p (fun p => (Ex.ret, q158_X2_2 i p)) fun p => (Ex.exit 0, q158_X2_3 i p)
def q158_M2 (i : q158_I2) (v : q158_V2) : den q158_T2.ty := (i.1, v.1, ())
def q158_P2 (x : den q158_T2.ty) : q158_I2 × q158_V2 := ((x.1, ()), (x.2.1, ()))
noncomputable def q158_C : Cfg := { ti := g_tis, ents := [q157_Ent], ann := [(2, loopFn q158_T2 0 q158_P2 spec_IsValidChain_D2 q158_E2)], lent := 0 }
def q158_ti : Tmpl := ⟨(.slot (Ty.slice YVersion) .nil), .nil⟩
def q158_to : Tmpl := ⟨(.slot (Ty.bool) .nil), .nil⟩
noncomputable def spec_IsValidChain_S (x : List (Int × Int × Int × Int × Int × Unit) × Unit) : Option (Bool × Unit) :=
  Option.bind (iter (fun v => spec_IsValidChain_D2 (x.1, ()) v _ some) (0, ())) fun p => sumC p (fun p => some (false, ())) fun p => sumC p (fun p => some (false, ())) fun p => sumC p (fun p => some (false, ())) fun p => bif decide
  ((↑(List.length x.1) : Int) > 0) then Option.bind (lAt x.1 (IntKind.wrap IntKind.i64 ((↑(List.length x.1) : Int) - 1))) fun v => some (v.2.2.2.2.1 == 1000, ()) else some (false, ())
noncomputable def q158_Ent : Ent := ⟨314, q158_ti, q158_to, spec_IsValidChain_S⟩
theorem q158_HC : CfgOK Tryz.prog q158_C := hc_of g_tisOK g_wide (all_cons q157_OK all_nil)
theorem q158_lk2 : LkOK Tryz.prog q158_C (lpc Tryz.f314 0) :=
  lk_of q158_HC (m := 0) (T := q158_T2) (sp := q158_P2) (D := spec_IsValidChain_D2) (E := q158_E2) (by kernel_rfl) (by kernel_rfl) (fun k hk => absurd hk (Nat.not_lt_zero k)) [0, 2] q158_M2 (fun x => rfl) spec_IsValidChain_D2_nat q158_K2 (fun i p R K => by rcases p with p | p | p | p <;> rfl) (fun i v => by kernel_rfl)
theorem q158_OK : EntOK Tryz.prog q158_Ent := ok_of q158_HC Tryz.func314 1 (by kernel_rfl) (fun k hk => match k, hk with | 0, _ => q158_lk2) (by kernel_rfl) (by kernel_rfl) (fun x => by kernel_rfl)
abbrev q159_I2 : Type := List (List (Int × Int × Int × Int × Int × Unit)) × Unit
abbrev q159_V2 : Type := Int × Unit
abbrev q159_Q2 : Type := Unit ⊕ Unit ⊕ Unit ⊕ Unit ⊕ Unit
noncomputable def spec_IsValidStore_D2 (i : q159_I2) (v : q159_V2) (R : Type) (K : q159_V2 ⊕ q159_Q2 → Option R) : Option R :=
  bif decide (v.1 < (↑(List.length i.1) : Int)) then Option.bind (lAt i.1 v.1) fun v_1 => Option.bind (spec_IsValidChain_S (v_1, ())) fun v_2 => bif !v_2.1 then K (Sum.inr (Sum.inl ())) else Option.bind (lAt i.1 v.1) fun v_3 => Option.bind
  (lAt v_3 0) fun v_4 => bif decide (v_4.2.2.1 > 0) then Option.bind (lAt i.1 v.1) fun v_5 => bif decide ((↑(List.length v_5) : Int) > 50) then K (Sum.inr (Sum.inr (Sum.inl ()))) else Option.bind (lAt i.1 v.1) fun v_6 => bif decide
  ((↑(List.length v_6) : Int) > 50) then K (Sum.inr (Sum.inr (Sum.inr (Sum.inl ())))) else K (Sum.inl (IntKind.wrap IntKind.i64 (v.1 + 1), ())) else Option.bind (lAt i.1 v.1) fun v_5 => bif decide ((↑(List.length v_5) : Int) > 50) then K
  (Sum.inr (Sum.inr (Sum.inr (Sum.inr (Sum.inl ()))))) else K (Sum.inl (IntKind.wrap IntKind.i64 (v.1 + 1), ())) else K (Sum.inr (Sum.inr (Sum.inr (Sum.inr (Sum.inr ())))))
theorem spec_IsValidStore_D2_nat : NatD spec_IsValidStore_D2 := fun i v R K => nat_bif (nat_bind fun _ => nat_bind fun _ => nat_bif (nat_some) (nat_bind fun _ => nat_bind fun _ => nat_bif (nat_bind fun _ => nat_bif (nat_some) (nat_bind fun _ => nat_bif (nat_some) (nat_some))) (nat_bind fun _ => nat_bif (nat_some) (nat_some)))) (nat_some)
def q159_T2 : Tmpl := ⟨(.junk (.ptr 0 0 0 (.junk (.slot Ty.i (jk 47 .nil))))), (.cells 1 (.slot (Ty.slice (Ty.slice YVersion)) .nil) .nil)⟩
def q159_X2_0 (i : q159_I2) (p : Unit) : St := ⟨jn 1 (AV.ptr 0 none 0 0 :: .b (false) :: jn 48 ([])), [some (Cont.cells 1 [[AV.pv (Ty.slice (Ty.slice (Ty.prod Ty.i (Ty.prod Ty.i (Ty.prod Ty.i (Ty.prod Ty.i (Ty.prod (Ty.int
  IntKind.i64) Ty.unit))))))) i.1]])]⟩
def q159_X2_1 (i : q159_I2) (p : Unit) : St := ⟨jn 1 (AV.ptr 0 none 0 0 :: .b (false) :: jn 48 ([])), [some (Cont.cells 1 [[AV.pv (Ty.slice (Ty.slice (Ty.prod Ty.i (Ty.prod Ty.i (Ty.prod Ty.i (Ty.prod Ty.i (Ty.prod (Ty.int
  IntKind.i64) Ty.unit))))))) i.1]])]⟩
def q159_X2_2 (i : q159_I2) (p : Unit) : St := ⟨jn 1 (AV.ptr 0 none 0 0 :: .b (false) :: jn 48 ([])), [some (Cont.cells 1 [[AV.pv (Ty.slice (Ty.slice (Ty.prod Ty.i (Ty.prod Ty.i (Ty.prod Ty.i (Ty.prod Ty.i (Ty.prod (Ty.int
  IntKind.i64) Ty.unit))))))) i.1]])]⟩
def q159_X2_3 (i : q159_I2) (p : Unit) : St := ⟨jn 1 (AV.ptr 0 none 0 0 :: .b (false) :: jn 48 ([])), [some (Cont.cells 1 [[AV.pv (Ty.slice (Ty.slice (Ty.prod Ty.i (Ty.prod Ty.i (Ty.prod Ty.i (Ty.prod Ty.i (Ty.prod (Ty.int
  IntKind.i64) Ty.unit))))))) i.1]])]⟩
def q159_X2_4 (i : q159_I2) (p : Unit) : St := ⟨jn 1 (AV.ptr 0 none 0 0 :: jn 49 ([])), [some (Cont.cells 1 [[AV.pv (Ty.slice (Ty.slice (Ty.prod Ty.i (Ty.prod Ty.i (Ty.prod Ty.i (Ty.prod Ty.i (Ty.prod Ty.i
  Ty.unit))))))) i.1]])]⟩
noncomputable def q159_E2 (i : q159_I2) (p : q159_Q2) (R : Type) (K : Ex → St → Option R) : Option R := sumC p (fun p => K (Ex.ret) (q159_X2_0 i p)) fun p => sumC p (fun p => K (Ex.ret) (q159_X2_1 i p)) fun p => sumC p (fun p => K (Ex.ret) (q159_X2_2 i p)) fun p => sumC p (fun p => K (Ex.ret) (q159_X2_3 i p)) fun p => K (Ex.exit 0) (q159_X2_4 i p)
noncomputable def q159_K2 (i : q159_I2) (p : q159_Q2) : Ex × St := sumC p (fun p => (Ex.ret, q159_X2_0 i p)) fun p => sumC p (fun p => (Ex.ret, q159_X2_1 i p)) fun p => sumC p (fun p => (Ex.ret, q159_X2_2 i p)) fun p => sumC p (fun p => (Ex.ret, q159_X2_3 i p)) fun p => (Ex.exit 0, q159_X2_4 i p)
def q159_M2 (i : q159_I2) (v : q159_V2) : den q159_T2.ty := (v.1, i.1, ())
def q159_P2 (x : den q159_T2.ty) : q159_I2 × q159_V2 := ((x.2.1, ()), (x.1, ()))
noncomputable def q159_C : Cfg := { ti := g_tis, ents := [q158_Ent], ann := [(2, loopFn q159_T2 0 q159_P2 spec_IsValidStore_D2 q159_E2)], lent := 0 }
def q159_ti : Tmpl := ⟨(.slot YStore .nil), .nil⟩
def q159_to : Tmpl := ⟨(.slot (Ty.bool) .nil), .nil⟩
noncomputable def spec_IsValidStore_S (x : (List (List (Int × Int × Int × Int × Int × Unit)) × Unit) × Unit) : Option (Bool × Unit) :=
  Option.bind (iter (fun v => spec_IsValidStore_D2 (x.1.1, ()) v _ some) (0, ())) fun p => sumC p (fun p => some (false, ())) fun p => sumC p (fun p => some (false, ())) fun p => sumC p (fun p => some (false, ())) fun p => sumC p
  (fun p => some (false, ())) fun p => some ((↑(List.length x.1.1) : Int) == 6, ())
noncomputable def q159_Ent : Ent := ⟨223, q159_ti, q159_to, spec_IsValidStore_S⟩
theorem q159_HC : CfgOK Tryz.prog q159_C := hc_of g_tisOK g_wide (all_cons q158_OK all_nil)
theorem q159_lk2 : LkOK Tryz.prog q159_C (lpc Tryz.f223 0) :=
  lk_of q159_HC (m := 0) (T := q159_T2) (sp := q159_P2) (D := spec_IsValidStore_D2) (E := q159_E2) (by kernel_rfl) (by kernel_rfl) (fun k hk => absurd hk (Nat.not_lt_zero k)) [1, 2] q159_M2 (fun x => rfl) spec_IsValidStore_D2_nat q159_K2 (fun i p R K => by rcases p with p | p | p | p | p <;> rfl) (fun i v => by kernel_rfl)
theorem q159_OK : EntOK Tryz.prog q159_Ent := ok_of q159_HC Tryz.func223 1 (by kernel_rfl) (fun k hk => match k, hk with | 0, _ => q159_lk2) (by kernel_rfl) (by kernel_rfl) (fun x => by kernel_rfl)
abbrev q160_I2 : Type := List (Int × Int × Unit) × Unit
abbrev q160_V2 : Type := Int × Unit
abbrev q160_Q2 : Type := Unit ⊕ Unit ⊕ Unit ⊕ Unit
noncomputable def spec_AreLocks_D2 (i : q160_I2) (v : q160_V2) (R : Type) (K : q160_V2 ⊕ q160_Q2 → Option R) : Option R :=
  bif decide (v.1 < (↑(List.length i.1) : Int)) then Option.bind (lAt i.1 v.1) fun v_1 => Option.bind (spec_l1In_S (v_1.1, 0, 5, ())) fun v_2 => bif !v_2.1 then K (Sum.inr (Sum.inl ())) else Option.bind (lAt i.1 v.1) fun v_3 => Option.bind
  (spec_l1In_S (v_3.2.1, 1, 9, ())) fun v_4 => bif !v_4.1 then K (Sum.inr (Sum.inr (Sum.inl ()))) else bif decide (v.1 > 0) then Option.bind (lAt i.1 (IntKind.wrap IntKind.i64 (v.1 - 1))) fun v_5 => Option.bind (lAt i.1 v.1) fun v_6 => bif
  decide (v_5.1 ≥ v_6.1) then K (Sum.inr (Sum.inr (Sum.inr (Sum.inl ())))) else K (Sum.inl (IntKind.wrap IntKind.i64 (v.1 + 1), ())) else K (Sum.inl (IntKind.wrap IntKind.i64 (v.1 + 1), ())) else K (Sum.inr (Sum.inr (Sum.inr (Sum.inr ()))))
theorem spec_AreLocks_D2_nat : NatD spec_AreLocks_D2 := fun i v R K => nat_bif (nat_bind fun _ => nat_bind fun _ => nat_bif (nat_some) (nat_bind fun _ => nat_bind fun _ => nat_bif (nat_some) (nat_bif (nat_bind fun _ => nat_bind fun _ => nat_bif (nat_some) (nat_some)) (nat_some)))) (nat_some)
def q160_T2 : Tmpl := ⟨(.slot (Ty.slice YReadMark) (jk 2 (.slot Ty.i (jk 40 .nil)))), .nil⟩
def q160_X2_0 (i : q160_I2) (p : Unit) : St := ⟨jn 2 (.b (false) :: jn 41 ([])), []⟩
def q160_X2_1 (i : q160_I2) (p : Unit) : St := ⟨jn 2 (.b (false) :: jn 41 ([])), []⟩
def q160_X2_2 (i : q160_I2) (p : Unit) : St := ⟨jn 2 (.b (false) :: jn 41 ([])), []⟩
def q160_X2_3 (i : q160_I2) (p : Unit) : St := ⟨jn 44 ([]), []⟩
noncomputable def q160_E2 (i : q160_I2) (p : q160_Q2) (R : Type) (K : Ex → St → Option R) : Option R := sumC p (fun p => K (Ex.ret) (q160_X2_0 i p)) fun p => sumC p (fun p => K (Ex.ret) (q160_X2_1 i p)) fun p => sumC p (fun p => K (Ex.ret) (q160_X2_2 i p)) fun p => K (Ex.exit 0) (q160_X2_3 i p)
noncomputable def q160_K2 (i : q160_I2) (p : q160_Q2) : Ex × St := sumC p (fun p => (Ex.ret, q160_X2_0 i p)) fun p => sumC p (fun p => (Ex.ret, q160_X2_1 i p)) fun p => sumC p (fun p => (Ex.ret, q160_X2_2 i p)) fun p => (Ex.exit 0, q160_X2_3 i p)
def q160_M2 (i : q160_I2) (v : q160_V2) : den q160_T2.ty := (i.1, v.1, ())
def q160_P2 (x : den q160_T2.ty) : q160_I2 × q160_V2 := ((x.1, ()), (x.2.1, ()))
noncomputable def q160_C : Cfg := { ti := g_tis, ents := [q11_Ent], ann := [(2, loopFn q160_T2 0 q160_P2 spec_AreLocks_D2 q160_E2)], lent := 0 }
def q160_ti : Tmpl := ⟨(.slot (Ty.slice YReadMark) .nil), .nil⟩
def q160_to : Tmpl := ⟨(.slot (Ty.bool) .nil), .nil⟩
noncomputable def spec_AreLocks_S (x : List (Int × Int × Unit) × Unit) : Option (Bool × Unit) :=
  Option.bind (iter (fun v => spec_AreLocks_D2 (x.1, ()) v _ some) (0, ())) fun p => sumC p (fun p => some (false, ())) fun p => sumC p (fun p => some (false, ())) fun p => sumC p (fun p => some (false, ())) fun p => some (true, ())
noncomputable def q160_Ent : Ent := ⟨224, q160_ti, q160_to, spec_AreLocks_S⟩
theorem q160_HC : CfgOK Tryz.prog q160_C := hc_of g_tisOK g_wide (all_cons q11_OK all_nil)
theorem q160_lk2 : LkOK Tryz.prog q160_C (lpc Tryz.f224 0) :=
  lk_of q160_HC (m := 0) (T := q160_T2) (sp := q160_P2) (D := spec_AreLocks_D2) (E := q160_E2) (by kernel_rfl) (by kernel_rfl) (fun k hk => absurd hk (Nat.not_lt_zero k)) [2] q160_M2 (fun x => rfl) spec_AreLocks_D2_nat q160_K2 (fun i p R K => by rcases p with p | p | p | p <;> rfl) (fun i v => by kernel_rfl)
theorem q160_OK : EntOK Tryz.prog q160_Ent := ok_of q160_HC Tryz.func224 1 (by kernel_rfl) (fun k hk => match k, hk with | 0, _ => q160_lk2) (by kernel_rfl) (by kernel_rfl) (fun x => by kernel_rfl)
abbrev q161_I2 : Type := List (Int × Int × Unit) × Unit
abbrev q161_V2 : Type := Int × Unit
abbrev q161_Q2 : Type := Unit ⊕ Unit ⊕ Unit ⊕ Unit ⊕ Unit
noncomputable def spec_AreWaits_D2 (i : q161_I2) (v : q161_V2) (R : Type) (K : q161_V2 ⊕ q161_Q2 → Option R) : Option R :=
  bif decide (v.1 < (↑(List.length i.1) : Int)) then Option.bind (lAt i.1 v.1) fun v_1 => Option.bind (spec_l1In_S (v_1.1, 1, 9, ())) fun v_2 => bif !v_2.1 then K (Sum.inr (Sum.inl ())) else Option.bind (lAt i.1 v.1) fun v_3 => Option.bind
  (spec_l1In_S (v_3.2.1, 1, 9, ())) fun v_4 => bif !v_4.1 then K (Sum.inr (Sum.inr (Sum.inl ()))) else Option.bind (lAt i.1 v.1) fun v_5 => Option.bind (lAt i.1 v.1) fun v_6 => bif v_5.1 == v_6.2.1 then K (Sum.inr (Sum.inr (Sum.inr (Sum.inl
  ())))) else bif decide (v.1 > 0) then Option.bind (lAt i.1 (IntKind.wrap IntKind.i64 (v.1 - 1))) fun v_7 => Option.bind (lAt i.1 v.1) fun v_8 => bif decide (v_7.1 ≥ v_8.1) then K (Sum.inr (Sum.inr (Sum.inr (Sum.inr (Sum.inl ()))))) else K
  (Sum.inl (IntKind.wrap IntKind.i64 (v.1 + 1), ())) else K (Sum.inl (IntKind.wrap IntKind.i64 (v.1 + 1), ())) else K (Sum.inr (Sum.inr (Sum.inr (Sum.inr (Sum.inr ())))))
theorem spec_AreWaits_D2_nat : NatD spec_AreWaits_D2 := fun i v R K => nat_bif (nat_bind fun _ => nat_bind fun _ => nat_bif (nat_some) (nat_bind fun _ => nat_bind fun _ => nat_bif (nat_some) (nat_bind fun _ => nat_bind fun _ => nat_bif (nat_some) (nat_bif (nat_bind fun _ => nat_bind fun _ => nat_bif (nat_some) (nat_some)) (nat_some))))) (nat_some)
def q161_T2 : Tmpl := ⟨(.slot (Ty.slice YReadMark) (jk 2 (.slot Ty.i (jk 53 .nil)))), .nil⟩
def q161_X2_0 (i : q161_I2) (p : Unit) : St := ⟨jn 2 (.b (false) :: jn 54 ([])), []⟩
def q161_X2_1 (i : q161_I2) (p : Unit) : St := ⟨jn 2 (.b (false) :: jn 54 ([])), []⟩
def q161_X2_2 (i : q161_I2) (p : Unit) : St := ⟨jn 2 (.b (false) :: jn 54 ([])), []⟩
def q161_X2_3 (i : q161_I2) (p : Unit) : St := ⟨jn 2 (.b (false) :: jn 54 ([])), []⟩
def q161_X2_4 (i : q161_I2) (p : Unit) : St := ⟨jn 57 ([]), []⟩
noncomputable def q161_E2 (i : q161_I2) (p : q161_Q2) (R : Type) (K : Ex → St → Option R) : Option R := sumC p (fun p => K (Ex.ret) (q161_X2_0 i p)) fun p => sumC p (fun p => K (Ex.ret) (q161_X2_1 i p)) fun p => sumC p (fun p => K (Ex.ret) (q161_X2_2 i p)) fun p => sumC p (fun p => K (Ex.ret) (q161_X2_3 i p)) fun p => K (Ex.exit 0) (q161_X2_4 i p)
noncomputable def q161_K2 (i : q161_I2) (p : q161_Q2) : Ex × St := sumC p (fun p => (Ex.ret, q161_X2_0 i p)) fun p => sumC p (fun p => (Ex.ret, q161_X2_1 i p)) fun p => sumC p (fun p => (Ex.ret, q161_X2_2 i p)) fun p => sumC p (fun p => (Ex.ret, q161_X2_3 i p)) fun p => (Ex.exit 0, q161_X2_4 i p)
def q161_M2 (i : q161_I2) (v : q161_V2) : den q161_T2.ty := (i.1, v.1, ())
def q161_P2 (x : den q161_T2.ty) : q161_I2 × q161_V2 := ((x.1, ()), (x.2.1, ()))
noncomputable def q161_C : Cfg := { ti := g_tis, ents := [q11_Ent], ann := [(2, loopFn q161_T2 0 q161_P2 spec_AreWaits_D2 q161_E2)], lent := 0 }
def q161_ti : Tmpl := ⟨(.slot (Ty.slice YReadMark) .nil), .nil⟩
def q161_to : Tmpl := ⟨(.slot (Ty.bool) .nil), .nil⟩
noncomputable def spec_AreWaits_S (x : List (Int × Int × Unit) × Unit) : Option (Bool × Unit) :=
  Option.bind (iter (fun v => spec_AreWaits_D2 (x.1, ()) v _ some) (0, ())) fun p => sumC p (fun p => some (false, ())) fun p => sumC p (fun p => some (false, ())) fun p => sumC p (fun p => some (false, ())) fun p => sumC p (fun p =>
  some (false, ())) fun p => some (true, ())
noncomputable def q161_Ent : Ent := ⟨225, q161_ti, q161_to, spec_AreWaits_S⟩
theorem q161_HC : CfgOK Tryz.prog q161_C := hc_of g_tisOK g_wide (all_cons q11_OK all_nil)
theorem q161_lk2 : LkOK Tryz.prog q161_C (lpc Tryz.f225 0) :=
  lk_of q161_HC (m := 0) (T := q161_T2) (sp := q161_P2) (D := spec_AreWaits_D2) (E := q161_E2) (by kernel_rfl) (by kernel_rfl) (fun k hk => absurd hk (Nat.not_lt_zero k)) [2] q161_M2 (fun x => rfl) spec_AreWaits_D2_nat q161_K2 (fun i p R K => by rcases p with p | p | p | p | p <;> rfl) (fun i v => by kernel_rfl)
theorem q161_OK : EntOK Tryz.prog q161_Ent := ok_of q161_HC Tryz.func225 1 (by kernel_rfl) (fun k hk => match k, hk with | 0, _ => q161_lk2) (by kernel_rfl) (by kernel_rfl) (fun x => by kernel_rfl)
abbrev q162_I6 : Type := Int × List (List (Int × Int × Int × Int × Int × Unit)) × Unit
abbrev q162_V6 : Type := Int × Int × Unit
abbrev q162_Q6 : Type := Int × Unit
noncomputable def spec_LastStamp_D6 (i : q162_I6) (v : q162_V6) (R : Type) (K : q162_V6 ⊕ q162_Q6 → Option R) : Option R :=
  Option.bind (lAt i.2.1 i.1) fun v_1 => bif decide (v.2.1 < (↑(List.length v_1) : Int)) then Option.bind (lAt i.2.1 i.1) fun v_2 => Option.bind (lAt v_2 v.2.1) fun v_3 => Option.bind (lAt i.2.1 i.1) fun v_4 => Option.bind (lAt v_4 v.2.1) fun
  v_5 => K (Sum.inl (mx (mx v.1 v_3.2.2.1) v_5.2.2.2.1, IntKind.wrap IntKind.i64 (v.2.1 + 1), ())) else K (Sum.inr (v.1, ()))
theorem spec_LastStamp_D6_nat : NatD spec_LastStamp_D6 := fun i v R K => nat_bind fun _ => nat_bif (nat_bind fun _ => nat_bind fun _ => nat_bind fun _ => nat_bind fun _ => nat_some) (nat_some)
def q162_T6 : Tmpl := ⟨(.junk (.ptr 0 0 0 (.junk (.slot Ty.i (.slot Ty.i (.slot Ty.i (jk 42 .nil))))))), (.cells 1 (.slot (Ty.slice (Ty.slice YVersion)) .nil) .nil)⟩
def q162_X6_0 (i : q162_I6) (p : Int × Unit) : St := ⟨jn 1 (AV.ptr 0 none 0 0 :: jn 1 (.n (p.1) :: .n (i.1) :: jn 43 ([]))), [some (Cont.cells 1 [[AV.pv (Ty.slice (Ty.slice (Ty.prod Ty.i (Ty.prod Ty.i (Ty.prod Ty.i (Ty.prod Ty.i
  (Ty.prod Ty.i Ty.unit))))))) i.2.1]])]⟩
noncomputable def q162_E6 (i : q162_I6) (p : q162_Q6) (R : Type) (K : Ex → St → Option R) : Option R := K (Ex.exit 2) (q162_X6_0 i p)
noncomputable def q162_K6 (i : q162_I6) (p : q162_Q6) : Ex × St := (Ex.exit 2, q162_X6_0 i p)
def q162_M6 (i : q162_I6) (v : q162_V6) : den q162_T6.ty := (v.1, i.1, v.2.1, i.2.1, ())
def q162_P6 (x : den q162_T6.ty) : q162_I6 × q162_V6 := ((x.2.1, x.2.2.2.1, ()), (x.1, x.2.2.1, ()))
abbrev q162_I3 : Type := List (List (Int × Int × Int × Int × Int × Unit)) × Unit
abbrev q162_V3 : Type := Int × Int × Unit
abbrev q162_Q3 : Type := Int × Unit ⊕ Int × Unit
noncomputable def spec_LastStamp_D3 (i : q162_I3) (v : q162_V3) (R : Type) (K : q162_V3 ⊕ q162_Q3 → Option R) : Option R :=
  bif decide (v.2.1 < (↑(List.length i.1) : Int)) then Option.bind (spec_IsValidStore_S ((i.1, ()), ())) fun v_1 => bif v_1.1 then Option.bind (iter (fun v_2 => spec_LastStamp_D6 (v.2.1, i.1, ()) v_2 _ some) (v.1, 0, ())) fun p => K
  (Sum.inl (p.1, IntKind.wrap IntKind.i64 (v.2.1 + 1), ())) else K (Sum.inr (Sum.inl (v.1, ()))) else K (Sum.inr (Sum.inr (v.1, ())))
theorem spec_LastStamp_D3_nat : NatD spec_LastStamp_D3 := fun i v R K => nat_bif (nat_bind fun _ => nat_bif (nat_bind fun _ => nat_some) (nat_some)) (nat_some)
def q162_T3 : Tmpl := ⟨(.junk (.ptr 0 0 0 (.junk (.slot Ty.i (.slot Ty.i (jk 43 .nil)))))), (.cells 1 (.slot (Ty.slice (Ty.slice YVersion)) .nil) .nil)⟩
def q162_X3_0 (i : q162_I3) (p : Int × Unit) : St := ⟨jn 3 (.n (p.1) :: jn 44 ([])), [some (Cont.cells 1 [[AV.pv (Ty.slice (Ty.slice (Ty.prod Ty.i (Ty.prod Ty.i (Ty.prod Ty.i (Ty.prod Ty.i (Ty.prod Ty.i
  Ty.unit))))))) i.1]])]⟩
def q162_X3_1 (i : q162_I3) (p : Int × Unit) : St := ⟨jn 3 (.n (p.1) :: jn 44 ([])), [some (Cont.cells 1 [[AV.pv (Ty.slice (Ty.slice (Ty.prod Ty.i (Ty.prod Ty.i (Ty.prod Ty.i (Ty.prod Ty.i (Ty.prod Ty.i
  Ty.unit))))))) i.1]])]⟩
noncomputable def q162_E3 (i : q162_I3) (p : q162_Q3) (R : Type) (K : Ex → St → Option R) : Option R := sumC p (fun p => K (Ex.exit 0) (q162_X3_0 i p)) fun p => K (Ex.exit 0) (q162_X3_1 i p)
noncomputable def q162_K3 (i : q162_I3) (p : q162_Q3) : Ex × St := sumC p (fun p => (Ex.exit 0, q162_X3_0 i p)) fun p => (Ex.exit 0, q162_X3_1 i p)
def q162_M3 (i : q162_I3) (v : q162_V3) : den q162_T3.ty := (v.1, v.2.1, i.1, ())
def q162_P3 (x : den q162_T3.ty) : q162_I3 × q162_V3 := ((x.2.2.1, ()), (x.1, x.2.1, ()))
noncomputable def q162_C : Cfg := { ti := g_tis, ents := [q159_Ent], ann := [(6, loopFn q162_T6 0 q162_P6 spec_LastStamp_D6 q162_E6), (3, loopFn q162_T3 0 q162_P3 spec_LastStamp_D3 q162_E3)], lent := 0 }
def q162_ti : Tmpl := ⟨(.slot YStore .nil), .nil⟩
def q162_to : Tmpl := ⟨(.slot Ty.i .nil), .nil⟩
noncomputable def spec_LastStamp_S (x : (List (List (Int × Int × Int × Int × Int × Unit)) × Unit) × Unit) : Option (Int × Unit) :=
  Option.bind (iter (fun v => spec_LastStamp_D3 (x.1.1, ()) v _ some) (0, 0, ())) fun p => sumC p (fun p => some (p.1, ())) fun p => some (p.1, ())
noncomputable def q162_Ent : Ent := ⟨227, q162_ti, q162_to, spec_LastStamp_S⟩
theorem q162_HC : CfgOK Tryz.prog q162_C := hc_of g_tisOK g_wide (all_cons q159_OK all_nil)
theorem q162_lk6 : LkOK Tryz.prog q162_C (lpc Tryz.f227 1) :=
  lk_of q162_HC (m := 0) (T := q162_T6) (sp := q162_P6) (D := spec_LastStamp_D6) (E := q162_E6) (by kernel_rfl) (by kernel_rfl) (fun k hk => absurd hk (Nat.not_lt_zero k)) [1, 3, 4] q162_M6 (fun x => rfl) spec_LastStamp_D6_nat q162_K6 (fun i p R K => rfl) (fun i v => by kernel_rfl)
theorem q162_lk3 : LkOK Tryz.prog q162_C (lpc Tryz.f227 0) :=
  lk_of q162_HC (m := 1) (T := q162_T3) (sp := q162_P3) (D := spec_LastStamp_D3) (E := q162_E3) (by kernel_rfl) (by kernel_rfl) (fun k hk => match k, hk with | 0, _ => lk_at (by kernel_rfl) q162_lk6) [3] q162_M3 (fun x => rfl) spec_LastStamp_D3_nat q162_K3 (fun i p R K => by rcases p with p | p <;> rfl) (fun i v => by kernel_rfl)
theorem q162_OK : EntOK Tryz.prog q162_Ent := ok_of q162_HC Tryz.func227 2 (by kernel_rfl) (fun k hk => match k, hk with | 0, _ => q162_lk3 | 1, _ => q162_lk6) (by kernel_rfl) (by kernel_rfl) (fun x => by kernel_rfl)
abbrev q163_I2 : Type := List (Int × Int × Int × Int × Int × Unit) × Int × Unit
abbrev q163_V2 : Type := Int × Unit
abbrev q163_Q2 : Type := Int × Unit ⊕ Unit
noncomputable def spec_FindVersion_D2 (i : q163_I2) (v : q163_V2) (R : Type) (K : q163_V2 ⊕ q163_Q2 → Option R) : Option R :=
  bif decide (v.1 < (↑(List.length i.1) : Int)) then Option.bind (lAt i.1 v.1) fun v_1 => bif v_1.2.2.1 == i.2.1 then K (Sum.inr (Sum.inl (v.1, ()))) else K (Sum.inl (IntKind.wrap IntKind.i64 (v.1 + 1), ())) else K (Sum.inr (Sum.inr ()))
theorem spec_FindVersion_D2_nat : NatD spec_FindVersion_D2 := fun i v R K => nat_bif (nat_bind fun _ => nat_bif (nat_some) (nat_some)) (nat_some)
def q163_T2 : Tmpl := ⟨(.slot (Ty.slice YVersion) (.slot Ty.i (jk 3 (.slot Ty.i (jk 14 .nil))))), .nil⟩
def q163_X2_0 (i : q163_I2) (p : Int × Unit) : St := ⟨jn 4 (.n (p.1) :: jn 15 ([])), []⟩
def q163_X2_1 (i : q163_I2) (p : Unit) : St := ⟨jn 20 ([]), []⟩
noncomputable def q163_E2 (i : q163_I2) (p : q163_Q2) (R : Type) (K : Ex → St → Option R) : Option R := sumC p (fun p => K (Ex.ret) (q163_X2_0 i p)) fun p => K (Ex.exit 0) (q163_X2_1 i p)
noncomputable def q163_K2 (i : q163_I2) (p : q163_Q2) : Ex × St := sumC p (fun p => (Ex.ret, q163_X2_0 i p)) fun p => (Ex.exit 0, q163_X2_1 i p)
def q163_M2 (i : q163_I2) (v : q163_V2) : den q163_T2.ty := (i.1, i.2.1, v.1, ())
def q163_P2 (x : den q163_T2.ty) : q163_I2 × q163_V2 := ((x.1, x.2.1, ()), (x.2.2.1, ()))
noncomputable def q163_C : Cfg := { ti := g_tis, ents := [], ann := [(2, loopFn q163_T2 0 q163_P2 spec_FindVersion_D2 q163_E2)], lent := 0 }
def q163_ti : Tmpl := ⟨(.slot (Ty.slice YVersion) (.slot Ty.i .nil)), .nil⟩
def q163_to : Tmpl := ⟨(.slot Ty.i .nil), .nil⟩
noncomputable def spec_FindVersion_S (x : List (Int × Int × Int × Int × Int × Unit) × Int × Unit) : Option (Int × Unit) :=
  Option.bind (iter (fun v => spec_FindVersion_D2 (x.1, x.2.1, ()) v _ some) (0, ())) fun p => sumC p (fun p => some (p.1, ())) fun p => some (-1, ())
noncomputable def q163_Ent : Ent := ⟨315, q163_ti, q163_to, spec_FindVersion_S⟩
theorem q163_HC : CfgOK Tryz.prog q163_C := hc_of g_tisOK g_wide all_nil
theorem q163_lk2 : LkOK Tryz.prog q163_C (lpc Tryz.f315 0) :=
  lk_of q163_HC (m := 0) (T := q163_T2) (sp := q163_P2) (D := spec_FindVersion_D2) (E := q163_E2) (by kernel_rfl) (by kernel_rfl) (fun k hk => absurd hk (Nat.not_lt_zero k)) [4] q163_M2 (fun x => rfl) spec_FindVersion_D2_nat q163_K2 (fun i p R K => by rcases p with p | p <;> rfl) (fun i v => by kernel_rfl)
theorem q163_OK : EntOK Tryz.prog q163_Ent := ok_of q163_HC Tryz.func315 1 (by kernel_rfl) (fun k hk => match k, hk with | 0, _ => q163_lk2) (by kernel_rfl) (by kernel_rfl) (fun x => by kernel_rfl)
end Go.Ab
