import Derived.Test.YthjochcbdhiclaaGreatHd
set_option maxRecDepth 100000
set_option linter.unusedVariables false
namespace Go.Ab

/-! laws.szReadMarkS -/

noncomputable def q0_C : Cfg := { ti := g_tis, ents := [], ann := [], lent := 0 }

def q0_ti : Tmpl := ⟨(.slot (Ty.slice YReadMark) (.slot Ty.i .nil)), .nil⟩

def q0_to : Tmpl := ⟨(.slot Ty.i .nil), .nil⟩

noncomputable def laws_szReadMarkS_S (x : List (Int × Int × Unit) × Int × Unit) : Option (Int × Unit) :=
  bif decide (IntKind.wrap IntKind.i64 (x.2.1 - (↑(List.length x.1) : Int)) < 0) then some (-1, ()) else some (IntKind.wrap IntKind.i64 (x.2.1 - (↑(List.length x.1) : Int)), ())

noncomputable def q0_Ent : Ent := ⟨129, q0_ti, q0_to, laws_szReadMarkS_S⟩

theorem q0_HC : CfgOK Go.Proofs.Tryz.prog q0_C := hc_of g_tisOK g_wide all_nil

theorem q0_OK : EntOK Go.Proofs.Tryz.prog q0_Ent := ok_of q0_HC Go.Proofs.Tryz.func129 0 (by kernel_rfl) (fun k hk => absurd hk (Nat.not_lt_zero k)) (by kernel_rfl) (by kernel_rfl) (fun x => by kernel_rfl)

/-! laws.szWriteS -/

noncomputable def q1_C : Cfg := { ti := g_tis, ents := [], ann := [], lent := 0 }

def q1_ti : Tmpl := ⟨(.slot (Ty.slice YReadMark) (.slot Ty.i .nil)), .nil⟩

def q1_to : Tmpl := ⟨(.slot Ty.i .nil), .nil⟩

noncomputable def laws_szWriteS_S (x : List (Int × Int × Unit) × Int × Unit) : Option (Int × Unit) :=
  bif decide (IntKind.wrap IntKind.i64 (x.2.1 - (↑(List.length x.1) : Int)) < 0) then some (-1, ()) else some (IntKind.wrap IntKind.i64 (x.2.1 - (↑(List.length x.1) : Int)), ())

noncomputable def q1_Ent : Ent := ⟨130, q1_ti, q1_to, laws_szWriteS_S⟩

theorem q1_HC : CfgOK Go.Proofs.Tryz.prog q1_C := hc_of g_tisOK g_wide all_nil

theorem q1_OK : EntOK Go.Proofs.Tryz.prog q1_Ent := ok_of q1_HC Go.Proofs.Tryz.func130 0 (by kernel_rfl) (fun k hk => absurd hk (Nat.not_lt_zero k)) (by kernel_rfl) (by kernel_rfl) (fun x => by kernel_rfl)

/-! laws.szEntry -/

noncomputable def q2_C : Cfg := { ti := g_tis, ents := [q0_Ent, q1_Ent], ann := [], lent := 0 }

def q2_ti : Tmpl := ⟨(.slot (Ty.prod Ty.i (Ty.prod Ty.i (Ty.prod (Ty.slice YReadMark) (Ty.prod (Ty.slice YReadMark)
  Ty.unit)))) (.slot Ty.i .nil)), .nil⟩

def q2_to : Tmpl := ⟨(.slot Ty.i .nil), .nil⟩

noncomputable def laws_szEntry_S (x : (Int × Int × List (Int × Int × Unit) × List (Int × Int × Unit) × Unit) × Int × Unit) : Option (Int × Unit) :=
  Option.bind (laws_szReadMarkS_S (x.1.2.2.1, x.2.1, ())) fun v => bif decide (v.1 < 0) then some (-1, ()) else Option.bind (laws_szWriteS_S (x.1.2.2.2.1, v.1, ())) fun v => bif decide (v.1 < 0) then some (-1, ()) else some (v.1, ())

noncomputable def q2_Ent : Ent := ⟨60, q2_ti, q2_to, laws_szEntry_S⟩

theorem q2_HC : CfgOK Go.Proofs.Tryz.prog q2_C := hc_of g_tisOK g_wide (all_cons q0_OK (all_cons q1_OK all_nil))

theorem q2_OK : EntOK Go.Proofs.Tryz.prog q2_Ent := ok_of q2_HC Go.Proofs.Tryz.func60 0 (by kernel_rfl) (fun k hk => absurd hk (Nat.not_lt_zero k)) (by kernel_rfl) (by kernel_rfl) (fun x => by kernel_rfl)

/-! laws.szEntryS -/

abbrev q3_I5 : Type := List (Int × Int × List (Int × Int × Unit) × List (Int × Int × Unit) × Unit) × Unit

abbrev q3_V5 : Type := Int × Int × Unit

abbrev q3_Q5 : Type := Int × Unit ⊕ Int × Unit

noncomputable def laws_szEntryS_D5 (i : q3_I5) (v : q3_V5) (R : Type) (K : q3_V5 ⊕ q3_Q5 → Option R) : Option R :=
  bif decide (v.2.1 < (↑(List.length i.1) : Int)) then Option.bind (lAt i.1 v.2.1) fun v_1 => Option.bind (laws_szEntry_S ((v_1.1, v_1.2.1, v_1.2.2.1, v_1.2.2.2.1, ()), v.1, ())) fun v_2 => bif decide (v_2.1 < 0) then K (Sum.inr (Sum.inl
  (v_2.1, ()))) else K (Sum.inl (v_2.1, IntKind.wrap IntKind.i64 (v.2.1 + 1), ())) else K (Sum.inr (Sum.inr (v.1, ())))

theorem laws_szEntryS_D5_nat : NatD laws_szEntryS_D5 := fun i v R K => nat_bif (nat_bind fun _ => nat_bind fun _ => nat_bif (nat_some) (nat_some)) (nat_some)

def q3_T5 : Tmpl := ⟨(.slot (Ty.slice (Ty.prod Ty.i (Ty.prod Ty.i (Ty.prod (Ty.slice YReadMark) (Ty.prod (Ty.slice (Ty.prod Ty.i (Ty.prod Ty.i
  Ty.unit))) Ty.unit))))) (.slot Ty.i (jk 3 (.slot Ty.i (jk 21 .nil))))), .nil⟩

def q3_X5_0 (i : q3_I5) (p : Int × Unit) : St := ⟨jn 1 (.n (p.1) :: jn 2 (.n (-1) :: jn 22 ([]))), []⟩

def q3_X5_1 (i : q3_I5) (p : Int × Unit) : St := ⟨jn 1 (.n (p.1) :: jn 25 ([])), []⟩

noncomputable def q3_E5 (i : q3_I5) (p : q3_Q5) (R : Type) (K : Ex → St → Option R) : Option R := sumC p (fun p => K (Ex.ret) (q3_X5_0 i p)) fun p => K (Ex.exit 0) (q3_X5_1 i p)

noncomputable def q3_K5 (i : q3_I5) (p : q3_Q5) : Ex × St := sumC p (fun p => (Ex.ret, q3_X5_0 i p)) fun p => (Ex.exit 0, q3_X5_1 i p)

def q3_M5 (i : q3_I5) (v : q3_V5) : den q3_T5.ty := (i.1, v.1, v.2.1, ())

def q3_P5 (x : den q3_T5.ty) : q3_I5 × q3_V5 := ((x.1, ()), (x.2.1, x.2.2.1, ()))

noncomputable def q3_C : Cfg := { ti := g_tis, ents := [q2_Ent], ann := [(5, loopFn q3_T5 0 q3_P5 laws_szEntryS_D5 q3_E5)], lent := 0 }

def q3_ti : Tmpl := ⟨(.slot (Ty.slice (Ty.prod Ty.i (Ty.prod Ty.i (Ty.prod (Ty.slice YReadMark) (Ty.prod (Ty.slice (Ty.prod Ty.i (Ty.prod Ty.i
  Ty.unit))) Ty.unit))))) (.slot Ty.i .nil)), .nil⟩

def q3_to : Tmpl := ⟨(.slot Ty.i .nil), .nil⟩

noncomputable def laws_szEntryS_S (x : List (Int × Int × List (Int × Int × Unit) × List (Int × Int × Unit) × Unit) × Int × Unit) : Option (Int × Unit) :=
  bif decide (IntKind.wrap IntKind.i64 (x.2.1 - (↑(List.length x.1) : Int)) < 0) then some (-1, ()) else Option.bind (iter (fun v => laws_szEntryS_D5 (x.1, ()) v _ some) (IntKind.wrap IntKind.i64 (x.2.1 - (↑(List.length x.1) : Int)),
  0, ())) fun p => sumC p (fun p => some (-1, ())) fun p => some (p.1, ())

noncomputable def q3_Ent : Ent := ⟨11, q3_ti, q3_to, laws_szEntryS_S⟩

theorem q3_HC : CfgOK Go.Proofs.Tryz.prog q3_C := hc_of g_tisOK g_wide (all_cons q2_OK all_nil)

theorem q3_lk5 : LkOK Go.Proofs.Tryz.prog q3_C (lpc Go.Proofs.Tryz.f11 0) :=
  lk_of q3_HC (m := 0) (T := q3_T5) (sp := q3_P5) (D := laws_szEntryS_D5) (E := q3_E5) (by kernel_rfl) (by kernel_rfl) (fun k hk => absurd hk (Nat.not_lt_zero k)) [1, 4] q3_M5 (fun x => rfl) laws_szEntryS_D5_nat q3_K5 (fun i p R K => by rcases p with p | p <;> rfl) (fun i v => by kernel_rfl)

theorem q3_OK : EntOK Go.Proofs.Tryz.prog q3_Ent := ok_of q3_HC Go.Proofs.Tryz.func11 1 (by kernel_rfl) (fun k hk => match k, hk with | 0, _ => q3_lk5) (by kernel_rfl) (by kernel_rfl) (fun x => by kernel_rfl)

/-! laws.toReadMark -/

noncomputable def q4_C : Cfg := { ti := g_tis, ents := [], ann := [], lent := 0 }

def q4_ti : Tmpl := ⟨(.slot YReadMark .nil), .nil⟩

def q4_to : Tmpl := ⟨(.agg (.slot Ty.i (.slot Ty.i .nil)) .nil), .nil⟩

noncomputable def laws_toReadMark_S (x : (Int × Int × Unit) × Unit) : Option (Int × Int × Unit) :=
  some (x.1.1, x.1.2.1, ())

noncomputable def q4_Ent : Ent := ⟨258, q4_ti, q4_to, laws_toReadMark_S⟩

theorem q4_HC : CfgOK Go.Proofs.Tryz.prog q4_C := hc_of g_tisOK g_wide all_nil

theorem q4_OK : EntOK Go.Proofs.Tryz.prog q4_Ent := ok_of q4_HC Go.Proofs.Tryz.func258 0 (by kernel_rfl) (fun k hk => absurd hk (Nat.not_lt_zero k)) (by kernel_rfl) (by kernel_rfl) (fun x => by kernel_rfl)

/-! laws.toReadMarkS -/

abbrev q5_I3 : Type := List (Int × Int × Unit) × Unit

abbrev q5_V3 : Type := Int × List (Int × Int × Unit) × Unit

abbrev q5_Q3 : Type := List (Int × Int × Unit) × Unit

noncomputable def laws_toReadMarkS_D3 (i : q5_I3) (v : q5_V3) (R : Type) (K : q5_V3 ⊕ q5_Q3 → Option R) : Option R :=
  bif decide (v.1 < (↑(List.length i.1) : Int)) then Option.bind (lAt i.1 v.1) fun v_1 => Option.bind (laws_toReadMark_S ((v_1.1, v_1.2.1, ()), ())) fun v_2 => if 0 ≤ v.1 ∧ v.1 < (↑(List.length v.2.1) : Int) then Option.bind v.2.1[0 +
  Int.toNat v.1]? fun v_3 => K (Sum.inl (IntKind.wrap IntKind.i64 (v.1 + 1), List.set v.2.1 (0 + Int.toNat v.1) (v_2.1, v_2.2.1, ()), ())) else none else K (Sum.inr (v.2.1, ()))

theorem laws_toReadMarkS_D3_nat : NatD laws_toReadMarkS_D3 := fun i v R K => nat_bif (nat_bind fun _ => nat_bind fun _ => nat_ite (nat_bind fun _ => nat_some)) (nat_some)

def q5_T3 : Tmpl := ⟨(.slot (Ty.slice YReadMark) (jk 2 (.own 0 (.slot Ty.i (jk 18 .nil))))), (.lst false YReadMark .nil)⟩

def q5_X3_0 (i : q5_I3) (p : List (Int × Int × Unit) × Unit) : St := ⟨jn 3 (AV.own 0 none none :: jn 19 ([])), [some (Cont.lst false YReadMark p.1)]⟩

noncomputable def q5_E3 (i : q5_I3) (p : q5_Q3) (R : Type) (K : Ex → St → Option R) : Option R := K (Ex.exit 0) (q5_X3_0 i p)

noncomputable def q5_K3 (i : q5_I3) (p : q5_Q3) : Ex × St := (Ex.exit 0, q5_X3_0 i p)

def q5_M3 (i : q5_I3) (v : q5_V3) : den q5_T3.ty := (i.1, v.1, v.2.1, ())

def q5_P3 (x : den q5_T3.ty) : q5_I3 × q5_V3 := ((x.1, ()), (x.2.1, x.2.2.1, ()))

noncomputable def q5_C : Cfg := { ti := g_tis, ents := [q4_Ent], ann := [(3, loopFn q5_T3 0 q5_P3 laws_toReadMarkS_D3 q5_E3)], lent := 0 }

def q5_ti : Tmpl := ⟨(.slot (Ty.slice YReadMark) .nil), .nil⟩

def q5_to : Tmpl := ⟨(.own 0 .nil), (.lst false YReadMark .nil)⟩

noncomputable def laws_toReadMarkS_S (x : List (Int × Int × Unit) × Unit) : Option (List (Int × Int × Unit) × Unit) :=
  if 0 ≤ (↑(List.length x.1) : Int) ∧ (↑(List.length x.1) : Int) ≤ (↑(List.length x.1) : Int) ∧ (↑(List.length x.1) : Int) ≤ (↑2199023255552 : Int) then Option.bind (iter (fun v => laws_toReadMarkS_D3 (x.1, ()) v _ some) (0,
  List.replicate (Int.toNat (↑(List.length x.1) : Int)) (0, 0, ()), ())) fun p => some (p.1, ()) else none

noncomputable def q5_Ent : Ent := ⟨138, q5_ti, q5_to, laws_toReadMarkS_S⟩

theorem q5_HC : CfgOK Go.Proofs.Tryz.prog q5_C := hc_of g_tisOK g_wide (all_cons q4_OK all_nil)

theorem q5_lk3 : LkOK Go.Proofs.Tryz.prog q5_C (lpc Go.Proofs.Tryz.f138 0) :=
  lk_of q5_HC (m := 0) (T := q5_T3) (sp := q5_P3) (D := laws_toReadMarkS_D3) (E := q5_E3) (by kernel_rfl) (by kernel_rfl) (fun k hk => absurd hk (Nat.not_lt_zero k)) [3] q5_M3 (fun x => rfl) laws_toReadMarkS_D3_nat q5_K3 (fun i p R K => rfl) (fun i v => by kernel_rfl)

theorem q5_OK : EntOK Go.Proofs.Tryz.prog q5_Ent := ok_of q5_HC Go.Proofs.Tryz.func138 1 (by kernel_rfl) (fun k hk => match k, hk with | 0, _ => q5_lk3) (by kernel_rfl) (by kernel_rfl) (fun x => by kernel_rfl)

/-! laws.toWrite -/

noncomputable def q6_C : Cfg := { ti := g_tis, ents := [], ann := [], lent := 0 }

def q6_ti : Tmpl := ⟨(.slot YReadMark .nil), .nil⟩

def q6_to : Tmpl := ⟨(.agg (.slot Ty.i (.slot Ty.i .nil)) .nil), .nil⟩

noncomputable def laws_toWrite_S (x : (Int × Int × Unit) × Unit) : Option (Int × Int × Unit) :=
  some (x.1.1, x.1.2.1, ())

noncomputable def q6_Ent : Ent := ⟨259, q6_ti, q6_to, laws_toWrite_S⟩

theorem q6_HC : CfgOK Go.Proofs.Tryz.prog q6_C := hc_of g_tisOK g_wide all_nil

theorem q6_OK : EntOK Go.Proofs.Tryz.prog q6_Ent := ok_of q6_HC Go.Proofs.Tryz.func259 0 (by kernel_rfl) (fun k hk => absurd hk (Nat.not_lt_zero k)) (by kernel_rfl) (by kernel_rfl) (fun x => by kernel_rfl)

/-! laws.toWriteS -/

abbrev q7_I3 : Type := List (Int × Int × Unit) × Unit

abbrev q7_V3 : Type := Int × List (Int × Int × Unit) × Unit

abbrev q7_Q3 : Type := List (Int × Int × Unit) × Unit

noncomputable def laws_toWriteS_D3 (i : q7_I3) (v : q7_V3) (R : Type) (K : q7_V3 ⊕ q7_Q3 → Option R) : Option R :=
  bif decide (v.1 < (↑(List.length i.1) : Int)) then Option.bind (lAt i.1 v.1) fun v_1 => Option.bind (laws_toWrite_S ((v_1.1, v_1.2.1, ()), ())) fun v_2 => if 0 ≤ v.1 ∧ v.1 < (↑(List.length v.2.1) : Int) then Option.bind v.2.1[0 + Int.toNat
  v.1]? fun v_3 => K (Sum.inl (IntKind.wrap IntKind.i64 (v.1 + 1), List.set v.2.1 (0 + Int.toNat v.1) (v_2.1, v_2.2.1, ()), ())) else none else K (Sum.inr (v.2.1, ()))

theorem laws_toWriteS_D3_nat : NatD laws_toWriteS_D3 := fun i v R K => nat_bif (nat_bind fun _ => nat_bind fun _ => nat_ite (nat_bind fun _ => nat_some)) (nat_some)

def q7_T3 : Tmpl := ⟨(.slot (Ty.slice YReadMark) (jk 2 (.own 0 (.slot Ty.i (jk 18 .nil))))), (.lst false YReadMark .nil)⟩

def q7_X3_0 (i : q7_I3) (p : List (Int × Int × Unit) × Unit) : St := ⟨jn 3 (AV.own 0 none none :: jn 19 ([])), [some (Cont.lst false YReadMark p.1)]⟩

noncomputable def q7_E3 (i : q7_I3) (p : q7_Q3) (R : Type) (K : Ex → St → Option R) : Option R := K (Ex.exit 0) (q7_X3_0 i p)

noncomputable def q7_K3 (i : q7_I3) (p : q7_Q3) : Ex × St := (Ex.exit 0, q7_X3_0 i p)

def q7_M3 (i : q7_I3) (v : q7_V3) : den q7_T3.ty := (i.1, v.1, v.2.1, ())

def q7_P3 (x : den q7_T3.ty) : q7_I3 × q7_V3 := ((x.1, ()), (x.2.1, x.2.2.1, ()))

noncomputable def q7_C : Cfg := { ti := g_tis, ents := [q6_Ent], ann := [(3, loopFn q7_T3 0 q7_P3 laws_toWriteS_D3 q7_E3)], lent := 0 }

def q7_ti : Tmpl := ⟨(.slot (Ty.slice YReadMark) .nil), .nil⟩

def q7_to : Tmpl := ⟨(.own 0 .nil), (.lst false YReadMark .nil)⟩

noncomputable def laws_toWriteS_S (x : List (Int × Int × Unit) × Unit) : Option (List (Int × Int × Unit) × Unit) :=
  if 0 ≤ (↑(List.length x.1) : Int) ∧ (↑(List.length x.1) : Int) ≤ (↑(List.length x.1) : Int) ∧ (↑(List.length x.1) : Int) ≤ (↑2199023255552 : Int) then Option.bind (iter (fun v => laws_toWriteS_D3 (x.1, ()) v _ some) (0,
  List.replicate (Int.toNat (↑(List.length x.1) : Int)) (0, 0, ()), ())) fun p => some (p.1, ()) else none

noncomputable def q7_Ent : Ent := ⟨139, q7_ti, q7_to, laws_toWriteS_S⟩

theorem q7_HC : CfgOK Go.Proofs.Tryz.prog q7_C := hc_of g_tisOK g_wide (all_cons q6_OK all_nil)

theorem q7_lk3 : LkOK Go.Proofs.Tryz.prog q7_C (lpc Go.Proofs.Tryz.f139 0) :=
  lk_of q7_HC (m := 0) (T := q7_T3) (sp := q7_P3) (D := laws_toWriteS_D3) (E := q7_E3) (by kernel_rfl) (by kernel_rfl) (fun k hk => absurd hk (Nat.not_lt_zero k)) [3] q7_M3 (fun x => rfl) laws_toWriteS_D3_nat q7_K3 (fun i p R K => rfl) (fun i v => by kernel_rfl)

theorem q7_OK : EntOK Go.Proofs.Tryz.prog q7_Ent := ok_of q7_HC Go.Proofs.Tryz.func139 1 (by kernel_rfl) (fun k hk => match k, hk with | 0, _ => q7_lk3) (by kernel_rfl) (by kernel_rfl) (fun x => by kernel_rfl)

/-! laws.toEntry -/

noncomputable def q8_C : Cfg := { ti := g_tis, ents := [q5_Ent, q7_Ent], ann := [], lent := 0 }

def q8_ti : Tmpl := ⟨(.slot (Ty.prod Ty.i (Ty.prod Ty.i (Ty.prod (Ty.slice YReadMark) (Ty.prod (Ty.slice YReadMark)
  Ty.unit)))) .nil), .nil⟩

def q8_to : Tmpl := ⟨(.agg (.slot Ty.i (.slot Ty.i (.own 0 (.own 1 .nil)))) .nil), (.lst false YReadMark (.lst false YReadMark .nil))⟩

noncomputable def laws_toEntry_S (x : (Int × Int × List (Int × Int × Unit) × List (Int × Int × Unit) × Unit) × Unit) : Option (Int × Int × List (Int × Int × Unit) × List (Int × Int × Unit) × Unit) :=
  Option.bind (laws_toReadMarkS_S (x.1.2.2.1, ())) fun v => Option.bind (laws_toWriteS_S (x.1.2.2.2.1, ())) fun v_1 => some (x.1.1, x.1.2.1, v.1, v_1.1, ())

noncomputable def q8_Ent : Ent := ⟨64, q8_ti, q8_to, laws_toEntry_S⟩

theorem q8_HC : CfgOK Go.Proofs.Tryz.prog q8_C := hc_of g_tisOK g_wide (all_cons q5_OK (all_cons q7_OK all_nil))

theorem q8_OK : EntOK Go.Proofs.Tryz.prog q8_Ent := ok_of q8_HC Go.Proofs.Tryz.func64 0 (by kernel_rfl) (fun k hk => absurd hk (Nat.not_lt_zero k)) (by kernel_rfl) (by kernel_rfl) (fun x => by kernel_rfl)

/-! laws.toEntryS -/

abbrev q9_I3 : Type := List (Int × Int × List (Int × Int × Unit) × List (Int × Int × Unit) × Unit) × Unit

abbrev q9_V3 : Type := Int × List (Int × Int × List (Int × Int × Unit) × List (Int × Int × Unit) × Unit) × Unit

abbrev q9_Q3 : Type := List (Int × Int × List (Int × Int × Unit) × List (Int × Int × Unit) × Unit) × Unit

noncomputable def laws_toEntryS_D3 (i : q9_I3) (v : q9_V3) (R : Type) (K : q9_V3 ⊕ q9_Q3 → Option R) : Option R :=
  bif decide (v.1 < (↑(List.length i.1) : Int)) then Option.bind (lAt i.1 v.1) fun v_1 => Option.bind (laws_toEntry_S ((v_1.1, v_1.2.1, v_1.2.2.1, v_1.2.2.2.1, ()), ())) fun v_2 => if 0 ≤ v.1 ∧ v.1 < (↑(List.length v.2.1) : Int) then
  Option.bind v.2.1[0 + Int.toNat v.1]? fun v_3 => K (Sum.inl (IntKind.wrap IntKind.i64 (v.1 + 1), List.set v.2.1 (0 + Int.toNat v.1) (v_2.1, v_2.2.1, v_2.2.2.1, v_2.2.2.2.1, ()), ())) else none else K (Sum.inr (v.2.1, ()))

theorem laws_toEntryS_D3_nat : NatD laws_toEntryS_D3 := fun i v R K => nat_bif (nat_bind fun _ => nat_bind fun _ => nat_ite (nat_bind fun _ => nat_some)) (nat_some)

def q9_T3 : Tmpl := ⟨(.slot (Ty.slice (Ty.prod Ty.i (Ty.prod Ty.i (Ty.prod (Ty.slice YReadMark) (Ty.prod (Ty.slice (Ty.prod Ty.i (Ty.prod Ty.i
  Ty.unit))) Ty.unit))))) (jk 2 (.own 0 (.slot Ty.i (jk 18 .nil))))), (.tree false 1 (Ty.prod Ty.i (Ty.prod Ty.i (Ty.prod (Ty.slice YReadMark) (Ty.prod (Ty.slice YReadMark)
  Ty.unit)))) .nil)⟩

def q9_X3_0 (i : q9_I3) (p : List (Int × Int × List (Int × Int × Unit) × List (Int × Int × Unit) × Unit) × Unit) : St := ⟨jn 3 (AV.own 0 none none :: jn 19 ([])), [some (Cont.tree false 1 (Ty.prod Ty.i (Ty.prod Ty.i (Ty.prod (Ty.slice YReadMark) (Ty.prod (Ty.slice
  YReadMark) Ty.unit)))) p.1 none)]⟩

noncomputable def q9_E3 (i : q9_I3) (p : q9_Q3) (R : Type) (K : Ex → St → Option R) : Option R := K (Ex.exit 0) (q9_X3_0 i p)

noncomputable def q9_K3 (i : q9_I3) (p : q9_Q3) : Ex × St := (Ex.exit 0, q9_X3_0 i p)

def q9_M3 (i : q9_I3) (v : q9_V3) : den q9_T3.ty := (i.1, v.1, v.2.1, ())

def q9_P3 (x : den q9_T3.ty) : q9_I3 × q9_V3 := ((x.1, ()), (x.2.1, x.2.2.1, ()))

noncomputable def q9_C : Cfg := { ti := g_tis, ents := [q8_Ent], ann := [(3, loopFn q9_T3 0 q9_P3 laws_toEntryS_D3 q9_E3)], lent := 0 }

def q9_ti : Tmpl := ⟨(.slot (Ty.slice (Ty.prod Ty.i (Ty.prod Ty.i (Ty.prod (Ty.slice YReadMark) (Ty.prod (Ty.slice (Ty.prod Ty.i (Ty.prod Ty.i
  Ty.unit))) Ty.unit))))) .nil), .nil⟩

def q9_to : Tmpl := ⟨(.own 0 .nil), (.tree false 1 (Ty.prod Ty.i (Ty.prod Ty.i (Ty.prod (Ty.slice YReadMark) (Ty.prod (Ty.slice YReadMark)
  Ty.unit)))) .nil)⟩

noncomputable def laws_toEntryS_S (x : List (Int × Int × List (Int × Int × Unit) × List (Int × Int × Unit) × Unit) × Unit) : Option (List (Int × Int × List (Int × Int × Unit) × List (Int × Int × Unit) × Unit) × Unit) :=
  if 0 ≤ (↑(List.length x.1) : Int) ∧ (↑(List.length x.1) : Int) ≤ (↑(List.length x.1) : Int) ∧ (↑(List.length x.1) : Int) ≤ (↑549755813888 : Int) then Option.bind (iter (fun v => laws_toEntryS_D3 (x.1, ()) v _ some) (0,
  List.replicate (Int.toNat (↑(List.length x.1) : Int)) (0, 0, [], [], ()), ())) fun p => some (p.1, ()) else none

noncomputable def q9_Ent : Ent := ⟨13, q9_ti, q9_to, laws_toEntryS_S⟩

theorem q9_HC : CfgOK Go.Proofs.Tryz.prog q9_C := hc_of g_tisOK g_wide (all_cons q8_OK all_nil)

theorem q9_lk3 : LkOK Go.Proofs.Tryz.prog q9_C (lpc Go.Proofs.Tryz.f13 0) :=
  lk_of q9_HC (m := 0) (T := q9_T3) (sp := q9_P3) (D := laws_toEntryS_D3) (E := q9_E3) (by kernel_rfl) (by kernel_rfl) (fun k hk => absurd hk (Nat.not_lt_zero k)) [3] q9_M3 (fun x => rfl) laws_toEntryS_D3_nat q9_K3 (fun i p R K => rfl) (fun i v => by kernel_rfl)

theorem q9_OK : EntOK Go.Proofs.Tryz.prog q9_Ent := ok_of q9_HC Go.Proofs.Tryz.func13 1 (by kernel_rfl) (fun k hk => match k, hk with | 0, _ => q9_lk3) (by kernel_rfl) (by kernel_rfl) (fun x => by kernel_rfl)

/-! spec.l18Tx -/

noncomputable def q10_C : Cfg := { ti := g_tis, ents := [], ann := [], lent := 0 }

def q10_ti : Tmpl := ⟨(.slot (Ty.prod Ty.i (Ty.prod Ty.i (Ty.prod (Ty.slice YReadMark) (Ty.prod (Ty.slice YReadMark)
  Ty.unit)))) .nil), .nil⟩

def q10_to : Tmpl := ⟨(.agg (.slot Ty.i (.slot Ty.i (.slot Ty.i (.slot Ty.i (.slot Ty.i (.slot Ty.i (.slot Ty.i (.slot (Ty.slice YReadMark) (.slot (Ty.slice YReadMark) .nil))))))))) .nil), .nil⟩

noncomputable def spec_l18Tx_S (x : (Int × Int × List (Int × Int × Unit) × List (Int × Int × Unit) × Unit) × Unit) : Option (Int × Int × Int × Int × Int × Int × Int × List (Int × Int × Unit) × List (Int × Int × Unit) × Unit) :=
  some (x.1.1, 1, 2, 0, 0, 1000, x.1.2.1, x.1.2.2.1, x.1.2.2.2.1, ())

noncomputable def q10_Ent : Ent := ⟨132, q10_ti, q10_to, spec_l18Tx_S⟩

theorem q10_HC : CfgOK Go.Proofs.Tryz.prog q10_C := hc_of g_tisOK g_wide all_nil

theorem q10_OK : EntOK Go.Proofs.Tryz.prog q10_Ent := ok_of q10_HC Go.Proofs.Tryz.func132 0 (by kernel_rfl) (fun k hk => absurd hk (Nat.not_lt_zero k)) (by kernel_rfl) (by kernel_rfl) (fun x => by kernel_rfl)

/-! spec.l1In -/

noncomputable def q11_C : Cfg := { ti := g_tis, ents := [], ann := [], lent := 0 }

def q11_ti : Tmpl := ⟨(.slot Ty.i (.slot Ty.i (.slot Ty.i .nil))), .nil⟩

def q11_to : Tmpl := ⟨(.slot (Ty.bool) .nil), .nil⟩

noncomputable def spec_l1In_S (x : Int × Int × Int × Unit) : Option (Bool × Unit) :=
  bif decide (x.1 ≥ x.2.1) then some (decide (x.1 ≤ x.2.2.1), ()) else some (false, ())

noncomputable def q11_Ent : Ent := ⟨226, q11_ti, q11_to, spec_l1In_S⟩

theorem q11_HC : CfgOK Go.Proofs.Tryz.prog q11_C := hc_of g_tisOK g_wide all_nil

theorem q11_OK : EntOK Go.Proofs.Tryz.prog q11_Ent := ok_of q11_HC Go.Proofs.Tryz.func226 0 (by kernel_rfl) (fun k hk => absurd hk (Nat.not_lt_zero k)) (by kernel_rfl) (by kernel_rfl) (fun x => by kernel_rfl)

/-! spec.l5Before -/

noncomputable def q12_C : Cfg := { ti := g_tis, ents := [], ann := [], lent := 0 }

def q12_ti : Tmpl := ⟨(.slot YReadMark (.slot YReadMark .nil)), .nil⟩

def q12_to : Tmpl := ⟨(.slot (Ty.bool) .nil), .nil⟩

noncomputable def spec_l5Before_S (x : (Int × Int × Unit) × (Int × Int × Unit) × Unit) : Option (Bool × Unit) :=
  bif decide (x.1.1 < x.2.1.1) then some (true, ()) else bif x.1.1 == x.2.1.1 then some (decide (x.1.2.1 < x.2.1.2.1), ()) else some (false, ())

noncomputable def q12_Ent : Ent := ⟨255, q12_ti, q12_to, spec_l5Before_S⟩

theorem q12_HC : CfgOK Go.Proofs.Tryz.prog q12_C := hc_of g_tisOK g_wide all_nil

theorem q12_OK : EntOK Go.Proofs.Tryz.prog q12_Ent := ok_of q12_HC Go.Proofs.Tryz.func255 0 (by kernel_rfl) (fun k hk => absurd hk (Nat.not_lt_zero k)) (by kernel_rfl) (by kernel_rfl) (fun x => by kernel_rfl)

/-! spec.IsValidTransaction -/

abbrev q13_I2 : Type := Int × Int × Int × Int × Int × Int × Int × List (Int × Int × Unit) × List (Int × Int × Unit) × Unit

abbrev q13_V2 : Type := Int × Unit

abbrev q13_Q2 : Type := Int × Int × Unit ⊕ Int × Int × Unit ⊕ Int × Int × Unit ⊕ Unit

noncomputable def spec_IsValidTransaction_D2 (i : q13_I2) (v : q13_V2) (R : Type) (K : q13_V2 ⊕ q13_Q2 → Option R) : Option R :=
  bif decide (v.1 < (↑(List.length i.2.2.2.2.2.2.2.1) : Int)) then Option.bind (lAt i.2.2.2.2.2.2.2.1 v.1) fun v_1 => Option.bind (spec_l1In_S (v_1.1, 0, 5, ())) fun v_2 => bif !v_2.1 then K (Sum.inr (Sum.inl (v_1.1, v_1.2.1, ()))) else
  Option.bind (spec_l1In_S (v_1.2.1, 0, 999, ())) fun v_3 => bif !v_3.1 then K (Sum.inr (Sum.inr (Sum.inl (v_1.1, v_1.2.1, ())))) else bif decide (v.1 > 0) then Option.bind (lAt i.2.2.2.2.2.2.2.1 (IntKind.wrap IntKind.i64 (v.1 - 1))) fun v_4
  => Option.bind (spec_l5Before_S ((v_4.1, v_4.2.1, ()), (v_1.1, v_1.2.1, ()), ())) fun v_5 => bif !v_5.1 then K (Sum.inr (Sum.inr (Sum.inr (Sum.inl (v_1.1, v_1.2.1, ()))))) else K (Sum.inl (IntKind.wrap IntKind.i64 (v.1 + 1), ())) else K
  (Sum.inl (IntKind.wrap IntKind.i64 (v.1 + 1), ())) else K (Sum.inr (Sum.inr (Sum.inr (Sum.inr ()))))

theorem spec_IsValidTransaction_D2_nat : NatD spec_IsValidTransaction_D2 := fun i v R K => nat_bif (nat_bind fun _ => nat_bind fun _ => nat_bif (nat_some) (nat_bind fun _ => nat_bif (nat_some) (nat_bif (nat_bind fun _ => nat_bind fun _ => nat_bif (nat_some) (nat_some)) (nat_some)))) (nat_some)

def q13_T2 : Tmpl := ⟨(.junk (.ptr 0 0 0 (.junk (.slot Ty.i (jk 127 .nil))))), (.cells 9 (.slot Ty.i (.slot Ty.i (.slot Ty.i (.slot Ty.i (.slot Ty.i (.slot Ty.i (.slot Ty.i (.slot (Ty.slice YReadMark) (.slot (Ty.slice YReadMark) .nil))))))))) .nil)⟩

def q13_X2_0 (i : q13_I2) (p : Int × Int × Unit) : St := ⟨jn 1 (AV.ptr 0 none 0 0 :: .b (false) :: jn 128 ([])), [some (Cont.cells 9 [[AV.pv Ty.i i.1, AV.pv Ty.i i.2.1, AV.pv Ty.i i.2.2.1, AV.pv Ty.i i.2.2.2.1, AV.pv (Ty.int
  IntKind.i64) i.2.2.2.2.1, AV.pv Ty.i i.2.2.2.2.2.1, AV.pv Ty.i i.2.2.2.2.2.2.1, AV.pv (Ty.slice YReadMark) i.2.2.2.2.2.2.2.1, AV.pv (Ty.slice
  YReadMark) i.2.2.2.2.2.2.2.2.1]]), some (Cont.cells 2 [[AV.pv Ty.i p.1, AV.pv Ty.i p.2.1]])]⟩

def q13_X2_1 (i : q13_I2) (p : Int × Int × Unit) : St := ⟨jn 1 (AV.ptr 0 none 0 0 :: .b (false) :: jn 128 ([])), [some (Cont.cells 9 [[AV.pv Ty.i i.1, AV.pv Ty.i i.2.1, AV.pv Ty.i i.2.2.1, AV.pv Ty.i i.2.2.2.1, AV.pv (Ty.int
  IntKind.i64) i.2.2.2.2.1, AV.pv Ty.i i.2.2.2.2.2.1, AV.pv Ty.i i.2.2.2.2.2.2.1, AV.pv (Ty.slice YReadMark) i.2.2.2.2.2.2.2.1, AV.pv (Ty.slice
  YReadMark) i.2.2.2.2.2.2.2.2.1]]), some (Cont.cells 2 [[AV.pv Ty.i p.1, AV.pv Ty.i p.2.1]])]⟩

def q13_X2_2 (i : q13_I2) (p : Int × Int × Unit) : St := ⟨jn 1 (AV.ptr 0 none 0 0 :: .b (false) :: jn 128 ([])), [some (Cont.cells 9 [[AV.pv Ty.i i.1, AV.pv Ty.i i.2.1, AV.pv Ty.i i.2.2.1, AV.pv Ty.i i.2.2.2.1, AV.pv (Ty.int
  IntKind.i64) i.2.2.2.2.1, AV.pv Ty.i i.2.2.2.2.2.1, AV.pv Ty.i i.2.2.2.2.2.2.1, AV.pv (Ty.slice YReadMark) i.2.2.2.2.2.2.2.1, AV.pv (Ty.slice
  YReadMark) i.2.2.2.2.2.2.2.2.1]]), some (Cont.cells 2 [[AV.pv Ty.i p.1, AV.pv Ty.i p.2.1]])]⟩

def q13_X2_3 (i : q13_I2) (p : Unit) : St := ⟨jn 1 (AV.ptr 0 none 0 0 :: jn 129 ([])), [some (Cont.cells 9 [[AV.pv Ty.i i.1, AV.pv Ty.i i.2.1, AV.pv Ty.i i.2.2.1, AV.pv Ty.i i.2.2.2.1, AV.pv Ty.i
  i.2.2.2.2.1, AV.pv Ty.i i.2.2.2.2.2.1, AV.pv Ty.i i.2.2.2.2.2.2.1, AV.pv (Ty.slice YReadMark) i.2.2.2.2.2.2.2.1, AV.pv (Ty.slice (Ty.prod (Ty.int
  IntKind.i64) (Ty.prod Ty.i Ty.unit))) i.2.2.2.2.2.2.2.2.1]])]⟩

noncomputable def q13_E2 (i : q13_I2) (p : q13_Q2) (R : Type) (K : Ex → St → Option R) : Option R := sumC p (fun p => K (Ex.ret) (q13_X2_0 i p)) fun p => sumC p (fun p => K (Ex.ret) (q13_X2_1 i p)) fun p => sumC p (fun p => K (Ex.ret) (q13_X2_2 i p)) fun p => K (Ex.exit 0) (q13_X2_3 i p)

noncomputable def q13_K2 (i : q13_I2) (p : q13_Q2) : Ex × St := sumC p (fun p => (Ex.ret, q13_X2_0 i p)) fun p => sumC p (fun p => (Ex.ret, q13_X2_1 i p)) fun p => sumC p (fun p => (Ex.ret, q13_X2_2 i p)) fun p => (Ex.exit 0, q13_X2_3 i p)

def q13_M2 (i : q13_I2) (v : q13_V2) : den q13_T2.ty := (v.1, i.1, i.2.1, i.2.2.1, i.2.2.2.1, i.2.2.2.2.1, i.2.2.2.2.2.1, i.2.2.2.2.2.2.1, i.2.2.2.2.2.2.2.1, i.2.2.2.2.2.2.2.2.1, ())

def q13_P2 (x : den q13_T2.ty) : q13_I2 × q13_V2 := ((x.2.1, x.2.2.1, x.2.2.2.1, x.2.2.2.2.1, x.2.2.2.2.2.1, x.2.2.2.2.2.2.1, x.2.2.2.2.2.2.2.1, x.2.2.2.2.2.2.2.2.1, x.2.2.2.2.2.2.2.2.2.1, ()), (x.1, ()))

abbrev q13_I8 : Type := Int × Int × Int × Int × Int × Int × Int × List (Int × Int × Unit) × List (Int × Int × Unit) × Unit

abbrev q13_V8 : Type := Int × Unit

abbrev q13_Q8 : Type := Int × Int × Unit ⊕ Int × Int × Unit ⊕ Int × Int × Unit ⊕ Unit

noncomputable def spec_IsValidTransaction_D8 (i : q13_I8) (v : q13_V8) (R : Type) (K : q13_V8 ⊕ q13_Q8 → Option R) : Option R :=
  bif decide (v.1 < (↑(List.length i.2.2.2.2.2.2.2.2.1) : Int)) then Option.bind (lAt i.2.2.2.2.2.2.2.2.1 v.1) fun v_1 => Option.bind (spec_l1In_S (v_1.1, 0, 5, ())) fun v_2 => bif !v_2.1 then K (Sum.inr (Sum.inl (v_1.1, v_1.2.1, ()))) else
  Option.bind (spec_l1In_S (v_1.2.1, -1, 99, ())) fun v_3 => bif !v_3.1 then K (Sum.inr (Sum.inr (Sum.inl (v_1.1, v_1.2.1, ())))) else bif decide (v.1 > 0) then Option.bind (lAt i.2.2.2.2.2.2.2.2.1 (IntKind.wrap IntKind.i64 (v.1 - 1))) fun v_4
  => bif decide (v_4.1 ≥ v_1.1) then K (Sum.inr (Sum.inr (Sum.inr (Sum.inl (v_1.1, v_1.2.1, ()))))) else K (Sum.inl (IntKind.wrap IntKind.i64 (v.1 + 1), ())) else K (Sum.inl (IntKind.wrap IntKind.i64 (v.1 + 1), ())) else K (Sum.inr (Sum.inr
  (Sum.inr (Sum.inr ()))))

theorem spec_IsValidTransaction_D8_nat : NatD spec_IsValidTransaction_D8 := fun i v R K => nat_bif (nat_bind fun _ => nat_bind fun _ => nat_bif (nat_some) (nat_bind fun _ => nat_bif (nat_some) (nat_bif (nat_bind fun _ => nat_bif (nat_some) (nat_some)) (nat_some)))) (nat_some)

def q13_T8 : Tmpl := ⟨(.junk (.ptr 0 0 0 (jk 3 (.slot Ty.i (jk 125 .nil))))), (.cells 9 (.slot Ty.i (.slot Ty.i (.slot Ty.i (.slot Ty.i (.slot Ty.i (.slot Ty.i (.slot Ty.i (.slot (Ty.slice YReadMark) (.slot (Ty.slice YReadMark) .nil))))))))) .nil)⟩

def q13_X8_0 (i : q13_I8) (p : Int × Int × Unit) : St := ⟨jn 1 (AV.ptr 0 none 0 0 :: .b (false) :: jn 128 ([])), [some (Cont.cells 9 [[AV.pv Ty.i i.1, AV.pv Ty.i i.2.1, AV.pv Ty.i i.2.2.1, AV.pv Ty.i i.2.2.2.1, AV.pv (Ty.int
  IntKind.i64) i.2.2.2.2.1, AV.pv Ty.i i.2.2.2.2.2.1, AV.pv Ty.i i.2.2.2.2.2.2.1, AV.pv (Ty.slice YReadMark) i.2.2.2.2.2.2.2.1, AV.pv (Ty.slice
  YReadMark) i.2.2.2.2.2.2.2.2.1]]), some (Cont.cells 2 [[AV.pv Ty.i p.1, AV.pv Ty.i p.2.1]])]⟩

def q13_X8_1 (i : q13_I8) (p : Int × Int × Unit) : St := ⟨jn 1 (AV.ptr 0 none 0 0 :: .b (false) :: jn 128 ([])), [some (Cont.cells 9 [[AV.pv Ty.i i.1, AV.pv Ty.i i.2.1, AV.pv Ty.i i.2.2.1, AV.pv Ty.i i.2.2.2.1, AV.pv (Ty.int
  IntKind.i64) i.2.2.2.2.1, AV.pv Ty.i i.2.2.2.2.2.1, AV.pv Ty.i i.2.2.2.2.2.2.1, AV.pv (Ty.slice YReadMark) i.2.2.2.2.2.2.2.1, AV.pv (Ty.slice
  YReadMark) i.2.2.2.2.2.2.2.2.1]]), some (Cont.cells 2 [[AV.pv Ty.i p.1, AV.pv Ty.i p.2.1]])]⟩

def q13_X8_2 (i : q13_I8) (p : Int × Int × Unit) : St := ⟨jn 1 (AV.ptr 0 none 0 0 :: .b (false) :: jn 128 ([])), [some (Cont.cells 9 [[AV.pv Ty.i i.1, AV.pv Ty.i i.2.1, AV.pv Ty.i i.2.2.1, AV.pv Ty.i i.2.2.2.1, AV.pv (Ty.int
  IntKind.i64) i.2.2.2.2.1, AV.pv Ty.i i.2.2.2.2.2.1, AV.pv Ty.i i.2.2.2.2.2.2.1, AV.pv (Ty.slice YReadMark) i.2.2.2.2.2.2.2.1, AV.pv (Ty.slice
  YReadMark) i.2.2.2.2.2.2.2.2.1]]), some (Cont.cells 2 [[AV.pv Ty.i p.1, AV.pv Ty.i p.2.1]])]⟩

def q13_X8_3 (i : q13_I8) (p : Unit) : St := ⟨jn 1 (AV.ptr 0 none 0 0 :: jn 129 ([])), [some (Cont.cells 9 [[AV.pv Ty.i i.1, AV.pv Ty.i i.2.1, AV.pv Ty.i i.2.2.1, AV.pv Ty.i i.2.2.2.1, AV.pv Ty.i
  i.2.2.2.2.1, AV.pv Ty.i i.2.2.2.2.2.1, AV.pv Ty.i i.2.2.2.2.2.2.1, AV.pv (Ty.slice YReadMark) i.2.2.2.2.2.2.2.1, AV.pv (Ty.slice (Ty.prod (Ty.int
  IntKind.i64) (Ty.prod Ty.i Ty.unit))) i.2.2.2.2.2.2.2.2.1]])]⟩

noncomputable def q13_E8 (i : q13_I8) (p : q13_Q8) (R : Type) (K : Ex → St → Option R) : Option R := sumC p (fun p => K (Ex.ret) (q13_X8_0 i p)) fun p => sumC p (fun p => K (Ex.ret) (q13_X8_1 i p)) fun p => sumC p (fun p => K (Ex.ret) (q13_X8_2 i p)) fun p => K (Ex.exit 2) (q13_X8_3 i p)

noncomputable def q13_K8 (i : q13_I8) (p : q13_Q8) : Ex × St := sumC p (fun p => (Ex.ret, q13_X8_0 i p)) fun p => sumC p (fun p => (Ex.ret, q13_X8_1 i p)) fun p => sumC p (fun p => (Ex.ret, q13_X8_2 i p)) fun p => (Ex.exit 2, q13_X8_3 i p)

def q13_M8 (i : q13_I8) (v : q13_V8) : den q13_T8.ty := (v.1, i.1, i.2.1, i.2.2.1, i.2.2.2.1, i.2.2.2.2.1, i.2.2.2.2.2.1, i.2.2.2.2.2.2.1, i.2.2.2.2.2.2.2.1, i.2.2.2.2.2.2.2.2.1, ())

def q13_P8 (x : den q13_T8.ty) : q13_I8 × q13_V8 := ((x.2.1, x.2.2.1, x.2.2.2.1, x.2.2.2.2.1, x.2.2.2.2.2.1, x.2.2.2.2.2.2.1, x.2.2.2.2.2.2.2.1, x.2.2.2.2.2.2.2.2.1, x.2.2.2.2.2.2.2.2.2.1, ()), (x.1, ()))

noncomputable def q13_C : Cfg := { ti := g_tis, ents := [q11_Ent, q12_Ent], ann := [(2, loopFn q13_T2 0 q13_P2 spec_IsValidTransaction_D2 q13_E2), (8, loopFn q13_T8 0 q13_P8 spec_IsValidTransaction_D8 q13_E8)], lent := 0 }

def q13_ti : Tmpl := ⟨(.slot (Ty.prod Ty.i (Ty.prod Ty.i (Ty.prod Ty.i (Ty.prod Ty.i (Ty.prod Ty.i (Ty.prod Ty.i (Ty.prod Ty.i (Ty.prod (Ty.slice (Ty.prod
  Ty.i (Ty.prod Ty.i Ty.unit))) (Ty.prod (Ty.slice YReadMark) Ty.unit))))))))) .nil), .nil⟩

def q13_to : Tmpl := ⟨(.slot (Ty.bool) .nil), .nil⟩

noncomputable def spec_IsValidTransaction_S (x : (Int × Int × Int × Int × Int × Int × Int × List (Int × Int × Unit) × List (Int × Int × Unit) × Unit) × Unit) : Option (Bool × Unit) :=
  Option.bind (iter (fun v => spec_IsValidTransaction_D2 (x.1.1, x.1.2.1, x.1.2.2.1, x.1.2.2.2.1, x.1.2.2.2.2.1, x.1.2.2.2.2.2.1, x.1.2.2.2.2.2.2.1, x.1.2.2.2.2.2.2.2.1, x.1.2.2.2.2.2.2.2.2.1, ()) v _ some) (0, ())) fun p => sumC p
  (fun p => some (false, ())) fun p => sumC p (fun p => some (false, ())) fun p => sumC p (fun p => some (false, ())) fun p => Option.bind (iter (fun v => spec_IsValidTransaction_D8 (x.1.1, x.1.2.1, x.1.2.2.1, x.1.2.2.2.1, x.1.2.2.2.2.1,
  x.1.2.2.2.2.2.1, x.1.2.2.2.2.2.2.1, x.1.2.2.2.2.2.2.2.1, x.1.2.2.2.2.2.2.2.2.1, ()) v _ some) (0, ())) fun p => sumC p (fun p => some (false, ())) fun p => sumC p (fun p => some (false, ())) fun p => sumC p (fun p => some (false,
  ())) fun p => Option.bind (spec_l1In_S (x.1.1, 1, 9, ())) fun v => bif !v.1 then some (false, ()) else Option.bind (spec_l1In_S (x.1.2.1, 1, 4, ())) fun v => bif !v.1 then some (false, ()) else Option.bind (spec_l1In_S (x.1.2.2.2.1, 0, 999,
  ())) fun v => bif !v.1 then some (false, ()) else Option.bind (spec_l1In_S (x.1.2.2.1, 1, 3, ())) fun v => bif v.1 then Option.bind (spec_l1In_S (x.1.2.2.2.2.1, 0, 999, ())) fun v => bif v.1 then Option.bind (spec_l1In_S (x.1.2.2.2.2.2.1, 1,
  1000, ())) fun v => bif v.1 then bif (x.1.2.2.1 == 2) == decide (x.1.2.2.2.2.2.2.1 > 0) then Option.bind (spec_l1In_S (x.1.2.2.2.2.2.2.1, 0, 999, ())) fun v => bif v.1 then some (decide ((↑(List.length x.1.2.2.2.2.2.2.2.1) : Int) ≤ 60), ())
  else some (false, ()) else some (false, ()) else some (false, ()) else some (false, ()) else some (false, ())

noncomputable def q13_Ent : Ent := ⟨131, q13_ti, q13_to, spec_IsValidTransaction_S⟩

theorem q13_HC : CfgOK Go.Proofs.Tryz.prog q13_C := hc_of g_tisOK g_wide (all_cons q11_OK (all_cons q12_OK all_nil))

theorem q13_lk8 : LkOK Go.Proofs.Tryz.prog q13_C (lpc Go.Proofs.Tryz.f131 1) :=
  lk_of q13_HC (m := 0) (T := q13_T8) (sp := q13_P8) (D := spec_IsValidTransaction_D8) (E := q13_E8) (by kernel_rfl) (by kernel_rfl) (fun k hk => absurd hk (Nat.not_lt_zero k)) [1, 2] q13_M8 (fun x => rfl) spec_IsValidTransaction_D8_nat q13_K8 (fun i p R K => by rcases p with p | p | p | p <;> rfl) (fun i v => by kernel_rfl)

theorem q13_lk2 : LkOK Go.Proofs.Tryz.prog q13_C (lpc Go.Proofs.Tryz.f131 0) :=
  lk_of q13_HC (m := 0) (T := q13_T2) (sp := q13_P2) (D := spec_IsValidTransaction_D2) (E := q13_E2) (by kernel_rfl) (by kernel_rfl) (fun k hk => absurd hk (Nat.not_lt_zero k)) [1, 2] q13_M2 (fun x => rfl) spec_IsValidTransaction_D2_nat q13_K2 (fun i p R K => by rcases p with p | p | p | p <;> rfl) (fun i v => by kernel_rfl)

theorem q13_OK : EntOK Go.Proofs.Tryz.prog q13_Ent := ok_of q13_HC Go.Proofs.Tryz.func131 2 (by kernel_rfl) (fun k hk => match k, hk with | 0, _ => q13_lk2 | 1, _ => q13_lk8) (by kernel_rfl) (by kernel_rfl) (fun x => by kernel_rfl)

/-! spec.FindEntry -/

abbrev q14_I2 : Type := List (Int × Int × List (Int × Int × Unit) × List (Int × Int × Unit) × Unit) × Int × Unit

abbrev q14_V2 : Type := Int × Unit

abbrev q14_Q2 : Type := Int × Unit ⊕ Unit

noncomputable def spec_FindEntry_D2 (i : q14_I2) (v : q14_V2) (R : Type) (K : q14_V2 ⊕ q14_Q2 → Option R) : Option R :=
  bif decide (v.1 < (↑(List.length i.1) : Int)) then Option.bind (lAt i.1 v.1) fun v_1 => bif v_1.1 == i.2.1 then K (Sum.inr (Sum.inl (v.1, ()))) else K (Sum.inl (IntKind.wrap IntKind.i64 (v.1 + 1), ())) else K (Sum.inr (Sum.inr ()))

theorem spec_FindEntry_D2_nat : NatD spec_FindEntry_D2 := fun i v R K => nat_bif (nat_bind fun _ => nat_bif (nat_some) (nat_some)) (nat_some)

def q14_T2 : Tmpl := ⟨(.slot (Ty.slice (Ty.prod Ty.i (Ty.prod Ty.i (Ty.prod (Ty.slice YReadMark) (Ty.prod (Ty.slice (Ty.prod Ty.i (Ty.prod Ty.i
  Ty.unit))) Ty.unit))))) (.slot Ty.i (jk 3 (.slot Ty.i (jk 14 .nil))))), .nil⟩

def q14_X2_0 (i : q14_I2) (p : Int × Unit) : St := ⟨jn 4 (.n (p.1) :: jn 15 ([])), []⟩

def q14_X2_1 (i : q14_I2) (p : Unit) : St := ⟨jn 20 ([]), []⟩

noncomputable def q14_E2 (i : q14_I2) (p : q14_Q2) (R : Type) (K : Ex → St → Option R) : Option R := sumC p (fun p => K (Ex.ret) (q14_X2_0 i p)) fun p => K (Ex.exit 0) (q14_X2_1 i p)

noncomputable def q14_K2 (i : q14_I2) (p : q14_Q2) : Ex × St := sumC p (fun p => (Ex.ret, q14_X2_0 i p)) fun p => (Ex.exit 0, q14_X2_1 i p)

def q14_M2 (i : q14_I2) (v : q14_V2) : den q14_T2.ty := (i.1, i.2.1, v.1, ())

def q14_P2 (x : den q14_T2.ty) : q14_I2 × q14_V2 := ((x.1, x.2.1, ()), (x.2.2.1, ()))

noncomputable def q14_C : Cfg := { ti := g_tis, ents := [], ann := [(2, loopFn q14_T2 0 q14_P2 spec_FindEntry_D2 q14_E2)], lent := 0 }

def q14_ti : Tmpl := ⟨(.slot (Ty.slice (Ty.prod Ty.i (Ty.prod Ty.i (Ty.prod (Ty.slice YReadMark) (Ty.prod (Ty.slice (Ty.prod Ty.i (Ty.prod Ty.i
  Ty.unit))) Ty.unit))))) (.slot Ty.i .nil)), .nil⟩

def q14_to : Tmpl := ⟨(.slot Ty.i .nil), .nil⟩

noncomputable def spec_FindEntry_S (x : List (Int × Int × List (Int × Int × Unit) × List (Int × Int × Unit) × Unit) × Int × Unit) : Option (Int × Unit) :=
  Option.bind (iter (fun v => spec_FindEntry_D2 (x.1, x.2.1, ()) v _ some) (0, ())) fun p => sumC p (fun p => some (p.1, ())) fun p => some (-1, ())

noncomputable def q14_Ent : Ent := ⟨133, q14_ti, q14_to, spec_FindEntry_S⟩

theorem q14_HC : CfgOK Go.Proofs.Tryz.prog q14_C := hc_of g_tisOK g_wide all_nil

theorem q14_lk2 : LkOK Go.Proofs.Tryz.prog q14_C (lpc Go.Proofs.Tryz.f133 0) :=
  lk_of q14_HC (m := 0) (T := q14_T2) (sp := q14_P2) (D := spec_FindEntry_D2) (E := q14_E2) (by kernel_rfl) (by kernel_rfl) (fun k hk => absurd hk (Nat.not_lt_zero k)) [4] q14_M2 (fun x => rfl) spec_FindEntry_D2_nat q14_K2 (fun i p R K => by rcases p with p | p <;> rfl) (fun i v => by kernel_rfl)

theorem q14_OK : EntOK Go.Proofs.Tryz.prog q14_Ent := ok_of q14_HC Go.Proofs.Tryz.func133 1 (by kernel_rfl) (fun k hk => match k, hk with | 0, _ => q14_lk2) (by kernel_rfl) (by kernel_rfl) (fun x => by kernel_rfl)

/-! spec.WriterOf -/

abbrev q15_I5 : Type := List (Int × Int × List (Int × Int × Unit) × List (Int × Int × Unit) × Unit) × Int × Int × Int × Unit

abbrev q15_V5 : Type := Int × Unit

abbrev q15_Q5 : Type := Int × Unit ⊕ Unit

noncomputable def spec_WriterOf_D5 (i : q15_I5) (v : q15_V5) (R : Type) (K : q15_V5 ⊕ q15_Q5 → Option R) : Option R :=
  Option.bind (lAt i.1 i.2.1) fun v_1 => bif decide (v.1 < (↑(List.length v_1.2.2.2.1) : Int)) then Option.bind (lAt i.1 i.2.1) fun v_2 => bif v_2.2.1 == i.2.2.2.1 then Option.bind (lAt i.1 i.2.1) fun v_3 => Option.bind (lAt v_3.2.2.2.1 v.1)
  fun v_4 => bif v_4.1 == i.2.2.1 then Option.bind (lAt i.1 i.2.1) fun v => K (Sum.inr (Sum.inl (v.1, ()))) else K (Sum.inl (IntKind.wrap IntKind.i64 (v.1 + 1), ())) else K (Sum.inl (IntKind.wrap IntKind.i64 (v.1 + 1), ())) else K (Sum.inr
  (Sum.inr ()))

theorem spec_WriterOf_D5_nat : NatD spec_WriterOf_D5 := fun i v R K => nat_bind fun _ => nat_bif (nat_bind fun _ => nat_bif (nat_bind fun _ => nat_bind fun _ => nat_bif (nat_bind fun _ => nat_some) (nat_some)) (nat_some)) (nat_some)

def q15_T5 : Tmpl := ⟨(.slot (Ty.slice (Ty.prod Ty.i (Ty.prod Ty.i (Ty.prod (Ty.slice YReadMark) (Ty.prod (Ty.slice (Ty.prod Ty.i (Ty.prod Ty.i
  Ty.unit))) Ty.unit))))) (jk 2 (.ptr 0 0 0 (.junk (.slot Ty.i (.slot Ty.i (jk 43 .nil))))))), (.cells 2 (.slot Ty.i (.slot Ty.i .nil)) .nil)⟩

def q15_X5_0 (i : q15_I5) (p : Int × Unit) : St := ⟨AV.pv (Ty.slice (Ty.prod Ty.i (Ty.prod Ty.i (Ty.prod (Ty.slice YReadMark) (Ty.prod (Ty.slice (Ty.prod Ty.i (Ty.prod (Ty.int
  IntKind.i64) Ty.unit))) Ty.unit))))) i.1 :: jn 2 (AV.ptr 0 none 0 0 :: .n (p.1) :: .n (i.2.1) :: jn 44 ([])), [some (Cont.cells 2 [[AV.pv Ty.i i.2.2.1, AV.pv Ty.i i.2.2.2.1]])]⟩

def q15_X5_1 (i : q15_I5) (p : Unit) : St := ⟨AV.pv (Ty.slice (Ty.prod Ty.i (Ty.prod Ty.i (Ty.prod (Ty.slice YReadMark) (Ty.prod (Ty.slice (Ty.prod Ty.i (Ty.prod (Ty.int
  IntKind.i64) Ty.unit))) Ty.unit))))) i.1 :: jn 2 (AV.ptr 0 none 0 0 :: jn 1 (.n (i.2.1) :: jn 44 ([]))), [some (Cont.cells 2 [[AV.pv Ty.i i.2.2.1, AV.pv Ty.i i.2.2.2.1]])]⟩

noncomputable def q15_E5 (i : q15_I5) (p : q15_Q5) (R : Type) (K : Ex → St → Option R) : Option R := sumC p (fun p => K (Ex.ret) (q15_X5_0 i p)) fun p => K (Ex.exit 2) (q15_X5_1 i p)

noncomputable def q15_K5 (i : q15_I5) (p : q15_Q5) : Ex × St := sumC p (fun p => (Ex.ret, q15_X5_0 i p)) fun p => (Ex.exit 2, q15_X5_1 i p)

def q15_M5 (i : q15_I5) (v : q15_V5) : den q15_T5.ty := (i.1, i.2.1, v.1, i.2.2.1, i.2.2.2.1, ())

def q15_P5 (x : den q15_T5.ty) : q15_I5 × q15_V5 := ((x.1, x.2.1, x.2.2.2.1, x.2.2.2.2.1, ()), (x.2.2.1, ()))

abbrev q15_I2 : Type := List (Int × Int × List (Int × Int × Unit) × List (Int × Int × Unit) × Unit) × Int × Int × Unit

abbrev q15_V2 : Type := Int × Unit

abbrev q15_Q2 : Type := Int × Unit ⊕ Unit

noncomputable def spec_WriterOf_D2 (i : q15_I2) (v : q15_V2) (R : Type) (K : q15_V2 ⊕ q15_Q2 → Option R) : Option R :=
  bif decide (v.1 < (↑(List.length i.1) : Int)) then Option.bind (iter (fun v_1 => spec_WriterOf_D5 (i.1, v.1, i.2.1, i.2.2.1, ()) v_1 _ some) (0, ())) fun p => sumC p (fun p => K (Sum.inr (Sum.inl (p.1, ())))) fun p => K (Sum.inl
  (IntKind.wrap IntKind.i64 (v.1 + 1), ())) else K (Sum.inr (Sum.inr ()))

theorem spec_WriterOf_D2_nat : NatD spec_WriterOf_D2 := fun i v R K => nat_bif (nat_bind fun _ => nat_sum (fun _ => nat_some) (fun _ => nat_some)) (nat_some)

def q15_T2 : Tmpl := ⟨(.slot (Ty.slice (Ty.prod Ty.i (Ty.prod Ty.i (Ty.prod (Ty.slice YReadMark) (Ty.prod (Ty.slice (Ty.prod Ty.i (Ty.prod Ty.i
  Ty.unit))) Ty.unit))))) (jk 2 (.ptr 0 0 0 (.junk (.slot Ty.i (jk 44 .nil)))))), (.cells 2 (.slot Ty.i (.slot Ty.i .nil)) .nil)⟩

def q15_X2_0 (i : q15_I2) (p : Int × Unit) : St := ⟨jn 4 (.n (p.1) :: jn 45 ([])), [some (Cont.cells 2 [[AV.pv Ty.i i.2.1, AV.pv Ty.i i.2.2.1]])]⟩

def q15_X2_1 (i : q15_I2) (p : Unit) : St := ⟨jn 50 ([]), [some (Cont.cells 2 [[AV.pv Ty.i i.2.1, AV.pv Ty.i i.2.2.1]])]⟩

noncomputable def q15_E2 (i : q15_I2) (p : q15_Q2) (R : Type) (K : Ex → St → Option R) : Option R := sumC p (fun p => K (Ex.ret) (q15_X2_0 i p)) fun p => K (Ex.exit 0) (q15_X2_1 i p)

noncomputable def q15_K2 (i : q15_I2) (p : q15_Q2) : Ex × St := sumC p (fun p => (Ex.ret, q15_X2_0 i p)) fun p => (Ex.exit 0, q15_X2_1 i p)

def q15_M2 (i : q15_I2) (v : q15_V2) : den q15_T2.ty := (i.1, v.1, i.2.1, i.2.2.1, ())

def q15_P2 (x : den q15_T2.ty) : q15_I2 × q15_V2 := ((x.1, x.2.2.1, x.2.2.2.1, ()), (x.2.1, ()))

noncomputable def q15_C : Cfg := { ti := g_tis, ents := [], ann := [(5, loopFn q15_T5 0 q15_P5 spec_WriterOf_D5 q15_E5), (2, loopFn q15_T2 0 q15_P2 spec_WriterOf_D2 q15_E2)], lent := 0 }

def q15_ti : Tmpl := ⟨(.slot (Ty.slice (Ty.prod Ty.i (Ty.prod Ty.i (Ty.prod (Ty.slice YReadMark) (Ty.prod (Ty.slice (Ty.prod Ty.i (Ty.prod Ty.i
  Ty.unit))) Ty.unit))))) (.slot YReadMark .nil)), .nil⟩

def q15_to : Tmpl := ⟨(.slot Ty.i .nil), .nil⟩

noncomputable def spec_WriterOf_S (x : List (Int × Int × List (Int × Int × Unit) × List (Int × Int × Unit) × Unit) × (Int × Int × Unit) × Unit) : Option (Int × Unit) :=
  Option.bind (iter (fun v => spec_WriterOf_D2 (x.1, x.2.1.1, x.2.1.2.1, ()) v _ some) (0, ())) fun p => sumC p (fun p => some (p.1, ())) fun p => some (0, ())

noncomputable def q15_Ent : Ent := ⟨134, q15_ti, q15_to, spec_WriterOf_S⟩

theorem q15_HC : CfgOK Go.Proofs.Tryz.prog q15_C := hc_of g_tisOK g_wide all_nil

theorem q15_lk5 : LkOK Go.Proofs.Tryz.prog q15_C (lpc Go.Proofs.Tryz.f134 1) :=
  lk_of q15_HC (m := 0) (T := q15_T5) (sp := q15_P5) (D := spec_WriterOf_D5) (E := q15_E5) (by kernel_rfl) (by kernel_rfl) (fun k hk => absurd hk (Nat.not_lt_zero k)) [0, 3, 4, 5] q15_M5 (fun x => rfl) spec_WriterOf_D5_nat q15_K5 (fun i p R K => by rcases p with p | p <;> rfl) (fun i v => by kernel_rfl)

theorem q15_lk2 : LkOK Go.Proofs.Tryz.prog q15_C (lpc Go.Proofs.Tryz.f134 0) :=
  lk_of q15_HC (m := 1) (T := q15_T2) (sp := q15_P2) (D := spec_WriterOf_D2) (E := q15_E2) (by kernel_rfl) (by kernel_rfl) (fun k hk => match k, hk with | 0, _ => lk_at (by kernel_rfl) q15_lk5) [4] q15_M2 (fun x => rfl) spec_WriterOf_D2_nat q15_K2 (fun i p R K => by rcases p with p | p <;> rfl) (fun i v => by kernel_rfl)

theorem q15_OK : EntOK Go.Proofs.Tryz.prog q15_Ent := ok_of q15_HC Go.Proofs.Tryz.func134 2 (by kernel_rfl) (fun k hk => match k, hk with | 0, _ => q15_lk2 | 1, _ => q15_lk5) (by kernel_rfl) (by kernel_rfl) (fun x => by kernel_rfl)

/-! spec.IsHistory -/

abbrev q16_I2 : Type := List (Int × Int × List (Int × Int × Unit) × List (Int × Int × Unit) × Unit) × Unit

abbrev q16_V2 : Type := Int × Unit

abbrev q16_Q2 : Type := Unit ⊕ Unit ⊕ Unit ⊕ Unit ⊕ Unit

noncomputable def spec_IsHistory_D2 (i : q16_I2) (v : q16_V2) (R : Type) (K : q16_V2 ⊕ q16_Q2 → Option R) : Option R :=
  bif decide (v.1 < (↑(List.length i.1) : Int)) then Option.bind (lAt i.1 v.1) fun v_1 => Option.bind (spec_l18Tx_S ((v_1.1, v_1.2.1, v_1.2.2.1, v_1.2.2.2.1, ()), ())) fun v_2 => Option.bind (spec_IsValidTransaction_S ((v_2.1, v_2.2.1,
  v_2.2.2.1, v_2.2.2.2.1, v_2.2.2.2.2.1, v_2.2.2.2.2.2.1, v_2.2.2.2.2.2.2.1, v_2.2.2.2.2.2.2.2.1, v_2.2.2.2.2.2.2.2.2.1, ()), ())) fun v_3 => bif !v_3.1 then K (Sum.inr (Sum.inl ())) else Option.bind (slAt i.1 0 v.1) fun v_4 => Option.bind
  (lAt i.1 v.1) fun v_5 => Option.bind (spec_FindEntry_S (v_4, v_5.1, ())) fun v_6 => bif decide (v_6.1 ≥ 0) then K (Sum.inr (Sum.inr (Sum.inl ()))) else bif decide (v.1 > 0) then Option.bind (lAt i.1 (IntKind.wrap IntKind.i64 (v.1 - 1))) fun
  v_7 => Option.bind (lAt i.1 v.1) fun v_8 => bif decide (v_7.2.1 > v_8.2.1) then K (Sum.inr (Sum.inr (Sum.inr (Sum.inl ())))) else Option.bind (lAt i.1 (IntKind.wrap IntKind.i64 (v.1 - 1))) fun v_9 => Option.bind (lAt i.1 v.1) fun v_10 => bif
  v_9.2.1 == v_10.2.1 then Option.bind (lAt i.1 v.1) fun v_11 => bif decide ((↑(List.length v_11.2.2.2.1) : Int) > 0) then K (Sum.inr (Sum.inr (Sum.inr (Sum.inr (Sum.inl ()))))) else K (Sum.inl (IntKind.wrap IntKind.i64 (v.1 + 1), ())) else K
  (Sum.inl (IntKind.wrap IntKind.i64 (v.1 + 1), ())) else K (Sum.inl (IntKind.wrap IntKind.i64 (v.1 + 1), ())) else K (Sum.inr (Sum.inr (Sum.inr (Sum.inr (Sum.inr ())))))

theorem spec_IsHistory_D2_nat : NatD spec_IsHistory_D2 := fun i v R K => nat_bif (nat_bind fun _ => nat_bind fun _ => nat_bind fun _ => nat_bif (nat_some) (nat_bind fun _ => nat_bind fun _ => nat_bind fun _ => nat_bif (nat_some) (nat_bif (nat_bind fun _ => nat_bind fun _ => nat_bif (nat_some) (nat_bind fun _ => nat_bind fun _ => nat_bif (nat_bind fun _ => nat_bif (nat_some) (nat_some)) (nat_some))) (nat_some)))) (nat_some)

def q16_T2 : Tmpl := ⟨(.slot (Ty.slice (Ty.prod Ty.i (Ty.prod Ty.i (Ty.prod (Ty.slice YReadMark) (Ty.prod (Ty.slice (Ty.prod Ty.i (Ty.prod Ty.i
  Ty.unit))) Ty.unit))))) (jk 2 (.slot Ty.i (jk 119 .nil)))), .nil⟩

def q16_X2_0 (i : q16_I2) (p : Unit) : St := ⟨AV.pv (Ty.slice (Ty.prod Ty.i (Ty.prod Ty.i (Ty.prod (Ty.slice YReadMark) (Ty.prod (Ty.slice (Ty.prod Ty.i (Ty.prod (Ty.int
  IntKind.i64) Ty.unit))) Ty.unit))))) i.1 :: jn 1 (.b (false) :: jn 120 ([])), []⟩

def q16_X2_1 (i : q16_I2) (p : Unit) : St := ⟨AV.pv (Ty.slice (Ty.prod Ty.i (Ty.prod Ty.i (Ty.prod (Ty.slice YReadMark) (Ty.prod (Ty.slice (Ty.prod Ty.i (Ty.prod (Ty.int
  IntKind.i64) Ty.unit))) Ty.unit))))) i.1 :: jn 1 (.b (false) :: jn 120 ([])), []⟩

def q16_X2_2 (i : q16_I2) (p : Unit) : St := ⟨AV.pv (Ty.slice (Ty.prod Ty.i (Ty.prod Ty.i (Ty.prod (Ty.slice YReadMark) (Ty.prod (Ty.slice (Ty.prod Ty.i (Ty.prod (Ty.int
  IntKind.i64) Ty.unit))) Ty.unit))))) i.1 :: jn 1 (.b (false) :: jn 120 ([])), []⟩

def q16_X2_3 (i : q16_I2) (p : Unit) : St := ⟨AV.pv (Ty.slice (Ty.prod Ty.i (Ty.prod Ty.i (Ty.prod (Ty.slice YReadMark) (Ty.prod (Ty.slice (Ty.prod Ty.i (Ty.prod (Ty.int
  IntKind.i64) Ty.unit))) Ty.unit))))) i.1 :: jn 1 (.b (false) :: jn 120 ([])), []⟩

def q16_X2_4 (i : q16_I2) (p : Unit) : St := ⟨AV.pv (Ty.slice (Ty.prod Ty.i (Ty.prod Ty.i (Ty.prod (Ty.slice YReadMark) (Ty.prod (Ty.slice (Ty.prod Ty.i (Ty.prod (Ty.int
  IntKind.i64) Ty.unit))) Ty.unit))))) i.1 :: jn 122 ([]), []⟩

noncomputable def q16_E2 (i : q16_I2) (p : q16_Q2) (R : Type) (K : Ex → St → Option R) : Option R := sumC p (fun p => K (Ex.ret) (q16_X2_0 i p)) fun p => sumC p (fun p => K (Ex.ret) (q16_X2_1 i p)) fun p => sumC p (fun p => K (Ex.ret) (q16_X2_2 i p)) fun p => sumC p (fun p => K (Ex.ret) (q16_X2_3 i p)) fun p => K (Ex.exit 0) (q16_X2_4 i p)

noncomputable def q16_K2 (i : q16_I2) (p : q16_Q2) : Ex × St := sumC p (fun p => (Ex.ret, q16_X2_0 i p)) fun p => sumC p (fun p => (Ex.ret, q16_X2_1 i p)) fun p => sumC p (fun p => (Ex.ret, q16_X2_2 i p)) fun p => sumC p (fun p => (Ex.ret, q16_X2_3 i p)) fun p => (Ex.exit 0, q16_X2_4 i p)

def q16_M2 (i : q16_I2) (v : q16_V2) : den q16_T2.ty := (i.1, v.1, ())

def q16_P2 (x : den q16_T2.ty) : q16_I2 × q16_V2 := ((x.1, ()), (x.2.1, ()))

abbrev q16_I12 : Type := List (Int × Int × List (Int × Int × Unit) × List (Int × Int × Unit) × Unit) × Int × Unit

abbrev q16_V12 : Type := Int × Unit

abbrev q16_Q12 : Type := Unit ⊕ Unit ⊕ Unit

noncomputable def spec_IsHistory_D12 (i : q16_I12) (v : q16_V12) (R : Type) (K : q16_V12 ⊕ q16_Q12 → Option R) : Option R :=
  Option.bind (lAt i.1 i.2.1) fun v_1 => bif decide (v.1 < (↑(List.length v_1.2.2.1) : Int)) then Option.bind (lAt i.1 i.2.1) fun v_2 => Option.bind (lAt v_2.2.2.1 v.1) fun v_3 => Option.bind (spec_WriterOf_S (i.1, (v_3.1, v_3.2.1, ()), ()))
  fun v_4 => Option.bind (lAt i.1 i.2.1) fun v_5 => bif v_4.1 == v_5.1 then K (Sum.inr (Sum.inl ())) else Option.bind (lAt i.1 i.2.1) fun v_6 => Option.bind (lAt v_6.2.2.1 v.1) fun v_7 => bif decide (v_7.2.1 > 0) then bif v_4.1 == 0 then K
  (Sum.inr (Sum.inr (Sum.inl ()))) else K (Sum.inl (IntKind.wrap IntKind.i64 (v.1 + 1), ())) else K (Sum.inl (IntKind.wrap IntKind.i64 (v.1 + 1), ())) else K (Sum.inr (Sum.inr (Sum.inr ())))

theorem spec_IsHistory_D12_nat : NatD spec_IsHistory_D12 := fun i v R K => nat_bind fun _ => nat_bif (nat_bind fun _ => nat_bind fun _ => nat_bind fun _ => nat_bind fun _ => nat_bif (nat_some) (nat_bind fun _ => nat_bind fun _ => nat_bif (nat_bif (nat_some) (nat_some)) (nat_some))) (nat_some)

def q16_T12 : Tmpl := ⟨(.slot (Ty.slice (Ty.prod Ty.i (Ty.prod Ty.i (Ty.prod (Ty.slice YReadMark) (Ty.prod (Ty.slice (Ty.prod Ty.i (Ty.prod Ty.i
  Ty.unit))) Ty.unit))))) (jk 3 (.slot Ty.i (.slot Ty.i (jk 117 .nil))))), .nil⟩

def q16_X12_0 (i : q16_I12) (p : Unit) : St := ⟨AV.pv (Ty.slice (Ty.prod Ty.i (Ty.prod Ty.i (Ty.prod (Ty.slice YReadMark) (Ty.prod (Ty.slice (Ty.prod Ty.i (Ty.prod (Ty.int
  IntKind.i64) Ty.unit))) Ty.unit))))) i.1 :: jn 1 (.b (false) :: jn 1 (.n (i.2.1) :: jn 118 ([]))), []⟩

def q16_X12_1 (i : q16_I12) (p : Unit) : St := ⟨AV.pv (Ty.slice (Ty.prod Ty.i (Ty.prod Ty.i (Ty.prod (Ty.slice YReadMark) (Ty.prod (Ty.slice (Ty.prod Ty.i (Ty.prod (Ty.int
  IntKind.i64) Ty.unit))) Ty.unit))))) i.1 :: jn 1 (.b (false) :: jn 1 (.n (i.2.1) :: jn 118 ([]))), []⟩

def q16_X12_2 (i : q16_I12) (p : Unit) : St := ⟨AV.pv (Ty.slice (Ty.prod Ty.i (Ty.prod Ty.i (Ty.prod (Ty.slice YReadMark) (Ty.prod (Ty.slice (Ty.prod Ty.i (Ty.prod (Ty.int
  IntKind.i64) Ty.unit))) Ty.unit))))) i.1 :: jn 3 (.n (i.2.1) :: jn 118 ([])), []⟩

noncomputable def q16_E12 (i : q16_I12) (p : q16_Q12) (R : Type) (K : Ex → St → Option R) : Option R := sumC p (fun p => K (Ex.ret) (q16_X12_0 i p)) fun p => sumC p (fun p => K (Ex.ret) (q16_X12_1 i p)) fun p => K (Ex.exit 4) (q16_X12_2 i p)

noncomputable def q16_K12 (i : q16_I12) (p : q16_Q12) : Ex × St := sumC p (fun p => (Ex.ret, q16_X12_0 i p)) fun p => sumC p (fun p => (Ex.ret, q16_X12_1 i p)) fun p => (Ex.exit 4, q16_X12_2 i p)

def q16_M12 (i : q16_I12) (v : q16_V12) : den q16_T12.ty := (i.1, i.2.1, v.1, ())

def q16_P12 (x : den q16_T12.ty) : q16_I12 × q16_V12 := ((x.1, x.2.1, ()), (x.2.2.1, ()))

abbrev q16_I9 : Type := List (Int × Int × List (Int × Int × Unit) × List (Int × Int × Unit) × Unit) × Unit

abbrev q16_V9 : Type := Int × Unit

abbrev q16_Q9 : Type := Unit ⊕ Unit ⊕ Unit

noncomputable def spec_IsHistory_D9 (i : q16_I9) (v : q16_V9) (R : Type) (K : q16_V9 ⊕ q16_Q9 → Option R) : Option R :=
  bif decide (v.1 < (↑(List.length i.1) : Int)) then Option.bind (iter (fun v_1 => spec_IsHistory_D12 (i.1, v.1, ()) v_1 _ some) (0, ())) fun p => sumC p (fun p => K (Sum.inr (Sum.inl ()))) fun p => sumC p (fun p => K (Sum.inr
  (Sum.inr (Sum.inl ())))) fun p => K (Sum.inl (IntKind.wrap IntKind.i64 (v.1 + 1), ())) else K (Sum.inr (Sum.inr (Sum.inr ())))

theorem spec_IsHistory_D9_nat : NatD spec_IsHistory_D9 := fun i v R K => nat_bif (nat_bind fun _ => nat_sum (fun _ => nat_some) (fun _ => nat_sum (fun _ => nat_some) (fun _ => nat_some))) (nat_some)

def q16_T9 : Tmpl := ⟨(.slot (Ty.slice (Ty.prod Ty.i (Ty.prod Ty.i (Ty.prod (Ty.slice YReadMark) (Ty.prod (Ty.slice (Ty.prod Ty.i (Ty.prod Ty.i
  Ty.unit))) Ty.unit))))) (jk 3 (.slot Ty.i (jk 118 .nil)))), .nil⟩

def q16_X9_0 (i : q16_I9) (p : Unit) : St := ⟨AV.pv (Ty.slice (Ty.prod Ty.i (Ty.prod Ty.i (Ty.prod (Ty.slice YReadMark) (Ty.prod (Ty.slice (Ty.prod Ty.i (Ty.prod (Ty.int
  IntKind.i64) Ty.unit))) Ty.unit))))) i.1 :: jn 1 (.b (false) :: jn 120 ([])), []⟩

def q16_X9_1 (i : q16_I9) (p : Unit) : St := ⟨AV.pv (Ty.slice (Ty.prod Ty.i (Ty.prod Ty.i (Ty.prod (Ty.slice YReadMark) (Ty.prod (Ty.slice (Ty.prod Ty.i (Ty.prod (Ty.int
  IntKind.i64) Ty.unit))) Ty.unit))))) i.1 :: jn 1 (.b (false) :: jn 120 ([])), []⟩

def q16_X9_2 (i : q16_I9) (p : Unit) : St := ⟨AV.pv (Ty.slice (Ty.prod Ty.i (Ty.prod Ty.i (Ty.prod (Ty.slice YReadMark) (Ty.prod (Ty.slice (Ty.prod Ty.i (Ty.prod (Ty.int
  IntKind.i64) Ty.unit))) Ty.unit))))) i.1 :: jn 122 ([]), []⟩

noncomputable def q16_E9 (i : q16_I9) (p : q16_Q9) (R : Type) (K : Ex → St → Option R) : Option R := sumC p (fun p => K (Ex.ret) (q16_X9_0 i p)) fun p => sumC p (fun p => K (Ex.ret) (q16_X9_1 i p)) fun p => K (Ex.exit 2) (q16_X9_2 i p)

noncomputable def q16_K9 (i : q16_I9) (p : q16_Q9) : Ex × St := sumC p (fun p => (Ex.ret, q16_X9_0 i p)) fun p => sumC p (fun p => (Ex.ret, q16_X9_1 i p)) fun p => (Ex.exit 2, q16_X9_2 i p)

def q16_M9 (i : q16_I9) (v : q16_V9) : den q16_T9.ty := (i.1, v.1, ())

def q16_P9 (x : den q16_T9.ty) : q16_I9 × q16_V9 := ((x.1, ()), (x.2.1, ()))

noncomputable def q16_C : Cfg := { ti := g_tis, ents := [q10_Ent, q13_Ent, q14_Ent, q15_Ent], ann := [(2, loopFn q16_T2 0 q16_P2 spec_IsHistory_D2 q16_E2), (12, loopFn q16_T12 0 q16_P12 spec_IsHistory_D12 q16_E12), (9, loopFn q16_T9 0 q16_P9 spec_IsHistory_D9 q16_E9)], lent := 0 }

def q16_ti : Tmpl := ⟨(.slot (Ty.slice (Ty.prod Ty.i (Ty.prod Ty.i (Ty.prod (Ty.slice YReadMark) (Ty.prod (Ty.slice (Ty.prod Ty.i (Ty.prod Ty.i
  Ty.unit))) Ty.unit))))) .nil), .nil⟩

def q16_to : Tmpl := ⟨(.slot (Ty.bool) .nil), .nil⟩

noncomputable def spec_IsHistory_S (x : List (Int × Int × List (Int × Int × Unit) × List (Int × Int × Unit) × Unit) × Unit) : Option (Bool × Unit) :=
  Option.bind (iter (fun v => spec_IsHistory_D2 (x.1, ()) v _ some) (0, ())) fun p => sumC p (fun p => some (false, ())) fun p => sumC p (fun p => some (false, ())) fun p => sumC p (fun p => some (false, ())) fun p => sumC p (fun p
  => some (false, ())) fun p => Option.bind (iter (fun v => spec_IsHistory_D9 (x.1, ()) v _ some) (0, ())) fun p => sumC p (fun p => some (false, ())) fun p => sumC p (fun p => some (false, ())) fun p => some (decide ((↑(List.length
  x.1) : Int) ≤ 9), ())

noncomputable def q16_Ent : Ent := ⟨61, q16_ti, q16_to, spec_IsHistory_S⟩

theorem q16_HC : CfgOK Go.Proofs.Tryz.prog q16_C := hc_of g_tisOK g_wide (all_cons q10_OK (all_cons q13_OK (all_cons q14_OK (all_cons q15_OK all_nil))))

theorem q16_lk12 : LkOK Go.Proofs.Tryz.prog q16_C (lpc Go.Proofs.Tryz.f61 2) :=
  lk_of q16_HC (m := 0) (T := q16_T12) (sp := q16_P12) (D := spec_IsHistory_D12) (E := q16_E12) (by kernel_rfl) (by kernel_rfl) (fun k hk => absurd hk (Nat.not_lt_zero k)) [0, 2, 4] q16_M12 (fun x => rfl) spec_IsHistory_D12_nat q16_K12 (fun i p R K => by rcases p with p | p | p <;> rfl) (fun i v => by kernel_rfl)

theorem q16_lk9 : LkOK Go.Proofs.Tryz.prog q16_C (lpc Go.Proofs.Tryz.f61 1) :=
  lk_of q16_HC (m := 1) (T := q16_T9) (sp := q16_P9) (D := spec_IsHistory_D9) (E := q16_E9) (by kernel_rfl) (by kernel_rfl) (fun k hk => match k, hk with | 0, _ => lk_at (by kernel_rfl) q16_lk12) [0, 2] q16_M9 (fun x => rfl) spec_IsHistory_D9_nat q16_K9 (fun i p R K => by rcases p with p | p | p <;> rfl) (fun i v => by kernel_rfl)

theorem q16_lk2 : LkOK Go.Proofs.Tryz.prog q16_C (lpc Go.Proofs.Tryz.f61 0) :=
  lk_of q16_HC (m := 0) (T := q16_T2) (sp := q16_P2) (D := spec_IsHistory_D2) (E := q16_E2) (by kernel_rfl) (by kernel_rfl) (fun k hk => absurd hk (Nat.not_lt_zero k)) [0, 2] q16_M2 (fun x => rfl) spec_IsHistory_D2_nat q16_K2 (fun i p R K => by rcases p with p | p | p | p | p <;> rfl) (fun i v => by kernel_rfl)

theorem q16_OK : EntOK Go.Proofs.Tryz.prog q16_Ent := ok_of q16_HC Go.Proofs.Tryz.func61 3 (by kernel_rfl) (fun k hk => match k, hk with | 0, _ => q16_lk2 | 1, _ => q16_lk9 | 2, _ => q16_lk12) (by kernel_rfl) (by kernel_rfl) (fun x => by kernel_rfl)

/-! spec.l19Less -/

noncomputable def q17_C : Cfg := { ti := g_tis, ents := [], ann := [], lent := 0 }

def q17_ti : Tmpl := ⟨(.slot YEdge (.slot YEdge .nil)), .nil⟩

def q17_to : Tmpl := ⟨(.slot (Ty.bool) .nil), .nil⟩

noncomputable def spec_l19Less_S (x : (Int × Int × Int × Int × Unit) × (Int × Int × Int × Int × Unit) × Unit) : Option (Bool × Unit) :=
  bif x.1.1 != x.2.1.1 then some (decide (x.1.1 < x.2.1.1), ()) else bif x.1.2.1 != x.2.1.2.1 then some (decide (x.1.2.1 < x.2.1.2.1), ()) else bif x.1.2.2.1 != x.2.1.2.2.1 then some (decide (x.1.2.2.1 < x.2.1.2.2.1), ()) else some (decide
  (x.1.2.2.2.1 < x.2.1.2.2.2.1), ())

noncomputable def q17_Ent : Ent := ⟨269, q17_ti, q17_to, spec_l19Less_S⟩

theorem q17_HC : CfgOK Go.Proofs.Tryz.prog q17_C := hc_of g_tisOK g_wide all_nil

theorem q17_OK : EntOK Go.Proofs.Tryz.prog q17_Ent := ok_of q17_HC Go.Proofs.Tryz.func269 0 (by kernel_rfl) (fun k hk => absurd hk (Nat.not_lt_zero k)) (by kernel_rfl) (by kernel_rfl) (fun x => by kernel_rfl)

/-! spec.l19Put -/

abbrev q18_I4 : Type := List (Int × Int × Int × Int × Unit) × Int × Int × Int × Int × Unit

abbrev q18_V4 : Type := Int × Unit

abbrev q18_Q4 : Type := Int × Unit ⊕ Int × Unit

noncomputable def spec_l19Put_D4 (i : q18_I4) (v : q18_V4) (R : Type) (K : q18_V4 ⊕ q18_Q4 → Option R) : Option R :=
  bif decide (v.1 < (↑(List.length i.1) : Int)) then Option.bind (lAt i.1 v.1) fun v_1 => Option.bind (spec_l19Less_S ((v_1.1, v_1.2.1, v_1.2.2.1, v_1.2.2.2.1, ()), (i.2.1, i.2.2.1, i.2.2.2.1, i.2.2.2.2.1, ()), ())) fun v_2 => bif v_2.1 then K
  (Sum.inl (IntKind.wrap IntKind.i64 (v.1 + 1), ())) else K (Sum.inr (Sum.inl (v.1, ()))) else K (Sum.inr (Sum.inr (v.1, ())))

theorem spec_l19Put_D4_nat : NatD spec_l19Put_D4 := fun i v R K => nat_bif (nat_bind fun _ => nat_bind fun _ => nat_bif (nat_some) (nat_some)) (nat_some)

def q18_T4 : Tmpl := ⟨(.slot (Ty.slice YEdge) (jk 2 (.ptr 0 0 0 (.junk (.slot Ty.i (jk 55 .nil)))))), (.cells 4 (.slot Ty.i (.slot Ty.i (.slot Ty.i (.slot Ty.i .nil)))) .nil)⟩

def q18_X4_0 (i : q18_I4) (p : Int × Unit) : St := ⟨AV.pv (Ty.slice YEdge) i.1 :: jn 2 (AV.ptr 0 none 0 0 :: jn 1 (.n (p.1) :: jn 55 ([]))), [some (Cont.cells 4
  [[AV.pv Ty.i i.2.1, AV.pv Ty.i i.2.2.1, AV.pv Ty.i i.2.2.2.1, AV.pv Ty.i i.2.2.2.2.1]])]⟩

def q18_X4_1 (i : q18_I4) (p : Int × Unit) : St := ⟨AV.pv (Ty.slice YEdge) i.1 :: jn 2 (AV.ptr 0 none 0 0 :: jn 1 (.n (p.1) :: jn 55 ([]))), [some (Cont.cells 4
  [[AV.pv Ty.i i.2.1, AV.pv Ty.i i.2.2.1, AV.pv Ty.i i.2.2.2.1, AV.pv Ty.i i.2.2.2.2.1]])]⟩

noncomputable def q18_E4 (i : q18_I4) (p : q18_Q4) (R : Type) (K : Ex → St → Option R) : Option R := sumC p (fun p => K (Ex.exit 0) (q18_X4_0 i p)) fun p => K (Ex.exit 0) (q18_X4_1 i p)

noncomputable def q18_K4 (i : q18_I4) (p : q18_Q4) : Ex × St := sumC p (fun p => (Ex.exit 0, q18_X4_0 i p)) fun p => (Ex.exit 0, q18_X4_1 i p)

def q18_M4 (i : q18_I4) (v : q18_V4) : den q18_T4.ty := (i.1, v.1, i.2.1, i.2.2.1, i.2.2.2.1, i.2.2.2.2.1, ())

def q18_P4 (x : den q18_T4.ty) : q18_I4 × q18_V4 := ((x.1, x.2.2.1, x.2.2.2.1, x.2.2.2.2.1, x.2.2.2.2.2.1, ()), (x.2.1, ()))

noncomputable def q18_C : Cfg := { ti := g_tis, ents := [q17_Ent], ann := [(4, loopFn q18_T4 0 q18_P4 spec_l19Put_D4 q18_E4)], lent := 0 }

def q18_ti : Tmpl := ⟨(.slot (Ty.slice YEdge) (.slot YEdge .nil)), .nil⟩

def q18_to : Tmpl := ⟨(.slot (Ty.slice YEdge) .nil), .nil⟩

noncomputable def spec_l19Put_S (x : List (Int × Int × Int × Int × Unit) × (Int × Int × Int × Int × Unit) × Unit) : Option (List (Int × Int × Int × Int × Unit) × Unit) :=
  bif x.2.1.1 == 0 then some (x.1, ()) else bif x.2.1.2.1 == 0 then some (x.1, ()) else bif x.2.1.1 == x.2.1.2.1 then some (x.1, ()) else Option.bind (iter (fun v => spec_l19Put_D4 (x.1, x.2.1.1, x.2.1.2.1, x.2.1.2.2.1, x.2.1.2.2.2.1, ()) v
  _ some) (0, ())) fun p => sumC p (fun p => bif decide (p.1 < (↑(List.length x.1) : Int)) then Option.bind (lAt x.1 p.1) fun v => bif v.1 == x.2.1.1 && (v.2.1 == x.2.1.2.1 && (v.2.2.1 == x.2.1.2.2.1 && (v.2.2.2.1 == x.2.1.2.2.2.1 &&
  true))) then some (x.1, ()) else Option.bind (slAt x.1 0 p.1) fun v => if List.length v ≤ 1099511627776 then if List.length (v ++ [(x.2.1.1, x.2.1.2.1, x.2.1.2.2.1, x.2.1.2.2.2.1, ())]) ≤ 1099511627776 then Option.bind (slAt x.1 p.1
  (↑(List.length x.1) : Int)) fun v_1 => if List.length (v ++ [(x.2.1.1, x.2.1.2.1, x.2.1.2.2.1, x.2.1.2.2.2.1, ())] ++ v_1) ≤ 1099511627776 then some (v ++ [(x.2.1.1, x.2.1.2.1, x.2.1.2.2.1, x.2.1.2.2.2.1, ())] ++ v_1, ()) else none else none
  else none else Option.bind (slAt x.1 0 p.1) fun v => if List.length v ≤ 1099511627776 then if List.length (v ++ [(x.2.1.1, x.2.1.2.1, x.2.1.2.2.1, x.2.1.2.2.2.1, ())]) ≤ 1099511627776 then Option.bind (slAt x.1 p.1 (↑(List.length x.1) :
  Int)) fun v_1 => if List.length (v ++ [(x.2.1.1, x.2.1.2.1, x.2.1.2.2.1, x.2.1.2.2.2.1, ())] ++ v_1) ≤ 1099511627776 then some (v ++ [(x.2.1.1, x.2.1.2.1, x.2.1.2.2.1, x.2.1.2.2.2.1, ())] ++ v_1, ()) else none else none else none) fun p =>
  bif decide (p.1 < (↑(List.length x.1) : Int)) then Option.bind (lAt x.1 p.1) fun v => bif v.1 == x.2.1.1 && (v.2.1 == x.2.1.2.1 && (v.2.2.1 == x.2.1.2.2.1 && (v.2.2.2.1 == x.2.1.2.2.2.1 && true))) then some (x.1, ()) else Option.bind (slAt
  x.1 0 p.1) fun v => if List.length v ≤ 1099511627776 then if List.length (v ++ [(x.2.1.1, x.2.1.2.1, x.2.1.2.2.1, x.2.1.2.2.2.1, ())]) ≤ 1099511627776 then Option.bind (slAt x.1 p.1 (↑(List.length x.1) : Int)) fun v_1 => if List.length (v ++
  [(x.2.1.1, x.2.1.2.1, x.2.1.2.2.1, x.2.1.2.2.2.1, ())] ++ v_1) ≤ 1099511627776 then some (v ++ [(x.2.1.1, x.2.1.2.1, x.2.1.2.2.1, x.2.1.2.2.2.1, ())] ++ v_1, ()) else none else none else none else Option.bind (slAt x.1 0 p.1) fun v => if
  List.length v ≤ 1099511627776 then if List.length (v ++ [(x.2.1.1, x.2.1.2.1, x.2.1.2.2.1, x.2.1.2.2.2.1, ())]) ≤ 1099511627776 then Option.bind (slAt x.1 p.1 (↑(List.length x.1) : Int)) fun v_1 => if List.length (v ++ [(x.2.1.1, x.2.1.2.1,
  x.2.1.2.2.1, x.2.1.2.2.2.1, ())] ++ v_1) ≤ 1099511627776 then some (v ++ [(x.2.1.1, x.2.1.2.1, x.2.1.2.2.1, x.2.1.2.2.2.1, ())] ++ v_1, ()) else none else none else none

noncomputable def q18_Ent : Ent := ⟨153, q18_ti, q18_to, spec_l19Put_S⟩

theorem q18_HC : CfgOK Go.Proofs.Tryz.prog q18_C := hc_of g_tisOK g_wide (all_cons q17_OK all_nil)

theorem q18_lk4 : LkOK Go.Proofs.Tryz.prog q18_C (lpc Go.Proofs.Tryz.f153 0) :=
  lk_of q18_HC (m := 0) (T := q18_T4) (sp := q18_P4) (D := spec_l19Put_D4) (E := q18_E4) (by kernel_rfl) (by kernel_rfl) (fun k hk => absurd hk (Nat.not_lt_zero k)) [0, 3, 5] q18_M4 (fun x => rfl) spec_l19Put_D4_nat q18_K4 (fun i p R K => by rcases p with p | p <;> rfl) (fun i v => by kernel_rfl)

theorem q18_OK : EntOK Go.Proofs.Tryz.prog q18_Ent := ok_of q18_HC Go.Proofs.Tryz.func153 1 (by kernel_rfl) (fun k hk => match k, hk with | 0, _ => q18_lk4) (by kernel_rfl) (by kernel_rfl) (fun x => by kernel_rfl)

/-! spec.NextWriter -/

abbrev q19_I6 : Type := List (Int × Int × List (Int × Int × Unit) × List (Int × Int × Unit) × Unit) × Int × Int × Int × Unit

abbrev q19_V6 : Type := Int × Int × Unit

abbrev q19_Q6 : Type := Int × Unit

noncomputable def spec_NextWriter_D6 (i : q19_I6) (v : q19_V6) (R : Type) (K : q19_V6 ⊕ q19_Q6 → Option R) : Option R :=
  Option.bind (lAt i.1 i.2.2.2.1) fun v_1 => bif decide (v.2.1 < (↑(List.length v_1.2.2.2.1) : Int)) then Option.bind (lAt i.1 i.2.2.2.1) fun v_2 => Option.bind (lAt v_2.2.2.2.1 v.2.1) fun v_3 => bif v_3.1 == i.2.1 then Option.bind (lAt i.1
  i.2.2.2.1) fun v_4 => bif decide (v_4.2.1 > i.2.2.1) then bif decide (v.1 < 0) then K (Sum.inl (i.2.2.2.1, IntKind.wrap IntKind.i64 (v.2.1 + 1), ())) else Option.bind (lAt i.1 i.2.2.2.1) fun v_5 => Option.bind (lAt i.1 v.1) fun v_6 => bif
  decide (v_5.2.1 < v_6.2.1) then K (Sum.inl (i.2.2.2.1, IntKind.wrap IntKind.i64 (v.2.1 + 1), ())) else K (Sum.inl (v.1, IntKind.wrap IntKind.i64 (v.2.1 + 1), ())) else K (Sum.inl (v.1, IntKind.wrap IntKind.i64 (v.2.1 + 1), ())) else K
  (Sum.inl (v.1, IntKind.wrap IntKind.i64 (v.2.1 + 1), ())) else K (Sum.inr (v.1, ()))

theorem spec_NextWriter_D6_nat : NatD spec_NextWriter_D6 := fun i v R K => nat_bind fun _ => nat_bif (nat_bind fun _ => nat_bind fun _ => nat_bif (nat_bind fun _ => nat_bif (nat_bif (nat_some) (nat_bind fun _ => nat_bind fun _ => nat_bif (nat_some) (nat_some))) (nat_some)) (nat_some)) (nat_some)

def q19_T6 : Tmpl := ⟨(.slot (Ty.slice (Ty.prod Ty.i (Ty.prod Ty.i (Ty.prod (Ty.slice YReadMark) (Ty.prod (Ty.slice (Ty.prod Ty.i (Ty.prod Ty.i
  Ty.unit))) Ty.unit))))) (.slot Ty.i (.slot Ty.i (jk 4 (.slot Ty.i (.slot Ty.i (.slot Ty.i (jk 61 .nil)))))))), .nil⟩

def q19_X6_0 (i : q19_I6) (p : Int × Unit) : St := ⟨AV.pv (Ty.slice (Ty.prod Ty.i (Ty.prod Ty.i (Ty.prod (Ty.slice YReadMark) (Ty.prod (Ty.slice (Ty.prod Ty.i (Ty.prod (Ty.int
  IntKind.i64) Ty.unit))) Ty.unit))))) i.1 :: .n (i.2.1) :: .n (i.2.2.1) :: jn 4 (.n (p.1) :: .n (i.2.2.2.1) :: jn 62 ([])), []⟩

noncomputable def q19_E6 (i : q19_I6) (p : q19_Q6) (R : Type) (K : Ex → St → Option R) : Option R := K (Ex.exit 2) (q19_X6_0 i p)

noncomputable def q19_K6 (i : q19_I6) (p : q19_Q6) : Ex × St := (Ex.exit 2, q19_X6_0 i p)

def q19_M6 (i : q19_I6) (v : q19_V6) : den q19_T6.ty := (i.1, i.2.1, i.2.2.1, v.1, i.2.2.2.1, v.2.1, ())

def q19_P6 (x : den q19_T6.ty) : q19_I6 × q19_V6 := ((x.1, x.2.1, x.2.2.1, x.2.2.2.2.1, ()), (x.2.2.2.1, x.2.2.2.2.2.1, ()))

abbrev q19_I3 : Type := List (Int × Int × List (Int × Int × Unit) × List (Int × Int × Unit) × Unit) × Int × Int × Unit

abbrev q19_V3 : Type := Int × Int × Unit

abbrev q19_Q3 : Type := Int × Unit

noncomputable def spec_NextWriter_D3 (i : q19_I3) (v : q19_V3) (R : Type) (K : q19_V3 ⊕ q19_Q3 → Option R) : Option R :=
  bif decide (v.2.1 < (↑(List.length i.1) : Int)) then Option.bind (iter (fun v_1 => spec_NextWriter_D6 (i.1, i.2.1, i.2.2.1, v.2.1, ()) v_1 _ some) (v.1, 0, ())) fun p => K (Sum.inl (p.1, IntKind.wrap IntKind.i64 (v.2.1 + 1), ()))
  else K (Sum.inr (v.1, ()))

theorem spec_NextWriter_D3_nat : NatD spec_NextWriter_D3 := fun i v R K => nat_bif (nat_bind fun _ => nat_some) (nat_some)

def q19_T3 : Tmpl := ⟨(.slot (Ty.slice (Ty.prod Ty.i (Ty.prod Ty.i (Ty.prod (Ty.slice YReadMark) (Ty.prod (Ty.slice (Ty.prod Ty.i (Ty.prod Ty.i
  Ty.unit))) Ty.unit))))) (.slot Ty.i (.slot Ty.i (jk 4 (.slot Ty.i (.slot Ty.i (jk 62 .nil))))))), .nil⟩

def q19_X3_0 (i : q19_I3) (p : Int × Unit) : St := ⟨AV.pv (Ty.slice (Ty.prod Ty.i (Ty.prod Ty.i (Ty.prod (Ty.slice YReadMark) (Ty.prod (Ty.slice (Ty.prod Ty.i (Ty.prod (Ty.int
  IntKind.i64) Ty.unit))) Ty.unit))))) i.1 :: jn 6 (.n (p.1) :: jn 63 ([])), []⟩

noncomputable def q19_E3 (i : q19_I3) (p : q19_Q3) (R : Type) (K : Ex → St → Option R) : Option R := K (Ex.exit 0) (q19_X3_0 i p)

noncomputable def q19_K3 (i : q19_I3) (p : q19_Q3) : Ex × St := (Ex.exit 0, q19_X3_0 i p)

def q19_M3 (i : q19_I3) (v : q19_V3) : den q19_T3.ty := (i.1, i.2.1, i.2.2.1, v.1, v.2.1, ())

def q19_P3 (x : den q19_T3.ty) : q19_I3 × q19_V3 := ((x.1, x.2.1, x.2.2.1, ()), (x.2.2.2.1, x.2.2.2.2.1, ()))

noncomputable def q19_C : Cfg := { ti := g_tis, ents := [], ann := [(6, loopFn q19_T6 0 q19_P6 spec_NextWriter_D6 q19_E6), (3, loopFn q19_T3 0 q19_P3 spec_NextWriter_D3 q19_E3)], lent := 0 }

def q19_ti : Tmpl := ⟨(.slot (Ty.slice (Ty.prod Ty.i (Ty.prod Ty.i (Ty.prod (Ty.slice YReadMark) (Ty.prod (Ty.slice (Ty.prod Ty.i (Ty.prod Ty.i
  Ty.unit))) Ty.unit))))) (.slot Ty.i (.slot Ty.i .nil))), .nil⟩

def q19_to : Tmpl := ⟨(.slot Ty.i .nil), .nil⟩

noncomputable def spec_NextWriter_S (x : List (Int × Int × List (Int × Int × Unit) × List (Int × Int × Unit) × Unit) × Int × Int × Unit) : Option (Int × Unit) :=
  Option.bind (iter (fun v => spec_NextWriter_D3 (x.1, x.2.1, x.2.2.1, ()) v _ some) (-1, 0, ())) fun p => bif decide (p.1 < 0) then some (0, ()) else Option.bind (lAt x.1 p.1) fun v => some (v.1, ())

noncomputable def q19_Ent : Ent := ⟨154, q19_ti, q19_to, spec_NextWriter_S⟩

theorem q19_HC : CfgOK Go.Proofs.Tryz.prog q19_C := hc_of g_tisOK g_wide all_nil

theorem q19_lk6 : LkOK Go.Proofs.Tryz.prog q19_C (lpc Go.Proofs.Tryz.f154 1) :=
  lk_of q19_HC (m := 0) (T := q19_T6) (sp := q19_P6) (D := spec_NextWriter_D6) (E := q19_E6) (by kernel_rfl) (by kernel_rfl) (fun k hk => absurd hk (Nat.not_lt_zero k)) [0, 1, 2, 7, 8] q19_M6 (fun x => rfl) spec_NextWriter_D6_nat q19_K6 (fun i p R K => rfl) (fun i v => by kernel_rfl)

theorem q19_lk3 : LkOK Go.Proofs.Tryz.prog q19_C (lpc Go.Proofs.Tryz.f154 0) :=
  lk_of q19_HC (m := 1) (T := q19_T3) (sp := q19_P3) (D := spec_NextWriter_D3) (E := q19_E3) (by kernel_rfl) (by kernel_rfl) (fun k hk => match k, hk with | 0, _ => lk_at (by kernel_rfl) q19_lk6) [0, 7] q19_M3 (fun x => rfl) spec_NextWriter_D3_nat q19_K3 (fun i p R K => rfl) (fun i v => by kernel_rfl)

theorem q19_OK : EntOK Go.Proofs.Tryz.prog q19_Ent := ok_of q19_HC Go.Proofs.Tryz.func154 2 (by kernel_rfl) (fun k hk => match k, hk with | 0, _ => q19_lk3 | 1, _ => q19_lk6) (by kernel_rfl) (by kernel_rfl) (fun x => by kernel_rfl)

/-! spec.BuildGraph -/

abbrev q20_I6 : Type := List (Int × Int × List (Int × Int × Unit) × List (Int × Int × Unit) × Unit) × Int × Unit

abbrev q20_V6 : Type := List (Int × Int × Int × Int × Unit) × Int × List (Int × Int × Int × Int × Unit) × Unit

abbrev q20_Q6 : Type := List (Int × Int × Int × Int × Unit) × List (Int × Int × Int × Int × Unit) × Unit

noncomputable def spec_BuildGraph_D6 (i : q20_I6) (v : q20_V6) (R : Type) (K : q20_V6 ⊕ q20_Q6 → Option R) : Option R :=
  Option.bind (lAt i.1 i.2.1) fun v_1 => bif decide (v.2.1 < (↑(List.length v_1.2.2.1) : Int)) then Option.bind (lAt i.1 i.2.1) fun v_2 => Option.bind (lAt v_2.2.2.1 v.2.1) fun v_3 => Option.bind (spec_WriterOf_S (i.1, (v_3.1, v_3.2.1, ()),
  ())) fun v_4 => Option.bind (lAt i.1 i.2.1) fun v_5 => Option.bind (spec_l19Put_S (v.1, (v_4.1, v_5.1, 1, v_3.1, ()), ())) fun v_6 => Option.bind (lAt i.1 i.2.1) fun v_7 => Option.bind (spec_NextWriter_S (i.1, v_3.1, v_3.2.1, ())) fun v_8 =>
  Option.bind (spec_l19Put_S (v_6.1, (v_7.1, v_8.1, 3, v_3.1, ()), ())) fun v_9 => K (Sum.inl (v_9.1, IntKind.wrap IntKind.i64 (v.2.1 + 1), [], ())) else K (Sum.inr (v.1, v.2.2.1, ()))

theorem spec_BuildGraph_D6_nat : NatD spec_BuildGraph_D6 := fun i v R K => nat_bind fun _ => nat_bif (nat_bind fun _ => nat_bind fun _ => nat_bind fun _ => nat_bind fun _ => nat_bind fun _ => nat_bind fun _ => nat_bind fun _ => nat_bind fun _ => nat_some) (nat_some)

def q20_T6 : Tmpl := ⟨(.slot (Ty.slice (Ty.prod Ty.i (Ty.prod Ty.i (Ty.prod (Ty.slice YReadMark) (Ty.prod (Ty.slice (Ty.prod Ty.i (Ty.prod Ty.i
  Ty.unit))) Ty.unit))))) (jk 2 (.slot (Ty.slice YEdge) (.slot Ty.i (.slot Ty.i (jk 98 .nil)))))), (.lst false YEdge .nil)⟩

def q20_X6_0 (i : q20_I6) (p : List (Int × Int × Int × Int × Unit) × List (Int × Int × Int × Int × Unit) × Unit) : St := ⟨AV.pv (Ty.slice (Ty.prod Ty.i (Ty.prod Ty.i (Ty.prod (Ty.slice YReadMark) (Ty.prod (Ty.slice (Ty.prod Ty.i (Ty.prod (Ty.int
  IntKind.i64) Ty.unit))) Ty.unit))))) i.1 :: jn 2 (AV.pv (Ty.slice YEdge) p.1 :: .n (i.2.1) :: jn 99 ([])), [some
  (Cont.lst false YEdge p.2.1)]⟩

noncomputable def q20_E6 (i : q20_I6) (p : q20_Q6) (R : Type) (K : Ex → St → Option R) : Option R := K (Ex.exit 2) (q20_X6_0 i p)

noncomputable def q20_K6 (i : q20_I6) (p : q20_Q6) : Ex × St := (Ex.exit 2, q20_X6_0 i p)

def q20_M6 (i : q20_I6) (v : q20_V6) : den q20_T6.ty := (i.1, v.1, i.2.1, v.2.1, v.2.2.1, ())

def q20_P6 (x : den q20_T6.ty) : q20_I6 × q20_V6 := ((x.1, x.2.2.1, ()), (x.2.1, x.2.2.2.1, x.2.2.2.2.1, ()))

abbrev q20_I12 : Type := List (Int × Int × List (Int × Int × Unit) × List (Int × Int × Unit) × Unit) × Int × Unit

abbrev q20_V12 : Type := List (Int × Int × Int × Int × Unit) × Int × Unit

abbrev q20_Q12 : Type := List (Int × Int × Int × Int × Unit) × Unit

noncomputable def spec_BuildGraph_D12 (i : q20_I12) (v : q20_V12) (R : Type) (K : q20_V12 ⊕ q20_Q12 → Option R) : Option R :=
  Option.bind (lAt i.1 i.2.1) fun v_1 => bif decide (v.2.1 < (↑(List.length v_1.2.2.2.1) : Int)) then Option.bind (lAt i.1 i.2.1) fun v_2 => Option.bind (lAt v_2.2.2.2.1 v.2.1) fun v_3 => Option.bind (lAt i.1 i.2.1) fun v_4 => Option.bind (lAt
  i.1 i.2.1) fun v_5 => Option.bind (spec_NextWriter_S (i.1, v_3.1, v_5.2.1, ())) fun v_6 => Option.bind (spec_l19Put_S (v.1, (v_4.1, v_6.1, 2, v_3.1, ()), ())) fun v_7 => K (Sum.inl (v_7.1, IntKind.wrap IntKind.i64 (v.2.1 + 1), ())) else K
  (Sum.inr (v.1, ()))

theorem spec_BuildGraph_D12_nat : NatD spec_BuildGraph_D12 := fun i v R K => nat_bind fun _ => nat_bif (nat_bind fun _ => nat_bind fun _ => nat_bind fun _ => nat_bind fun _ => nat_bind fun _ => nat_bind fun _ => nat_some) (nat_some)

def q20_T12 : Tmpl := ⟨(.slot (Ty.slice (Ty.prod Ty.i (Ty.prod Ty.i (Ty.prod (Ty.slice YReadMark) (Ty.prod (Ty.slice (Ty.prod Ty.i (Ty.prod Ty.i
  Ty.unit))) Ty.unit))))) (jk 2 (.slot (Ty.slice YEdge) (.slot Ty.i (jk 2 (.slot Ty.i (jk 96 .nil))))))), .nil⟩

def q20_X12_0 (i : q20_I12) (p : List (Int × Int × Int × Int × Unit) × Unit) : St := ⟨AV.pv (Ty.slice (Ty.prod Ty.i (Ty.prod Ty.i (Ty.prod (Ty.slice YReadMark) (Ty.prod (Ty.slice (Ty.prod Ty.i (Ty.prod (Ty.int
  IntKind.i64) Ty.unit))) Ty.unit))))) i.1 :: jn 2 (AV.pv (Ty.slice YEdge) p.1 :: .n (i.2.1) :: jn 99 ([])), []⟩

noncomputable def q20_E12 (i : q20_I12) (p : q20_Q12) (R : Type) (K : Ex → St → Option R) : Option R := K (Ex.exit 4) (q20_X12_0 i p)

noncomputable def q20_K12 (i : q20_I12) (p : q20_Q12) : Ex × St := (Ex.exit 4, q20_X12_0 i p)

def q20_M12 (i : q20_I12) (v : q20_V12) : den q20_T12.ty := (i.1, v.1, i.2.1, v.2.1, ())

def q20_P12 (x : den q20_T12.ty) : q20_I12 × q20_V12 := ((x.1, x.2.2.1, ()), (x.2.1, x.2.2.2.1, ()))

abbrev q20_I3 : Type := List (Int × Int × List (Int × Int × Unit) × List (Int × Int × Unit) × Unit) × Unit

abbrev q20_V3 : Type := List (Int × Int × Int × Int × Unit) × Int × List (Int × Int × Int × Int × Unit) × Unit

abbrev q20_Q3 : Type := List (Int × Int × Int × Int × Unit) × List (Int × Int × Int × Int × Unit) × Unit ⊕ List (Int × Int × Int × Int × Unit) × List (Int × Int × Int × Int × Unit) × Unit

noncomputable def spec_BuildGraph_D3 (i : q20_I3) (v : q20_V3) (R : Type) (K : q20_V3 ⊕ q20_Q3 → Option R) : Option R :=
  bif decide (v.2.1 < (↑(List.length i.1) : Int)) then Option.bind (spec_IsHistory_S (i.1, ())) fun v_1 => bif v_1.1 then Option.bind (iter (fun v_2 => spec_BuildGraph_D6 (i.1, v.2.1, ()) v_2 _ some) (v.1, 0, [], ())) fun p =>
  Option.bind (iter (fun v_2 => spec_BuildGraph_D12 (i.1, v.2.1, ()) v_2 _ some) (p.1, 0, ())) fun p => K (Sum.inl (p.1, IntKind.wrap IntKind.i64 (v.2.1 + 1), [], ())) else K (Sum.inr (Sum.inl (v.1, v.2.2.1, ()))) else K (Sum.inr
  (Sum.inr (v.1, v.2.2.1, ())))

theorem spec_BuildGraph_D3_nat : NatD spec_BuildGraph_D3 := fun i v R K => nat_bif (nat_bind fun _ => nat_bif (nat_bind fun _ => nat_bind fun _ => nat_some) (nat_some)) (nat_some)

def q20_T3 : Tmpl := ⟨(.slot (Ty.slice (Ty.prod Ty.i (Ty.prod Ty.i (Ty.prod (Ty.slice YReadMark) (Ty.prod (Ty.slice (Ty.prod Ty.i (Ty.prod Ty.i
  Ty.unit))) Ty.unit))))) (jk 2 (.slot (Ty.slice YEdge) (.slot Ty.i (jk 99 .nil))))), (.lst false YEdge .nil)⟩

def q20_X3_0 (i : q20_I3) (p : List (Int × Int × Int × Int × Unit) × List (Int × Int × Int × Int × Unit) × Unit) : St := ⟨jn 3 (AV.pv (Ty.slice YEdge) p.1 :: jn 100 ([])), [some (Cont.lst false (Ty.prod Ty.i (Ty.prod
  Ty.i YReadMark)) p.2.1)]⟩

def q20_X3_1 (i : q20_I3) (p : List (Int × Int × Int × Int × Unit) × List (Int × Int × Int × Int × Unit) × Unit) : St := ⟨jn 3 (AV.pv (Ty.slice YEdge) p.1 :: jn 100 ([])), [some (Cont.lst false (Ty.prod Ty.i (Ty.prod
  Ty.i YReadMark)) p.2.1)]⟩

noncomputable def q20_E3 (i : q20_I3) (p : q20_Q3) (R : Type) (K : Ex → St → Option R) : Option R := sumC p (fun p => K (Ex.exit 0) (q20_X3_0 i p)) fun p => K (Ex.exit 0) (q20_X3_1 i p)

noncomputable def q20_K3 (i : q20_I3) (p : q20_Q3) : Ex × St := sumC p (fun p => (Ex.exit 0, q20_X3_0 i p)) fun p => (Ex.exit 0, q20_X3_1 i p)

def q20_M3 (i : q20_I3) (v : q20_V3) : den q20_T3.ty := (i.1, v.1, v.2.1, v.2.2.1, ())

def q20_P3 (x : den q20_T3.ty) : q20_I3 × q20_V3 := ((x.1, ()), (x.2.1, x.2.2.1, x.2.2.2.1, ()))

noncomputable def q20_C : Cfg := { ti := g_tis, ents := [q16_Ent, q15_Ent, q18_Ent, q19_Ent], ann := [(6, loopFn q20_T6 0 q20_P6 spec_BuildGraph_D6 q20_E6), (12, loopFn q20_T12 0 q20_P12 spec_BuildGraph_D12 q20_E12), (3, loopFn q20_T3 0 q20_P3 spec_BuildGraph_D3 q20_E3)], lent := 0 }

def q20_ti : Tmpl := ⟨(.slot (Ty.slice (Ty.prod Ty.i (Ty.prod Ty.i (Ty.prod (Ty.slice YReadMark) (Ty.prod (Ty.slice (Ty.prod Ty.i (Ty.prod Ty.i
  Ty.unit))) Ty.unit))))) .nil), .nil⟩

def q20_to : Tmpl := ⟨(.slot (Ty.slice YEdge) .nil), .nil⟩

noncomputable def spec_BuildGraph_S (x : List (Int × Int × List (Int × Int × Unit) × List (Int × Int × Unit) × Unit) × Unit) : Option (List (Int × Int × Int × Int × Unit) × Unit) :=
  Option.bind (iter (fun v => spec_BuildGraph_D3 (x.1, ()) v _ some) ([], 0, [], ())) fun p => sumC p (fun p => some (p.1, ())) fun p => some (p.1, ())

noncomputable def q20_Ent : Ent := ⟨73, q20_ti, q20_to, spec_BuildGraph_S⟩

theorem q20_HC : CfgOK Go.Proofs.Tryz.prog q20_C := hc_of g_tisOK g_wide (all_cons q16_OK (all_cons q15_OK (all_cons q18_OK (all_cons q19_OK all_nil))))

theorem q20_lk12 : LkOK Go.Proofs.Tryz.prog q20_C (lpc Go.Proofs.Tryz.f73 2) :=
  lk_of q20_HC (m := 0) (T := q20_T12) (sp := q20_P12) (D := spec_BuildGraph_D12) (E := q20_E12) (by kernel_rfl) (by kernel_rfl) (fun k hk => absurd hk (Nat.not_lt_zero k)) [0, 3, 4] q20_M12 (fun x => rfl) spec_BuildGraph_D12_nat q20_K12 (fun i p R K => rfl) (fun i v => by kernel_rfl)

theorem q20_lk6 : LkOK Go.Proofs.Tryz.prog q20_C (lpc Go.Proofs.Tryz.f73 1) :=
  lk_of q20_HC (m := 0) (T := q20_T6) (sp := q20_P6) (D := spec_BuildGraph_D6) (E := q20_E6) (by kernel_rfl) (by kernel_rfl) (fun k hk => absurd hk (Nat.not_lt_zero k)) [0, 3, 4] q20_M6 (fun x => rfl) spec_BuildGraph_D6_nat q20_K6 (fun i p R K => rfl) (fun i v => by kernel_rfl)

theorem q20_lk3 : LkOK Go.Proofs.Tryz.prog q20_C (lpc Go.Proofs.Tryz.f73 0) :=
  lk_of q20_HC (m := 2) (T := q20_T3) (sp := q20_P3) (D := spec_BuildGraph_D3) (E := q20_E3) (by kernel_rfl) (by kernel_rfl) (fun k hk => match k, hk with | 0, _ => lk_at (by kernel_rfl) q20_lk6 | 1, _ => lk_at (by kernel_rfl) q20_lk12) [3] q20_M3 (fun x => rfl) spec_BuildGraph_D3_nat q20_K3 (fun i p R K => by rcases p with p | p <;> rfl) (fun i v => by kernel_rfl)

theorem q20_OK : EntOK Go.Proofs.Tryz.prog q20_Ent := ok_of q20_HC Go.Proofs.Tryz.func73 3 (by kernel_rfl) (fun k hk => match k, hk with | 0, _ => q20_lk3 | 1, _ => q20_lk6 | 2, _ => q20_lk12) (by kernel_rfl) (by kernel_rfl) (fun x => by kernel_rfl)

/-! spec.l21Has -/

abbrev q21_I2 : Type := List Int × Int × Unit

abbrev q21_V2 : Type := Int × Unit

abbrev q21_Q2 : Type := Unit ⊕ Unit

noncomputable def spec_l21Has_D2 (i : q21_I2) (v : q21_V2) (R : Type) (K : q21_V2 ⊕ q21_Q2 → Option R) : Option R :=
  bif decide (v.1 < (↑(List.length i.1) : Int)) then Option.bind (lAt i.1 v.1) fun v_1 => bif v_1 == i.2.1 then K (Sum.inr (Sum.inl ())) else K (Sum.inl (IntKind.wrap IntKind.i64 (v.1 + 1), ())) else K (Sum.inr (Sum.inr ()))

theorem spec_l21Has_D2_nat : NatD spec_l21Has_D2 := fun i v R K => nat_bif (nat_bind fun _ => nat_bif (nat_some) (nat_some)) (nat_some)

def q21_T2 : Tmpl := ⟨(.slot (Ty.slice Ty.i) (.slot Ty.i (jk 3 (.slot Ty.i (jk 12 .nil))))), .nil⟩

def q21_X2_0 (i : q21_I2) (p : Unit) : St := ⟨jn 4 (.b (true) :: jn 13 ([])), []⟩

def q21_X2_1 (i : q21_I2) (p : Unit) : St := ⟨jn 18 ([]), []⟩

noncomputable def q21_E2 (i : q21_I2) (p : q21_Q2) (R : Type) (K : Ex → St → Option R) : Option R := sumC p (fun p => K (Ex.ret) (q21_X2_0 i p)) fun p => K (Ex.exit 0) (q21_X2_1 i p)

noncomputable def q21_K2 (i : q21_I2) (p : q21_Q2) : Ex × St := sumC p (fun p => (Ex.ret, q21_X2_0 i p)) fun p => (Ex.exit 0, q21_X2_1 i p)

def q21_M2 (i : q21_I2) (v : q21_V2) : den q21_T2.ty := (i.1, i.2.1, v.1, ())

def q21_P2 (x : den q21_T2.ty) : q21_I2 × q21_V2 := ((x.1, x.2.1, ()), (x.2.2.1, ()))

noncomputable def q21_C : Cfg := { ti := g_tis, ents := [], ann := [(2, loopFn q21_T2 0 q21_P2 spec_l21Has_D2 q21_E2)], lent := 0 }

def q21_ti : Tmpl := ⟨(.slot (Ty.slice Ty.i) (.slot Ty.i .nil)), .nil⟩

def q21_to : Tmpl := ⟨(.slot (Ty.bool) .nil), .nil⟩

noncomputable def spec_l21Has_S (x : List Int × Int × Unit) : Option (Bool × Unit) :=
  Option.bind (iter (fun v => spec_l21Has_D2 (x.1, x.2.1, ()) v _ some) (0, ())) fun p => sumC p (fun p => some (true, ())) fun p => some (false, ())

noncomputable def q21_Ent : Ent := ⟨135, q21_ti, q21_to, spec_l21Has_S⟩

theorem q21_HC : CfgOK Go.Proofs.Tryz.prog q21_C := hc_of g_tisOK g_wide all_nil

theorem q21_lk2 : LkOK Go.Proofs.Tryz.prog q21_C (lpc Go.Proofs.Tryz.f135 0) :=
  lk_of q21_HC (m := 0) (T := q21_T2) (sp := q21_P2) (D := spec_l21Has_D2) (E := q21_E2) (by kernel_rfl) (by kernel_rfl) (fun k hk => absurd hk (Nat.not_lt_zero k)) [4] q21_M2 (fun x => rfl) spec_l21Has_D2_nat q21_K2 (fun i p R K => by rcases p with p | p <;> rfl) (fun i v => by kernel_rfl)

theorem q21_OK : EntOK Go.Proofs.Tryz.prog q21_Ent := ok_of q21_HC Go.Proofs.Tryz.func135 1 (by kernel_rfl) (fun k hk => match k, hk with | 0, _ => q21_lk2) (by kernel_rfl) (by kernel_rfl) (fun x => by kernel_rfl)

/-! spec.l21Free -/

abbrev q22_I2 : Type := List (Int × Int × Int × Int × Unit) × List Int × Int × Unit

abbrev q22_V2 : Type := Int × Unit

abbrev q22_Q2 : Type := Unit ⊕ Unit

noncomputable def spec_l21Free_D2 (i : q22_I2) (v : q22_V2) (R : Type) (K : q22_V2 ⊕ q22_Q2 → Option R) : Option R :=
  bif decide (v.1 < (↑(List.length i.1) : Int)) then Option.bind (lAt i.1 v.1) fun v_1 => bif v_1.2.1 == i.2.2.1 then Option.bind (lAt i.1 v.1) fun v_2 => Option.bind (spec_l21Has_S (i.2.1, v_2.1, ())) fun v_3 => bif !v_3.1 then K (Sum.inr
  (Sum.inl ())) else K (Sum.inl (IntKind.wrap IntKind.i64 (v.1 + 1), ())) else K (Sum.inl (IntKind.wrap IntKind.i64 (v.1 + 1), ())) else K (Sum.inr (Sum.inr ()))

theorem spec_l21Free_D2_nat : NatD spec_l21Free_D2 := fun i v R K => nat_bif (nat_bind fun _ => nat_bif (nat_bind fun _ => nat_bind fun _ => nat_bif (nat_some) (nat_some)) (nat_some)) (nat_some)

def q22_T2 : Tmpl := ⟨(.slot (Ty.slice YEdge) (.slot (Ty.slice Ty.i) (.slot Ty.i (jk 4 (.slot Ty.i (jk 23 .nil)))))), .nil⟩

def q22_X2_0 (i : q22_I2) (p : Unit) : St := ⟨jn 6 (.b (false) :: jn 24 ([])), []⟩

def q22_X2_1 (i : q22_I2) (p : Unit) : St := ⟨jn 31 ([]), []⟩

noncomputable def q22_E2 (i : q22_I2) (p : q22_Q2) (R : Type) (K : Ex → St → Option R) : Option R := sumC p (fun p => K (Ex.ret) (q22_X2_0 i p)) fun p => K (Ex.exit 0) (q22_X2_1 i p)

noncomputable def q22_K2 (i : q22_I2) (p : q22_Q2) : Ex × St := sumC p (fun p => (Ex.ret, q22_X2_0 i p)) fun p => (Ex.exit 0, q22_X2_1 i p)

def q22_M2 (i : q22_I2) (v : q22_V2) : den q22_T2.ty := (i.1, i.2.1, i.2.2.1, v.1, ())

def q22_P2 (x : den q22_T2.ty) : q22_I2 × q22_V2 := ((x.1, x.2.1, x.2.2.1, ()), (x.2.2.2.1, ()))

noncomputable def q22_C : Cfg := { ti := g_tis, ents := [q21_Ent], ann := [(2, loopFn q22_T2 0 q22_P2 spec_l21Free_D2 q22_E2)], lent := 0 }

def q22_ti : Tmpl := ⟨(.slot (Ty.slice YEdge) (.slot (Ty.slice Ty.i) (.slot Ty.i .nil))), .nil⟩

def q22_to : Tmpl := ⟨(.slot (Ty.bool) .nil), .nil⟩

noncomputable def spec_l21Free_S (x : List (Int × Int × Int × Int × Unit) × List Int × Int × Unit) : Option (Bool × Unit) :=
  Option.bind (iter (fun v => spec_l21Free_D2 (x.1, x.2.1, x.2.2.1, ()) v _ some) (0, ())) fun p => sumC p (fun p => some (false, ())) fun p => some (true, ())

noncomputable def q22_Ent : Ent := ⟨136, q22_ti, q22_to, spec_l21Free_S⟩

theorem q22_HC : CfgOK Go.Proofs.Tryz.prog q22_C := hc_of g_tisOK g_wide (all_cons q21_OK all_nil)

theorem q22_lk2 : LkOK Go.Proofs.Tryz.prog q22_C (lpc Go.Proofs.Tryz.f136 0) :=
  lk_of q22_HC (m := 0) (T := q22_T2) (sp := q22_P2) (D := spec_l21Free_D2) (E := q22_E2) (by kernel_rfl) (by kernel_rfl) (fun k hk => absurd hk (Nat.not_lt_zero k)) [6] q22_M2 (fun x => rfl) spec_l21Free_D2_nat q22_K2 (fun i p R K => by rcases p with p | p <;> rfl) (fun i v => by kernel_rfl)

theorem q22_OK : EntOK Go.Proofs.Tryz.prog q22_Ent := ok_of q22_HC Go.Proofs.Tryz.func136 1 (by kernel_rfl) (fun k hk => match k, hk with | 0, _ => q22_lk2) (by kernel_rfl) (by kernel_rfl) (fun x => by kernel_rfl)

/-! spec.AreEdges -/

abbrev q24_I2 : Type := List (Int × Int × Int × Int × Unit) × Unit

abbrev q24_V2 : Type := Int × Unit

abbrev q24_Q2 : Type := Unit ⊕ Unit ⊕ Unit ⊕ Unit ⊕ Unit ⊕ Unit ⊕ Unit

noncomputable def spec_AreEdges_D2 (i : q24_I2) (v : q24_V2) (R : Type) (K : q24_V2 ⊕ q24_Q2 → Option R) : Option R :=
  bif decide (v.1 < (↑(List.length i.1) : Int)) then Option.bind (lAt i.1 v.1) fun v_1 => Option.bind (spec_l1In_S (v_1.1, 1, 9, ())) fun v_2 => bif !v_2.1 then K (Sum.inr (Sum.inl ())) else Option.bind (lAt i.1 v.1) fun v_3 => Option.bind
  (spec_l1In_S (v_3.2.1, 1, 9, ())) fun v_4 => bif !v_4.1 then K (Sum.inr (Sum.inr (Sum.inl ()))) else Option.bind (lAt i.1 v.1) fun v_5 => Option.bind (lAt i.1 v.1) fun v_6 => bif v_5.1 == v_6.2.1 then K (Sum.inr (Sum.inr (Sum.inr (Sum.inl
  ())))) else Option.bind (lAt i.1 v.1) fun v_7 => Option.bind (spec_l1In_S (v_7.2.2.1, 1, 3, ())) fun v_8 => bif !v_8.1 then K (Sum.inr (Sum.inr (Sum.inr (Sum.inr (Sum.inl ()))))) else Option.bind (lAt i.1 v.1) fun v_9 => Option.bind
  (spec_l1In_S (v_9.2.2.2.1, 0, 5, ())) fun v_10 => bif !v_10.1 then K (Sum.inr (Sum.inr (Sum.inr (Sum.inr (Sum.inr (Sum.inl ())))))) else bif decide (v.1 > 0) then Option.bind (lAt i.1 (IntKind.wrap IntKind.i64 (v.1 - 1))) fun v_11 =>
  Option.bind (lAt i.1 v.1) fun v_12 => Option.bind (spec_l19Less_S ((v_11.1, v_11.2.1, v_11.2.2.1, v_11.2.2.2.1, ()), (v_12.1, v_12.2.1, v_12.2.2.1, v_12.2.2.2.1, ()), ())) fun v_13 => bif !v_13.1 then K (Sum.inr (Sum.inr (Sum.inr (Sum.inr
  (Sum.inr (Sum.inr (Sum.inl ()))))))) else K (Sum.inl (IntKind.wrap IntKind.i64 (v.1 + 1), ())) else K (Sum.inl (IntKind.wrap IntKind.i64 (v.1 + 1), ())) else K (Sum.inr (Sum.inr (Sum.inr (Sum.inr (Sum.inr (Sum.inr (Sum.inr ())))))))

theorem spec_AreEdges_D2_nat : NatD spec_AreEdges_D2 := fun i v R K => nat_bif (nat_bind fun _ => nat_bind fun _ => nat_bif (nat_some) (nat_bind fun _ => nat_bind fun _ => nat_bif (nat_some) (nat_bind fun _ => nat_bind fun _ => nat_bif (nat_some) (nat_bind fun _ => nat_bind fun _ => nat_bif (nat_some) (nat_bind fun _ => nat_bind fun _ => nat_bif (nat_some) (nat_bif (nat_bind fun _ => nat_bind fun _ => nat_bind fun _ => nat_bif (nat_some) (nat_some)) (nat_some))))))) (nat_some)

def q24_T2 : Tmpl := ⟨(.slot (Ty.slice YEdge) (jk 2 (.slot Ty.i (jk 70 .nil)))), .nil⟩

def q24_X2_0 (i : q24_I2) (p : Unit) : St := ⟨jn 2 (.b (false) :: jn 71 ([])), []⟩

def q24_X2_1 (i : q24_I2) (p : Unit) : St := ⟨jn 2 (.b (false) :: jn 71 ([])), []⟩

def q24_X2_2 (i : q24_I2) (p : Unit) : St := ⟨jn 2 (.b (false) :: jn 71 ([])), []⟩

def q24_X2_3 (i : q24_I2) (p : Unit) : St := ⟨jn 2 (.b (false) :: jn 71 ([])), []⟩

def q24_X2_4 (i : q24_I2) (p : Unit) : St := ⟨jn 2 (.b (false) :: jn 71 ([])), []⟩

def q24_X2_5 (i : q24_I2) (p : Unit) : St := ⟨jn 2 (.b (false) :: jn 71 ([])), []⟩

def q24_X2_6 (i : q24_I2) (p : Unit) : St := ⟨jn 74 ([]), []⟩

noncomputable def q24_E2 (i : q24_I2) (p : q24_Q2) (R : Type) (K : Ex → St → Option R) : Option R := sumC p (fun p => K (Ex.ret) (q24_X2_0 i p)) fun p => sumC p (fun p => K (Ex.ret) (q24_X2_1 i p)) fun p => sumC p (fun p => K (Ex.ret) (q24_X2_2 i p)) fun p => sumC p (fun p => K (Ex.ret) (q24_X2_3 i p)) fun p => sumC p (fun p => K (Ex.ret) (q24_X2_4 i p)) fun p => sumC p (fun p => K (Ex.ret) (q24_X2_5 i p)) fun p => K (Ex.exit 0) (q24_X2_6 i p)

noncomputable def q24_K2 (i : q24_I2) (p : q24_Q2) : Ex × St := sumC p (fun p => (Ex.ret, q24_X2_0 i p)) fun p => sumC p (fun p => (Ex.ret, q24_X2_1 i p)) fun p => sumC p (fun p => (Ex.ret, q24_X2_2 i p)) fun p => sumC p (fun p => (Ex.ret, q24_X2_3 i p)) fun p => sumC p (fun p => (Ex.ret, q24_X2_4 i p)) fun p => sumC p (fun p => (Ex.ret, q24_X2_5 i p)) fun p => (Ex.exit 0, q24_X2_6 i p)

def q24_M2 (i : q24_I2) (v : q24_V2) : den q24_T2.ty := (i.1, v.1, ())

def q24_P2 (x : den q24_T2.ty) : q24_I2 × q24_V2 := ((x.1, ()), (x.2.1, ()))

noncomputable def q24_C : Cfg := { ti := g_tis, ents := [q11_Ent, q17_Ent], ann := [(2, loopFn q24_T2 0 q24_P2 spec_AreEdges_D2 q24_E2)], lent := 0 }

def q24_ti : Tmpl := ⟨(.slot (Ty.slice YEdge) .nil), .nil⟩

def q24_to : Tmpl := ⟨(.slot (Ty.bool) .nil), .nil⟩

noncomputable def spec_AreEdges_S (x : List (Int × Int × Int × Int × Unit) × Unit) : Option (Bool × Unit) :=
  Option.bind (iter (fun v => spec_AreEdges_D2 (x.1, ()) v _ some) (0, ())) fun p => sumC p (fun p => some (false, ())) fun p => sumC p (fun p => some (false, ())) fun p => sumC p (fun p => some (false, ())) fun p => sumC p (fun p =>
  some (false, ())) fun p => sumC p (fun p => some (false, ())) fun p => sumC p (fun p => some (false, ())) fun p => some (true, ())

noncomputable def q24_Ent : Ent := ⟨152, q24_ti, q24_to, spec_AreEdges_S⟩

theorem q24_HC : CfgOK Go.Proofs.Tryz.prog q24_C := hc_of g_tisOK g_wide (all_cons q11_OK (all_cons q17_OK all_nil))

theorem q24_lk2 : LkOK Go.Proofs.Tryz.prog q24_C (lpc Go.Proofs.Tryz.f152 0) :=
  lk_of q24_HC (m := 0) (T := q24_T2) (sp := q24_P2) (D := spec_AreEdges_D2) (E := q24_E2) (by kernel_rfl) (by kernel_rfl) (fun k hk => absurd hk (Nat.not_lt_zero k)) [2] q24_M2 (fun x => rfl) spec_AreEdges_D2_nat q24_K2 (fun i p R K => by rcases p with p | p | p | p | p | p | p <;> rfl) (fun i v => by kernel_rfl)

theorem q24_OK : EntOK Go.Proofs.Tryz.prog q24_Ent := ok_of q24_HC Go.Proofs.Tryz.func152 1 (by kernel_rfl) (fun k hk => match k, hk with | 0, _ => q24_lk2) (by kernel_rfl) (by kernel_rfl) (fun x => by kernel_rfl)

/-! spec.HasEdge -/

abbrev q27_I2 : Type := List (Int × Int × Int × Int × Unit) × Int × Int × Unit

abbrev q27_V2 : Type := Int × Unit

abbrev q27_Q2 : Type := Unit ⊕ Unit

noncomputable def spec_HasEdge_D2 (i : q27_I2) (v : q27_V2) (R : Type) (K : q27_V2 ⊕ q27_Q2 → Option R) : Option R :=
  bif decide (v.1 < (↑(List.length i.1) : Int)) then Option.bind (lAt i.1 v.1) fun v_1 => bif v_1.1 == i.2.1 then Option.bind (lAt i.1 v.1) fun v_2 => bif v_2.2.1 == i.2.2.1 then K (Sum.inr (Sum.inl ())) else K (Sum.inl (IntKind.wrap
  IntKind.i64 (v.1 + 1), ())) else K (Sum.inl (IntKind.wrap IntKind.i64 (v.1 + 1), ())) else K (Sum.inr (Sum.inr ()))

theorem spec_HasEdge_D2_nat : NatD spec_HasEdge_D2 := fun i v R K => nat_bif (nat_bind fun _ => nat_bif (nat_bind fun _ => nat_bif (nat_some) (nat_some)) (nat_some)) (nat_some)

def q27_T2 : Tmpl := ⟨(.slot (Ty.slice YEdge) (.slot Ty.i (.slot Ty.i (jk 4 (.slot Ty.i (jk 22 .nil)))))), .nil⟩

def q27_X2_0 (i : q27_I2) (p : Unit) : St := ⟨jn 6 (.b (true) :: jn 23 ([])), []⟩

def q27_X2_1 (i : q27_I2) (p : Unit) : St := ⟨jn 30 ([]), []⟩

noncomputable def q27_E2 (i : q27_I2) (p : q27_Q2) (R : Type) (K : Ex → St → Option R) : Option R := sumC p (fun p => K (Ex.ret) (q27_X2_0 i p)) fun p => K (Ex.exit 0) (q27_X2_1 i p)

noncomputable def q27_K2 (i : q27_I2) (p : q27_Q2) : Ex × St := sumC p (fun p => (Ex.ret, q27_X2_0 i p)) fun p => (Ex.exit 0, q27_X2_1 i p)

def q27_M2 (i : q27_I2) (v : q27_V2) : den q27_T2.ty := (i.1, i.2.1, i.2.2.1, v.1, ())

def q27_P2 (x : den q27_T2.ty) : q27_I2 × q27_V2 := ((x.1, x.2.1, x.2.2.1, ()), (x.2.2.2.1, ()))

noncomputable def q27_C : Cfg := { ti := g_tis, ents := [], ann := [(2, loopFn q27_T2 0 q27_P2 spec_HasEdge_D2 q27_E2)], lent := 0 }

def q27_ti : Tmpl := ⟨(.slot (Ty.slice YEdge) (.slot Ty.i (.slot Ty.i .nil))), .nil⟩

def q27_to : Tmpl := ⟨(.slot (Ty.bool) .nil), .nil⟩

noncomputable def spec_HasEdge_S (x : List (Int × Int × Int × Int × Unit) × Int × Int × Unit) : Option (Bool × Unit) :=
  Option.bind (iter (fun v => spec_HasEdge_D2 (x.1, x.2.1, x.2.2.1, ()) v _ some) (0, ())) fun p => sumC p (fun p => some (true, ())) fun p => some (false, ())

noncomputable def q27_Ent : Ent := ⟨151, q27_ti, q27_to, spec_HasEdge_S⟩

theorem q27_HC : CfgOK Go.Proofs.Tryz.prog q27_C := hc_of g_tisOK g_wide all_nil

theorem q27_lk2 : LkOK Go.Proofs.Tryz.prog q27_C (lpc Go.Proofs.Tryz.f151 0) :=
  lk_of q27_HC (m := 0) (T := q27_T2) (sp := q27_P2) (D := spec_HasEdge_D2) (E := q27_E2) (by kernel_rfl) (by kernel_rfl) (fun k hk => absurd hk (Nat.not_lt_zero k)) [6] q27_M2 (fun x => rfl) spec_HasEdge_D2_nat q27_K2 (fun i p R K => by rcases p with p | p <;> rfl) (fun i v => by kernel_rfl)

theorem q27_OK : EntOK Go.Proofs.Tryz.prog q27_Ent := ok_of q27_HC Go.Proofs.Tryz.func151 1 (by kernel_rfl) (fun k hk => match k, hk with | 0, _ => q27_lk2) (by kernel_rfl) (by kernel_rfl) (fun x => by kernel_rfl)

/-! spec.CheckCycle -/

abbrev q29_I5 : Type := List (Int × Int × Int × Int × Unit) × List Int × Int × Unit

abbrev q29_V5 : Type := Int × Unit

abbrev q29_Q5 : Type := Unit ⊕ Unit

noncomputable def spec_CheckCycle_D5 (i : q29_I5) (v : q29_V5) (R : Type) (K : q29_V5 ⊕ q29_Q5 → Option R) : Option R :=
  bif decide (v.1 < i.2.2.1) then Option.bind (lAt i.2.1 v.1) fun v_1 => Option.bind (lAt i.2.1 i.2.2.1) fun v_2 => bif v_1 == v_2 then K (Sum.inr (Sum.inl ())) else K (Sum.inl (IntKind.wrap IntKind.i64 (v.1 + 1), ())) else K (Sum.inr (Sum.inr
  ()))

theorem spec_CheckCycle_D5_nat : NatD spec_CheckCycle_D5 := fun i v R K => nat_bif (nat_bind fun _ => nat_bind fun _ => nat_bif (nat_some) (nat_some)) (nat_some)

def q29_T5 : Tmpl := ⟨(.slot (Ty.slice YEdge) (.slot (Ty.slice Ty.i) (jk 3 (.slot Ty.i (.slot Ty.i (jk 42 .nil)))))), .nil⟩

def q29_X5_0 (i : q29_I5) (p : Unit) : St := ⟨AV.pv (Ty.slice YEdge) i.1 :: AV.pv (Ty.slice Ty.i) i.2.1 :: jn 2 (.b (false) :: .n (i.2.2.1) ::
  jn 43 ([])), []⟩

def q29_X5_1 (i : q29_I5) (p : Unit) : St := ⟨AV.pv (Ty.slice YEdge) i.1 :: AV.pv (Ty.slice Ty.i) i.2.1 :: jn 3 (.n (i.2.2.1) :: jn 43 ([])),
  []⟩

noncomputable def q29_E5 (i : q29_I5) (p : q29_Q5) (R : Type) (K : Ex → St → Option R) : Option R := sumC p (fun p => K (Ex.ret) (q29_X5_0 i p)) fun p => K (Ex.exit 2) (q29_X5_1 i p)

noncomputable def q29_K5 (i : q29_I5) (p : q29_Q5) : Ex × St := sumC p (fun p => (Ex.ret, q29_X5_0 i p)) fun p => (Ex.exit 2, q29_X5_1 i p)

def q29_M5 (i : q29_I5) (v : q29_V5) : den q29_T5.ty := (i.1, i.2.1, i.2.2.1, v.1, ())

def q29_P5 (x : den q29_T5.ty) : q29_I5 × q29_V5 := ((x.1, x.2.1, x.2.2.1, ()), (x.2.2.2.1, ()))

abbrev q29_I2 : Type := List (Int × Int × Int × Int × Unit) × List Int × Unit

abbrev q29_V2 : Type := Int × Unit

abbrev q29_Q2 : Type := Unit ⊕ Unit ⊕ Unit

noncomputable def spec_CheckCycle_D2 (i : q29_I2) (v : q29_V2) (R : Type) (K : q29_V2 ⊕ q29_Q2 → Option R) : Option R :=
  bif decide (v.1 < (↑(List.length i.2.1) : Int)) then Option.bind (iter (fun v_1 => spec_CheckCycle_D5 (i.1, i.2.1, v.1, ()) v_1 _ some) (0, ())) fun p => sumC p (fun p => K (Sum.inr (Sum.inl ()))) fun p => Option.bind (lAt i.2.1
  v.1) fun v_1 => Option.bind (rem? (IntKind.wrap IntKind.i64 (v.1 + 1)) (↑(List.length i.2.1) : Int)) fun v_2 => Option.bind (lAt i.2.1 v_2) fun v_3 => Option.bind (spec_HasEdge_S (i.1, v_1, v_3, ())) fun v_4 => bif !v_4.1 then K (Sum.inr
  (Sum.inr (Sum.inl ()))) else K (Sum.inl (IntKind.wrap IntKind.i64 (v.1 + 1), ())) else K (Sum.inr (Sum.inr (Sum.inr ())))

theorem spec_CheckCycle_D2_nat : NatD spec_CheckCycle_D2 := fun i v R K => nat_bif (nat_bind fun _ => nat_sum (fun _ => nat_some) (fun _ => nat_bind fun _ => nat_bind fun _ => nat_bind fun _ => nat_bind fun _ => nat_bif (nat_some) (nat_some))) (nat_some)

def q29_T2 : Tmpl := ⟨(.slot (Ty.slice YEdge) (.slot (Ty.slice Ty.i) (jk 3 (.slot Ty.i (jk 43 .nil))))), .nil⟩

def q29_X2_0 (i : q29_I2) (p : Unit) : St := ⟨AV.pv (Ty.slice YEdge) i.1 :: AV.pv (Ty.slice Ty.i) i.2.1 :: jn 2 (.b (false) :: jn 44 ([])), []⟩

def q29_X2_1 (i : q29_I2) (p : Unit) : St := ⟨AV.pv (Ty.slice YEdge) i.1 :: AV.pv (Ty.slice Ty.i) i.2.1 :: jn 2 (.b (false) :: jn 44 ([])), []⟩

def q29_X2_2 (i : q29_I2) (p : Unit) : St := ⟨AV.pv (Ty.slice YEdge) i.1 :: AV.pv (Ty.slice Ty.i) i.2.1 :: jn 47 ([]), []⟩

noncomputable def q29_E2 (i : q29_I2) (p : q29_Q2) (R : Type) (K : Ex → St → Option R) : Option R := sumC p (fun p => K (Ex.ret) (q29_X2_0 i p)) fun p => sumC p (fun p => K (Ex.ret) (q29_X2_1 i p)) fun p => K (Ex.exit 0) (q29_X2_2 i p)

noncomputable def q29_K2 (i : q29_I2) (p : q29_Q2) : Ex × St := sumC p (fun p => (Ex.ret, q29_X2_0 i p)) fun p => sumC p (fun p => (Ex.ret, q29_X2_1 i p)) fun p => (Ex.exit 0, q29_X2_2 i p)

def q29_M2 (i : q29_I2) (v : q29_V2) : den q29_T2.ty := (i.1, i.2.1, v.1, ())

def q29_P2 (x : den q29_T2.ty) : q29_I2 × q29_V2 := ((x.1, x.2.1, ()), (x.2.2.1, ()))

noncomputable def q29_C : Cfg := { ti := g_tis, ents := [q27_Ent, q24_Ent], ann := [(5, loopFn q29_T5 0 q29_P5 spec_CheckCycle_D5 q29_E5), (2, loopFn q29_T2 0 q29_P2 spec_CheckCycle_D2 q29_E2)], lent := 0 }

def q29_ti : Tmpl := ⟨(.slot (Ty.slice YEdge) (.slot (Ty.slice Ty.i) .nil)), .nil⟩

def q29_to : Tmpl := ⟨(.slot (Ty.bool) .nil), .nil⟩

noncomputable def spec_CheckCycle_S (x : List (Int × Int × Int × Int × Unit) × List Int × Unit) : Option (Bool × Unit) :=
  Option.bind (iter (fun v => spec_CheckCycle_D2 (x.1, x.2.1, ()) v _ some) (0, ())) fun p => sumC p (fun p => some (false, ())) fun p => sumC p (fun p => some (false, ())) fun p => Option.bind (spec_AreEdges_S (x.1, ())) fun v =>
  bif v.1 then some (decide ((↑(List.length x.2.1) : Int) > 1), ()) else some (false, ())

noncomputable def q29_Ent : Ent := ⟨72, q29_ti, q29_to, spec_CheckCycle_S⟩

theorem q29_HC : CfgOK Go.Proofs.Tryz.prog q29_C := hc_of g_tisOK g_wide (all_cons q27_OK (all_cons q24_OK all_nil))

theorem q29_lk5 : LkOK Go.Proofs.Tryz.prog q29_C (lpc Go.Proofs.Tryz.f72 1) :=
  lk_of q29_HC (m := 0) (T := q29_T5) (sp := q29_P5) (D := spec_CheckCycle_D5) (E := q29_E5) (by kernel_rfl) (by kernel_rfl) (fun k hk => absurd hk (Nat.not_lt_zero k)) [0, 1, 4, 5] q29_M5 (fun x => rfl) spec_CheckCycle_D5_nat q29_K5 (fun i p R K => by rcases p with p | p <;> rfl) (fun i v => by kernel_rfl)

theorem q29_lk2 : LkOK Go.Proofs.Tryz.prog q29_C (lpc Go.Proofs.Tryz.f72 0) :=
  lk_of q29_HC (m := 1) (T := q29_T2) (sp := q29_P2) (D := spec_CheckCycle_D2) (E := q29_E2) (by kernel_rfl) (by kernel_rfl) (fun k hk => match k, hk with | 0, _ => lk_at (by kernel_rfl) q29_lk5) [0, 1, 4] q29_M2 (fun x => rfl) spec_CheckCycle_D2_nat q29_K2 (fun i p R K => by rcases p with p | p | p <;> rfl) (fun i v => by kernel_rfl)

theorem q29_OK : EntOK Go.Proofs.Tryz.prog q29_Ent := ok_of q29_HC Go.Proofs.Tryz.func72 2 (by kernel_rfl) (fun k hk => match k, hk with | 0, _ => q29_lk2 | 1, _ => q29_lk5) (by kernel_rfl) (by kernel_rfl) (fun x => by kernel_rfl)

/-! spec.l23Only -/

abbrev q30_I2 : Type := List (Int × Int × Int × Int × Unit) × Int × Int × Unit

abbrev q30_V2 : Type := Int × Unit

abbrev q30_Q2 : Type := Unit ⊕ Unit

noncomputable def spec_l23Only_D2 (i : q30_I2) (v : q30_V2) (R : Type) (K : q30_V2 ⊕ q30_Q2 → Option R) : Option R :=
  bif decide (v.1 < (↑(List.length i.1) : Int)) then Option.bind (lAt i.1 v.1) fun v_1 => bif v_1.1 == i.2.1 then Option.bind (lAt i.1 v.1) fun v_2 => bif v_2.2.1 == i.2.2.1 then Option.bind (lAt i.1 v.1) fun v_3 => bif v_3.2.2.1 != 3 then K
  (Sum.inr (Sum.inl ())) else K (Sum.inl (IntKind.wrap IntKind.i64 (v.1 + 1), ())) else K (Sum.inl (IntKind.wrap IntKind.i64 (v.1 + 1), ())) else K (Sum.inl (IntKind.wrap IntKind.i64 (v.1 + 1), ())) else K (Sum.inr (Sum.inr ()))

theorem spec_l23Only_D2_nat : NatD spec_l23Only_D2 := fun i v R K => nat_bif (nat_bind fun _ => nat_bif (nat_bind fun _ => nat_bif (nat_bind fun _ => nat_bif (nat_some) (nat_some)) (nat_some)) (nat_some)) (nat_some)

def q30_T2 : Tmpl := ⟨(.slot (Ty.slice YEdge) (.slot Ty.i (.slot Ty.i (jk 4 (.slot Ty.i (jk 30 .nil)))))), .nil⟩

def q30_X2_0 (i : q30_I2) (p : Unit) : St := ⟨jn 6 (.b (false) :: jn 31 ([])), []⟩

def q30_X2_1 (i : q30_I2) (p : Unit) : St := ⟨jn 38 ([]), []⟩

noncomputable def q30_E2 (i : q30_I2) (p : q30_Q2) (R : Type) (K : Ex → St → Option R) : Option R := sumC p (fun p => K (Ex.ret) (q30_X2_0 i p)) fun p => K (Ex.exit 0) (q30_X2_1 i p)

noncomputable def q30_K2 (i : q30_I2) (p : q30_Q2) : Ex × St := sumC p (fun p => (Ex.ret, q30_X2_0 i p)) fun p => (Ex.exit 0, q30_X2_1 i p)

def q30_M2 (i : q30_I2) (v : q30_V2) : den q30_T2.ty := (i.1, i.2.1, i.2.2.1, v.1, ())

def q30_P2 (x : den q30_T2.ty) : q30_I2 × q30_V2 := ((x.1, x.2.1, x.2.2.1, ()), (x.2.2.2.1, ()))

noncomputable def q30_C : Cfg := { ti := g_tis, ents := [], ann := [(2, loopFn q30_T2 0 q30_P2 spec_l23Only_D2 q30_E2)], lent := 0 }

def q30_ti : Tmpl := ⟨(.slot (Ty.slice YEdge) (.slot Ty.i (.slot Ty.i .nil))), .nil⟩

def q30_to : Tmpl := ⟨(.slot (Ty.bool) .nil), .nil⟩

noncomputable def spec_l23Only_S (x : List (Int × Int × Int × Int × Unit) × Int × Int × Unit) : Option (Bool × Unit) :=
  Option.bind (iter (fun v => spec_l23Only_D2 (x.1, x.2.1, x.2.2.1, ()) v _ some) (0, ())) fun p => sumC p (fun p => some (false, ())) fun p => some (true, ())

noncomputable def q30_Ent : Ent := ⟨155, q30_ti, q30_to, spec_l23Only_S⟩

theorem q30_HC : CfgOK Go.Proofs.Tryz.prog q30_C := hc_of g_tisOK g_wide all_nil

theorem q30_lk2 : LkOK Go.Proofs.Tryz.prog q30_C (lpc Go.Proofs.Tryz.f155 0) :=
  lk_of q30_HC (m := 0) (T := q30_T2) (sp := q30_P2) (D := spec_l23Only_D2) (E := q30_E2) (by kernel_rfl) (by kernel_rfl) (fun k hk => absurd hk (Nat.not_lt_zero k)) [6] q30_M2 (fun x => rfl) spec_l23Only_D2_nat q30_K2 (fun i p R K => by rcases p with p | p <;> rfl) (fun i v => by kernel_rfl)

theorem q30_OK : EntOK Go.Proofs.Tryz.prog q30_Ent := ok_of q30_HC Go.Proofs.Tryz.func155 1 (by kernel_rfl) (fun k hk => match k, hk with | 0, _ => q30_lk2) (by kernel_rfl) (by kernel_rfl) (fun x => by kernel_rfl)

/-! spec.ClassifyCycle -/

abbrev q31_I5 : Type := List (Int × Int × List (Int × Int × Unit) × List (Int × Int × Unit) × Unit) × List Int × List (Int × Int × Int × Int × Unit) × Unit

abbrev q31_V5 : Type := Int × Unit

abbrev q31_Q5 : Type := Unit ⊕ Unit

noncomputable def spec_ClassifyCycle_D5 (i : q31_I5) (v : q31_V5) (R : Type) (K : q31_V5 ⊕ q31_Q5 → Option R) : Option R :=
  bif decide (v.1 < (↑(List.length i.2.1) : Int)) then Option.bind (lAt i.2.1 v.1) fun v_1 => Option.bind (spec_FindEntry_S (i.1, v_1, ())) fun v_2 => Option.bind (lAt i.1 v_2.1) fun v_3 => bif (↑(List.length v_3.2.2.2.1) : Int) == 0 then K
  (Sum.inr (Sum.inl ())) else K (Sum.inl (IntKind.wrap IntKind.i64 (v.1 + 1), ())) else K (Sum.inr (Sum.inr ()))

theorem spec_ClassifyCycle_D5_nat : NatD spec_ClassifyCycle_D5 := fun i v R K => nat_bif (nat_bind fun _ => nat_bind fun _ => nat_bind fun _ => nat_bif (nat_some) (nat_some)) (nat_some)

def q31_T5 : Tmpl := ⟨(.slot (Ty.slice (Ty.prod Ty.i (Ty.prod Ty.i (Ty.prod (Ty.slice YReadMark) (Ty.prod (Ty.slice (Ty.prod Ty.i (Ty.prod Ty.i
  Ty.unit))) Ty.unit))))) (.slot (Ty.slice Ty.i) (jk 3 (.slot (Ty.slice YEdge) (.slot Ty.i (jk 92 .nil)))))), .nil⟩

def q31_X5_0 (i : q31_I5) (p : Unit) : St := ⟨AV.pv (Ty.slice (Ty.prod Ty.i (Ty.prod Ty.i (Ty.prod (Ty.slice YReadMark) (Ty.prod (Ty.slice (Ty.prod Ty.i (Ty.prod (Ty.int
  IntKind.i64) Ty.unit))) Ty.unit))))) i.1 :: AV.pv (Ty.slice Ty.i) i.2.1 :: jn 2 (.n (3) :: AV.pv (Ty.slice (Ty.prod Ty.i (Ty.prod Ty.i (Ty.prod Ty.i (Ty.prod (Ty.int
  IntKind.i64) Ty.unit))))) i.2.2.1 :: jn 93 ([])), []⟩

def q31_X5_1 (i : q31_I5) (p : Unit) : St := ⟨AV.pv (Ty.slice (Ty.prod Ty.i (Ty.prod Ty.i (Ty.prod (Ty.slice YReadMark) (Ty.prod (Ty.slice (Ty.prod Ty.i (Ty.prod (Ty.int
  IntKind.i64) Ty.unit))) Ty.unit))))) i.1 :: AV.pv (Ty.slice Ty.i) i.2.1 :: jn 3 (AV.pv (Ty.slice (Ty.prod Ty.i (Ty.prod Ty.i (Ty.prod Ty.i (Ty.prod Ty.i
  Ty.unit))))) i.2.2.1 :: jn 93 ([])), []⟩

noncomputable def q31_E5 (i : q31_I5) (p : q31_Q5) (R : Type) (K : Ex → St → Option R) : Option R := sumC p (fun p => K (Ex.ret) (q31_X5_0 i p)) fun p => K (Ex.exit 0) (q31_X5_1 i p)

noncomputable def q31_K5 (i : q31_I5) (p : q31_Q5) : Ex × St := sumC p (fun p => (Ex.ret, q31_X5_0 i p)) fun p => (Ex.exit 0, q31_X5_1 i p)

def q31_M5 (i : q31_I5) (v : q31_V5) : den q31_T5.ty := (i.1, i.2.1, i.2.2.1, v.1, ())

def q31_P5 (x : den q31_T5.ty) : q31_I5 × q31_V5 := ((x.1, x.2.1, x.2.2.1, ()), (x.2.2.2.1, ()))

abbrev q31_I17 : Type := List Int × List (Int × Int × Int × Int × Unit) × Int × Int × Int × List (Int × Int × Unit) × List (Int × Int × Unit) × Int × Int × List (Int × Int × Unit) × List (Int × Int × Unit) × Unit

abbrev q31_V17 : Type := Int × Unit

abbrev q31_Q17 : Type := Unit ⊕ Unit

noncomputable def spec_ClassifyCycle_D17 (i : q31_I17) (v : q31_V17) (R : Type) (K : q31_V17 ⊕ q31_Q17 → Option R) : Option R :=
  bif decide (v.1 < (↑(List.length i.2.2.2.2.2.2.2.2.2.2.1) : Int)) then Option.bind (lAt i.2.2.2.2.2.2.1 i.2.2.1) fun v_1 => Option.bind (lAt i.2.2.2.2.2.2.2.2.2.2.1 v.1) fun v_2 => bif v_1.1 == v_2.1 then K (Sum.inr (Sum.inl ())) else K
  (Sum.inl (IntKind.wrap IntKind.i64 (v.1 + 1), ())) else K (Sum.inr (Sum.inr ()))

theorem spec_ClassifyCycle_D17_nat : NatD spec_ClassifyCycle_D17 := fun i v R K => nat_bif (nat_bind fun _ => nat_bind fun _ => nat_bif (nat_some) (nat_some)) (nat_some)

def q31_T17 : Tmpl := ⟨(.junk (.slot (Ty.slice Ty.i) (jk 3 (.slot (Ty.slice YEdge) (.junk (.ptr 0 0 0 (.ptr 1 0 0 (.slot Ty.i (.slot Ty.i (jk 88 .nil)))))))))), (.cells 4 (.slot Ty.i (.slot Ty.i (.slot (Ty.slice YReadMark) (.slot (Ty.slice YReadMark) .nil)))) (.cells 4 (.slot Ty.i (.slot Ty.i (.slot (Ty.slice YReadMark) (.slot (Ty.slice YReadMark) .nil)))) .nil))⟩

def q31_X17_0 (i : q31_I17) (p : Unit) : St := ⟨jn 1 (AV.pv (Ty.slice Ty.i) i.1 :: jn 2 (.n (1) :: AV.pv (Ty.slice YEdge) i.2.1 :: jn 1 (AV.ptr 0
  none 0 0 :: AV.ptr 1 none 0 0 :: .n (i.2.2.1) :: jn 89 ([])))), [some (Cont.cells 4 [[AV.pv Ty.i i.2.2.2.1, AV.pv Ty.i i.2.2.2.2.1, AV.pv (Ty.slice (Ty.prod Ty.i (Ty.prod Ty.i
  Ty.unit))) i.2.2.2.2.2.1, AV.pv (Ty.slice YReadMark) i.2.2.2.2.2.2.1]]), some (Cont.cells 4 [[AV.pv Ty.i i.2.2.2.2.2.2.2.1, AV.pv Ty.i
  i.2.2.2.2.2.2.2.2.1, AV.pv (Ty.slice YReadMark) i.2.2.2.2.2.2.2.2.2.1, AV.pv (Ty.slice YReadMark)
  i.2.2.2.2.2.2.2.2.2.2.1]])]⟩

def q31_X17_1 (i : q31_I17) (p : Unit) : St := ⟨jn 1 (AV.pv (Ty.slice Ty.i) i.1 :: jn 3 (AV.pv (Ty.slice YEdge) i.2.1 :: jn 1 (AV.ptr 0 none 0 0
  :: AV.ptr 1 none 0 0 :: .n (i.2.2.1) :: jn 89 ([])))), [some (Cont.cells 4 [[AV.pv Ty.i i.2.2.2.1, AV.pv Ty.i i.2.2.2.2.1, AV.pv (Ty.slice YReadMark)
  i.2.2.2.2.2.1, AV.pv (Ty.slice YReadMark) i.2.2.2.2.2.2.1]]), some (Cont.cells 4 [[AV.pv Ty.i i.2.2.2.2.2.2.2.1, AV.pv Ty.i i.2.2.2.2.2.2.2.2.1,
  AV.pv (Ty.slice YReadMark) i.2.2.2.2.2.2.2.2.2.1, AV.pv (Ty.slice YReadMark) i.2.2.2.2.2.2.2.2.2.2.1]])]⟩

noncomputable def q31_E17 (i : q31_I17) (p : q31_Q17) (R : Type) (K : Ex → St → Option R) : Option R := sumC p (fun p => K (Ex.ret) (q31_X17_0 i p)) fun p => K (Ex.exit 4) (q31_X17_1 i p)

noncomputable def q31_K17 (i : q31_I17) (p : q31_Q17) : Ex × St := sumC p (fun p => (Ex.ret, q31_X17_0 i p)) fun p => (Ex.exit 4, q31_X17_1 i p)

def q31_M17 (i : q31_I17) (v : q31_V17) : den q31_T17.ty := (i.1, i.2.1, i.2.2.1, v.1, i.2.2.2.1, i.2.2.2.2.1, i.2.2.2.2.2.1, i.2.2.2.2.2.2.1, i.2.2.2.2.2.2.2.1, i.2.2.2.2.2.2.2.2.1, i.2.2.2.2.2.2.2.2.2.1, i.2.2.2.2.2.2.2.2.2.2.1, ())

def q31_P17 (x : den q31_T17.ty) : q31_I17 × q31_V17 := ((x.1, x.2.1, x.2.2.1, x.2.2.2.2.1, x.2.2.2.2.2.1, x.2.2.2.2.2.2.1, x.2.2.2.2.2.2.2.1, x.2.2.2.2.2.2.2.2.1, x.2.2.2.2.2.2.2.2.2.1, x.2.2.2.2.2.2.2.2.2.2.1, x.2.2.2.2.2.2.2.2.2.2.2.1, ()), (x.2.2.2.1, ()))

abbrev q31_I14 : Type := List Int × List (Int × Int × Int × Int × Unit) × Int × Int × List (Int × Int × Unit) × List (Int × Int × Unit) × Int × Int × List (Int × Int × Unit) × List (Int × Int × Unit) × Unit

abbrev q31_V14 : Type := Int × Unit

abbrev q31_Q14 : Type := Unit ⊕ Unit

noncomputable def spec_ClassifyCycle_D14 (i : q31_I14) (v : q31_V14) (R : Type) (K : q31_V14 ⊕ q31_Q14 → Option R) : Option R :=
  bif decide (v.1 < (↑(List.length i.2.2.2.2.2.1) : Int)) then Option.bind (iter (fun v_1 => spec_ClassifyCycle_D17 (i.1, i.2.1, v.1, i.2.2.1, i.2.2.2.1, i.2.2.2.2.1, i.2.2.2.2.2.1, i.2.2.2.2.2.2.1, i.2.2.2.2.2.2.2.1, i.2.2.2.2.2.2.2.2.1,
  i.2.2.2.2.2.2.2.2.2.1, ()) v_1 _ some) (0, ())) fun p => sumC p (fun p => K (Sum.inr (Sum.inl ()))) fun p => K (Sum.inl (IntKind.wrap IntKind.i64 (v.1 + 1), ())) else K (Sum.inr (Sum.inr ()))

theorem spec_ClassifyCycle_D14_nat : NatD spec_ClassifyCycle_D14 := fun i v R K => nat_bif (nat_bind fun _ => nat_sum (fun _ => nat_some) (fun _ => nat_some)) (nat_some)

def q31_T14 : Tmpl := ⟨(.junk (.slot (Ty.slice Ty.i) (jk 3 (.slot (Ty.slice YEdge) (.junk (.ptr 0 0 0 (.ptr 1 0 0 (.slot Ty.i (jk 89 .nil))))))))), (.cells 4 (.slot Ty.i (.slot Ty.i (.slot (Ty.slice YReadMark) (.slot (Ty.slice YReadMark) .nil)))) (.cells 4 (.slot Ty.i (.slot Ty.i (.slot (Ty.slice YReadMark) (.slot (Ty.slice YReadMark) .nil)))) .nil))⟩

def q31_X14_0 (i : q31_I14) (p : Unit) : St := ⟨jn 1 (AV.pv (Ty.slice Ty.i) i.1 :: jn 2 (.n (1) :: AV.pv (Ty.slice YEdge) i.2.1 :: jn 93 ([]))),
  [some (Cont.cells 4 [[AV.pv Ty.i i.2.2.1, AV.pv Ty.i i.2.2.2.1, AV.pv (Ty.slice YReadMark) i.2.2.2.2.1, AV.pv (Ty.slice (Ty.prod Ty.i
  (Ty.prod Ty.i Ty.unit))) i.2.2.2.2.2.1]]), some (Cont.cells 4 [[AV.pv Ty.i i.2.2.2.2.2.2.1, AV.pv Ty.i i.2.2.2.2.2.2.2.1, AV.pv (Ty.slice (Ty.prod Ty.i (Ty.prod (Ty.int
  IntKind.i64) Ty.unit))) i.2.2.2.2.2.2.2.2.1, AV.pv (Ty.slice YReadMark) i.2.2.2.2.2.2.2.2.2.1]])]⟩

def q31_X14_1 (i : q31_I14) (p : Unit) : St := ⟨jn 1 (AV.pv (Ty.slice Ty.i) i.1 :: jn 3 (AV.pv (Ty.slice YEdge) i.2.1 :: jn 93 ([]))), [some
  (Cont.cells 4 [[AV.pv Ty.i i.2.2.1, AV.pv Ty.i i.2.2.2.1, AV.pv (Ty.slice YReadMark) i.2.2.2.2.1, AV.pv (Ty.slice (Ty.prod Ty.i
  (Ty.prod Ty.i Ty.unit))) i.2.2.2.2.2.1]]), some (Cont.cells 4 [[AV.pv Ty.i i.2.2.2.2.2.2.1, AV.pv Ty.i i.2.2.2.2.2.2.2.1, AV.pv (Ty.slice (Ty.prod Ty.i (Ty.prod (Ty.int
  IntKind.i64) Ty.unit))) i.2.2.2.2.2.2.2.2.1, AV.pv (Ty.slice YReadMark) i.2.2.2.2.2.2.2.2.2.1]])]⟩

noncomputable def q31_E14 (i : q31_I14) (p : q31_Q14) (R : Type) (K : Ex → St → Option R) : Option R := sumC p (fun p => K (Ex.ret) (q31_X14_0 i p)) fun p => K (Ex.exit 2) (q31_X14_1 i p)

noncomputable def q31_K14 (i : q31_I14) (p : q31_Q14) : Ex × St := sumC p (fun p => (Ex.ret, q31_X14_0 i p)) fun p => (Ex.exit 2, q31_X14_1 i p)

def q31_M14 (i : q31_I14) (v : q31_V14) : den q31_T14.ty := (i.1, i.2.1, v.1, i.2.2.1, i.2.2.2.1, i.2.2.2.2.1, i.2.2.2.2.2.1, i.2.2.2.2.2.2.1, i.2.2.2.2.2.2.2.1, i.2.2.2.2.2.2.2.2.1, i.2.2.2.2.2.2.2.2.2.1, ())

def q31_P14 (x : den q31_T14.ty) : q31_I14 × q31_V14 := ((x.1, x.2.1, x.2.2.2.1, x.2.2.2.2.1, x.2.2.2.2.2.1, x.2.2.2.2.2.2.1, x.2.2.2.2.2.2.2.1, x.2.2.2.2.2.2.2.2.1, x.2.2.2.2.2.2.2.2.2.1, x.2.2.2.2.2.2.2.2.2.2.1, ()), (x.2.2.1, ()))

noncomputable def q31_C : Cfg := { ti := g_tis, ents := [q20_Ent, q29_Ent, q14_Ent, q30_Ent], ann := [(5, loopFn q31_T5 0 q31_P5 spec_ClassifyCycle_D5 q31_E5), (17, loopFn q31_T17 0 q31_P17 spec_ClassifyCycle_D17 q31_E17), (14, loopFn q31_T14 0 q31_P14 spec_ClassifyCycle_D14 q31_E14)], lent := 0 }

def q31_ti : Tmpl := ⟨(.slot (Ty.slice (Ty.prod Ty.i (Ty.prod Ty.i (Ty.prod (Ty.slice YReadMark) (Ty.prod (Ty.slice (Ty.prod Ty.i (Ty.prod Ty.i
  Ty.unit))) Ty.unit))))) (.slot (Ty.slice Ty.i) .nil)), .nil⟩

def q31_to : Tmpl := ⟨(.slot Ty.i .nil), .nil⟩

noncomputable def spec_ClassifyCycle_S (x : List (Int × Int × List (Int × Int × Unit) × List (Int × Int × Unit) × Unit) × List Int × Unit) : Option (Int × Unit) :=
  Option.bind (spec_BuildGraph_S (x.1, ())) fun v => Option.bind (spec_CheckCycle_S (v.1, x.2.1, ())) fun v_1 => bif !v_1.1 then some (0, ()) else Option.bind (iter (fun v_2 => spec_ClassifyCycle_D5 (x.1, x.2.1, v.1, ()) v_2 _ some)
  (0, ())) fun p => sumC p (fun p => some (3, ())) fun p => bif decide ((↑(List.length x.2.1) : Int) > 2) then some (4, ()) else Option.bind (lAt x.2.1 0) fun v_2 => Option.bind (spec_FindEntry_S (x.1, v_2, ())) fun v_3 => Option.bind (lAt x.1
  v_3.1) fun v_4 => Option.bind (lAt x.2.1 1) fun v_5 => Option.bind (spec_FindEntry_S (x.1, v_5, ())) fun v_6 => Option.bind (lAt x.1 v_6.1) fun v_7 => Option.bind (iter (fun v_8 => spec_ClassifyCycle_D14 (x.2.1, v.1, v_4.1, v_4.2.1,
  v_4.2.2.1, v_4.2.2.2.1, v_7.1, v_7.2.1, v_7.2.2.1, v_7.2.2.2.1, ()) v_8 _ some) (0, ())) fun p => sumC p (fun p => some (1, ())) fun p => Option.bind (lAt x.2.1 0) fun v_8 => Option.bind (lAt x.2.1 1) fun v_9 => Option.bind
  (spec_l23Only_S (v.1, v_8, v_9, ())) fun v_10 => bif v_10.1 then Option.bind (lAt x.2.1 1) fun v_11 => Option.bind (lAt x.2.1 0) fun v_12 => Option.bind (spec_l23Only_S (v.1, v_11, v_12, ())) fun v => bif v.1 then some (2, ()) else some (4,
  ()) else some (4, ())

noncomputable def q31_Ent : Ent := ⟨74, q31_ti, q31_to, spec_ClassifyCycle_S⟩

theorem q31_HC : CfgOK Go.Proofs.Tryz.prog q31_C := hc_of g_tisOK g_wide (all_cons q20_OK (all_cons q29_OK (all_cons q14_OK (all_cons q30_OK all_nil))))

theorem q31_lk17 : LkOK Go.Proofs.Tryz.prog q31_C (lpc Go.Proofs.Tryz.f74 2) :=
  lk_of q31_HC (m := 0) (T := q31_T17) (sp := q31_P17) (D := spec_ClassifyCycle_D17) (E := q31_E17) (by kernel_rfl) (by kernel_rfl) (fun k hk => absurd hk (Nat.not_lt_zero k)) [1, 4, 5, 7, 8, 9] q31_M17 (fun x => rfl) spec_ClassifyCycle_D17_nat q31_K17 (fun i p R K => by rcases p with p | p <;> rfl) (fun i v => by kernel_rfl)

theorem q31_lk14 : LkOK Go.Proofs.Tryz.prog q31_C (lpc Go.Proofs.Tryz.f74 1) :=
  lk_of q31_HC (m := 1) (T := q31_T14) (sp := q31_P14) (D := spec_ClassifyCycle_D14) (E := q31_E14) (by kernel_rfl) (by kernel_rfl) (fun k hk => match k, hk with | 0, _ => lk_at (by kernel_rfl) q31_lk17) [1, 4, 5] q31_M14 (fun x => rfl) spec_ClassifyCycle_D14_nat q31_K14 (fun i p R K => by rcases p with p | p <;> rfl) (fun i v => by kernel_rfl)

theorem q31_lk5 : LkOK Go.Proofs.Tryz.prog q31_C (lpc Go.Proofs.Tryz.f74 0) :=
  lk_of q31_HC (m := 0) (T := q31_T5) (sp := q31_P5) (D := spec_ClassifyCycle_D5) (E := q31_E5) (by kernel_rfl) (by kernel_rfl) (fun k hk => absurd hk (Nat.not_lt_zero k)) [0, 1, 4, 5] q31_M5 (fun x => rfl) spec_ClassifyCycle_D5_nat q31_K5 (fun i p R K => by rcases p with p | p <;> rfl) (fun i v => by kernel_rfl)

theorem q31_OK : EntOK Go.Proofs.Tryz.prog q31_Ent := ok_of q31_HC Go.Proofs.Tryz.func74 3 (by kernel_rfl) (fun k hk => match k, hk with | 0, _ => q31_lk5 | 1, _ => q31_lk14 | 2, _ => q31_lk17) (by kernel_rfl) (by kernel_rfl) (fun x => by kernel_rfl)

/-! impl.in -/

noncomputable def q34_C : Cfg := { ti := g_tis, ents := [], ann := [], lent := 0 }

def q34_ti : Tmpl := ⟨(.slot Ty.i (.slot Ty.i (.slot Ty.i .nil))), .nil⟩

def q34_to : Tmpl := ⟨(.slot (Ty.bool) .nil), .nil⟩

noncomputable def impl_in_S (x : Int × Int × Int × Unit) : Option (Bool × Unit) :=
  bif decide (x.2.1 ≤ x.1) then some (decide (x.1 ≤ x.2.2.1), ()) else some (false, ())

noncomputable def q34_Ent : Ent := ⟨202, q34_ti, q34_to, impl_in_S⟩

theorem q34_HC : CfgOK Go.Proofs.Tryz.prog q34_C := hc_of g_tisOK g_wide all_nil

theorem q34_OK : EntOK Go.Proofs.Tryz.prog q34_Ent := ok_of q34_HC Go.Proofs.Tryz.func202 0 (by kernel_rfl) (fun k hk => absurd hk (Nat.not_lt_zero k)) (by kernel_rfl) (by kernel_rfl) (fun x => by kernel_rfl)

/-! impl.isID -/

noncomputable def q35_C : Cfg := { ti := g_tis, ents := [q34_Ent], ann := [], lent := 0 }

def q35_ti : Tmpl := ⟨(.slot Ty.i .nil), .nil⟩

def q35_to : Tmpl := ⟨(.slot (Ty.bool) .nil), .nil⟩

noncomputable def impl_isID_S (x : Int × Unit) : Option (Bool × Unit) :=
  Option.bind (impl_in_S (x.1, 1, 9, ())) fun v => some (v.1, ())

noncomputable def q35_Ent : Ent := ⟨203, q35_ti, q35_to, impl_isID_S⟩

theorem q35_HC : CfgOK Go.Proofs.Tryz.prog q35_C := hc_of g_tisOK g_wide (all_cons q34_OK all_nil)

theorem q35_OK : EntOK Go.Proofs.Tryz.prog q35_Ent := ok_of q35_HC Go.Proofs.Tryz.func203 0 (by kernel_rfl) (fun k hk => absurd hk (Nat.not_lt_zero k)) (by kernel_rfl) (by kernel_rfl) (fun x => by kernel_rfl)

/-! impl.IsStamp -/

noncomputable def q36_C : Cfg := { ti := g_tis, ents := [q34_Ent], ann := [], lent := 0 }

def q36_ti : Tmpl := ⟨(.slot Ty.i .nil), .nil⟩

def q36_to : Tmpl := ⟨(.slot (Ty.bool) .nil), .nil⟩

noncomputable def impl_IsStamp_S (x : Int × Unit) : Option (Bool × Unit) :=
  Option.bind (impl_in_S (x.1, 1, 999, ())) fun v => some (v.1, ())

noncomputable def q36_Ent : Ent := ⟨260, q36_ti, q36_to, impl_IsStamp_S⟩

theorem q36_HC : CfgOK Go.Proofs.Tryz.prog q36_C := hc_of g_tisOK g_wide (all_cons q34_OK all_nil)

theorem q36_OK : EntOK Go.Proofs.Tryz.prog q36_Ent := ok_of q36_HC Go.Proofs.Tryz.func260 0 (by kernel_rfl) (fun k hk => absurd hk (Nat.not_lt_zero k)) (by kernel_rfl) (by kernel_rfl) (fun x => by kernel_rfl)

/-! impl.isKey -/

noncomputable def q37_C : Cfg := { ti := g_tis, ents := [q34_Ent], ann := [], lent := 0 }

def q37_ti : Tmpl := ⟨(.slot Ty.i .nil), .nil⟩

def q37_to : Tmpl := ⟨(.slot (Ty.bool) .nil), .nil⟩

noncomputable def impl_isKey_S (x : Int × Unit) : Option (Bool × Unit) :=
  Option.bind (impl_in_S (x.1, 0, 5, ())) fun v => some (v.1, ())

noncomputable def q37_Ent : Ent := ⟨200, q37_ti, q37_to, impl_isKey_S⟩

theorem q37_HC : CfgOK Go.Proofs.Tryz.prog q37_C := hc_of g_tisOK g_wide (all_cons q34_OK all_nil)

theorem q37_OK : EntOK Go.Proofs.Tryz.prog q37_Ent := ok_of q37_HC Go.Proofs.Tryz.func200 0 (by kernel_rfl) (fun k hk => absurd hk (Nat.not_lt_zero k)) (by kernel_rfl) (by kernel_rfl) (fun x => by kernel_rfl)

/-! cmp.isNaN[int] -/

noncomputable def q38_C : Cfg := { ti := g_tis, ents := [], ann := [], lent := 0 }

def q38_ti : Tmpl := ⟨(.slot Ty.i .nil), .nil⟩

def q38_to : Tmpl := ⟨(.slot (Ty.bool) .nil), .nil⟩

noncomputable def cmp_isNaN_int_S (x : Int × Unit) : Option (Bool × Unit) :=
  some (x.1 != x.1, ())

noncomputable def q38_Ent : Ent := ⟨289, q38_ti, q38_to, cmp_isNaN_int_S⟩

theorem q38_HC : CfgOK Go.Proofs.Tryz.prog q38_C := hc_of g_tisOK g_wide all_nil

theorem q38_OK : EntOK Go.Proofs.Tryz.prog q38_Ent := ok_of q38_HC Go.Proofs.Tryz.func289 0 (by kernel_rfl) (fun k hk => absurd hk (Nat.not_lt_zero k)) (by kernel_rfl) (by kernel_rfl) (fun x => by kernel_rfl)

/-! cmp.Compare[int] -/

noncomputable def q39_C : Cfg := { ti := g_tis, ents := [q38_Ent], ann := [], lent := 0 }

def q39_ti : Tmpl := ⟨(.slot Ty.i (.slot Ty.i .nil)), .nil⟩

def q39_to : Tmpl := ⟨(.slot Ty.i .nil), .nil⟩

noncomputable def cmp_Compare_int_S (x : Int × Int × Unit) : Option (Int × Unit) :=
  Option.bind (cmp_isNaN_int_S (x.1, ())) fun v => Option.bind (cmp_isNaN_int_S (x.2.1, ())) fun v_1 => bif v.1 then bif v_1.1 then some (0, ()) else some (-1, ()) else bif v_1.1 then some (1, ()) else bif decide (x.1 < x.2.1) then some (-1,
  ()) else bif decide (x.1 > x.2.1) then some (1, ()) else some (0, ())

noncomputable def q39_Ent : Ent := ⟨190, q39_ti, q39_to, cmp_Compare_int_S⟩

theorem q39_HC : CfgOK Go.Proofs.Tryz.prog q39_C := hc_of g_tisOK g_wide (all_cons q38_OK all_nil)

theorem q39_OK : EntOK Go.Proofs.Tryz.prog q39_Ent := ok_of q39_HC Go.Proofs.Tryz.func190 0 (by kernel_rfl) (fun k hk => absurd hk (Nat.not_lt_zero k)) (by kernel_rfl) (by kernel_rfl) (fun x => by kernel_rfl)

/-! cmp.Or[int] -/

abbrev q40_I3 : Type := Int × List Int × Int × Unit

abbrev q40_V3 : Type := Int × Unit

abbrev q40_Q3 : Type := Int × Unit ⊕ Unit

noncomputable def cmp_Or_int_D3 (i : q40_I3) (v : q40_V3) (R : Type) (K : q40_V3 ⊕ q40_Q3 → Option R) : Option R :=
  bif decide (v.1 < i.2.2.1) then Option.bind (lAt i.2.1 v.1) fun v_1 => bif v_1 != i.1 then K (Sum.inr (Sum.inl (v_1, ()))) else K (Sum.inl (IntKind.wrap IntKind.i64 (v.1 + 1), ())) else K (Sum.inr (Sum.inr ()))

theorem cmp_Or_int_D3_nat : NatD cmp_Or_int_D3 := fun i v R K => nat_bif (nat_bind fun _ => nat_bif (nat_some) (nat_some)) (nat_some)

def q40_T3 : Tmpl := ⟨(jk 3 (.slot Ty.i (jk 2 (.slot (Ty.slice Ty.i) (.slot Ty.i (.slot Ty.i (jk 9 .nil))))))), .nil⟩

def q40_X3_0 (i : q40_I3) (p : Int × Unit) : St := ⟨jn 2 (.n (p.1) :: .n (i.1) :: jn 14 ([])), []⟩

def q40_X3_1 (i : q40_I3) (p : Unit) : St := ⟨jn 3 (.n (i.1) :: jn 14 ([])), []⟩

noncomputable def q40_E3 (i : q40_I3) (p : q40_Q3) (R : Type) (K : Ex → St → Option R) : Option R := sumC p (fun p => K (Ex.ret) (q40_X3_0 i p)) fun p => K (Ex.exit 0) (q40_X3_1 i p)

noncomputable def q40_K3 (i : q40_I3) (p : q40_Q3) : Ex × St := sumC p (fun p => (Ex.ret, q40_X3_0 i p)) fun p => (Ex.exit 0, q40_X3_1 i p)

def q40_M3 (i : q40_I3) (v : q40_V3) : den q40_T3.ty := (i.1, i.2.1, i.2.2.1, v.1, ())

def q40_P3 (x : den q40_T3.ty) : q40_I3 × q40_V3 := ((x.1, x.2.1, x.2.2.1, ()), (x.2.2.2.1, ()))

noncomputable def q40_C : Cfg := { ti := g_tis, ents := [], ann := [(3, loopFn q40_T3 0 q40_P3 cmp_Or_int_D3 q40_E3)], lent := 0 }

def q40_ti : Tmpl := ⟨(.slot (Ty.slice Ty.i) .nil), .nil⟩

def q40_to : Tmpl := ⟨(.slot Ty.i .nil), .nil⟩

noncomputable def cmp_Or_int_S (x : List Int × Unit) : Option (Int × Unit) :=
  Option.bind (iter (fun v => cmp_Or_int_D3 (0, x.1, (↑(List.length x.1) : Int), ()) v _ some) (0, ())) fun p => sumC p (fun p => some (p.1, ())) fun p => some (0, ())

noncomputable def q40_Ent : Ent := ⟨275, q40_ti, q40_to, cmp_Or_int_S⟩

theorem q40_HC : CfgOK Go.Proofs.Tryz.prog q40_C := hc_of g_tisOK g_wide all_nil

theorem q40_lk3 : LkOK Go.Proofs.Tryz.prog q40_C (lpc Go.Proofs.Tryz.f275 0) :=
  lk_of q40_HC (m := 0) (T := q40_T3) (sp := q40_P3) (D := cmp_Or_int_D3) (E := q40_E3) (by kernel_rfl) (by kernel_rfl) (fun k hk => absurd hk (Nat.not_lt_zero k)) [2, 3] q40_M3 (fun x => rfl) cmp_Or_int_D3_nat q40_K3 (fun i p R K => by rcases p with p | p <;> rfl) (fun i v => by kernel_rfl)

theorem q40_OK : EntOK Go.Proofs.Tryz.prog q40_Ent := ok_of q40_HC Go.Proofs.Tryz.func275 1 (by kernel_rfl) (fun k hk => match k, hk with | 0, _ => q40_lk3) (by kernel_rfl) (by kernel_rfl) (fun x => by kernel_rfl)

/-! impl.compareMarks -/

noncomputable def q41_C : Cfg := { ti := g_tis, ents := [q39_Ent, q40_Ent], ann := [], lent := 0 }

def q41_ti : Tmpl := ⟨(.slot YReadMark (.slot YReadMark .nil)), .nil⟩

def q41_to : Tmpl := ⟨(.slot Ty.i .nil), .nil⟩

noncomputable def impl_compareMarks_S (x : (Int × Int × Unit) × (Int × Int × Unit) × Unit) : Option (Int × Unit) :=
  Option.bind (cmp_Compare_int_S (x.1.1, x.2.1.1, ())) fun v => Option.bind (cmp_Compare_int_S (x.1.2.1, x.2.1.2.1, ())) fun v_1 => Option.bind (cmp_Or_int_S ([v.1, v_1.1], ())) fun v => some (v.1, ())

noncomputable def q41_Ent : Ent := ⟨333, q41_ti, q41_to, impl_compareMarks_S⟩

theorem q41_HC : CfgOK Go.Proofs.Tryz.prog q41_C := hc_of g_tisOK g_wide (all_cons q39_OK (all_cons q40_OK all_nil))

theorem q41_OK : EntOK Go.Proofs.Tryz.prog q41_Ent := ok_of q41_HC Go.Proofs.Tryz.func333 0 (by kernel_rfl) (fun k hk => absurd hk (Nat.not_lt_zero k)) (by kernel_rfl) (by kernel_rfl) (fun x => by kernel_rfl)

/-! impl.areReads -/

abbrev q42_I2 : Type := List (Int × Int × Unit) × List (Int × Int × Unit) × Int × Unit

abbrev q42_V2 : Type := Int × Unit

abbrev q42_Q2 : Type := Int × Int × Unit ⊕ Int × Int × Unit ⊕ Int × Int × Unit ⊕ Unit

noncomputable def impl_areReads_D2 (i : q42_I2) (v : q42_V2) (R : Type) (K : q42_V2 ⊕ q42_Q2 → Option R) : Option R :=
  bif decide (v.1 < i.2.2.1) then Option.bind (lAt i.2.1 v.1) fun v_1 => Option.bind (impl_isKey_S (v_1.1, ())) fun v_2 => bif !v_2.1 then K (Sum.inr (Sum.inl (v_1.1, v_1.2.1, ()))) else Option.bind (impl_in_S (v_1.2.1, 0, 999, ())) fun v_3 =>
  bif !v_3.1 then K (Sum.inr (Sum.inr (Sum.inl (v_1.1, v_1.2.1, ())))) else bif decide (v.1 > 0) then Option.bind (lAt i.1 (IntKind.wrap IntKind.i64 (v.1 - 1))) fun v_4 => Option.bind (impl_compareMarks_S ((v_4.1, v_4.2.1, ()), (v_1.1,
  v_1.2.1, ()), ())) fun v_5 => bif decide (v_5.1 ≥ 0) then K (Sum.inr (Sum.inr (Sum.inr (Sum.inl (v_1.1, v_1.2.1, ()))))) else K (Sum.inl (IntKind.wrap IntKind.i64 (v.1 + 1), ())) else K (Sum.inl (IntKind.wrap IntKind.i64 (v.1 + 1), ())) else
  K (Sum.inr (Sum.inr (Sum.inr (Sum.inr ()))))

theorem impl_areReads_D2_nat : NatD impl_areReads_D2 := fun i v R K => nat_bif (nat_bind fun _ => nat_bind fun _ => nat_bif (nat_some) (nat_bind fun _ => nat_bif (nat_some) (nat_bif (nat_bind fun _ => nat_bind fun _ => nat_bif (nat_some) (nat_some)) (nat_some)))) (nat_some)

def q42_T2 : Tmpl := ⟨(.slot (Ty.slice YReadMark) (jk 4 (.slot (Ty.slice YReadMark) (.slot Ty.i (.slot Ty.i (jk 32 .nil)))))), .nil⟩

def q42_X2_0 (i : q42_I2) (p : Int × Int × Unit) : St := ⟨AV.pv (Ty.slice YReadMark) i.1 :: jn 1 (.b (false) :: jn 37 ([])), [some (Cont.cells 2 [[AV.pv Ty.i p.1, AV.pv Ty.i p.2.1]])]⟩

def q42_X2_1 (i : q42_I2) (p : Int × Int × Unit) : St := ⟨AV.pv (Ty.slice YReadMark) i.1 :: jn 1 (.b (false) :: jn 37 ([])), [some (Cont.cells 2 [[AV.pv Ty.i p.1, AV.pv Ty.i p.2.1]])]⟩

def q42_X2_2 (i : q42_I2) (p : Int × Int × Unit) : St := ⟨AV.pv (Ty.slice YReadMark) i.1 :: jn 1 (.b (false) :: jn 37 ([])), [some (Cont.cells 2 [[AV.pv Ty.i p.1, AV.pv Ty.i p.2.1]])]⟩

def q42_X2_3 (i : q42_I2) (p : Unit) : St := ⟨AV.pv (Ty.slice YReadMark) i.1 :: jn 39 ([]), []⟩

noncomputable def q42_E2 (i : q42_I2) (p : q42_Q2) (R : Type) (K : Ex → St → Option R) : Option R := sumC p (fun p => K (Ex.ret) (q42_X2_0 i p)) fun p => sumC p (fun p => K (Ex.ret) (q42_X2_1 i p)) fun p => sumC p (fun p => K (Ex.ret) (q42_X2_2 i p)) fun p => K (Ex.exit 0) (q42_X2_3 i p)

noncomputable def q42_K2 (i : q42_I2) (p : q42_Q2) : Ex × St := sumC p (fun p => (Ex.ret, q42_X2_0 i p)) fun p => sumC p (fun p => (Ex.ret, q42_X2_1 i p)) fun p => sumC p (fun p => (Ex.ret, q42_X2_2 i p)) fun p => (Ex.exit 0, q42_X2_3 i p)

def q42_M2 (i : q42_I2) (v : q42_V2) : den q42_T2.ty := (i.1, i.2.1, i.2.2.1, v.1, ())

def q42_P2 (x : den q42_T2.ty) : q42_I2 × q42_V2 := ((x.1, x.2.1, x.2.2.1, ()), (x.2.2.2.1, ()))

noncomputable def q42_C : Cfg := { ti := g_tis, ents := [q37_Ent, q34_Ent, q41_Ent], ann := [(2, loopFn q42_T2 0 q42_P2 impl_areReads_D2 q42_E2)], lent := 0 }

def q42_ti : Tmpl := ⟨(.slot (Ty.slice YReadMark) .nil), .nil⟩

def q42_to : Tmpl := ⟨(.slot (Ty.bool) .nil), .nil⟩

noncomputable def impl_areReads_S (x : List (Int × Int × Unit) × Unit) : Option (Bool × Unit) :=
  Option.bind (iter (fun v => impl_areReads_D2 (x.1, x.1, (↑(List.length x.1) : Int), ()) v _ some) (0, ())) fun p => sumC p (fun p => some (false, ())) fun p => sumC p (fun p => some (false, ())) fun p => sumC p (fun p => some
  (false, ())) fun p => some (decide ((↑(List.length x.1) : Int) ≤ 60), ())

noncomputable def q42_Ent : Ent := ⟨261, q42_ti, q42_to, impl_areReads_S⟩

theorem q42_HC : CfgOK Go.Proofs.Tryz.prog q42_C := hc_of g_tisOK g_wide (all_cons q37_OK (all_cons q34_OK (all_cons q41_OK all_nil)))

theorem q42_lk2 : LkOK Go.Proofs.Tryz.prog q42_C (lpc Go.Proofs.Tryz.f261 0) :=
  lk_of q42_HC (m := 0) (T := q42_T2) (sp := q42_P2) (D := impl_areReads_D2) (E := q42_E2) (by kernel_rfl) (by kernel_rfl) (fun k hk => absurd hk (Nat.not_lt_zero k)) [0, 2] q42_M2 (fun x => rfl) impl_areReads_D2_nat q42_K2 (fun i p R K => by rcases p with p | p | p | p <;> rfl) (fun i v => by kernel_rfl)

theorem q42_OK : EntOK Go.Proofs.Tryz.prog q42_Ent := ok_of q42_HC Go.Proofs.Tryz.func261 1 (by kernel_rfl) (fun k hk => match k, hk with | 0, _ => q42_lk2) (by kernel_rfl) (by kernel_rfl) (fun x => by kernel_rfl)

/-! impl.isValue -/

noncomputable def q43_C : Cfg := { ti := g_tis, ents := [q34_Ent], ann := [], lent := 0 }

def q43_ti : Tmpl := ⟨(.slot Ty.i .nil), .nil⟩

def q43_to : Tmpl := ⟨(.slot (Ty.bool) .nil), .nil⟩

noncomputable def impl_isValue_S (x : Int × Unit) : Option (Bool × Unit) :=
  Option.bind (impl_in_S (x.1, -1, 99, ())) fun v => some (v.1, ())

noncomputable def q43_Ent : Ent := ⟨201, q43_ti, q43_to, impl_isValue_S⟩

theorem q43_HC : CfgOK Go.Proofs.Tryz.prog q43_C := hc_of g_tisOK g_wide (all_cons q34_OK all_nil)

theorem q43_OK : EntOK Go.Proofs.Tryz.prog q43_Ent := ok_of q43_HC Go.Proofs.Tryz.func201 0 (by kernel_rfl) (fun k hk => absurd hk (Nat.not_lt_zero k)) (by kernel_rfl) (by kernel_rfl) (fun x => by kernel_rfl)

/-! impl.areWrites -/

abbrev q44_I2 : Type := List (Int × Int × Unit) × List (Int × Int × Unit) × Int × Unit

abbrev q44_V2 : Type := Int × Unit

abbrev q44_Q2 : Type := Int × Int × Unit ⊕ Int × Int × Unit ⊕ Int × Int × Unit ⊕ Unit

noncomputable def impl_areWrites_D2 (i : q44_I2) (v : q44_V2) (R : Type) (K : q44_V2 ⊕ q44_Q2 → Option R) : Option R :=
  bif decide (v.1 < i.2.2.1) then Option.bind (lAt i.2.1 v.1) fun v_1 => Option.bind (impl_isKey_S (v_1.1, ())) fun v_2 => bif !v_2.1 then K (Sum.inr (Sum.inl (v_1.1, v_1.2.1, ()))) else Option.bind (impl_isValue_S (v_1.2.1, ())) fun v_3 =>
  bif !v_3.1 then K (Sum.inr (Sum.inr (Sum.inl (v_1.1, v_1.2.1, ())))) else bif decide (v.1 > 0) then Option.bind (lAt i.1 (IntKind.wrap IntKind.i64 (v.1 - 1))) fun v_4 => bif decide (v_4.1 ≥ v_1.1) then K (Sum.inr (Sum.inr (Sum.inr (Sum.inl
  (v_1.1, v_1.2.1, ()))))) else K (Sum.inl (IntKind.wrap IntKind.i64 (v.1 + 1), ())) else K (Sum.inl (IntKind.wrap IntKind.i64 (v.1 + 1), ())) else K (Sum.inr (Sum.inr (Sum.inr (Sum.inr ()))))

theorem impl_areWrites_D2_nat : NatD impl_areWrites_D2 := fun i v R K => nat_bif (nat_bind fun _ => nat_bind fun _ => nat_bif (nat_some) (nat_bind fun _ => nat_bif (nat_some) (nat_bif (nat_bind fun _ => nat_bif (nat_some) (nat_some)) (nat_some)))) (nat_some)

def q44_T2 : Tmpl := ⟨(.slot (Ty.slice YReadMark) (jk 4 (.slot (Ty.slice YReadMark) (.slot Ty.i (.slot Ty.i (jk 30 .nil)))))), .nil⟩

def q44_X2_0 (i : q44_I2) (p : Int × Int × Unit) : St := ⟨jn 2 (.b (false) :: jn 35 ([])), [some (Cont.cells 2 [[AV.pv Ty.i p.1, AV.pv Ty.i p.2.1]])]⟩

def q44_X2_1 (i : q44_I2) (p : Int × Int × Unit) : St := ⟨jn 2 (.b (false) :: jn 35 ([])), [some (Cont.cells 2 [[AV.pv Ty.i p.1, AV.pv Ty.i p.2.1]])]⟩

def q44_X2_2 (i : q44_I2) (p : Int × Int × Unit) : St := ⟨jn 2 (.b (false) :: jn 35 ([])), [some (Cont.cells 2 [[AV.pv Ty.i p.1, AV.pv Ty.i p.2.1]])]⟩

def q44_X2_3 (i : q44_I2) (p : Unit) : St := ⟨jn 38 ([]), []⟩

noncomputable def q44_E2 (i : q44_I2) (p : q44_Q2) (R : Type) (K : Ex → St → Option R) : Option R := sumC p (fun p => K (Ex.ret) (q44_X2_0 i p)) fun p => sumC p (fun p => K (Ex.ret) (q44_X2_1 i p)) fun p => sumC p (fun p => K (Ex.ret) (q44_X2_2 i p)) fun p => K (Ex.exit 0) (q44_X2_3 i p)

noncomputable def q44_K2 (i : q44_I2) (p : q44_Q2) : Ex × St := sumC p (fun p => (Ex.ret, q44_X2_0 i p)) fun p => sumC p (fun p => (Ex.ret, q44_X2_1 i p)) fun p => sumC p (fun p => (Ex.ret, q44_X2_2 i p)) fun p => (Ex.exit 0, q44_X2_3 i p)

def q44_M2 (i : q44_I2) (v : q44_V2) : den q44_T2.ty := (i.1, i.2.1, i.2.2.1, v.1, ())

def q44_P2 (x : den q44_T2.ty) : q44_I2 × q44_V2 := ((x.1, x.2.1, x.2.2.1, ()), (x.2.2.2.1, ()))

noncomputable def q44_C : Cfg := { ti := g_tis, ents := [q37_Ent, q43_Ent], ann := [(2, loopFn q44_T2 0 q44_P2 impl_areWrites_D2 q44_E2)], lent := 0 }

def q44_ti : Tmpl := ⟨(.slot (Ty.slice YReadMark) .nil), .nil⟩

def q44_to : Tmpl := ⟨(.slot (Ty.bool) .nil), .nil⟩

noncomputable def impl_areWrites_S (x : List (Int × Int × Unit) × Unit) : Option (Bool × Unit) :=
  Option.bind (iter (fun v => impl_areWrites_D2 (x.1, x.1, (↑(List.length x.1) : Int), ()) v _ some) (0, ())) fun p => sumC p (fun p => some (false, ())) fun p => sumC p (fun p => some (false, ())) fun p => sumC p (fun p => some
  (false, ())) fun p => some (true, ())

noncomputable def q44_Ent : Ent := ⟨262, q44_ti, q44_to, impl_areWrites_S⟩

theorem q44_HC : CfgOK Go.Proofs.Tryz.prog q44_C := hc_of g_tisOK g_wide (all_cons q37_OK (all_cons q43_OK all_nil))

theorem q44_lk2 : LkOK Go.Proofs.Tryz.prog q44_C (lpc Go.Proofs.Tryz.f262 0) :=
  lk_of q44_HC (m := 0) (T := q44_T2) (sp := q44_P2) (D := impl_areWrites_D2) (E := q44_E2) (by kernel_rfl) (by kernel_rfl) (fun k hk => absurd hk (Nat.not_lt_zero k)) [2] q44_M2 (fun x => rfl) impl_areWrites_D2_nat q44_K2 (fun i p R K => by rcases p with p | p | p | p <;> rfl) (fun i v => by kernel_rfl)

theorem q44_OK : EntOK Go.Proofs.Tryz.prog q44_Ent := ok_of q44_HC Go.Proofs.Tryz.func262 1 (by kernel_rfl) (fun k hk => match k, hk with | 0, _ => q44_lk2) (by kernel_rfl) (by kernel_rfl) (fun x => by kernel_rfl)

/-! impl.isEntry -/

noncomputable def q45_C : Cfg := { ti := g_tis, ents := [q35_Ent, q36_Ent, q42_Ent, q44_Ent], ann := [], lent := 0 }

def q45_ti : Tmpl := ⟨(.slot (Ty.prod Ty.i (Ty.prod Ty.i (Ty.prod (Ty.slice YReadMark) (Ty.prod (Ty.slice YReadMark)
  Ty.unit)))) .nil), .nil⟩

def q45_to : Tmpl := ⟨(.slot (Ty.bool) .nil), .nil⟩

noncomputable def impl_isEntry_S (x : (Int × Int × List (Int × Int × Unit) × List (Int × Int × Unit) × Unit) × Unit) : Option (Bool × Unit) :=
  Option.bind (impl_isID_S (x.1.1, ())) fun v => bif v.1 then Option.bind (impl_IsStamp_S (x.1.2.1, ())) fun v => bif v.1 then Option.bind (impl_areReads_S (x.1.2.2.1, ())) fun v => bif v.1 then Option.bind (impl_areWrites_S (x.1.2.2.2.1, ()))
  fun v => some (v.1, ()) else some (false, ()) else some (false, ()) else some (false, ())

noncomputable def q45_Ent : Ent := ⟨140, q45_ti, q45_to, impl_isEntry_S⟩

theorem q45_HC : CfgOK Go.Proofs.Tryz.prog q45_C := hc_of g_tisOK g_wide (all_cons q35_OK (all_cons q36_OK (all_cons q42_OK (all_cons q44_OK all_nil))))

theorem q45_OK : EntOK Go.Proofs.Tryz.prog q45_Ent := ok_of q45_HC Go.Proofs.Tryz.func140 0 (by kernel_rfl) (fun k hk => absurd hk (Nat.not_lt_zero k)) (by kernel_rfl) (by kernel_rfl) (fun x => by kernel_rfl)

/-! impl.FindEntry$1 -/

noncomputable def q46_C : Cfg := { ti := g_tis, ents := [], ann := [], lent := 0 }

def q46_ti : Tmpl := ⟨(.slot (Ty.prod Ty.i (Ty.prod Ty.i (Ty.prod (Ty.slice YReadMark) (Ty.prod (Ty.slice YReadMark)
  Ty.unit)))) (.slot (Ty.iref Ty.i) .nil)), .nil⟩

def q46_to : Tmpl := ⟨(.slot (Ty.bool) .nil), .nil⟩

noncomputable def impl_FindEntry_1_S (x : (Int × Int × List (Int × Int × Unit) × List (Int × Int × Unit) × Unit) × Option Int × Unit) : Option (Bool × Unit) :=
  Option.bind x.2.1 fun v => some (x.1.1 == v, ())

noncomputable def q46_Ent : Ent := ⟨263, q46_ti, q46_to, impl_FindEntry_1_S⟩

theorem q46_HC : CfgOK Go.Proofs.Tryz.prog q46_C := hc_of g_tisOK g_wide all_nil

theorem q46_OK : EntOK Go.Proofs.Tryz.prog q46_Ent := ok_of q46_HC Go.Proofs.Tryz.func263 0 (by kernel_rfl) (fun k hk => absurd hk (Nat.not_lt_zero k)) (by kernel_rfl) (by kernel_rfl) (fun x => by kernel_rfl)

/-! slices.IndexFunc[[]impl.Entry,impl.Entry] -/

abbrev q47_I2 : Type := List (Int × Int × List (Int × Int × Unit) × List (Int × Int × Unit) × Unit) × (Option Int × Unit) × Int × Unit

abbrev q47_V2 : Type := Int × Unit

abbrev q47_Q2 : Type := Int × Unit ⊕ Unit

noncomputable def slices_IndexFunc__impl_FindEntry_1_D2 (i : q47_I2) (v : q47_V2) (R : Type) (K : q47_V2 ⊕ q47_Q2 → Option R) : Option R :=
  bif decide (v.1 < i.2.2.1) then Option.bind (lAt i.1 v.1) fun v_1 => Option.bind (impl_FindEntry_1_S ((v_1.1, v_1.2.1, v_1.2.2.1, v_1.2.2.2.1, ()), i.2.1.1, ())) fun v_2 => bif v_2.1 then K (Sum.inr (Sum.inl (v.1, ()))) else K (Sum.inl
  (IntKind.wrap IntKind.i64 (v.1 + 1), ())) else K (Sum.inr (Sum.inr ()))

theorem slices_IndexFunc__impl_FindEntry_1_D2_nat : NatD slices_IndexFunc__impl_FindEntry_1_D2 := fun i v R K => nat_bif (nat_bind fun _ => nat_bind fun _ => nat_bif (nat_some) (nat_some)) (nat_some)

def q47_T2 : Tmpl := ⟨(.slot (Ty.slice (Ty.prod Ty.i (Ty.prod Ty.i (Ty.prod (Ty.slice YReadMark) (Ty.prod (Ty.slice (Ty.prod Ty.i (Ty.prod Ty.i
  Ty.unit))) Ty.unit))))) (.slot (Ty.fn 263 (Ty.prod (Ty.iref Ty.i) Ty.unit)) (jk 5 (.slot Ty.i (.slot Ty.i (jk 10 .nil)))))), .nil⟩

def q47_X2_0 (i : q47_I2) (p : Int × Unit) : St := ⟨jn 4 (.n (p.1) :: jn 14 ([])), []⟩

def q47_X2_1 (i : q47_I2) (p : Unit) : St := ⟨jn 19 ([]), []⟩

noncomputable def q47_E2 (i : q47_I2) (p : q47_Q2) (R : Type) (K : Ex → St → Option R) : Option R := sumC p (fun p => K (Ex.ret) (q47_X2_0 i p)) fun p => K (Ex.exit 0) (q47_X2_1 i p)

noncomputable def q47_K2 (i : q47_I2) (p : q47_Q2) : Ex × St := sumC p (fun p => (Ex.ret, q47_X2_0 i p)) fun p => (Ex.exit 0, q47_X2_1 i p)

def q47_M2 (i : q47_I2) (v : q47_V2) : den q47_T2.ty := (i.1, i.2.1, i.2.2.1, v.1, ())

def q47_P2 (x : den q47_T2.ty) : q47_I2 × q47_V2 := ((x.1, x.2.1, x.2.2.1, ()), (x.2.2.2.1, ()))

noncomputable def q47_C : Cfg := { ti := g_tis, ents := [q46_Ent], ann := [(2, loopFn q47_T2 0 q47_P2 slices_IndexFunc__impl_FindEntry_1_D2 q47_E2)], lent := 0 }

def q47_ti : Tmpl := ⟨(.slot (Ty.slice (Ty.prod Ty.i (Ty.prod Ty.i (Ty.prod (Ty.slice YReadMark) (Ty.prod (Ty.slice (Ty.prod Ty.i (Ty.prod Ty.i
  Ty.unit))) Ty.unit))))) (.slot (Ty.fn 263 (Ty.prod (Ty.iref Ty.i) Ty.unit)) .nil)), .nil⟩

def q47_to : Tmpl := ⟨(.slot Ty.i .nil), .nil⟩

noncomputable def slices_IndexFunc__impl_FindEntry_1_S (x : List (Int × Int × List (Int × Int × Unit) × List (Int × Int × Unit) × Unit) × (Option Int × Unit) × Unit) : Option (Int × Unit) :=
  Option.bind (iter (fun v => slices_IndexFunc__impl_FindEntry_1_D2 (x.1, x.2.1, (↑(List.length x.1) : Int), ()) v _ some) (0, ())) fun p => sumC p (fun p => some (p.1, ())) fun p => some (-1, ())

noncomputable def q47_Ent : Ent := ⟨143, q47_ti, q47_to, slices_IndexFunc__impl_FindEntry_1_S⟩

theorem q47_HC : CfgOK Go.Proofs.Tryz.prog q47_C := hc_of g_tisOK g_wide (all_cons q46_OK all_nil)

theorem q47_lk2 : LkOK Go.Proofs.Tryz.prog q47_C (lpc Go.Proofs.Tryz.f143 0) :=
  lk_of q47_HC (m := 0) (T := q47_T2) (sp := q47_P2) (D := slices_IndexFunc__impl_FindEntry_1_D2) (E := q47_E2) (by kernel_rfl) (by kernel_rfl) (fun k hk => absurd hk (Nat.not_lt_zero k)) [4] q47_M2 (fun x => rfl) slices_IndexFunc__impl_FindEntry_1_D2_nat q47_K2 (fun i p R K => by rcases p with p | p <;> rfl) (fun i v => by kernel_rfl)

theorem q47_OK : EntOK Go.Proofs.Tryz.prog q47_Ent := ok_of q47_HC Go.Proofs.Tryz.func143 1 (by kernel_rfl) (fun k hk => match k, hk with | 0, _ => q47_lk2) (by kernel_rfl) (by kernel_rfl) (fun x => by kernel_rfl)

/-! impl.FindEntry -/

noncomputable def q48_C : Cfg := { ti := g_tis, ents := [q47_Ent], ann := [], lent := 0 }

def q48_ti : Tmpl := ⟨(.slot (Ty.slice (Ty.prod Ty.i (Ty.prod Ty.i (Ty.prod (Ty.slice YReadMark) (Ty.prod (Ty.slice (Ty.prod Ty.i (Ty.prod Ty.i
  Ty.unit))) Ty.unit))))) (.slot Ty.i .nil)), .nil⟩

def q48_to : Tmpl := ⟨(.slot Ty.i .nil), .nil⟩

noncomputable def impl_FindEntry_S (x : List (Int × Int × List (Int × Int × Unit) × List (Int × Int × Unit) × Unit) × Int × Unit) : Option (Int × Unit) :=
  Option.bind (slices_IndexFunc__impl_FindEntry_1_S (x.1, (some x.2.1, ()), ())) fun v => some (v.1, ())

noncomputable def q48_Ent : Ent := ⟨141, q48_ti, q48_to, impl_FindEntry_S⟩

theorem q48_HC : CfgOK Go.Proofs.Tryz.prog q48_C := hc_of g_tisOK g_wide (all_cons q47_OK all_nil)

theorem q48_OK : EntOK Go.Proofs.Tryz.prog q48_Ent := ok_of q48_HC Go.Proofs.Tryz.func141 0 (by kernel_rfl) (fun k hk => absurd hk (Nat.not_lt_zero k)) (by kernel_rfl) (by kernel_rfl) (fun x => by kernel_rfl)

/-! (impl.Entry).writes$1 -/

noncomputable def q49_C : Cfg := { ti := g_tis, ents := [], ann := [], lent := 0 }

def q49_ti : Tmpl := ⟨(.slot YReadMark (.slot (Ty.iref Ty.i) .nil)), .nil⟩

def q49_to : Tmpl := ⟨(.slot (Ty.bool) .nil), .nil⟩

noncomputable def impl_Entry_writes_1_S (x : (Int × Int × Unit) × Option Int × Unit) : Option (Bool × Unit) :=
  Option.bind x.2.1 fun v => some (x.1.1 == v, ())

noncomputable def q49_Ent : Ent := ⟨278, q49_ti, q49_to, impl_Entry_writes_1_S⟩

theorem q49_HC : CfgOK Go.Proofs.Tryz.prog q49_C := hc_of g_tisOK g_wide all_nil

theorem q49_OK : EntOK Go.Proofs.Tryz.prog q49_Ent := ok_of q49_HC Go.Proofs.Tryz.func278 0 (by kernel_rfl) (fun k hk => absurd hk (Nat.not_lt_zero k)) (by kernel_rfl) (by kernel_rfl) (fun x => by kernel_rfl)

/-! slices.IndexFunc[[]impl.Write,impl.Write] -/

abbrev q50_I2 : Type := List (Int × Int × Unit) × (Option Int × Unit) × Int × Unit

abbrev q50_V2 : Type := Int × Unit

abbrev q50_Q2 : Type := Int × Unit ⊕ Unit

noncomputable def slices_IndexFunc__impl_Entry_writes_1_D2 (i : q50_I2) (v : q50_V2) (R : Type) (K : q50_V2 ⊕ q50_Q2 → Option R) : Option R :=
  bif decide (v.1 < i.2.2.1) then Option.bind (lAt i.1 v.1) fun v_1 => Option.bind (impl_Entry_writes_1_S ((v_1.1, v_1.2.1, ()), i.2.1.1, ())) fun v_2 => bif v_2.1 then K (Sum.inr (Sum.inl (v.1, ()))) else K (Sum.inl (IntKind.wrap IntKind.i64
  (v.1 + 1), ())) else K (Sum.inr (Sum.inr ()))

theorem slices_IndexFunc__impl_Entry_writes_1_D2_nat : NatD slices_IndexFunc__impl_Entry_writes_1_D2 := fun i v R K => nat_bif (nat_bind fun _ => nat_bind fun _ => nat_bif (nat_some) (nat_some)) (nat_some)

def q50_T2 : Tmpl := ⟨(.slot (Ty.slice YReadMark) (.slot (Ty.fn 278 (Ty.prod (Ty.iref Ty.i) Ty.unit)) (jk 5 (.slot Ty.i (.slot Ty.i (jk 10 .nil)))))), .nil⟩

def q50_X2_0 (i : q50_I2) (p : Int × Unit) : St := ⟨jn 4 (.n (p.1) :: jn 14 ([])), []⟩

def q50_X2_1 (i : q50_I2) (p : Unit) : St := ⟨jn 19 ([]), []⟩

noncomputable def q50_E2 (i : q50_I2) (p : q50_Q2) (R : Type) (K : Ex → St → Option R) : Option R := sumC p (fun p => K (Ex.ret) (q50_X2_0 i p)) fun p => K (Ex.exit 0) (q50_X2_1 i p)

noncomputable def q50_K2 (i : q50_I2) (p : q50_Q2) : Ex × St := sumC p (fun p => (Ex.ret, q50_X2_0 i p)) fun p => (Ex.exit 0, q50_X2_1 i p)

def q50_M2 (i : q50_I2) (v : q50_V2) : den q50_T2.ty := (i.1, i.2.1, i.2.2.1, v.1, ())

def q50_P2 (x : den q50_T2.ty) : q50_I2 × q50_V2 := ((x.1, x.2.1, x.2.2.1, ()), (x.2.2.2.1, ()))

noncomputable def q50_C : Cfg := { ti := g_tis, ents := [q49_Ent], ann := [(2, loopFn q50_T2 0 q50_P2 slices_IndexFunc__impl_Entry_writes_1_D2 q50_E2)], lent := 0 }

def q50_ti : Tmpl := ⟨(.slot (Ty.slice YReadMark) (.slot (Ty.fn 278 (Ty.prod (Ty.iref Ty.i) Ty.unit)) .nil)), .nil⟩

def q50_to : Tmpl := ⟨(.slot Ty.i .nil), .nil⟩

noncomputable def slices_IndexFunc__impl_Entry_writes_1_S (x : List (Int × Int × Unit) × (Option Int × Unit) × Unit) : Option (Int × Unit) :=
  Option.bind (iter (fun v => slices_IndexFunc__impl_Entry_writes_1_D2 (x.1, x.2.1, (↑(List.length x.1) : Int), ()) v _ some) (0, ())) fun p => sumC p (fun p => some (p.1, ())) fun p => some (-1, ())

noncomputable def q50_Ent : Ent := ⟨277, q50_ti, q50_to, slices_IndexFunc__impl_Entry_writes_1_S⟩

theorem q50_HC : CfgOK Go.Proofs.Tryz.prog q50_C := hc_of g_tisOK g_wide (all_cons q49_OK all_nil)

theorem q50_lk2 : LkOK Go.Proofs.Tryz.prog q50_C (lpc Go.Proofs.Tryz.f277 0) :=
  lk_of q50_HC (m := 0) (T := q50_T2) (sp := q50_P2) (D := slices_IndexFunc__impl_Entry_writes_1_D2) (E := q50_E2) (by kernel_rfl) (by kernel_rfl) (fun k hk => absurd hk (Nat.not_lt_zero k)) [4] q50_M2 (fun x => rfl) slices_IndexFunc__impl_Entry_writes_1_D2_nat q50_K2 (fun i p R K => by rcases p with p | p <;> rfl) (fun i v => by kernel_rfl)

theorem q50_OK : EntOK Go.Proofs.Tryz.prog q50_Ent := ok_of q50_HC Go.Proofs.Tryz.func277 1 (by kernel_rfl) (fun k hk => match k, hk with | 0, _ => q50_lk2) (by kernel_rfl) (by kernel_rfl) (fun x => by kernel_rfl)

/-! slices.ContainsFunc[[]impl.Write,impl.Write] -/

noncomputable def q51_C : Cfg := { ti := g_tis, ents := [q50_Ent], ann := [], lent := 0 }

def q51_ti : Tmpl := ⟨(.slot (Ty.slice YReadMark) (.slot (Ty.fn 278 (Ty.prod (Ty.iref Ty.i) Ty.unit)) .nil)), .nil⟩

def q51_to : Tmpl := ⟨(.slot (Ty.bool) .nil), .nil⟩

noncomputable def slices_ContainsFunc__impl_Entry_writes_1_S (x : List (Int × Int × Unit) × (Option Int × Unit) × Unit) : Option (Bool × Unit) :=
  Option.bind (slices_IndexFunc__impl_Entry_writes_1_S (x.1, x.2.1, ())) fun v => some (decide (v.1 ≥ 0), ())

noncomputable def q51_Ent : Ent := ⟨169, q51_ti, q51_to, slices_ContainsFunc__impl_Entry_writes_1_S⟩

theorem q51_HC : CfgOK Go.Proofs.Tryz.prog q51_C := hc_of g_tisOK g_wide (all_cons q50_OK all_nil)

theorem q51_OK : EntOK Go.Proofs.Tryz.prog q51_Ent := ok_of q51_HC Go.Proofs.Tryz.func169 0 (by kernel_rfl) (fun k hk => absurd hk (Nat.not_lt_zero k)) (by kernel_rfl) (by kernel_rfl) (fun x => by kernel_rfl)

/-! (impl.Entry).writes -/

noncomputable def q52_C : Cfg := { ti := g_tis, ents := [q51_Ent], ann := [], lent := 0 }

def q52_ti : Tmpl := ⟨(.slot (Ty.prod Ty.i (Ty.prod Ty.i (Ty.prod (Ty.slice YReadMark) (Ty.prod (Ty.slice YReadMark)
  Ty.unit)))) (.slot Ty.i .nil)), .nil⟩

def q52_to : Tmpl := ⟨(.slot (Ty.bool) .nil), .nil⟩

noncomputable def impl_Entry_writes_S (x : (Int × Int × List (Int × Int × Unit) × List (Int × Int × Unit) × Unit) × Int × Unit) : Option (Bool × Unit) :=
  Option.bind (slices_ContainsFunc__impl_Entry_writes_1_S (x.1.2.2.2.1, (some x.2.1, ()), ())) fun v => some (v.1, ())

noncomputable def q52_Ent : Ent := ⟨171, q52_ti, q52_to, impl_Entry_writes_S⟩

theorem q52_HC : CfgOK Go.Proofs.Tryz.prog q52_C := hc_of g_tisOK g_wide (all_cons q51_OK all_nil)

theorem q52_OK : EntOK Go.Proofs.Tryz.prog q52_Ent := ok_of q52_HC Go.Proofs.Tryz.func171 0 (by kernel_rfl) (fun k hk => absurd hk (Nat.not_lt_zero k)) (by kernel_rfl) (by kernel_rfl) (fun x => by kernel_rfl)

/-! impl.WriterOf -/

abbrev q53_I2 : Type := List (Int × Int × List (Int × Int × Unit) × List (Int × Int × Unit) × Unit) × Int × Int × Int × Unit

abbrev q53_V2 : Type := Int × Unit

abbrev q53_Q2 : Type := Int × Int × List (Int × Int × Unit) × List (Int × Int × Unit) × Unit ⊕ Unit

noncomputable def impl_WriterOf_D2 (i : q53_I2) (v : q53_V2) (R : Type) (K : q53_V2 ⊕ q53_Q2 → Option R) : Option R :=
  bif decide (v.1 < i.2.1) then Option.bind (lAt i.1 v.1) fun v_1 => bif v_1.2.1 == i.2.2.2.1 then Option.bind (impl_Entry_writes_S ((v_1.1, v_1.2.1, v_1.2.2.1, v_1.2.2.2.1, ()), i.2.2.1, ())) fun v_2 => bif v_2.1 then K (Sum.inr (Sum.inl
  (v_1.1, v_1.2.1, v_1.2.2.1, v_1.2.2.2.1, ()))) else K (Sum.inl (IntKind.wrap IntKind.i64 (v.1 + 1), ())) else K (Sum.inl (IntKind.wrap IntKind.i64 (v.1 + 1), ())) else K (Sum.inr (Sum.inr ()))

theorem impl_WriterOf_D2_nat : NatD impl_WriterOf_D2 := fun i v R K => nat_bif (nat_bind fun _ => nat_bif (nat_bind fun _ => nat_bif (nat_some) (nat_some)) (nat_some)) (nat_some)

def q53_T2 : Tmpl := ⟨(jk 3 (.ptr 0 0 0 (jk 3 (.slot (Ty.slice (Ty.prod Ty.i (Ty.prod Ty.i (Ty.prod (Ty.slice YReadMark) (Ty.prod (Ty.slice (Ty.prod Ty.i (Ty.prod Ty.i
  Ty.unit))) Ty.unit))))) (.slot Ty.i (.slot Ty.i (jk 17 .nil))))))), (.cells 2 (.slot Ty.i (.slot Ty.i .nil)) .nil)⟩

def q53_X2_0 (i : q53_I2) (p : Int × Int × List (Int × Int × Unit) × List (Int × Int × Unit) × Unit) : St := ⟨jn 4 (.n (p.1) :: jn 22 ([])), [some (Cont.cells 2 [[AV.pv Ty.i i.2.2.1, AV.pv Ty.i i.2.2.2.1]]), some (Cont.cells 4 [[AV.pv Ty.i p.1, AV.pv Ty.i p.2.1, AV.pv (Ty.slice
  YReadMark) p.2.2.1, AV.pv (Ty.slice YReadMark) p.2.2.2.1]])]⟩

def q53_X2_1 (i : q53_I2) (p : Unit) : St := ⟨jn 27 ([]), [some (Cont.cells 2 [[AV.pv Ty.i i.2.2.1, AV.pv Ty.i i.2.2.2.1]])]⟩

noncomputable def q53_E2 (i : q53_I2) (p : q53_Q2) (R : Type) (K : Ex → St → Option R) : Option R := sumC p (fun p => K (Ex.ret) (q53_X2_0 i p)) fun p => K (Ex.exit 0) (q53_X2_1 i p)

noncomputable def q53_K2 (i : q53_I2) (p : q53_Q2) : Ex × St := sumC p (fun p => (Ex.ret, q53_X2_0 i p)) fun p => (Ex.exit 0, q53_X2_1 i p)

def q53_M2 (i : q53_I2) (v : q53_V2) : den q53_T2.ty := (i.1, i.2.1, v.1, i.2.2.1, i.2.2.2.1, ())

def q53_P2 (x : den q53_T2.ty) : q53_I2 × q53_V2 := ((x.1, x.2.1, x.2.2.2.1, x.2.2.2.2.1, ()), (x.2.2.1, ()))

noncomputable def q53_C : Cfg := { ti := g_tis, ents := [q52_Ent], ann := [(2, loopFn q53_T2 0 q53_P2 impl_WriterOf_D2 q53_E2)], lent := 0 }

def q53_ti : Tmpl := ⟨(.slot (Ty.slice (Ty.prod Ty.i (Ty.prod Ty.i (Ty.prod (Ty.slice YReadMark) (Ty.prod (Ty.slice (Ty.prod Ty.i (Ty.prod Ty.i
  Ty.unit))) Ty.unit))))) (.slot YReadMark .nil)), .nil⟩

def q53_to : Tmpl := ⟨(.slot Ty.i .nil), .nil⟩

noncomputable def impl_WriterOf_S (x : List (Int × Int × List (Int × Int × Unit) × List (Int × Int × Unit) × Unit) × (Int × Int × Unit) × Unit) : Option (Int × Unit) :=
  Option.bind (iter (fun v => impl_WriterOf_D2 (x.1, (↑(List.length x.1) : Int), x.2.1.1, x.2.1.2.1, ()) v _ some) (0, ())) fun p => sumC p (fun p => some (p.1, ())) fun p => some (0, ())

noncomputable def q53_Ent : Ent := ⟨142, q53_ti, q53_to, impl_WriterOf_S⟩

theorem q53_HC : CfgOK Go.Proofs.Tryz.prog q53_C := hc_of g_tisOK g_wide (all_cons q52_OK all_nil)

theorem q53_lk2 : LkOK Go.Proofs.Tryz.prog q53_C (lpc Go.Proofs.Tryz.f142 0) :=
  lk_of q53_HC (m := 0) (T := q53_T2) (sp := q53_P2) (D := impl_WriterOf_D2) (E := q53_E2) (by kernel_rfl) (by kernel_rfl) (fun k hk => absurd hk (Nat.not_lt_zero k)) [4] q53_M2 (fun x => rfl) impl_WriterOf_D2_nat q53_K2 (fun i p R K => by rcases p with p | p <;> rfl) (fun i v => by kernel_rfl)

theorem q53_OK : EntOK Go.Proofs.Tryz.prog q53_Ent := ok_of q53_HC Go.Proofs.Tryz.func142 1 (by kernel_rfl) (fun k hk => match k, hk with | 0, _ => q53_lk2) (by kernel_rfl) (by kernel_rfl) (fun x => by kernel_rfl)

/-! impl.IsHistory -/

abbrev q54_I4 : Type := List (Int × Int × List (Int × Int × Unit) × List (Int × Int × Unit) × Unit) × List (Int × Int × List (Int × Int × Unit) × List (Int × Int × Unit) × Unit) × Int × Unit

abbrev q54_V4 : Type := Int × Unit

abbrev q54_Q4 : Type := Int × Int × List (Int × Int × Unit) × List (Int × Int × Unit) × Unit ⊕ Int × Int × List (Int × Int × Unit) × List (Int × Int × Unit) × Unit ⊕ Int × Int × List (Int × Int × Unit) × List (Int × Int × Unit) × Unit ⊕ Int × Int × List (Int × Int
  × Unit) × List (Int × Int × Unit) × Unit ⊕ Unit

noncomputable def impl_IsHistory_D4 (i : q54_I4) (v : q54_V4) (R : Type) (K : q54_V4 ⊕ q54_Q4 → Option R) : Option R :=
  bif decide (v.1 < i.2.2.1) then Option.bind (lAt i.2.1 v.1) fun v_1 => Option.bind (impl_isEntry_S ((v_1.1, v_1.2.1, v_1.2.2.1, v_1.2.2.2.1, ()), ())) fun v_2 => bif !v_2.1 then K (Sum.inr (Sum.inl (v_1.1, v_1.2.1, v_1.2.2.1, v_1.2.2.2.1,
  ()))) else Option.bind (impl_FindEntry_S (i.1, v_1.1, ())) fun v_3 => bif v_3.1 != v.1 then K (Sum.inr (Sum.inr (Sum.inl (v_1.1, v_1.2.1, v_1.2.2.1, v_1.2.2.2.1, ())))) else bif decide (v.1 > 0) then Option.bind (lAt i.1 (IntKind.wrap
  IntKind.i64 (v.1 - 1))) fun v_4 => bif decide (v_1.2.1 < v_4.2.1) then K (Sum.inr (Sum.inr (Sum.inr (Sum.inl (v_1.1, v_1.2.1, v_1.2.2.1, v_1.2.2.2.1, ()))))) else Option.bind (lAt i.1 (IntKind.wrap IntKind.i64 (v.1 - 1))) fun v_5 => bif
  v_1.2.1 == v_5.2.1 then bif decide ((↑(List.length v_1.2.2.2.1) : Int) > 0) then K (Sum.inr (Sum.inr (Sum.inr (Sum.inr (Sum.inl (v_1.1, v_1.2.1, v_1.2.2.1, v_1.2.2.2.1, ())))))) else K (Sum.inl (IntKind.wrap IntKind.i64 (v.1 + 1), ())) else
  K (Sum.inl (IntKind.wrap IntKind.i64 (v.1 + 1), ())) else K (Sum.inl (IntKind.wrap IntKind.i64 (v.1 + 1), ())) else K (Sum.inr (Sum.inr (Sum.inr (Sum.inr (Sum.inr ())))))

theorem impl_IsHistory_D4_nat : NatD impl_IsHistory_D4 := fun i v R K => nat_bif (nat_bind fun _ => nat_bind fun _ => nat_bif (nat_some) (nat_bind fun _ => nat_bif (nat_some) (nat_bif (nat_bind fun _ => nat_bif (nat_some) (nat_bind fun _ => nat_bif (nat_bif (nat_some) (nat_some)) (nat_some))) (nat_some)))) (nat_some)

def q54_T4 : Tmpl := ⟨(.slot (Ty.slice (Ty.prod Ty.i (Ty.prod Ty.i (Ty.prod (Ty.slice YReadMark) (Ty.prod (Ty.slice (Ty.prod Ty.i (Ty.prod Ty.i
  Ty.unit))) Ty.unit))))) (jk 12 (.slot (Ty.slice (Ty.prod Ty.i (Ty.prod Ty.i (Ty.prod (Ty.slice YReadMark) (Ty.prod (Ty.slice (Ty.prod Ty.i (Ty.prod Ty.i
  Ty.unit))) Ty.unit))))) (.slot Ty.i (.slot Ty.i (jk 77 .nil)))))), .nil⟩

def q54_X4_0 (i : q54_I4) (p : Int × Int × List (Int × Int × Unit) × List (Int × Int × Unit) × Unit) : St := ⟨AV.pv (Ty.slice (Ty.prod Ty.i (Ty.prod Ty.i (Ty.prod (Ty.slice YReadMark) (Ty.prod (Ty.slice (Ty.prod Ty.i (Ty.prod (Ty.int
  IntKind.i64) Ty.unit))) Ty.unit))))) i.1 :: jn 1 (.b (false) :: jn 90 ([])), [some (Cont.cells 4 [[AV.pv Ty.i p.1, AV.pv Ty.i p.2.1, AV.pv (Ty.slice (Ty.prod Ty.i (Ty.prod Ty.i
  Ty.unit))) p.2.2.1, AV.pv (Ty.slice YReadMark) p.2.2.2.1]])]⟩

def q54_X4_1 (i : q54_I4) (p : Int × Int × List (Int × Int × Unit) × List (Int × Int × Unit) × Unit) : St := ⟨AV.pv (Ty.slice (Ty.prod Ty.i (Ty.prod Ty.i (Ty.prod (Ty.slice YReadMark) (Ty.prod (Ty.slice (Ty.prod Ty.i (Ty.prod (Ty.int
  IntKind.i64) Ty.unit))) Ty.unit))))) i.1 :: jn 1 (.b (false) :: jn 90 ([])), [some (Cont.cells 4 [[AV.pv Ty.i p.1, AV.pv Ty.i p.2.1, AV.pv (Ty.slice (Ty.prod Ty.i (Ty.prod Ty.i
  Ty.unit))) p.2.2.1, AV.pv (Ty.slice YReadMark) p.2.2.2.1]])]⟩

def q54_X4_2 (i : q54_I4) (p : Int × Int × List (Int × Int × Unit) × List (Int × Int × Unit) × Unit) : St := ⟨AV.pv (Ty.slice (Ty.prod Ty.i (Ty.prod Ty.i (Ty.prod (Ty.slice YReadMark) (Ty.prod (Ty.slice (Ty.prod Ty.i (Ty.prod (Ty.int
  IntKind.i64) Ty.unit))) Ty.unit))))) i.1 :: jn 1 (.b (false) :: jn 90 ([])), [some (Cont.cells 4 [[AV.pv Ty.i p.1, AV.pv Ty.i p.2.1, AV.pv (Ty.slice (Ty.prod Ty.i (Ty.prod Ty.i
  Ty.unit))) p.2.2.1, AV.pv (Ty.slice YReadMark) p.2.2.2.1]])]⟩

def q54_X4_3 (i : q54_I4) (p : Int × Int × List (Int × Int × Unit) × List (Int × Int × Unit) × Unit) : St := ⟨AV.pv (Ty.slice (Ty.prod Ty.i (Ty.prod Ty.i (Ty.prod (Ty.slice YReadMark) (Ty.prod (Ty.slice (Ty.prod Ty.i (Ty.prod (Ty.int
  IntKind.i64) Ty.unit))) Ty.unit))))) i.1 :: jn 1 (.b (false) :: jn 90 ([])), [some (Cont.cells 4 [[AV.pv Ty.i p.1, AV.pv Ty.i p.2.1, AV.pv (Ty.slice (Ty.prod Ty.i (Ty.prod Ty.i
  Ty.unit))) p.2.2.1, AV.pv (Ty.slice YReadMark) p.2.2.2.1]])]⟩

def q54_X4_4 (i : q54_I4) (p : Unit) : St := ⟨AV.pv (Ty.slice (Ty.prod Ty.i (Ty.prod Ty.i (Ty.prod (Ty.slice YReadMark) (Ty.prod (Ty.slice (Ty.prod Ty.i (Ty.prod (Ty.int
  IntKind.i64) Ty.unit))) Ty.unit))))) i.1 :: jn 92 ([]), []⟩

noncomputable def q54_E4 (i : q54_I4) (p : q54_Q4) (R : Type) (K : Ex → St → Option R) : Option R := sumC p (fun p => K (Ex.ret) (q54_X4_0 i p)) fun p => sumC p (fun p => K (Ex.ret) (q54_X4_1 i p)) fun p => sumC p (fun p => K (Ex.ret) (q54_X4_2 i p)) fun p => sumC p (fun p => K (Ex.ret) (q54_X4_3 i p)) fun p => K (Ex.exit 0) (q54_X4_4 i p)

noncomputable def q54_K4 (i : q54_I4) (p : q54_Q4) : Ex × St := sumC p (fun p => (Ex.ret, q54_X4_0 i p)) fun p => sumC p (fun p => (Ex.ret, q54_X4_1 i p)) fun p => sumC p (fun p => (Ex.ret, q54_X4_2 i p)) fun p => sumC p (fun p => (Ex.ret, q54_X4_3 i p)) fun p => (Ex.exit 0, q54_X4_4 i p)

def q54_M4 (i : q54_I4) (v : q54_V4) : den q54_T4.ty := (i.1, i.2.1, i.2.2.1, v.1, ())

def q54_P4 (x : den q54_T4.ty) : q54_I4 × q54_V4 := ((x.1, x.2.1, x.2.2.1, ()), (x.2.2.2.1, ()))

abbrev q54_I15 : Type := List (Int × Int × List (Int × Int × Unit) × List (Int × Int × Unit) × Unit) × List (Int × Int × List (Int × Int × Unit) × List (Int × Int × Unit) × Unit) × Int × Int × List (Int × Int × Unit) × Int × Int × Int × List (Int × Int × Unit) ×
  List (Int × Int × Unit) × Unit

abbrev q54_V15 : Type := Int × Unit

abbrev q54_Q15 : Type := Int × Int × Unit ⊕ Int × Int × Unit ⊕ Unit

noncomputable def impl_IsHistory_D15 (i : q54_I15) (v : q54_V15) (R : Type) (K : q54_V15 ⊕ q54_Q15 → Option R) : Option R :=
  bif decide (v.1 < i.2.2.2.2.2.1) then Option.bind (lAt i.2.2.2.2.1 v.1) fun v_1 => Option.bind (impl_WriterOf_S (i.1, (v_1.1, v_1.2.1, ()), ())) fun v_2 => bif v_2.1 == i.2.2.2.2.2.2.1 then K (Sum.inr (Sum.inl (v_1.1, v_1.2.1, ()))) else bif
  decide (v_1.2.1 > 0) then bif v_2.1 == 0 then K (Sum.inr (Sum.inr (Sum.inl (v_1.1, v_1.2.1, ())))) else K (Sum.inl (IntKind.wrap IntKind.i64 (v.1 + 1), ())) else K (Sum.inl (IntKind.wrap IntKind.i64 (v.1 + 1), ())) else K (Sum.inr (Sum.inr
  (Sum.inr ())))

theorem impl_IsHistory_D15_nat : NatD impl_IsHistory_D15 := fun i v R K => nat_bif (nat_bind fun _ => nat_bind fun _ => nat_bif (nat_some) (nat_bif (nat_bif (nat_some) (nat_some)) (nat_some))) (nat_some)

def q54_T15 : Tmpl := ⟨(.slot (Ty.slice (Ty.prod Ty.i (Ty.prod Ty.i (Ty.prod (Ty.slice YReadMark) (Ty.prod (Ty.slice (Ty.prod Ty.i (Ty.prod Ty.i
  Ty.unit))) Ty.unit))))) (jk 5 (.ptr 0 0 0 (jk 55 (.slot (Ty.slice (Ty.prod Ty.i (Ty.prod Ty.i (Ty.prod (Ty.slice YReadMark) (Ty.prod (Ty.slice (Ty.prod Ty.i (Ty.prod Ty.i
  Ty.unit))) Ty.unit))))) (.slot Ty.i (.slot Ty.i (jk 4 (.slot (Ty.slice YReadMark) (.slot Ty.i (.slot Ty.i (jk 21 .nil)))))))))))), (.cells 4 (.slot Ty.i (.slot Ty.i (.slot (Ty.slice YReadMark) (.slot (Ty.slice YReadMark) .nil)))) .nil)⟩

def q54_X15_0 (i : q54_I15) (p : Int × Int × Unit) : St := ⟨AV.pv (Ty.slice (Ty.prod Ty.i (Ty.prod Ty.i (Ty.prod (Ty.slice YReadMark) (Ty.prod (Ty.slice (Ty.prod Ty.i (Ty.prod (Ty.int
  IntKind.i64) Ty.unit))) Ty.unit))))) i.1 :: jn 1 (.b (false) :: jn 59 (AV.pv (Ty.slice (Ty.prod Ty.i (Ty.prod Ty.i (Ty.prod (Ty.slice YReadMark)
  (Ty.prod (Ty.slice YReadMark) Ty.unit))))) i.2.1 :: .n (i.2.2.1) :: .n (i.2.2.2.1) :: jn 28 ([]))), [some (Cont.cells 4 [[AV.pv Ty.i i.2.2.2.2.2.2.1, AV.pv (Ty.int
  IntKind.i64) i.2.2.2.2.2.2.2.1, AV.pv (Ty.slice YReadMark) i.2.2.2.2.2.2.2.2.1, AV.pv (Ty.slice YReadMark)
  i.2.2.2.2.2.2.2.2.2.1]]), some (Cont.cells 2 [[AV.pv Ty.i p.1, AV.pv Ty.i p.2.1]])]⟩

def q54_X15_1 (i : q54_I15) (p : Int × Int × Unit) : St := ⟨AV.pv (Ty.slice (Ty.prod Ty.i (Ty.prod Ty.i (Ty.prod (Ty.slice YReadMark) (Ty.prod (Ty.slice (Ty.prod Ty.i (Ty.prod (Ty.int
  IntKind.i64) Ty.unit))) Ty.unit))))) i.1 :: jn 1 (.b (false) :: jn 59 (AV.pv (Ty.slice (Ty.prod Ty.i (Ty.prod Ty.i (Ty.prod (Ty.slice YReadMark)
  (Ty.prod (Ty.slice YReadMark) Ty.unit))))) i.2.1 :: .n (i.2.2.1) :: .n (i.2.2.2.1) :: jn 28 ([]))), [some (Cont.cells 4 [[AV.pv Ty.i i.2.2.2.2.2.2.1, AV.pv (Ty.int
  IntKind.i64) i.2.2.2.2.2.2.2.1, AV.pv (Ty.slice YReadMark) i.2.2.2.2.2.2.2.2.1, AV.pv (Ty.slice YReadMark)
  i.2.2.2.2.2.2.2.2.2.1]]), some (Cont.cells 2 [[AV.pv Ty.i p.1, AV.pv Ty.i p.2.1]])]⟩

def q54_X15_2 (i : q54_I15) (p : Unit) : St := ⟨AV.pv (Ty.slice (Ty.prod Ty.i (Ty.prod Ty.i (Ty.prod (Ty.slice YReadMark) (Ty.prod (Ty.slice (Ty.prod Ty.i (Ty.prod (Ty.int
  IntKind.i64) Ty.unit))) Ty.unit))))) i.1 :: jn 61 (AV.pv (Ty.slice (Ty.prod Ty.i (Ty.prod Ty.i (Ty.prod (Ty.slice YReadMark) (Ty.prod (Ty.slice
  YReadMark) Ty.unit))))) i.2.1 :: .n (i.2.2.1) :: .n (i.2.2.2.1) :: jn 28 ([])), [some (Cont.cells 4 [[AV.pv Ty.i i.2.2.2.2.2.2.1, AV.pv Ty.i
  i.2.2.2.2.2.2.2.1, AV.pv (Ty.slice YReadMark) i.2.2.2.2.2.2.2.2.1, AV.pv (Ty.slice YReadMark) i.2.2.2.2.2.2.2.2.2.1]])]⟩

noncomputable def q54_E15 (i : q54_I15) (p : q54_Q15) (R : Type) (K : Ex → St → Option R) : Option R := sumC p (fun p => K (Ex.ret) (q54_X15_0 i p)) fun p => sumC p (fun p => K (Ex.ret) (q54_X15_1 i p)) fun p => K (Ex.exit 4) (q54_X15_2 i p)

noncomputable def q54_K15 (i : q54_I15) (p : q54_Q15) : Ex × St := sumC p (fun p => (Ex.ret, q54_X15_0 i p)) fun p => sumC p (fun p => (Ex.ret, q54_X15_1 i p)) fun p => (Ex.exit 4, q54_X15_2 i p)

def q54_M15 (i : q54_I15) (v : q54_V15) : den q54_T15.ty := (i.1, i.2.1, i.2.2.1, i.2.2.2.1, i.2.2.2.2.1, i.2.2.2.2.2.1, v.1, i.2.2.2.2.2.2.1, i.2.2.2.2.2.2.2.1, i.2.2.2.2.2.2.2.2.1, i.2.2.2.2.2.2.2.2.2.1, ())

def q54_P15 (x : den q54_T15.ty) : q54_I15 × q54_V15 := ((x.1, x.2.1, x.2.2.1, x.2.2.2.1, x.2.2.2.2.1, x.2.2.2.2.2.1, x.2.2.2.2.2.2.2.1, x.2.2.2.2.2.2.2.2.1, x.2.2.2.2.2.2.2.2.2.1, x.2.2.2.2.2.2.2.2.2.2.1, ()), (x.2.2.2.2.2.2.1, ()))

abbrev q54_I12 : Type := List (Int × Int × List (Int × Int × Unit) × List (Int × Int × Unit) × Unit) × List (Int × Int × List (Int × Int × Unit) × List (Int × Int × Unit) × Unit) × Int × Unit

abbrev q54_V12 : Type := Int × Unit

abbrev q54_Q12 : Type := Int × Int × List (Int × Int × Unit) × List (Int × Int × Unit) × Int × Int × Unit ⊕ Int × Int × List (Int × Int × Unit) × List (Int × Int × Unit) × Int × Int × Unit ⊕ Unit

noncomputable def impl_IsHistory_D12 (i : q54_I12) (v : q54_V12) (R : Type) (K : q54_V12 ⊕ q54_Q12 → Option R) : Option R :=
  bif decide (v.1 < i.2.2.1) then Option.bind (lAt i.2.1 v.1) fun v_1 => Option.bind (iter (fun v_2 => impl_IsHistory_D15 (i.1, i.2.1, i.2.2.1, v.1, v_1.2.2.1, (↑(List.length v_1.2.2.1) : Int), v_1.1, v_1.2.1, v_1.2.2.1, v_1.2.2.2.1, ()) v_2
  _ some) (0, ())) fun p => sumC p (fun p => K (Sum.inr (Sum.inl (v_1.1, v_1.2.1, v_1.2.2.1, v_1.2.2.2.1, p.1, p.2.1, ())))) fun p => sumC p (fun p => K (Sum.inr (Sum.inr (Sum.inl (v_1.1, v_1.2.1, v_1.2.2.1, v_1.2.2.2.1, p.1, p.2.1,
  ()))))) fun p => K (Sum.inl (IntKind.wrap IntKind.i64 (v.1 + 1), ())) else K (Sum.inr (Sum.inr (Sum.inr ())))

theorem impl_IsHistory_D12_nat : NatD impl_IsHistory_D12 := fun i v R K => nat_bif (nat_bind fun _ => nat_bind fun _ => nat_sum (fun _ => nat_some) (fun _ => nat_sum (fun _ => nat_some) (fun _ => nat_some))) (nat_some)

def q54_T12 : Tmpl := ⟨(.slot (Ty.slice (Ty.prod Ty.i (Ty.prod Ty.i (Ty.prod (Ty.slice YReadMark) (Ty.prod (Ty.slice (Ty.prod Ty.i (Ty.prod Ty.i
  Ty.unit))) Ty.unit))))) (jk 61 (.slot (Ty.slice (Ty.prod Ty.i (Ty.prod Ty.i (Ty.prod (Ty.slice YReadMark) (Ty.prod (Ty.slice (Ty.prod Ty.i (Ty.prod Ty.i
  Ty.unit))) Ty.unit))))) (.slot Ty.i (.slot Ty.i (jk 28 .nil)))))), .nil⟩

def q54_X12_0 (i : q54_I12) (p : Int × Int × List (Int × Int × Unit) × List (Int × Int × Unit) × Int × Int × Unit) : St := ⟨jn 2 (.b (false) :: jn 90 ([])), [some (Cont.cells 4 [[AV.pv Ty.i p.1, AV.pv Ty.i p.2.1, AV.pv (Ty.slice YReadMark) p.2.2.1, AV.pv (Ty.slice
  YReadMark) p.2.2.2.1]]), some (Cont.cells 2 [[AV.pv Ty.i p.2.2.2.2.1, AV.pv Ty.i p.2.2.2.2.2.1]])]⟩

def q54_X12_1 (i : q54_I12) (p : Int × Int × List (Int × Int × Unit) × List (Int × Int × Unit) × Int × Int × Unit) : St := ⟨jn 2 (.b (false) :: jn 90 ([])), [some (Cont.cells 4 [[AV.pv Ty.i p.1, AV.pv Ty.i p.2.1, AV.pv (Ty.slice YReadMark) p.2.2.1, AV.pv (Ty.slice
  YReadMark) p.2.2.2.1]]), some (Cont.cells 2 [[AV.pv Ty.i p.2.2.2.2.1, AV.pv Ty.i p.2.2.2.2.2.1]])]⟩

def q54_X12_2 (i : q54_I12) (p : Unit) : St := ⟨jn 93 ([]), []⟩

noncomputable def q54_E12 (i : q54_I12) (p : q54_Q12) (R : Type) (K : Ex → St → Option R) : Option R := sumC p (fun p => K (Ex.ret) (q54_X12_0 i p)) fun p => sumC p (fun p => K (Ex.ret) (q54_X12_1 i p)) fun p => K (Ex.exit 2) (q54_X12_2 i p)

noncomputable def q54_K12 (i : q54_I12) (p : q54_Q12) : Ex × St := sumC p (fun p => (Ex.ret, q54_X12_0 i p)) fun p => sumC p (fun p => (Ex.ret, q54_X12_1 i p)) fun p => (Ex.exit 2, q54_X12_2 i p)

def q54_M12 (i : q54_I12) (v : q54_V12) : den q54_T12.ty := (i.1, i.2.1, i.2.2.1, v.1, ())

def q54_P12 (x : den q54_T12.ty) : q54_I12 × q54_V12 := ((x.1, x.2.1, x.2.2.1, ()), (x.2.2.2.1, ()))

noncomputable def q54_C : Cfg := { ti := g_tis, ents := [q45_Ent, q48_Ent, q53_Ent], ann := [(4, loopFn q54_T4 0 q54_P4 impl_IsHistory_D4 q54_E4), (15, loopFn q54_T15 0 q54_P15 impl_IsHistory_D15 q54_E15), (12, loopFn q54_T12 0 q54_P12 impl_IsHistory_D12 q54_E12)], lent := 0 }

def q54_ti : Tmpl := ⟨(.slot (Ty.slice (Ty.prod Ty.i (Ty.prod Ty.i (Ty.prod (Ty.slice YReadMark) (Ty.prod (Ty.slice (Ty.prod Ty.i (Ty.prod Ty.i
  Ty.unit))) Ty.unit))))) .nil), .nil⟩

def q54_to : Tmpl := ⟨(.slot (Ty.bool) .nil), .nil⟩

noncomputable def impl_IsHistory_S (x : List (Int × Int × List (Int × Int × Unit) × List (Int × Int × Unit) × Unit) × Unit) : Option (Bool × Unit) :=
  bif decide ((↑(List.length x.1) : Int) > 9) then some (false, ()) else Option.bind (iter (fun v => impl_IsHistory_D4 (x.1, x.1, (↑(List.length x.1) : Int), ()) v _ some) (0, ())) fun p => sumC p (fun p => some (false, ())) fun p =>
  sumC p (fun p => some (false, ())) fun p => sumC p (fun p => some (false, ())) fun p => sumC p (fun p => some (false, ())) fun p => Option.bind (iter (fun v => impl_IsHistory_D12 (x.1, x.1, (↑(List.length x.1) : Int), ()) v _ some)
  (0, ())) fun p => sumC p (fun p => some (false, ())) fun p => sumC p (fun p => some (false, ())) fun p => some (true, ())

noncomputable def q54_Ent : Ent := ⟨65, q54_ti, q54_to, impl_IsHistory_S⟩

theorem q54_HC : CfgOK Go.Proofs.Tryz.prog q54_C := hc_of g_tisOK g_wide (all_cons q45_OK (all_cons q48_OK (all_cons q53_OK all_nil)))

theorem q54_lk15 : LkOK Go.Proofs.Tryz.prog q54_C (lpc Go.Proofs.Tryz.f65 2) :=
  lk_of q54_HC (m := 0) (T := q54_T15) (sp := q54_P15) (D := impl_IsHistory_D15) (E := q54_E15) (by kernel_rfl) (by kernel_rfl) (fun k hk => absurd hk (Nat.not_lt_zero k)) [0, 2, 62, 63, 64] q54_M15 (fun x => rfl) impl_IsHistory_D15_nat q54_K15 (fun i p R K => by rcases p with p | p | p <;> rfl) (fun i v => by kernel_rfl)

theorem q54_lk12 : LkOK Go.Proofs.Tryz.prog q54_C (lpc Go.Proofs.Tryz.f65 1) :=
  lk_of q54_HC (m := 1) (T := q54_T12) (sp := q54_P12) (D := impl_IsHistory_D12) (E := q54_E12) (by kernel_rfl) (by kernel_rfl) (fun k hk => match k, hk with | 0, _ => lk_at (by kernel_rfl) q54_lk15) [2] q54_M12 (fun x => rfl) impl_IsHistory_D12_nat q54_K12 (fun i p R K => by rcases p with p | p | p <;> rfl) (fun i v => by kernel_rfl)

theorem q54_lk4 : LkOK Go.Proofs.Tryz.prog q54_C (lpc Go.Proofs.Tryz.f65 0) :=
  lk_of q54_HC (m := 0) (T := q54_T4) (sp := q54_P4) (D := impl_IsHistory_D4) (E := q54_E4) (by kernel_rfl) (by kernel_rfl) (fun k hk => absurd hk (Nat.not_lt_zero k)) [0, 2] q54_M4 (fun x => rfl) impl_IsHistory_D4_nat q54_K4 (fun i p R K => by rcases p with p | p | p | p | p <;> rfl) (fun i v => by kernel_rfl)

theorem q54_OK : EntOK Go.Proofs.Tryz.prog q54_Ent := ok_of q54_HC Go.Proofs.Tryz.func65 3 (by kernel_rfl) (fun k hk => match k, hk with | 0, _ => q54_lk4 | 1, _ => q54_lk12 | 2, _ => q54_lk15) (by kernel_rfl) (by kernel_rfl) (fun x => by kernel_rfl)

/-! impl.graph$1 -/

noncomputable def q55_C : Cfg := { ti := g_tis, ents := [], ann := [], lent := 2, cut := [(some (0, 0))] }

def q55_ti : Tmpl := ⟨(.slot Ty.i (.slot Ty.i (.slot Ty.i (.slot Ty.i (.ptr 0 0 0 .nil))))), (.cells 1 (.own 1 .nil) (.lst false YEdge .nil))⟩

def q55_to : Tmpl := ⟨.nil, (.cells 1 (.own 2 .nil) (.gone (.lst false YEdge .nil)))⟩

noncomputable def impl_graph_1_l_S (x : Int × Int × Int × Int × List (Int × Int × Int × Int × Unit) × Unit) : Option (List (Int × Int × Int × Int × Unit) × Unit) :=
  bif x.1 != 0 then bif x.2.1 != 0 then bif x.1 != x.2.1 then if List.length (x.2.2.2.2.1 ++ [(x.1, x.2.1, x.2.2.1, x.2.2.2.1, ())]) ≤ 1099511627776 then some (x.2.2.2.2.1 ++ [(x.1, x.2.1, x.2.2.1, x.2.2.2.1, ())], ()) else none else some
  (x.2.2.2.2.1, ()) else some (x.2.2.2.2.1, ()) else some (x.2.2.2.2.1, ())

noncomputable def q55_Ent : Ent := ⟨160, q55_ti, q55_to, impl_graph_1_l_S⟩

theorem q55_HC : CfgOK Go.Proofs.Tryz.prog q55_C := hc_of g_tisOK g_wide all_nil

theorem q55_OK : EntOK Go.Proofs.Tryz.prog q55_Ent := ok_of q55_HC Go.Proofs.Tryz.func160 0 (by kernel_rfl) (fun k hk => absurd hk (Nat.not_lt_zero k)) (by kernel_rfl) (by kernel_rfl) (fun x => by kernel_rfl)

/-! impl.NextWriter -/

abbrev q56_I3 : Type := Int × Int × List (Int × Int × List (Int × Int × Unit) × List (Int × Int × Unit) × Unit) × Int × Unit

abbrev q56_V3 : Type := Int × Int × Bool × Int × Unit

abbrev q56_Q3 : Type := Int × Unit

noncomputable def impl_NextWriter_D3 (i : q56_I3) (v : q56_V3) (R : Type) (K : q56_V3 ⊕ q56_Q3 → Option R) : Option R :=
  bif decide (v.2.2.2.1 < i.2.2.2.1) then Option.bind (lAt i.2.2.1 v.2.2.2.1) fun v_1 => bif decide (v_1.2.1 > i.2.1) then Option.bind (impl_Entry_writes_S ((v_1.1, v_1.2.1, v_1.2.2.1, v_1.2.2.2.1, ()), i.1, ())) fun v_2 => bif v_2.1 then bif
  !v.2.2.1 then K (Sum.inl (v_1.1, v_1.2.1, true, IntKind.wrap IntKind.i64 (v.2.2.2.1 + 1), ())) else bif decide (v_1.2.1 < v.2.1) then K (Sum.inl (v_1.1, v_1.2.1, true, IntKind.wrap IntKind.i64 (v.2.2.2.1 + 1), ())) else K (Sum.inl (v.1,
  v.2.1, v.2.2.1, IntKind.wrap IntKind.i64 (v.2.2.2.1 + 1), ())) else K (Sum.inl (v.1, v.2.1, v.2.2.1, IntKind.wrap IntKind.i64 (v.2.2.2.1 + 1), ())) else K (Sum.inl (v.1, v.2.1, v.2.2.1, IntKind.wrap IntKind.i64 (v.2.2.2.1 + 1), ())) else K
  (Sum.inr (v.1, ()))

theorem impl_NextWriter_D3_nat : NatD impl_NextWriter_D3 := fun i v R K => nat_bif (nat_bind fun _ => nat_bif (nat_bind fun _ => nat_bif (nat_bif (nat_some) (nat_bif (nat_some) (nat_some))) (nat_some)) (nat_some)) (nat_some)

def q56_T3 : Tmpl := ⟨(.junk (.slot Ty.i (.slot Ty.i (jk 4 (.slot Ty.i (.slot Ty.i (.slot (Ty.bool) (jk 2 (.slot (Ty.slice (Ty.prod Ty.i (Ty.prod Ty.i (Ty.prod (Ty.slice YReadMark) (Ty.prod (Ty.slice (Ty.prod Ty.i (Ty.prod Ty.i
  Ty.unit))) Ty.unit))))) (.slot Ty.i (.slot Ty.i (jk 28 .nil)))))))))))), .nil⟩

def q56_X3_0 (i : q56_I3) (p : Int × Unit) : St := ⟨jn 7 (.n (p.1) :: jn 35 ([])), []⟩

noncomputable def q56_E3 (i : q56_I3) (p : q56_Q3) (R : Type) (K : Ex → St → Option R) : Option R := K (Ex.exit 0) (q56_X3_0 i p)

noncomputable def q56_K3 (i : q56_I3) (p : q56_Q3) : Ex × St := (Ex.exit 0, q56_X3_0 i p)

def q56_M3 (i : q56_I3) (v : q56_V3) : den q56_T3.ty := (i.1, i.2.1, v.1, v.2.1, v.2.2.1, i.2.2.1, i.2.2.2.1, v.2.2.2.1, ())

def q56_P3 (x : den q56_T3.ty) : q56_I3 × q56_V3 := ((x.1, x.2.1, x.2.2.2.2.2.1, x.2.2.2.2.2.2.1, ()), (x.2.2.1, x.2.2.2.1, x.2.2.2.2.1, x.2.2.2.2.2.2.2.1, ()))

noncomputable def q56_C : Cfg := { ti := g_tis, ents := [q52_Ent], ann := [(3, loopFn q56_T3 0 q56_P3 impl_NextWriter_D3 q56_E3)], lent := 0 }

def q56_ti : Tmpl := ⟨(.slot (Ty.slice (Ty.prod Ty.i (Ty.prod Ty.i (Ty.prod (Ty.slice YReadMark) (Ty.prod (Ty.slice (Ty.prod Ty.i (Ty.prod Ty.i
  Ty.unit))) Ty.unit))))) (.slot Ty.i (.slot Ty.i .nil))), .nil⟩

def q56_to : Tmpl := ⟨(.slot Ty.i .nil), .nil⟩

noncomputable def impl_NextWriter_S (x : List (Int × Int × List (Int × Int × Unit) × List (Int × Int × Unit) × Unit) × Int × Int × Unit) : Option (Int × Unit) :=
  Option.bind (iter (fun v => impl_NextWriter_D3 (x.2.1, x.2.2.1, x.1, (↑(List.length x.1) : Int), ()) v _ some) (0, 0, false, 0, ())) fun p => some (p.1, ())

noncomputable def q56_Ent : Ent := ⟨161, q56_ti, q56_to, impl_NextWriter_S⟩

theorem q56_HC : CfgOK Go.Proofs.Tryz.prog q56_C := hc_of g_tisOK g_wide (all_cons q52_OK all_nil)

theorem q56_lk3 : LkOK Go.Proofs.Tryz.prog q56_C (lpc Go.Proofs.Tryz.f161 0) :=
  lk_of q56_HC (m := 0) (T := q56_T3) (sp := q56_P3) (D := impl_NextWriter_D3) (E := q56_E3) (by kernel_rfl) (by kernel_rfl) (fun k hk => absurd hk (Nat.not_lt_zero k)) [7] q56_M3 (fun x => rfl) impl_NextWriter_D3_nat q56_K3 (fun i p R K => rfl) (fun i v => by kernel_rfl)

theorem q56_OK : EntOK Go.Proofs.Tryz.prog q56_Ent := ok_of q56_HC Go.Proofs.Tryz.func161 1 (by kernel_rfl) (fun k hk => match k, hk with | 0, _ => q56_lk3) (by kernel_rfl) (by kernel_rfl) (fun x => by kernel_rfl)

/-! impl.compareEdges -/

noncomputable def q57_C : Cfg := { ti := g_tis, ents := [q39_Ent, q40_Ent], ann := [], lent := 0 }

def q57_ti : Tmpl := ⟨(.slot YEdge (.slot YEdge .nil)), .nil⟩

def q57_to : Tmpl := ⟨(.slot Ty.i .nil), .nil⟩

noncomputable def impl_compareEdges_S (x : (Int × Int × Int × Int × Unit) × (Int × Int × Int × Int × Unit) × Unit) : Option (Int × Unit) :=
  Option.bind (cmp_Compare_int_S (x.1.1, x.2.1.1, ())) fun v => Option.bind (cmp_Compare_int_S (x.1.2.1, x.2.1.2.1, ())) fun v_1 => Option.bind (cmp_Compare_int_S (x.1.2.2.1, x.2.1.2.2.1, ())) fun v_2 => Option.bind (cmp_Compare_int_S
  (x.1.2.2.2.1, x.2.1.2.2.2.1, ())) fun v_3 => Option.bind (cmp_Or_int_S ([v.1, v_1.1, v_2.1, v_3.1], ())) fun v => some (v.1, ())

noncomputable def q57_Ent : Ent := ⟨163, q57_ti, q57_to, impl_compareEdges_S⟩

theorem q57_HC : CfgOK Go.Proofs.Tryz.prog q57_C := hc_of g_tisOK g_wide (all_cons q39_OK (all_cons q40_OK all_nil))

theorem q57_OK : EntOK Go.Proofs.Tryz.prog q57_Ent := ok_of q57_HC Go.Proofs.Tryz.func163 0 (by kernel_rfl) (fun k hk => absurd hk (Nat.not_lt_zero k)) (by kernel_rfl) (by kernel_rfl) (fun x => by kernel_rfl)

/-! slices.SortFunc[[]impl.Edge,impl.Edge] -/

def q58_ren : Go.Shelf.Ren := ⟨fun | 6 => 162 | 15 => 274 | 14 => 273 | 28 => 342 | 29 => 343 | 20 => 334 | 21 => 335 | 22 => 336 | 23 => 337 | 24 => 338 | 25 => 339 | 26 => 340 | 27 => 341 | 46 => 382 | 47 => 383 | 48 => 384 | 49 => 385 | 50 => 386 | 57 => 407 | n => n, fun | 22 => 119 | 24 => 186 | 25 => 192 | 3 => 3 | 39 => 287 | 0 => 0 | 53 => 340 | 55 => 342 | 4 => 4 | 46 => 334 | 45 => 333 | 50 => 302 | 5 => 5 | 9 => 9 | 66 => 369 | 70 => 373 | 76 => 386 | 77 => 155 | n => n, fun | n => n⟩
theorem q58_L : Go.Proofs.SlLaysF0.n6 Go.Proofs.Tryz.prog q58_ren where
  mixed := by kernel_rfl
  f6 := ⟨ "slices.SortFunc[[]loop.example/g01924/impl.Edge,loop.example/g01924/impl.Edge]", by decide, Go.Proofs.Tryz.func162.trans (congrArg some (by kernel_rfl))⟩
  f14 := ⟨ "slices.pdqsortCmpFunc[loop.example/g01924/impl.Edge]", by decide, Go.Proofs.Tryz.func273.trans (congrArg some (by kernel_rfl))⟩
  f15 := Go.Proofs.Tryz.func274.trans (congrArg some (by kernel_rfl))
  f20 := ⟨ "slices.insertionSortCmpFunc[loop.example/g01924/impl.Edge]", by decide, Go.Proofs.Tryz.func334.trans (congrArg some (by kernel_rfl))⟩
  f21 := ⟨ "slices.heapSortCmpFunc[loop.example/g01924/impl.Edge]", by decide, Go.Proofs.Tryz.func335.trans (congrArg some (by kernel_rfl))⟩
  f22 := ⟨ "slices.breakPatternsCmpFunc[loop.example/g01924/impl.Edge]", by decide, Go.Proofs.Tryz.func336.trans (congrArg some (by kernel_rfl))⟩
  f23 := ⟨ "slices.choosePivotCmpFunc[loop.example/g01924/impl.Edge]", by decide, Go.Proofs.Tryz.func337.trans (congrArg some (by kernel_rfl))⟩
  f24 := ⟨ "slices.reverseRangeCmpFunc[loop.example/g01924/impl.Edge]", by decide, Go.Proofs.Tryz.func338.trans (congrArg some (by kernel_rfl))⟩
  f25 := ⟨ "slices.partialInsertionSortCmpFunc[loop.example/g01924/impl.Edge]", by decide, Go.Proofs.Tryz.func339.trans (congrArg some (by kernel_rfl))⟩
  f26 := ⟨ "slices.partitionEqualCmpFunc[loop.example/g01924/impl.Edge]", by decide, Go.Proofs.Tryz.func340.trans (congrArg some (by kernel_rfl))⟩
  f27 := ⟨ "slices.partitionCmpFunc[loop.example/g01924/impl.Edge]", by decide, Go.Proofs.Tryz.func341.trans (congrArg some (by kernel_rfl))⟩
  f28 := Go.Proofs.Tryz.func342.trans (congrArg some (by kernel_rfl))
  f29 := Go.Proofs.Tryz.func343.trans (congrArg some (by kernel_rfl))
  f46 := ⟨ "slices.siftDownCmpFunc[loop.example/g01924/impl.Edge]", by decide, Go.Proofs.Tryz.func382.trans (congrArg some (by kernel_rfl))⟩
  f47 := Go.Proofs.Tryz.func383.trans (congrArg some (by kernel_rfl))
  f48 := Go.Proofs.Tryz.func384.trans (congrArg some (by kernel_rfl))
  f49 := ⟨ "slices.medianAdjacentCmpFunc[loop.example/g01924/impl.Edge]", by decide, Go.Proofs.Tryz.func385.trans (congrArg some (by kernel_rfl))⟩
  f50 := ⟨ "slices.medianCmpFunc[loop.example/g01924/impl.Edge]", by decide, Go.Proofs.Tryz.func386.trans (congrArg some (by kernel_rfl))⟩
  f57 := ⟨ "slices.order2CmpFunc[loop.example/g01924/impl.Edge]", by decide, Go.Proofs.Tryz.func407.trans (congrArg some (by kernel_rfl))⟩
  t0 := Go.Proofs.Tryz.underlying0
  a0 := Go.Proofs.Tryz.isAgg0
  z0 := Go.Proofs.Tryz.sizeOf0
  v0 := Go.Proofs.Tryz.zeroValue0
  t3 := Go.Proofs.Tryz.underlying3
  a3 := Go.Proofs.Tryz.isAgg3
  z3 := Go.Proofs.Tryz.sizeOf3
  v3 := Go.Proofs.Tryz.zeroValue3
  t4 := Go.Proofs.Tryz.underlying4
  a4 := Go.Proofs.Tryz.isAgg4
  z4 := Go.Proofs.Tryz.sizeOf4
  v4 := Go.Proofs.Tryz.zeroValue4
  t5 := Go.Proofs.Tryz.underlying5
  a5 := Go.Proofs.Tryz.isAgg5
  z5 := Go.Proofs.Tryz.sizeOf5
  v5 := Go.Proofs.Tryz.zeroValue5
  t9 := Go.Proofs.Tryz.underlying9
  a9 := Go.Proofs.Tryz.isAgg9
  z9 := Go.Proofs.Tryz.sizeOf9
  v9 := Go.Proofs.Tryz.zeroValue9
  t22 := Go.Proofs.Tryz.underlying119
  a22 := Go.Proofs.Tryz.isAgg119
  z22 := Go.Proofs.Tryz.sizeOf119
  v22 := Go.Proofs.Tryz.zeroValue119
  t25 := Go.Proofs.Tryz.underlying192
  a25 := Go.Proofs.Tryz.isAgg192
  z25 := Go.Proofs.Tryz.sizeOf192
  v25 := Go.Proofs.Tryz.zeroValue192
  t39 := Go.Proofs.Tryz.underlying287
  a39 := Go.Proofs.Tryz.isAgg287
  z39 := Go.Proofs.Tryz.sizeOf287
  v39 := Go.Proofs.Tryz.zeroValue287
  t45 := Go.Proofs.Tryz.underlying333
  a45 := Go.Proofs.Tryz.isAgg333
  z45 := Go.Proofs.Tryz.sizeOf333
  v45 := Go.Proofs.Tryz.zeroValue333
  t46 := Go.Proofs.Tryz.underlying334
  a46 := Go.Proofs.Tryz.isAgg334
  z46 := Go.Proofs.Tryz.sizeOf334
  v46 := Go.Proofs.Tryz.zeroValue334
  t50 := Go.Proofs.Tryz.underlying302
  a50 := Go.Proofs.Tryz.isAgg302
  z50 := Go.Proofs.Tryz.sizeOf302
  v50 := Go.Proofs.Tryz.zeroValue302
  t53 := Go.Proofs.Tryz.underlying340
  a53 := Go.Proofs.Tryz.isAgg340
  z53 := Go.Proofs.Tryz.sizeOf340
  v53 := Go.Proofs.Tryz.zeroValue340
  t55 := Go.Proofs.Tryz.underlying342
  a55 := Go.Proofs.Tryz.isAgg342
  z55 := Go.Proofs.Tryz.sizeOf342
  v55 := Go.Proofs.Tryz.zeroValue342
  t66 := Go.Proofs.Tryz.underlying369
  a66 := Go.Proofs.Tryz.isAgg369
  z66 := Go.Proofs.Tryz.sizeOf369
  v66 := Go.Proofs.Tryz.zeroValue369
  t70 := Go.Proofs.Tryz.underlying373
  a70 := Go.Proofs.Tryz.isAgg373
  z70 := Go.Proofs.Tryz.sizeOf373
  v70 := Go.Proofs.Tryz.zeroValue373
  t76 := Go.Proofs.Tryz.underlying386
  a76 := Go.Proofs.Tryz.isAgg386
  z76 := Go.Proofs.Tryz.sizeOf386
  v76 := Go.Proofs.Tryz.zeroValue386
  t77 := Go.Proofs.Tryz.underlying155
  a77 := Go.Proofs.Tryz.isAgg155
  z77 := Go.Proofs.Tryz.sizeOf155
  v77 := Go.Proofs.Tryz.zeroValue155

noncomputable def slices_SortFunc__impl_compareEdges_S (x : List (Int × Int × Int × Int × Unit) × Unit) : Option (List (Int × Int × Int × Int × Unit) × Unit) := sortS (t := YEdge) impl_compareEdges_S x

noncomputable def q58_C : Cfg := { ti := g_tis, ents := [q57_Ent], ann := [], lent := 1 }

noncomputable def q58_Ent : Ent := ⟨162, ⟨(.own 0 (.fn 163 .nil .nil)), (.lst false YEdge .nil)⟩, ⟨.nil, (.lst false YEdge .nil)⟩, slices_SortFunc__impl_compareEdges_S⟩

theorem q58_OK : EntOK Go.Proofs.Tryz.prog q58_Ent := sort_OK q58_L (t := YEdge) rfl rfl Go.Proofs.Tryz.isAgg186 Go.Proofs.Tryz.sizeOf186 rfl q57_OK

/-! slices.Compact[[]impl.Edge,impl.Edge] -/

abbrev q59_I9 : Type := Unit

abbrev q59_V9 : Type := Int × (Nat × Nat) × Int × List (Int × Int × Int × Int × Unit) × Unit

abbrev q59_Q9 : Type := Int × List (Int × Int × Int × Int × Unit) × Unit

noncomputable def slices_Compact_impl_Edge_l_D9 (i : q59_I9) (v : q59_V9) (R : Type) (K : q59_V9 ⊕ q59_Q9 → Option R) : Option R :=
  bif decide (v.2.2.1 < (↑v.2.1.2 : Int)) then if 0 ≤ v.2.2.1 ∧ v.2.2.1 < (↑v.2.1.2 : Int) then Option.bind v.2.2.2.1[v.2.1.1 + Int.toNat v.2.2.1]? fun v_1 => if 0 ≤ IntKind.wrap IntKind.i64 (v.2.2.1 - 1) ∧ IntKind.wrap IntKind.i64 (v.2.2.1 -
  1) < (↑v.2.1.2 : Int) then Option.bind v.2.2.2.1[v.2.1.1 + Int.toNat (IntKind.wrap IntKind.i64 (v.2.2.1 - 1))]? fun v_2 => bif !(v_1.1 == v_2.1 && (v_1.2.1 == v_2.2.1 && (v_1.2.2.1 == v_2.2.2.1 && (v_1.2.2.2.1 == v_2.2.2.2.1 && true)))) then
  if 0 ≤ v.2.2.1 ∧ v.2.2.1 < (↑v.2.1.2 : Int) then Option.bind v.2.2.2.1[v.2.1.1 + Int.toNat v.2.2.1]? fun v_3 => if 0 ≤ v.1 ∧ v.1 < (↑(List.length v.2.2.2.1) : Int) then Option.bind v.2.2.2.1[0 + Int.toNat v.1]? fun v_4 => K (Sum.inl
  (IntKind.wrap IntKind.i64 (v.1 + 1), (v.2.1.1, v.2.1.2), IntKind.wrap IntKind.i64 (v.2.2.1 + 1), List.set v.2.2.2.1 (0 + Int.toNat v.1) (v_3.1, v_3.2.1, v_3.2.2.1, v_3.2.2.2.1, ()), ())) else none else none else K (Sum.inl (v.1, (v.2.1.1,
  v.2.1.2), IntKind.wrap IntKind.i64 (v.2.2.1 + 1), v.2.2.2.1, ())) else none else none else K (Sum.inr (v.1, v.2.2.2.1, ()))

theorem slices_Compact_impl_Edge_l_D9_nat : NatD slices_Compact_impl_Edge_l_D9 := fun i v R K => nat_bif (nat_ite (nat_bind fun _ => nat_ite (nat_bind fun _ => nat_bif (nat_ite (nat_bind fun _ => nat_ite (nat_bind fun _ => nat_some))) (nat_some)))) (nat_some)

def q59_T9 : Tmpl := ⟨(.own 0 (jk 2 (.slot Ty.i (.ownR 0 (.slot Ty.i (jk 55 .nil)))))), (.lst false YEdge .nil)⟩

def q59_X9_0 (i : q59_I9) (p : Int × List (Int × Int × Int × Int × Unit) × Unit) : St := ⟨AV.own 0 none none :: jn 2 (.n (p.1) :: jn 57 ([])), [some (Cont.lst false YEdge p.2.1)]⟩

noncomputable def q59_E9 (i : q59_I9) (p : q59_Q9) (R : Type) (K : Ex → St → Option R) : Option R := K (Ex.exit 2) (q59_X9_0 i p)

noncomputable def q59_K9 (i : q59_I9) (p : q59_Q9) : Ex × St := (Ex.exit 2, q59_X9_0 i p)

def q59_M9 (i : q59_I9) (v : q59_V9) : den q59_T9.ty := (v.1, v.2.1, v.2.2.1, v.2.2.2.1, ())

def q59_P9 (x : den q59_T9.ty) : q59_I9 × q59_V9 := ((()), (x.1, x.2.1, x.2.2.1, x.2.2.2.1, ()))

abbrev q59_I4 : Type := List (Int × Int × Int × Int × Unit) × Unit

abbrev q59_V4 : Type := Int × Unit

abbrev q59_Q4 : Type := Nat × List (Int × Int × Int × Int × Unit) × Unit ⊕ Unit

noncomputable def slices_Compact_impl_Edge_l_D4 (i : q59_I4) (v : q59_V4) (R : Type) (K : q59_V4 ⊕ q59_Q4 → Option R) : Option R :=
  bif decide (v.1 < (↑(List.length i.1) : Int)) then if 0 ≤ v.1 ∧ v.1 < (↑(List.length i.1) : Int) then Option.bind i.1[0 + Int.toNat v.1]? fun v_1 => if 0 ≤ IntKind.wrap IntKind.i64 (v.1 - 1) ∧ IntKind.wrap IntKind.i64 (v.1 - 1) <
  (↑(List.length i.1) : Int) then Option.bind i.1[0 + Int.toNat (IntKind.wrap IntKind.i64 (v.1 - 1))]? fun v_2 => bif v_1.1 == v_2.1 && (v_1.2.1 == v_2.2.1 && (v_1.2.2.1 == v_2.2.2.1 && (v_1.2.2.2.1 == v_2.2.2.2.1 && true))) then if 0 ≤ v.1 ∧
  v.1 ≤ (↑(List.length i.1) : Int) ∧ (↑(List.length i.1) : Int) ≤ (↑(List.length i.1) : Int) then Option.bind (iter (fun v => slices_Compact_impl_Edge_l_D9 () v _ some) (v.1, (0 + Int.toNat v.1, Int.toNat (↑(List.length i.1) : Int) -
  Int.toNat v.1), 1, i.1, ())) fun p => if 0 ≤ p.1 ∧ p.1 ≤ (↑(List.length p.2.1) : Int) ∧ (↑(List.length p.2.1) : Int) ≤ (↑(List.length p.2.1) : Int) then if (0 : Int) ≤ 0 ∧ 0 ≤ p.1 ∧ p.1 ≤ (↑(List.length (List.take (0 + Int.toNat p.1) p.2.1 ++
  List.replicate (Int.toNat (↑(List.length p.2.1) : Int) - Int.toNat p.1) (0, 0, 0, 0, ()) ++ List.drop (0 + Int.toNat p.1 + (Int.toNat (↑(List.length p.2.1) : Int) - Int.toNat p.1)) p.2.1)) : Int) then K (Sum.inr (Sum.inl (Int.toNat p.1 -
  Int.toNat 0, List.take (0 + Int.toNat p.1) p.2.1 ++ List.replicate (Int.toNat (↑(List.length p.2.1) : Int) - Int.toNat p.1) (0, 0, 0, 0, ()) ++ List.drop (0 + Int.toNat p.1 + (Int.toNat (↑(List.length p.2.1) : Int) - Int.toNat p.1)) p.2.1,
  ()))) else none else none else none else K (Sum.inl (IntKind.wrap IntKind.i64 (v.1 + 1), ())) else none else none else K (Sum.inr (Sum.inr ()))

theorem slices_Compact_impl_Edge_l_D4_nat : NatD slices_Compact_impl_Edge_l_D4 := fun i v R K => nat_bif (nat_ite (nat_bind fun _ => nat_ite (nat_bind fun _ => nat_bif (nat_ite (nat_bind fun _ => nat_ite (nat_ite (nat_some)))) (nat_some)))) (nat_some)

def q59_T4 : Tmpl := ⟨(.own 0 (jk 2 (.slot Ty.i (jk 57 .nil)))), (.lst false YEdge .nil)⟩

def q59_X4_0 (i : q59_I4) (p : Nat × List (Int × Int × Int × Int × Unit) × Unit) : St := ⟨AV.own 0 none none :: jn 1 (AV.own 0 none (some (0, p.1)) :: jn 58 ([])), [some (Cont.lst false YEdge p.2.1)]⟩

def q59_X4_1 (i : q59_I4) (p : Unit) : St := ⟨AV.own 0 none none :: jn 60 ([]), [some (Cont.lst false YEdge i.1)]⟩

noncomputable def q59_E4 (i : q59_I4) (p : q59_Q4) (R : Type) (K : Ex → St → Option R) : Option R := sumC p (fun p => K (Ex.ret) (q59_X4_0 i p)) fun p => K (Ex.exit 0) (q59_X4_1 i p)

noncomputable def q59_K4 (i : q59_I4) (p : q59_Q4) : Ex × St := sumC p (fun p => (Ex.ret, q59_X4_0 i p)) fun p => (Ex.exit 0, q59_X4_1 i p)

def q59_M4 (i : q59_I4) (v : q59_V4) : den q59_T4.ty := (v.1, i.1, ())

def q59_P4 (x : den q59_T4.ty) : q59_I4 × q59_V4 := ((x.2.1, ()), (x.1, ()))

noncomputable def q59_C : Cfg := { ti := g_tis, ents := [], ann := [(9, loopFn q59_T9 1 q59_P9 slices_Compact_impl_Edge_l_D9 q59_E9), (4, loopFn q59_T4 1 q59_P4 slices_Compact_impl_Edge_l_D4 q59_E4)], lent := 1, cut := [none] }

def q59_ti : Tmpl := ⟨(.own 0 .nil), (.lst false YEdge .nil)⟩

def q59_to : Tmpl := ⟨(.own 1 .nil), (.gone (.lst false YEdge .nil))⟩

noncomputable def slices_Compact_impl_Edge_l_S (x : List (Int × Int × Int × Int × Unit) × Unit) : Option (List (Int × Int × Int × Int × Unit) × Unit) :=
  bif decide ((↑(List.length x.1) : Int) < 2) then some (x.1, ()) else Option.bind (iter (fun v => slices_Compact_impl_Edge_l_D4 (x.1, ()) v _ some) (1, ())) fun p => sumC p (fun p => some (List.take p.1 p.2.1, ())) fun p => some
  (x.1, ())

noncomputable def q59_Ent : Ent := ⟨164, q59_ti, q59_to, slices_Compact_impl_Edge_l_S⟩

theorem q59_HC : CfgOK Go.Proofs.Tryz.prog q59_C := hc_of g_tisOK g_wide all_nil

theorem q59_lk9 : LkOK Go.Proofs.Tryz.prog q59_C (lpc Go.Proofs.Tryz.f164 1) :=
  lk_of q59_HC (m := 0) (T := q59_T9) (sp := q59_P9) (D := slices_Compact_impl_Edge_l_D9) (E := q59_E9) (by kernel_rfl) (by kernel_rfl) (fun k hk => absurd hk (Nat.not_lt_zero k)) [0, 3] q59_M9 (fun x => rfl) slices_Compact_impl_Edge_l_D9_nat q59_K9 (fun i p R K => rfl) (fun i v => by kernel_rfl)

theorem q59_lk4 : LkOK Go.Proofs.Tryz.prog q59_C (lpc Go.Proofs.Tryz.f164 0) :=
  lk_of q59_HC (m := 1) (T := q59_T4) (sp := q59_P4) (D := slices_Compact_impl_Edge_l_D4) (E := q59_E4) (by kernel_rfl) (by kernel_rfl) (fun k hk => match k, hk with | 0, _ => lk_at (by kernel_rfl) q59_lk9) [0, 2] q59_M4 (fun x => rfl) slices_Compact_impl_Edge_l_D4_nat q59_K4 (fun i p R K => by rcases p with p | p <;> rfl) (fun i v => by kernel_rfl)

theorem q59_OK : EntOK Go.Proofs.Tryz.prog q59_Ent := ok_of q59_HC Go.Proofs.Tryz.func164 2 (by kernel_rfl) (fun k hk => match k, hk with | 0, _ => q59_lk4 | 1, _ => q59_lk9) (by kernel_rfl) (by kernel_rfl) (fun x => by kernel_rfl)

/-! impl.graph -/

abbrev q60_I7 : Type := List (Int × Int × List (Int × Int × Unit) × List (Int × Int × Unit) × Unit) × List (Int × Int × List (Int × Int × Unit) × List (Int × Int × Unit) × Unit) × Int × Int × List (Int × Int × Unit) × Int × Int × Int × List (Int × Int × Unit) ×
  List (Int × Int × Unit) × Unit

abbrev q60_V7 : Type := Int × List (Int × Int × Int × Int × Unit) × Unit

abbrev q60_Q7 : Type := List (Int × Int × Int × Int × Unit) × Unit

noncomputable def impl_graph_D7 (i : q60_I7) (v : q60_V7) (R : Type) (K : q60_V7 ⊕ q60_Q7 → Option R) : Option R :=
  bif decide (v.1 < i.2.2.2.2.2.1) then Option.bind (lAt i.2.2.2.2.1 v.1) fun v_1 => Option.bind (impl_WriterOf_S (i.1, (v_1.1, v_1.2.1, ()), ())) fun v_2 => Option.bind (impl_graph_1_l_S (v_2.1, i.2.2.2.2.2.2.1, 1, v_1.1, v.2.1, ())) fun v_3
  => Option.bind (impl_NextWriter_S (i.1, v_1.1, v_1.2.1, ())) fun v_4 => Option.bind (impl_graph_1_l_S (i.2.2.2.2.2.2.1, v_4.1, 3, v_1.1, v_3.1, ())) fun v_5 => K (Sum.inl (IntKind.wrap IntKind.i64 (v.1 + 1), v_5.1, ())) else K (Sum.inr
  (v.2.1, ()))

theorem impl_graph_D7_nat : NatD impl_graph_D7 := fun i v R K => nat_bif (nat_bind fun _ => nat_bind fun _ => nat_bind fun _ => nat_bind fun _ => nat_bind fun _ => nat_some) (nat_some)

def q60_T7 : Tmpl := ⟨(.slot (Ty.slice (Ty.prod Ty.i (Ty.prod Ty.i (Ty.prod (Ty.slice YReadMark) (Ty.prod (Ty.slice (Ty.prod Ty.i (Ty.prod Ty.i
  Ty.unit))) Ty.unit))))) (jk 2 (.ptr 0 0 0 (.fn 160 (.ptr 0 0 0 .nil) (.junk (.ptr 2 0 0 (jk 6 (.slot (Ty.slice (Ty.prod Ty.i (Ty.prod Ty.i (Ty.prod (Ty.slice YReadMark) (Ty.prod (Ty.slice (Ty.prod Ty.i (Ty.prod Ty.i
  Ty.unit))) Ty.unit))))) (.slot Ty.i (.slot Ty.i (jk 4 (.slot (Ty.slice YReadMark) (.slot Ty.i (.slot Ty.i (jk 50 .nil))))))))))))))), (.cells 1 (.own 1 .nil) (.lst false YEdge (.cells 4 (.slot Ty.i (.slot Ty.i (.slot (Ty.slice YReadMark) (.slot (Ty.slice YReadMark) .nil)))) .nil)))⟩

def q60_X7_0 (i : q60_I7) (p : List (Int × Int × Int × Int × Unit) × Unit) : St := ⟨AV.pv (Ty.slice (Ty.prod Ty.i (Ty.prod Ty.i (Ty.prod (Ty.slice YReadMark) (Ty.prod (Ty.slice (Ty.prod Ty.i (Ty.prod (Ty.int
  IntKind.i64) Ty.unit))) Ty.unit))))) i.1 :: jn 2 (AV.ptr 0 none 0 0 :: AV.fn 160 [AV.ptr 0 none 0 0] :: jn 1 (AV.ptr 2 none 0 0 :: jn 6 (AV.pv (Ty.slice (Ty.prod Ty.i (Ty.prod Ty.i (Ty.prod (Ty.slice (Ty.prod
  Ty.i (Ty.prod Ty.i Ty.unit))) (Ty.prod (Ty.slice YReadMark) Ty.unit))))) i.2.1 :: .n (i.2.2.1) :: .n (i.2.2.2.1) :: jn 57 ([])))), [some (Cont.cells
  1 [[AV.own 1 none none]]), some (Cont.lst false YEdge p.1), some (Cont.cells 4 [[AV.pv Ty.i
  i.2.2.2.2.2.2.1, AV.pv Ty.i i.2.2.2.2.2.2.2.1, AV.pv (Ty.slice YReadMark) i.2.2.2.2.2.2.2.2.1, AV.pv (Ty.slice (Ty.prod Ty.i (Ty.prod (Ty.int
  IntKind.i64) Ty.unit))) i.2.2.2.2.2.2.2.2.2.1]])]⟩

noncomputable def q60_E7 (i : q60_I7) (p : q60_Q7) (R : Type) (K : Ex → St → Option R) : Option R := K (Ex.exit 2) (q60_X7_0 i p)

noncomputable def q60_K7 (i : q60_I7) (p : q60_Q7) : Ex × St := (Ex.exit 2, q60_X7_0 i p)

def q60_M7 (i : q60_I7) (v : q60_V7) : den q60_T7.ty := (i.1, i.2.1, i.2.2.1, i.2.2.2.1, i.2.2.2.2.1, i.2.2.2.2.2.1, v.1, v.2.1, i.2.2.2.2.2.2.1, i.2.2.2.2.2.2.2.1, i.2.2.2.2.2.2.2.2.1, i.2.2.2.2.2.2.2.2.2.1, ())

def q60_P7 (x : den q60_T7.ty) : q60_I7 × q60_V7 := ((x.1, x.2.1, x.2.2.1, x.2.2.2.1, x.2.2.2.2.1, x.2.2.2.2.2.1, x.2.2.2.2.2.2.2.2.1, x.2.2.2.2.2.2.2.2.2.1, x.2.2.2.2.2.2.2.2.2.2.1, x.2.2.2.2.2.2.2.2.2.2.2.1, ()), (x.2.2.2.2.2.2.1, x.2.2.2.2.2.2.2.1, ()))

abbrev q60_I13 : Type := List (Int × Int × List (Int × Int × Unit) × List (Int × Int × Unit) × Unit) × List (Int × Int × List (Int × Int × Unit) × List (Int × Int × Unit) × Unit) × Int × Int × List (Int × Int × Unit) × Int × Int × Int × List (Int × Int × Unit) ×
  List (Int × Int × Unit) × Unit

abbrev q60_V13 : Type := Int × List (Int × Int × Int × Int × Unit) × Unit

abbrev q60_Q13 : Type := List (Int × Int × Int × Int × Unit) × Unit

noncomputable def impl_graph_D13 (i : q60_I13) (v : q60_V13) (R : Type) (K : q60_V13 ⊕ q60_Q13 → Option R) : Option R :=
  bif decide (v.1 < i.2.2.2.2.2.1) then Option.bind (lAt i.2.2.2.2.1 v.1) fun v_1 => Option.bind (impl_NextWriter_S (i.1, v_1.1, i.2.2.2.2.2.2.2.1, ())) fun v_2 => Option.bind (impl_graph_1_l_S (i.2.2.2.2.2.2.1, v_2.1, 2, v_1.1, v.2.1, ()))
  fun v_3 => K (Sum.inl (IntKind.wrap IntKind.i64 (v.1 + 1), v_3.1, ())) else K (Sum.inr (v.2.1, ()))

theorem impl_graph_D13_nat : NatD impl_graph_D13 := fun i v R K => nat_bif (nat_bind fun _ => nat_bind fun _ => nat_bind fun _ => nat_some) (nat_some)

def q60_T13 : Tmpl := ⟨(.slot (Ty.slice (Ty.prod Ty.i (Ty.prod Ty.i (Ty.prod (Ty.slice YReadMark) (Ty.prod (Ty.slice (Ty.prod Ty.i (Ty.prod Ty.i
  Ty.unit))) Ty.unit))))) (jk 2 (.ptr 0 0 0 (.fn 160 (.ptr 0 0 0 .nil) (.junk (.ptr 2 0 0 (jk 6 (.slot (Ty.slice (Ty.prod Ty.i (Ty.prod Ty.i (Ty.prod (Ty.slice YReadMark) (Ty.prod (Ty.slice (Ty.prod Ty.i (Ty.prod Ty.i
  Ty.unit))) Ty.unit))))) (.slot Ty.i (.slot Ty.i (jk 33 (.slot (Ty.slice YReadMark) (.slot Ty.i (.slot Ty.i (jk 21 .nil))))))))))))))), (.cells 1 (.own 1 .nil) (.lst false YEdge (.cells 4 (.slot Ty.i (.slot Ty.i (.slot (Ty.slice YReadMark) (.slot (Ty.slice YReadMark) .nil)))) .nil)))⟩

def q60_X13_0 (i : q60_I13) (p : List (Int × Int × Int × Int × Unit) × Unit) : St := ⟨AV.pv (Ty.slice (Ty.prod Ty.i (Ty.prod Ty.i (Ty.prod (Ty.slice YReadMark) (Ty.prod (Ty.slice (Ty.prod Ty.i (Ty.prod (Ty.int
  IntKind.i64) Ty.unit))) Ty.unit))))) i.1 :: jn 2 (AV.ptr 0 none 0 0 :: AV.fn 160 [AV.ptr 0 none 0 0] :: jn 8 (AV.pv (Ty.slice (Ty.prod Ty.i (Ty.prod Ty.i (Ty.prod (Ty.slice (Ty.prod Ty.i
  (Ty.prod Ty.i Ty.unit))) (Ty.prod (Ty.slice YReadMark) Ty.unit))))) i.2.1 :: .n (i.2.2.1) :: .n (i.2.2.2.1) :: jn 57 ([]))), [some (Cont.cells 1 [[AV.own 1 none
  none]]), some (Cont.lst false YEdge p.1), some (Cont.cells 4 [[AV.pv Ty.i i.2.2.2.2.2.2.1, AV.pv
  Ty.i i.2.2.2.2.2.2.2.1, AV.pv (Ty.slice YReadMark) i.2.2.2.2.2.2.2.2.1, AV.pv (Ty.slice YReadMark)
  i.2.2.2.2.2.2.2.2.2.1]])]⟩

noncomputable def q60_E13 (i : q60_I13) (p : q60_Q13) (R : Type) (K : Ex → St → Option R) : Option R := K (Ex.exit 4) (q60_X13_0 i p)

noncomputable def q60_K13 (i : q60_I13) (p : q60_Q13) : Ex × St := (Ex.exit 4, q60_X13_0 i p)

def q60_M13 (i : q60_I13) (v : q60_V13) : den q60_T13.ty := (i.1, i.2.1, i.2.2.1, i.2.2.2.1, i.2.2.2.2.1, i.2.2.2.2.2.1, v.1, v.2.1, i.2.2.2.2.2.2.1, i.2.2.2.2.2.2.2.1, i.2.2.2.2.2.2.2.2.1, i.2.2.2.2.2.2.2.2.2.1, ())

def q60_P13 (x : den q60_T13.ty) : q60_I13 × q60_V13 := ((x.1, x.2.1, x.2.2.1, x.2.2.2.1, x.2.2.2.2.1, x.2.2.2.2.2.1, x.2.2.2.2.2.2.2.2.1, x.2.2.2.2.2.2.2.2.2.1, x.2.2.2.2.2.2.2.2.2.2.1, x.2.2.2.2.2.2.2.2.2.2.2.1, ()), (x.2.2.2.2.2.2.1, x.2.2.2.2.2.2.2.1, ()))

abbrev q60_I4 : Type := List (Int × Int × List (Int × Int × Unit) × List (Int × Int × Unit) × Unit) × List (Int × Int × List (Int × Int × Unit) × List (Int × Int × Unit) × Unit) × Int × Unit

abbrev q60_V4 : Type := Int × List (Int × Int × Int × Int × Unit) × Unit

abbrev q60_Q4 : Type := List (Int × Int × Int × Int × Unit) × Unit

noncomputable def impl_graph_D4 (i : q60_I4) (v : q60_V4) (R : Type) (K : q60_V4 ⊕ q60_Q4 → Option R) : Option R :=
  bif decide (v.1 < i.2.2.1) then Option.bind (lAt i.2.1 v.1) fun v_1 => Option.bind (iter (fun v_2 => impl_graph_D7 (i.1, i.2.1, i.2.2.1, v.1, v_1.2.2.1, (↑(List.length v_1.2.2.1) : Int), v_1.1, v_1.2.1, v_1.2.2.1, v_1.2.2.2.1, ()) v_2
  _ some) (0, v.2.1, ())) fun p => Option.bind (iter (fun v_2 => impl_graph_D13 (i.1, i.2.1, i.2.2.1, v.1, v_1.2.2.2.1, (↑(List.length v_1.2.2.2.1) : Int), v_1.1, v_1.2.1, v_1.2.2.1, v_1.2.2.2.1, ()) v_2 _ some) (0, p.1,
  ())) fun p => K (Sum.inl (IntKind.wrap IntKind.i64 (v.1 + 1), p.1, ())) else K (Sum.inr (v.2.1, ()))

theorem impl_graph_D4_nat : NatD impl_graph_D4 := fun i v R K => nat_bif (nat_bind fun _ => nat_bind fun _ => nat_bind fun _ => nat_some) (nat_some)

def q60_T4 : Tmpl := ⟨(.slot (Ty.slice (Ty.prod Ty.i (Ty.prod Ty.i (Ty.prod (Ty.slice YReadMark) (Ty.prod (Ty.slice (Ty.prod Ty.i (Ty.prod Ty.i
  Ty.unit))) Ty.unit))))) (jk 2 (.ptr 0 0 0 (.fn 160 (.ptr 0 0 0 .nil) (jk 8 (.slot (Ty.slice (Ty.prod Ty.i (Ty.prod Ty.i (Ty.prod (Ty.slice YReadMark) (Ty.prod (Ty.slice (Ty.prod Ty.i (Ty.prod Ty.i
  Ty.unit))) Ty.unit))))) (.slot Ty.i (.slot Ty.i (jk 57 .nil))))))))), (.cells 1 (.own 1 .nil) (.lst false YEdge .nil))⟩

def q60_X4_0 (i : q60_I4) (p : List (Int × Int × Int × Int × Unit) × Unit) : St := ⟨jn 3 (AV.ptr 0 none 0 0 :: jn 69 ([])), [some (Cont.cells 1 [[AV.own 1 none none]]), some (Cont.lst false YEdge
  p.1)]⟩

noncomputable def q60_E4 (i : q60_I4) (p : q60_Q4) (R : Type) (K : Ex → St → Option R) : Option R := K (Ex.exit 0) (q60_X4_0 i p)

noncomputable def q60_K4 (i : q60_I4) (p : q60_Q4) : Ex × St := (Ex.exit 0, q60_X4_0 i p)

def q60_M4 (i : q60_I4) (v : q60_V4) : den q60_T4.ty := (i.1, i.2.1, i.2.2.1, v.1, v.2.1, ())

def q60_P4 (x : den q60_T4.ty) : q60_I4 × q60_V4 := ((x.1, x.2.1, x.2.2.1, ()), (x.2.2.2.1, x.2.2.2.2.1, ()))

noncomputable def q60_C : Cfg := { ti := g_tis, ents := [q55_Ent, q58_Ent, q59_Ent, q53_Ent, q56_Ent], ann := [(7, loopFn q60_T7 0 q60_P7 impl_graph_D7 q60_E7), (13, loopFn q60_T13 0 q60_P13 impl_graph_D13 q60_E13), (4, loopFn q60_T4 0 q60_P4 impl_graph_D4 q60_E4)], lent := 0 }

def q60_ti : Tmpl := ⟨(.slot (Ty.slice (Ty.prod Ty.i (Ty.prod Ty.i (Ty.prod (Ty.slice YReadMark) (Ty.prod (Ty.slice (Ty.prod Ty.i (Ty.prod Ty.i
  Ty.unit))) Ty.unit))))) .nil), .nil⟩

def q60_to : Tmpl := ⟨(.own 0 .nil), (.lst false YEdge .nil)⟩

noncomputable def impl_graph_S (x : List (Int × Int × List (Int × Int × Unit) × List (Int × Int × Unit) × Unit) × Unit) : Option (List (Int × Int × Int × Int × Unit) × Unit) :=
  Option.bind (iter (fun v => impl_graph_D4 (x.1, x.1, (↑(List.length x.1) : Int), ()) v _ some) (0, [], ())) fun p => Option.bind (slices_SortFunc__impl_compareEdges_S (p.1, ())) fun v => Option.bind (slices_Compact_impl_Edge_l_S
  (v.1, ())) fun v => some (v.1, ())

noncomputable def q60_Ent : Ent := ⟨79, q60_ti, q60_to, impl_graph_S⟩

theorem q60_HC : CfgOK Go.Proofs.Tryz.prog q60_C := hc_of g_tisOK g_wide (all_cons q55_OK (all_cons q58_OK (all_cons q59_OK (all_cons q53_OK (all_cons q56_OK all_nil)))))

theorem q60_lk13 : LkOK Go.Proofs.Tryz.prog q60_C (lpc Go.Proofs.Tryz.f79 2) :=
  lk_of q60_HC (m := 0) (T := q60_T13) (sp := q60_P13) (D := impl_graph_D13) (E := q60_E13) (by kernel_rfl) (by kernel_rfl) (fun k hk => absurd hk (Nat.not_lt_zero k)) [0, 3, 4, 13, 14, 15] q60_M13 (fun x => rfl) impl_graph_D13_nat q60_K13 (fun i p R K => rfl) (fun i v => by kernel_rfl)

theorem q60_lk7 : LkOK Go.Proofs.Tryz.prog q60_C (lpc Go.Proofs.Tryz.f79 1) :=
  lk_of q60_HC (m := 0) (T := q60_T7) (sp := q60_P7) (D := impl_graph_D7) (E := q60_E7) (by kernel_rfl) (by kernel_rfl) (fun k hk => absurd hk (Nat.not_lt_zero k)) [0, 3, 4, 6, 13, 14, 15] q60_M7 (fun x => rfl) impl_graph_D7_nat q60_K7 (fun i p R K => rfl) (fun i v => by kernel_rfl)

theorem q60_lk4 : LkOK Go.Proofs.Tryz.prog q60_C (lpc Go.Proofs.Tryz.f79 0) :=
  lk_of q60_HC (m := 2) (T := q60_T4) (sp := q60_P4) (D := impl_graph_D4) (E := q60_E4) (by kernel_rfl) (by kernel_rfl) (fun k hk => match k, hk with | 0, _ => lk_at (by kernel_rfl) q60_lk7 | 1, _ => lk_at (by kernel_rfl) q60_lk13) [3] q60_M4 (fun x => rfl) impl_graph_D4_nat q60_K4 (fun i p R K => rfl) (fun i v => by kernel_rfl)

theorem q60_OK : EntOK Go.Proofs.Tryz.prog q60_Ent := ok_of q60_HC Go.Proofs.Tryz.func79 3 (by kernel_rfl) (fun k hk => match k, hk with | 0, _ => q60_lk4 | 1, _ => q60_lk7 | 2, _ => q60_lk13) (by kernel_rfl) (by kernel_rfl) (fun x => by kernel_rfl)

/-! slices.Index[[]int,int] -/

abbrev q61_I2 : Type := List Int × Int × Int × Unit

abbrev q61_V2 : Type := Int × Unit

abbrev q61_Q2 : Type := Int × Unit ⊕ Unit

noncomputable def slices_Index_int_D2 (i : q61_I2) (v : q61_V2) (R : Type) (K : q61_V2 ⊕ q61_Q2 → Option R) : Option R :=
  bif decide (v.1 < i.2.2.1) then Option.bind (lAt i.1 v.1) fun v_1 => bif i.2.1 == v_1 then K (Sum.inr (Sum.inl (v.1, ()))) else K (Sum.inl (IntKind.wrap IntKind.i64 (v.1 + 1), ())) else K (Sum.inr (Sum.inr ()))

theorem slices_Index_int_D2_nat : NatD slices_Index_int_D2 := fun i v R K => nat_bif (nat_bind fun _ => nat_bif (nat_some) (nat_some)) (nat_some)

def q61_T2 : Tmpl := ⟨(.slot (Ty.slice Ty.i) (.slot Ty.i (jk 5 (.slot Ty.i (.slot Ty.i (jk 10 .nil)))))), .nil⟩

def q61_X2_0 (i : q61_I2) (p : Int × Unit) : St := ⟨jn 4 (.n (p.1) :: jn 14 ([])), []⟩

def q61_X2_1 (i : q61_I2) (p : Unit) : St := ⟨jn 19 ([]), []⟩

noncomputable def q61_E2 (i : q61_I2) (p : q61_Q2) (R : Type) (K : Ex → St → Option R) : Option R := sumC p (fun p => K (Ex.ret) (q61_X2_0 i p)) fun p => K (Ex.exit 0) (q61_X2_1 i p)

noncomputable def q61_K2 (i : q61_I2) (p : q61_Q2) : Ex × St := sumC p (fun p => (Ex.ret, q61_X2_0 i p)) fun p => (Ex.exit 0, q61_X2_1 i p)

def q61_M2 (i : q61_I2) (v : q61_V2) : den q61_T2.ty := (i.1, i.2.1, i.2.2.1, v.1, ())

def q61_P2 (x : den q61_T2.ty) : q61_I2 × q61_V2 := ((x.1, x.2.1, x.2.2.1, ()), (x.2.2.2.1, ()))

noncomputable def q61_C : Cfg := { ti := g_tis, ents := [], ann := [(2, loopFn q61_T2 0 q61_P2 slices_Index_int_D2 q61_E2)], lent := 0 }

def q61_ti : Tmpl := ⟨(.slot (Ty.slice Ty.i) (.slot Ty.i .nil)), .nil⟩

def q61_to : Tmpl := ⟨(.slot Ty.i .nil), .nil⟩

noncomputable def slices_Index_int_S (x : List Int × Int × Unit) : Option (Int × Unit) :=
  Option.bind (iter (fun v => slices_Index_int_D2 (x.1, x.2.1, (↑(List.length x.1) : Int), ()) v _ some) (0, ())) fun p => sumC p (fun p => some (p.1, ())) fun p => some (-1, ())

noncomputable def q61_Ent : Ent := ⟨264, q61_ti, q61_to, slices_Index_int_S⟩

theorem q61_HC : CfgOK Go.Proofs.Tryz.prog q61_C := hc_of g_tisOK g_wide all_nil

theorem q61_lk2 : LkOK Go.Proofs.Tryz.prog q61_C (lpc Go.Proofs.Tryz.f264 0) :=
  lk_of q61_HC (m := 0) (T := q61_T2) (sp := q61_P2) (D := slices_Index_int_D2) (E := q61_E2) (by kernel_rfl) (by kernel_rfl) (fun k hk => absurd hk (Nat.not_lt_zero k)) [4] q61_M2 (fun x => rfl) slices_Index_int_D2_nat q61_K2 (fun i p R K => by rcases p with p | p <;> rfl) (fun i v => by kernel_rfl)

theorem q61_OK : EntOK Go.Proofs.Tryz.prog q61_Ent := ok_of q61_HC Go.Proofs.Tryz.func264 1 (by kernel_rfl) (fun k hk => match k, hk with | 0, _ => q61_lk2) (by kernel_rfl) (by kernel_rfl) (fun x => by kernel_rfl)

/-! slices.Contains[[]int,int] -/

noncomputable def q62_C : Cfg := { ti := g_tis, ents := [q61_Ent], ann := [], lent := 0 }

def q62_ti : Tmpl := ⟨(.slot (Ty.slice Ty.i) (.slot Ty.i .nil)), .nil⟩

def q62_to : Tmpl := ⟨(.slot (Ty.bool) .nil), .nil⟩

noncomputable def slices_Contains_int_S (x : List Int × Int × Unit) : Option (Bool × Unit) :=
  Option.bind (slices_Index_int_S (x.1, x.2.1, ())) fun v => some (decide (v.1 ≥ 0), ())

noncomputable def q62_Ent : Ent := ⟨145, q62_ti, q62_to, slices_Contains_int_S⟩

theorem q62_HC : CfgOK Go.Proofs.Tryz.prog q62_C := hc_of g_tisOK g_wide (all_cons q61_OK all_nil)

theorem q62_OK : EntOK Go.Proofs.Tryz.prog q62_Ent := ok_of q62_HC Go.Proofs.Tryz.func145 0 (by kernel_rfl) (fun k hk => absurd hk (Nat.not_lt_zero k)) (by kernel_rfl) (by kernel_rfl) (fun x => by kernel_rfl)

/-! impl.isReady$1 -/

noncomputable def q63_C : Cfg := { ti := g_tis, ents := [q62_Ent], ann := [], lent := 0 }

def q63_ti : Tmpl := ⟨(.slot YEdge (.slot (Ty.iref Ty.i) (.slot (Ty.iref (Ty.slice Ty.i)) .nil))), .nil⟩

def q63_to : Tmpl := ⟨(.slot (Ty.bool) .nil), .nil⟩

noncomputable def impl_isReady_1_S (x : (Int × Int × Int × Int × Unit) × Option Int × Option (List Int) × Unit) : Option (Bool × Unit) :=
  Option.bind x.2.1 fun v => bif x.1.2.1 == v then Option.bind x.2.2.1 fun v => Option.bind (slices_Contains_int_S (v, x.1.1, ())) fun v => some (!v.1, ()) else some (false, ())

noncomputable def q63_Ent : Ent := ⟨265, q63_ti, q63_to, impl_isReady_1_S⟩

theorem q63_HC : CfgOK Go.Proofs.Tryz.prog q63_C := hc_of g_tisOK g_wide (all_cons q62_OK all_nil)

theorem q63_OK : EntOK Go.Proofs.Tryz.prog q63_Ent := ok_of q63_HC Go.Proofs.Tryz.func265 0 (by kernel_rfl) (fun k hk => absurd hk (Nat.not_lt_zero k)) (by kernel_rfl) (by kernel_rfl) (fun x => by kernel_rfl)

/-! slices.IndexFunc[[]impl.Edge,impl.Edge] -/

abbrev q64_I2 : Type := List (Int × Int × Int × Int × Unit) × (Option Int × Option (List Int) × Unit) × Int × Unit

abbrev q64_V2 : Type := Int × Unit

abbrev q64_Q2 : Type := Int × Unit ⊕ Unit

noncomputable def slices_IndexFunc__impl_isReady_1_D2 (i : q64_I2) (v : q64_V2) (R : Type) (K : q64_V2 ⊕ q64_Q2 → Option R) : Option R :=
  bif decide (v.1 < i.2.2.1) then Option.bind (lAt i.1 v.1) fun v_1 => Option.bind (impl_isReady_1_S ((v_1.1, v_1.2.1, v_1.2.2.1, v_1.2.2.2.1, ()), i.2.1.1, i.2.1.2.1, ())) fun v_2 => bif v_2.1 then K (Sum.inr (Sum.inl (v.1, ()))) else K
  (Sum.inl (IntKind.wrap IntKind.i64 (v.1 + 1), ())) else K (Sum.inr (Sum.inr ()))

theorem slices_IndexFunc__impl_isReady_1_D2_nat : NatD slices_IndexFunc__impl_isReady_1_D2 := fun i v R K => nat_bif (nat_bind fun _ => nat_bind fun _ => nat_bif (nat_some) (nat_some)) (nat_some)

def q64_T2 : Tmpl := ⟨(.slot (Ty.slice YEdge) (.slot (Ty.fn 265 (Ty.prod (Ty.iref Ty.i) (Ty.prod (Ty.iref (Ty.slice Ty.i)) Ty.unit))) (jk 5 (.slot Ty.i (.slot Ty.i (jk 10 .nil)))))), .nil⟩

def q64_X2_0 (i : q64_I2) (p : Int × Unit) : St := ⟨jn 4 (.n (p.1) :: jn 14 ([])), []⟩

def q64_X2_1 (i : q64_I2) (p : Unit) : St := ⟨jn 19 ([]), []⟩

noncomputable def q64_E2 (i : q64_I2) (p : q64_Q2) (R : Type) (K : Ex → St → Option R) : Option R := sumC p (fun p => K (Ex.ret) (q64_X2_0 i p)) fun p => K (Ex.exit 0) (q64_X2_1 i p)

noncomputable def q64_K2 (i : q64_I2) (p : q64_Q2) : Ex × St := sumC p (fun p => (Ex.ret, q64_X2_0 i p)) fun p => (Ex.exit 0, q64_X2_1 i p)

def q64_M2 (i : q64_I2) (v : q64_V2) : den q64_T2.ty := (i.1, i.2.1, i.2.2.1, v.1, ())

def q64_P2 (x : den q64_T2.ty) : q64_I2 × q64_V2 := ((x.1, x.2.1, x.2.2.1, ()), (x.2.2.2.1, ()))

noncomputable def q64_C : Cfg := { ti := g_tis, ents := [q63_Ent], ann := [(2, loopFn q64_T2 0 q64_P2 slices_IndexFunc__impl_isReady_1_D2 q64_E2)], lent := 0 }

def q64_ti : Tmpl := ⟨(.slot (Ty.slice YEdge) (.slot (Ty.fn 265 (Ty.prod (Ty.iref Ty.i) (Ty.prod (Ty.iref (Ty.slice Ty.i)) Ty.unit))) .nil)), .nil⟩

def q64_to : Tmpl := ⟨(.slot Ty.i .nil), .nil⟩

noncomputable def slices_IndexFunc__impl_isReady_1_S (x : List (Int × Int × Int × Int × Unit) × (Option Int × Option (List Int) × Unit) × Unit) : Option (Int × Unit) :=
  Option.bind (iter (fun v => slices_IndexFunc__impl_isReady_1_D2 (x.1, x.2.1, (↑(List.length x.1) : Int), ()) v _ some) (0, ())) fun p => sumC p (fun p => some (p.1, ())) fun p => some (-1, ())

noncomputable def q64_Ent : Ent := ⟨279, q64_ti, q64_to, slices_IndexFunc__impl_isReady_1_S⟩

theorem q64_HC : CfgOK Go.Proofs.Tryz.prog q64_C := hc_of g_tisOK g_wide (all_cons q63_OK all_nil)

theorem q64_lk2 : LkOK Go.Proofs.Tryz.prog q64_C (lpc Go.Proofs.Tryz.f279 0) :=
  lk_of q64_HC (m := 0) (T := q64_T2) (sp := q64_P2) (D := slices_IndexFunc__impl_isReady_1_D2) (E := q64_E2) (by kernel_rfl) (by kernel_rfl) (fun k hk => absurd hk (Nat.not_lt_zero k)) [4] q64_M2 (fun x => rfl) slices_IndexFunc__impl_isReady_1_D2_nat q64_K2 (fun i p R K => by rcases p with p | p <;> rfl) (fun i v => by kernel_rfl)

theorem q64_OK : EntOK Go.Proofs.Tryz.prog q64_Ent := ok_of q64_HC Go.Proofs.Tryz.func279 1 (by kernel_rfl) (fun k hk => match k, hk with | 0, _ => q64_lk2) (by kernel_rfl) (by kernel_rfl) (fun x => by kernel_rfl)

/-! slices.ContainsFunc[[]impl.Edge,impl.Edge] -/

noncomputable def q65_C : Cfg := { ti := g_tis, ents := [q64_Ent], ann := [], lent := 0 }

def q65_ti : Tmpl := ⟨(.slot (Ty.slice YEdge) (.slot (Ty.fn 265 (Ty.prod (Ty.iref Ty.i) (Ty.prod (Ty.iref (Ty.slice Ty.i)) Ty.unit))) .nil)), .nil⟩

def q65_to : Tmpl := ⟨(.slot (Ty.bool) .nil), .nil⟩

noncomputable def slices_ContainsFunc__impl_isReady_1_S (x : List (Int × Int × Int × Int × Unit) × (Option Int × Option (List Int) × Unit) × Unit) : Option (Bool × Unit) :=
  Option.bind (slices_IndexFunc__impl_isReady_1_S (x.1, x.2.1, ())) fun v => some (decide (v.1 ≥ 0), ())

noncomputable def q65_Ent : Ent := ⟨172, q65_ti, q65_to, slices_ContainsFunc__impl_isReady_1_S⟩

theorem q65_HC : CfgOK Go.Proofs.Tryz.prog q65_C := hc_of g_tisOK g_wide (all_cons q64_OK all_nil)

theorem q65_OK : EntOK Go.Proofs.Tryz.prog q65_Ent := ok_of q65_HC Go.Proofs.Tryz.func172 0 (by kernel_rfl) (fun k hk => absurd hk (Nat.not_lt_zero k)) (by kernel_rfl) (by kernel_rfl) (fun x => by kernel_rfl)

/-! impl.isReady -/

noncomputable def q66_C : Cfg := { ti := g_tis, ents := [q65_Ent], ann := [], lent := 0 }

def q66_ti : Tmpl := ⟨(.slot (Ty.slice YEdge) (.slot Ty.i (.slot (Ty.slice Ty.i) .nil))), .nil⟩

def q66_to : Tmpl := ⟨(.slot (Ty.bool) .nil), .nil⟩

noncomputable def impl_isReady_S (x : List (Int × Int × Int × Int × Unit) × Int × List Int × Unit) : Option (Bool × Unit) :=
  Option.bind (slices_ContainsFunc__impl_isReady_1_S (x.1, (some x.2.1, some x.2.2.1, ()), ())) fun v => some (!v.1, ())

noncomputable def q66_Ent : Ent := ⟨146, q66_ti, q66_to, impl_isReady_S⟩

theorem q66_HC : CfgOK Go.Proofs.Tryz.prog q66_C := hc_of g_tisOK g_wide (all_cons q65_OK all_nil)

theorem q66_OK : EntOK Go.Proofs.Tryz.prog q66_Ent := ok_of q66_HC Go.Proofs.Tryz.func146 0 (by kernel_rfl) (fun k hk => absurd hk (Nat.not_lt_zero k)) (by kernel_rfl) (by kernel_rfl) (fun x => by kernel_rfl)

/-! impl.BuildGraph -/

noncomputable def q70_C : Cfg := { ti := g_tis, ents := [q54_Ent, q60_Ent], ann := [], lent := 0 }

def q70_ti : Tmpl := ⟨(.slot (Ty.slice (Ty.prod Ty.i (Ty.prod Ty.i (Ty.prod (Ty.slice YReadMark) (Ty.prod (Ty.slice (Ty.prod Ty.i (Ty.prod Ty.i
  Ty.unit))) Ty.unit))))) .nil), .nil⟩

def q70_to : Tmpl := ⟨(.own 0 .nil), (.lst false YEdge .nil)⟩

noncomputable def impl_BuildGraph_S (x : List (Int × Int × List (Int × Int × Unit) × List (Int × Int × Unit) × Unit) × Unit) : Option (List (Int × Int × Int × Int × Unit) × Unit) :=
  Option.bind (impl_IsHistory_S (x.1, ())) fun v => bif !v.1 then some ([], ()) else Option.bind (impl_graph_S (x.1, ())) fun v => some (v.1, ())

noncomputable def q70_Ent : Ent := ⟨148, q70_ti, q70_to, impl_BuildGraph_S⟩

theorem q70_HC : CfgOK Go.Proofs.Tryz.prog q70_C := hc_of g_tisOK g_wide (all_cons q54_OK (all_cons q60_OK all_nil))

theorem q70_OK : EntOK Go.Proofs.Tryz.prog q70_Ent := ok_of q70_HC Go.Proofs.Tryz.func148 0 (by kernel_rfl) (fun k hk => absurd hk (Nat.not_lt_zero k)) (by kernel_rfl) (by kernel_rfl) (fun x => by kernel_rfl)

/-! impl.AreEdges -/

abbrev q71_I2 : Type := List (Int × Int × Int × Int × Unit) × List (Int × Int × Int × Int × Unit) × Int × Unit

abbrev q71_V2 : Type := Int × Unit

abbrev q71_Q2 : Type := Int × Int × Int × Int × Unit ⊕ Int × Int × Int × Int × Unit ⊕ Int × Int × Int × Int × Unit ⊕ Int × Int × Int × Int × Unit ⊕ Int × Int × Int × Int × Unit ⊕ Int × Int × Int × Int × Unit ⊕ Unit

noncomputable def impl_AreEdges_D2 (i : q71_I2) (v : q71_V2) (R : Type) (K : q71_V2 ⊕ q71_Q2 → Option R) : Option R :=
  bif decide (v.1 < i.2.2.1) then Option.bind (lAt i.2.1 v.1) fun v_1 => Option.bind (impl_isID_S (v_1.1, ())) fun v_2 => bif !v_2.1 then K (Sum.inr (Sum.inl (v_1.1, v_1.2.1, v_1.2.2.1, v_1.2.2.2.1, ()))) else Option.bind (impl_isID_S
  (v_1.2.1, ())) fun v_3 => bif !v_3.1 then K (Sum.inr (Sum.inr (Sum.inl (v_1.1, v_1.2.1, v_1.2.2.1, v_1.2.2.2.1, ())))) else bif v_1.1 == v_1.2.1 then K (Sum.inr (Sum.inr (Sum.inr (Sum.inl (v_1.1, v_1.2.1, v_1.2.2.1, v_1.2.2.2.1, ()))))) else
  Option.bind (impl_in_S (v_1.2.2.1, 1, 3, ())) fun v_4 => bif !v_4.1 then K (Sum.inr (Sum.inr (Sum.inr (Sum.inr (Sum.inl (v_1.1, v_1.2.1, v_1.2.2.1, v_1.2.2.2.1, ())))))) else Option.bind (impl_isKey_S (v_1.2.2.2.1, ())) fun v_5 => bif !v_5.1
  then K (Sum.inr (Sum.inr (Sum.inr (Sum.inr (Sum.inr (Sum.inl (v_1.1, v_1.2.1, v_1.2.2.1, v_1.2.2.2.1, ()))))))) else bif decide (v.1 > 0) then Option.bind (lAt i.1 (IntKind.wrap IntKind.i64 (v.1 - 1))) fun v_6 => Option.bind
  (impl_compareEdges_S ((v_6.1, v_6.2.1, v_6.2.2.1, v_6.2.2.2.1, ()), (v_1.1, v_1.2.1, v_1.2.2.1, v_1.2.2.2.1, ()), ())) fun v_7 => bif decide (v_7.1 ≥ 0) then K (Sum.inr (Sum.inr (Sum.inr (Sum.inr (Sum.inr (Sum.inr (Sum.inl (v_1.1, v_1.2.1,
  v_1.2.2.1, v_1.2.2.2.1, ())))))))) else K (Sum.inl (IntKind.wrap IntKind.i64 (v.1 + 1), ())) else K (Sum.inl (IntKind.wrap IntKind.i64 (v.1 + 1), ())) else K (Sum.inr (Sum.inr (Sum.inr (Sum.inr (Sum.inr (Sum.inr (Sum.inr ())))))))

theorem impl_AreEdges_D2_nat : NatD impl_AreEdges_D2 := fun i v R K => nat_bif (nat_bind fun _ => nat_bind fun _ => nat_bif (nat_some) (nat_bind fun _ => nat_bif (nat_some) (nat_bif (nat_some) (nat_bind fun _ => nat_bif (nat_some) (nat_bind fun _ => nat_bif (nat_some) (nat_bif (nat_bind fun _ => nat_bind fun _ => nat_bif (nat_some) (nat_some)) (nat_some))))))) (nat_some)

def q71_T2 : Tmpl := ⟨(.slot (Ty.slice YEdge) (jk 4 (.slot (Ty.slice YEdge) (.slot Ty.i (.slot Ty.i (jk 48 .nil)))))), .nil⟩

def q71_X2_0 (i : q71_I2) (p : Int × Int × Int × Int × Unit) : St := ⟨jn 2 (.b (false) :: jn 53 ([])), [some (Cont.cells 4 [[AV.pv Ty.i p.1, AV.pv Ty.i p.2.1, AV.pv Ty.i p.2.2.1, AV.pv Ty.i p.2.2.2.1]])]⟩

def q71_X2_1 (i : q71_I2) (p : Int × Int × Int × Int × Unit) : St := ⟨jn 2 (.b (false) :: jn 53 ([])), [some (Cont.cells 4 [[AV.pv Ty.i p.1, AV.pv Ty.i p.2.1, AV.pv Ty.i p.2.2.1, AV.pv Ty.i p.2.2.2.1]])]⟩

def q71_X2_2 (i : q71_I2) (p : Int × Int × Int × Int × Unit) : St := ⟨jn 2 (.b (false) :: jn 53 ([])), [some (Cont.cells 4 [[AV.pv Ty.i p.1, AV.pv Ty.i p.2.1, AV.pv Ty.i p.2.2.1, AV.pv Ty.i p.2.2.2.1]])]⟩

def q71_X2_3 (i : q71_I2) (p : Int × Int × Int × Int × Unit) : St := ⟨jn 2 (.b (false) :: jn 53 ([])), [some (Cont.cells 4 [[AV.pv Ty.i p.1, AV.pv Ty.i p.2.1, AV.pv Ty.i p.2.2.1, AV.pv Ty.i p.2.2.2.1]])]⟩

def q71_X2_4 (i : q71_I2) (p : Int × Int × Int × Int × Unit) : St := ⟨jn 2 (.b (false) :: jn 53 ([])), [some (Cont.cells 4 [[AV.pv Ty.i p.1, AV.pv Ty.i p.2.1, AV.pv Ty.i p.2.2.1, AV.pv Ty.i p.2.2.2.1]])]⟩

def q71_X2_5 (i : q71_I2) (p : Int × Int × Int × Int × Unit) : St := ⟨jn 2 (.b (false) :: jn 53 ([])), [some (Cont.cells 4 [[AV.pv Ty.i p.1, AV.pv Ty.i p.2.1, AV.pv Ty.i p.2.2.1, AV.pv Ty.i p.2.2.2.1]])]⟩

def q71_X2_6 (i : q71_I2) (p : Unit) : St := ⟨jn 56 ([]), []⟩

noncomputable def q71_E2 (i : q71_I2) (p : q71_Q2) (R : Type) (K : Ex → St → Option R) : Option R := sumC p (fun p => K (Ex.ret) (q71_X2_0 i p)) fun p => sumC p (fun p => K (Ex.ret) (q71_X2_1 i p)) fun p => sumC p (fun p => K (Ex.ret) (q71_X2_2 i p)) fun p => sumC p (fun p => K (Ex.ret) (q71_X2_3 i p)) fun p => sumC p (fun p => K (Ex.ret) (q71_X2_4 i p)) fun p => sumC p (fun p => K (Ex.ret) (q71_X2_5 i p)) fun p => K (Ex.exit 0) (q71_X2_6 i p)

noncomputable def q71_K2 (i : q71_I2) (p : q71_Q2) : Ex × St := sumC p (fun p => (Ex.ret, q71_X2_0 i p)) fun p => sumC p (fun p => (Ex.ret, q71_X2_1 i p)) fun p => sumC p (fun p => (Ex.ret, q71_X2_2 i p)) fun p => sumC p (fun p => (Ex.ret, q71_X2_3 i p)) fun p => sumC p (fun p => (Ex.ret, q71_X2_4 i p)) fun p => sumC p (fun p => (Ex.ret, q71_X2_5 i p)) fun p => (Ex.exit 0, q71_X2_6 i p)

def q71_M2 (i : q71_I2) (v : q71_V2) : den q71_T2.ty := (i.1, i.2.1, i.2.2.1, v.1, ())

def q71_P2 (x : den q71_T2.ty) : q71_I2 × q71_V2 := ((x.1, x.2.1, x.2.2.1, ()), (x.2.2.2.1, ()))

noncomputable def q71_C : Cfg := { ti := g_tis, ents := [q35_Ent, q34_Ent, q37_Ent, q57_Ent], ann := [(2, loopFn q71_T2 0 q71_P2 impl_AreEdges_D2 q71_E2)], lent := 0 }

def q71_ti : Tmpl := ⟨(.slot (Ty.slice YEdge) .nil), .nil⟩

def q71_to : Tmpl := ⟨(.slot (Ty.bool) .nil), .nil⟩

noncomputable def impl_AreEdges_S (x : List (Int × Int × Int × Int × Unit) × Unit) : Option (Bool × Unit) :=
  Option.bind (iter (fun v => impl_AreEdges_D2 (x.1, x.1, (↑(List.length x.1) : Int), ()) v _ some) (0, ())) fun p => sumC p (fun p => some (false, ())) fun p => sumC p (fun p => some (false, ())) fun p => sumC p (fun p => some
  (false, ())) fun p => sumC p (fun p => some (false, ())) fun p => sumC p (fun p => some (false, ())) fun p => sumC p (fun p => some (false, ())) fun p => some (true, ())

noncomputable def q71_Ent : Ent := ⟨158, q71_ti, q71_to, impl_AreEdges_S⟩

theorem q71_HC : CfgOK Go.Proofs.Tryz.prog q71_C := hc_of g_tisOK g_wide (all_cons q35_OK (all_cons q34_OK (all_cons q37_OK (all_cons q57_OK all_nil))))

theorem q71_lk2 : LkOK Go.Proofs.Tryz.prog q71_C (lpc Go.Proofs.Tryz.f158 0) :=
  lk_of q71_HC (m := 0) (T := q71_T2) (sp := q71_P2) (D := impl_AreEdges_D2) (E := q71_E2) (by kernel_rfl) (by kernel_rfl) (fun k hk => absurd hk (Nat.not_lt_zero k)) [2] q71_M2 (fun x => rfl) impl_AreEdges_D2_nat q71_K2 (fun i p R K => by rcases p with p | p | p | p | p | p | p <;> rfl) (fun i v => by kernel_rfl)

theorem q71_OK : EntOK Go.Proofs.Tryz.prog q71_Ent := ok_of q71_HC Go.Proofs.Tryz.func158 1 (by kernel_rfl) (fun k hk => match k, hk with | 0, _ => q71_lk2) (by kernel_rfl) (by kernel_rfl) (fun x => by kernel_rfl)

/-! impl.HasEdge$1 -/

noncomputable def q73_C : Cfg := { ti := g_tis, ents := [], ann := [], lent := 0 }

def q73_ti : Tmpl := ⟨(.slot YEdge (.slot (Ty.iref Ty.i) (.slot (Ty.iref Ty.i) .nil))), .nil⟩

def q73_to : Tmpl := ⟨(.slot (Ty.bool) .nil), .nil⟩

noncomputable def impl_HasEdge_1_S (x : (Int × Int × Int × Int × Unit) × Option Int × Option Int × Unit) : Option (Bool × Unit) :=
  Option.bind x.2.1 fun v => bif x.1.1 == v then Option.bind x.2.2.1 fun v => some (x.1.2.1 == v, ()) else some (false, ())

noncomputable def q73_Ent : Ent := ⟨272, q73_ti, q73_to, impl_HasEdge_1_S⟩

theorem q73_HC : CfgOK Go.Proofs.Tryz.prog q73_C := hc_of g_tisOK g_wide all_nil

theorem q73_OK : EntOK Go.Proofs.Tryz.prog q73_Ent := ok_of q73_HC Go.Proofs.Tryz.func272 0 (by kernel_rfl) (fun k hk => absurd hk (Nat.not_lt_zero k)) (by kernel_rfl) (by kernel_rfl) (fun x => by kernel_rfl)

/-! slices.IndexFunc[[]impl.Edge,impl.Edge] -/

abbrev q74_I2 : Type := List (Int × Int × Int × Int × Unit) × (Option Int × Option Int × Unit) × Int × Unit

abbrev q74_V2 : Type := Int × Unit

abbrev q74_Q2 : Type := Int × Unit ⊕ Unit

noncomputable def slices_IndexFunc__impl_HasEdge_1_D2 (i : q74_I2) (v : q74_V2) (R : Type) (K : q74_V2 ⊕ q74_Q2 → Option R) : Option R :=
  bif decide (v.1 < i.2.2.1) then Option.bind (lAt i.1 v.1) fun v_1 => Option.bind (impl_HasEdge_1_S ((v_1.1, v_1.2.1, v_1.2.2.1, v_1.2.2.2.1, ()), i.2.1.1, i.2.1.2.1, ())) fun v_2 => bif v_2.1 then K (Sum.inr (Sum.inl (v.1, ()))) else K
  (Sum.inl (IntKind.wrap IntKind.i64 (v.1 + 1), ())) else K (Sum.inr (Sum.inr ()))

theorem slices_IndexFunc__impl_HasEdge_1_D2_nat : NatD slices_IndexFunc__impl_HasEdge_1_D2 := fun i v R K => nat_bif (nat_bind fun _ => nat_bind fun _ => nat_bif (nat_some) (nat_some)) (nat_some)

def q74_T2 : Tmpl := ⟨(.slot (Ty.slice YEdge) (.slot (Ty.fn 272 (Ty.prod (Ty.iref Ty.i) (Ty.prod (Ty.iref Ty.i) Ty.unit))) (jk 5 (.slot Ty.i (.slot Ty.i (jk 10 .nil)))))), .nil⟩

def q74_X2_0 (i : q74_I2) (p : Int × Unit) : St := ⟨jn 4 (.n (p.1) :: jn 14 ([])), []⟩

def q74_X2_1 (i : q74_I2) (p : Unit) : St := ⟨jn 19 ([]), []⟩

noncomputable def q74_E2 (i : q74_I2) (p : q74_Q2) (R : Type) (K : Ex → St → Option R) : Option R := sumC p (fun p => K (Ex.ret) (q74_X2_0 i p)) fun p => K (Ex.exit 0) (q74_X2_1 i p)

noncomputable def q74_K2 (i : q74_I2) (p : q74_Q2) : Ex × St := sumC p (fun p => (Ex.ret, q74_X2_0 i p)) fun p => (Ex.exit 0, q74_X2_1 i p)

def q74_M2 (i : q74_I2) (v : q74_V2) : den q74_T2.ty := (i.1, i.2.1, i.2.2.1, v.1, ())

def q74_P2 (x : den q74_T2.ty) : q74_I2 × q74_V2 := ((x.1, x.2.1, x.2.2.1, ()), (x.2.2.2.1, ()))

noncomputable def q74_C : Cfg := { ti := g_tis, ents := [q73_Ent], ann := [(2, loopFn q74_T2 0 q74_P2 slices_IndexFunc__impl_HasEdge_1_D2 q74_E2)], lent := 0 }

def q74_ti : Tmpl := ⟨(.slot (Ty.slice YEdge) (.slot (Ty.fn 272 (Ty.prod (Ty.iref Ty.i) (Ty.prod (Ty.iref Ty.i) Ty.unit))) .nil)), .nil⟩

def q74_to : Tmpl := ⟨(.slot Ty.i .nil), .nil⟩

noncomputable def slices_IndexFunc__impl_HasEdge_1_S (x : List (Int × Int × Int × Int × Unit) × (Option Int × Option Int × Unit) × Unit) : Option (Int × Unit) :=
  Option.bind (iter (fun v => slices_IndexFunc__impl_HasEdge_1_D2 (x.1, x.2.1, (↑(List.length x.1) : Int), ()) v _ some) (0, ())) fun p => sumC p (fun p => some (p.1, ())) fun p => some (-1, ())

noncomputable def q74_Ent : Ent := ⟨279, q74_ti, q74_to, slices_IndexFunc__impl_HasEdge_1_S⟩

theorem q74_HC : CfgOK Go.Proofs.Tryz.prog q74_C := hc_of g_tisOK g_wide (all_cons q73_OK all_nil)

theorem q74_lk2 : LkOK Go.Proofs.Tryz.prog q74_C (lpc Go.Proofs.Tryz.f279 0) :=
  lk_of q74_HC (m := 0) (T := q74_T2) (sp := q74_P2) (D := slices_IndexFunc__impl_HasEdge_1_D2) (E := q74_E2) (by kernel_rfl) (by kernel_rfl) (fun k hk => absurd hk (Nat.not_lt_zero k)) [4] q74_M2 (fun x => rfl) slices_IndexFunc__impl_HasEdge_1_D2_nat q74_K2 (fun i p R K => by rcases p with p | p <;> rfl) (fun i v => by kernel_rfl)

theorem q74_OK : EntOK Go.Proofs.Tryz.prog q74_Ent := ok_of q74_HC Go.Proofs.Tryz.func279 1 (by kernel_rfl) (fun k hk => match k, hk with | 0, _ => q74_lk2) (by kernel_rfl) (by kernel_rfl) (fun x => by kernel_rfl)

/-! slices.ContainsFunc[[]impl.Edge,impl.Edge] -/

noncomputable def q75_C : Cfg := { ti := g_tis, ents := [q74_Ent], ann := [], lent := 0 }

def q75_ti : Tmpl := ⟨(.slot (Ty.slice YEdge) (.slot (Ty.fn 272 (Ty.prod (Ty.iref Ty.i) (Ty.prod (Ty.iref Ty.i) Ty.unit))) .nil)), .nil⟩

def q75_to : Tmpl := ⟨(.slot (Ty.bool) .nil), .nil⟩

noncomputable def slices_ContainsFunc__impl_HasEdge_1_S (x : List (Int × Int × Int × Int × Unit) × (Option Int × Option Int × Unit) × Unit) : Option (Bool × Unit) :=
  Option.bind (slices_IndexFunc__impl_HasEdge_1_S (x.1, x.2.1, ())) fun v => some (decide (v.1 ≥ 0), ())

noncomputable def q75_Ent : Ent := ⟨172, q75_ti, q75_to, slices_ContainsFunc__impl_HasEdge_1_S⟩

theorem q75_HC : CfgOK Go.Proofs.Tryz.prog q75_C := hc_of g_tisOK g_wide (all_cons q74_OK all_nil)

theorem q75_OK : EntOK Go.Proofs.Tryz.prog q75_Ent := ok_of q75_HC Go.Proofs.Tryz.func172 0 (by kernel_rfl) (fun k hk => absurd hk (Nat.not_lt_zero k)) (by kernel_rfl) (by kernel_rfl) (fun x => by kernel_rfl)

/-! impl.HasEdge -/

noncomputable def q76_C : Cfg := { ti := g_tis, ents := [q75_Ent], ann := [], lent := 0 }

def q76_ti : Tmpl := ⟨(.slot (Ty.slice YEdge) (.slot Ty.i (.slot Ty.i .nil))), .nil⟩

def q76_to : Tmpl := ⟨(.slot (Ty.bool) .nil), .nil⟩

noncomputable def impl_HasEdge_S (x : List (Int × Int × Int × Int × Unit) × Int × Int × Unit) : Option (Bool × Unit) :=
  Option.bind (slices_ContainsFunc__impl_HasEdge_1_S (x.1, (some x.2.1, some x.2.2.1, ()), ())) fun v => some (v.1, ())

noncomputable def q76_Ent : Ent := ⟨159, q76_ti, q76_to, impl_HasEdge_S⟩

theorem q76_HC : CfgOK Go.Proofs.Tryz.prog q76_C := hc_of g_tisOK g_wide (all_cons q75_OK all_nil)

theorem q76_OK : EntOK Go.Proofs.Tryz.prog q76_Ent := ok_of q76_HC Go.Proofs.Tryz.func159 0 (by kernel_rfl) (fun k hk => absurd hk (Nat.not_lt_zero k)) (by kernel_rfl) (by kernel_rfl) (fun x => by kernel_rfl)

/-! impl.CheckCycle -/

abbrev q78_I4 : Type := List (Int × Int × Int × Int × Unit) × List Int × List Int × Int × Unit

abbrev q78_V4 : Type := Int × Unit

abbrev q78_Q4 : Type := Unit ⊕ Unit ⊕ Unit

noncomputable def impl_CheckCycle_D4 (i : q78_I4) (v : q78_V4) (R : Type) (K : q78_V4 ⊕ q78_Q4 → Option R) : Option R :=
  bif decide (v.1 < i.2.2.2.1) then Option.bind (lAt i.2.2.1 v.1) fun v_1 => Option.bind (slAt i.2.1 0 v.1) fun v_2 => Option.bind (slices_Contains_int_S (v_2, v_1, ())) fun v_3 => bif v_3.1 then K (Sum.inr (Sum.inl ())) else Option.bind (rem?
  (IntKind.wrap IntKind.i64 (v.1 + 1)) (↑(List.length i.2.1) : Int)) fun v_4 => Option.bind (lAt i.2.1 v_4) fun v_5 => Option.bind (impl_HasEdge_S (i.1, v_1, v_5, ())) fun v_6 => bif !v_6.1 then K (Sum.inr (Sum.inr (Sum.inl ()))) else K
  (Sum.inl (IntKind.wrap IntKind.i64 (v.1 + 1), ())) else K (Sum.inr (Sum.inr (Sum.inr ())))

theorem impl_CheckCycle_D4_nat : NatD impl_CheckCycle_D4 := fun i v R K => nat_bif (nat_bind fun _ => nat_bind fun _ => nat_bind fun _ => nat_bif (nat_some) (nat_bind fun _ => nat_bind fun _ => nat_bind fun _ => nat_bif (nat_some) (nat_some))) (nat_some)

def q78_T4 : Tmpl := ⟨(.slot (Ty.slice YEdge) (.slot (Ty.slice Ty.i) (jk 13 (.slot (Ty.slice Ty.i) (.slot Ty.i (.slot Ty.i (jk 24 .nil))))))), .nil⟩

def q78_X4_0 (i : q78_I4) (p : Unit) : St := ⟨jn 4 (.b (false) :: jn 37 ([])), []⟩

def q78_X4_1 (i : q78_I4) (p : Unit) : St := ⟨jn 4 (.b (false) :: jn 37 ([])), []⟩

def q78_X4_2 (i : q78_I4) (p : Unit) : St := ⟨jn 42 ([]), []⟩

noncomputable def q78_E4 (i : q78_I4) (p : q78_Q4) (R : Type) (K : Ex → St → Option R) : Option R := sumC p (fun p => K (Ex.ret) (q78_X4_0 i p)) fun p => sumC p (fun p => K (Ex.ret) (q78_X4_1 i p)) fun p => K (Ex.exit 0) (q78_X4_2 i p)

noncomputable def q78_K4 (i : q78_I4) (p : q78_Q4) : Ex × St := sumC p (fun p => (Ex.ret, q78_X4_0 i p)) fun p => sumC p (fun p => (Ex.ret, q78_X4_1 i p)) fun p => (Ex.exit 0, q78_X4_2 i p)

def q78_M4 (i : q78_I4) (v : q78_V4) : den q78_T4.ty := (i.1, i.2.1, i.2.2.1, i.2.2.2.1, v.1, ())

def q78_P4 (x : den q78_T4.ty) : q78_I4 × q78_V4 := ((x.1, x.2.1, x.2.2.1, x.2.2.2.1, ()), (x.2.2.2.2.1, ()))

noncomputable def q78_C : Cfg := { ti := g_tis, ents := [q71_Ent, q62_Ent, q76_Ent], ann := [(4, loopFn q78_T4 0 q78_P4 impl_CheckCycle_D4 q78_E4)], lent := 0 }

def q78_ti : Tmpl := ⟨(.slot (Ty.slice YEdge) (.slot (Ty.slice Ty.i) .nil)), .nil⟩

def q78_to : Tmpl := ⟨(.slot (Ty.bool) .nil), .nil⟩

noncomputable def impl_CheckCycle_S (x : List (Int × Int × Int × Int × Unit) × List Int × Unit) : Option (Bool × Unit) :=
  Option.bind (impl_AreEdges_S (x.1, ())) fun v => bif !v.1 then some (false, ()) else bif decide ((↑(List.length x.2.1) : Int) < 2) then some (false, ()) else Option.bind (iter (fun v => impl_CheckCycle_D4 (x.1, x.2.1, x.2.1, (↑(List.length
  x.2.1) : Int), ()) v _ some) (0, ())) fun p => sumC p (fun p => some (false, ())) fun p => sumC p (fun p => some (false, ())) fun p => some (true, ())

noncomputable def q78_Ent : Ent := ⟨78, q78_ti, q78_to, impl_CheckCycle_S⟩

theorem q78_HC : CfgOK Go.Proofs.Tryz.prog q78_C := hc_of g_tisOK g_wide (all_cons q71_OK (all_cons q62_OK (all_cons q76_OK all_nil)))

theorem q78_lk4 : LkOK Go.Proofs.Tryz.prog q78_C (lpc Go.Proofs.Tryz.f78 0) :=
  lk_of q78_HC (m := 0) (T := q78_T4) (sp := q78_P4) (D := impl_CheckCycle_D4) (E := q78_E4) (by kernel_rfl) (by kernel_rfl) (fun k hk => absurd hk (Nat.not_lt_zero k)) [4] q78_M4 (fun x => rfl) impl_CheckCycle_D4_nat q78_K4 (fun i p R K => by rcases p with p | p | p <;> rfl) (fun i v => by kernel_rfl)

theorem q78_OK : EntOK Go.Proofs.Tryz.prog q78_Ent := ok_of q78_HC Go.Proofs.Tryz.func78 1 (by kernel_rfl) (fun k hk => match k, hk with | 0, _ => q78_lk4) (by kernel_rfl) (by kernel_rfl) (fun x => by kernel_rfl)

/-! impl.ClassifyCycle$1 -/

noncomputable def q79_C : Cfg := { ti := g_tis, ents := [q48_Ent], ann := [], lent := 0 }

def q79_ti : Tmpl := ⟨(.slot Ty.i (.slot (Ty.iref (Ty.slice (Ty.prod Ty.i (Ty.prod Ty.i (Ty.prod (Ty.slice YReadMark) (Ty.prod (Ty.slice (Ty.prod Ty.i (Ty.prod (Ty.int
  IntKind.i64) Ty.unit))) Ty.unit)))))) .nil)), .nil⟩

def q79_to : Tmpl := ⟨(.agg (.slot Ty.i (.slot Ty.i (.slot (Ty.slice YReadMark) (.slot (Ty.slice YReadMark) .nil)))) .nil), .nil⟩

noncomputable def impl_ClassifyCycle_1_S (x : Int × Option (List (Int × Int × List (Int × Int × Unit) × List (Int × Int × Unit) × Unit)) × Unit) : Option (Int × Int × List (Int × Int × Unit) × List (Int × Int × Unit) × Unit) :=
  Option.bind x.2.1 fun v => Option.bind x.2.1 fun v_1 => Option.bind (impl_FindEntry_S (v_1, x.1, ())) fun v_2 => Option.bind (lAt v v_2.1) fun v => some (v.1, v.2.1, v.2.2.1, v.2.2.2.1, ())

noncomputable def q79_Ent : Ent := ⟨165, q79_ti, q79_to, impl_ClassifyCycle_1_S⟩

theorem q79_HC : CfgOK Go.Proofs.Tryz.prog q79_C := hc_of g_tisOK g_wide (all_cons q48_OK all_nil)

theorem q79_OK : EntOK Go.Proofs.Tryz.prog q79_Ent := ok_of q79_HC Go.Proofs.Tryz.func165 0 (by kernel_rfl) (fun k hk => absurd hk (Nat.not_lt_zero k)) (by kernel_rfl) (by kernel_rfl) (fun x => by kernel_rfl)

/-! impl.ClassifyCycle$2 -/

noncomputable def q80_C : Cfg := { ti := g_tis, ents := [q79_Ent], ann := [], lent := 0 }

def q80_ti : Tmpl := ⟨(.slot Ty.i (.slot (Ty.iref (Ty.fn 165 (Ty.prod (Ty.iref (Ty.slice (Ty.prod Ty.i (Ty.prod Ty.i (Ty.prod (Ty.slice YReadMark) (Ty.prod (Ty.slice (Ty.prod (Ty.int
  IntKind.i64) (Ty.prod Ty.i Ty.unit))) Ty.unit)))))) Ty.unit))) .nil)), .nil⟩

def q80_to : Tmpl := ⟨(.slot (Ty.bool) .nil), .nil⟩

noncomputable def impl_ClassifyCycle_2_S (x : Int × Option (Option (List (Int × Int × List (Int × Int × Unit) × List (Int × Int × Unit) × Unit)) × Unit) × Unit) : Option (Bool × Unit) :=
  Option.bind x.2.1 fun v => Option.bind (impl_ClassifyCycle_1_S (x.1, v.1, ())) fun v => some ((↑(List.length v.2.2.2.1) : Int) == 0, ())

noncomputable def q80_Ent : Ent := ⟨167, q80_ti, q80_to, impl_ClassifyCycle_2_S⟩

theorem q80_HC : CfgOK Go.Proofs.Tryz.prog q80_C := hc_of g_tisOK g_wide (all_cons q79_OK all_nil)

theorem q80_OK : EntOK Go.Proofs.Tryz.prog q80_Ent := ok_of q80_HC Go.Proofs.Tryz.func167 0 (by kernel_rfl) (fun k hk => absurd hk (Nat.not_lt_zero k)) (by kernel_rfl) (by kernel_rfl) (fun x => by kernel_rfl)

end Go.Ab
