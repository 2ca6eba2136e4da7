import Derived.Test.YthjochcbdhiclaaGreatCr1
set_option maxRecDepth 100000
set_option linter.unusedVariables false
namespace Go.Ab

/-! slices.IndexFunc[[]int,int] -/

abbrev q81_I2 : Type := List Int × (Option (Option (List (Int × Int × List (Int × Int × Unit) × List (Int × Int × Unit) × Unit)) × Unit) × Unit) × Int × Unit

abbrev q81_V2 : Type := Int × Unit

abbrev q81_Q2 : Type := Int × Unit ⊕ Unit

noncomputable def slices_IndexFunc__impl_ClassifyCycle_2_D2 (i : q81_I2) (v : q81_V2) (R : Type) (K : q81_V2 ⊕ q81_Q2 → Option R) : Option R :=
  bif decide (v.1 < i.2.2.1) then Option.bind (lAt i.1 v.1) fun v_1 => Option.bind (impl_ClassifyCycle_2_S (v_1, i.2.1.1, ())) fun v_2 => bif v_2.1 then K (Sum.inr (Sum.inl (v.1, ()))) else K (Sum.inl (IntKind.wrap IntKind.i64 (v.1 + 1), ()))
  else K (Sum.inr (Sum.inr ()))

theorem slices_IndexFunc__impl_ClassifyCycle_2_D2_nat : NatD slices_IndexFunc__impl_ClassifyCycle_2_D2 := fun i v R K => nat_bif (nat_bind fun _ => nat_bind fun _ => nat_bif (nat_some) (nat_some)) (nat_some)

def q81_T2 : Tmpl := ⟨(.slot (Ty.slice Ty.i) (.slot (Ty.fn 167 (Ty.prod (Ty.iref (Ty.fn 165 (Ty.prod (Ty.iref (Ty.slice (Ty.prod Ty.i (Ty.prod Ty.i (Ty.prod (Ty.slice YReadMark) (Ty.prod (Ty.slice
  YReadMark) Ty.unit)))))) Ty.unit))) Ty.unit)) (jk 5 (.slot Ty.i (.slot Ty.i (jk 10 .nil)))))), .nil⟩

def q81_X2_0 (i : q81_I2) (p : Int × Unit) : St := ⟨jn 4 (.n (p.1) :: jn 14 ([])), []⟩

def q81_X2_1 (i : q81_I2) (p : Unit) : St := ⟨jn 19 ([]), []⟩

noncomputable def q81_E2 (i : q81_I2) (p : q81_Q2) (R : Type) (K : Ex → St → Option R) : Option R := sumC p (fun p => K (Ex.ret) (q81_X2_0 i p)) fun p => K (Ex.exit 0) (q81_X2_1 i p)

noncomputable def q81_K2 (i : q81_I2) (p : q81_Q2) : Ex × St := sumC p (fun p => (Ex.ret, q81_X2_0 i p)) fun p => (Ex.exit 0, q81_X2_1 i p)

def q81_M2 (i : q81_I2) (v : q81_V2) : den q81_T2.ty := (i.1, i.2.1, i.2.2.1, v.1, ())

def q81_P2 (x : den q81_T2.ty) : q81_I2 × q81_V2 := ((x.1, x.2.1, x.2.2.1, ()), (x.2.2.2.1, ()))

noncomputable def q81_C : Cfg := { ti := g_tis, ents := [q80_Ent], ann := [(2, loopFn q81_T2 0 q81_P2 slices_IndexFunc__impl_ClassifyCycle_2_D2 q81_E2)], lent := 0 }

def q81_ti : Tmpl := ⟨(.slot (Ty.slice Ty.i) (.slot (Ty.fn 167 (Ty.prod (Ty.iref (Ty.fn 165 (Ty.prod (Ty.iref (Ty.slice (Ty.prod Ty.i (Ty.prod Ty.i (Ty.prod (Ty.slice YReadMark) (Ty.prod (Ty.slice
  YReadMark) Ty.unit)))))) Ty.unit))) Ty.unit)) .nil)), .nil⟩

def q81_to : Tmpl := ⟨(.slot Ty.i .nil), .nil⟩

noncomputable def slices_IndexFunc__impl_ClassifyCycle_2_S (x : List Int × (Option (Option (List (Int × Int × List (Int × Int × Unit) × List (Int × Int × Unit) × Unit)) × Unit) × Unit) × Unit) : Option (Int × Unit) :=
  Option.bind (iter (fun v => slices_IndexFunc__impl_ClassifyCycle_2_D2 (x.1, x.2.1, (↑(List.length x.1) : Int), ()) v _ some) (0, ())) fun p => sumC p (fun p => some (p.1, ())) fun p => some (-1, ())

noncomputable def q81_Ent : Ent := ⟨276, q81_ti, q81_to, slices_IndexFunc__impl_ClassifyCycle_2_S⟩

theorem q81_HC : CfgOK Go.Proofs.Tryz.prog q81_C := hc_of g_tisOK g_wide (all_cons q80_OK all_nil)

theorem q81_lk2 : LkOK Go.Proofs.Tryz.prog q81_C (lpc Go.Proofs.Tryz.f276 0) :=
  lk_of q81_HC (m := 0) (T := q81_T2) (sp := q81_P2) (D := slices_IndexFunc__impl_ClassifyCycle_2_D2) (E := q81_E2) (by kernel_rfl) (by kernel_rfl) (fun k hk => absurd hk (Nat.not_lt_zero k)) [4] q81_M2 (fun x => rfl) slices_IndexFunc__impl_ClassifyCycle_2_D2_nat q81_K2 (fun i p R K => by rcases p with p | p <;> rfl) (fun i v => by kernel_rfl)

theorem q81_OK : EntOK Go.Proofs.Tryz.prog q81_Ent := ok_of q81_HC Go.Proofs.Tryz.func276 1 (by kernel_rfl) (fun k hk => match k, hk with | 0, _ => q81_lk2) (by kernel_rfl) (by kernel_rfl) (fun x => by kernel_rfl)

/-! slices.ContainsFunc[[]int,int] -/

noncomputable def q82_C : Cfg := { ti := g_tis, ents := [q81_Ent], ann := [], lent := 0 }

def q82_ti : Tmpl := ⟨(.slot (Ty.slice Ty.i) (.slot (Ty.fn 167 (Ty.prod (Ty.iref (Ty.fn 165 (Ty.prod (Ty.iref (Ty.slice (Ty.prod Ty.i (Ty.prod Ty.i (Ty.prod (Ty.slice YReadMark) (Ty.prod (Ty.slice
  YReadMark) Ty.unit)))))) Ty.unit))) Ty.unit)) .nil)), .nil⟩

def q82_to : Tmpl := ⟨(.slot (Ty.bool) .nil), .nil⟩

noncomputable def slices_ContainsFunc__impl_ClassifyCycle_2_S (x : List Int × (Option (Option (List (Int × Int × List (Int × Int × Unit) × List (Int × Int × Unit) × Unit)) × Unit) × Unit) × Unit) : Option (Bool × Unit) :=
  Option.bind (slices_IndexFunc__impl_ClassifyCycle_2_S (x.1, x.2.1, ())) fun v => some (decide (v.1 ≥ 0), ())

noncomputable def q82_Ent : Ent := ⟨166, q82_ti, q82_to, slices_ContainsFunc__impl_ClassifyCycle_2_S⟩

theorem q82_HC : CfgOK Go.Proofs.Tryz.prog q82_C := hc_of g_tisOK g_wide (all_cons q81_OK all_nil)

theorem q82_OK : EntOK Go.Proofs.Tryz.prog q82_Ent := ok_of q82_HC Go.Proofs.Tryz.func166 0 (by kernel_rfl) (fun k hk => absurd hk (Nat.not_lt_zero k)) (by kernel_rfl) (by kernel_rfl) (fun x => by kernel_rfl)

/-! impl.ClassifyCycle$4 -/

noncomputable def q83_C : Cfg := { ti := g_tis, ents := [q52_Ent], ann := [], lent := 0 }

def q83_ti : Tmpl := ⟨(.slot YReadMark (.slot (Ty.iref (Ty.prod Ty.i (Ty.prod Ty.i (Ty.prod (Ty.slice YReadMark) (Ty.prod (Ty.slice (Ty.prod Ty.i (Ty.prod Ty.i
  Ty.unit))) Ty.unit))))) .nil)), .nil⟩

def q83_to : Tmpl := ⟨(.slot (Ty.bool) .nil), .nil⟩

noncomputable def impl_ClassifyCycle_4_S (x : (Int × Int × Unit) × Option (Int × Int × List (Int × Int × Unit) × List (Int × Int × Unit) × Unit) × Unit) : Option (Bool × Unit) :=
  Option.bind x.2.1 fun v => Option.bind (impl_Entry_writes_S ((v.1, v.2.1, v.2.2.1, v.2.2.2.1, ()), x.1.1, ())) fun v => some (v.1, ())

noncomputable def q83_Ent : Ent := ⟨170, q83_ti, q83_to, impl_ClassifyCycle_4_S⟩

theorem q83_HC : CfgOK Go.Proofs.Tryz.prog q83_C := hc_of g_tisOK g_wide (all_cons q52_OK all_nil)

theorem q83_OK : EntOK Go.Proofs.Tryz.prog q83_Ent := ok_of q83_HC Go.Proofs.Tryz.func170 0 (by kernel_rfl) (fun k hk => absurd hk (Nat.not_lt_zero k)) (by kernel_rfl) (by kernel_rfl) (fun x => by kernel_rfl)

/-! slices.IndexFunc[[]impl.Write,impl.Write] -/

abbrev q84_I2 : Type := List (Int × Int × Unit) × (Option (Int × Int × List (Int × Int × Unit) × List (Int × Int × Unit) × Unit) × Unit) × Int × Unit

abbrev q84_V2 : Type := Int × Unit

abbrev q84_Q2 : Type := Int × Unit ⊕ Unit

noncomputable def slices_IndexFunc__impl_ClassifyCycle_4_D2 (i : q84_I2) (v : q84_V2) (R : Type) (K : q84_V2 ⊕ q84_Q2 → Option R) : Option R :=
  bif decide (v.1 < i.2.2.1) then Option.bind (lAt i.1 v.1) fun v_1 => Option.bind (impl_ClassifyCycle_4_S ((v_1.1, v_1.2.1, ()), i.2.1.1, ())) fun v_2 => bif v_2.1 then K (Sum.inr (Sum.inl (v.1, ()))) else K (Sum.inl (IntKind.wrap IntKind.i64
  (v.1 + 1), ())) else K (Sum.inr (Sum.inr ()))

theorem slices_IndexFunc__impl_ClassifyCycle_4_D2_nat : NatD slices_IndexFunc__impl_ClassifyCycle_4_D2 := fun i v R K => nat_bif (nat_bind fun _ => nat_bind fun _ => nat_bif (nat_some) (nat_some)) (nat_some)

def q84_T2 : Tmpl := ⟨(.slot (Ty.slice YReadMark) (.slot (Ty.fn 170 (Ty.prod (Ty.iref (Ty.prod Ty.i (Ty.prod Ty.i (Ty.prod (Ty.slice YReadMark) (Ty.prod (Ty.slice (Ty.prod Ty.i (Ty.prod
  Ty.i Ty.unit))) Ty.unit))))) Ty.unit)) (jk 5 (.slot Ty.i (.slot Ty.i (jk 10 .nil)))))), .nil⟩

def q84_X2_0 (i : q84_I2) (p : Int × Unit) : St := ⟨jn 4 (.n (p.1) :: jn 14 ([])), []⟩

def q84_X2_1 (i : q84_I2) (p : Unit) : St := ⟨jn 19 ([]), []⟩

noncomputable def q84_E2 (i : q84_I2) (p : q84_Q2) (R : Type) (K : Ex → St → Option R) : Option R := sumC p (fun p => K (Ex.ret) (q84_X2_0 i p)) fun p => K (Ex.exit 0) (q84_X2_1 i p)

noncomputable def q84_K2 (i : q84_I2) (p : q84_Q2) : Ex × St := sumC p (fun p => (Ex.ret, q84_X2_0 i p)) fun p => (Ex.exit 0, q84_X2_1 i p)

def q84_M2 (i : q84_I2) (v : q84_V2) : den q84_T2.ty := (i.1, i.2.1, i.2.2.1, v.1, ())

def q84_P2 (x : den q84_T2.ty) : q84_I2 × q84_V2 := ((x.1, x.2.1, x.2.2.1, ()), (x.2.2.2.1, ()))

noncomputable def q84_C : Cfg := { ti := g_tis, ents := [q83_Ent], ann := [(2, loopFn q84_T2 0 q84_P2 slices_IndexFunc__impl_ClassifyCycle_4_D2 q84_E2)], lent := 0 }

def q84_ti : Tmpl := ⟨(.slot (Ty.slice YReadMark) (.slot (Ty.fn 170 (Ty.prod (Ty.iref (Ty.prod Ty.i (Ty.prod Ty.i (Ty.prod (Ty.slice YReadMark) (Ty.prod (Ty.slice (Ty.prod Ty.i (Ty.prod
  Ty.i Ty.unit))) Ty.unit))))) Ty.unit)) .nil)), .nil⟩

def q84_to : Tmpl := ⟨(.slot Ty.i .nil), .nil⟩

noncomputable def slices_IndexFunc__impl_ClassifyCycle_4_S (x : List (Int × Int × Unit) × (Option (Int × Int × List (Int × Int × Unit) × List (Int × Int × Unit) × Unit) × Unit) × Unit) : Option (Int × Unit) :=
  Option.bind (iter (fun v => slices_IndexFunc__impl_ClassifyCycle_4_D2 (x.1, x.2.1, (↑(List.length x.1) : Int), ()) v _ some) (0, ())) fun p => sumC p (fun p => some (p.1, ())) fun p => some (-1, ())

noncomputable def q84_Ent : Ent := ⟨277, q84_ti, q84_to, slices_IndexFunc__impl_ClassifyCycle_4_S⟩

theorem q84_HC : CfgOK Go.Proofs.Tryz.prog q84_C := hc_of g_tisOK g_wide (all_cons q83_OK all_nil)

theorem q84_lk2 : LkOK Go.Proofs.Tryz.prog q84_C (lpc Go.Proofs.Tryz.f277 0) :=
  lk_of q84_HC (m := 0) (T := q84_T2) (sp := q84_P2) (D := slices_IndexFunc__impl_ClassifyCycle_4_D2) (E := q84_E2) (by kernel_rfl) (by kernel_rfl) (fun k hk => absurd hk (Nat.not_lt_zero k)) [4] q84_M2 (fun x => rfl) slices_IndexFunc__impl_ClassifyCycle_4_D2_nat q84_K2 (fun i p R K => by rcases p with p | p <;> rfl) (fun i v => by kernel_rfl)

theorem q84_OK : EntOK Go.Proofs.Tryz.prog q84_Ent := ok_of q84_HC Go.Proofs.Tryz.func277 1 (by kernel_rfl) (fun k hk => match k, hk with | 0, _ => q84_lk2) (by kernel_rfl) (by kernel_rfl) (fun x => by kernel_rfl)

/-! slices.ContainsFunc[[]impl.Write,impl.Write] -/

noncomputable def q85_C : Cfg := { ti := g_tis, ents := [q84_Ent], ann := [], lent := 0 }

def q85_ti : Tmpl := ⟨(.slot (Ty.slice YReadMark) (.slot (Ty.fn 170 (Ty.prod (Ty.iref (Ty.prod Ty.i (Ty.prod Ty.i (Ty.prod (Ty.slice YReadMark) (Ty.prod (Ty.slice (Ty.prod Ty.i (Ty.prod
  Ty.i Ty.unit))) Ty.unit))))) Ty.unit)) .nil)), .nil⟩

def q85_to : Tmpl := ⟨(.slot (Ty.bool) .nil), .nil⟩

noncomputable def slices_ContainsFunc__impl_ClassifyCycle_4_S (x : List (Int × Int × Unit) × (Option (Int × Int × List (Int × Int × Unit) × List (Int × Int × Unit) × Unit) × Unit) × Unit) : Option (Bool × Unit) :=
  Option.bind (slices_IndexFunc__impl_ClassifyCycle_4_S (x.1, x.2.1, ())) fun v => some (decide (v.1 ≥ 0), ())

noncomputable def q85_Ent : Ent := ⟨169, q85_ti, q85_to, slices_ContainsFunc__impl_ClassifyCycle_4_S⟩

theorem q85_HC : CfgOK Go.Proofs.Tryz.prog q85_C := hc_of g_tisOK g_wide (all_cons q84_OK all_nil)

theorem q85_OK : EntOK Go.Proofs.Tryz.prog q85_Ent := ok_of q85_HC Go.Proofs.Tryz.func169 0 (by kernel_rfl) (fun k hk => absurd hk (Nat.not_lt_zero k)) (by kernel_rfl) (by kernel_rfl) (fun x => by kernel_rfl)

/-! impl.ClassifyCycle$3 -/

noncomputable def q86_C : Cfg := { ti := g_tis, ents := [q62_Ent], ann := [], lent := 0 }

def q86_ti : Tmpl := ⟨(.slot YEdge (.slot (Ty.iref (Ty.slice Ty.i)) .nil)), .nil⟩

def q86_to : Tmpl := ⟨(.slot (Ty.bool) .nil), .nil⟩

noncomputable def impl_ClassifyCycle_3_S (x : (Int × Int × Int × Int × Unit) × Option (List Int) × Unit) : Option (Bool × Unit) :=
  Option.bind x.2.1 fun v => Option.bind (slices_Contains_int_S (v, x.1.1, ())) fun v => bif v.1 then Option.bind x.2.1 fun v => Option.bind (slices_Contains_int_S (v, x.1.2.1, ())) fun v => some (v.1, ()) else some (false, ())

noncomputable def q86_Ent : Ent := ⟨168, q86_ti, q86_to, impl_ClassifyCycle_3_S⟩

theorem q86_HC : CfgOK Go.Proofs.Tryz.prog q86_C := hc_of g_tisOK g_wide (all_cons q62_OK all_nil)

theorem q86_OK : EntOK Go.Proofs.Tryz.prog q86_Ent := ok_of q86_HC Go.Proofs.Tryz.func168 0 (by kernel_rfl) (fun k hk => absurd hk (Nat.not_lt_zero k)) (by kernel_rfl) (by kernel_rfl) (fun x => by kernel_rfl)

/-! impl.ClassifyCycle$5 -/

noncomputable def q87_C : Cfg := { ti := g_tis, ents := [q86_Ent], ann := [], lent := 0 }

def q87_ti : Tmpl := ⟨(.slot YEdge (.slot (Ty.iref (Ty.fn 168 (Ty.prod (Ty.iref (Ty.slice Ty.i)) Ty.unit))) .nil)), .nil⟩

def q87_to : Tmpl := ⟨(.slot (Ty.bool) .nil), .nil⟩

noncomputable def impl_ClassifyCycle_5_S (x : (Int × Int × Int × Int × Unit) × Option (Option (List Int) × Unit) × Unit) : Option (Bool × Unit) :=
  Option.bind x.2.1 fun v => Option.bind (impl_ClassifyCycle_3_S ((x.1.1, x.1.2.1, x.1.2.2.1, x.1.2.2.2.1, ()), v.1, ())) fun v => bif v.1 then some (x.1.2.2.1 != 3, ()) else some (false, ())

noncomputable def q87_Ent : Ent := ⟨173, q87_ti, q87_to, impl_ClassifyCycle_5_S⟩

theorem q87_HC : CfgOK Go.Proofs.Tryz.prog q87_C := hc_of g_tisOK g_wide (all_cons q86_OK all_nil)

theorem q87_OK : EntOK Go.Proofs.Tryz.prog q87_Ent := ok_of q87_HC Go.Proofs.Tryz.func173 0 (by kernel_rfl) (fun k hk => absurd hk (Nat.not_lt_zero k)) (by kernel_rfl) (by kernel_rfl) (fun x => by kernel_rfl)

/-! slices.IndexFunc[[]impl.Edge,impl.Edge] -/

abbrev q88_I2 : Type := List (Int × Int × Int × Int × Unit) × (Option (Option (List Int) × Unit) × Unit) × Int × Unit

abbrev q88_V2 : Type := Int × Unit

abbrev q88_Q2 : Type := Int × Unit ⊕ Unit

noncomputable def slices_IndexFunc__impl_ClassifyCycle_5_D2 (i : q88_I2) (v : q88_V2) (R : Type) (K : q88_V2 ⊕ q88_Q2 → Option R) : Option R :=
  bif decide (v.1 < i.2.2.1) then Option.bind (lAt i.1 v.1) fun v_1 => Option.bind (impl_ClassifyCycle_5_S ((v_1.1, v_1.2.1, v_1.2.2.1, v_1.2.2.2.1, ()), i.2.1.1, ())) fun v_2 => bif v_2.1 then K (Sum.inr (Sum.inl (v.1, ()))) else K (Sum.inl
  (IntKind.wrap IntKind.i64 (v.1 + 1), ())) else K (Sum.inr (Sum.inr ()))

theorem slices_IndexFunc__impl_ClassifyCycle_5_D2_nat : NatD slices_IndexFunc__impl_ClassifyCycle_5_D2 := fun i v R K => nat_bif (nat_bind fun _ => nat_bind fun _ => nat_bif (nat_some) (nat_some)) (nat_some)

def q88_T2 : Tmpl := ⟨(.slot (Ty.slice YEdge) (.slot (Ty.fn 173 (Ty.prod (Ty.iref (Ty.fn 168 (Ty.prod (Ty.iref (Ty.slice Ty.i)) Ty.unit))) Ty.unit)) (jk 5 (.slot Ty.i (.slot Ty.i (jk 10 .nil)))))), .nil⟩

def q88_X2_0 (i : q88_I2) (p : Int × Unit) : St := ⟨jn 4 (.n (p.1) :: jn 14 ([])), []⟩

def q88_X2_1 (i : q88_I2) (p : Unit) : St := ⟨jn 19 ([]), []⟩

noncomputable def q88_E2 (i : q88_I2) (p : q88_Q2) (R : Type) (K : Ex → St → Option R) : Option R := sumC p (fun p => K (Ex.ret) (q88_X2_0 i p)) fun p => K (Ex.exit 0) (q88_X2_1 i p)

noncomputable def q88_K2 (i : q88_I2) (p : q88_Q2) : Ex × St := sumC p (fun p => (Ex.ret, q88_X2_0 i p)) fun p => (Ex.exit 0, q88_X2_1 i p)

def q88_M2 (i : q88_I2) (v : q88_V2) : den q88_T2.ty := (i.1, i.2.1, i.2.2.1, v.1, ())

def q88_P2 (x : den q88_T2.ty) : q88_I2 × q88_V2 := ((x.1, x.2.1, x.2.2.1, ()), (x.2.2.2.1, ()))

noncomputable def q88_C : Cfg := { ti := g_tis, ents := [q87_Ent], ann := [(2, loopFn q88_T2 0 q88_P2 slices_IndexFunc__impl_ClassifyCycle_5_D2 q88_E2)], lent := 0 }

def q88_ti : Tmpl := ⟨(.slot (Ty.slice YEdge) (.slot (Ty.fn 173 (Ty.prod (Ty.iref (Ty.fn 168 (Ty.prod (Ty.iref (Ty.slice Ty.i)) Ty.unit))) Ty.unit)) .nil)), .nil⟩

def q88_to : Tmpl := ⟨(.slot Ty.i .nil), .nil⟩

noncomputable def slices_IndexFunc__impl_ClassifyCycle_5_S (x : List (Int × Int × Int × Int × Unit) × (Option (Option (List Int) × Unit) × Unit) × Unit) : Option (Int × Unit) :=
  Option.bind (iter (fun v => slices_IndexFunc__impl_ClassifyCycle_5_D2 (x.1, x.2.1, (↑(List.length x.1) : Int), ()) v _ some) (0, ())) fun p => sumC p (fun p => some (p.1, ())) fun p => some (-1, ())

noncomputable def q88_Ent : Ent := ⟨279, q88_ti, q88_to, slices_IndexFunc__impl_ClassifyCycle_5_S⟩

theorem q88_HC : CfgOK Go.Proofs.Tryz.prog q88_C := hc_of g_tisOK g_wide (all_cons q87_OK all_nil)

theorem q88_lk2 : LkOK Go.Proofs.Tryz.prog q88_C (lpc Go.Proofs.Tryz.f279 0) :=
  lk_of q88_HC (m := 0) (T := q88_T2) (sp := q88_P2) (D := slices_IndexFunc__impl_ClassifyCycle_5_D2) (E := q88_E2) (by kernel_rfl) (by kernel_rfl) (fun k hk => absurd hk (Nat.not_lt_zero k)) [4] q88_M2 (fun x => rfl) slices_IndexFunc__impl_ClassifyCycle_5_D2_nat q88_K2 (fun i p R K => by rcases p with p | p <;> rfl) (fun i v => by kernel_rfl)

theorem q88_OK : EntOK Go.Proofs.Tryz.prog q88_Ent := ok_of q88_HC Go.Proofs.Tryz.func279 1 (by kernel_rfl) (fun k hk => match k, hk with | 0, _ => q88_lk2) (by kernel_rfl) (by kernel_rfl) (fun x => by kernel_rfl)

/-! slices.ContainsFunc[[]impl.Edge,impl.Edge] -/

noncomputable def q89_C : Cfg := { ti := g_tis, ents := [q88_Ent], ann := [], lent := 0 }

def q89_ti : Tmpl := ⟨(.slot (Ty.slice YEdge) (.slot (Ty.fn 173 (Ty.prod (Ty.iref (Ty.fn 168 (Ty.prod (Ty.iref (Ty.slice Ty.i)) Ty.unit))) Ty.unit)) .nil)), .nil⟩

def q89_to : Tmpl := ⟨(.slot (Ty.bool) .nil), .nil⟩

noncomputable def slices_ContainsFunc__impl_ClassifyCycle_5_S (x : List (Int × Int × Int × Int × Unit) × (Option (Option (List Int) × Unit) × Unit) × Unit) : Option (Bool × Unit) :=
  Option.bind (slices_IndexFunc__impl_ClassifyCycle_5_S (x.1, x.2.1, ())) fun v => some (decide (v.1 ≥ 0), ())

noncomputable def q89_Ent : Ent := ⟨172, q89_ti, q89_to, slices_ContainsFunc__impl_ClassifyCycle_5_S⟩

theorem q89_HC : CfgOK Go.Proofs.Tryz.prog q89_C := hc_of g_tisOK g_wide (all_cons q88_OK all_nil)

theorem q89_OK : EntOK Go.Proofs.Tryz.prog q89_Ent := ok_of q89_HC Go.Proofs.Tryz.func172 0 (by kernel_rfl) (fun k hk => absurd hk (Nat.not_lt_zero k)) (by kernel_rfl) (by kernel_rfl) (fun x => by kernel_rfl)

/-! impl.ClassifyCycle -/

noncomputable def q90_C : Cfg := { ti := g_tis, ents := [q70_Ent, q78_Ent, q82_Ent, q79_Ent, q85_Ent, q89_Ent], ann := [], lent := 0 }

def q90_ti : Tmpl := ⟨(.slot (Ty.slice (Ty.prod Ty.i (Ty.prod Ty.i (Ty.prod (Ty.slice YReadMark) (Ty.prod (Ty.slice (Ty.prod Ty.i (Ty.prod Ty.i
  Ty.unit))) Ty.unit))))) (.slot (Ty.slice Ty.i) .nil)), .nil⟩

def q90_to : Tmpl := ⟨(.slot Ty.i .nil), .nil⟩

noncomputable def impl_ClassifyCycle_S (x : List (Int × Int × List (Int × Int × Unit) × List (Int × Int × Unit) × Unit) × List Int × Unit) : Option (Int × Unit) :=
  Option.bind (impl_BuildGraph_S (x.1, ())) fun v => Option.bind (impl_CheckCycle_S (v.1, x.2.1, ())) fun v_1 => bif !v_1.1 then some (0, ()) else Option.bind (slices_ContainsFunc__impl_ClassifyCycle_2_S (x.2.1, (some (some x.1, ()), ()), ()))
  fun v_2 => bif v_2.1 then some (3, ()) else bif (↑(List.length x.2.1) : Int) != 2 then some (4, ()) else Option.bind (lAt x.2.1 1) fun v_3 => Option.bind (impl_ClassifyCycle_1_S (v_3, some x.1, ())) fun v_4 => Option.bind (lAt x.2.1 0) fun
  v_5 => Option.bind (impl_ClassifyCycle_1_S (v_5, some x.1, ())) fun v_6 => Option.bind (slices_ContainsFunc__impl_ClassifyCycle_4_S (v_6.2.2.2.1, (some (v_4.1, v_4.2.1, v_4.2.2.1, v_4.2.2.2.1, ()), ()), ())) fun v_7 => bif v_7.1 then some
  (1, ()) else Option.bind (slices_ContainsFunc__impl_ClassifyCycle_5_S (v.1, (some (some x.2.1, ()), ()), ())) fun v => bif !v.1 then some (2, ()) else some (4, ())

noncomputable def q90_Ent : Ent := ⟨80, q90_ti, q90_to, impl_ClassifyCycle_S⟩

theorem q90_HC : CfgOK Go.Proofs.Tryz.prog q90_C := hc_of g_tisOK g_wide (all_cons q70_OK (all_cons q78_OK (all_cons q82_OK (all_cons q79_OK (all_cons q85_OK (all_cons q89_OK all_nil))))))

theorem q90_OK : EntOK Go.Proofs.Tryz.prog q90_Ent := ok_of q90_HC Go.Proofs.Tryz.func80 0 (by kernel_rfl) (fun k hk => absurd hk (Nat.not_lt_zero k)) (by kernel_rfl) (by kernel_rfl) (fun x => by kernel_rfl)

/-! laws.eqIntS -/

abbrev q93_I4 : Type := List Int × List Int × Unit

abbrev q93_V4 : Type := Int × Unit

abbrev q93_Q4 : Type := Unit ⊕ Unit

noncomputable def laws_eqIntS_D4 (i : q93_I4) (v : q93_V4) (R : Type) (K : q93_V4 ⊕ q93_Q4 → Option R) : Option R :=
  bif decide (v.1 < (↑(List.length i.1) : Int)) then Option.bind (lAt i.1 v.1) fun v_1 => Option.bind (lAt i.2.1 v.1) fun v_2 => bif v_1 != v_2 then K (Sum.inr (Sum.inl ())) else K (Sum.inl (IntKind.wrap IntKind.i64 (v.1 + 1), ())) else K
  (Sum.inr (Sum.inr ()))

theorem laws_eqIntS_D4_nat : NatD laws_eqIntS_D4 := fun i v R K => nat_bif (nat_bind fun _ => nat_bind fun _ => nat_bif (nat_some) (nat_some)) (nat_some)

def q93_T4 : Tmpl := ⟨(.slot (Ty.slice Ty.i) (.slot (Ty.slice Ty.i) (jk 3 (.slot Ty.i (jk 20 .nil))))), .nil⟩

def q93_X4_0 (i : q93_I4) (p : Unit) : St := ⟨jn 4 (.b (false) :: jn 21 ([])), []⟩

def q93_X4_1 (i : q93_I4) (p : Unit) : St := ⟨jn 26 ([]), []⟩

noncomputable def q93_E4 (i : q93_I4) (p : q93_Q4) (R : Type) (K : Ex → St → Option R) : Option R := sumC p (fun p => K (Ex.ret) (q93_X4_0 i p)) fun p => K (Ex.exit 0) (q93_X4_1 i p)

noncomputable def q93_K4 (i : q93_I4) (p : q93_Q4) : Ex × St := sumC p (fun p => (Ex.ret, q93_X4_0 i p)) fun p => (Ex.exit 0, q93_X4_1 i p)

def q93_M4 (i : q93_I4) (v : q93_V4) : den q93_T4.ty := (i.1, i.2.1, v.1, ())

def q93_P4 (x : den q93_T4.ty) : q93_I4 × q93_V4 := ((x.1, x.2.1, ()), (x.2.2.1, ()))

noncomputable def q93_C : Cfg := { ti := g_tis, ents := [], ann := [(4, loopFn q93_T4 0 q93_P4 laws_eqIntS_D4 q93_E4)], lent := 0 }

def q93_ti : Tmpl := ⟨(.slot (Ty.slice Ty.i) (.slot (Ty.slice Ty.i) .nil)), .nil⟩

def q93_to : Tmpl := ⟨(.slot (Ty.bool) .nil), .nil⟩

noncomputable def laws_eqIntS_S (x : List Int × List Int × Unit) : Option (Bool × Unit) :=
  bif (↑(List.length x.1) : Int) != (↑(List.length x.2.1) : Int) then some (false, ()) else Option.bind (iter (fun v => laws_eqIntS_D4 (x.1, x.2.1, ()) v _ some) (0, ())) fun p => sumC p (fun p => some (false, ())) fun p => some
  (true, ())

noncomputable def q93_Ent : Ent := ⟨33, q93_ti, q93_to, laws_eqIntS_S⟩

theorem q93_HC : CfgOK Go.Proofs.Tryz.prog q93_C := hc_of g_tisOK g_wide all_nil

theorem q93_lk4 : LkOK Go.Proofs.Tryz.prog q93_C (lpc Go.Proofs.Tryz.f33 0) :=
  lk_of q93_HC (m := 0) (T := q93_T4) (sp := q93_P4) (D := laws_eqIntS_D4) (E := q93_E4) (by kernel_rfl) (by kernel_rfl) (fun k hk => absurd hk (Nat.not_lt_zero k)) [4] q93_M4 (fun x => rfl) laws_eqIntS_D4_nat q93_K4 (fun i p R K => by rcases p with p | p <;> rfl) (fun i v => by kernel_rfl)

theorem q93_OK : EntOK Go.Proofs.Tryz.prog q93_Ent := ok_of q93_HC Go.Proofs.Tryz.func33 1 (by kernel_rfl) (fun k hk => match k, hk with | 0, _ => q93_lk4) (by kernel_rfl) (by kernel_rfl) (fun x => by kernel_rfl)

/-! laws.eqReport -/

noncomputable def q94_C : Cfg := { ti := g_tis, ents := [q93_Ent], ann := [], lent := 0 }

def q94_ti : Tmpl := ⟨(.slot YReport (.slot YReport .nil)), .nil⟩

def q94_to : Tmpl := ⟨(.slot (Ty.bool) .nil), .nil⟩

noncomputable def laws_eqReport_S (x : (List Int × List Int × Int × Unit) × (List Int × List Int × Int × Unit) × Unit) : Option (Bool × Unit) :=
  Option.bind (laws_eqIntS_S (x.1.1, x.2.1.1, ())) fun v => bif !v.1 then some (false, ()) else Option.bind (laws_eqIntS_S (x.1.2.1, x.2.1.2.1, ())) fun v => bif !v.1 then some (false, ()) else bif x.1.2.2.1 != x.2.1.2.2.1 then some (false,
  ()) else some (true, ())

noncomputable def q94_Ent : Ent := ⟨15, q94_ti, q94_to, laws_eqReport_S⟩

theorem q94_HC : CfgOK Go.Proofs.Tryz.prog q94_C := hc_of g_tisOK g_wide (all_cons q93_OK all_nil)

theorem q94_OK : EntOK Go.Proofs.Tryz.prog q94_Ent := ok_of q94_HC Go.Proofs.Tryz.func15 0 (by kernel_rfl) (fun k hk => absurd hk (Nat.not_lt_zero k)) (by kernel_rfl) (by kernel_rfl) (fun x => by kernel_rfl)

/-! laws.eqReadMark -/

noncomputable def q95_C : Cfg := { ti := g_tis, ents := [], ann := [], lent := 0 }

def q95_ti : Tmpl := ⟨(.slot YReadMark (.slot YReadMark .nil)), .nil⟩

def q95_to : Tmpl := ⟨(.slot (Ty.bool) .nil), .nil⟩

noncomputable def laws_eqReadMark_S (x : (Int × Int × Unit) × (Int × Int × Unit) × Unit) : Option (Bool × Unit) :=
  bif x.1.1 != x.2.1.1 then some (false, ()) else bif x.1.2.1 != x.2.1.2.1 then some (false, ()) else some (true, ())

noncomputable def q95_Ent : Ent := ⟨267, q95_ti, q95_to, laws_eqReadMark_S⟩

theorem q95_HC : CfgOK Go.Proofs.Tryz.prog q95_C := hc_of g_tisOK g_wide all_nil

theorem q95_OK : EntOK Go.Proofs.Tryz.prog q95_Ent := ok_of q95_HC Go.Proofs.Tryz.func267 0 (by kernel_rfl) (fun k hk => absurd hk (Nat.not_lt_zero k)) (by kernel_rfl) (by kernel_rfl) (fun x => by kernel_rfl)

/-! laws.eqReadMarkS -/

abbrev q96_I4 : Type := List (Int × Int × Unit) × List (Int × Int × Unit) × Unit

abbrev q96_V4 : Type := Int × Unit

abbrev q96_Q4 : Type := Unit ⊕ Unit

noncomputable def laws_eqReadMarkS_D4 (i : q96_I4) (v : q96_V4) (R : Type) (K : q96_V4 ⊕ q96_Q4 → Option R) : Option R :=
  bif decide (v.1 < (↑(List.length i.1) : Int)) then Option.bind (lAt i.1 v.1) fun v_1 => Option.bind (lAt i.2.1 v.1) fun v_2 => Option.bind (laws_eqReadMark_S ((v_1.1, v_1.2.1, ()), (v_2.1, v_2.2.1, ()), ())) fun v_3 => bif !v_3.1 then K
  (Sum.inr (Sum.inl ())) else K (Sum.inl (IntKind.wrap IntKind.i64 (v.1 + 1), ())) else K (Sum.inr (Sum.inr ()))

theorem laws_eqReadMarkS_D4_nat : NatD laws_eqReadMarkS_D4 := fun i v R K => nat_bif (nat_bind fun _ => nat_bind fun _ => nat_bind fun _ => nat_bif (nat_some) (nat_some)) (nat_some)

def q96_T4 : Tmpl := ⟨(.slot (Ty.slice YReadMark) (.slot (Ty.slice YReadMark) (jk 3 (.slot Ty.i (jk 21 .nil))))), .nil⟩

def q96_X4_0 (i : q96_I4) (p : Unit) : St := ⟨jn 4 (.b (false) :: jn 22 ([])), []⟩

def q96_X4_1 (i : q96_I4) (p : Unit) : St := ⟨jn 27 ([]), []⟩

noncomputable def q96_E4 (i : q96_I4) (p : q96_Q4) (R : Type) (K : Ex → St → Option R) : Option R := sumC p (fun p => K (Ex.ret) (q96_X4_0 i p)) fun p => K (Ex.exit 0) (q96_X4_1 i p)

noncomputable def q96_K4 (i : q96_I4) (p : q96_Q4) : Ex × St := sumC p (fun p => (Ex.ret, q96_X4_0 i p)) fun p => (Ex.exit 0, q96_X4_1 i p)

def q96_M4 (i : q96_I4) (v : q96_V4) : den q96_T4.ty := (i.1, i.2.1, v.1, ())

def q96_P4 (x : den q96_T4.ty) : q96_I4 × q96_V4 := ((x.1, x.2.1, ()), (x.2.2.1, ()))

noncomputable def q96_C : Cfg := { ti := g_tis, ents := [q95_Ent], ann := [(4, loopFn q96_T4 0 q96_P4 laws_eqReadMarkS_D4 q96_E4)], lent := 0 }

def q96_ti : Tmpl := ⟨(.slot (Ty.slice YReadMark) (.slot (Ty.slice YReadMark) .nil)), .nil⟩

def q96_to : Tmpl := ⟨(.slot (Ty.bool) .nil), .nil⟩

noncomputable def laws_eqReadMarkS_S (x : List (Int × Int × Unit) × List (Int × Int × Unit) × Unit) : Option (Bool × Unit) :=
  bif (↑(List.length x.1) : Int) != (↑(List.length x.2.1) : Int) then some (false, ()) else Option.bind (iter (fun v => laws_eqReadMarkS_D4 (x.1, x.2.1, ()) v _ some) (0, ())) fun p => sumC p (fun p => some (false, ())) fun p => some
  (true, ())

noncomputable def q96_Ent : Ent := ⟨149, q96_ti, q96_to, laws_eqReadMarkS_S⟩

theorem q96_HC : CfgOK Go.Proofs.Tryz.prog q96_C := hc_of g_tisOK g_wide (all_cons q95_OK all_nil)

theorem q96_lk4 : LkOK Go.Proofs.Tryz.prog q96_C (lpc Go.Proofs.Tryz.f149 0) :=
  lk_of q96_HC (m := 0) (T := q96_T4) (sp := q96_P4) (D := laws_eqReadMarkS_D4) (E := q96_E4) (by kernel_rfl) (by kernel_rfl) (fun k hk => absurd hk (Nat.not_lt_zero k)) [4] q96_M4 (fun x => rfl) laws_eqReadMarkS_D4_nat q96_K4 (fun i p R K => by rcases p with p | p <;> rfl) (fun i v => by kernel_rfl)

theorem q96_OK : EntOK Go.Proofs.Tryz.prog q96_Ent := ok_of q96_HC Go.Proofs.Tryz.func149 1 (by kernel_rfl) (fun k hk => match k, hk with | 0, _ => q96_lk4) (by kernel_rfl) (by kernel_rfl) (fun x => by kernel_rfl)

/-! laws.eqWrite -/

noncomputable def q97_C : Cfg := { ti := g_tis, ents := [], ann := [], lent := 0 }

def q97_ti : Tmpl := ⟨(.slot YReadMark (.slot YReadMark .nil)), .nil⟩

def q97_to : Tmpl := ⟨(.slot (Ty.bool) .nil), .nil⟩

noncomputable def laws_eqWrite_S (x : (Int × Int × Unit) × (Int × Int × Unit) × Unit) : Option (Bool × Unit) :=
  bif x.1.1 != x.2.1.1 then some (false, ()) else bif x.1.2.1 != x.2.1.2.1 then some (false, ()) else some (true, ())

noncomputable def q97_Ent : Ent := ⟨268, q97_ti, q97_to, laws_eqWrite_S⟩

theorem q97_HC : CfgOK Go.Proofs.Tryz.prog q97_C := hc_of g_tisOK g_wide all_nil

theorem q97_OK : EntOK Go.Proofs.Tryz.prog q97_Ent := ok_of q97_HC Go.Proofs.Tryz.func268 0 (by kernel_rfl) (fun k hk => absurd hk (Nat.not_lt_zero k)) (by kernel_rfl) (by kernel_rfl) (fun x => by kernel_rfl)

/-! laws.eqWriteS -/

abbrev q98_I4 : Type := List (Int × Int × Unit) × List (Int × Int × Unit) × Unit

abbrev q98_V4 : Type := Int × Unit

abbrev q98_Q4 : Type := Unit ⊕ Unit

noncomputable def laws_eqWriteS_D4 (i : q98_I4) (v : q98_V4) (R : Type) (K : q98_V4 ⊕ q98_Q4 → Option R) : Option R :=
  bif decide (v.1 < (↑(List.length i.1) : Int)) then Option.bind (lAt i.1 v.1) fun v_1 => Option.bind (lAt i.2.1 v.1) fun v_2 => Option.bind (laws_eqWrite_S ((v_1.1, v_1.2.1, ()), (v_2.1, v_2.2.1, ()), ())) fun v_3 => bif !v_3.1 then K
  (Sum.inr (Sum.inl ())) else K (Sum.inl (IntKind.wrap IntKind.i64 (v.1 + 1), ())) else K (Sum.inr (Sum.inr ()))

theorem laws_eqWriteS_D4_nat : NatD laws_eqWriteS_D4 := fun i v R K => nat_bif (nat_bind fun _ => nat_bind fun _ => nat_bind fun _ => nat_bif (nat_some) (nat_some)) (nat_some)

def q98_T4 : Tmpl := ⟨(.slot (Ty.slice YReadMark) (.slot (Ty.slice YReadMark) (jk 3 (.slot Ty.i (jk 21 .nil))))), .nil⟩

def q98_X4_0 (i : q98_I4) (p : Unit) : St := ⟨jn 4 (.b (false) :: jn 22 ([])), []⟩

def q98_X4_1 (i : q98_I4) (p : Unit) : St := ⟨jn 27 ([]), []⟩

noncomputable def q98_E4 (i : q98_I4) (p : q98_Q4) (R : Type) (K : Ex → St → Option R) : Option R := sumC p (fun p => K (Ex.ret) (q98_X4_0 i p)) fun p => K (Ex.exit 0) (q98_X4_1 i p)

noncomputable def q98_K4 (i : q98_I4) (p : q98_Q4) : Ex × St := sumC p (fun p => (Ex.ret, q98_X4_0 i p)) fun p => (Ex.exit 0, q98_X4_1 i p)

def q98_M4 (i : q98_I4) (v : q98_V4) : den q98_T4.ty := (i.1, i.2.1, v.1, ())

def q98_P4 (x : den q98_T4.ty) : q98_I4 × q98_V4 := ((x.1, x.2.1, ()), (x.2.2.1, ()))

noncomputable def q98_C : Cfg := { ti := g_tis, ents := [q97_Ent], ann := [(4, loopFn q98_T4 0 q98_P4 laws_eqWriteS_D4 q98_E4)], lent := 0 }

def q98_ti : Tmpl := ⟨(.slot (Ty.slice YReadMark) (.slot (Ty.slice YReadMark) .nil)), .nil⟩

def q98_to : Tmpl := ⟨(.slot (Ty.bool) .nil), .nil⟩

noncomputable def laws_eqWriteS_S (x : List (Int × Int × Unit) × List (Int × Int × Unit) × Unit) : Option (Bool × Unit) :=
  bif (↑(List.length x.1) : Int) != (↑(List.length x.2.1) : Int) then some (false, ()) else Option.bind (iter (fun v => laws_eqWriteS_D4 (x.1, x.2.1, ()) v _ some) (0, ())) fun p => sumC p (fun p => some (false, ())) fun p => some
  (true, ())

noncomputable def q98_Ent : Ent := ⟨150, q98_ti, q98_to, laws_eqWriteS_S⟩

theorem q98_HC : CfgOK Go.Proofs.Tryz.prog q98_C := hc_of g_tisOK g_wide (all_cons q97_OK all_nil)

theorem q98_lk4 : LkOK Go.Proofs.Tryz.prog q98_C (lpc Go.Proofs.Tryz.f150 0) :=
  lk_of q98_HC (m := 0) (T := q98_T4) (sp := q98_P4) (D := laws_eqWriteS_D4) (E := q98_E4) (by kernel_rfl) (by kernel_rfl) (fun k hk => absurd hk (Nat.not_lt_zero k)) [4] q98_M4 (fun x => rfl) laws_eqWriteS_D4_nat q98_K4 (fun i p R K => by rcases p with p | p <;> rfl) (fun i v => by kernel_rfl)

theorem q98_OK : EntOK Go.Proofs.Tryz.prog q98_Ent := ok_of q98_HC Go.Proofs.Tryz.func150 1 (by kernel_rfl) (fun k hk => match k, hk with | 0, _ => q98_lk4) (by kernel_rfl) (by kernel_rfl) (fun x => by kernel_rfl)

/-! laws.eqEntry -/

noncomputable def q99_C : Cfg := { ti := g_tis, ents := [q96_Ent, q98_Ent], ann := [], lent := 0 }

def q99_ti : Tmpl := ⟨(.slot (Ty.prod Ty.i (Ty.prod Ty.i (Ty.prod (Ty.slice YReadMark) (Ty.prod (Ty.slice YReadMark)
  Ty.unit)))) (.slot (Ty.prod Ty.i (Ty.prod Ty.i (Ty.prod (Ty.slice YReadMark) (Ty.prod (Ty.slice YReadMark)
  Ty.unit)))) .nil)), .nil⟩

def q99_to : Tmpl := ⟨(.slot (Ty.bool) .nil), .nil⟩

noncomputable def laws_eqEntry_S (x : (Int × Int × List (Int × Int × Unit) × List (Int × Int × Unit) × Unit) × (Int × Int × List (Int × Int × Unit) × List (Int × Int × Unit) × Unit) × Unit) : Option (Bool × Unit) :=
  bif x.1.1 != x.2.1.1 then some (false, ()) else bif x.1.2.1 != x.2.1.2.1 then some (false, ()) else Option.bind (laws_eqReadMarkS_S (x.1.2.2.1, x.2.1.2.2.1, ())) fun v => bif !v.1 then some (false, ()) else Option.bind (laws_eqWriteS_S
  (x.1.2.2.2.1, x.2.1.2.2.2.1, ())) fun v => bif !v.1 then some (false, ()) else some (true, ())

noncomputable def q99_Ent : Ent := ⟨68, q99_ti, q99_to, laws_eqEntry_S⟩

theorem q99_HC : CfgOK Go.Proofs.Tryz.prog q99_C := hc_of g_tisOK g_wide (all_cons q96_OK (all_cons q98_OK all_nil))

theorem q99_OK : EntOK Go.Proofs.Tryz.prog q99_Ent := ok_of q99_HC Go.Proofs.Tryz.func68 0 (by kernel_rfl) (fun k hk => absurd hk (Nat.not_lt_zero k)) (by kernel_rfl) (by kernel_rfl) (fun x => by kernel_rfl)

/-! laws.eqEntryS -/

abbrev q100_I4 : Type := List (Int × Int × List (Int × Int × Unit) × List (Int × Int × Unit) × Unit) × List (Int × Int × List (Int × Int × Unit) × List (Int × Int × Unit) × Unit) × Unit

abbrev q100_V4 : Type := Int × Unit

abbrev q100_Q4 : Type := Unit ⊕ Unit

noncomputable def laws_eqEntryS_D4 (i : q100_I4) (v : q100_V4) (R : Type) (K : q100_V4 ⊕ q100_Q4 → Option R) : Option R :=
  bif decide (v.1 < (↑(List.length i.1) : Int)) then Option.bind (lAt i.1 v.1) fun v_1 => Option.bind (lAt i.2.1 v.1) fun v_2 => Option.bind (laws_eqEntry_S ((v_1.1, v_1.2.1, v_1.2.2.1, v_1.2.2.2.1, ()), (v_2.1, v_2.2.1, v_2.2.2.1,
  v_2.2.2.2.1, ()), ())) fun v_3 => bif !v_3.1 then K (Sum.inr (Sum.inl ())) else K (Sum.inl (IntKind.wrap IntKind.i64 (v.1 + 1), ())) else K (Sum.inr (Sum.inr ()))

theorem laws_eqEntryS_D4_nat : NatD laws_eqEntryS_D4 := fun i v R K => nat_bif (nat_bind fun _ => nat_bind fun _ => nat_bind fun _ => nat_bif (nat_some) (nat_some)) (nat_some)

def q100_T4 : Tmpl := ⟨(.slot (Ty.slice (Ty.prod Ty.i (Ty.prod Ty.i (Ty.prod (Ty.slice YReadMark) (Ty.prod (Ty.slice (Ty.prod Ty.i (Ty.prod Ty.i
  Ty.unit))) Ty.unit))))) (.slot (Ty.slice (Ty.prod Ty.i (Ty.prod Ty.i (Ty.prod (Ty.slice YReadMark) (Ty.prod (Ty.slice (Ty.prod Ty.i (Ty.prod Ty.i
  Ty.unit))) Ty.unit))))) (jk 3 (.slot Ty.i (jk 21 .nil))))), .nil⟩

def q100_X4_0 (i : q100_I4) (p : Unit) : St := ⟨jn 4 (.b (false) :: jn 22 ([])), []⟩

def q100_X4_1 (i : q100_I4) (p : Unit) : St := ⟨jn 27 ([]), []⟩

noncomputable def q100_E4 (i : q100_I4) (p : q100_Q4) (R : Type) (K : Ex → St → Option R) : Option R := sumC p (fun p => K (Ex.ret) (q100_X4_0 i p)) fun p => K (Ex.exit 0) (q100_X4_1 i p)

noncomputable def q100_K4 (i : q100_I4) (p : q100_Q4) : Ex × St := sumC p (fun p => (Ex.ret, q100_X4_0 i p)) fun p => (Ex.exit 0, q100_X4_1 i p)

def q100_M4 (i : q100_I4) (v : q100_V4) : den q100_T4.ty := (i.1, i.2.1, v.1, ())

def q100_P4 (x : den q100_T4.ty) : q100_I4 × q100_V4 := ((x.1, x.2.1, ()), (x.2.2.1, ()))

noncomputable def q100_C : Cfg := { ti := g_tis, ents := [q99_Ent], ann := [(4, loopFn q100_T4 0 q100_P4 laws_eqEntryS_D4 q100_E4)], lent := 0 }

def q100_ti : Tmpl := ⟨(.slot (Ty.slice (Ty.prod Ty.i (Ty.prod Ty.i (Ty.prod (Ty.slice YReadMark) (Ty.prod (Ty.slice (Ty.prod Ty.i (Ty.prod Ty.i
  Ty.unit))) Ty.unit))))) (.slot (Ty.slice (Ty.prod Ty.i (Ty.prod Ty.i (Ty.prod (Ty.slice YReadMark) (Ty.prod (Ty.slice (Ty.prod Ty.i (Ty.prod Ty.i
  Ty.unit))) Ty.unit))))) .nil)), .nil⟩

def q100_to : Tmpl := ⟨(.slot (Ty.bool) .nil), .nil⟩

noncomputable def laws_eqEntryS_S (x : List (Int × Int × List (Int × Int × Unit) × List (Int × Int × Unit) × Unit) × List (Int × Int × List (Int × Int × Unit) × List (Int × Int × Unit) × Unit) × Unit) : Option (Bool × Unit) :=
  bif (↑(List.length x.1) : Int) != (↑(List.length x.2.1) : Int) then some (false, ()) else Option.bind (iter (fun v => laws_eqEntryS_D4 (x.1, x.2.1, ()) v _ some) (0, ())) fun p => sumC p (fun p => some (false, ())) fun p => some
  (true, ())

noncomputable def q100_Ent : Ent := ⟨16, q100_ti, q100_to, laws_eqEntryS_S⟩

theorem q100_HC : CfgOK Go.Proofs.Tryz.prog q100_C := hc_of g_tisOK g_wide (all_cons q99_OK all_nil)

theorem q100_lk4 : LkOK Go.Proofs.Tryz.prog q100_C (lpc Go.Proofs.Tryz.f16 0) :=
  lk_of q100_HC (m := 0) (T := q100_T4) (sp := q100_P4) (D := laws_eqEntryS_D4) (E := q100_E4) (by kernel_rfl) (by kernel_rfl) (fun k hk => absurd hk (Nat.not_lt_zero k)) [4] q100_M4 (fun x => rfl) laws_eqEntryS_D4_nat q100_K4 (fun i p R K => by rcases p with p | p <;> rfl) (fun i v => by kernel_rfl)

theorem q100_OK : EntOK Go.Proofs.Tryz.prog q100_Ent := ok_of q100_HC Go.Proofs.Tryz.func16 1 (by kernel_rfl) (fun k hk => match k, hk with | 0, _ => q100_lk4) (by kernel_rfl) (by kernel_rfl) (fun x => by kernel_rfl)

/-! laws.szIntS -/

noncomputable def q109_C : Cfg := { ti := g_tis, ents := [], ann := [], lent := 0 }

def q109_ti : Tmpl := ⟨(.slot (Ty.slice Ty.i) (.slot Ty.i .nil)), .nil⟩

def q109_to : Tmpl := ⟨(.slot Ty.i .nil), .nil⟩

noncomputable def laws_szIntS_S (x : List Int × Int × Unit) : Option (Int × Unit) :=
  bif decide (IntKind.wrap IntKind.i64 (x.2.1 - (↑(List.length x.1) : Int)) < 0) then some (-1, ()) else some (IntKind.wrap IntKind.i64 (x.2.1 - (↑(List.length x.1) : Int)), ())

noncomputable def q109_Ent : Ent := ⟨71, q109_ti, q109_to, laws_szIntS_S⟩

theorem q109_HC : CfgOK Go.Proofs.Tryz.prog q109_C := hc_of g_tisOK g_wide all_nil

theorem q109_OK : EntOK Go.Proofs.Tryz.prog q109_Ent := ok_of q109_HC Go.Proofs.Tryz.func71 0 (by kernel_rfl) (fun k hk => absurd hk (Nat.not_lt_zero k)) (by kernel_rfl) (by kernel_rfl) (fun x => by kernel_rfl)

/-! laws.szReport -/

noncomputable def q110_C : Cfg := { ti := g_tis, ents := [q109_Ent], ann := [], lent := 0 }

def q110_ti : Tmpl := ⟨(.slot YReport (.slot Ty.i .nil)), .nil⟩

def q110_to : Tmpl := ⟨(.slot Ty.i .nil), .nil⟩

noncomputable def laws_szReport_S (x : (List Int × List Int × Int × Unit) × Int × Unit) : Option (Int × Unit) :=
  Option.bind (laws_szIntS_S (x.1.1, x.2.1, ())) fun v => bif decide (v.1 < 0) then some (-1, ()) else Option.bind (laws_szIntS_S (x.1.2.1, v.1, ())) fun v => bif decide (v.1 < 0) then some (-1, ()) else some (v.1, ())

noncomputable def q110_Ent : Ent := ⟨20, q110_ti, q110_to, laws_szReport_S⟩

theorem q110_HC : CfgOK Go.Proofs.Tryz.prog q110_C := hc_of g_tisOK g_wide (all_cons q109_OK all_nil)

theorem q110_OK : EntOK Go.Proofs.Tryz.prog q110_Ent := ok_of q110_HC Go.Proofs.Tryz.func20 0 (by kernel_rfl) (fun k hk => absurd hk (Nat.not_lt_zero k)) (by kernel_rfl) (by kernel_rfl) (fun x => by kernel_rfl)

/-! laws.toIntS -/

abbrev q111_I3 : Type := List Int × Unit

abbrev q111_V3 : Type := Int × List Int × Unit

abbrev q111_Q3 : Type := List Int × Unit

noncomputable def laws_toIntS_D3 (i : q111_I3) (v : q111_V3) (R : Type) (K : q111_V3 ⊕ q111_Q3 → Option R) : Option R :=
  bif decide (v.1 < (↑(List.length i.1) : Int)) then Option.bind (lAt i.1 v.1) fun v_1 => if 0 ≤ v.1 ∧ v.1 < (↑(List.length v.2.1) : Int) then Option.bind v.2.1[0 + Int.toNat v.1]? fun v_2 => K (Sum.inl (IntKind.wrap IntKind.i64 (v.1 + 1),
  List.set v.2.1 (0 + Int.toNat v.1) v_1, ())) else none else K (Sum.inr (v.2.1, ()))

theorem laws_toIntS_D3_nat : NatD laws_toIntS_D3 := fun i v R K => nat_bif (nat_bind fun _ => nat_ite (nat_bind fun _ => nat_some)) (nat_some)

def q111_T3 : Tmpl := ⟨(.slot (Ty.slice Ty.i) (jk 2 (.own 0 (.slot Ty.i (jk 17 .nil))))), (.lst false Ty.i .nil)⟩

def q111_X3_0 (i : q111_I3) (p : List Int × Unit) : St := ⟨jn 3 (AV.own 0 none none :: jn 18 ([])), [some (Cont.lst false Ty.i p.1)]⟩

noncomputable def q111_E3 (i : q111_I3) (p : q111_Q3) (R : Type) (K : Ex → St → Option R) : Option R := K (Ex.exit 0) (q111_X3_0 i p)

noncomputable def q111_K3 (i : q111_I3) (p : q111_Q3) : Ex × St := (Ex.exit 0, q111_X3_0 i p)

def q111_M3 (i : q111_I3) (v : q111_V3) : den q111_T3.ty := (i.1, v.1, v.2.1, ())

def q111_P3 (x : den q111_T3.ty) : q111_I3 × q111_V3 := ((x.1, ()), (x.2.1, x.2.2.1, ()))

noncomputable def q111_C : Cfg := { ti := g_tis, ents := [], ann := [(3, loopFn q111_T3 0 q111_P3 laws_toIntS_D3 q111_E3)], lent := 0 }

def q111_ti : Tmpl := ⟨(.slot (Ty.slice Ty.i) .nil), .nil⟩

def q111_to : Tmpl := ⟨(.own 0 .nil), (.lst false Ty.i .nil)⟩

noncomputable def laws_toIntS_S (x : List Int × Unit) : Option (List Int × Unit) :=
  if 0 ≤ (↑(List.length x.1) : Int) ∧ (↑(List.length x.1) : Int) ≤ (↑(List.length x.1) : Int) ∧ (↑(List.length x.1) : Int) ≤ (↑4398046511104 : Int) then Option.bind (iter (fun v => laws_toIntS_D3 (x.1, ()) v _ some) (0,
  List.replicate (Int.toNat (↑(List.length x.1) : Int)) 0, ())) fun p => some (p.1, ()) else none

noncomputable def q111_Ent : Ent := ⟨77, q111_ti, q111_to, laws_toIntS_S⟩

theorem q111_HC : CfgOK Go.Proofs.Tryz.prog q111_C := hc_of g_tisOK g_wide all_nil

theorem q111_lk3 : LkOK Go.Proofs.Tryz.prog q111_C (lpc Go.Proofs.Tryz.f77 0) :=
  lk_of q111_HC (m := 0) (T := q111_T3) (sp := q111_P3) (D := laws_toIntS_D3) (E := q111_E3) (by kernel_rfl) (by kernel_rfl) (fun k hk => absurd hk (Nat.not_lt_zero k)) [3] q111_M3 (fun x => rfl) laws_toIntS_D3_nat q111_K3 (fun i p R K => rfl) (fun i v => by kernel_rfl)

theorem q111_OK : EntOK Go.Proofs.Tryz.prog q111_Ent := ok_of q111_HC Go.Proofs.Tryz.func77 1 (by kernel_rfl) (fun k hk => match k, hk with | 0, _ => q111_lk3) (by kernel_rfl) (by kernel_rfl) (fun x => by kernel_rfl)

/-! laws.toReport -/

noncomputable def q112_C : Cfg := { ti := g_tis, ents := [q111_Ent], ann := [], lent := 0 }

def q112_ti : Tmpl := ⟨(.slot YReport .nil), .nil⟩

def q112_to : Tmpl := ⟨(.agg (.own 0 (.own 1 (.slot Ty.i .nil))) .nil), (.lst false Ty.i (.lst false Ty.i .nil))⟩

noncomputable def laws_toReport_S (x : (List Int × List Int × Int × Unit) × Unit) : Option (Int × List Int × List Int × Unit) :=
  Option.bind (laws_toIntS_S (x.1.1, ())) fun v => Option.bind (laws_toIntS_S (x.1.2.1, ())) fun v_1 => some (x.1.2.2.1, v.1, v_1.1, ())

noncomputable def q112_Ent : Ent := ⟨22, q112_ti, q112_to, laws_toReport_S⟩

theorem q112_HC : CfgOK Go.Proofs.Tryz.prog q112_C := hc_of g_tisOK g_wide (all_cons q111_OK all_nil)

theorem q112_OK : EntOK Go.Proofs.Tryz.prog q112_Ent := ok_of q112_HC Go.Proofs.Tryz.func22 0 (by kernel_rfl) (fun k hk => absurd hk (Nat.not_lt_zero k)) (by kernel_rfl) (by kernel_rfl) (fun x => by kernel_rfl)

/-! spec.IsSerialOrder -/

abbrev q113_I5 : Type := List (Int × Int × List (Int × Int × Unit) × List (Int × Int × Unit) × Unit) × List Int × List (Int × Int × Int × Int × Unit) × Unit

abbrev q113_V5 : Type := Int × Unit

abbrev q113_Q5 : Type := Unit ⊕ Unit ⊕ Unit ⊕ Unit

noncomputable def spec_IsSerialOrder_D5 (i : q113_I5) (v : q113_V5) (R : Type) (K : q113_V5 ⊕ q113_Q5 → Option R) : Option R :=
  bif decide (v.1 < (↑(List.length i.2.1) : Int)) then Option.bind (lAt i.2.1 v.1) fun v_1 => Option.bind (spec_FindEntry_S (i.1, v_1, ())) fun v_2 => bif decide (v_2.1 < 0) then K (Sum.inr (Sum.inl ())) else Option.bind (slAt i.2.1 0 v.1) fun
  v_3 => Option.bind (lAt i.2.1 v.1) fun v_4 => Option.bind (spec_l21Has_S (v_3, v_4, ())) fun v_5 => bif v_5.1 then K (Sum.inr (Sum.inr (Sum.inl ()))) else Option.bind (slAt i.2.1 0 v.1) fun v_6 => Option.bind (lAt i.2.1 v.1) fun v_7 =>
  Option.bind (spec_l21Free_S (i.2.2.1, v_6, v_7, ())) fun v_8 => bif !v_8.1 then K (Sum.inr (Sum.inr (Sum.inr (Sum.inl ())))) else K (Sum.inl (IntKind.wrap IntKind.i64 (v.1 + 1), ())) else K (Sum.inr (Sum.inr (Sum.inr (Sum.inr ()))))

theorem spec_IsSerialOrder_D5_nat : NatD spec_IsSerialOrder_D5 := fun i v R K => nat_bif (nat_bind fun _ => nat_bind fun _ => nat_bif (nat_some) (nat_bind fun _ => nat_bind fun _ => nat_bind fun _ => nat_bif (nat_some) (nat_bind fun _ => nat_bind fun _ => nat_bind fun _ => nat_bif (nat_some) (nat_some)))) (nat_some)

def q113_T5 : Tmpl := ⟨(.slot (Ty.slice (Ty.prod Ty.i (Ty.prod Ty.i (Ty.prod (Ty.slice YReadMark) (Ty.prod (Ty.slice (Ty.prod Ty.i (Ty.prod Ty.i
  Ty.unit))) Ty.unit))))) (.slot (Ty.slice Ty.i) (jk 3 (.slot (Ty.slice YEdge) (.slot Ty.i (jk 47 .nil)))))), .nil⟩

def q113_X5_0 (i : q113_I5) (p : Unit) : St := ⟨jn 4 (.b (false) :: jn 49 ([])), []⟩

def q113_X5_1 (i : q113_I5) (p : Unit) : St := ⟨jn 4 (.b (false) :: jn 49 ([])), []⟩

def q113_X5_2 (i : q113_I5) (p : Unit) : St := ⟨jn 4 (.b (false) :: jn 49 ([])), []⟩

def q113_X5_3 (i : q113_I5) (p : Unit) : St := ⟨jn 54 ([]), []⟩

noncomputable def q113_E5 (i : q113_I5) (p : q113_Q5) (R : Type) (K : Ex → St → Option R) : Option R := sumC p (fun p => K (Ex.ret) (q113_X5_0 i p)) fun p => sumC p (fun p => K (Ex.ret) (q113_X5_1 i p)) fun p => sumC p (fun p => K (Ex.ret) (q113_X5_2 i p)) fun p => K (Ex.exit 0) (q113_X5_3 i p)

noncomputable def q113_K5 (i : q113_I5) (p : q113_Q5) : Ex × St := sumC p (fun p => (Ex.ret, q113_X5_0 i p)) fun p => sumC p (fun p => (Ex.ret, q113_X5_1 i p)) fun p => sumC p (fun p => (Ex.ret, q113_X5_2 i p)) fun p => (Ex.exit 0, q113_X5_3 i p)

def q113_M5 (i : q113_I5) (v : q113_V5) : den q113_T5.ty := (i.1, i.2.1, i.2.2.1, v.1, ())

def q113_P5 (x : den q113_T5.ty) : q113_I5 × q113_V5 := ((x.1, x.2.1, x.2.2.1, ()), (x.2.2.2.1, ()))

noncomputable def q113_C : Cfg := { ti := g_tis, ents := [q16_Ent, q20_Ent, q14_Ent, q21_Ent, q22_Ent], ann := [(5, loopFn q113_T5 0 q113_P5 spec_IsSerialOrder_D5 q113_E5)], lent := 0 }

def q113_ti : Tmpl := ⟨(.slot (Ty.slice (Ty.prod Ty.i (Ty.prod Ty.i (Ty.prod (Ty.slice YReadMark) (Ty.prod (Ty.slice (Ty.prod Ty.i (Ty.prod Ty.i
  Ty.unit))) Ty.unit))))) (.slot (Ty.slice Ty.i) .nil)), .nil⟩

def q113_to : Tmpl := ⟨(.slot (Ty.bool) .nil), .nil⟩

noncomputable def spec_IsSerialOrder_S (x : List (Int × Int × List (Int × Int × Unit) × List (Int × Int × Unit) × Unit) × List Int × Unit) : Option (Bool × Unit) :=
  Option.bind (spec_IsHistory_S (x.1, ())) fun v => bif !v.1 then some (false, ()) else bif (↑(List.length x.2.1) : Int) != (↑(List.length x.1) : Int) then some (false, ()) else Option.bind (spec_BuildGraph_S (x.1, ())) fun v => Option.bind
  (iter (fun v_1 => spec_IsSerialOrder_D5 (x.1, x.2.1, v.1, ()) v_1 _ some) (0, ())) fun p => sumC p (fun p => some (false, ())) fun p => sumC p (fun p => some (false, ())) fun p => sumC p (fun p => some (false, ())) fun p => some
  (true, ())

noncomputable def q113_Ent : Ent := ⟨75, q113_ti, q113_to, spec_IsSerialOrder_S⟩

theorem q113_HC : CfgOK Go.Proofs.Tryz.prog q113_C := hc_of g_tisOK g_wide (all_cons q16_OK (all_cons q20_OK (all_cons q14_OK (all_cons q21_OK (all_cons q22_OK all_nil)))))

theorem q113_lk5 : LkOK Go.Proofs.Tryz.prog q113_C (lpc Go.Proofs.Tryz.f75 0) :=
  lk_of q113_HC (m := 0) (T := q113_T5) (sp := q113_P5) (D := spec_IsSerialOrder_D5) (E := q113_E5) (by kernel_rfl) (by kernel_rfl) (fun k hk => absurd hk (Nat.not_lt_zero k)) [4] q113_M5 (fun x => rfl) spec_IsSerialOrder_D5_nat q113_K5 (fun i p R K => by rcases p with p | p | p | p <;> rfl) (fun i v => by kernel_rfl)

theorem q113_OK : EntOK Go.Proofs.Tryz.prog q113_Ent := ok_of q113_HC Go.Proofs.Tryz.func75 1 (by kernel_rfl) (fun k hk => match k, hk with | 0, _ => q113_lk5) (by kernel_rfl) (by kernel_rfl) (fun x => by kernel_rfl)

/-! spec.l22Good -/

abbrev q114_I4 : Type := List (Int × Int × List (Int × Int × Unit) × List (Int × Int × Unit) × Unit) × List Int × Unit

abbrev q114_V4 : Type := Int × Unit

abbrev q114_Q4 : Type := Unit ⊕ Unit ⊕ Unit

noncomputable def spec_l22Good_D4 (i : q114_I4) (v : q114_V4) (R : Type) (K : q114_V4 ⊕ q114_Q4 → Option R) : Option R :=
  bif decide (v.1 < (↑(List.length i.2.1) : Int)) then Option.bind (lAt i.2.1 v.1) fun v_1 => Option.bind (spec_FindEntry_S (i.1, v_1, ())) fun v_2 => bif decide (v_2.1 < 0) then K (Sum.inr (Sum.inl ())) else Option.bind (slAt i.2.1 0 v.1) fun
  v_3 => Option.bind (lAt i.2.1 v.1) fun v_4 => Option.bind (spec_l21Has_S (v_3, v_4, ())) fun v_5 => bif v_5.1 then K (Sum.inr (Sum.inr (Sum.inl ()))) else K (Sum.inl (IntKind.wrap IntKind.i64 (v.1 + 1), ())) else K (Sum.inr (Sum.inr (Sum.inr
  ())))

theorem spec_l22Good_D4_nat : NatD spec_l22Good_D4 := fun i v R K => nat_bif (nat_bind fun _ => nat_bind fun _ => nat_bif (nat_some) (nat_bind fun _ => nat_bind fun _ => nat_bind fun _ => nat_bif (nat_some) (nat_some))) (nat_some)

def q114_T4 : Tmpl := ⟨(.slot (Ty.slice (Ty.prod Ty.i (Ty.prod Ty.i (Ty.prod (Ty.slice YReadMark) (Ty.prod (Ty.slice (Ty.prod Ty.i (Ty.prod Ty.i
  Ty.unit))) Ty.unit))))) (.slot (Ty.slice Ty.i) (jk 3 (.slot Ty.i (jk 33 .nil))))), .nil⟩

def q114_X4_0 (i : q114_I4) (p : Unit) : St := ⟨jn 4 (.b (false) :: jn 34 ([])), []⟩

def q114_X4_1 (i : q114_I4) (p : Unit) : St := ⟨jn 4 (.b (false) :: jn 34 ([])), []⟩

def q114_X4_2 (i : q114_I4) (p : Unit) : St := ⟨jn 39 ([]), []⟩

noncomputable def q114_E4 (i : q114_I4) (p : q114_Q4) (R : Type) (K : Ex → St → Option R) : Option R := sumC p (fun p => K (Ex.ret) (q114_X4_0 i p)) fun p => sumC p (fun p => K (Ex.ret) (q114_X4_1 i p)) fun p => K (Ex.exit 0) (q114_X4_2 i p)

noncomputable def q114_K4 (i : q114_I4) (p : q114_Q4) : Ex × St := sumC p (fun p => (Ex.ret, q114_X4_0 i p)) fun p => sumC p (fun p => (Ex.ret, q114_X4_1 i p)) fun p => (Ex.exit 0, q114_X4_2 i p)

def q114_M4 (i : q114_I4) (v : q114_V4) : den q114_T4.ty := (i.1, i.2.1, v.1, ())

def q114_P4 (x : den q114_T4.ty) : q114_I4 × q114_V4 := ((x.1, x.2.1, ()), (x.2.2.1, ()))

noncomputable def q114_C : Cfg := { ti := g_tis, ents := [q16_Ent, q14_Ent, q21_Ent], ann := [(4, loopFn q114_T4 0 q114_P4 spec_l22Good_D4 q114_E4)], lent := 0 }

def q114_ti : Tmpl := ⟨(.slot (Ty.slice (Ty.prod Ty.i (Ty.prod Ty.i (Ty.prod (Ty.slice YReadMark) (Ty.prod (Ty.slice (Ty.prod Ty.i (Ty.prod Ty.i
  Ty.unit))) Ty.unit))))) (.slot (Ty.slice Ty.i) .nil)), .nil⟩

def q114_to : Tmpl := ⟨(.slot (Ty.bool) .nil), .nil⟩

noncomputable def spec_l22Good_S (x : List (Int × Int × List (Int × Int × Unit) × List (Int × Int × Unit) × Unit) × List Int × Unit) : Option (Bool × Unit) :=
  Option.bind (spec_IsHistory_S (x.1, ())) fun v => bif !v.1 then some (false, ()) else bif (↑(List.length x.2.1) : Int) != (↑(List.length x.1) : Int) then some (false, ()) else Option.bind (iter (fun v => spec_l22Good_D4 (x.1, x.2.1, ()) v
  _ some) (0, ())) fun p => sumC p (fun p => some (false, ())) fun p => sumC p (fun p => some (false, ())) fun p => some (true, ())

noncomputable def q114_Ent : Ent := ⟨270, q114_ti, q114_to, spec_l22Good_S⟩

theorem q114_HC : CfgOK Go.Proofs.Tryz.prog q114_C := hc_of g_tisOK g_wide (all_cons q16_OK (all_cons q14_OK (all_cons q21_OK all_nil)))

theorem q114_lk4 : LkOK Go.Proofs.Tryz.prog q114_C (lpc Go.Proofs.Tryz.f270 0) :=
  lk_of q114_HC (m := 0) (T := q114_T4) (sp := q114_P4) (D := spec_l22Good_D4) (E := q114_E4) (by kernel_rfl) (by kernel_rfl) (fun k hk => absurd hk (Nat.not_lt_zero k)) [4] q114_M4 (fun x => rfl) spec_l22Good_D4_nat q114_K4 (fun i p R K => by rcases p with p | p | p <;> rfl) (fun i v => by kernel_rfl)

theorem q114_OK : EntOK Go.Proofs.Tryz.prog q114_Ent := ok_of q114_HC Go.Proofs.Tryz.func270 1 (by kernel_rfl) (fun k hk => match k, hk with | 0, _ => q114_lk4) (by kernel_rfl) (by kernel_rfl) (fun x => by kernel_rfl)

/-! spec.l22Run -/

abbrev q115_I4 : Type := List (Int × Int × List (Int × Int × Unit) × List (Int × Int × Unit) × Unit) × List Int × List Int × Unit

abbrev q115_V4 : Type := Int × List Int × Unit

abbrev q115_Q4 : Type := List Int × Unit

noncomputable def spec_l22Run_D4 (i : q115_I4) (v : q115_V4) (R : Type) (K : q115_V4 ⊕ q115_Q4 → Option R) : Option R :=
  bif decide (v.1 < 6) then if List.length (v.2.1 ++ [-1]) ≤ 4398046511104 then K (Sum.inl (IntKind.wrap IntKind.i64 (v.1 + 1), v.2.1 ++ [-1], ())) else none else K (Sum.inr (v.2.1, ()))

theorem spec_l22Run_D4_nat : NatD spec_l22Run_D4 := fun i v R K => nat_bif (nat_ite (nat_some)) (nat_some)

def q115_T4 : Tmpl := ⟨(.slot (Ty.slice (Ty.prod Ty.i (Ty.prod Ty.i (Ty.prod (Ty.slice YReadMark) (Ty.prod (Ty.slice (Ty.prod Ty.i (Ty.prod Ty.i
  Ty.unit))) Ty.unit))))) (.slot (Ty.slice Ty.i) (jk 4 (.own 0 (.own 1 (.slot Ty.i (jk 85 .nil))))))), (.lst false Ty.i (.lst false Ty.i .nil))⟩

def q115_X4_0 (i : q115_I4) (p : List Int × Unit) : St := ⟨AV.pv (Ty.slice (Ty.prod Ty.i (Ty.prod Ty.i (Ty.prod (Ty.slice YReadMark) (Ty.prod (Ty.slice (Ty.prod Ty.i (Ty.prod (Ty.int
  IntKind.i64) Ty.unit))) Ty.unit))))) i.1 :: AV.pv (Ty.slice Ty.i) i.2.1 :: jn 4 (AV.own 0 none none :: AV.own 1 none none :: jn 86 ([])), [some (Cont.lst false Ty.i i.2.2.1), some (Cont.lst false (Ty.int
  IntKind.i64) p.1)]⟩

noncomputable def q115_E4 (i : q115_I4) (p : q115_Q4) (R : Type) (K : Ex → St → Option R) : Option R := K (Ex.exit 0) (q115_X4_0 i p)

noncomputable def q115_K4 (i : q115_I4) (p : q115_Q4) : Ex × St := (Ex.exit 0, q115_X4_0 i p)

def q115_M4 (i : q115_I4) (v : q115_V4) : den q115_T4.ty := (i.1, i.2.1, v.1, i.2.2.1, v.2.1, ())

def q115_P4 (x : den q115_T4.ty) : q115_I4 × q115_V4 := ((x.1, x.2.1, x.2.2.2.1, ()), (x.2.2.1, x.2.2.2.2.1, ()))

abbrev q115_I12 : Type := List (Int × Int × List (Int × Int × Unit) × List (Int × Int × Unit) × Unit) × List Int × Int × List Int × List Int × Int × Int × List (Int × Int × Unit) × List (Int × Int × Unit) × Unit

abbrev q115_V12 : Type := Int × Unit

abbrev q115_Q12 : Type := Unit ⊕ Unit

noncomputable def spec_l22Run_D12 (i : q115_I12) (v : q115_V12) (R : Type) (K : q115_V12 ⊕ q115_Q12 → Option R) : Option R :=
  bif decide (v.1 < (↑(List.length i.2.2.2.2.2.2.2.1) : Int)) then Option.bind (lAt i.2.2.2.2.2.2.2.1 v.1) fun v_1 => if 0 ≤ v_1.1 ∧ v_1.1 < (↑(List.length i.2.2.2.1) : Int) then Option.bind i.2.2.2.1[0 + Int.toNat v_1.1]? fun v_2 =>
  Option.bind (lAt i.2.2.2.2.2.2.2.1 v.1) fun v_3 => bif v_2 != v_3.2.1 then K (Sum.inr (Sum.inl ())) else K (Sum.inl (IntKind.wrap IntKind.i64 (v.1 + 1), ())) else none else K (Sum.inr (Sum.inr ()))

theorem spec_l22Run_D12_nat : NatD spec_l22Run_D12 := fun i v R K => nat_bif (nat_bind fun _ => nat_ite (nat_bind fun _ => nat_bind fun _ => nat_bif (nat_some) (nat_some))) (nat_some)

def q115_T12 : Tmpl := ⟨(.slot (Ty.slice (Ty.prod Ty.i (Ty.prod Ty.i (Ty.prod (Ty.slice YReadMark) (Ty.prod (Ty.slice (Ty.prod Ty.i (Ty.prod Ty.i
  Ty.unit))) Ty.unit))))) (.slot (Ty.slice Ty.i) (jk 4 (.own 0 (.own 1 (.junk (.slot Ty.i (.ptr 2 0 0 (.slot Ty.i (jk 82 .nil)))))))))), (.lst false Ty.i (.lst false Ty.i (.cells 4 (.slot Ty.i (.slot Ty.i (.slot (Ty.slice YReadMark) (.slot (Ty.slice YReadMark) .nil)))) .nil)))⟩

def q115_X12_0 (i : q115_I12) (p : Unit) : St := ⟨AV.pv (Ty.slice (Ty.prod Ty.i (Ty.prod Ty.i (Ty.prod (Ty.slice YReadMark) (Ty.prod (Ty.slice (Ty.prod Ty.i (Ty.prod (Ty.int
  IntKind.i64) Ty.unit))) Ty.unit))))) i.1 :: AV.pv (Ty.slice Ty.i) i.2.1 :: jn 2 (AV.own 1 none none :: .n (i.2.2.1) :: AV.own 0 none none :: AV.own 1 none none :: jn 1 (.n (i.2.2.1) :: AV.ptr 2 none 0 0 :: jn 83 ([]))), [some
  (Cont.lst false Ty.i i.2.2.2.1), some (Cont.lst false Ty.i i.2.2.2.2.1), some (Cont.cells 4 [[AV.pv Ty.i i.2.2.2.2.2.1, AV.pv Ty.i i.2.2.2.2.2.2.1, AV.pv (Ty.slice (Ty.prod
  Ty.i (Ty.prod Ty.i Ty.unit))) i.2.2.2.2.2.2.2.1, AV.pv (Ty.slice YReadMark) i.2.2.2.2.2.2.2.2.1]])]⟩

def q115_X12_1 (i : q115_I12) (p : Unit) : St := ⟨AV.pv (Ty.slice (Ty.prod Ty.i (Ty.prod Ty.i (Ty.prod (Ty.slice YReadMark) (Ty.prod (Ty.slice (Ty.prod Ty.i (Ty.prod (Ty.int
  IntKind.i64) Ty.unit))) Ty.unit))))) i.1 :: AV.pv (Ty.slice Ty.i) i.2.1 :: jn 4 (AV.own 0 none none :: AV.own 1 none none :: jn 1 (.n (i.2.2.1) :: AV.ptr 2 none 0 0 :: jn 83 ([]))), [some (Cont.lst false Ty.i
  i.2.2.2.1), some (Cont.lst false Ty.i i.2.2.2.2.1), some (Cont.cells 4 [[AV.pv Ty.i i.2.2.2.2.2.1, AV.pv Ty.i i.2.2.2.2.2.2.1, AV.pv (Ty.slice (Ty.prod Ty.i (Ty.prod (Ty.int
  IntKind.i64) Ty.unit))) i.2.2.2.2.2.2.2.1, AV.pv (Ty.slice YReadMark) i.2.2.2.2.2.2.2.2.1]])]⟩

noncomputable def q115_E12 (i : q115_I12) (p : q115_Q12) (R : Type) (K : Ex → St → Option R) : Option R := sumC p (fun p => K (Ex.ret) (q115_X12_0 i p)) fun p => K (Ex.exit 4) (q115_X12_1 i p)

noncomputable def q115_K12 (i : q115_I12) (p : q115_Q12) : Ex × St := sumC p (fun p => (Ex.ret, q115_X12_0 i p)) fun p => (Ex.exit 4, q115_X12_1 i p)

def q115_M12 (i : q115_I12) (v : q115_V12) : den q115_T12.ty := (i.1, i.2.1, i.2.2.1, v.1, i.2.2.2.1, i.2.2.2.2.1, i.2.2.2.2.2.1, i.2.2.2.2.2.2.1, i.2.2.2.2.2.2.2.1, i.2.2.2.2.2.2.2.2.1, ())

def q115_P12 (x : den q115_T12.ty) : q115_I12 × q115_V12 := ((x.1, x.2.1, x.2.2.1, x.2.2.2.2.1, x.2.2.2.2.2.1, x.2.2.2.2.2.2.1, x.2.2.2.2.2.2.2.1, x.2.2.2.2.2.2.2.2.1, x.2.2.2.2.2.2.2.2.2.1, ()), (x.2.2.2.1, ()))

abbrev q115_I17 : Type := List (Int × Int × List (Int × Int × Unit) × List (Int × Int × Unit) × Unit) × List Int × Int × Int × Int × List (Int × Int × Unit) × List (Int × Int × Unit) × Unit

abbrev q115_V17 : Type := Int × List Int × List Int × Unit

abbrev q115_Q17 : Type := List Int × List Int × Unit

noncomputable def spec_l22Run_D17 (i : q115_I17) (v : q115_V17) (R : Type) (K : q115_V17 ⊕ q115_Q17 → Option R) : Option R :=
  bif decide (v.1 < (↑(List.length i.2.2.2.2.2.2.1) : Int)) then Option.bind (lAt i.2.2.2.2.2.2.1 v.1) fun v_1 => if 0 ≤ v_1.1 ∧ v_1.1 < (↑(List.length v.2.1) : Int) then Option.bind v.2.1[0 + Int.toNat v_1.1]? fun v_2 => Option.bind (lAt
  i.2.2.2.2.2.2.1 v.1) fun v_3 => Option.bind (lAt i.2.2.2.2.2.2.1 v.1) fun v_4 => if 0 ≤ v_3.1 ∧ v_3.1 < (↑(List.length v.2.2.1) : Int) then Option.bind v.2.2.1[0 + Int.toNat v_3.1]? fun v_5 => K (Sum.inl (IntKind.wrap IntKind.i64 (v.1 + 1),
  List.set v.2.1 (0 + Int.toNat v_1.1) i.2.2.2.2.1, List.set v.2.2.1 (0 + Int.toNat v_3.1) v_4.2.1, ())) else none else none else K (Sum.inr (v.2.1, v.2.2.1, ()))

theorem spec_l22Run_D17_nat : NatD spec_l22Run_D17 := fun i v R K => nat_bif (nat_bind fun _ => nat_ite (nat_bind fun _ => nat_bind fun _ => nat_bind fun _ => nat_ite (nat_bind fun _ => nat_some))) (nat_some)

def q115_T17 : Tmpl := ⟨(.slot (Ty.slice (Ty.prod Ty.i (Ty.prod Ty.i (Ty.prod (Ty.slice YReadMark) (Ty.prod (Ty.slice (Ty.prod Ty.i (Ty.prod Ty.i
  Ty.unit))) Ty.unit))))) (.slot (Ty.slice Ty.i) (jk 4 (.own 0 (.own 1 (.junk (.slot Ty.i (.ptr 2 0 0 (.junk (.slot Ty.i (jk 81 .nil))))))))))), (.lst false Ty.i (.lst false Ty.i (.cells 4 (.slot Ty.i (.slot Ty.i (.slot (Ty.slice YReadMark) (.slot (Ty.slice YReadMark) .nil)))) .nil)))⟩

def q115_X17_0 (i : q115_I17) (p : List Int × List Int × Unit) : St := ⟨AV.pv (Ty.slice (Ty.prod Ty.i (Ty.prod Ty.i (Ty.prod (Ty.slice YReadMark) (Ty.prod (Ty.slice (Ty.prod Ty.i (Ty.prod (Ty.int
  IntKind.i64) Ty.unit))) Ty.unit))))) i.1 :: AV.pv (Ty.slice Ty.i) i.2.1 :: jn 4 (AV.own 0 none none :: AV.own 1 none none :: jn 1 (.n (i.2.2.1) :: jn 84 ([]))), [some (Cont.lst false Ty.i p.1), some (Cont.lst
  false Ty.i p.2.1), some (Cont.cells 4 [[AV.pv Ty.i i.2.2.2.1, AV.pv Ty.i i.2.2.2.2.1, AV.pv (Ty.slice YReadMark) i.2.2.2.2.2.1, AV.pv
  (Ty.slice YReadMark) i.2.2.2.2.2.2.1]])]⟩

noncomputable def q115_E17 (i : q115_I17) (p : q115_Q17) (R : Type) (K : Ex → St → Option R) : Option R := K (Ex.exit 6) (q115_X17_0 i p)

noncomputable def q115_K17 (i : q115_I17) (p : q115_Q17) : Ex × St := (Ex.exit 6, q115_X17_0 i p)

def q115_M17 (i : q115_I17) (v : q115_V17) : den q115_T17.ty := (i.1, i.2.1, i.2.2.1, v.1, v.2.1, v.2.2.1, i.2.2.2.1, i.2.2.2.2.1, i.2.2.2.2.2.1, i.2.2.2.2.2.2.1, ())

def q115_P17 (x : den q115_T17.ty) : q115_I17 × q115_V17 := ((x.1, x.2.1, x.2.2.1, x.2.2.2.2.2.2.1, x.2.2.2.2.2.2.2.1, x.2.2.2.2.2.2.2.2.1, x.2.2.2.2.2.2.2.2.2.1, ()), (x.2.2.2.1, x.2.2.2.2.1, x.2.2.2.2.2.1, ()))

abbrev q115_I8 : Type := List (Int × Int × List (Int × Int × Unit) × List (Int × Int × Unit) × Unit) × List Int × Unit

abbrev q115_V8 : Type := Int × List Int × List Int × Unit

abbrev q115_Q8 : Type := Int × List Int × List Int × Int × Int × List (Int × Int × Unit) × List (Int × Int × Unit) × Unit ⊕ List Int × List Int × Unit

noncomputable def spec_l22Run_D8 (i : q115_I8) (v : q115_V8) (R : Type) (K : q115_V8 ⊕ q115_Q8 → Option R) : Option R :=
  bif decide (v.1 < (↑(List.length i.2.1) : Int)) then Option.bind (lAt i.2.1 v.1) fun v_1 => Option.bind (spec_FindEntry_S (i.1, v_1, ())) fun v_2 => Option.bind (lAt i.1 v_2.1) fun v_3 => Option.bind (iter (fun v_4 => spec_l22Run_D12 (i.1,
  i.2.1, v.1, v.2.1, v.2.2.1, v_3.1, v_3.2.1, v_3.2.2.1, v_3.2.2.2.1, ()) v_4 _ some) (0, ())) fun p => sumC p (fun p => K (Sum.inr (Sum.inl (v.1, v.2.1, v.2.2.1, v_3.1, v_3.2.1, v_3.2.2.1, v_3.2.2.2.1, ())))) fun p => Option.bind
  (iter (fun v_4 => spec_l22Run_D17 (i.1, i.2.1, v.1, v_3.1, v_3.2.1, v_3.2.2.1, v_3.2.2.2.1, ()) v_4 _ some) (0, v.2.1, v.2.2.1, ())) fun p => K (Sum.inl (IntKind.wrap IntKind.i64 (v.1 + 1), p.1, p.2.1, ())) else K (Sum.inr (Sum.inr
  (v.2.1, v.2.2.1, ())))

theorem spec_l22Run_D8_nat : NatD spec_l22Run_D8 := fun i v R K => nat_bif (nat_bind fun _ => nat_bind fun _ => nat_bind fun _ => nat_bind fun _ => nat_sum (fun _ => nat_some) (fun _ => nat_bind fun _ => nat_some)) (nat_some)

def q115_T8 : Tmpl := ⟨(.slot (Ty.slice (Ty.prod Ty.i (Ty.prod Ty.i (Ty.prod (Ty.slice YReadMark) (Ty.prod (Ty.slice (Ty.prod Ty.i (Ty.prod Ty.i
  Ty.unit))) Ty.unit))))) (.slot (Ty.slice Ty.i) (jk 4 (.own 0 (.own 1 (.junk (.slot Ty.i (jk 84 .nil)))))))), (.lst false Ty.i (.lst false Ty.i .nil))⟩

def q115_X8_0 (i : q115_I8) (p : Int × List Int × List Int × Int × Int × List (Int × Int × Unit) × List (Int × Int × Unit) × Unit) : St := ⟨jn 4 (AV.own 1 none none :: .n (p.1) :: jn 1 (AV.own 1 none none :: jn 86 ([]))), [some (Cont.lst false Ty.i p.2.1), some (Cont.lst false Ty.i p.2.2.1), some (Cont.cells 4 [[AV.pv Ty.i
  p.2.2.2.1, AV.pv Ty.i p.2.2.2.2.1, AV.pv (Ty.slice YReadMark) p.2.2.2.2.2.1, AV.pv (Ty.slice YReadMark)
  p.2.2.2.2.2.2.1]])]⟩

def q115_X8_1 (i : q115_I8) (p : List Int × List Int × Unit) : St := ⟨jn 7 (AV.own 1 none none :: jn 86 ([])), [some (Cont.lst false Ty.i p.1), some (Cont.lst false Ty.i p.2.1)]⟩

noncomputable def q115_E8 (i : q115_I8) (p : q115_Q8) (R : Type) (K : Ex → St → Option R) : Option R := sumC p (fun p => K (Ex.ret) (q115_X8_0 i p)) fun p => K (Ex.exit 2) (q115_X8_1 i p)

noncomputable def q115_K8 (i : q115_I8) (p : q115_Q8) : Ex × St := sumC p (fun p => (Ex.ret, q115_X8_0 i p)) fun p => (Ex.exit 2, q115_X8_1 i p)

def q115_M8 (i : q115_I8) (v : q115_V8) : den q115_T8.ty := (i.1, i.2.1, v.1, v.2.1, v.2.2.1, ())

def q115_P8 (x : den q115_T8.ty) : q115_I8 × q115_V8 := ((x.1, x.2.1, ()), (x.2.2.1, x.2.2.2.1, x.2.2.2.2.1, ()))

noncomputable def q115_C : Cfg := { ti := g_tis, ents := [q14_Ent], ann := [(4, loopFn q115_T4 0 q115_P4 spec_l22Run_D4 q115_E4), (12, loopFn q115_T12 0 q115_P12 spec_l22Run_D12 q115_E12), (17, loopFn q115_T17 0 q115_P17 spec_l22Run_D17 q115_E17), (8, loopFn q115_T8 0 q115_P8 spec_l22Run_D8 q115_E8)], lent := 0 }

def q115_ti : Tmpl := ⟨(.slot (Ty.slice (Ty.prod Ty.i (Ty.prod Ty.i (Ty.prod (Ty.slice YReadMark) (Ty.prod (Ty.slice (Ty.prod Ty.i (Ty.prod Ty.i
  Ty.unit))) Ty.unit))))) (.slot (Ty.slice Ty.i) .nil)), .nil⟩

def q115_to : Tmpl := ⟨(.own 0 (.slot Ty.i .nil)), (.lst false Ty.i .nil)⟩

noncomputable def spec_l22Run_S (x : List (Int × Int × List (Int × Int × Unit) × List (Int × Int × Unit) × Unit) × List Int × Unit) : Option (Int × List Int × Unit) :=
  Option.bind (iter (fun v => spec_l22Run_D4 (x.1, x.2.1, List.replicate (Int.toNat 6) 0, ()) v _ some) (0, [], ())) fun p => Option.bind (iter (fun v => spec_l22Run_D8 (x.1, x.2.1, ()) v _ some) (0, List.replicate
  (Int.toNat 6) 0, p.1, ())) fun p => sumC p (fun p => some (p.1, p.2.2.1, ())) fun p => some (-1, p.2.1, ())

noncomputable def q115_Ent : Ent := ⟨271, q115_ti, q115_to, spec_l22Run_S⟩

theorem q115_HC : CfgOK Go.Proofs.Tryz.prog q115_C := hc_of g_tisOK g_wide (all_cons q14_OK all_nil)

theorem q115_lk17 : LkOK Go.Proofs.Tryz.prog q115_C (lpc Go.Proofs.Tryz.f271 3) :=
  lk_of q115_HC (m := 0) (T := q115_T17) (sp := q115_P17) (D := spec_l22Run_D17) (E := q115_E17) (by kernel_rfl) (by kernel_rfl) (fun k hk => absurd hk (Nat.not_lt_zero k)) [0, 1, 6, 7, 9] q115_M17 (fun x => rfl) spec_l22Run_D17_nat q115_K17 (fun i p R K => rfl) (fun i v => by kernel_rfl)

theorem q115_lk12 : LkOK Go.Proofs.Tryz.prog q115_C (lpc Go.Proofs.Tryz.f271 2) :=
  lk_of q115_HC (m := 0) (T := q115_T12) (sp := q115_P12) (D := spec_l22Run_D12) (E := q115_E12) (by kernel_rfl) (by kernel_rfl) (fun k hk => absurd hk (Nat.not_lt_zero k)) [0, 1, 4, 5, 6, 7, 9, 10] q115_M12 (fun x => rfl) spec_l22Run_D12_nat q115_K12 (fun i p R K => by rcases p with p | p <;> rfl) (fun i v => by kernel_rfl)

theorem q115_lk8 : LkOK Go.Proofs.Tryz.prog q115_C (lpc Go.Proofs.Tryz.f271 1) :=
  lk_of q115_HC (m := 2) (T := q115_T8) (sp := q115_P8) (D := spec_l22Run_D8) (E := q115_E8) (by kernel_rfl) (by kernel_rfl) (fun k hk => match k, hk with | 0, _ => lk_at (by kernel_rfl) q115_lk12 | 1, _ => lk_at (by kernel_rfl) q115_lk17) [4, 5, 7] q115_M8 (fun x => rfl) spec_l22Run_D8_nat q115_K8 (fun i p R K => by rcases p with p | p <;> rfl) (fun i v => by kernel_rfl)

theorem q115_lk4 : LkOK Go.Proofs.Tryz.prog q115_C (lpc Go.Proofs.Tryz.f271 0) :=
  lk_of q115_HC (m := 0) (T := q115_T4) (sp := q115_P4) (D := spec_l22Run_D4) (E := q115_E4) (by kernel_rfl) (by kernel_rfl) (fun k hk => absurd hk (Nat.not_lt_zero k)) [0, 1, 6, 7] q115_M4 (fun x => rfl) spec_l22Run_D4_nat q115_K4 (fun i p R K => rfl) (fun i v => by kernel_rfl)

theorem q115_OK : EntOK Go.Proofs.Tryz.prog q115_Ent := ok_of q115_HC Go.Proofs.Tryz.func271 4 (by kernel_rfl) (fun k hk => match k, hk with | 0, _ => q115_lk4 | 1, _ => q115_lk8 | 2, _ => q115_lk12 | 3, _ => q115_lk17) (by kernel_rfl) (by kernel_rfl) (fun x => by kernel_rfl)

/-! spec.ReplaySerial -/

noncomputable def q116_C : Cfg := { ti := g_tis, ents := [q114_Ent, q115_Ent], ann := [], lent := 0 }

def q116_ti : Tmpl := ⟨(.slot (Ty.slice (Ty.prod Ty.i (Ty.prod Ty.i (Ty.prod (Ty.slice YReadMark) (Ty.prod (Ty.slice (Ty.prod Ty.i (Ty.prod Ty.i
  Ty.unit))) Ty.unit))))) (.slot (Ty.slice Ty.i) .nil)), .nil⟩

def q116_to : Tmpl := ⟨(.own 0 (.slot (Ty.bool) .nil)), (.lst false Ty.i .nil)⟩

noncomputable def spec_ReplaySerial_S (x : List (Int × Int × List (Int × Int × Unit) × List (Int × Int × Unit) × Unit) × List Int × Unit) : Option (Bool × List Int × Unit) :=
  Option.bind (spec_l22Good_S (x.1, x.2.1, ())) fun v => bif !v.1 then some (false, [], ()) else Option.bind (spec_l22Run_S (x.1, x.2.1, ())) fun v => bif decide (v.1 ≥ 0) then some (false, [], ()) else some (true, v.2.1, ())

noncomputable def q116_Ent : Ent := ⟨156, q116_ti, q116_to, spec_ReplaySerial_S⟩

theorem q116_HC : CfgOK Go.Proofs.Tryz.prog q116_C := hc_of g_tisOK g_wide (all_cons q114_OK (all_cons q115_OK all_nil))

theorem q116_OK : EntOK Go.Proofs.Tryz.prog q116_Ent := ok_of q116_HC Go.Proofs.Tryz.func156 0 (by kernel_rfl) (fun k hk => absurd hk (Nat.not_lt_zero k)) (by kernel_rfl) (by kernel_rfl) (fun x => by kernel_rfl)

/-! spec.FinalState -/

abbrev q117_I12 : Type := List (Int × Int × List (Int × Int × Unit) × List (Int × Int × Unit) × Unit) × Int × Int × List Int × Unit

abbrev q117_V12 : Type := Int × Int × Unit

abbrev q117_Q12 : Type := Int × Unit

noncomputable def spec_FinalState_D12 (i : q117_I12) (v : q117_V12) (R : Type) (K : q117_V12 ⊕ q117_Q12 → Option R) : Option R :=
  Option.bind (lAt i.1 i.2.2.1) fun v_1 => bif decide (v.2.1 < (↑(List.length v_1.2.2.2.1) : Int)) then Option.bind (lAt i.1 i.2.2.1) fun v_2 => Option.bind (lAt v_2.2.2.2.1 v.2.1) fun v_3 => bif v_3.1 == i.2.1 then Option.bind (lAt i.1
  i.2.2.1) fun v_4 => Option.bind (lAt v_4.2.2.2.1 v.2.1) fun v_5 => K (Sum.inl (v_5.2.1, IntKind.wrap IntKind.i64 (v.2.1 + 1), ())) else K (Sum.inl (v.1, IntKind.wrap IntKind.i64 (v.2.1 + 1), ())) else K (Sum.inr (v.1, ()))

theorem spec_FinalState_D12_nat : NatD spec_FinalState_D12 := fun i v R K => nat_bind fun _ => nat_bif (nat_bind fun _ => nat_bind fun _ => nat_bif (nat_bind fun _ => nat_bind fun _ => nat_some) (nat_some)) (nat_some)

def q117_T12 : Tmpl := ⟨(.slot (Ty.slice (Ty.prod Ty.i (Ty.prod Ty.i (Ty.prod (Ty.slice YReadMark) (Ty.prod (Ty.slice (Ty.prod Ty.i (Ty.prod Ty.i
  Ty.unit))) Ty.unit))))) (jk 2 (.own 0 (.slot Ty.i (.slot Ty.i (.slot Ty.i (.slot Ty.i (jk 50 .nil)))))))), (.lst false Ty.i .nil)⟩

def q117_X12_0 (i : q117_I12) (p : Int × Unit) : St := ⟨AV.pv (Ty.slice (Ty.prod Ty.i (Ty.prod Ty.i (Ty.prod (Ty.slice YReadMark) (Ty.prod (Ty.slice (Ty.prod Ty.i (Ty.prod (Ty.int
  IntKind.i64) Ty.unit))) Ty.unit))))) i.1 :: jn 2 (AV.own 0 none none :: .n (i.2.1) :: .n (p.1) :: .n (i.2.2.1) :: jn 51 ([])), [some (Cont.lst false Ty.i i.2.2.2.1)]⟩

noncomputable def q117_E12 (i : q117_I12) (p : q117_Q12) (R : Type) (K : Ex → St → Option R) : Option R := K (Ex.exit 4) (q117_X12_0 i p)

noncomputable def q117_K12 (i : q117_I12) (p : q117_Q12) : Ex × St := (Ex.exit 4, q117_X12_0 i p)

def q117_M12 (i : q117_I12) (v : q117_V12) : den q117_T12.ty := (i.1, i.2.1, v.1, i.2.2.1, v.2.1, i.2.2.2.1, ())

def q117_P12 (x : den q117_T12.ty) : q117_I12 × q117_V12 := ((x.1, x.2.1, x.2.2.2.1, x.2.2.2.2.2.1, ()), (x.2.2.1, x.2.2.2.2.1, ()))

abbrev q117_I9 : Type := List (Int × Int × List (Int × Int × Unit) × List (Int × Int × Unit) × Unit) × Int × List Int × Unit

abbrev q117_V9 : Type := Int × Int × Unit

abbrev q117_Q9 : Type := Int × Unit

noncomputable def spec_FinalState_D9 (i : q117_I9) (v : q117_V9) (R : Type) (K : q117_V9 ⊕ q117_Q9 → Option R) : Option R :=
  bif decide (v.2.1 < (↑(List.length i.1) : Int)) then Option.bind (iter (fun v_1 => spec_FinalState_D12 (i.1, i.2.1, v.2.1, i.2.2.1, ()) v_1 _ some) (v.1, 0, ())) fun p => K (Sum.inl (p.1, IntKind.wrap IntKind.i64 (v.2.1 + 1), ()))
  else K (Sum.inr (v.1, ()))

theorem spec_FinalState_D9_nat : NatD spec_FinalState_D9 := fun i v R K => nat_bif (nat_bind fun _ => nat_some) (nat_some)

def q117_T9 : Tmpl := ⟨(.slot (Ty.slice (Ty.prod Ty.i (Ty.prod Ty.i (Ty.prod (Ty.slice YReadMark) (Ty.prod (Ty.slice (Ty.prod Ty.i (Ty.prod Ty.i
  Ty.unit))) Ty.unit))))) (jk 2 (.own 0 (.slot Ty.i (.slot Ty.i (.slot Ty.i (jk 51 .nil))))))), (.lst false Ty.i .nil)⟩

def q117_X9_0 (i : q117_I9) (p : Int × Unit) : St := ⟨AV.pv (Ty.slice (Ty.prod Ty.i (Ty.prod Ty.i (Ty.prod (Ty.slice YReadMark) (Ty.prod (Ty.slice (Ty.prod Ty.i (Ty.prod (Ty.int
  IntKind.i64) Ty.unit))) Ty.unit))))) i.1 :: jn 2 (AV.own 0 none none :: .n (i.2.1) :: .n (p.1) :: jn 52 ([])), [some (Cont.lst false Ty.i i.2.2.1)]⟩

noncomputable def q117_E9 (i : q117_I9) (p : q117_Q9) (R : Type) (K : Ex → St → Option R) : Option R := K (Ex.exit 2) (q117_X9_0 i p)

noncomputable def q117_K9 (i : q117_I9) (p : q117_Q9) : Ex × St := (Ex.exit 2, q117_X9_0 i p)

def q117_M9 (i : q117_I9) (v : q117_V9) : den q117_T9.ty := (i.1, i.2.1, v.1, v.2.1, i.2.2.1, ())

def q117_P9 (x : den q117_T9.ty) : q117_I9 × q117_V9 := ((x.1, x.2.1, x.2.2.2.2.1, ()), (x.2.2.1, x.2.2.2.1, ()))

abbrev q117_I5 : Type := List (Int × Int × List (Int × Int × Unit) × List (Int × Int × Unit) × Unit) × Unit

abbrev q117_V5 : Type := Int × List Int × Unit

abbrev q117_Q5 : Type := List Int × Unit

noncomputable def spec_FinalState_D5 (i : q117_I5) (v : q117_V5) (R : Type) (K : q117_V5 ⊕ q117_Q5 → Option R) : Option R :=
  bif decide (v.1 < 6) then Option.bind (iter (fun v_1 => spec_FinalState_D9 (i.1, v.1, v.2.1, ()) v_1 _ some) (-1, 0, ())) fun p => if List.length (v.2.1 ++ [p.1]) ≤ 4398046511104 then K (Sum.inl (IntKind.wrap IntKind.i64 (v.1 + 1),
  v.2.1 ++ [p.1], ())) else none else K (Sum.inr (v.2.1, ()))

theorem spec_FinalState_D5_nat : NatD spec_FinalState_D5 := fun i v R K => nat_bif (nat_bind fun _ => nat_ite (nat_some)) (nat_some)

def q117_T5 : Tmpl := ⟨(.slot (Ty.slice (Ty.prod Ty.i (Ty.prod Ty.i (Ty.prod (Ty.slice YReadMark) (Ty.prod (Ty.slice (Ty.prod Ty.i (Ty.prod Ty.i
  Ty.unit))) Ty.unit))))) (jk 2 (.own 0 (.slot Ty.i (jk 53 .nil))))), (.lst false Ty.i .nil)⟩

def q117_X5_0 (i : q117_I5) (p : List Int × Unit) : St := ⟨jn 3 (AV.own 0 none none :: jn 54 ([])), [some (Cont.lst false Ty.i p.1)]⟩

noncomputable def q117_E5 (i : q117_I5) (p : q117_Q5) (R : Type) (K : Ex → St → Option R) : Option R := K (Ex.exit 0) (q117_X5_0 i p)

noncomputable def q117_K5 (i : q117_I5) (p : q117_Q5) : Ex × St := (Ex.exit 0, q117_X5_0 i p)

def q117_M5 (i : q117_I5) (v : q117_V5) : den q117_T5.ty := (i.1, v.1, v.2.1, ())

def q117_P5 (x : den q117_T5.ty) : q117_I5 × q117_V5 := ((x.1, ()), (x.2.1, x.2.2.1, ()))

noncomputable def q117_C : Cfg := { ti := g_tis, ents := [q16_Ent], ann := [(12, loopFn q117_T12 0 q117_P12 spec_FinalState_D12 q117_E12), (9, loopFn q117_T9 0 q117_P9 spec_FinalState_D9 q117_E9), (5, loopFn q117_T5 0 q117_P5 spec_FinalState_D5 q117_E5)], lent := 0 }

def q117_ti : Tmpl := ⟨(.slot (Ty.slice (Ty.prod Ty.i (Ty.prod Ty.i (Ty.prod (Ty.slice YReadMark) (Ty.prod (Ty.slice (Ty.prod Ty.i (Ty.prod Ty.i
  Ty.unit))) Ty.unit))))) .nil), .nil⟩

def q117_to : Tmpl := ⟨(.own 0 .nil), (.lst false Ty.i .nil)⟩

noncomputable def spec_FinalState_S (x : List (Int × Int × List (Int × Int × Unit) × List (Int × Int × Unit) × Unit) × Unit) : Option (List Int × Unit) :=
  Option.bind (spec_IsHistory_S (x.1, ())) fun v => bif !v.1 then some ([], ()) else Option.bind (iter (fun v => spec_FinalState_D5 (x.1, ()) v _ some) (0, [], ())) fun p => some (p.1, ())

noncomputable def q117_Ent : Ent := ⟨157, q117_ti, q117_to, spec_FinalState_S⟩

theorem q117_HC : CfgOK Go.Proofs.Tryz.prog q117_C := hc_of g_tisOK g_wide (all_cons q16_OK all_nil)

theorem q117_lk12 : LkOK Go.Proofs.Tryz.prog q117_C (lpc Go.Proofs.Tryz.f157 2) :=
  lk_of q117_HC (m := 0) (T := q117_T12) (sp := q117_P12) (D := spec_FinalState_D12) (E := q117_E12) (by kernel_rfl) (by kernel_rfl) (fun k hk => absurd hk (Nat.not_lt_zero k)) [0, 3, 4, 5, 6] q117_M12 (fun x => rfl) spec_FinalState_D12_nat q117_K12 (fun i p R K => rfl) (fun i v => by kernel_rfl)

theorem q117_lk9 : LkOK Go.Proofs.Tryz.prog q117_C (lpc Go.Proofs.Tryz.f157 1) :=
  lk_of q117_HC (m := 1) (T := q117_T9) (sp := q117_P9) (D := spec_FinalState_D9) (E := q117_E9) (by kernel_rfl) (by kernel_rfl) (fun k hk => match k, hk with | 0, _ => lk_at (by kernel_rfl) q117_lk12) [0, 3, 4, 5] q117_M9 (fun x => rfl) spec_FinalState_D9_nat q117_K9 (fun i p R K => rfl) (fun i v => by kernel_rfl)

theorem q117_lk5 : LkOK Go.Proofs.Tryz.prog q117_C (lpc Go.Proofs.Tryz.f157 0) :=
  lk_of q117_HC (m := 2) (T := q117_T5) (sp := q117_P5) (D := spec_FinalState_D5) (E := q117_E5) (by kernel_rfl) (by kernel_rfl) (fun k hk => match k, hk with | 0, _ => lk_at (by kernel_rfl) q117_lk9 | 1, _ => lk_at (by kernel_rfl) q117_lk12) [3] q117_M5 (fun x => rfl) spec_FinalState_D5_nat q117_K5 (fun i p R K => rfl) (fun i v => by kernel_rfl)

theorem q117_OK : EntOK Go.Proofs.Tryz.prog q117_Ent := ok_of q117_HC Go.Proofs.Tryz.func157 3 (by kernel_rfl) (fun k hk => match k, hk with | 0, _ => q117_lk5 | 1, _ => q117_lk9 | 2, _ => q117_lk12) (by kernel_rfl) (by kernel_rfl) (fun x => by kernel_rfl)

/-! spec.IsEquivalent -/

abbrev q118_I6 : Type := List Int × List Int × Unit

abbrev q118_V6 : Type := Int × Unit

abbrev q118_Q6 : Type := Unit ⊕ Unit

noncomputable def spec_IsEquivalent_D6 (i : q118_I6) (v : q118_V6) (R : Type) (K : q118_V6 ⊕ q118_Q6 → Option R) : Option R :=
  bif decide (v.1 < 6) then if 0 ≤ v.1 ∧ v.1 < (↑(List.length i.1) : Int) then Option.bind i.1[0 + Int.toNat v.1]? fun v_1 => if 0 ≤ v.1 ∧ v.1 < (↑(List.length i.2.1) : Int) then Option.bind i.2.1[0 + Int.toNat v.1]? fun v_2 => bif v_1 != v_2
  then K (Sum.inr (Sum.inl ())) else K (Sum.inl (IntKind.wrap IntKind.i64 (v.1 + 1), ())) else none else none else K (Sum.inr (Sum.inr ()))

theorem spec_IsEquivalent_D6_nat : NatD spec_IsEquivalent_D6 := fun i v R K => nat_bif (nat_ite (nat_bind fun _ => nat_ite (nat_bind fun _ => nat_bif (nat_some) (nat_some)))) (nat_some)

def q118_T6 : Tmpl := ⟨(jk 5 (.own 0 (.junk (.own 1 (.slot Ty.i (jk 23 .nil)))))), (.lst false Ty.i (.lst false Ty.i .nil))⟩

def q118_X6_0 (i : q118_I6) (p : Unit) : St := ⟨jn 4 (.b (false) :: jn 27 ([])), [some (Cont.lst false Ty.i i.1), some (Cont.lst false Ty.i i.2.1)]⟩

def q118_X6_1 (i : q118_I6) (p : Unit) : St := ⟨jn 32 ([]), [some (Cont.lst false Ty.i i.1), some (Cont.lst false Ty.i i.2.1)]⟩

noncomputable def q118_E6 (i : q118_I6) (p : q118_Q6) (R : Type) (K : Ex → St → Option R) : Option R := sumC p (fun p => K (Ex.ret) (q118_X6_0 i p)) fun p => K (Ex.exit 0) (q118_X6_1 i p)

noncomputable def q118_K6 (i : q118_I6) (p : q118_Q6) : Ex × St := sumC p (fun p => (Ex.ret, q118_X6_0 i p)) fun p => (Ex.exit 0, q118_X6_1 i p)

def q118_M6 (i : q118_I6) (v : q118_V6) : den q118_T6.ty := (v.1, i.1, i.2.1, ())

def q118_P6 (x : den q118_T6.ty) : q118_I6 × q118_V6 := ((x.2.1, x.2.2.1, ()), (x.1, ()))

noncomputable def q118_C : Cfg := { ti := g_tis, ents := [q116_Ent, q117_Ent], ann := [(6, loopFn q118_T6 0 q118_P6 spec_IsEquivalent_D6 q118_E6)], lent := 0 }

def q118_ti : Tmpl := ⟨(.slot (Ty.slice (Ty.prod Ty.i (Ty.prod Ty.i (Ty.prod (Ty.slice YReadMark) (Ty.prod (Ty.slice (Ty.prod Ty.i (Ty.prod Ty.i
  Ty.unit))) Ty.unit))))) (.slot (Ty.slice Ty.i) .nil)), .nil⟩

def q118_to : Tmpl := ⟨(.slot (Ty.bool) .nil), .nil⟩

noncomputable def spec_IsEquivalent_S (x : List (Int × Int × List (Int × Int × Unit) × List (Int × Int × Unit) × Unit) × List Int × Unit) : Option (Bool × Unit) :=
  Option.bind (spec_ReplaySerial_S (x.1, x.2.1, ())) fun v => bif !v.1 then some (false, ()) else Option.bind (spec_FinalState_S (x.1, ())) fun v_1 => Option.bind (iter (fun v_2 => spec_IsEquivalent_D6 (v.2.1, v_1.1, ()) v_2 _ some)
  (0, ())) fun p => sumC p (fun p => some (false, ())) fun p => some (true, ())

noncomputable def q118_Ent : Ent := ⟨76, q118_ti, q118_to, spec_IsEquivalent_S⟩

theorem q118_HC : CfgOK Go.Proofs.Tryz.prog q118_C := hc_of g_tisOK g_wide (all_cons q116_OK (all_cons q117_OK all_nil))

theorem q118_lk6 : LkOK Go.Proofs.Tryz.prog q118_C (lpc Go.Proofs.Tryz.f76 0) :=
  lk_of q118_HC (m := 0) (T := q118_T6) (sp := q118_P6) (D := spec_IsEquivalent_D6) (E := q118_E6) (by kernel_rfl) (by kernel_rfl) (fun k hk => absurd hk (Nat.not_lt_zero k)) [4] q118_M6 (fun x => rfl) spec_IsEquivalent_D6_nat q118_K6 (fun i p R K => by rcases p with p | p <;> rfl) (fun i v => by kernel_rfl)

theorem q118_OK : EntOK Go.Proofs.Tryz.prog q118_Ent := ok_of q118_HC Go.Proofs.Tryz.func76 1 (by kernel_rfl) (fun k hk => match k, hk with | 0, _ => q118_lk6) (by kernel_rfl) (by kernel_rfl) (fun x => by kernel_rfl)

/-! spec.CheckReport -/

noncomputable def q119_C : Cfg := { ti := g_tis, ents := [q16_Ent, q20_Ent, q29_Ent, q31_Ent, q113_Ent, q118_Ent], ann := [], lent := 0 }

def q119_ti : Tmpl := ⟨(.slot (Ty.slice (Ty.prod Ty.i (Ty.prod Ty.i (Ty.prod (Ty.slice YReadMark) (Ty.prod (Ty.slice (Ty.prod Ty.i (Ty.prod Ty.i
  Ty.unit))) Ty.unit))))) (.slot YReport .nil)), .nil⟩

def q119_to : Tmpl := ⟨(.slot (Ty.bool) .nil), .nil⟩

noncomputable def spec_CheckReport_S (x : List (Int × Int × List (Int × Int × Unit) × List (Int × Int × Unit) × Unit) × (List Int × List Int × Int × Unit) × Unit) : Option (Bool × Unit) :=
  Option.bind (spec_IsHistory_S (x.1, ())) fun v => bif !v.1 then some (false, ()) else bif decide ((↑(List.length x.2.1.2.1) : Int) > 0) then bif (↑(List.length x.2.1.1) : Int) == 0 then Option.bind (spec_BuildGraph_S (x.1, ())) fun v =>
  Option.bind (spec_CheckCycle_S (v.1, x.2.1.2.1, ())) fun v => bif v.1 then Option.bind (spec_ClassifyCycle_S (x.1, x.2.1.2.1, ())) fun v => some (x.2.1.2.2.1 == v.1, ()) else some (false, ()) else some (false, ()) else bif x.2.1.2.2.1 == 0
  then Option.bind (spec_IsSerialOrder_S (x.1, x.2.1.1, ())) fun v => bif v.1 then Option.bind (spec_IsEquivalent_S (x.1, x.2.1.1, ())) fun v => some (v.1, ()) else some (false, ()) else some (false, ())

noncomputable def q119_Ent : Ent := ⟨21, q119_ti, q119_to, spec_CheckReport_S⟩

theorem q119_HC : CfgOK Go.Proofs.Tryz.prog q119_C := hc_of g_tisOK g_wide (all_cons q16_OK (all_cons q20_OK (all_cons q29_OK (all_cons q31_OK (all_cons q113_OK (all_cons q118_OK all_nil))))))

theorem q119_OK : EntOK Go.Proofs.Tryz.prog q119_Ent := ok_of q119_HC Go.Proofs.Tryz.func21 0 (by kernel_rfl) (fun k hk => absurd hk (Nat.not_lt_zero k)) (by kernel_rfl) (by kernel_rfl) (fun x => by kernel_rfl)

/-! impl.isOrder$1 -/

noncomputable def q120_C : Cfg := { ti := g_tis, ents := [q62_Ent], ann := [], lent := 0 }

def q120_ti : Tmpl := ⟨(.slot (Ty.prod Ty.i (Ty.prod Ty.i (Ty.prod (Ty.slice YReadMark) (Ty.prod (Ty.slice YReadMark)
  Ty.unit)))) (.slot (Ty.iref (Ty.slice Ty.i)) .nil)), .nil⟩

def q120_to : Tmpl := ⟨(.slot (Ty.bool) .nil), .nil⟩

noncomputable def impl_isOrder_1_S (x : (Int × Int × List (Int × Int × Unit) × List (Int × Int × Unit) × Unit) × Option (List Int) × Unit) : Option (Bool × Unit) :=
  Option.bind x.2.1 fun v => Option.bind (slices_Contains_int_S (v, x.1.1, ())) fun v => some (!v.1, ())

noncomputable def q120_Ent : Ent := ⟨281, q120_ti, q120_to, impl_isOrder_1_S⟩

theorem q120_HC : CfgOK Go.Proofs.Tryz.prog q120_C := hc_of g_tisOK g_wide (all_cons q62_OK all_nil)

theorem q120_OK : EntOK Go.Proofs.Tryz.prog q120_Ent := ok_of q120_HC Go.Proofs.Tryz.func281 0 (by kernel_rfl) (fun k hk => absurd hk (Nat.not_lt_zero k)) (by kernel_rfl) (by kernel_rfl) (fun x => by kernel_rfl)

/-! slices.IndexFunc[[]impl.Entry,impl.Entry] -/

abbrev q121_I2 : Type := List (Int × Int × List (Int × Int × Unit) × List (Int × Int × Unit) × Unit) × (Option (List Int) × Unit) × Int × Unit

abbrev q121_V2 : Type := Int × Unit

abbrev q121_Q2 : Type := Int × Unit ⊕ Unit

noncomputable def slices_IndexFunc__impl_isOrder_1_D2 (i : q121_I2) (v : q121_V2) (R : Type) (K : q121_V2 ⊕ q121_Q2 → Option R) : Option R :=
  bif decide (v.1 < i.2.2.1) then Option.bind (lAt i.1 v.1) fun v_1 => Option.bind (impl_isOrder_1_S ((v_1.1, v_1.2.1, v_1.2.2.1, v_1.2.2.2.1, ()), i.2.1.1, ())) fun v_2 => bif v_2.1 then K (Sum.inr (Sum.inl (v.1, ()))) else K (Sum.inl
  (IntKind.wrap IntKind.i64 (v.1 + 1), ())) else K (Sum.inr (Sum.inr ()))

theorem slices_IndexFunc__impl_isOrder_1_D2_nat : NatD slices_IndexFunc__impl_isOrder_1_D2 := fun i v R K => nat_bif (nat_bind fun _ => nat_bind fun _ => nat_bif (nat_some) (nat_some)) (nat_some)

def q121_T2 : Tmpl := ⟨(.slot (Ty.slice (Ty.prod Ty.i (Ty.prod Ty.i (Ty.prod (Ty.slice YReadMark) (Ty.prod (Ty.slice (Ty.prod Ty.i (Ty.prod Ty.i
  Ty.unit))) Ty.unit))))) (.slot (Ty.fn 281 (Ty.prod (Ty.iref (Ty.slice Ty.i)) Ty.unit)) (jk 5 (.slot Ty.i (.slot Ty.i (jk 10 .nil)))))), .nil⟩

def q121_X2_0 (i : q121_I2) (p : Int × Unit) : St := ⟨jn 4 (.n (p.1) :: jn 14 ([])), []⟩

def q121_X2_1 (i : q121_I2) (p : Unit) : St := ⟨jn 19 ([]), []⟩

noncomputable def q121_E2 (i : q121_I2) (p : q121_Q2) (R : Type) (K : Ex → St → Option R) : Option R := sumC p (fun p => K (Ex.ret) (q121_X2_0 i p)) fun p => K (Ex.exit 0) (q121_X2_1 i p)

noncomputable def q121_K2 (i : q121_I2) (p : q121_Q2) : Ex × St := sumC p (fun p => (Ex.ret, q121_X2_0 i p)) fun p => (Ex.exit 0, q121_X2_1 i p)

def q121_M2 (i : q121_I2) (v : q121_V2) : den q121_T2.ty := (i.1, i.2.1, i.2.2.1, v.1, ())

def q121_P2 (x : den q121_T2.ty) : q121_I2 × q121_V2 := ((x.1, x.2.1, x.2.2.1, ()), (x.2.2.2.1, ()))

noncomputable def q121_C : Cfg := { ti := g_tis, ents := [q120_Ent], ann := [(2, loopFn q121_T2 0 q121_P2 slices_IndexFunc__impl_isOrder_1_D2 q121_E2)], lent := 0 }

def q121_ti : Tmpl := ⟨(.slot (Ty.slice (Ty.prod Ty.i (Ty.prod Ty.i (Ty.prod (Ty.slice YReadMark) (Ty.prod (Ty.slice (Ty.prod Ty.i (Ty.prod Ty.i
  Ty.unit))) Ty.unit))))) (.slot (Ty.fn 281 (Ty.prod (Ty.iref (Ty.slice Ty.i)) Ty.unit)) .nil)), .nil⟩

def q121_to : Tmpl := ⟨(.slot Ty.i .nil), .nil⟩

noncomputable def slices_IndexFunc__impl_isOrder_1_S (x : List (Int × Int × List (Int × Int × Unit) × List (Int × Int × Unit) × Unit) × (Option (List Int) × Unit) × Unit) : Option (Int × Unit) :=
  Option.bind (iter (fun v => slices_IndexFunc__impl_isOrder_1_D2 (x.1, x.2.1, (↑(List.length x.1) : Int), ()) v _ some) (0, ())) fun p => sumC p (fun p => some (p.1, ())) fun p => some (-1, ())

noncomputable def q121_Ent : Ent := ⟨143, q121_ti, q121_to, slices_IndexFunc__impl_isOrder_1_S⟩

theorem q121_HC : CfgOK Go.Proofs.Tryz.prog q121_C := hc_of g_tisOK g_wide (all_cons q120_OK all_nil)

theorem q121_lk2 : LkOK Go.Proofs.Tryz.prog q121_C (lpc Go.Proofs.Tryz.f143 0) :=
  lk_of q121_HC (m := 0) (T := q121_T2) (sp := q121_P2) (D := slices_IndexFunc__impl_isOrder_1_D2) (E := q121_E2) (by kernel_rfl) (by kernel_rfl) (fun k hk => absurd hk (Nat.not_lt_zero k)) [4] q121_M2 (fun x => rfl) slices_IndexFunc__impl_isOrder_1_D2_nat q121_K2 (fun i p R K => by rcases p with p | p <;> rfl) (fun i v => by kernel_rfl)

theorem q121_OK : EntOK Go.Proofs.Tryz.prog q121_Ent := ok_of q121_HC Go.Proofs.Tryz.func143 1 (by kernel_rfl) (fun k hk => match k, hk with | 0, _ => q121_lk2) (by kernel_rfl) (by kernel_rfl) (fun x => by kernel_rfl)

/-! slices.ContainsFunc[[]impl.Entry,impl.Entry] -/

noncomputable def q122_C : Cfg := { ti := g_tis, ents := [q121_Ent], ann := [], lent := 0 }

def q122_ti : Tmpl := ⟨(.slot (Ty.slice (Ty.prod Ty.i (Ty.prod Ty.i (Ty.prod (Ty.slice YReadMark) (Ty.prod (Ty.slice (Ty.prod Ty.i (Ty.prod Ty.i
  Ty.unit))) Ty.unit))))) (.slot (Ty.fn 281 (Ty.prod (Ty.iref (Ty.slice Ty.i)) Ty.unit)) .nil)), .nil⟩

def q122_to : Tmpl := ⟨(.slot (Ty.bool) .nil), .nil⟩

noncomputable def slices_ContainsFunc__impl_isOrder_1_S (x : List (Int × Int × List (Int × Int × Unit) × List (Int × Int × Unit) × Unit) × (Option (List Int) × Unit) × Unit) : Option (Bool × Unit) :=
  Option.bind (slices_IndexFunc__impl_isOrder_1_S (x.1, x.2.1, ())) fun v => some (decide (v.1 ≥ 0), ())

noncomputable def q122_Ent : Ent := ⟨280, q122_ti, q122_to, slices_ContainsFunc__impl_isOrder_1_S⟩

theorem q122_HC : CfgOK Go.Proofs.Tryz.prog q122_C := hc_of g_tisOK g_wide (all_cons q121_OK all_nil)

theorem q122_OK : EntOK Go.Proofs.Tryz.prog q122_Ent := ok_of q122_HC Go.Proofs.Tryz.func280 0 (by kernel_rfl) (fun k hk => absurd hk (Nat.not_lt_zero k)) (by kernel_rfl) (by kernel_rfl) (fun x => by kernel_rfl)

/-! impl.isOrder -/

noncomputable def q123_C : Cfg := { ti := g_tis, ents := [q122_Ent], ann := [], lent := 0 }

def q123_ti : Tmpl := ⟨(.slot (Ty.slice (Ty.prod Ty.i (Ty.prod Ty.i (Ty.prod (Ty.slice YReadMark) (Ty.prod (Ty.slice (Ty.prod Ty.i (Ty.prod Ty.i
  Ty.unit))) Ty.unit))))) (.slot (Ty.slice Ty.i) .nil)), .nil⟩

def q123_to : Tmpl := ⟨(.slot (Ty.bool) .nil), .nil⟩

noncomputable def impl_isOrder_S (x : List (Int × Int × List (Int × Int × Unit) × List (Int × Int × Unit) × Unit) × List Int × Unit) : Option (Bool × Unit) :=
  bif (↑(List.length x.2.1) : Int) == (↑(List.length x.1) : Int) then Option.bind (slices_ContainsFunc__impl_isOrder_1_S (x.1, (some x.2.1, ()), ())) fun v => some (!v.1, ()) else some (false, ())

noncomputable def q123_Ent : Ent := ⟨174, q123_ti, q123_to, impl_isOrder_S⟩

theorem q123_HC : CfgOK Go.Proofs.Tryz.prog q123_C := hc_of g_tisOK g_wide (all_cons q122_OK all_nil)

theorem q123_OK : EntOK Go.Proofs.Tryz.prog q123_Ent := ok_of q123_HC Go.Proofs.Tryz.func174 0 (by kernel_rfl) (fun k hk => absurd hk (Nat.not_lt_zero k)) (by kernel_rfl) (by kernel_rfl) (fun x => by kernel_rfl)

/-! impl.IsSerialOrder -/

abbrev q124_I5 : Type := List Int × List Int × Int × List (Int × Int × Int × Int × Unit) × Unit

abbrev q124_V5 : Type := Int × Unit

abbrev q124_Q5 : Type := Unit ⊕ Unit

noncomputable def impl_IsSerialOrder_D5 (i : q124_I5) (v : q124_V5) (R : Type) (K : q124_V5 ⊕ q124_Q5 → Option R) : Option R :=
  bif decide (v.1 < i.2.2.1) then Option.bind (lAt i.2.1 v.1) fun v_1 => Option.bind (slAt i.1 0 v.1) fun v_2 => Option.bind (impl_isReady_S (i.2.2.2.1, v_1, v_2, ())) fun v_3 => bif !v_3.1 then K (Sum.inr (Sum.inl ())) else K (Sum.inl
  (IntKind.wrap IntKind.i64 (v.1 + 1), ())) else K (Sum.inr (Sum.inr ()))

theorem impl_IsSerialOrder_D5_nat : NatD impl_IsSerialOrder_D5 := fun i v R K => nat_bif (nat_bind fun _ => nat_bind fun _ => nat_bind fun _ => nat_bif (nat_some) (nat_some)) (nat_some)

def q124_T5 : Tmpl := ⟨(.junk (.slot (Ty.slice Ty.i) (jk 3 (.own 0 (jk 13 (.slot (Ty.slice Ty.i) (.slot Ty.i (.slot Ty.i (jk 12 .nil))))))))), (.lst false YEdge .nil)⟩

def q124_X5_0 (i : q124_I5) (p : Unit) : St := ⟨jn 4 (.b (false) :: jn 29 ([])), [some (Cont.lst false YEdge i.2.2.2.1)]⟩

def q124_X5_1 (i : q124_I5) (p : Unit) : St := ⟨jn 34 ([]), [some (Cont.lst false YEdge i.2.2.2.1)]⟩

noncomputable def q124_E5 (i : q124_I5) (p : q124_Q5) (R : Type) (K : Ex → St → Option R) : Option R := sumC p (fun p => K (Ex.ret) (q124_X5_0 i p)) fun p => K (Ex.exit 0) (q124_X5_1 i p)

noncomputable def q124_K5 (i : q124_I5) (p : q124_Q5) : Ex × St := sumC p (fun p => (Ex.ret, q124_X5_0 i p)) fun p => (Ex.exit 0, q124_X5_1 i p)

def q124_M5 (i : q124_I5) (v : q124_V5) : den q124_T5.ty := (i.1, i.2.1, i.2.2.1, v.1, i.2.2.2.1, ())

def q124_P5 (x : den q124_T5.ty) : q124_I5 × q124_V5 := ((x.1, x.2.1, x.2.2.1, x.2.2.2.2.1, ()), (x.2.2.2.1, ()))

noncomputable def q124_C : Cfg := { ti := g_tis, ents := [q54_Ent, q123_Ent, q60_Ent, q66_Ent], ann := [(5, loopFn q124_T5 0 q124_P5 impl_IsSerialOrder_D5 q124_E5)], lent := 0 }

def q124_ti : Tmpl := ⟨(.slot (Ty.slice (Ty.prod Ty.i (Ty.prod Ty.i (Ty.prod (Ty.slice YReadMark) (Ty.prod (Ty.slice (Ty.prod Ty.i (Ty.prod Ty.i
  Ty.unit))) Ty.unit))))) (.slot (Ty.slice Ty.i) .nil)), .nil⟩

def q124_to : Tmpl := ⟨(.slot (Ty.bool) .nil), .nil⟩

noncomputable def impl_IsSerialOrder_S (x : List (Int × Int × List (Int × Int × Unit) × List (Int × Int × Unit) × Unit) × List Int × Unit) : Option (Bool × Unit) :=
  Option.bind (impl_IsHistory_S (x.1, ())) fun v => bif !v.1 then some (false, ()) else Option.bind (impl_isOrder_S (x.1, x.2.1, ())) fun v => bif !v.1 then some (false, ()) else Option.bind (impl_graph_S (x.1, ())) fun v => Option.bind (iter
  (fun v_1 => impl_IsSerialOrder_D5 (x.2.1, x.2.1, (↑(List.length x.2.1) : Int), v.1, ()) v_1 _ some) (0, ())) fun p => sumC p (fun p => some (false, ())) fun p => some (true, ())

noncomputable def q124_Ent : Ent := ⟨81, q124_ti, q124_to, impl_IsSerialOrder_S⟩

theorem q124_HC : CfgOK Go.Proofs.Tryz.prog q124_C := hc_of g_tisOK g_wide (all_cons q54_OK (all_cons q123_OK (all_cons q60_OK (all_cons q66_OK all_nil))))

theorem q124_lk5 : LkOK Go.Proofs.Tryz.prog q124_C (lpc Go.Proofs.Tryz.f81 0) :=
  lk_of q124_HC (m := 0) (T := q124_T5) (sp := q124_P5) (D := impl_IsSerialOrder_D5) (E := q124_E5) (by kernel_rfl) (by kernel_rfl) (fun k hk => absurd hk (Nat.not_lt_zero k)) [4] q124_M5 (fun x => rfl) impl_IsSerialOrder_D5_nat q124_K5 (fun i p R K => by rcases p with p | p <;> rfl) (fun i v => by kernel_rfl)

theorem q124_OK : EntOK Go.Proofs.Tryz.prog q124_Ent := ok_of q124_HC Go.Proofs.Tryz.func81 1 (by kernel_rfl) (fun k hk => match k, hk with | 0, _ => q124_lk5) (by kernel_rfl) (by kernel_rfl) (fun x => by kernel_rfl)

/-! math/bits.Mul64 -/

noncomputable def q125_C : Cfg := { ti := g_tis, ents := [], ann := [], lent := 0 }

def q125_ti : Tmpl := ⟨(.slot (Ty.int IntKind.u64) (.slot (Ty.int IntKind.u64) .nil)), .nil⟩

def q125_to : Tmpl := ⟨(.slot (Ty.int IntKind.u64) (.slot (Ty.int IntKind.u64) .nil)), .nil⟩

noncomputable def math_bits_Mul64_S (x : Int × Int × Unit) : Option (Int × Int × Unit) :=
  some (IntKind.wrap IntKind.u64 (IntKind.wrap IntKind.u64 (IntKind.wrap IntKind.u64 (Int.fdiv x.1 (2 ^ min (Int.toNat 32) (IntKind.bits IntKind.u64)) * Int.fdiv x.2.1 (2 ^ min (Int.toNat 32) (IntKind.bits IntKind.u64))) + Int.fdiv
  (IntKind.wrap IntKind.u64 (IntKind.wrap IntKind.u64 (Int.fdiv x.1 (2 ^ min (Int.toNat 32) (IntKind.bits IntKind.u64)) * iand IntKind.u64 x.2.1 4294967295) + Int.fdiv (IntKind.wrap IntKind.u64 (iand IntKind.u64 x.1 4294967295 * iand
  IntKind.u64 x.2.1 4294967295)) (2 ^ min (Int.toNat 32) (IntKind.bits IntKind.u64)))) (2 ^ min (Int.toNat 32) (IntKind.bits IntKind.u64))) + Int.fdiv (IntKind.wrap IntKind.u64 (iand IntKind.u64 (IntKind.wrap IntKind.u64 (IntKind.wrap
  IntKind.u64 (Int.fdiv x.1 (2 ^ min (Int.toNat 32) (IntKind.bits IntKind.u64)) * iand IntKind.u64 x.2.1 4294967295) + Int.fdiv (IntKind.wrap IntKind.u64 (iand IntKind.u64 x.1 4294967295 * iand IntKind.u64 x.2.1 4294967295)) (2 ^ min
  (Int.toNat 32) (IntKind.bits IntKind.u64)))) 4294967295 + IntKind.wrap IntKind.u64 (iand IntKind.u64 x.1 4294967295 * Int.fdiv x.2.1 (2 ^ min (Int.toNat 32) (IntKind.bits IntKind.u64))))) (2 ^ min (Int.toNat 32) (IntKind.bits IntKind.u64))),
  IntKind.wrap IntKind.u64 (x.1 * x.2.1), ())

noncomputable def q125_Ent : Ent := ⟨389, q125_ti, q125_to, math_bits_Mul64_S⟩

theorem q125_HC : CfgOK Go.Proofs.Tryz.prog q125_C := hc_of g_tisOK g_wide all_nil

theorem q125_OK : EntOK Go.Proofs.Tryz.prog q125_Ent := ok_of q125_HC Go.Proofs.Tryz.func389 0 (by kernel_rfl) (fun k hk => absurd hk (Nat.not_lt_zero k)) (by kernel_rfl) (by kernel_rfl) (fun x => by kernel_rfl)

/-! math/bits.Mul -/

noncomputable def q126_C : Cfg := { ti := g_tis, ents := [q125_Ent], ann := [], lent := 0 }

def q126_ti : Tmpl := ⟨(.slot (Ty.int IntKind.u64) (.slot (Ty.int IntKind.u64) .nil)), .nil⟩

def q126_to : Tmpl := ⟨(.slot (Ty.int IntKind.u64) (.slot (Ty.int IntKind.u64) .nil)), .nil⟩

noncomputable def math_bits_Mul_S (x : Int × Int × Unit) : Option (Int × Int × Unit) :=
  Option.bind (math_bits_Mul64_S (x.1, x.2.1, ())) fun v => some (v.1, v.2.1, ())

noncomputable def q126_Ent : Ent := ⟨346, q126_ti, q126_to, math_bits_Mul_S⟩

theorem q126_HC : CfgOK Go.Proofs.Tryz.prog q126_C := hc_of g_tisOK g_wide (all_cons q125_OK all_nil)

theorem q126_OK : EntOK Go.Proofs.Tryz.prog q126_Ent := ok_of q126_HC Go.Proofs.Tryz.func346 0 (by kernel_rfl) (fun k hk => absurd hk (Nat.not_lt_zero k)) (by kernel_rfl) (by kernel_rfl) (fun x => by kernel_rfl)

/-! slices.Repeat[[]int,int] -/

abbrev q127_I8 : Type := Unit

abbrev q127_V8 : Type := Int × List Int × Unit

abbrev q127_Q8 : Type := List Int × Unit

noncomputable def slices_Repeat_int_D8 (i : q127_I8) (v : q127_V8) (R : Type) (K : q127_V8 ⊕ q127_Q8 → Option R) : Option R :=
  bif decide (v.1 < (↑(List.length v.2.1) : Int)) then if 0 ≤ v.1 ∧ v.1 ≤ (↑(List.length v.2.1) : Int) ∧ (↑(List.length v.2.1) : Int) ≤ (↑(List.length v.2.1) : Int) then if (0 : Int) ≤ 0 ∧ 0 ≤ v.1 ∧ v.1 ≤ (↑(List.length v.2.1) : Int) then K (Sum.inl
  (IntKind.wrap IntKind.i64 (v.1 + (↑(min (Int.toNat (↑(List.length v.2.1) : Int) - Int.toNat v.1) (List.length (sub? v.2.1 (some (0, Int.toNat v.1 - Int.toNat 0))))) : Int)), copyInto v.2.1 (0 + Int.toNat v.1) (Int.toNat (↑(List.length v.2.1)
  : Int) - Int.toNat v.1) (sub? v.2.1 (some (0, Int.toNat v.1 - Int.toNat 0))), ())) else none else none else K (Sum.inr (v.2.1, ()))

theorem slices_Repeat_int_D8_nat : NatD slices_Repeat_int_D8 := fun i v R K => nat_bif (nat_ite (nat_ite (nat_some))) (nat_some)

def q127_T8 : Tmpl := ⟨(jk 7 (.own 0 (.slot Ty.i (jk 39 .nil)))), (.lst false Ty.i .nil)⟩

def q127_X8_0 (i : q127_I8) (p : List Int × Unit) : St := ⟨jn 7 (AV.own 0 none none :: jn 40 ([])), [some (Cont.lst false Ty.i p.1)]⟩

noncomputable def q127_E8 (i : q127_I8) (p : q127_Q8) (R : Type) (K : Ex → St → Option R) : Option R := K (Ex.exit 0) (q127_X8_0 i p)

noncomputable def q127_K8 (i : q127_I8) (p : q127_Q8) : Ex × St := (Ex.exit 0, q127_X8_0 i p)

def q127_M8 (i : q127_I8) (v : q127_V8) : den q127_T8.ty := (v.1, v.2.1, ())

def q127_P8 (x : den q127_T8.ty) : q127_I8 × q127_V8 := ((()), (x.1, x.2.1, ()))

noncomputable def q127_C : Cfg := { ti := g_tis, ents := [q126_Ent], ann := [(8, loopFn q127_T8 0 q127_P8 slices_Repeat_int_D8 q127_E8)], lent := 0, hid := [((9, 0), [0])] }

def q127_ti : Tmpl := ⟨(.slot (Ty.slice Ty.i) (.slot Ty.i .nil)), .nil⟩

def q127_to : Tmpl := ⟨(.own 0 .nil), (.lst false Ty.i .nil)⟩

noncomputable def slices_Repeat_int_S (x : List Int × Int × Unit) : Option (List Int × Unit) :=
  bif decide (x.2.1 < 0) then none else Option.bind (math_bits_Mul_S (IntKind.wrap IntKind.u64 (↑(List.length x.1) : Int), IntKind.wrap IntKind.u64 x.2.1, ())) fun v => bif decide (v.1 > 0) then none else bif decide (v.2.1 >
  9223372036854775807) then none else if 0 ≤ IntKind.wrap IntKind.i64 v.2.1 ∧ IntKind.wrap IntKind.i64 v.2.1 ≤ IntKind.wrap IntKind.i64 v.2.1 ∧ IntKind.wrap IntKind.i64 v.2.1 ≤ (↑4398046511104 : Int) then Option.bind (iter (fun v =>
  slices_Repeat_int_D8 () v _ some) ((↑(min (List.length (List.replicate (Int.toNat (IntKind.wrap IntKind.i64 v.2.1)) (0 : Int))) (List.length x.1)) : Int), copyInto (List.replicate (Int.toNat (IntKind.wrap IntKind.i64 v.2.1)) (0 : Int)) 0
  (List.length (List.replicate (Int.toNat (IntKind.wrap IntKind.i64 v.2.1)) (0 : Int))) x.1, ())) fun p => some (p.1, ()) else none

noncomputable def q127_Ent : Ent := ⟨283, q127_ti, q127_to, slices_Repeat_int_S⟩

theorem q127_HC : CfgOK Go.Proofs.Tryz.prog q127_C := hc_of g_tisOK g_wide (all_cons q126_OK all_nil)

theorem q127_lk8 : LkOK Go.Proofs.Tryz.prog q127_C (lpc Go.Proofs.Tryz.f283 0) :=
  lk_of q127_HC (m := 0) (T := q127_T8) (sp := q127_P8) (D := slices_Repeat_int_D8) (E := q127_E8) (by kernel_rfl) (by kernel_rfl) (fun k hk => absurd hk (Nat.not_lt_zero k)) [7] q127_M8 (fun x => rfl) slices_Repeat_int_D8_nat q127_K8 (fun i p R K => rfl) (fun i v => by kernel_rfl)

theorem q127_OK : EntOK Go.Proofs.Tryz.prog q127_Ent := ok_of q127_HC Go.Proofs.Tryz.func283 1 (by kernel_rfl) (fun k hk => match k, hk with | 0, _ => q127_lk8) (by kernel_rfl) (by kernel_rfl) (fun x => by kernel_rfl)

/-! impl.replayed$1 -/

noncomputable def q128_C : Cfg := { ti := g_tis, ents := [], ann := [], lent := 0 }

def q128_ti : Tmpl := ⟨(.slot YReadMark (.slot (Ty.iref (Ty.slice Ty.i)) .nil)), .nil⟩

def q128_to : Tmpl := ⟨(.slot (Ty.bool) .nil), .nil⟩

noncomputable def impl_replayed_1_S (x : (Int × Int × Unit) × Option (List Int) × Unit) : Option (Bool × Unit) :=
  Option.bind x.2.1 fun v => Option.bind (lAt v x.1.1) fun v => some (v != x.1.2.1, ())

noncomputable def q128_Ent : Ent := ⟨345, q128_ti, q128_to, impl_replayed_1_S⟩

theorem q128_HC : CfgOK Go.Proofs.Tryz.prog q128_C := hc_of g_tisOK g_wide all_nil

theorem q128_OK : EntOK Go.Proofs.Tryz.prog q128_Ent := ok_of q128_HC Go.Proofs.Tryz.func345 0 (by kernel_rfl) (fun k hk => absurd hk (Nat.not_lt_zero k)) (by kernel_rfl) (by kernel_rfl) (fun x => by kernel_rfl)

/-! slices.IndexFunc[[]impl.ReadMark,impl.ReadMark] -/

abbrev q129_I2 : Type := List (Int × Int × Unit) × (Option (List Int) × Unit) × Int × Unit

abbrev q129_V2 : Type := Int × Unit

abbrev q129_Q2 : Type := Int × Unit ⊕ Unit

noncomputable def slices_IndexFunc__impl_replayed_1_D2 (i : q129_I2) (v : q129_V2) (R : Type) (K : q129_V2 ⊕ q129_Q2 → Option R) : Option R :=
  bif decide (v.1 < i.2.2.1) then Option.bind (lAt i.1 v.1) fun v_1 => Option.bind (impl_replayed_1_S ((v_1.1, v_1.2.1, ()), i.2.1.1, ())) fun v_2 => bif v_2.1 then K (Sum.inr (Sum.inl (v.1, ()))) else K (Sum.inl (IntKind.wrap IntKind.i64 (v.1
  + 1), ())) else K (Sum.inr (Sum.inr ()))

theorem slices_IndexFunc__impl_replayed_1_D2_nat : NatD slices_IndexFunc__impl_replayed_1_D2 := fun i v R K => nat_bif (nat_bind fun _ => nat_bind fun _ => nat_bif (nat_some) (nat_some)) (nat_some)

def q129_T2 : Tmpl := ⟨(.slot (Ty.slice YReadMark) (.slot (Ty.fn 345 (Ty.prod (Ty.iref (Ty.slice Ty.i)) Ty.unit)) (jk 5 (.slot Ty.i (.slot Ty.i (jk 10 .nil)))))), .nil⟩

def q129_X2_0 (i : q129_I2) (p : Int × Unit) : St := ⟨jn 4 (.n (p.1) :: jn 14 ([])), []⟩

def q129_X2_1 (i : q129_I2) (p : Unit) : St := ⟨jn 19 ([]), []⟩

noncomputable def q129_E2 (i : q129_I2) (p : q129_Q2) (R : Type) (K : Ex → St → Option R) : Option R := sumC p (fun p => K (Ex.ret) (q129_X2_0 i p)) fun p => K (Ex.exit 0) (q129_X2_1 i p)

noncomputable def q129_K2 (i : q129_I2) (p : q129_Q2) : Ex × St := sumC p (fun p => (Ex.ret, q129_X2_0 i p)) fun p => (Ex.exit 0, q129_X2_1 i p)

def q129_M2 (i : q129_I2) (v : q129_V2) : den q129_T2.ty := (i.1, i.2.1, i.2.2.1, v.1, ())

def q129_P2 (x : den q129_T2.ty) : q129_I2 × q129_V2 := ((x.1, x.2.1, x.2.2.1, ()), (x.2.2.2.1, ()))

noncomputable def q129_C : Cfg := { ti := g_tis, ents := [q128_Ent], ann := [(2, loopFn q129_T2 0 q129_P2 slices_IndexFunc__impl_replayed_1_D2 q129_E2)], lent := 0 }

def q129_ti : Tmpl := ⟨(.slot (Ty.slice YReadMark) (.slot (Ty.fn 345 (Ty.prod (Ty.iref (Ty.slice Ty.i)) Ty.unit)) .nil)), .nil⟩

def q129_to : Tmpl := ⟨(.slot Ty.i .nil), .nil⟩

noncomputable def slices_IndexFunc__impl_replayed_1_S (x : List (Int × Int × Unit) × (Option (List Int) × Unit) × Unit) : Option (Int × Unit) :=
  Option.bind (iter (fun v => slices_IndexFunc__impl_replayed_1_D2 (x.1, x.2.1, (↑(List.length x.1) : Int), ()) v _ some) (0, ())) fun p => sumC p (fun p => some (p.1, ())) fun p => some (-1, ())

noncomputable def q129_Ent : Ent := ⟨387, q129_ti, q129_to, slices_IndexFunc__impl_replayed_1_S⟩

theorem q129_HC : CfgOK Go.Proofs.Tryz.prog q129_C := hc_of g_tisOK g_wide (all_cons q128_OK all_nil)

theorem q129_lk2 : LkOK Go.Proofs.Tryz.prog q129_C (lpc Go.Proofs.Tryz.f387 0) :=
  lk_of q129_HC (m := 0) (T := q129_T2) (sp := q129_P2) (D := slices_IndexFunc__impl_replayed_1_D2) (E := q129_E2) (by kernel_rfl) (by kernel_rfl) (fun k hk => absurd hk (Nat.not_lt_zero k)) [4] q129_M2 (fun x => rfl) slices_IndexFunc__impl_replayed_1_D2_nat q129_K2 (fun i p R K => by rcases p with p | p <;> rfl) (fun i v => by kernel_rfl)

theorem q129_OK : EntOK Go.Proofs.Tryz.prog q129_Ent := ok_of q129_HC Go.Proofs.Tryz.func387 1 (by kernel_rfl) (fun k hk => match k, hk with | 0, _ => q129_lk2) (by kernel_rfl) (by kernel_rfl) (fun x => by kernel_rfl)

/-! slices.ContainsFunc[[]impl.ReadMark,impl.ReadMark] -/

noncomputable def q130_C : Cfg := { ti := g_tis, ents := [q129_Ent], ann := [], lent := 0 }

def q130_ti : Tmpl := ⟨(.slot (Ty.slice YReadMark) (.slot (Ty.fn 345 (Ty.prod (Ty.iref (Ty.slice Ty.i)) Ty.unit)) .nil)), .nil⟩

def q130_to : Tmpl := ⟨(.slot (Ty.bool) .nil), .nil⟩

noncomputable def slices_ContainsFunc__impl_replayed_1_S (x : List (Int × Int × Unit) × (Option (List Int) × Unit) × Unit) : Option (Bool × Unit) :=
  Option.bind (slices_IndexFunc__impl_replayed_1_S (x.1, x.2.1, ())) fun v => some (decide (v.1 ≥ 0), ())

noncomputable def q130_Ent : Ent := ⟨344, q130_ti, q130_to, slices_ContainsFunc__impl_replayed_1_S⟩

theorem q130_HC : CfgOK Go.Proofs.Tryz.prog q130_C := hc_of g_tisOK g_wide (all_cons q129_OK all_nil)

theorem q130_OK : EntOK Go.Proofs.Tryz.prog q130_Ent := ok_of q130_HC Go.Proofs.Tryz.func344 0 (by kernel_rfl) (fun k hk => absurd hk (Nat.not_lt_zero k)) (by kernel_rfl) (by kernel_rfl) (fun x => by kernel_rfl)

/-! impl.replayed -/

abbrev q131_I9 : Type := List (Int × Int × List (Int × Int × Unit) × List (Int × Int × Unit) × Unit) × List Int × Int × Int × List (Int × Int × Unit) × Int × Int × Int × List (Int × Int × Unit) × List (Int × Int × Unit) × Unit

abbrev q131_V9 : Type := Int × List Int × List Int × Unit

abbrev q131_Q9 : Type := List Int × List Int × Unit

noncomputable def impl_replayed_D9 (i : q131_I9) (v : q131_V9) (R : Type) (K : q131_V9 ⊕ q131_Q9 → Option R) : Option R :=
  bif decide (v.1 < i.2.2.2.2.2.1) then Option.bind (lAt i.2.2.2.2.1 v.1) fun v_1 => if 0 ≤ v_1.1 ∧ v_1.1 < (↑(List.length v.2.1) : Int) then Option.bind v.2.1[0 + Int.toNat v_1.1]? fun v_2 => if 0 ≤ v_1.1 ∧ v_1.1 < (↑(List.length v.2.2.1) :
  Int) then Option.bind v.2.2.1[0 + Int.toNat v_1.1]? fun v_3 => K (Sum.inl (IntKind.wrap IntKind.i64 (v.1 + 1), List.set v.2.1 (0 + Int.toNat v_1.1) v_1.2.1, List.set v.2.2.1 (0 + Int.toNat v_1.1) i.2.2.2.2.2.2.2.1, ())) else none else none
  else K (Sum.inr (v.2.1, v.2.2.1, ()))

theorem impl_replayed_D9_nat : NatD impl_replayed_D9 := fun i v R K => nat_bif (nat_bind fun _ => nat_ite (nat_bind fun _ => nat_ite (nat_bind fun _ => nat_some))) (nat_some)

def q131_T9 : Tmpl := ⟨(.slot (Ty.slice (Ty.prod Ty.i (Ty.prod Ty.i (Ty.prod (Ty.slice YReadMark) (Ty.prod (Ty.slice (Ty.prod Ty.i (Ty.prod Ty.i
  Ty.unit))) Ty.unit))))) (jk 5 (.own 0 (.ptr 1 0 0 (jk 2 (.ptr 3 0 0 (jk 5 (.slot (Ty.slice Ty.i) (.slot Ty.i (.slot Ty.i (jk 16 (.slot (Ty.slice YReadMark) (.slot Ty.i (.slot Ty.i (jk 18 .nil))))))))))))))), (.lst false Ty.i (.cells 1 (.own 2 .nil) (.lst false Ty.i (.cells 4 (.slot Ty.i (.slot Ty.i (.slot (Ty.slice YReadMark) (.slot (Ty.slice YReadMark) .nil)))) .nil))))⟩

def q131_X9_0 (i : q131_I9) (p : List Int × List Int × Unit) : St := ⟨AV.pv (Ty.slice (Ty.prod Ty.i (Ty.prod Ty.i (Ty.prod (Ty.slice YReadMark) (Ty.prod (Ty.slice (Ty.prod Ty.i (Ty.prod (Ty.int
  IntKind.i64) Ty.unit))) Ty.unit))))) i.1 :: jn 5 (AV.own 0 none none :: AV.ptr 1 none 0 0 :: jn 8 (AV.pv (Ty.slice Ty.i) i.2.1 :: .n (i.2.2.1) :: .n (i.2.2.2.1) :: jn 37 ([]))), [some (Cont.lst false Ty.i
  p.1), some (Cont.cells 1 [[AV.own 2 none none]]), some (Cont.lst false Ty.i p.2.1), some (Cont.cells 4 [[AV.pv Ty.i i.2.2.2.2.2.2.1, AV.pv Ty.i i.2.2.2.2.2.2.2.1, AV.pv (Ty.slice (Ty.prod
  Ty.i (Ty.prod Ty.i Ty.unit))) i.2.2.2.2.2.2.2.2.1, AV.pv (Ty.slice YReadMark) i.2.2.2.2.2.2.2.2.2.1]])]⟩

noncomputable def q131_E9 (i : q131_I9) (p : q131_Q9) (R : Type) (K : Ex → St → Option R) : Option R := K (Ex.exit 2) (q131_X9_0 i p)

noncomputable def q131_K9 (i : q131_I9) (p : q131_Q9) : Ex × St := (Ex.exit 2, q131_X9_0 i p)

def q131_M9 (i : q131_I9) (v : q131_V9) : den q131_T9.ty := (i.1, i.2.1, i.2.2.1, i.2.2.2.1, i.2.2.2.2.1, i.2.2.2.2.2.1, v.1, v.2.1, v.2.2.1, i.2.2.2.2.2.2.1, i.2.2.2.2.2.2.2.1, i.2.2.2.2.2.2.2.2.1, i.2.2.2.2.2.2.2.2.2.1, ())

def q131_P9 (x : den q131_T9.ty) : q131_I9 × q131_V9 := ((x.1, x.2.1, x.2.2.1, x.2.2.2.1, x.2.2.2.2.1, x.2.2.2.2.2.1, x.2.2.2.2.2.2.2.2.2.1, x.2.2.2.2.2.2.2.2.2.2.1, x.2.2.2.2.2.2.2.2.2.2.2.1, x.2.2.2.2.2.2.2.2.2.2.2.2.1, ()), (x.2.2.2.2.2.2.1, x.2.2.2.2.2.2.2.1, x.2.2.2.2.2.2.2.2.1, ()))

abbrev q131_I3 : Type := List (Int × Int × List (Int × Int × Unit) × List (Int × Int × Unit) × Unit) × List Int × Int × Unit

abbrev q131_V3 : Type := Int × List Int × List Int × Unit

abbrev q131_Q3 : Type := Int × List Int × List Int × Int × Int × List (Int × Int × Unit) × List (Int × Int × Unit) × Unit ⊕ List Int × List Int × Unit

noncomputable def impl_replayed_D3 (i : q131_I3) (v : q131_V3) (R : Type) (K : q131_V3 ⊕ q131_Q3 → Option R) : Option R :=
  bif decide (v.1 < i.2.2.1) then Option.bind (lAt i.2.1 v.1) fun v_1 => Option.bind (impl_FindEntry_S (i.1, v_1, ())) fun v_2 => Option.bind (lAt i.1 v_2.1) fun v_3 => Option.bind (slices_ContainsFunc__impl_replayed_1_S (v_3.2.2.1, (some
  v.2.2.1, ()), ())) fun v_4 => bif v_4.1 then K (Sum.inr (Sum.inl (v.1, v.2.1, v.2.2.1, v_3.1, v_3.2.1, v_3.2.2.1, v_3.2.2.2.1, ()))) else Option.bind (iter (fun v_5 => impl_replayed_D9 (i.1, i.2.1, i.2.2.1, v.1, v_3.2.2.2.1, (↑(List.length
  v_3.2.2.2.1) : Int), v_3.1, v_3.2.1, v_3.2.2.1, v_3.2.2.2.1, ()) v_5 _ some) (0, v.2.1, v.2.2.1, ())) fun p => K (Sum.inl (IntKind.wrap IntKind.i64 (v.1 + 1), p.1, p.2.1, ())) else K (Sum.inr (Sum.inr (v.2.1, v.2.2.1, ())))

theorem impl_replayed_D3_nat : NatD impl_replayed_D3 := fun i v R K => nat_bif (nat_bind fun _ => nat_bind fun _ => nat_bind fun _ => nat_bind fun _ => nat_bif (nat_some) (nat_bind fun _ => nat_some)) (nat_some)

def q131_T3 : Tmpl := ⟨(.slot (Ty.slice (Ty.prod Ty.i (Ty.prod Ty.i (Ty.prod (Ty.slice YReadMark) (Ty.prod (Ty.slice (Ty.prod Ty.i (Ty.prod Ty.i
  Ty.unit))) Ty.unit))))) (jk 5 (.own 0 (.ptr 1 0 0 (jk 8 (.slot (Ty.slice Ty.i) (.slot Ty.i (.slot Ty.i (jk 37 .nil))))))))), (.lst false Ty.i (.cells 1 (.own 2 .nil) (.lst false Ty.i .nil)))⟩

def q131_X3_0 (i : q131_I3) (p : Int × List Int × List Int × Int × Int × List (Int × Int × Unit) × List (Int × Int × Unit) × Unit) : St := ⟨jn 4 (AV.nils :: .n (p.1) :: AV.own 0 none none :: jn 49 ([])), [some (Cont.lst false Ty.i p.2.1), some (Cont.cells 1 [[AV.own 2 none none]]), some (Cont.lst false Ty.i p.2.2.1), some (Cont.cells 4 [[AV.pv
  Ty.i p.2.2.2.1, AV.pv Ty.i p.2.2.2.2.1, AV.pv (Ty.slice YReadMark) p.2.2.2.2.2.1, AV.pv (Ty.slice (Ty.prod Ty.i (Ty.prod (Ty.int
  IntKind.i64) Ty.unit))) p.2.2.2.2.2.2.1]])]⟩

def q131_X3_1 (i : q131_I3) (p : List Int × List Int × Unit) : St := ⟨jn 6 (AV.own 0 none none :: jn 49 ([])), [some (Cont.lst false Ty.i p.1), some (Cont.cells 1 [[AV.own 2 none none]]), some (Cont.lst false Ty.i p.2.1)]⟩

noncomputable def q131_E3 (i : q131_I3) (p : q131_Q3) (R : Type) (K : Ex → St → Option R) : Option R := sumC p (fun p => K (Ex.ret) (q131_X3_0 i p)) fun p => K (Ex.exit 0) (q131_X3_1 i p)

noncomputable def q131_K3 (i : q131_I3) (p : q131_Q3) : Ex × St := sumC p (fun p => (Ex.ret, q131_X3_0 i p)) fun p => (Ex.exit 0, q131_X3_1 i p)

def q131_M3 (i : q131_I3) (v : q131_V3) : den q131_T3.ty := (i.1, i.2.1, i.2.2.1, v.1, v.2.1, v.2.2.1, ())

def q131_P3 (x : den q131_T3.ty) : q131_I3 × q131_V3 := ((x.1, x.2.1, x.2.2.1, ()), (x.2.2.2.1, x.2.2.2.2.1, x.2.2.2.2.2.1, ()))

noncomputable def q131_C : Cfg := { ti := g_tis, ents := [q127_Ent, q48_Ent, q130_Ent], ann := [(9, loopFn q131_T9 0 q131_P9 impl_replayed_D9 q131_E9), (3, loopFn q131_T3 0 q131_P3 impl_replayed_D3 q131_E3)], lent := 0, hid := [((11, 3), [0]), ((11, 4), [0]), ((11, 5), [0]), ((11, 8), [0]), ((11, 9), [0])] }

def q131_ti : Tmpl := ⟨(.slot (Ty.slice (Ty.prod Ty.i (Ty.prod Ty.i (Ty.prod (Ty.slice YReadMark) (Ty.prod (Ty.slice (Ty.prod Ty.i (Ty.prod Ty.i
  Ty.unit))) Ty.unit))))) (.slot (Ty.slice Ty.i) .nil)), .nil⟩

def q131_to : Tmpl := ⟨(.own 0 (.slot Ty.i .nil)), (.lst false Ty.i .nil)⟩

noncomputable def impl_replayed_S (x : List (Int × Int × List (Int × Int × Unit) × List (Int × Int × Unit) × Unit) × List Int × Unit) : Option (Int × List Int × Unit) :=
  Option.bind (slices_Repeat_int_S ([-1], 6, ())) fun v => Option.bind (iter (fun v => impl_replayed_D3 (x.1, x.2.1, (↑(List.length x.2.1) : Int), ()) v _ some) (0, v.1, List.replicate (Int.toNat 6) 0, ())) fun p => sumC p (fun p =>
  some (p.1, [], ())) fun p => some (-1, p.1, ())

noncomputable def q131_Ent : Ent := ⟨282, q131_ti, q131_to, impl_replayed_S⟩

theorem q131_HC : CfgOK Go.Proofs.Tryz.prog q131_C := hc_of g_tisOK g_wide (all_cons q127_OK (all_cons q48_OK (all_cons q130_OK all_nil)))

theorem q131_lk9 : LkOK Go.Proofs.Tryz.prog q131_C (lpc Go.Proofs.Tryz.f282 1) :=
  lk_of q131_HC (m := 0) (T := q131_T9) (sp := q131_P9) (D := impl_replayed_D9) (E := q131_E9) (by kernel_rfl) (by kernel_rfl) (fun k hk => absurd hk (Nat.not_lt_zero k)) [0, 6, 7, 16, 17, 18] q131_M9 (fun x => rfl) impl_replayed_D9_nat q131_K9 (fun i p R K => rfl) (fun i v => by kernel_rfl)

theorem q131_lk3 : LkOK Go.Proofs.Tryz.prog q131_C (lpc Go.Proofs.Tryz.f282 0) :=
  lk_of q131_HC (m := 1) (T := q131_T3) (sp := q131_P3) (D := impl_replayed_D3) (E := q131_E3) (by kernel_rfl) (by kernel_rfl) (fun k hk => match k, hk with | 0, _ => lk_at (by kernel_rfl) q131_lk9) [4, 5, 6] q131_M3 (fun x => rfl) impl_replayed_D3_nat q131_K3 (fun i p R K => by rcases p with p | p <;> rfl) (fun i v => by kernel_rfl)

theorem q131_OK : EntOK Go.Proofs.Tryz.prog q131_Ent := ok_of q131_HC Go.Proofs.Tryz.func282 2 (by kernel_rfl) (fun k hk => match k, hk with | 0, _ => q131_lk3 | 1, _ => q131_lk9) (by kernel_rfl) (by kernel_rfl) (fun x => by kernel_rfl)

/-! impl.ReplaySerial -/

noncomputable def q132_C : Cfg := { ti := g_tis, ents := [q54_Ent, q123_Ent, q131_Ent], ann := [], lent := 0 }

def q132_ti : Tmpl := ⟨(.slot (Ty.slice (Ty.prod Ty.i (Ty.prod Ty.i (Ty.prod (Ty.slice YReadMark) (Ty.prod (Ty.slice (Ty.prod Ty.i (Ty.prod Ty.i
  Ty.unit))) Ty.unit))))) (.slot (Ty.slice Ty.i) .nil)), .nil⟩

def q132_to : Tmpl := ⟨(.own 0 (.slot (Ty.bool) .nil)), (.lst false Ty.i .nil)⟩

noncomputable def impl_ReplaySerial_S (x : List (Int × Int × List (Int × Int × Unit) × List (Int × Int × Unit) × Unit) × List Int × Unit) : Option (Bool × List Int × Unit) :=
  Option.bind (impl_IsHistory_S (x.1, ())) fun v => bif !v.1 then some (false, [], ()) else Option.bind (impl_isOrder_S (x.1, x.2.1, ())) fun v => bif !v.1 then some (false, [], ()) else Option.bind (impl_replayed_S (x.1, x.2.1, ())) fun v =>
  some (decide (v.1 < 0), v.2.1, ())

noncomputable def q132_Ent : Ent := ⟨175, q132_ti, q132_to, impl_ReplaySerial_S⟩

theorem q132_HC : CfgOK Go.Proofs.Tryz.prog q132_C := hc_of g_tisOK g_wide (all_cons q54_OK (all_cons q123_OK (all_cons q131_OK all_nil)))

theorem q132_OK : EntOK Go.Proofs.Tryz.prog q132_Ent := ok_of q132_HC Go.Proofs.Tryz.func175 0 (by kernel_rfl) (fun k hk => absurd hk (Nat.not_lt_zero k)) (by kernel_rfl) (by kernel_rfl) (fun x => by kernel_rfl)

/-! impl.FinalState -/

abbrev q133_I8 : Type := List (Int × Int × List (Int × Int × Unit) × List (Int × Int × Unit) × Unit) × Int × Int × List (Int × Int × Unit) × Int × Unit

abbrev q133_V8 : Type := Int × List Int × Unit

abbrev q133_Q8 : Type := List Int × Unit

noncomputable def impl_FinalState_D8 (i : q133_I8) (v : q133_V8) (R : Type) (K : q133_V8 ⊕ q133_Q8 → Option R) : Option R :=
  bif decide (v.1 < i.2.2.2.2.1) then Option.bind (lAt i.2.2.2.1 v.1) fun v_1 => if 0 ≤ v_1.1 ∧ v_1.1 < (↑(List.length v.2.1) : Int) then Option.bind v.2.1[0 + Int.toNat v_1.1]? fun v_2 => K (Sum.inl (IntKind.wrap IntKind.i64 (v.1 + 1),
  List.set v.2.1 (0 + Int.toNat v_1.1) v_1.2.1, ())) else none else K (Sum.inr (v.2.1, ()))

theorem impl_FinalState_D8_nat : NatD impl_FinalState_D8 := fun i v R K => nat_bif (nat_bind fun _ => nat_ite (nat_bind fun _ => nat_some)) (nat_some)

def q133_T8 : Tmpl := ⟨(jk 3 (.own 0 (jk 9 (.slot (Ty.slice (Ty.prod Ty.i (Ty.prod Ty.i (Ty.prod (Ty.slice YReadMark) (Ty.prod (Ty.slice (Ty.prod Ty.i (Ty.prod Ty.i
  Ty.unit))) Ty.unit))))) (.slot Ty.i (.slot Ty.i (jk 4 (.slot (Ty.slice YReadMark) (.slot Ty.i (.slot Ty.i (jk 12 .nil))))))))))), (.lst false Ty.i .nil)⟩

def q133_X8_0 (i : q133_I8) (p : List Int × Unit) : St := ⟨jn 3 (AV.own 0 none none :: jn 9 (AV.pv (Ty.slice (Ty.prod Ty.i (Ty.prod Ty.i (Ty.prod (Ty.slice YReadMark) (Ty.prod (Ty.slice (Ty.prod (Ty.int
  IntKind.i64) (Ty.prod Ty.i Ty.unit))) Ty.unit))))) i.1 :: .n (i.2.1) :: .n (i.2.2.1) :: jn 19 ([]))), [some (Cont.lst false Ty.i p.1)]⟩

noncomputable def q133_E8 (i : q133_I8) (p : q133_Q8) (R : Type) (K : Ex → St → Option R) : Option R := K (Ex.exit 2) (q133_X8_0 i p)

noncomputable def q133_K8 (i : q133_I8) (p : q133_Q8) : Ex × St := (Ex.exit 2, q133_X8_0 i p)

def q133_M8 (i : q133_I8) (v : q133_V8) : den q133_T8.ty := (i.1, i.2.1, i.2.2.1, i.2.2.2.1, i.2.2.2.2.1, v.1, v.2.1, ())

def q133_P8 (x : den q133_T8.ty) : q133_I8 × q133_V8 := ((x.1, x.2.1, x.2.2.1, x.2.2.2.1, x.2.2.2.2.1, ()), (x.2.2.2.2.2.1, x.2.2.2.2.2.2.1, ()))

abbrev q133_I5 : Type := List (Int × Int × List (Int × Int × Unit) × List (Int × Int × Unit) × Unit) × Int × Unit

abbrev q133_V5 : Type := Int × List Int × Unit

abbrev q133_Q5 : Type := List Int × Unit

noncomputable def impl_FinalState_D5 (i : q133_I5) (v : q133_V5) (R : Type) (K : q133_V5 ⊕ q133_Q5 → Option R) : Option R :=
  bif decide (v.1 < i.2.1) then Option.bind (lAt i.1 v.1) fun v_1 => Option.bind (iter (fun v_2 => impl_FinalState_D8 (i.1, i.2.1, v.1, v_1.2.2.2.1, (↑(List.length v_1.2.2.2.1) : Int), ()) v_2 _ some) (0, v.2.1, ())) fun p => K
  (Sum.inl (IntKind.wrap IntKind.i64 (v.1 + 1), p.1, ())) else K (Sum.inr (v.2.1, ()))

theorem impl_FinalState_D5_nat : NatD impl_FinalState_D5 := fun i v R K => nat_bif (nat_bind fun _ => nat_bind fun _ => nat_some) (nat_some)

def q133_T5 : Tmpl := ⟨(jk 3 (.own 0 (jk 9 (.slot (Ty.slice (Ty.prod Ty.i (Ty.prod Ty.i (Ty.prod (Ty.slice YReadMark) (Ty.prod (Ty.slice (Ty.prod Ty.i (Ty.prod Ty.i
  Ty.unit))) Ty.unit))))) (.slot Ty.i (.slot Ty.i (jk 19 .nil))))))), (.lst false Ty.i .nil)⟩

def q133_X5_0 (i : q133_I5) (p : List Int × Unit) : St := ⟨jn 3 (AV.own 0 none none :: jn 31 ([])), [some (Cont.lst false Ty.i p.1)]⟩

noncomputable def q133_E5 (i : q133_I5) (p : q133_Q5) (R : Type) (K : Ex → St → Option R) : Option R := K (Ex.exit 0) (q133_X5_0 i p)

noncomputable def q133_K5 (i : q133_I5) (p : q133_Q5) : Ex × St := (Ex.exit 0, q133_X5_0 i p)

def q133_M5 (i : q133_I5) (v : q133_V5) : den q133_T5.ty := (i.1, i.2.1, v.1, v.2.1, ())

def q133_P5 (x : den q133_T5.ty) : q133_I5 × q133_V5 := ((x.1, x.2.1, ()), (x.2.2.1, x.2.2.2.1, ()))

noncomputable def q133_C : Cfg := { ti := g_tis, ents := [q54_Ent, q127_Ent], ann := [(8, loopFn q133_T8 0 q133_P8 impl_FinalState_D8 q133_E8), (5, loopFn q133_T5 0 q133_P5 impl_FinalState_D5 q133_E5)], lent := 0 }

def q133_ti : Tmpl := ⟨(.slot (Ty.slice (Ty.prod Ty.i (Ty.prod Ty.i (Ty.prod (Ty.slice YReadMark) (Ty.prod (Ty.slice (Ty.prod Ty.i (Ty.prod Ty.i
  Ty.unit))) Ty.unit))))) .nil), .nil⟩

def q133_to : Tmpl := ⟨(.own 0 .nil), (.lst false Ty.i .nil)⟩

noncomputable def impl_FinalState_S (x : List (Int × Int × List (Int × Int × Unit) × List (Int × Int × Unit) × Unit) × Unit) : Option (List Int × Unit) :=
  Option.bind (impl_IsHistory_S (x.1, ())) fun v => bif !v.1 then some ([], ()) else Option.bind (slices_Repeat_int_S ([-1], 6, ())) fun v => Option.bind (iter (fun v => impl_FinalState_D5 (x.1, (↑(List.length x.1) : Int), ()) v _
  some) (0, v.1, ())) fun p => some (p.1, ())

noncomputable def q133_Ent : Ent := ⟨177, q133_ti, q133_to, impl_FinalState_S⟩

theorem q133_HC : CfgOK Go.Proofs.Tryz.prog q133_C := hc_of g_tisOK g_wide (all_cons q54_OK (all_cons q127_OK all_nil))

theorem q133_lk8 : LkOK Go.Proofs.Tryz.prog q133_C (lpc Go.Proofs.Tryz.f177 1) :=
  lk_of q133_HC (m := 0) (T := q133_T8) (sp := q133_P8) (D := impl_FinalState_D8) (E := q133_E8) (by kernel_rfl) (by kernel_rfl) (fun k hk => absurd hk (Nat.not_lt_zero k)) [3, 13, 14, 15] q133_M8 (fun x => rfl) impl_FinalState_D8_nat q133_K8 (fun i p R K => rfl) (fun i v => by kernel_rfl)

theorem q133_lk5 : LkOK Go.Proofs.Tryz.prog q133_C (lpc Go.Proofs.Tryz.f177 0) :=
  lk_of q133_HC (m := 1) (T := q133_T5) (sp := q133_P5) (D := impl_FinalState_D5) (E := q133_E5) (by kernel_rfl) (by kernel_rfl) (fun k hk => match k, hk with | 0, _ => lk_at (by kernel_rfl) q133_lk8) [3] q133_M5 (fun x => rfl) impl_FinalState_D5_nat q133_K5 (fun i p R K => rfl) (fun i v => by kernel_rfl)

theorem q133_OK : EntOK Go.Proofs.Tryz.prog q133_Ent := ok_of q133_HC Go.Proofs.Tryz.func177 2 (by kernel_rfl) (fun k hk => match k, hk with | 0, _ => q133_lk5 | 1, _ => q133_lk8) (by kernel_rfl) (by kernel_rfl) (fun x => by kernel_rfl)

/-! slices.Equal[[]int,int] -/

abbrev q134_I4 : Type := List Int × List Int × Int × Unit

abbrev q134_V4 : Type := Int × Unit

abbrev q134_Q4 : Type := Unit ⊕ Unit

noncomputable def slices_Equal_int_D4 (i : q134_I4) (v : q134_V4) (R : Type) (K : q134_V4 ⊕ q134_Q4 → Option R) : Option R :=
  bif decide (v.1 < i.2.2.1) then Option.bind (lAt i.1 v.1) fun v_1 => Option.bind (lAt i.2.1 v.1) fun v_2 => bif v_1 != v_2 then K (Sum.inr (Sum.inl ())) else K (Sum.inl (IntKind.wrap IntKind.i64 (v.1 + 1), ())) else K (Sum.inr (Sum.inr ()))

theorem slices_Equal_int_D4_nat : NatD slices_Equal_int_D4 := fun i v R K => nat_bif (nat_bind fun _ => nat_bind fun _ => nat_bif (nat_some) (nat_some)) (nat_some)

def q134_T4 : Tmpl := ⟨(.slot (Ty.slice Ty.i) (.slot (Ty.slice Ty.i) (jk 10 (.slot Ty.i (.slot Ty.i (jk 12 .nil)))))), .nil⟩

def q134_X4_0 (i : q134_I4) (p : Unit) : St := ⟨jn 4 (.b (false) :: jn 21 ([])), []⟩

def q134_X4_1 (i : q134_I4) (p : Unit) : St := ⟨jn 26 ([]), []⟩

noncomputable def q134_E4 (i : q134_I4) (p : q134_Q4) (R : Type) (K : Ex → St → Option R) : Option R := sumC p (fun p => K (Ex.ret) (q134_X4_0 i p)) fun p => K (Ex.exit 0) (q134_X4_1 i p)

noncomputable def q134_K4 (i : q134_I4) (p : q134_Q4) : Ex × St := sumC p (fun p => (Ex.ret, q134_X4_0 i p)) fun p => (Ex.exit 0, q134_X4_1 i p)

def q134_M4 (i : q134_I4) (v : q134_V4) : den q134_T4.ty := (i.1, i.2.1, i.2.2.1, v.1, ())

def q134_P4 (x : den q134_T4.ty) : q134_I4 × q134_V4 := ((x.1, x.2.1, x.2.2.1, ()), (x.2.2.2.1, ()))

noncomputable def q134_C : Cfg := { ti := g_tis, ents := [], ann := [(4, loopFn q134_T4 0 q134_P4 slices_Equal_int_D4 q134_E4)], lent := 0 }

def q134_ti : Tmpl := ⟨(.slot (Ty.slice Ty.i) (.slot (Ty.slice Ty.i) .nil)), .nil⟩

def q134_to : Tmpl := ⟨(.slot (Ty.bool) .nil), .nil⟩

noncomputable def slices_Equal_int_S (x : List Int × List Int × Unit) : Option (Bool × Unit) :=
  bif (↑(List.length x.1) : Int) != (↑(List.length x.2.1) : Int) then some (false, ()) else Option.bind (iter (fun v => slices_Equal_int_D4 (x.1, x.2.1, (↑(List.length x.1) : Int), ()) v _ some) (0, ())) fun p => sumC p (fun p =>
  some (false, ())) fun p => some (true, ())

noncomputable def q134_Ent : Ent := ⟨176, q134_ti, q134_to, slices_Equal_int_S⟩

theorem q134_HC : CfgOK Go.Proofs.Tryz.prog q134_C := hc_of g_tisOK g_wide all_nil

theorem q134_lk4 : LkOK Go.Proofs.Tryz.prog q134_C (lpc Go.Proofs.Tryz.f176 0) :=
  lk_of q134_HC (m := 0) (T := q134_T4) (sp := q134_P4) (D := slices_Equal_int_D4) (E := q134_E4) (by kernel_rfl) (by kernel_rfl) (fun k hk => absurd hk (Nat.not_lt_zero k)) [4] q134_M4 (fun x => rfl) slices_Equal_int_D4_nat q134_K4 (fun i p R K => by rcases p with p | p <;> rfl) (fun i v => by kernel_rfl)

theorem q134_OK : EntOK Go.Proofs.Tryz.prog q134_Ent := ok_of q134_HC Go.Proofs.Tryz.func176 1 (by kernel_rfl) (fun k hk => match k, hk with | 0, _ => q134_lk4) (by kernel_rfl) (by kernel_rfl) (fun x => by kernel_rfl)

/-! impl.IsEquivalent -/

noncomputable def q135_C : Cfg := { ti := g_tis, ents := [q132_Ent, q133_Ent, q134_Ent], ann := [], lent := 0 }

def q135_ti : Tmpl := ⟨(.slot (Ty.slice (Ty.prod Ty.i (Ty.prod Ty.i (Ty.prod (Ty.slice YReadMark) (Ty.prod (Ty.slice (Ty.prod Ty.i (Ty.prod Ty.i
  Ty.unit))) Ty.unit))))) (.slot (Ty.slice Ty.i) .nil)), .nil⟩

def q135_to : Tmpl := ⟨(.slot (Ty.bool) .nil), .nil⟩

noncomputable def impl_IsEquivalent_S (x : List (Int × Int × List (Int × Int × Unit) × List (Int × Int × Unit) × Unit) × List Int × Unit) : Option (Bool × Unit) :=
  Option.bind (impl_ReplaySerial_S (x.1, x.2.1, ())) fun v => bif v.1 then Option.bind (impl_FinalState_S (x.1, ())) fun v_1 => Option.bind (slices_Equal_int_S (v.2.1, v_1.1, ())) fun v => some (v.1, ()) else some (false, ())

noncomputable def q135_Ent : Ent := ⟨82, q135_ti, q135_to, impl_IsEquivalent_S⟩

theorem q135_HC : CfgOK Go.Proofs.Tryz.prog q135_C := hc_of g_tisOK g_wide (all_cons q132_OK (all_cons q133_OK (all_cons q134_OK all_nil)))

theorem q135_OK : EntOK Go.Proofs.Tryz.prog q135_Ent := ok_of q135_HC Go.Proofs.Tryz.func82 0 (by kernel_rfl) (fun k hk => absurd hk (Nat.not_lt_zero k)) (by kernel_rfl) (by kernel_rfl) (fun x => by kernel_rfl)

/-! impl.CheckReport -/

noncomputable def q136_C : Cfg := { ti := g_tis, ents := [q54_Ent, q60_Ent, q78_Ent, q90_Ent, q124_Ent, q135_Ent], ann := [], lent := 0 }

def q136_ti : Tmpl := ⟨(.slot (Ty.slice (Ty.prod Ty.i (Ty.prod Ty.i (Ty.prod (Ty.slice YReadMark) (Ty.prod (Ty.slice (Ty.prod Ty.i (Ty.prod Ty.i
  Ty.unit))) Ty.unit))))) (.slot YReport .nil)), .nil⟩

def q136_to : Tmpl := ⟨(.slot (Ty.bool) .nil), .nil⟩

noncomputable def impl_CheckReport_S (x : List (Int × Int × List (Int × Int × Unit) × List (Int × Int × Unit) × Unit) × (List Int × List Int × Int × Unit) × Unit) : Option (Bool × Unit) :=
  Option.bind (impl_IsHistory_S (x.1, ())) fun v => bif !v.1 then some (false, ()) else bif decide ((↑(List.length x.2.1.2.1) : Int) > 0) then bif (↑(List.length x.2.1.1) : Int) == 0 then Option.bind (impl_graph_S (x.1, ())) fun v =>
  Option.bind (impl_CheckCycle_S (v.1, x.2.1.2.1, ())) fun v => bif v.1 then Option.bind (impl_ClassifyCycle_S (x.1, x.2.1.2.1, ())) fun v => some (x.2.1.2.2.1 == v.1, ()) else some (false, ()) else some (false, ()) else bif x.2.1.2.2.1 == 0
  then Option.bind (impl_IsSerialOrder_S (x.1, x.2.1.1, ())) fun v => bif v.1 then Option.bind (impl_IsEquivalent_S (x.1, x.2.1.1, ())) fun v => some (v.1, ()) else some (false, ()) else some (false, ())

noncomputable def q136_Ent : Ent := ⟨23, q136_ti, q136_to, impl_CheckReport_S⟩

theorem q136_HC : CfgOK Go.Proofs.Tryz.prog q136_C := hc_of g_tisOK g_wide (all_cons q54_OK (all_cons q60_OK (all_cons q78_OK (all_cons q90_OK (all_cons q124_OK (all_cons q135_OK all_nil))))))

theorem q136_OK : EntOK Go.Proofs.Tryz.prog q136_Ent := ok_of q136_HC Go.Proofs.Tryz.func23 0 (by kernel_rfl) (fun k hk => absurd hk (Nat.not_lt_zero k)) (by kernel_rfl) (by kernel_rfl) (fun x => by kernel_rfl)

/-! laws.FnExactCheckReport -/

noncomputable def q137_C : Cfg := { ti := g_tis, ents := [q3_Ent, q110_Ent, q9_Ent, q112_Ent, q119_Ent, q136_Ent, q100_Ent, q94_Ent], ann := [], lent := 0 }

def q137_ti : Tmpl := ⟨(.slot (Ty.slice (Ty.prod Ty.i (Ty.prod Ty.i (Ty.prod (Ty.slice YReadMark) (Ty.prod (Ty.slice (Ty.prod Ty.i (Ty.prod Ty.i
  Ty.unit))) Ty.unit))))) (.slot YReport .nil)), .nil⟩

def q137_to : Tmpl := ⟨(.slot (Ty.bool) .nil), .nil⟩

noncomputable def laws_FnExactCheckReport_S (x : List (Int × Int × List (Int × Int × Unit) × List (Int × Int × Unit) × Unit) × (List Int × List Int × Int × Unit) × Unit) : Option (Bool × Unit) :=
  Option.bind (laws_szEntryS_S (x.1, 1048576, ())) fun v => bif decide (v.1 < 0) then some (true, ()) else Option.bind (laws_szReport_S ((x.2.1.1, x.2.1.2.1, x.2.1.2.2.1, ()), v.1, ())) fun v => bif decide (v.1 < 0) then some (true, ()) else
  Option.bind (laws_toEntryS_S (x.1, ())) fun v => Option.bind (laws_toReport_S ((x.2.1.1, x.2.1.2.1, x.2.1.2.2.1, ()), ())) fun v_1 => Option.bind (spec_CheckReport_S (v.1, (v_1.2.1, v_1.2.2.1, v_1.1, ()), ())) fun v => Option.bind
  (laws_toEntryS_S (x.1, ())) fun v_2 => Option.bind (laws_toReport_S ((x.2.1.1, x.2.1.2.1, x.2.1.2.2.1, ()), ())) fun v_3 => Option.bind (impl_CheckReport_S (v_2.1, (v_3.2.1, v_3.2.2.1, v_3.1, ()), ())) fun v_4 => bif !v_4.1 == v.1 then some
  (false, ()) else Option.bind (laws_toEntryS_S (x.1, ())) fun v => Option.bind (laws_eqEntryS_S (v_2.1, v.1, ())) fun v => bif !v.1 then some (false, ()) else Option.bind (laws_toReport_S ((x.2.1.1, x.2.1.2.1, x.2.1.2.2.1, ()), ())) fun v =>
  Option.bind (laws_eqReport_S ((v_3.2.1, v_3.2.2.1, v_3.1, ()), (v.2.1, v.2.2.1, v.1, ()), ())) fun v => bif !v.1 then some (false, ()) else some (true, ())

noncomputable def q137_Ent : Ent := ⟨4, q137_ti, q137_to, laws_FnExactCheckReport_S⟩

theorem q137_HC : CfgOK Go.Proofs.Tryz.prog q137_C := hc_of g_tisOK g_wide (all_cons q3_OK (all_cons q110_OK (all_cons q9_OK (all_cons q112_OK (all_cons q119_OK (all_cons q136_OK (all_cons q100_OK (all_cons q94_OK all_nil))))))))

theorem q137_OK : EntOK Go.Proofs.Tryz.prog q137_Ent := ok_of q137_HC Go.Proofs.Tryz.func4 0 (by kernel_rfl) (fun k hk => absurd hk (Nat.not_lt_zero k)) (by kernel_rfl) (by kernel_rfl) (fun x => by kernel_rfl)

theorem laws_FnExactCheckReport_OK : EntOK Go.Proofs.Tryz.prog q137_Ent := q137_OK

end Go.Ab
