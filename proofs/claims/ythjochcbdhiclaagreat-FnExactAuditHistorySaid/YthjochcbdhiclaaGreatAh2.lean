import Derived.Test.YthjochcbdhiclaaGreatAh1
set_option maxRecDepth 100000
set_option linter.unusedVariables false
namespace Go.Ab

/-! slices.Contains[[]int,int] -/

noncomputable def q62_C : Cfg := { ti := g_tis, ents := [q61_Ent], ann := [], lent := 0 }

def q62_ti : Tmpl := ⟨(.slot (Ty.slice Ty.i) (.slot Ty.i .nil)), .nil⟩

def q62_to : Tmpl := ⟨(.slot (Ty.bool) .nil), .nil⟩

noncomputable def slices_Contains_int_S (x : List Int × Int × Unit) : Option (Bool × Unit) :=
  Option.bind (slices_Index_int_S (x.1, x.2.1, ())) fun v => some (decide (v.1 ≥ 0), ())

noncomputable def q62_Ent : Ent := ⟨145, q62_ti, q62_to, slices_Contains_int_S⟩

theorem q62_HC : CfgOK Go.Proofs.Tryz.prog q62_C := hc_of g_tisOK g_wide (all_cons q61_OK all_nil)

theorem q62_OK : EntOK Go.Proofs.Tryz.prog q62_Ent := ok_of q62_HC Go.Proofs.Tryz.func145 0 (by kernel_rfl) (fun k hk => absurd hk (Nat.not_lt_zero k)) (by kernel_rfl) (by kernel_rfl) (fun x => by kernel_rfl)

/-! impl.isReady$1 -/

noncomputable def q63_C : Cfg := { ti := g_tis, ents := [q62_Ent], ann := [], lent := 0 }

def q63_ti : Tmpl := ⟨(.slot YEdge (.slot (Ty.iref Ty.i) (.slot (Ty.iref (Ty.slice Ty.i)) .nil))), .nil⟩

def q63_to : Tmpl := ⟨(.slot (Ty.bool) .nil), .nil⟩

noncomputable def impl_isReady_1_S (x : (Int × Int × Int × Int × Unit) × Option Int × Option (List Int) × Unit) : Option (Bool × Unit) :=
  Option.bind x.2.1 fun v => bif x.1.2.1 == v then Option.bind x.2.2.1 fun v => Option.bind (slices_Contains_int_S (v, x.1.1, ())) fun v => some (!v.1, ()) else some (false, ())

noncomputable def q63_Ent : Ent := ⟨265, q63_ti, q63_to, impl_isReady_1_S⟩

theorem q63_HC : CfgOK Go.Proofs.Tryz.prog q63_C := hc_of g_tisOK g_wide (all_cons q62_OK all_nil)

theorem q63_OK : EntOK Go.Proofs.Tryz.prog q63_Ent := ok_of q63_HC Go.Proofs.Tryz.func265 0 (by kernel_rfl) (fun k hk => absurd hk (Nat.not_lt_zero k)) (by kernel_rfl) (by kernel_rfl) (fun x => by kernel_rfl)

/-! slices.IndexFunc[[]impl.Edge,impl.Edge] -/

abbrev q64_I2 : Type := List (Int × Int × Int × Int × Unit) × (Option Int × Option (List Int) × Unit) × Int × Unit

abbrev q64_V2 : Type := Int × Unit

abbrev q64_Q2 : Type := Int × Unit ⊕ Unit

noncomputable def slices_IndexFunc__impl_isReady_1_D2 (i : q64_I2) (v : q64_V2) (R : Type) (K : q64_V2 ⊕ q64_Q2 → Option R) : Option R :=
  bif decide (v.1 < i.2.2.1) then Option.bind (lAt i.1 v.1) fun v_1 => Option.bind (impl_isReady_1_S ((v_1.1, v_1.2.1, v_1.2.2.1, v_1.2.2.2.1, ()), i.2.1.1, i.2.1.2.1, ())) fun v_2 => bif v_2.1 then K (Sum.inr (Sum.inl (v.1, ()))) else K
  (Sum.inl (IntKind.wrap IntKind.i64 (v.1 + 1), ())) else K (Sum.inr (Sum.inr ()))

theorem slices_IndexFunc__impl_isReady_1_D2_nat : NatD slices_IndexFunc__impl_isReady_1_D2 := fun i v R K => nat_bif (nat_bind fun _ => nat_bind fun _ => nat_bif (nat_some) (nat_some)) (nat_some)

def q64_T2 : Tmpl := ⟨(.slot (Ty.slice YEdge) (.slot (Ty.fn 265 (Ty.prod (Ty.iref Ty.i) (Ty.prod (Ty.iref (Ty.slice Ty.i)) Ty.unit))) (jk 5 (.slot Ty.i (.slot Ty.i (jk 10 .nil)))))), .nil⟩

def q64_X2_0 (i : q64_I2) (p : Int × Unit) : St := ⟨jn 4 (.n (p.1) :: jn 14 ([])), []⟩

def q64_X2_1 (i : q64_I2) (p : Unit) : St := ⟨jn 19 ([]), []⟩

noncomputable def q64_E2 (i : q64_I2) (p : q64_Q2) (R : Type) (K : Ex → St → Option R) : Option R := sumC p (fun p => K (Ex.ret) (q64_X2_0 i p)) fun p => K (Ex.exit 0) (q64_X2_1 i p)

noncomputable def q64_K2 (i : q64_I2) (p : q64_Q2) : Ex × St := sumC p (fun p => (Ex.ret, q64_X2_0 i p)) fun p => (Ex.exit 0, q64_X2_1 i p)

def q64_M2 (i : q64_I2) (v : q64_V2) : den q64_T2.ty := (i.1, i.2.1, i.2.2.1, v.1, ())

def q64_P2 (x : den q64_T2.ty) : q64_I2 × q64_V2 := ((x.1, x.2.1, x.2.2.1, ()), (x.2.2.2.1, ()))

noncomputable def q64_C : Cfg := { ti := g_tis, ents := [q63_Ent], ann := [(2, loopFn q64_T2 0 q64_P2 slices_IndexFunc__impl_isReady_1_D2 q64_E2)], lent := 0 }

def q64_ti : Tmpl := ⟨(.slot (Ty.slice YEdge) (.slot (Ty.fn 265 (Ty.prod (Ty.iref Ty.i) (Ty.prod (Ty.iref (Ty.slice Ty.i)) Ty.unit))) .nil)), .nil⟩

def q64_to : Tmpl := ⟨(.slot Ty.i .nil), .nil⟩

noncomputable def slices_IndexFunc__impl_isReady_1_S (x : List (Int × Int × Int × Int × Unit) × (Option Int × Option (List Int) × Unit) × Unit) : Option (Int × Unit) :=
  Option.bind (iter (fun v => slices_IndexFunc__impl_isReady_1_D2 (x.1, x.2.1, (↑(List.length x.1) : Int), ()) v _ some) (0, ())) fun p => sumC p (fun p => some (p.1, ())) fun p => some (-1, ())

noncomputable def q64_Ent : Ent := ⟨279, q64_ti, q64_to, slices_IndexFunc__impl_isReady_1_S⟩

theorem q64_HC : CfgOK Go.Proofs.Tryz.prog q64_C := hc_of g_tisOK g_wide (all_cons q63_OK all_nil)

theorem q64_lk2 : LkOK Go.Proofs.Tryz.prog q64_C (lpc Go.Proofs.Tryz.f279 0) :=
  lk_of q64_HC (m := 0) (T := q64_T2) (sp := q64_P2) (D := slices_IndexFunc__impl_isReady_1_D2) (E := q64_E2) (by kernel_rfl) (by kernel_rfl) (fun k hk => absurd hk (Nat.not_lt_zero k)) [4] q64_M2 (fun x => rfl) slices_IndexFunc__impl_isReady_1_D2_nat q64_K2 (fun i p R K => by rcases p with p | p <;> rfl) (fun i v => by kernel_rfl)

theorem q64_OK : EntOK Go.Proofs.Tryz.prog q64_Ent := ok_of q64_HC Go.Proofs.Tryz.func279 1 (by kernel_rfl) (fun k hk => match k, hk with | 0, _ => q64_lk2) (by kernel_rfl) (by kernel_rfl) (fun x => by kernel_rfl)

/-! slices.ContainsFunc[[]impl.Edge,impl.Edge] -/

noncomputable def q65_C : Cfg := { ti := g_tis, ents := [q64_Ent], ann := [], lent := 0 }

def q65_ti : Tmpl := ⟨(.slot (Ty.slice YEdge) (.slot (Ty.fn 265 (Ty.prod (Ty.iref Ty.i) (Ty.prod (Ty.iref (Ty.slice Ty.i)) Ty.unit))) .nil)), .nil⟩

def q65_to : Tmpl := ⟨(.slot (Ty.bool) .nil), .nil⟩

noncomputable def slices_ContainsFunc__impl_isReady_1_S (x : List (Int × Int × Int × Int × Unit) × (Option Int × Option (List Int) × Unit) × Unit) : Option (Bool × Unit) :=
  Option.bind (slices_IndexFunc__impl_isReady_1_S (x.1, x.2.1, ())) fun v => some (decide (v.1 ≥ 0), ())

noncomputable def q65_Ent : Ent := ⟨172, q65_ti, q65_to, slices_ContainsFunc__impl_isReady_1_S⟩

theorem q65_HC : CfgOK Go.Proofs.Tryz.prog q65_C := hc_of g_tisOK g_wide (all_cons q64_OK all_nil)

theorem q65_OK : EntOK Go.Proofs.Tryz.prog q65_Ent := ok_of q65_HC Go.Proofs.Tryz.func172 0 (by kernel_rfl) (fun k hk => absurd hk (Nat.not_lt_zero k)) (by kernel_rfl) (by kernel_rfl) (fun x => by kernel_rfl)

/-! impl.isReady -/

noncomputable def q66_C : Cfg := { ti := g_tis, ents := [q65_Ent], ann := [], lent := 0 }

def q66_ti : Tmpl := ⟨(.slot (Ty.slice YEdge) (.slot Ty.i (.slot (Ty.slice Ty.i) .nil))), .nil⟩

def q66_to : Tmpl := ⟨(.slot (Ty.bool) .nil), .nil⟩

noncomputable def impl_isReady_S (x : List (Int × Int × Int × Int × Unit) × Int × List Int × Unit) : Option (Bool × Unit) :=
  Option.bind (slices_ContainsFunc__impl_isReady_1_S (x.1, (some x.2.1, some x.2.2.1, ()), ())) fun v => some (!v.1, ())

noncomputable def q66_Ent : Ent := ⟨146, q66_ti, q66_to, impl_isReady_S⟩

theorem q66_HC : CfgOK Go.Proofs.Tryz.prog q66_C := hc_of g_tisOK g_wide (all_cons q65_OK all_nil)

theorem q66_OK : EntOK Go.Proofs.Tryz.prog q66_Ent := ok_of q66_HC Go.Proofs.Tryz.func146 0 (by kernel_rfl) (fun k hk => absurd hk (Nat.not_lt_zero k)) (by kernel_rfl) (by kernel_rfl) (fun x => by kernel_rfl)

/-! impl.SerialOrder$1 -/

noncomputable def q67_C : Cfg := { ti := g_tis, ents := [q62_Ent, q66_Ent], ann := [], lent := 0 }

def q67_ti : Tmpl := ⟨(.slot (Ty.prod Ty.i (Ty.prod Ty.i (Ty.prod (Ty.slice YReadMark) (Ty.prod (Ty.slice YReadMark)
  Ty.unit)))) (.slot (Ty.iref (Ty.slice Ty.i)) (.slot (Ty.iref (Ty.slice YEdge)) .nil))), .nil⟩

def q67_to : Tmpl := ⟨(.slot (Ty.bool) .nil), .nil⟩

noncomputable def impl_SerialOrder_1_S (x : (Int × Int × List (Int × Int × Unit) × List (Int × Int × Unit) × Unit) × Option (List Int) × Option (List (Int × Int × Int × Int × Unit)) × Unit) : Option (Bool × Unit) :=
  Option.bind x.2.1 fun v => Option.bind (slices_Contains_int_S (v, x.1.1, ())) fun v => bif !v.1 then Option.bind x.2.2.1 fun v => Option.bind x.2.1 fun v_1 => Option.bind (impl_isReady_S (v, x.1.1, v_1, ())) fun v => some (v.1, ()) else some
  (false, ())

noncomputable def q67_Ent : Ent := ⟨144, q67_ti, q67_to, impl_SerialOrder_1_S⟩

theorem q67_HC : CfgOK Go.Proofs.Tryz.prog q67_C := hc_of g_tisOK g_wide (all_cons q62_OK (all_cons q66_OK all_nil))

theorem q67_OK : EntOK Go.Proofs.Tryz.prog q67_Ent := ok_of q67_HC Go.Proofs.Tryz.func144 0 (by kernel_rfl) (fun k hk => absurd hk (Nat.not_lt_zero k)) (by kernel_rfl) (by kernel_rfl) (fun x => by kernel_rfl)

/-! slices.IndexFunc[[]impl.Entry,impl.Entry] -/

abbrev q68_I2 : Type := List (Int × Int × List (Int × Int × Unit) × List (Int × Int × Unit) × Unit) × (Option (List Int) × Option (List (Int × Int × Int × Int × Unit)) × Unit) × Int × Unit

abbrev q68_V2 : Type := Int × Unit

abbrev q68_Q2 : Type := Int × Unit ⊕ Unit

noncomputable def slices_IndexFunc__impl_SerialOrder_1_D2 (i : q68_I2) (v : q68_V2) (R : Type) (K : q68_V2 ⊕ q68_Q2 → Option R) : Option R :=
  bif decide (v.1 < i.2.2.1) then Option.bind (lAt i.1 v.1) fun v_1 => Option.bind (impl_SerialOrder_1_S ((v_1.1, v_1.2.1, v_1.2.2.1, v_1.2.2.2.1, ()), i.2.1.1, i.2.1.2.1, ())) fun v_2 => bif v_2.1 then K (Sum.inr (Sum.inl (v.1, ()))) else K
  (Sum.inl (IntKind.wrap IntKind.i64 (v.1 + 1), ())) else K (Sum.inr (Sum.inr ()))

theorem slices_IndexFunc__impl_SerialOrder_1_D2_nat : NatD slices_IndexFunc__impl_SerialOrder_1_D2 := fun i v R K => nat_bif (nat_bind fun _ => nat_bind fun _ => nat_bif (nat_some) (nat_some)) (nat_some)

def q68_T2 : Tmpl := ⟨(.slot (Ty.slice (Ty.prod Ty.i (Ty.prod Ty.i (Ty.prod (Ty.slice YReadMark) (Ty.prod (Ty.slice (Ty.prod Ty.i (Ty.prod Ty.i
  Ty.unit))) Ty.unit))))) (.slot (Ty.fn 144 (Ty.prod (Ty.iref (Ty.slice Ty.i)) (Ty.prod (Ty.iref (Ty.slice YEdge)) Ty.unit))) (jk 5 (.slot Ty.i (.slot Ty.i (jk 10 .nil)))))), .nil⟩

def q68_X2_0 (i : q68_I2) (p : Int × Unit) : St := ⟨jn 4 (.n (p.1) :: jn 14 ([])), []⟩

def q68_X2_1 (i : q68_I2) (p : Unit) : St := ⟨jn 19 ([]), []⟩

noncomputable def q68_E2 (i : q68_I2) (p : q68_Q2) (R : Type) (K : Ex → St → Option R) : Option R := sumC p (fun p => K (Ex.ret) (q68_X2_0 i p)) fun p => K (Ex.exit 0) (q68_X2_1 i p)

noncomputable def q68_K2 (i : q68_I2) (p : q68_Q2) : Ex × St := sumC p (fun p => (Ex.ret, q68_X2_0 i p)) fun p => (Ex.exit 0, q68_X2_1 i p)

def q68_M2 (i : q68_I2) (v : q68_V2) : den q68_T2.ty := (i.1, i.2.1, i.2.2.1, v.1, ())

def q68_P2 (x : den q68_T2.ty) : q68_I2 × q68_V2 := ((x.1, x.2.1, x.2.2.1, ()), (x.2.2.2.1, ()))

noncomputable def q68_C : Cfg := { ti := g_tis, ents := [q67_Ent], ann := [(2, loopFn q68_T2 0 q68_P2 slices_IndexFunc__impl_SerialOrder_1_D2 q68_E2)], lent := 0 }

def q68_ti : Tmpl := ⟨(.slot (Ty.slice (Ty.prod Ty.i (Ty.prod Ty.i (Ty.prod (Ty.slice YReadMark) (Ty.prod (Ty.slice (Ty.prod Ty.i (Ty.prod Ty.i
  Ty.unit))) Ty.unit))))) (.slot (Ty.fn 144 (Ty.prod (Ty.iref (Ty.slice Ty.i)) (Ty.prod (Ty.iref (Ty.slice YEdge)) Ty.unit))) .nil)), .nil⟩

def q68_to : Tmpl := ⟨(.slot Ty.i .nil), .nil⟩

noncomputable def slices_IndexFunc__impl_SerialOrder_1_S (x : List (Int × Int × List (Int × Int × Unit) × List (Int × Int × Unit) × Unit) × (Option (List Int) × Option (List (Int × Int × Int × Int × Unit)) × Unit) × Unit) : Option (Int × Unit) :=
  Option.bind (iter (fun v => slices_IndexFunc__impl_SerialOrder_1_D2 (x.1, x.2.1, (↑(List.length x.1) : Int), ()) v _ some) (0, ())) fun p => sumC p (fun p => some (p.1, ())) fun p => some (-1, ())

noncomputable def q68_Ent : Ent := ⟨143, q68_ti, q68_to, slices_IndexFunc__impl_SerialOrder_1_S⟩

theorem q68_HC : CfgOK Go.Proofs.Tryz.prog q68_C := hc_of g_tisOK g_wide (all_cons q67_OK all_nil)

theorem q68_lk2 : LkOK Go.Proofs.Tryz.prog q68_C (lpc Go.Proofs.Tryz.f143 0) :=
  lk_of q68_HC (m := 0) (T := q68_T2) (sp := q68_P2) (D := slices_IndexFunc__impl_SerialOrder_1_D2) (E := q68_E2) (by kernel_rfl) (by kernel_rfl) (fun k hk => absurd hk (Nat.not_lt_zero k)) [4] q68_M2 (fun x => rfl) slices_IndexFunc__impl_SerialOrder_1_D2_nat q68_K2 (fun i p R K => by rcases p with p | p <;> rfl) (fun i v => by kernel_rfl)

theorem q68_OK : EntOK Go.Proofs.Tryz.prog q68_Ent := ok_of q68_HC Go.Proofs.Tryz.func143 1 (by kernel_rfl) (fun k hk => match k, hk with | 0, _ => q68_lk2) (by kernel_rfl) (by kernel_rfl) (fun x => by kernel_rfl)

/-! impl.SerialOrder -/

abbrev q69_I4 : Type := List (Int × Int × List (Int × Int × Unit) × List (Int × Int × Unit) × Unit) × List (Int × Int × Int × Int × Unit) × Unit

abbrev q69_V4 : Type := List Int × Unit

abbrev q69_Q4 : Type := List Int × Unit ⊕ List Int × Unit

noncomputable def impl_SerialOrder_D4 (i : q69_I4) (v : q69_V4) (R : Type) (K : q69_V4 ⊕ q69_Q4 → Option R) : Option R :=
  bif decide ((↑(List.length v.1) : Int) < (↑(List.length i.1) : Int)) then Option.bind (slices_IndexFunc__impl_SerialOrder_1_S (i.1, (some v.1, some i.2.1, ()), ())) fun v_1 => bif decide (v_1.1 < 0) then K (Sum.inr (Sum.inl (v.1, ()))) else
  Option.bind (lAt i.1 v_1.1) fun v_2 => if List.length (v.1 ++ [v_2.1]) ≤ 4398046511104 then K (Sum.inl (v.1 ++ [v_2.1], ())) else none else K (Sum.inr (Sum.inr (v.1, ())))

theorem impl_SerialOrder_D4_nat : NatD impl_SerialOrder_D4 := fun i v R K => nat_bif (nat_bind fun _ => nat_bif (nat_some) (nat_bind fun _ => nat_ite (nat_some))) (nat_some)

def q69_T4 : Tmpl := ⟨(.slot (Ty.slice (Ty.prod Ty.i (Ty.prod Ty.i (Ty.prod (Ty.slice YReadMark) (Ty.prod (Ty.slice (Ty.prod Ty.i (Ty.prod Ty.i
  Ty.unit))) Ty.unit))))) (jk 3 (.ptr 0 0 0 (.ptr 2 0 0 (jk 26 .nil))))), (.cells 1 (.own 1 .nil) (.lst false YEdge (.cells 1 (.own 3 .nil) (.lst false Ty.i .nil))))⟩

def q69_X4_0 (i : q69_I4) (p : List Int × Unit) : St := ⟨jn 2 (AV.nils :: .b (false) :: jn 1 (AV.ptr 2 none 0 0 :: jn 26 ([]))), [some (Cont.cells 1 [[AV.own 1 none none]]), some (Cont.lst false (Ty.prod Ty.i (Ty.prod Ty.i (Ty.prod Ty.i (Ty.prod
  Ty.i Ty.unit)))) i.2.1), some (Cont.cells 1 [[AV.own 3 none none]]), some (Cont.lst false Ty.i p.1)]⟩

def q69_X4_1 (i : q69_I4) (p : List Int × Unit) : St := ⟨jn 5 (AV.ptr 2 none 0 0 :: jn 26 ([])), [some (Cont.cells 1 [[AV.own 1 none none]]), some (Cont.lst false YEdge
  i.2.1), some (Cont.cells 1 [[AV.own 3 none none]]), some (Cont.lst false Ty.i p.1)]⟩

noncomputable def q69_E4 (i : q69_I4) (p : q69_Q4) (R : Type) (K : Ex → St → Option R) : Option R := sumC p (fun p => K (Ex.ret) (q69_X4_0 i p)) fun p => K (Ex.exit 0) (q69_X4_1 i p)

noncomputable def q69_K4 (i : q69_I4) (p : q69_Q4) : Ex × St := sumC p (fun p => (Ex.ret, q69_X4_0 i p)) fun p => (Ex.exit 0, q69_X4_1 i p)

def q69_M4 (i : q69_I4) (v : q69_V4) : den q69_T4.ty := (i.1, i.2.1, v.1, ())

def q69_P4 (x : den q69_T4.ty) : q69_I4 × q69_V4 := ((x.1, x.2.1, ()), (x.2.2.1, ()))

noncomputable def q69_C : Cfg := { ti := g_tis, ents := [q54_Ent, q60_Ent, q68_Ent], ann := [(4, loopFn q69_T4 0 q69_P4 impl_SerialOrder_D4 q69_E4)], lent := 0 }

def q69_ti : Tmpl := ⟨(.slot (Ty.slice (Ty.prod Ty.i (Ty.prod Ty.i (Ty.prod (Ty.slice YReadMark) (Ty.prod (Ty.slice (Ty.prod Ty.i (Ty.prod Ty.i
  Ty.unit))) Ty.unit))))) .nil), .nil⟩

def q69_to : Tmpl := ⟨(.own 0 (.slot (Ty.bool) .nil)), (.lst false Ty.i .nil)⟩

noncomputable def impl_SerialOrder_S (x : List (Int × Int × List (Int × Int × Unit) × List (Int × Int × Unit) × Unit) × Unit) : Option (Bool × List Int × Unit) :=
  Option.bind (impl_IsHistory_S (x.1, ())) fun v => bif !v.1 then some (false, [], ()) else Option.bind (impl_graph_S (x.1, ())) fun v => Option.bind (iter (fun v_1 => impl_SerialOrder_D4 (x.1, v.1, ()) v_1 _ some) ([], ())) fun p =>
  sumC p (fun p => some (false, [], ())) fun p => some (true, p.1, ())

noncomputable def q69_Ent : Ent := ⟨66, q69_ti, q69_to, impl_SerialOrder_S⟩

theorem q69_HC : CfgOK Go.Proofs.Tryz.prog q69_C := hc_of g_tisOK g_wide (all_cons q54_OK (all_cons q60_OK (all_cons q68_OK all_nil)))

theorem q69_lk4 : LkOK Go.Proofs.Tryz.prog q69_C (lpc Go.Proofs.Tryz.f66 0) :=
  lk_of q69_HC (m := 0) (T := q69_T4) (sp := q69_P4) (D := impl_SerialOrder_D4) (E := q69_E4) (by kernel_rfl) (by kernel_rfl) (fun k hk => absurd hk (Nat.not_lt_zero k)) [2, 3, 5] q69_M4 (fun x => rfl) impl_SerialOrder_D4_nat q69_K4 (fun i p R K => by rcases p with p | p <;> rfl) (fun i v => by kernel_rfl)

theorem q69_OK : EntOK Go.Proofs.Tryz.prog q69_Ent := ok_of q69_HC Go.Proofs.Tryz.func66 1 (by kernel_rfl) (fun k hk => match k, hk with | 0, _ => q69_lk4) (by kernel_rfl) (by kernel_rfl) (fun x => by kernel_rfl)

/-! impl.BuildGraph -/

noncomputable def q70_C : Cfg := { ti := g_tis, ents := [q54_Ent, q60_Ent], ann := [], lent := 0 }

def q70_ti : Tmpl := ⟨(.slot (Ty.slice (Ty.prod Ty.i (Ty.prod Ty.i (Ty.prod (Ty.slice YReadMark) (Ty.prod (Ty.slice (Ty.prod Ty.i (Ty.prod Ty.i
  Ty.unit))) Ty.unit))))) .nil), .nil⟩

def q70_to : Tmpl := ⟨(.own 0 .nil), (.lst false YEdge .nil)⟩

noncomputable def impl_BuildGraph_S (x : List (Int × Int × List (Int × Int × Unit) × List (Int × Int × Unit) × Unit) × Unit) : Option (List (Int × Int × Int × Int × Unit) × Unit) :=
  Option.bind (impl_IsHistory_S (x.1, ())) fun v => bif !v.1 then some ([], ()) else Option.bind (impl_graph_S (x.1, ())) fun v => some (v.1, ())

noncomputable def q70_Ent : Ent := ⟨148, q70_ti, q70_to, impl_BuildGraph_S⟩

theorem q70_HC : CfgOK Go.Proofs.Tryz.prog q70_C := hc_of g_tisOK g_wide (all_cons q54_OK (all_cons q60_OK all_nil))

theorem q70_OK : EntOK Go.Proofs.Tryz.prog q70_Ent := ok_of q70_HC Go.Proofs.Tryz.func148 0 (by kernel_rfl) (fun k hk => absurd hk (Nat.not_lt_zero k)) (by kernel_rfl) (by kernel_rfl) (fun x => by kernel_rfl)

/-! impl.AreEdges -/

abbrev q71_I2 : Type := List (Int × Int × Int × Int × Unit) × List (Int × Int × Int × Int × Unit) × Int × Unit

abbrev q71_V2 : Type := Int × Unit

abbrev q71_Q2 : Type := Int × Int × Int × Int × Unit ⊕ Int × Int × Int × Int × Unit ⊕ Int × Int × Int × Int × Unit ⊕ Int × Int × Int × Int × Unit ⊕ Int × Int × Int × Int × Unit ⊕ Int × Int × Int × Int × Unit ⊕ Unit

noncomputable def impl_AreEdges_D2 (i : q71_I2) (v : q71_V2) (R : Type) (K : q71_V2 ⊕ q71_Q2 → Option R) : Option R :=
  bif decide (v.1 < i.2.2.1) then Option.bind (lAt i.2.1 v.1) fun v_1 => Option.bind (impl_isID_S (v_1.1, ())) fun v_2 => bif !v_2.1 then K (Sum.inr (Sum.inl (v_1.1, v_1.2.1, v_1.2.2.1, v_1.2.2.2.1, ()))) else Option.bind (impl_isID_S
  (v_1.2.1, ())) fun v_3 => bif !v_3.1 then K (Sum.inr (Sum.inr (Sum.inl (v_1.1, v_1.2.1, v_1.2.2.1, v_1.2.2.2.1, ())))) else bif v_1.1 == v_1.2.1 then K (Sum.inr (Sum.inr (Sum.inr (Sum.inl (v_1.1, v_1.2.1, v_1.2.2.1, v_1.2.2.2.1, ()))))) else
  Option.bind (impl_in_S (v_1.2.2.1, 1, 3, ())) fun v_4 => bif !v_4.1 then K (Sum.inr (Sum.inr (Sum.inr (Sum.inr (Sum.inl (v_1.1, v_1.2.1, v_1.2.2.1, v_1.2.2.2.1, ())))))) else Option.bind (impl_isKey_S (v_1.2.2.2.1, ())) fun v_5 => bif !v_5.1
  then K (Sum.inr (Sum.inr (Sum.inr (Sum.inr (Sum.inr (Sum.inl (v_1.1, v_1.2.1, v_1.2.2.1, v_1.2.2.2.1, ()))))))) else bif decide (v.1 > 0) then Option.bind (lAt i.1 (IntKind.wrap IntKind.i64 (v.1 - 1))) fun v_6 => Option.bind
  (impl_compareEdges_S ((v_6.1, v_6.2.1, v_6.2.2.1, v_6.2.2.2.1, ()), (v_1.1, v_1.2.1, v_1.2.2.1, v_1.2.2.2.1, ()), ())) fun v_7 => bif decide (v_7.1 ≥ 0) then K (Sum.inr (Sum.inr (Sum.inr (Sum.inr (Sum.inr (Sum.inr (Sum.inl (v_1.1, v_1.2.1,
  v_1.2.2.1, v_1.2.2.2.1, ())))))))) else K (Sum.inl (IntKind.wrap IntKind.i64 (v.1 + 1), ())) else K (Sum.inl (IntKind.wrap IntKind.i64 (v.1 + 1), ())) else K (Sum.inr (Sum.inr (Sum.inr (Sum.inr (Sum.inr (Sum.inr (Sum.inr ())))))))

theorem impl_AreEdges_D2_nat : NatD impl_AreEdges_D2 := fun i v R K => nat_bif (nat_bind fun _ => nat_bind fun _ => nat_bif (nat_some) (nat_bind fun _ => nat_bif (nat_some) (nat_bif (nat_some) (nat_bind fun _ => nat_bif (nat_some) (nat_bind fun _ => nat_bif (nat_some) (nat_bif (nat_bind fun _ => nat_bind fun _ => nat_bif (nat_some) (nat_some)) (nat_some))))))) (nat_some)

def q71_T2 : Tmpl := ⟨(.slot (Ty.slice YEdge) (jk 4 (.slot (Ty.slice YEdge) (.slot Ty.i (.slot Ty.i (jk 48 .nil)))))), .nil⟩

def q71_X2_0 (i : q71_I2) (p : Int × Int × Int × Int × Unit) : St := ⟨jn 2 (.b (false) :: jn 53 ([])), [some (Cont.cells 4 [[AV.pv Ty.i p.1, AV.pv Ty.i p.2.1, AV.pv Ty.i p.2.2.1, AV.pv Ty.i p.2.2.2.1]])]⟩

def q71_X2_1 (i : q71_I2) (p : Int × Int × Int × Int × Unit) : St := ⟨jn 2 (.b (false) :: jn 53 ([])), [some (Cont.cells 4 [[AV.pv Ty.i p.1, AV.pv Ty.i p.2.1, AV.pv Ty.i p.2.2.1, AV.pv Ty.i p.2.2.2.1]])]⟩

def q71_X2_2 (i : q71_I2) (p : Int × Int × Int × Int × Unit) : St := ⟨jn 2 (.b (false) :: jn 53 ([])), [some (Cont.cells 4 [[AV.pv Ty.i p.1, AV.pv Ty.i p.2.1, AV.pv Ty.i p.2.2.1, AV.pv Ty.i p.2.2.2.1]])]⟩

def q71_X2_3 (i : q71_I2) (p : Int × Int × Int × Int × Unit) : St := ⟨jn 2 (.b (false) :: jn 53 ([])), [some (Cont.cells 4 [[AV.pv Ty.i p.1, AV.pv Ty.i p.2.1, AV.pv Ty.i p.2.2.1, AV.pv Ty.i p.2.2.2.1]])]⟩

def q71_X2_4 (i : q71_I2) (p : Int × Int × Int × Int × Unit) : St := ⟨jn 2 (.b (false) :: jn 53 ([])), [some (Cont.cells 4 [[AV.pv Ty.i p.1, AV.pv Ty.i p.2.1, AV.pv Ty.i p.2.2.1, AV.pv Ty.i p.2.2.2.1]])]⟩

def q71_X2_5 (i : q71_I2) (p : Int × Int × Int × Int × Unit) : St := ⟨jn 2 (.b (false) :: jn 53 ([])), [some (Cont.cells 4 [[AV.pv Ty.i p.1, AV.pv Ty.i p.2.1, AV.pv Ty.i p.2.2.1, AV.pv Ty.i p.2.2.2.1]])]⟩

def q71_X2_6 (i : q71_I2) (p : Unit) : St := ⟨jn 56 ([]), []⟩

noncomputable def q71_E2 (i : q71_I2) (p : q71_Q2) (R : Type) (K : Ex → St → Option R) : Option R := sumC p (fun p => K (Ex.ret) (q71_X2_0 i p)) fun p => sumC p (fun p => K (Ex.ret) (q71_X2_1 i p)) fun p => sumC p (fun p => K (Ex.ret) (q71_X2_2 i p)) fun p => sumC p (fun p => K (Ex.ret) (q71_X2_3 i p)) fun p => sumC p (fun p => K (Ex.ret) (q71_X2_4 i p)) fun p => sumC p (fun p => K (Ex.ret) (q71_X2_5 i p)) fun p => K (Ex.exit 0) (q71_X2_6 i p)

noncomputable def q71_K2 (i : q71_I2) (p : q71_Q2) : Ex × St := sumC p (fun p => (Ex.ret, q71_X2_0 i p)) fun p => sumC p (fun p => (Ex.ret, q71_X2_1 i p)) fun p => sumC p (fun p => (Ex.ret, q71_X2_2 i p)) fun p => sumC p (fun p => (Ex.ret, q71_X2_3 i p)) fun p => sumC p (fun p => (Ex.ret, q71_X2_4 i p)) fun p => sumC p (fun p => (Ex.ret, q71_X2_5 i p)) fun p => (Ex.exit 0, q71_X2_6 i p)

def q71_M2 (i : q71_I2) (v : q71_V2) : den q71_T2.ty := (i.1, i.2.1, i.2.2.1, v.1, ())

def q71_P2 (x : den q71_T2.ty) : q71_I2 × q71_V2 := ((x.1, x.2.1, x.2.2.1, ()), (x.2.2.2.1, ()))

noncomputable def q71_C : Cfg := { ti := g_tis, ents := [q35_Ent, q34_Ent, q37_Ent, q57_Ent], ann := [(2, loopFn q71_T2 0 q71_P2 impl_AreEdges_D2 q71_E2)], lent := 0 }

def q71_ti : Tmpl := ⟨(.slot (Ty.slice YEdge) .nil), .nil⟩

def q71_to : Tmpl := ⟨(.slot (Ty.bool) .nil), .nil⟩

noncomputable def impl_AreEdges_S (x : List (Int × Int × Int × Int × Unit) × Unit) : Option (Bool × Unit) :=
  Option.bind (iter (fun v => impl_AreEdges_D2 (x.1, x.1, (↑(List.length x.1) : Int), ()) v _ some) (0, ())) fun p => sumC p (fun p => some (false, ())) fun p => sumC p (fun p => some (false, ())) fun p => sumC p (fun p => some
  (false, ())) fun p => sumC p (fun p => some (false, ())) fun p => sumC p (fun p => some (false, ())) fun p => sumC p (fun p => some (false, ())) fun p => some (true, ())

noncomputable def q71_Ent : Ent := ⟨158, q71_ti, q71_to, impl_AreEdges_S⟩

theorem q71_HC : CfgOK Go.Proofs.Tryz.prog q71_C := hc_of g_tisOK g_wide (all_cons q35_OK (all_cons q34_OK (all_cons q37_OK (all_cons q57_OK all_nil))))

theorem q71_lk2 : LkOK Go.Proofs.Tryz.prog q71_C (lpc Go.Proofs.Tryz.f158 0) :=
  lk_of q71_HC (m := 0) (T := q71_T2) (sp := q71_P2) (D := impl_AreEdges_D2) (E := q71_E2) (by kernel_rfl) (by kernel_rfl) (fun k hk => absurd hk (Nat.not_lt_zero k)) [2] q71_M2 (fun x => rfl) impl_AreEdges_D2_nat q71_K2 (fun i p R K => by rcases p with p | p | p | p | p | p | p <;> rfl) (fun i v => by kernel_rfl)

theorem q71_OK : EntOK Go.Proofs.Tryz.prog q71_Ent := ok_of q71_HC Go.Proofs.Tryz.func158 1 (by kernel_rfl) (fun k hk => match k, hk with | 0, _ => q71_lk2) (by kernel_rfl) (by kernel_rfl) (fun x => by kernel_rfl)

/-! impl.distances -/

abbrev q72_I3 : Type := List (Int × Int × Int × Int × Unit) × Int × List Int × Unit

abbrev q72_V3 : Type := Int × List Int × Unit

abbrev q72_Q3 : Type := List Int × Unit

noncomputable def impl_distances_D3 (i : q72_I3) (v : q72_V3) (R : Type) (K : q72_V3 ⊕ q72_Q3 → Option R) : Option R :=
  bif decide (v.1 < 10) then if 1 = 1 ∧ 0 ≤ v.1 ∧ v.1 < (↑10 : Int) then Option.bind v.2.1[Int.toNat v.1]? fun v_1 => K (Sum.inl (IntKind.wrap IntKind.i64 (v.1 + 1), List.set v.2.1 (Int.toNat v.1) (-1), ())) else none else K (Sum.inr (v.2.1,
  ()))

theorem impl_distances_D3_nat : NatD impl_distances_D3 := fun i v R K => nat_bif (nat_ite (nat_bind fun _ => nat_some)) (nat_some)

def q72_T3 : Tmpl := ⟨(.slot (Ty.slice YEdge) (.slot Ty.i (jk 2 (.ptr 0 0 0 (.ptr 1 0 0 (jk 7 (.slot Ty.i (jk 42 .nil)))))))), (.lst false Ty.i (.lst false Ty.i .nil))⟩

def q72_X3_0 (i : q72_I3) (p : List Int × Unit) : St := ⟨AV.pv (Ty.slice YEdge) i.1 :: .n (i.2.1) :: jn 2 (AV.ptr 0 none 0 0 :: AV.ptr 1 none 0 0 :: jn 50 ([])), [some
  (Cont.lst false Ty.i i.2.2.1), some (Cont.lst false Ty.i p.1)]⟩

noncomputable def q72_E3 (i : q72_I3) (p : q72_Q3) (R : Type) (K : Ex → St → Option R) : Option R := K (Ex.exit 0) (q72_X3_0 i p)

noncomputable def q72_K3 (i : q72_I3) (p : q72_Q3) : Ex × St := (Ex.exit 0, q72_X3_0 i p)

def q72_M3 (i : q72_I3) (v : q72_V3) : den q72_T3.ty := (i.1, i.2.1, v.1, i.2.2.1, v.2.1, ())

def q72_P3 (x : den q72_T3.ty) : q72_I3 × q72_V3 := ((x.1, x.2.1, x.2.2.2.1, ()), (x.2.2.1, x.2.2.2.2.1, ()))

abbrev q72_I13 : Type := List (Int × Int × Int × Int × Unit) × Int × List (Int × Int × Int × Int × Unit) × Int × List Int × List Int × Unit

abbrev q72_V13 : Type := Int × List Int × List Int × Unit

abbrev q72_Q13 : Type := List Int × List Int × Unit

noncomputable def impl_distances_D13 (i : q72_I13) (v : q72_V13) (R : Type) (K : q72_V13 ⊕ q72_Q13 → Option R) : Option R :=
  bif decide (v.1 < i.2.2.2.1) then Option.bind (lAt i.2.2.1 v.1) fun v_1 => Option.bind (slices_Contains_int_S (i.2.2.2.2.2.1, v_1.2.1, ())) fun v_2 => bif v_2.1 then if 1 = 1 ∧ 0 ≤ v_1.1 ∧ v_1.1 < (↑10 : Int) then Option.bind v.2.1[Int.toNat
  v_1.1]? fun v_3 => bif decide (v_3 < 0) then if 1 = 1 ∧ 0 ≤ v_1.1 ∧ v_1.1 < (↑10 : Int) then Option.bind v.2.1[Int.toNat v_1.1]? fun v_4 => if List.length (v.2.2.1 ++ [v_1.1]) ≤ 4398046511104 then K (Sum.inl (IntKind.wrap IntKind.i64 (v.1 +
  1), List.set v.2.1 (Int.toNat v_1.1) i.2.1, v.2.2.1 ++ [v_1.1], ())) else none else none else K (Sum.inl (IntKind.wrap IntKind.i64 (v.1 + 1), v.2.1, v.2.2.1, ())) else none else K (Sum.inl (IntKind.wrap IntKind.i64 (v.1 + 1), v.2.1, v.2.2.1,
  ())) else K (Sum.inr (v.2.1, v.2.2.1, ()))

theorem impl_distances_D13_nat : NatD impl_distances_D13 := fun i v R K => nat_bif (nat_bind fun _ => nat_bind fun _ => nat_bif (nat_ite (nat_bind fun _ => nat_bif (nat_ite (nat_bind fun _ => nat_ite (nat_some))) (nat_some))) (nat_some)) (nat_some)

def q72_T13 : Tmpl := ⟨(.slot (Ty.slice YEdge) (jk 3 (.ptr 0 0 0 (.ptr 1 0 0 (.junk (.own 2 (.slot Ty.i (.own 3 (jk 17 (.slot (Ty.slice YEdge) (.slot Ty.i (.slot Ty.i (jk 26 .nil))))))))))))), (.lst false Ty.i (.lst false Ty.i (.lst false Ty.i (.lst false Ty.i .nil))))⟩

def q72_X13_0 (i : q72_I13) (p : List Int × List Int × Unit) : St := ⟨AV.pv (Ty.slice YEdge) i.1 :: jn 3 (AV.ptr 0 none 0 0 :: AV.ptr 1 none 0 0 :: jn 2 (.n (i.2.1) :: AV.own 3 none
  none :: jn 46 ([]))), [some (Cont.lst false Ty.i i.2.2.2.2.1), some (Cont.lst false Ty.i p.1), some (Cont.lst false Ty.i i.2.2.2.2.2.1), some (Cont.lst false Ty.i p.2.1)]⟩

noncomputable def q72_E13 (i : q72_I13) (p : q72_Q13) (R : Type) (K : Ex → St → Option R) : Option R := K (Ex.exit 4) (q72_X13_0 i p)

noncomputable def q72_K13 (i : q72_I13) (p : q72_Q13) : Ex × St := (Ex.exit 4, q72_X13_0 i p)

def q72_M13 (i : q72_I13) (v : q72_V13) : den q72_T13.ty := (i.1, i.2.1, i.2.2.1, i.2.2.2.1, v.1, i.2.2.2.2.1, v.2.1, i.2.2.2.2.2.1, v.2.2.1, ())

def q72_P13 (x : den q72_T13.ty) : q72_I13 × q72_V13 := ((x.1, x.2.1, x.2.2.1, x.2.2.2.1, x.2.2.2.2.2.1, x.2.2.2.2.2.2.2.1, ()), (x.2.2.2.2.1, x.2.2.2.2.2.2.1, x.2.2.2.2.2.2.2.2.1, ()))

abbrev q72_I9 : Type := List (Int × Int × Int × Int × Unit) × List Int × Unit

abbrev q72_V9 : Type := Int × List Int × List Int × Unit

abbrev q72_Q9 : Type := List Int × List Int × Unit

noncomputable def impl_distances_D9 (i : q72_I9) (v : q72_V9) (R : Type) (K : q72_V9 ⊕ q72_Q9 → Option R) : Option R :=
  bif decide ((↑(List.length v.2.2.1) : Int) > 0) then Option.bind (iter (fun v_1 => impl_distances_D13 (i.1, v.1, i.1, (↑(List.length i.1) : Int), i.2.1, v.2.2.1, ()) v_1 _ some) (0, v.2.1, [], ())) fun p => K (Sum.inl (IntKind.wrap
  IntKind.i64 (v.1 + 1), p.1, p.2.1, ())) else K (Sum.inr (v.2.1, v.2.2.1, ()))

theorem impl_distances_D9_nat : NatD impl_distances_D9 := fun i v R K => nat_bif (nat_bind fun _ => nat_some) (nat_some)

def q72_T9 : Tmpl := ⟨(.slot (Ty.slice YEdge) (jk 3 (.ptr 0 0 0 (.ptr 1 0 0 (.junk (.own 2 (.slot Ty.i (jk 47 .nil)))))))), (.lst false Ty.i (.lst false Ty.i (.lst false Ty.i .nil)))⟩

def q72_X9_0 (i : q72_I9) (p : List Int × List Int × Unit) : St := ⟨jn 4 (AV.ptr 0 none 0 0 :: AV.ptr 1 none 0 0 :: jn 50 ([])), [some (Cont.lst false Ty.i i.2.1), some (Cont.lst false Ty.i p.1), some (Cont.lst false Ty.i p.2.1)]⟩

noncomputable def q72_E9 (i : q72_I9) (p : q72_Q9) (R : Type) (K : Ex → St → Option R) : Option R := K (Ex.exit 2) (q72_X9_0 i p)

noncomputable def q72_K9 (i : q72_I9) (p : q72_Q9) : Ex × St := (Ex.exit 2, q72_X9_0 i p)

def q72_M9 (i : q72_I9) (v : q72_V9) : den q72_T9.ty := (i.1, v.1, i.2.1, v.2.1, v.2.2.1, ())

def q72_P9 (x : den q72_T9.ty) : q72_I9 × q72_V9 := ((x.1, x.2.2.1, ()), (x.2.1, x.2.2.2.1, x.2.2.2.2.1, ()))

noncomputable def q72_C : Cfg := { ti := g_tis, ents := [q62_Ent], ann := [(3, loopFn q72_T3 0 q72_P3 impl_distances_D3 q72_E3), (13, loopFn q72_T13 0 q72_P13 impl_distances_D13 q72_E13), (9, loopFn q72_T9 0 q72_P9 impl_distances_D9 q72_E9)], lent := 0 }

def q72_ti : Tmpl := ⟨(.slot (Ty.slice YEdge) (.slot Ty.i .nil)), .nil⟩

def q72_to : Tmpl := ⟨(.agg (.slot Ty.i (.slot Ty.i (.slot Ty.i (.slot Ty.i (.slot Ty.i (.slot Ty.i (.slot Ty.i (.slot Ty.i (.slot Ty.i (.slot Ty.i .nil)))))))))) .nil), .nil⟩

noncomputable def impl_distances_S (x : List (Int × Int × Int × Int × Unit) × Int × Unit) : Option (Int × Int × Int × Int × Int × Int × Int × Int × Int × Int × Unit) :=
  Option.bind (iter (fun v => impl_distances_D3 (x.1, x.2.1, [0, 0, 0, 0, 0, 0, 0, 0, 0, 0], ()) v _ some) (0, [0, 0, 0, 0, 0, 0, 0, 0, 0, 0], ())) fun p => Option.bind (iter (fun v => impl_distances_D9 (x.1, [0, 0, 0, 0, 0, 0, 0, 0,
  0, 0], ()) v _ some) (1, p.1, [x.2.1], ())) fun p => Option.bind p.1[0]? fun v => Option.bind p.1[0 + 1]? fun v_1 => Option.bind p.1[0 + 1 + 1]? fun v_2 => Option.bind p.1[0 + 1 + 1 + 1]? fun v_3 => Option.bind p.1[0 + 1 + 1 + 1 +
  1]? fun v_4 => Option.bind p.1[0 + 1 + 1 + 1 + 1 + 1]? fun v_5 => Option.bind p.1[0 + 1 + 1 + 1 + 1 + 1 + 1]? fun v_6 => Option.bind p.1[0 + 1 + 1 + 1 + 1 + 1 + 1 + 1]? fun v_7 => Option.bind p.1[0 + 1 + 1 + 1 + 1 + 1 + 1 + 1 + 1]? fun v_8
  => Option.bind p.1[0 + 1 + 1 + 1 + 1 + 1 + 1 + 1 + 1 + 1]? fun v_9 => some (v, v_1, v_2, v_3, v_4, v_5, v_6, v_7, v_8, v_9, ())

noncomputable def q72_Ent : Ent := ⟨266, q72_ti, q72_to, impl_distances_S⟩

theorem q72_HC : CfgOK Go.Proofs.Tryz.prog q72_C := hc_of g_tisOK g_wide (all_cons q62_OK all_nil)

theorem q72_lk13 : LkOK Go.Proofs.Tryz.prog q72_C (lpc Go.Proofs.Tryz.f266 2) :=
  lk_of q72_HC (m := 0) (T := q72_T13) (sp := q72_P13) (D := impl_distances_D13) (E := q72_E13) (by kernel_rfl) (by kernel_rfl) (fun k hk => absurd hk (Nat.not_lt_zero k)) [0, 4, 5, 8, 9] q72_M13 (fun x => rfl) impl_distances_D13_nat q72_K13 (fun i p R K => rfl) (fun i v => by kernel_rfl)

theorem q72_lk9 : LkOK Go.Proofs.Tryz.prog q72_C (lpc Go.Proofs.Tryz.f266 1) :=
  lk_of q72_HC (m := 1) (T := q72_T9) (sp := q72_P9) (D := impl_distances_D9) (E := q72_E9) (by kernel_rfl) (by kernel_rfl) (fun k hk => match k, hk with | 0, _ => lk_at (by kernel_rfl) q72_lk13) [4, 5] q72_M9 (fun x => rfl) impl_distances_D9_nat q72_K9 (fun i p R K => rfl) (fun i v => by kernel_rfl)

theorem q72_lk3 : LkOK Go.Proofs.Tryz.prog q72_C (lpc Go.Proofs.Tryz.f266 0) :=
  lk_of q72_HC (m := 0) (T := q72_T3) (sp := q72_P3) (D := impl_distances_D3) (E := q72_E3) (by kernel_rfl) (by kernel_rfl) (fun k hk => absurd hk (Nat.not_lt_zero k)) [0, 1, 4, 5] q72_M3 (fun x => rfl) impl_distances_D3_nat q72_K3 (fun i p R K => rfl) (fun i v => by kernel_rfl)

theorem q72_OK : EntOK Go.Proofs.Tryz.prog q72_Ent := ok_of q72_HC Go.Proofs.Tryz.func266 3 (by kernel_rfl) (fun k hk => match k, hk with | 0, _ => q72_lk3 | 1, _ => q72_lk9 | 2, _ => q72_lk13) (by kernel_rfl) (by kernel_rfl) (fun x => by kernel_rfl)

/-! impl.HasEdge$1 -/

noncomputable def q73_C : Cfg := { ti := g_tis, ents := [], ann := [], lent := 0 }

def q73_ti : Tmpl := ⟨(.slot YEdge (.slot (Ty.iref Ty.i) (.slot (Ty.iref Ty.i) .nil))), .nil⟩

def q73_to : Tmpl := ⟨(.slot (Ty.bool) .nil), .nil⟩

noncomputable def impl_HasEdge_1_S (x : (Int × Int × Int × Int × Unit) × Option Int × Option Int × Unit) : Option (Bool × Unit) :=
  Option.bind x.2.1 fun v => bif x.1.1 == v then Option.bind x.2.2.1 fun v => some (x.1.2.1 == v, ()) else some (false, ())

noncomputable def q73_Ent : Ent := ⟨272, q73_ti, q73_to, impl_HasEdge_1_S⟩

theorem q73_HC : CfgOK Go.Proofs.Tryz.prog q73_C := hc_of g_tisOK g_wide all_nil

theorem q73_OK : EntOK Go.Proofs.Tryz.prog q73_Ent := ok_of q73_HC Go.Proofs.Tryz.func272 0 (by kernel_rfl) (fun k hk => absurd hk (Nat.not_lt_zero k)) (by kernel_rfl) (by kernel_rfl) (fun x => by kernel_rfl)

/-! slices.IndexFunc[[]impl.Edge,impl.Edge] -/

abbrev q74_I2 : Type := List (Int × Int × Int × Int × Unit) × (Option Int × Option Int × Unit) × Int × Unit

abbrev q74_V2 : Type := Int × Unit

abbrev q74_Q2 : Type := Int × Unit ⊕ Unit

noncomputable def slices_IndexFunc__impl_HasEdge_1_D2 (i : q74_I2) (v : q74_V2) (R : Type) (K : q74_V2 ⊕ q74_Q2 → Option R) : Option R :=
  bif decide (v.1 < i.2.2.1) then Option.bind (lAt i.1 v.1) fun v_1 => Option.bind (impl_HasEdge_1_S ((v_1.1, v_1.2.1, v_1.2.2.1, v_1.2.2.2.1, ()), i.2.1.1, i.2.1.2.1, ())) fun v_2 => bif v_2.1 then K (Sum.inr (Sum.inl (v.1, ()))) else K
  (Sum.inl (IntKind.wrap IntKind.i64 (v.1 + 1), ())) else K (Sum.inr (Sum.inr ()))

theorem slices_IndexFunc__impl_HasEdge_1_D2_nat : NatD slices_IndexFunc__impl_HasEdge_1_D2 := fun i v R K => nat_bif (nat_bind fun _ => nat_bind fun _ => nat_bif (nat_some) (nat_some)) (nat_some)

def q74_T2 : Tmpl := ⟨(.slot (Ty.slice YEdge) (.slot (Ty.fn 272 (Ty.prod (Ty.iref Ty.i) (Ty.prod (Ty.iref Ty.i) Ty.unit))) (jk 5 (.slot Ty.i (.slot Ty.i (jk 10 .nil)))))), .nil⟩

def q74_X2_0 (i : q74_I2) (p : Int × Unit) : St := ⟨jn 4 (.n (p.1) :: jn 14 ([])), []⟩

def q74_X2_1 (i : q74_I2) (p : Unit) : St := ⟨jn 19 ([]), []⟩

noncomputable def q74_E2 (i : q74_I2) (p : q74_Q2) (R : Type) (K : Ex → St → Option R) : Option R := sumC p (fun p => K (Ex.ret) (q74_X2_0 i p)) fun p => K (Ex.exit 0) (q74_X2_1 i p)

noncomputable def q74_K2 (i : q74_I2) (p : q74_Q2) : Ex × St := sumC p (fun p => (Ex.ret, q74_X2_0 i p)) fun p => (Ex.exit 0, q74_X2_1 i p)

def q74_M2 (i : q74_I2) (v : q74_V2) : den q74_T2.ty := (i.1, i.2.1, i.2.2.1, v.1, ())

def q74_P2 (x : den q74_T2.ty) : q74_I2 × q74_V2 := ((x.1, x.2.1, x.2.2.1, ()), (x.2.2.2.1, ()))

noncomputable def q74_C : Cfg := { ti := g_tis, ents := [q73_Ent], ann := [(2, loopFn q74_T2 0 q74_P2 slices_IndexFunc__impl_HasEdge_1_D2 q74_E2)], lent := 0 }

def q74_ti : Tmpl := ⟨(.slot (Ty.slice YEdge) (.slot (Ty.fn 272 (Ty.prod (Ty.iref Ty.i) (Ty.prod (Ty.iref Ty.i) Ty.unit))) .nil)), .nil⟩

def q74_to : Tmpl := ⟨(.slot Ty.i .nil), .nil⟩

noncomputable def slices_IndexFunc__impl_HasEdge_1_S (x : List (Int × Int × Int × Int × Unit) × (Option Int × Option Int × Unit) × Unit) : Option (Int × Unit) :=
  Option.bind (iter (fun v => slices_IndexFunc__impl_HasEdge_1_D2 (x.1, x.2.1, (↑(List.length x.1) : Int), ()) v _ some) (0, ())) fun p => sumC p (fun p => some (p.1, ())) fun p => some (-1, ())

noncomputable def q74_Ent : Ent := ⟨279, q74_ti, q74_to, slices_IndexFunc__impl_HasEdge_1_S⟩

theorem q74_HC : CfgOK Go.Proofs.Tryz.prog q74_C := hc_of g_tisOK g_wide (all_cons q73_OK all_nil)

theorem q74_lk2 : LkOK Go.Proofs.Tryz.prog q74_C (lpc Go.Proofs.Tryz.f279 0) :=
  lk_of q74_HC (m := 0) (T := q74_T2) (sp := q74_P2) (D := slices_IndexFunc__impl_HasEdge_1_D2) (E := q74_E2) (by kernel_rfl) (by kernel_rfl) (fun k hk => absurd hk (Nat.not_lt_zero k)) [4] q74_M2 (fun x => rfl) slices_IndexFunc__impl_HasEdge_1_D2_nat q74_K2 (fun i p R K => by rcases p with p | p <;> rfl) (fun i v => by kernel_rfl)

theorem q74_OK : EntOK Go.Proofs.Tryz.prog q74_Ent := ok_of q74_HC Go.Proofs.Tryz.func279 1 (by kernel_rfl) (fun k hk => match k, hk with | 0, _ => q74_lk2) (by kernel_rfl) (by kernel_rfl) (fun x => by kernel_rfl)

/-! slices.ContainsFunc[[]impl.Edge,impl.Edge] -/

noncomputable def q75_C : Cfg := { ti := g_tis, ents := [q74_Ent], ann := [], lent := 0 }

def q75_ti : Tmpl := ⟨(.slot (Ty.slice YEdge) (.slot (Ty.fn 272 (Ty.prod (Ty.iref Ty.i) (Ty.prod (Ty.iref Ty.i) Ty.unit))) .nil)), .nil⟩

def q75_to : Tmpl := ⟨(.slot (Ty.bool) .nil), .nil⟩

noncomputable def slices_ContainsFunc__impl_HasEdge_1_S (x : List (Int × Int × Int × Int × Unit) × (Option Int × Option Int × Unit) × Unit) : Option (Bool × Unit) :=
  Option.bind (slices_IndexFunc__impl_HasEdge_1_S (x.1, x.2.1, ())) fun v => some (decide (v.1 ≥ 0), ())

noncomputable def q75_Ent : Ent := ⟨172, q75_ti, q75_to, slices_ContainsFunc__impl_HasEdge_1_S⟩

theorem q75_HC : CfgOK Go.Proofs.Tryz.prog q75_C := hc_of g_tisOK g_wide (all_cons q74_OK all_nil)

theorem q75_OK : EntOK Go.Proofs.Tryz.prog q75_Ent := ok_of q75_HC Go.Proofs.Tryz.func172 0 (by kernel_rfl) (fun k hk => absurd hk (Nat.not_lt_zero k)) (by kernel_rfl) (by kernel_rfl) (fun x => by kernel_rfl)

/-! impl.HasEdge -/

noncomputable def q76_C : Cfg := { ti := g_tis, ents := [q75_Ent], ann := [], lent := 0 }

def q76_ti : Tmpl := ⟨(.slot (Ty.slice YEdge) (.slot Ty.i (.slot Ty.i .nil))), .nil⟩

def q76_to : Tmpl := ⟨(.slot (Ty.bool) .nil), .nil⟩

noncomputable def impl_HasEdge_S (x : List (Int × Int × Int × Int × Unit) × Int × Int × Unit) : Option (Bool × Unit) :=
  Option.bind (slices_ContainsFunc__impl_HasEdge_1_S (x.1, (some x.2.1, some x.2.2.1, ()), ())) fun v => some (v.1, ())

noncomputable def q76_Ent : Ent := ⟨159, q76_ti, q76_to, impl_HasEdge_S⟩

theorem q76_HC : CfgOK Go.Proofs.Tryz.prog q76_C := hc_of g_tisOK g_wide (all_cons q75_OK all_nil)

theorem q76_OK : EntOK Go.Proofs.Tryz.prog q76_Ent := ok_of q76_HC Go.Proofs.Tryz.func159 0 (by kernel_rfl) (fun k hk => absurd hk (Nat.not_lt_zero k)) (by kernel_rfl) (by kernel_rfl) (fun x => by kernel_rfl)

/-! impl.ShortestCycle -/

abbrev q77_I5 : Type := List (Int × Int × Int × Int × Unit) × Unit

abbrev q77_V5 : Type := Int × Int × Int × Unit

abbrev q77_Q5 : Type := Int × Int × Unit

noncomputable def impl_ShortestCycle_D5 (i : q77_I5) (v : q77_V5) (R : Type) (K : q77_V5 ⊕ q77_Q5 → Option R) : Option R :=
  bif decide (v.2.2.1 ≤ 9) then Option.bind (impl_distances_S (i.1, v.2.2.1, ())) fun v_1 => if 0 ≤ v.2.2.1 ∧ v.2.2.1 < (↑10 : Int) then Option.bind (lAt [v_1.1, v_1.2.1, v_1.2.2.1, v_1.2.2.2.1, v_1.2.2.2.2.1, v_1.2.2.2.2.2.1,
  v_1.2.2.2.2.2.2.1, v_1.2.2.2.2.2.2.2.1, v_1.2.2.2.2.2.2.2.2.1, v_1.2.2.2.2.2.2.2.2.2.1] v.2.2.1) fun v_2 => bif decide (v_2 > 0) then bif v.1 == 0 then K (Sum.inl (v.2.2.1, v_2, IntKind.wrap IntKind.i64 (v.2.2.1 + 1), ())) else bif decide
  (v_2 < v.2.1) then K (Sum.inl (v.2.2.1, v_2, IntKind.wrap IntKind.i64 (v.2.2.1 + 1), ())) else K (Sum.inl (v.1, v.2.1, IntKind.wrap IntKind.i64 (v.2.2.1 + 1), ())) else K (Sum.inl (v.1, v.2.1, IntKind.wrap IntKind.i64 (v.2.2.1 + 1), ()))
  else none else K (Sum.inr (v.1, v.2.1, ()))

theorem impl_ShortestCycle_D5_nat : NatD impl_ShortestCycle_D5 := fun i v R K => nat_bif (nat_bind fun _ => nat_ite (nat_bind fun _ => nat_bif (nat_bif (nat_some) (nat_bif (nat_some) (nat_some))) (nat_some))) (nat_some)

def q77_T5 : Tmpl := ⟨(.slot (Ty.slice YEdge) (jk 2 (.slot Ty.i (.slot Ty.i (.slot Ty.i (jk 68 .nil)))))), .nil⟩

def q77_X5_0 (i : q77_I5) (p : Int × Int × Unit) : St := ⟨AV.pv (Ty.slice YEdge) i.1 :: jn 2 (.n (p.1) :: .n (p.2.1) :: jn 69 ([])), []⟩

noncomputable def q77_E5 (i : q77_I5) (p : q77_Q5) (R : Type) (K : Ex → St → Option R) : Option R := K (Ex.exit 0) (q77_X5_0 i p)

noncomputable def q77_K5 (i : q77_I5) (p : q77_Q5) : Ex × St := (Ex.exit 0, q77_X5_0 i p)

def q77_M5 (i : q77_I5) (v : q77_V5) : den q77_T5.ty := (i.1, v.1, v.2.1, v.2.2.1, ())

def q77_P5 (x : den q77_T5.ty) : q77_I5 × q77_V5 := ((x.1, ()), (x.2.1, x.2.2.1, x.2.2.2.1, ()))

abbrev q77_I17 : Type := List (Int × Int × Int × Int × Unit) × Int × List Int × List Int × Unit

abbrev q77_V17 : Type := Int × Unit

abbrev q77_Q17 : Type := List Int × List Int × Unit ⊕ Unit

noncomputable def impl_ShortestCycle_D17 (i : q77_I17) (v : q77_V17) (R : Type) (K : q77_V17 ⊕ q77_Q17 → Option R) : Option R :=
  bif decide (v.1 ≤ 9) then if 1 = 1 ∧ 0 ≤ v.1 ∧ v.1 < (↑10 : Int) then Option.bind i.2.2.2.1[Int.toNat v.1]? fun v_1 => bif v_1 == i.2.1 then if 0 ≤ IntKind.wrap IntKind.i64 ((↑(List.length i.2.2.1) : Int) - 1) ∧ IntKind.wrap IntKind.i64
  ((↑(List.length i.2.2.1) : Int) - 1) < (↑(List.length i.2.2.1) : Int) then Option.bind i.2.2.1[0 + Int.toNat (IntKind.wrap IntKind.i64 ((↑(List.length i.2.2.1) : Int) - 1))]? fun v_2 => Option.bind (impl_HasEdge_S (i.1, v_2, v.1, ())) fun
  v_3 => bif v_3.1 then if List.length (i.2.2.1 ++ [v.1]) ≤ 4398046511104 then K (Sum.inr (Sum.inl ([v.1], i.2.2.1 ++ [v.1], ()))) else none else K (Sum.inl (IntKind.wrap IntKind.i64 (v.1 + 1), ())) else none else K (Sum.inl (IntKind.wrap
  IntKind.i64 (v.1 + 1), ())) else none else K (Sum.inr (Sum.inr ()))

theorem impl_ShortestCycle_D17_nat : NatD impl_ShortestCycle_D17 := fun i v R K => nat_bif (nat_ite (nat_bind fun _ => nat_bif (nat_ite (nat_bind fun _ => nat_bind fun _ => nat_bif (nat_ite (nat_some)) (nat_some))) (nat_some))) (nat_some)

def q77_T17 : Tmpl := ⟨(.slot (Ty.slice YEdge) (jk 6 (.own 0 (.ptr 1 0 0 (.slot Ty.i (.slot Ty.i (jk 63 .nil))))))), (.lst false Ty.i (.lst false Ty.i .nil))⟩

def q77_X17_0 (i : q77_I17) (p : List Int × List Int × Unit) : St := ⟨AV.pv (Ty.slice YEdge) i.1 :: jn 6 (AV.own 3 none none :: AV.ptr 1 none 0 0 :: .n (i.2.1) :: jn 64 ([])), [some
  Cont.dead, some (Cont.lst false Ty.i i.2.2.2.1), some (Cont.lst false Ty.i p.1), some (Cont.lst false Ty.i p.2.1)]⟩

def q77_X17_1 (i : q77_I17) (p : Unit) : St := ⟨AV.pv (Ty.slice YEdge) i.1 :: jn 6 (AV.own 0 none none :: AV.ptr 1 none 0 0 :: .n (i.2.1) :: jn 64 ([])), [some
  (Cont.lst false Ty.i i.2.2.1), some (Cont.lst false Ty.i i.2.2.2.1)]⟩

noncomputable def q77_E17 (i : q77_I17) (p : q77_Q17) (R : Type) (K : Ex → St → Option R) : Option R := sumC p (fun p => K (Ex.exit 4) (q77_X17_0 i p)) fun p => K (Ex.exit 4) (q77_X17_1 i p)

noncomputable def q77_K17 (i : q77_I17) (p : q77_Q17) : Ex × St := sumC p (fun p => (Ex.exit 4, q77_X17_0 i p)) fun p => (Ex.exit 4, q77_X17_1 i p)

def q77_M17 (i : q77_I17) (v : q77_V17) : den q77_T17.ty := (i.1, i.2.1, v.1, i.2.2.1, i.2.2.2.1, ())

def q77_P17 (x : den q77_T17.ty) : q77_I17 × q77_V17 := ((x.1, x.2.1, x.2.2.2.1, x.2.2.2.2.1, ()), (x.2.2.1, ()))

abbrev q77_I14 : Type := List (Int × Int × Int × Int × Unit) × List Int × Unit

abbrev q77_V14 : Type := Int × List Int × Unit

abbrev q77_Q14 : Type := List Int × Unit

noncomputable def impl_ShortestCycle_D14 (i : q77_I14) (v : q77_V14) (R : Type) (K : q77_V14 ⊕ q77_Q14 → Option R) : Option R :=
  bif decide (v.1 > 0) then Option.bind (iter (fun v_1 => impl_ShortestCycle_D17 (i.1, v.1, v.2.1, i.2.1, ()) v_1 _ some) (1, ())) fun p => sumC p (fun p => K (Sum.inl (IntKind.wrap IntKind.i64 (v.1 - 1), p.2.1, ()))) fun p => K
  (Sum.inl (IntKind.wrap IntKind.i64 (v.1 - 1), v.2.1, ())) else K (Sum.inr (v.2.1, ()))

theorem impl_ShortestCycle_D14_nat : NatD impl_ShortestCycle_D14 := fun i v R K => nat_bif (nat_bind fun _ => nat_sum (fun _ => nat_some) (fun _ => nat_some)) (nat_some)

def q77_T14 : Tmpl := ⟨(.slot (Ty.slice YEdge) (jk 6 (.own 0 (.ptr 1 0 0 (.slot Ty.i (jk 64 .nil)))))), (.lst false Ty.i (.lst false Ty.i .nil))⟩

def q77_X14_0 (i : q77_I14) (p : List Int × Unit) : St := ⟨jn 7 (AV.own 0 none none :: jn 66 ([])), [some (Cont.lst false Ty.i p.1), some (Cont.lst false Ty.i i.2.1)]⟩

noncomputable def q77_E14 (i : q77_I14) (p : q77_Q14) (R : Type) (K : Ex → St → Option R) : Option R := K (Ex.exit 2) (q77_X14_0 i p)

noncomputable def q77_K14 (i : q77_I14) (p : q77_Q14) : Ex × St := (Ex.exit 2, q77_X14_0 i p)

def q77_M14 (i : q77_I14) (v : q77_V14) : den q77_T14.ty := (i.1, v.1, v.2.1, i.2.1, ())

def q77_P14 (x : den q77_T14.ty) : q77_I14 × q77_V14 := ((x.1, x.2.2.2.1, ()), (x.2.1, x.2.2.1, ()))

noncomputable def q77_C : Cfg := { ti := g_tis, ents := [q71_Ent, q72_Ent, q76_Ent], ann := [(5, loopFn q77_T5 0 q77_P5 impl_ShortestCycle_D5 q77_E5), (17, loopFn q77_T17 0 q77_P17 impl_ShortestCycle_D17 q77_E17), (14, loopFn q77_T14 0 q77_P14 impl_ShortestCycle_D14 q77_E14)], lent := 0 }

def q77_ti : Tmpl := ⟨(.slot (Ty.slice YEdge) .nil), .nil⟩

def q77_to : Tmpl := ⟨(.own 0 .nil), (.lst false Ty.i .nil)⟩

noncomputable def impl_ShortestCycle_S (x : List (Int × Int × Int × Int × Unit) × Unit) : Option (List Int × Unit) :=
  Option.bind (impl_AreEdges_S (x.1, ())) fun v => bif !v.1 then some ([], ()) else Option.bind (iter (fun v => impl_ShortestCycle_D5 (x.1, ()) v _ some) (0, 0, 1, ())) fun p => bif p.1 == 0 then some ([], ()) else Option.bind
  (impl_distances_S (x.1, p.1, ())) fun v => Option.bind (iter (fun v_1 => impl_ShortestCycle_D14 (x.1, [v.1, v.2.1, v.2.2.1, v.2.2.2.1, v.2.2.2.2.1, v.2.2.2.2.2.1, v.2.2.2.2.2.2.1, v.2.2.2.2.2.2.2.1, v.2.2.2.2.2.2.2.2.1,
  v.2.2.2.2.2.2.2.2.2.1], ()) v_1 _ some) (IntKind.wrap IntKind.i64 (p.2.1 - 1), [p.1], ())) fun p => some (p.1, ())

noncomputable def q77_Ent : Ent := ⟨147, q77_ti, q77_to, impl_ShortestCycle_S⟩

theorem q77_HC : CfgOK Go.Proofs.Tryz.prog q77_C := hc_of g_tisOK g_wide (all_cons q71_OK (all_cons q72_OK (all_cons q76_OK all_nil)))

theorem q77_lk17 : LkOK Go.Proofs.Tryz.prog q77_C (lpc Go.Proofs.Tryz.f147 2) :=
  lk_of q77_HC (m := 0) (T := q77_T17) (sp := q77_P17) (D := impl_ShortestCycle_D17) (E := q77_E17) (by kernel_rfl) (by kernel_rfl) (fun k hk => absurd hk (Nat.not_lt_zero k)) [0, 7, 8, 9] q77_M17 (fun x => rfl) impl_ShortestCycle_D17_nat q77_K17 (fun i p R K => by rcases p with p | p <;> rfl) (fun i v => by kernel_rfl)

theorem q77_lk14 : LkOK Go.Proofs.Tryz.prog q77_C (lpc Go.Proofs.Tryz.f147 1) :=
  lk_of q77_HC (m := 1) (T := q77_T14) (sp := q77_P14) (D := impl_ShortestCycle_D14) (E := q77_E14) (by kernel_rfl) (by kernel_rfl) (fun k hk => match k, hk with | 0, _ => lk_at (by kernel_rfl) q77_lk17) [7] q77_M14 (fun x => rfl) impl_ShortestCycle_D14_nat q77_K14 (fun i p R K => rfl) (fun i v => by kernel_rfl)

theorem q77_lk5 : LkOK Go.Proofs.Tryz.prog q77_C (lpc Go.Proofs.Tryz.f147 0) :=
  lk_of q77_HC (m := 0) (T := q77_T5) (sp := q77_P5) (D := impl_ShortestCycle_D5) (E := q77_E5) (by kernel_rfl) (by kernel_rfl) (fun k hk => absurd hk (Nat.not_lt_zero k)) [0, 3, 4] q77_M5 (fun x => rfl) impl_ShortestCycle_D5_nat q77_K5 (fun i p R K => rfl) (fun i v => by kernel_rfl)

theorem q77_OK : EntOK Go.Proofs.Tryz.prog q77_Ent := ok_of q77_HC Go.Proofs.Tryz.func147 3 (by kernel_rfl) (fun k hk => match k, hk with | 0, _ => q77_lk5 | 1, _ => q77_lk14 | 2, _ => q77_lk17) (by kernel_rfl) (by kernel_rfl) (fun x => by kernel_rfl)

/-! impl.CheckCycle -/

abbrev q78_I4 : Type := List (Int × Int × Int × Int × Unit) × List Int × List Int × Int × Unit

abbrev q78_V4 : Type := Int × Unit

abbrev q78_Q4 : Type := Unit ⊕ Unit ⊕ Unit

noncomputable def impl_CheckCycle_D4 (i : q78_I4) (v : q78_V4) (R : Type) (K : q78_V4 ⊕ q78_Q4 → Option R) : Option R :=
  bif decide (v.1 < i.2.2.2.1) then Option.bind (lAt i.2.2.1 v.1) fun v_1 => Option.bind (slAt i.2.1 0 v.1) fun v_2 => Option.bind (slices_Contains_int_S (v_2, v_1, ())) fun v_3 => bif v_3.1 then K (Sum.inr (Sum.inl ())) else Option.bind (rem?
  (IntKind.wrap IntKind.i64 (v.1 + 1)) (↑(List.length i.2.1) : Int)) fun v_4 => Option.bind (lAt i.2.1 v_4) fun v_5 => Option.bind (impl_HasEdge_S (i.1, v_1, v_5, ())) fun v_6 => bif !v_6.1 then K (Sum.inr (Sum.inr (Sum.inl ()))) else K
  (Sum.inl (IntKind.wrap IntKind.i64 (v.1 + 1), ())) else K (Sum.inr (Sum.inr (Sum.inr ())))

theorem impl_CheckCycle_D4_nat : NatD impl_CheckCycle_D4 := fun i v R K => nat_bif (nat_bind fun _ => nat_bind fun _ => nat_bind fun _ => nat_bif (nat_some) (nat_bind fun _ => nat_bind fun _ => nat_bind fun _ => nat_bif (nat_some) (nat_some))) (nat_some)

def q78_T4 : Tmpl := ⟨(.slot (Ty.slice YEdge) (.slot (Ty.slice Ty.i) (jk 13 (.slot (Ty.slice Ty.i) (.slot Ty.i (.slot Ty.i (jk 24 .nil))))))), .nil⟩

def q78_X4_0 (i : q78_I4) (p : Unit) : St := ⟨jn 4 (.b (false) :: jn 37 ([])), []⟩

def q78_X4_1 (i : q78_I4) (p : Unit) : St := ⟨jn 4 (.b (false) :: jn 37 ([])), []⟩

def q78_X4_2 (i : q78_I4) (p : Unit) : St := ⟨jn 42 ([]), []⟩

noncomputable def q78_E4 (i : q78_I4) (p : q78_Q4) (R : Type) (K : Ex → St → Option R) : Option R := sumC p (fun p => K (Ex.ret) (q78_X4_0 i p)) fun p => sumC p (fun p => K (Ex.ret) (q78_X4_1 i p)) fun p => K (Ex.exit 0) (q78_X4_2 i p)

noncomputable def q78_K4 (i : q78_I4) (p : q78_Q4) : Ex × St := sumC p (fun p => (Ex.ret, q78_X4_0 i p)) fun p => sumC p (fun p => (Ex.ret, q78_X4_1 i p)) fun p => (Ex.exit 0, q78_X4_2 i p)

def q78_M4 (i : q78_I4) (v : q78_V4) : den q78_T4.ty := (i.1, i.2.1, i.2.2.1, i.2.2.2.1, v.1, ())

def q78_P4 (x : den q78_T4.ty) : q78_I4 × q78_V4 := ((x.1, x.2.1, x.2.2.1, x.2.2.2.1, ()), (x.2.2.2.2.1, ()))

noncomputable def q78_C : Cfg := { ti := g_tis, ents := [q71_Ent, q62_Ent, q76_Ent], ann := [(4, loopFn q78_T4 0 q78_P4 impl_CheckCycle_D4 q78_E4)], lent := 0 }

def q78_ti : Tmpl := ⟨(.slot (Ty.slice YEdge) (.slot (Ty.slice Ty.i) .nil)), .nil⟩

def q78_to : Tmpl := ⟨(.slot (Ty.bool) .nil), .nil⟩

noncomputable def impl_CheckCycle_S (x : List (Int × Int × Int × Int × Unit) × List Int × Unit) : Option (Bool × Unit) :=
  Option.bind (impl_AreEdges_S (x.1, ())) fun v => bif !v.1 then some (false, ()) else bif decide ((↑(List.length x.2.1) : Int) < 2) then some (false, ()) else Option.bind (iter (fun v => impl_CheckCycle_D4 (x.1, x.2.1, x.2.1, (↑(List.length
  x.2.1) : Int), ()) v _ some) (0, ())) fun p => sumC p (fun p => some (false, ())) fun p => sumC p (fun p => some (false, ())) fun p => some (true, ())

noncomputable def q78_Ent : Ent := ⟨78, q78_ti, q78_to, impl_CheckCycle_S⟩

theorem q78_HC : CfgOK Go.Proofs.Tryz.prog q78_C := hc_of g_tisOK g_wide (all_cons q71_OK (all_cons q62_OK (all_cons q76_OK all_nil)))

theorem q78_lk4 : LkOK Go.Proofs.Tryz.prog q78_C (lpc Go.Proofs.Tryz.f78 0) :=
  lk_of q78_HC (m := 0) (T := q78_T4) (sp := q78_P4) (D := impl_CheckCycle_D4) (E := q78_E4) (by kernel_rfl) (by kernel_rfl) (fun k hk => absurd hk (Nat.not_lt_zero k)) [4] q78_M4 (fun x => rfl) impl_CheckCycle_D4_nat q78_K4 (fun i p R K => by rcases p with p | p | p <;> rfl) (fun i v => by kernel_rfl)

theorem q78_OK : EntOK Go.Proofs.Tryz.prog q78_Ent := ok_of q78_HC Go.Proofs.Tryz.func78 1 (by kernel_rfl) (fun k hk => match k, hk with | 0, _ => q78_lk4) (by kernel_rfl) (by kernel_rfl) (fun x => by kernel_rfl)

/-! impl.ClassifyCycle$1 -/

noncomputable def q79_C : Cfg := { ti := g_tis, ents := [q48_Ent], ann := [], lent := 0 }

def q79_ti : Tmpl := ⟨(.slot Ty.i (.slot (Ty.iref (Ty.slice (Ty.prod Ty.i (Ty.prod Ty.i (Ty.prod (Ty.slice YReadMark) (Ty.prod (Ty.slice (Ty.prod Ty.i (Ty.prod (Ty.int
  IntKind.i64) Ty.unit))) Ty.unit)))))) .nil)), .nil⟩

def q79_to : Tmpl := ⟨(.agg (.slot Ty.i (.slot Ty.i (.slot (Ty.slice YReadMark) (.slot (Ty.slice YReadMark) .nil)))) .nil), .nil⟩

noncomputable def impl_ClassifyCycle_1_S (x : Int × Option (List (Int × Int × List (Int × Int × Unit) × List (Int × Int × Unit) × Unit)) × Unit) : Option (Int × Int × List (Int × Int × Unit) × List (Int × Int × Unit) × Unit) :=
  Option.bind x.2.1 fun v => Option.bind x.2.1 fun v_1 => Option.bind (impl_FindEntry_S (v_1, x.1, ())) fun v_2 => Option.bind (lAt v v_2.1) fun v => some (v.1, v.2.1, v.2.2.1, v.2.2.2.1, ())

noncomputable def q79_Ent : Ent := ⟨165, q79_ti, q79_to, impl_ClassifyCycle_1_S⟩

theorem q79_HC : CfgOK Go.Proofs.Tryz.prog q79_C := hc_of g_tisOK g_wide (all_cons q48_OK all_nil)

theorem q79_OK : EntOK Go.Proofs.Tryz.prog q79_Ent := ok_of q79_HC Go.Proofs.Tryz.func165 0 (by kernel_rfl) (fun k hk => absurd hk (Nat.not_lt_zero k)) (by kernel_rfl) (by kernel_rfl) (fun x => by kernel_rfl)

/-! impl.ClassifyCycle$2 -/

noncomputable def q80_C : Cfg := { ti := g_tis, ents := [q79_Ent], ann := [], lent := 0 }

def q80_ti : Tmpl := ⟨(.slot Ty.i (.slot (Ty.iref (Ty.fn 165 (Ty.prod (Ty.iref (Ty.slice (Ty.prod Ty.i (Ty.prod Ty.i (Ty.prod (Ty.slice YReadMark) (Ty.prod (Ty.slice (Ty.prod (Ty.int
  IntKind.i64) (Ty.prod Ty.i Ty.unit))) Ty.unit)))))) Ty.unit))) .nil)), .nil⟩

def q80_to : Tmpl := ⟨(.slot (Ty.bool) .nil), .nil⟩

noncomputable def impl_ClassifyCycle_2_S (x : Int × Option (Option (List (Int × Int × List (Int × Int × Unit) × List (Int × Int × Unit) × Unit)) × Unit) × Unit) : Option (Bool × Unit) :=
  Option.bind x.2.1 fun v => Option.bind (impl_ClassifyCycle_1_S (x.1, v.1, ())) fun v => some ((↑(List.length v.2.2.2.1) : Int) == 0, ())

noncomputable def q80_Ent : Ent := ⟨167, q80_ti, q80_to, impl_ClassifyCycle_2_S⟩

theorem q80_HC : CfgOK Go.Proofs.Tryz.prog q80_C := hc_of g_tisOK g_wide (all_cons q79_OK all_nil)

theorem q80_OK : EntOK Go.Proofs.Tryz.prog q80_Ent := ok_of q80_HC Go.Proofs.Tryz.func167 0 (by kernel_rfl) (fun k hk => absurd hk (Nat.not_lt_zero k)) (by kernel_rfl) (by kernel_rfl) (fun x => by kernel_rfl)

/-! slices.IndexFunc[[]int,int] -/

abbrev q81_I2 : Type := List Int × (Option (Option (List (Int × Int × List (Int × Int × Unit) × List (Int × Int × Unit) × Unit)) × Unit) × Unit) × Int × Unit

abbrev q81_V2 : Type := Int × Unit

abbrev q81_Q2 : Type := Int × Unit ⊕ Unit

noncomputable def slices_IndexFunc__impl_ClassifyCycle_2_D2 (i : q81_I2) (v : q81_V2) (R : Type) (K : q81_V2 ⊕ q81_Q2 → Option R) : Option R :=
  bif decide (v.1 < i.2.2.1) then Option.bind (lAt i.1 v.1) fun v_1 => Option.bind (impl_ClassifyCycle_2_S (v_1, i.2.1.1, ())) fun v_2 => bif v_2.1 then K (Sum.inr (Sum.inl (v.1, ()))) else K (Sum.inl (IntKind.wrap IntKind.i64 (v.1 + 1), ()))
  else K (Sum.inr (Sum.inr ()))

theorem slices_IndexFunc__impl_ClassifyCycle_2_D2_nat : NatD slices_IndexFunc__impl_ClassifyCycle_2_D2 := fun i v R K => nat_bif (nat_bind fun _ => nat_bind fun _ => nat_bif (nat_some) (nat_some)) (nat_some)

def q81_T2 : Tmpl := ⟨(.slot (Ty.slice Ty.i) (.slot (Ty.fn 167 (Ty.prod (Ty.iref (Ty.fn 165 (Ty.prod (Ty.iref (Ty.slice (Ty.prod Ty.i (Ty.prod Ty.i (Ty.prod (Ty.slice YReadMark) (Ty.prod (Ty.slice
  YReadMark) Ty.unit)))))) Ty.unit))) Ty.unit)) (jk 5 (.slot Ty.i (.slot Ty.i (jk 10 .nil)))))), .nil⟩

def q81_X2_0 (i : q81_I2) (p : Int × Unit) : St := ⟨jn 4 (.n (p.1) :: jn 14 ([])), []⟩

def q81_X2_1 (i : q81_I2) (p : Unit) : St := ⟨jn 19 ([]), []⟩

noncomputable def q81_E2 (i : q81_I2) (p : q81_Q2) (R : Type) (K : Ex → St → Option R) : Option R := sumC p (fun p => K (Ex.ret) (q81_X2_0 i p)) fun p => K (Ex.exit 0) (q81_X2_1 i p)

noncomputable def q81_K2 (i : q81_I2) (p : q81_Q2) : Ex × St := sumC p (fun p => (Ex.ret, q81_X2_0 i p)) fun p => (Ex.exit 0, q81_X2_1 i p)

def q81_M2 (i : q81_I2) (v : q81_V2) : den q81_T2.ty := (i.1, i.2.1, i.2.2.1, v.1, ())

def q81_P2 (x : den q81_T2.ty) : q81_I2 × q81_V2 := ((x.1, x.2.1, x.2.2.1, ()), (x.2.2.2.1, ()))

noncomputable def q81_C : Cfg := { ti := g_tis, ents := [q80_Ent], ann := [(2, loopFn q81_T2 0 q81_P2 slices_IndexFunc__impl_ClassifyCycle_2_D2 q81_E2)], lent := 0 }

def q81_ti : Tmpl := ⟨(.slot (Ty.slice Ty.i) (.slot (Ty.fn 167 (Ty.prod (Ty.iref (Ty.fn 165 (Ty.prod (Ty.iref (Ty.slice (Ty.prod Ty.i (Ty.prod Ty.i (Ty.prod (Ty.slice YReadMark) (Ty.prod (Ty.slice
  YReadMark) Ty.unit)))))) Ty.unit))) Ty.unit)) .nil)), .nil⟩

def q81_to : Tmpl := ⟨(.slot Ty.i .nil), .nil⟩

noncomputable def slices_IndexFunc__impl_ClassifyCycle_2_S (x : List Int × (Option (Option (List (Int × Int × List (Int × Int × Unit) × List (Int × Int × Unit) × Unit)) × Unit) × Unit) × Unit) : Option (Int × Unit) :=
  Option.bind (iter (fun v => slices_IndexFunc__impl_ClassifyCycle_2_D2 (x.1, x.2.1, (↑(List.length x.1) : Int), ()) v _ some) (0, ())) fun p => sumC p (fun p => some (p.1, ())) fun p => some (-1, ())

noncomputable def q81_Ent : Ent := ⟨276, q81_ti, q81_to, slices_IndexFunc__impl_ClassifyCycle_2_S⟩

theorem q81_HC : CfgOK Go.Proofs.Tryz.prog q81_C := hc_of g_tisOK g_wide (all_cons q80_OK all_nil)

theorem q81_lk2 : LkOK Go.Proofs.Tryz.prog q81_C (lpc Go.Proofs.Tryz.f276 0) :=
  lk_of q81_HC (m := 0) (T := q81_T2) (sp := q81_P2) (D := slices_IndexFunc__impl_ClassifyCycle_2_D2) (E := q81_E2) (by kernel_rfl) (by kernel_rfl) (fun k hk => absurd hk (Nat.not_lt_zero k)) [4] q81_M2 (fun x => rfl) slices_IndexFunc__impl_ClassifyCycle_2_D2_nat q81_K2 (fun i p R K => by rcases p with p | p <;> rfl) (fun i v => by kernel_rfl)

theorem q81_OK : EntOK Go.Proofs.Tryz.prog q81_Ent := ok_of q81_HC Go.Proofs.Tryz.func276 1 (by kernel_rfl) (fun k hk => match k, hk with | 0, _ => q81_lk2) (by kernel_rfl) (by kernel_rfl) (fun x => by kernel_rfl)

/-! slices.ContainsFunc[[]int,int] -/

noncomputable def q82_C : Cfg := { ti := g_tis, ents := [q81_Ent], ann := [], lent := 0 }

def q82_ti : Tmpl := ⟨(.slot (Ty.slice Ty.i) (.slot (Ty.fn 167 (Ty.prod (Ty.iref (Ty.fn 165 (Ty.prod (Ty.iref (Ty.slice (Ty.prod Ty.i (Ty.prod Ty.i (Ty.prod (Ty.slice YReadMark) (Ty.prod (Ty.slice
  YReadMark) Ty.unit)))))) Ty.unit))) Ty.unit)) .nil)), .nil⟩

def q82_to : Tmpl := ⟨(.slot (Ty.bool) .nil), .nil⟩

noncomputable def slices_ContainsFunc__impl_ClassifyCycle_2_S (x : List Int × (Option (Option (List (Int × Int × List (Int × Int × Unit) × List (Int × Int × Unit) × Unit)) × Unit) × Unit) × Unit) : Option (Bool × Unit) :=
  Option.bind (slices_IndexFunc__impl_ClassifyCycle_2_S (x.1, x.2.1, ())) fun v => some (decide (v.1 ≥ 0), ())

noncomputable def q82_Ent : Ent := ⟨166, q82_ti, q82_to, slices_ContainsFunc__impl_ClassifyCycle_2_S⟩

theorem q82_HC : CfgOK Go.Proofs.Tryz.prog q82_C := hc_of g_tisOK g_wide (all_cons q81_OK all_nil)

theorem q82_OK : EntOK Go.Proofs.Tryz.prog q82_Ent := ok_of q82_HC Go.Proofs.Tryz.func166 0 (by kernel_rfl) (fun k hk => absurd hk (Nat.not_lt_zero k)) (by kernel_rfl) (by kernel_rfl) (fun x => by kernel_rfl)

/-! impl.ClassifyCycle$4 -/

noncomputable def q83_C : Cfg := { ti := g_tis, ents := [q52_Ent], ann := [], lent := 0 }

def q83_ti : Tmpl := ⟨(.slot YReadMark (.slot (Ty.iref (Ty.prod Ty.i (Ty.prod Ty.i (Ty.prod (Ty.slice YReadMark) (Ty.prod (Ty.slice (Ty.prod Ty.i (Ty.prod Ty.i
  Ty.unit))) Ty.unit))))) .nil)), .nil⟩

def q83_to : Tmpl := ⟨(.slot (Ty.bool) .nil), .nil⟩

noncomputable def impl_ClassifyCycle_4_S (x : (Int × Int × Unit) × Option (Int × Int × List (Int × Int × Unit) × List (Int × Int × Unit) × Unit) × Unit) : Option (Bool × Unit) :=
  Option.bind x.2.1 fun v => Option.bind (impl_Entry_writes_S ((v.1, v.2.1, v.2.2.1, v.2.2.2.1, ()), x.1.1, ())) fun v => some (v.1, ())

noncomputable def q83_Ent : Ent := ⟨170, q83_ti, q83_to, impl_ClassifyCycle_4_S⟩

theorem q83_HC : CfgOK Go.Proofs.Tryz.prog q83_C := hc_of g_tisOK g_wide (all_cons q52_OK all_nil)

theorem q83_OK : EntOK Go.Proofs.Tryz.prog q83_Ent := ok_of q83_HC Go.Proofs.Tryz.func170 0 (by kernel_rfl) (fun k hk => absurd hk (Nat.not_lt_zero k)) (by kernel_rfl) (by kernel_rfl) (fun x => by kernel_rfl)

/-! slices.IndexFunc[[]impl.Write,impl.Write] -/

abbrev q84_I2 : Type := List (Int × Int × Unit) × (Option (Int × Int × List (Int × Int × Unit) × List (Int × Int × Unit) × Unit) × Unit) × Int × Unit

abbrev q84_V2 : Type := Int × Unit

abbrev q84_Q2 : Type := Int × Unit ⊕ Unit

noncomputable def slices_IndexFunc__impl_ClassifyCycle_4_D2 (i : q84_I2) (v : q84_V2) (R : Type) (K : q84_V2 ⊕ q84_Q2 → Option R) : Option R :=
  bif decide (v.1 < i.2.2.1) then Option.bind (lAt i.1 v.1) fun v_1 => Option.bind (impl_ClassifyCycle_4_S ((v_1.1, v_1.2.1, ()), i.2.1.1, ())) fun v_2 => bif v_2.1 then K (Sum.inr (Sum.inl (v.1, ()))) else K (Sum.inl (IntKind.wrap IntKind.i64
  (v.1 + 1), ())) else K (Sum.inr (Sum.inr ()))

theorem slices_IndexFunc__impl_ClassifyCycle_4_D2_nat : NatD slices_IndexFunc__impl_ClassifyCycle_4_D2 := fun i v R K => nat_bif (nat_bind fun _ => nat_bind fun _ => nat_bif (nat_some) (nat_some)) (nat_some)

def q84_T2 : Tmpl := ⟨(.slot (Ty.slice YReadMark) (.slot (Ty.fn 170 (Ty.prod (Ty.iref (Ty.prod Ty.i (Ty.prod Ty.i (Ty.prod (Ty.slice YReadMark) (Ty.prod (Ty.slice (Ty.prod Ty.i (Ty.prod
  Ty.i Ty.unit))) Ty.unit))))) Ty.unit)) (jk 5 (.slot Ty.i (.slot Ty.i (jk 10 .nil)))))), .nil⟩

def q84_X2_0 (i : q84_I2) (p : Int × Unit) : St := ⟨jn 4 (.n (p.1) :: jn 14 ([])), []⟩

def q84_X2_1 (i : q84_I2) (p : Unit) : St := ⟨jn 19 ([]), []⟩

noncomputable def q84_E2 (i : q84_I2) (p : q84_Q2) (R : Type) (K : Ex → St → Option R) : Option R := sumC p (fun p => K (Ex.ret) (q84_X2_0 i p)) fun p => K (Ex.exit 0) (q84_X2_1 i p)

noncomputable def q84_K2 (i : q84_I2) (p : q84_Q2) : Ex × St := sumC p (fun p => (Ex.ret, q84_X2_0 i p)) fun p => (Ex.exit 0, q84_X2_1 i p)

def q84_M2 (i : q84_I2) (v : q84_V2) : den q84_T2.ty := (i.1, i.2.1, i.2.2.1, v.1, ())

def q84_P2 (x : den q84_T2.ty) : q84_I2 × q84_V2 := ((x.1, x.2.1, x.2.2.1, ()), (x.2.2.2.1, ()))

noncomputable def q84_C : Cfg := { ti := g_tis, ents := [q83_Ent], ann := [(2, loopFn q84_T2 0 q84_P2 slices_IndexFunc__impl_ClassifyCycle_4_D2 q84_E2)], lent := 0 }

def q84_ti : Tmpl := ⟨(.slot (Ty.slice YReadMark) (.slot (Ty.fn 170 (Ty.prod (Ty.iref (Ty.prod Ty.i (Ty.prod Ty.i (Ty.prod (Ty.slice YReadMark) (Ty.prod (Ty.slice (Ty.prod Ty.i (Ty.prod
  Ty.i Ty.unit))) Ty.unit))))) Ty.unit)) .nil)), .nil⟩

def q84_to : Tmpl := ⟨(.slot Ty.i .nil), .nil⟩

noncomputable def slices_IndexFunc__impl_ClassifyCycle_4_S (x : List (Int × Int × Unit) × (Option (Int × Int × List (Int × Int × Unit) × List (Int × Int × Unit) × Unit) × Unit) × Unit) : Option (Int × Unit) :=
  Option.bind (iter (fun v => slices_IndexFunc__impl_ClassifyCycle_4_D2 (x.1, x.2.1, (↑(List.length x.1) : Int), ()) v _ some) (0, ())) fun p => sumC p (fun p => some (p.1, ())) fun p => some (-1, ())

noncomputable def q84_Ent : Ent := ⟨277, q84_ti, q84_to, slices_IndexFunc__impl_ClassifyCycle_4_S⟩

theorem q84_HC : CfgOK Go.Proofs.Tryz.prog q84_C := hc_of g_tisOK g_wide (all_cons q83_OK all_nil)

theorem q84_lk2 : LkOK Go.Proofs.Tryz.prog q84_C (lpc Go.Proofs.Tryz.f277 0) :=
  lk_of q84_HC (m := 0) (T := q84_T2) (sp := q84_P2) (D := slices_IndexFunc__impl_ClassifyCycle_4_D2) (E := q84_E2) (by kernel_rfl) (by kernel_rfl) (fun k hk => absurd hk (Nat.not_lt_zero k)) [4] q84_M2 (fun x => rfl) slices_IndexFunc__impl_ClassifyCycle_4_D2_nat q84_K2 (fun i p R K => by rcases p with p | p <;> rfl) (fun i v => by kernel_rfl)

theorem q84_OK : EntOK Go.Proofs.Tryz.prog q84_Ent := ok_of q84_HC Go.Proofs.Tryz.func277 1 (by kernel_rfl) (fun k hk => match k, hk with | 0, _ => q84_lk2) (by kernel_rfl) (by kernel_rfl) (fun x => by kernel_rfl)

/-! slices.ContainsFunc[[]impl.Write,impl.Write] -/

noncomputable def q85_C : Cfg := { ti := g_tis, ents := [q84_Ent], ann := [], lent := 0 }

def q85_ti : Tmpl := ⟨(.slot (Ty.slice YReadMark) (.slot (Ty.fn 170 (Ty.prod (Ty.iref (Ty.prod Ty.i (Ty.prod Ty.i (Ty.prod (Ty.slice YReadMark) (Ty.prod (Ty.slice (Ty.prod Ty.i (Ty.prod
  Ty.i Ty.unit))) Ty.unit))))) Ty.unit)) .nil)), .nil⟩

def q85_to : Tmpl := ⟨(.slot (Ty.bool) .nil), .nil⟩

noncomputable def slices_ContainsFunc__impl_ClassifyCycle_4_S (x : List (Int × Int × Unit) × (Option (Int × Int × List (Int × Int × Unit) × List (Int × Int × Unit) × Unit) × Unit) × Unit) : Option (Bool × Unit) :=
  Option.bind (slices_IndexFunc__impl_ClassifyCycle_4_S (x.1, x.2.1, ())) fun v => some (decide (v.1 ≥ 0), ())

noncomputable def q85_Ent : Ent := ⟨169, q85_ti, q85_to, slices_ContainsFunc__impl_ClassifyCycle_4_S⟩

theorem q85_HC : CfgOK Go.Proofs.Tryz.prog q85_C := hc_of g_tisOK g_wide (all_cons q84_OK all_nil)

theorem q85_OK : EntOK Go.Proofs.Tryz.prog q85_Ent := ok_of q85_HC Go.Proofs.Tryz.func169 0 (by kernel_rfl) (fun k hk => absurd hk (Nat.not_lt_zero k)) (by kernel_rfl) (by kernel_rfl) (fun x => by kernel_rfl)

/-! impl.ClassifyCycle$3 -/

noncomputable def q86_C : Cfg := { ti := g_tis, ents := [q62_Ent], ann := [], lent := 0 }

def q86_ti : Tmpl := ⟨(.slot YEdge (.slot (Ty.iref (Ty.slice Ty.i)) .nil)), .nil⟩

def q86_to : Tmpl := ⟨(.slot (Ty.bool) .nil), .nil⟩

noncomputable def impl_ClassifyCycle_3_S (x : (Int × Int × Int × Int × Unit) × Option (List Int) × Unit) : Option (Bool × Unit) :=
  Option.bind x.2.1 fun v => Option.bind (slices_Contains_int_S (v, x.1.1, ())) fun v => bif v.1 then Option.bind x.2.1 fun v => Option.bind (slices_Contains_int_S (v, x.1.2.1, ())) fun v => some (v.1, ()) else some (false, ())

noncomputable def q86_Ent : Ent := ⟨168, q86_ti, q86_to, impl_ClassifyCycle_3_S⟩

theorem q86_HC : CfgOK Go.Proofs.Tryz.prog q86_C := hc_of g_tisOK g_wide (all_cons q62_OK all_nil)

theorem q86_OK : EntOK Go.Proofs.Tryz.prog q86_Ent := ok_of q86_HC Go.Proofs.Tryz.func168 0 (by kernel_rfl) (fun k hk => absurd hk (Nat.not_lt_zero k)) (by kernel_rfl) (by kernel_rfl) (fun x => by kernel_rfl)

/-! impl.ClassifyCycle$5 -/

noncomputable def q87_C : Cfg := { ti := g_tis, ents := [q86_Ent], ann := [], lent := 0 }

def q87_ti : Tmpl := ⟨(.slot YEdge (.slot (Ty.iref (Ty.fn 168 (Ty.prod (Ty.iref (Ty.slice Ty.i)) Ty.unit))) .nil)), .nil⟩

def q87_to : Tmpl := ⟨(.slot (Ty.bool) .nil), .nil⟩

noncomputable def impl_ClassifyCycle_5_S (x : (Int × Int × Int × Int × Unit) × Option (Option (List Int) × Unit) × Unit) : Option (Bool × Unit) :=
  Option.bind x.2.1 fun v => Option.bind (impl_ClassifyCycle_3_S ((x.1.1, x.1.2.1, x.1.2.2.1, x.1.2.2.2.1, ()), v.1, ())) fun v => bif v.1 then some (x.1.2.2.1 != 3, ()) else some (false, ())

noncomputable def q87_Ent : Ent := ⟨173, q87_ti, q87_to, impl_ClassifyCycle_5_S⟩

theorem q87_HC : CfgOK Go.Proofs.Tryz.prog q87_C := hc_of g_tisOK g_wide (all_cons q86_OK all_nil)

theorem q87_OK : EntOK Go.Proofs.Tryz.prog q87_Ent := ok_of q87_HC Go.Proofs.Tryz.func173 0 (by kernel_rfl) (fun k hk => absurd hk (Nat.not_lt_zero k)) (by kernel_rfl) (by kernel_rfl) (fun x => by kernel_rfl)

/-! slices.IndexFunc[[]impl.Edge,impl.Edge] -/

abbrev q88_I2 : Type := List (Int × Int × Int × Int × Unit) × (Option (Option (List Int) × Unit) × Unit) × Int × Unit

abbrev q88_V2 : Type := Int × Unit

abbrev q88_Q2 : Type := Int × Unit ⊕ Unit

noncomputable def slices_IndexFunc__impl_ClassifyCycle_5_D2 (i : q88_I2) (v : q88_V2) (R : Type) (K : q88_V2 ⊕ q88_Q2 → Option R) : Option R :=
  bif decide (v.1 < i.2.2.1) then Option.bind (lAt i.1 v.1) fun v_1 => Option.bind (impl_ClassifyCycle_5_S ((v_1.1, v_1.2.1, v_1.2.2.1, v_1.2.2.2.1, ()), i.2.1.1, ())) fun v_2 => bif v_2.1 then K (Sum.inr (Sum.inl (v.1, ()))) else K (Sum.inl
  (IntKind.wrap IntKind.i64 (v.1 + 1), ())) else K (Sum.inr (Sum.inr ()))

theorem slices_IndexFunc__impl_ClassifyCycle_5_D2_nat : NatD slices_IndexFunc__impl_ClassifyCycle_5_D2 := fun i v R K => nat_bif (nat_bind fun _ => nat_bind fun _ => nat_bif (nat_some) (nat_some)) (nat_some)

def q88_T2 : Tmpl := ⟨(.slot (Ty.slice YEdge) (.slot (Ty.fn 173 (Ty.prod (Ty.iref (Ty.fn 168 (Ty.prod (Ty.iref (Ty.slice Ty.i)) Ty.unit))) Ty.unit)) (jk 5 (.slot Ty.i (.slot Ty.i (jk 10 .nil)))))), .nil⟩

def q88_X2_0 (i : q88_I2) (p : Int × Unit) : St := ⟨jn 4 (.n (p.1) :: jn 14 ([])), []⟩

def q88_X2_1 (i : q88_I2) (p : Unit) : St := ⟨jn 19 ([]), []⟩

noncomputable def q88_E2 (i : q88_I2) (p : q88_Q2) (R : Type) (K : Ex → St → Option R) : Option R := sumC p (fun p => K (Ex.ret) (q88_X2_0 i p)) fun p => K (Ex.exit 0) (q88_X2_1 i p)

noncomputable def q88_K2 (i : q88_I2) (p : q88_Q2) : Ex × St := sumC p (fun p => (Ex.ret, q88_X2_0 i p)) fun p => (Ex.exit 0, q88_X2_1 i p)

def q88_M2 (i : q88_I2) (v : q88_V2) : den q88_T2.ty := (i.1, i.2.1, i.2.2.1, v.1, ())

def q88_P2 (x : den q88_T2.ty) : q88_I2 × q88_V2 := ((x.1, x.2.1, x.2.2.1, ()), (x.2.2.2.1, ()))

noncomputable def q88_C : Cfg := { ti := g_tis, ents := [q87_Ent], ann := [(2, loopFn q88_T2 0 q88_P2 slices_IndexFunc__impl_ClassifyCycle_5_D2 q88_E2)], lent := 0 }

def q88_ti : Tmpl := ⟨(.slot (Ty.slice YEdge) (.slot (Ty.fn 173 (Ty.prod (Ty.iref (Ty.fn 168 (Ty.prod (Ty.iref (Ty.slice Ty.i)) Ty.unit))) Ty.unit)) .nil)), .nil⟩

def q88_to : Tmpl := ⟨(.slot Ty.i .nil), .nil⟩

noncomputable def slices_IndexFunc__impl_ClassifyCycle_5_S (x : List (Int × Int × Int × Int × Unit) × (Option (Option (List Int) × Unit) × Unit) × Unit) : Option (Int × Unit) :=
  Option.bind (iter (fun v => slices_IndexFunc__impl_ClassifyCycle_5_D2 (x.1, x.2.1, (↑(List.length x.1) : Int), ()) v _ some) (0, ())) fun p => sumC p (fun p => some (p.1, ())) fun p => some (-1, ())

noncomputable def q88_Ent : Ent := ⟨279, q88_ti, q88_to, slices_IndexFunc__impl_ClassifyCycle_5_S⟩

theorem q88_HC : CfgOK Go.Proofs.Tryz.prog q88_C := hc_of g_tisOK g_wide (all_cons q87_OK all_nil)

theorem q88_lk2 : LkOK Go.Proofs.Tryz.prog q88_C (lpc Go.Proofs.Tryz.f279 0) :=
  lk_of q88_HC (m := 0) (T := q88_T2) (sp := q88_P2) (D := slices_IndexFunc__impl_ClassifyCycle_5_D2) (E := q88_E2) (by kernel_rfl) (by kernel_rfl) (fun k hk => absurd hk (Nat.not_lt_zero k)) [4] q88_M2 (fun x => rfl) slices_IndexFunc__impl_ClassifyCycle_5_D2_nat q88_K2 (fun i p R K => by rcases p with p | p <;> rfl) (fun i v => by kernel_rfl)

theorem q88_OK : EntOK Go.Proofs.Tryz.prog q88_Ent := ok_of q88_HC Go.Proofs.Tryz.func279 1 (by kernel_rfl) (fun k hk => match k, hk with | 0, _ => q88_lk2) (by kernel_rfl) (by kernel_rfl) (fun x => by kernel_rfl)

/-! slices.ContainsFunc[[]impl.Edge,impl.Edge] -/

noncomputable def q89_C : Cfg := { ti := g_tis, ents := [q88_Ent], ann := [], lent := 0 }

def q89_ti : Tmpl := ⟨(.slot (Ty.slice YEdge) (.slot (Ty.fn 173 (Ty.prod (Ty.iref (Ty.fn 168 (Ty.prod (Ty.iref (Ty.slice Ty.i)) Ty.unit))) Ty.unit)) .nil)), .nil⟩

def q89_to : Tmpl := ⟨(.slot (Ty.bool) .nil), .nil⟩

noncomputable def slices_ContainsFunc__impl_ClassifyCycle_5_S (x : List (Int × Int × Int × Int × Unit) × (Option (Option (List Int) × Unit) × Unit) × Unit) : Option (Bool × Unit) :=
  Option.bind (slices_IndexFunc__impl_ClassifyCycle_5_S (x.1, x.2.1, ())) fun v => some (decide (v.1 ≥ 0), ())

noncomputable def q89_Ent : Ent := ⟨172, q89_ti, q89_to, slices_ContainsFunc__impl_ClassifyCycle_5_S⟩

theorem q89_HC : CfgOK Go.Proofs.Tryz.prog q89_C := hc_of g_tisOK g_wide (all_cons q88_OK all_nil)

theorem q89_OK : EntOK Go.Proofs.Tryz.prog q89_Ent := ok_of q89_HC Go.Proofs.Tryz.func172 0 (by kernel_rfl) (fun k hk => absurd hk (Nat.not_lt_zero k)) (by kernel_rfl) (by kernel_rfl) (fun x => by kernel_rfl)

/-! impl.ClassifyCycle -/

noncomputable def q90_C : Cfg := { ti := g_tis, ents := [q70_Ent, q78_Ent, q82_Ent, q79_Ent, q85_Ent, q89_Ent], ann := [], lent := 0 }

def q90_ti : Tmpl := ⟨(.slot (Ty.slice (Ty.prod Ty.i (Ty.prod Ty.i (Ty.prod (Ty.slice YReadMark) (Ty.prod (Ty.slice (Ty.prod Ty.i (Ty.prod Ty.i
  Ty.unit))) Ty.unit))))) (.slot (Ty.slice Ty.i) .nil)), .nil⟩

def q90_to : Tmpl := ⟨(.slot Ty.i .nil), .nil⟩

noncomputable def impl_ClassifyCycle_S (x : List (Int × Int × List (Int × Int × Unit) × List (Int × Int × Unit) × Unit) × List Int × Unit) : Option (Int × Unit) :=
  Option.bind (impl_BuildGraph_S (x.1, ())) fun v => Option.bind (impl_CheckCycle_S (v.1, x.2.1, ())) fun v_1 => bif !v_1.1 then some (0, ()) else Option.bind (slices_ContainsFunc__impl_ClassifyCycle_2_S (x.2.1, (some (some x.1, ()), ()), ()))
  fun v_2 => bif v_2.1 then some (3, ()) else bif (↑(List.length x.2.1) : Int) != 2 then some (4, ()) else Option.bind (lAt x.2.1 1) fun v_3 => Option.bind (impl_ClassifyCycle_1_S (v_3, some x.1, ())) fun v_4 => Option.bind (lAt x.2.1 0) fun
  v_5 => Option.bind (impl_ClassifyCycle_1_S (v_5, some x.1, ())) fun v_6 => Option.bind (slices_ContainsFunc__impl_ClassifyCycle_4_S (v_6.2.2.2.1, (some (v_4.1, v_4.2.1, v_4.2.2.1, v_4.2.2.2.1, ()), ()), ())) fun v_7 => bif v_7.1 then some
  (1, ()) else Option.bind (slices_ContainsFunc__impl_ClassifyCycle_5_S (v.1, (some (some x.2.1, ()), ()), ())) fun v => bif !v.1 then some (2, ()) else some (4, ())

noncomputable def q90_Ent : Ent := ⟨80, q90_ti, q90_to, impl_ClassifyCycle_S⟩

theorem q90_HC : CfgOK Go.Proofs.Tryz.prog q90_C := hc_of g_tisOK g_wide (all_cons q70_OK (all_cons q78_OK (all_cons q82_OK (all_cons q79_OK (all_cons q85_OK (all_cons q89_OK all_nil))))))

theorem q90_OK : EntOK Go.Proofs.Tryz.prog q90_Ent := ok_of q90_HC Go.Proofs.Tryz.func80 0 (by kernel_rfl) (fun k hk => absurd hk (Nat.not_lt_zero k)) (by kernel_rfl) (by kernel_rfl) (fun x => by kernel_rfl)

/-! impl.FindAnomaly -/

noncomputable def q91_C : Cfg := { ti := g_tis, ents := [q70_Ent, q77_Ent, q90_Ent], ann := [], lent := 0 }

def q91_ti : Tmpl := ⟨(.slot (Ty.slice (Ty.prod Ty.i (Ty.prod Ty.i (Ty.prod (Ty.slice YReadMark) (Ty.prod (Ty.slice (Ty.prod Ty.i (Ty.prod Ty.i
  Ty.unit))) Ty.unit))))) .nil), .nil⟩

def q91_to : Tmpl := ⟨(.slot Ty.i (.own 0 .nil)), (.lst false Ty.i .nil)⟩

noncomputable def impl_FindAnomaly_S (x : List (Int × Int × List (Int × Int × Unit) × List (Int × Int × Unit) × Unit) × Unit) : Option (Int × List Int × Unit) :=
  Option.bind (impl_BuildGraph_S (x.1, ())) fun v => Option.bind (impl_ShortestCycle_S (v.1, ())) fun v => Option.bind (impl_ClassifyCycle_S (x.1, v.1, ())) fun v_1 => some (v_1.1, v.1, ())

noncomputable def q91_Ent : Ent := ⟨67, q91_ti, q91_to, impl_FindAnomaly_S⟩

theorem q91_HC : CfgOK Go.Proofs.Tryz.prog q91_C := hc_of g_tisOK g_wide (all_cons q70_OK (all_cons q77_OK (all_cons q90_OK all_nil)))

theorem q91_OK : EntOK Go.Proofs.Tryz.prog q91_Ent := ok_of q91_HC Go.Proofs.Tryz.func67 0 (by kernel_rfl) (fun k hk => absurd hk (Nat.not_lt_zero k)) (by kernel_rfl) (by kernel_rfl) (fun x => by kernel_rfl)

/-! impl.AuditHistory -/

noncomputable def q92_C : Cfg := { ti := g_tis, ents := [q54_Ent, q69_Ent, q91_Ent], ann := [], lent := 0 }

def q92_ti : Tmpl := ⟨(.slot (Ty.slice (Ty.prod Ty.i (Ty.prod Ty.i (Ty.prod (Ty.slice YReadMark) (Ty.prod (Ty.slice (Ty.prod Ty.i (Ty.prod Ty.i
  Ty.unit))) Ty.unit))))) .nil), .nil⟩

def q92_to : Tmpl := ⟨(.agg (.own 0 (.own 1 (.slot Ty.i .nil))) (.slot (Ty.bool) .nil)), (.lst false Ty.i (.lst false Ty.i .nil))⟩

noncomputable def impl_AuditHistory_S (x : List (Int × Int × List (Int × Int × Unit) × List (Int × Int × Unit) × Unit) × Unit) : Option (Int × Bool × List Int × List Int × Unit) :=
  Option.bind (impl_IsHistory_S (x.1, ())) fun v => bif !v.1 then some (0, false, [], [], ()) else Option.bind (impl_SerialOrder_S (x.1, ())) fun v => bif v.1 then some (0, true, v.2.1, [], ()) else Option.bind (impl_FindAnomaly_S (x.1, ()))
  fun v => some (v.1, true, [], v.2.1, ())

noncomputable def q92_Ent : Ent := ⟨14, q92_ti, q92_to, impl_AuditHistory_S⟩

theorem q92_HC : CfgOK Go.Proofs.Tryz.prog q92_C := hc_of g_tisOK g_wide (all_cons q54_OK (all_cons q69_OK (all_cons q91_OK all_nil)))

theorem q92_OK : EntOK Go.Proofs.Tryz.prog q92_Ent := ok_of q92_HC Go.Proofs.Tryz.func14 0 (by kernel_rfl) (fun k hk => absurd hk (Nat.not_lt_zero k)) (by kernel_rfl) (by kernel_rfl) (fun x => by kernel_rfl)

/-! laws.eqIntS -/

abbrev q93_I4 : Type := List Int × List Int × Unit

abbrev q93_V4 : Type := Int × Unit

abbrev q93_Q4 : Type := Unit ⊕ Unit

noncomputable def laws_eqIntS_D4 (i : q93_I4) (v : q93_V4) (R : Type) (K : q93_V4 ⊕ q93_Q4 → Option R) : Option R :=
  bif decide (v.1 < (↑(List.length i.1) : Int)) then Option.bind (lAt i.1 v.1) fun v_1 => Option.bind (lAt i.2.1 v.1) fun v_2 => bif v_1 != v_2 then K (Sum.inr (Sum.inl ())) else K (Sum.inl (IntKind.wrap IntKind.i64 (v.1 + 1), ())) else K
  (Sum.inr (Sum.inr ()))

theorem laws_eqIntS_D4_nat : NatD laws_eqIntS_D4 := fun i v R K => nat_bif (nat_bind fun _ => nat_bind fun _ => nat_bif (nat_some) (nat_some)) (nat_some)

def q93_T4 : Tmpl := ⟨(.slot (Ty.slice Ty.i) (.slot (Ty.slice Ty.i) (jk 3 (.slot Ty.i (jk 20 .nil))))), .nil⟩

def q93_X4_0 (i : q93_I4) (p : Unit) : St := ⟨jn 4 (.b (false) :: jn 21 ([])), []⟩

def q93_X4_1 (i : q93_I4) (p : Unit) : St := ⟨jn 26 ([]), []⟩

noncomputable def q93_E4 (i : q93_I4) (p : q93_Q4) (R : Type) (K : Ex → St → Option R) : Option R := sumC p (fun p => K (Ex.ret) (q93_X4_0 i p)) fun p => K (Ex.exit 0) (q93_X4_1 i p)

noncomputable def q93_K4 (i : q93_I4) (p : q93_Q4) : Ex × St := sumC p (fun p => (Ex.ret, q93_X4_0 i p)) fun p => (Ex.exit 0, q93_X4_1 i p)

def q93_M4 (i : q93_I4) (v : q93_V4) : den q93_T4.ty := (i.1, i.2.1, v.1, ())

def q93_P4 (x : den q93_T4.ty) : q93_I4 × q93_V4 := ((x.1, x.2.1, ()), (x.2.2.1, ()))

noncomputable def q93_C : Cfg := { ti := g_tis, ents := [], ann := [(4, loopFn q93_T4 0 q93_P4 laws_eqIntS_D4 q93_E4)], lent := 0 }

def q93_ti : Tmpl := ⟨(.slot (Ty.slice Ty.i) (.slot (Ty.slice Ty.i) .nil)), .nil⟩

def q93_to : Tmpl := ⟨(.slot (Ty.bool) .nil), .nil⟩

noncomputable def laws_eqIntS_S (x : List Int × List Int × Unit) : Option (Bool × Unit) :=
  bif (↑(List.length x.1) : Int) != (↑(List.length x.2.1) : Int) then some (false, ()) else Option.bind (iter (fun v => laws_eqIntS_D4 (x.1, x.2.1, ()) v _ some) (0, ())) fun p => sumC p (fun p => some (false, ())) fun p => some
  (true, ())

noncomputable def q93_Ent : Ent := ⟨33, q93_ti, q93_to, laws_eqIntS_S⟩

theorem q93_HC : CfgOK Go.Proofs.Tryz.prog q93_C := hc_of g_tisOK g_wide all_nil

theorem q93_lk4 : LkOK Go.Proofs.Tryz.prog q93_C (lpc Go.Proofs.Tryz.f33 0) :=
  lk_of q93_HC (m := 0) (T := q93_T4) (sp := q93_P4) (D := laws_eqIntS_D4) (E := q93_E4) (by kernel_rfl) (by kernel_rfl) (fun k hk => absurd hk (Nat.not_lt_zero k)) [4] q93_M4 (fun x => rfl) laws_eqIntS_D4_nat q93_K4 (fun i p R K => by rcases p with p | p <;> rfl) (fun i v => by kernel_rfl)

theorem q93_OK : EntOK Go.Proofs.Tryz.prog q93_Ent := ok_of q93_HC Go.Proofs.Tryz.func33 1 (by kernel_rfl) (fun k hk => match k, hk with | 0, _ => q93_lk4) (by kernel_rfl) (by kernel_rfl) (fun x => by kernel_rfl)

/-! laws.eqReport -/

noncomputable def q94_C : Cfg := { ti := g_tis, ents := [q93_Ent], ann := [], lent := 0 }

def q94_ti : Tmpl := ⟨(.slot YReport (.slot YReport .nil)), .nil⟩

def q94_to : Tmpl := ⟨(.slot (Ty.bool) .nil), .nil⟩

noncomputable def laws_eqReport_S (x : (List Int × List Int × Int × Unit) × (List Int × List Int × Int × Unit) × Unit) : Option (Bool × Unit) :=
  Option.bind (laws_eqIntS_S (x.1.1, x.2.1.1, ())) fun v => bif !v.1 then some (false, ()) else Option.bind (laws_eqIntS_S (x.1.2.1, x.2.1.2.1, ())) fun v => bif !v.1 then some (false, ()) else bif x.1.2.2.1 != x.2.1.2.2.1 then some (false,
  ()) else some (true, ())

noncomputable def q94_Ent : Ent := ⟨15, q94_ti, q94_to, laws_eqReport_S⟩

theorem q94_HC : CfgOK Go.Proofs.Tryz.prog q94_C := hc_of g_tisOK g_wide (all_cons q93_OK all_nil)

theorem q94_OK : EntOK Go.Proofs.Tryz.prog q94_Ent := ok_of q94_HC Go.Proofs.Tryz.func15 0 (by kernel_rfl) (fun k hk => absurd hk (Nat.not_lt_zero k)) (by kernel_rfl) (by kernel_rfl) (fun x => by kernel_rfl)

/-! laws.eqReadMark -/

noncomputable def q95_C : Cfg := { ti := g_tis, ents := [], ann := [], lent := 0 }

def q95_ti : Tmpl := ⟨(.slot YReadMark (.slot YReadMark .nil)), .nil⟩

def q95_to : Tmpl := ⟨(.slot (Ty.bool) .nil), .nil⟩

noncomputable def laws_eqReadMark_S (x : (Int × Int × Unit) × (Int × Int × Unit) × Unit) : Option (Bool × Unit) :=
  bif x.1.1 != x.2.1.1 then some (false, ()) else bif x.1.2.1 != x.2.1.2.1 then some (false, ()) else some (true, ())

noncomputable def q95_Ent : Ent := ⟨267, q95_ti, q95_to, laws_eqReadMark_S⟩

theorem q95_HC : CfgOK Go.Proofs.Tryz.prog q95_C := hc_of g_tisOK g_wide all_nil

theorem q95_OK : EntOK Go.Proofs.Tryz.prog q95_Ent := ok_of q95_HC Go.Proofs.Tryz.func267 0 (by kernel_rfl) (fun k hk => absurd hk (Nat.not_lt_zero k)) (by kernel_rfl) (by kernel_rfl) (fun x => by kernel_rfl)

/-! laws.eqReadMarkS -/

abbrev q96_I4 : Type := List (Int × Int × Unit) × List (Int × Int × Unit) × Unit

abbrev q96_V4 : Type := Int × Unit

abbrev q96_Q4 : Type := Unit ⊕ Unit

noncomputable def laws_eqReadMarkS_D4 (i : q96_I4) (v : q96_V4) (R : Type) (K : q96_V4 ⊕ q96_Q4 → Option R) : Option R :=
  bif decide (v.1 < (↑(List.length i.1) : Int)) then Option.bind (lAt i.1 v.1) fun v_1 => Option.bind (lAt i.2.1 v.1) fun v_2 => Option.bind (laws_eqReadMark_S ((v_1.1, v_1.2.1, ()), (v_2.1, v_2.2.1, ()), ())) fun v_3 => bif !v_3.1 then K
  (Sum.inr (Sum.inl ())) else K (Sum.inl (IntKind.wrap IntKind.i64 (v.1 + 1), ())) else K (Sum.inr (Sum.inr ()))

theorem laws_eqReadMarkS_D4_nat : NatD laws_eqReadMarkS_D4 := fun i v R K => nat_bif (nat_bind fun _ => nat_bind fun _ => nat_bind fun _ => nat_bif (nat_some) (nat_some)) (nat_some)

def q96_T4 : Tmpl := ⟨(.slot (Ty.slice YReadMark) (.slot (Ty.slice YReadMark) (jk 3 (.slot Ty.i (jk 21 .nil))))), .nil⟩

def q96_X4_0 (i : q96_I4) (p : Unit) : St := ⟨jn 4 (.b (false) :: jn 22 ([])), []⟩

def q96_X4_1 (i : q96_I4) (p : Unit) : St := ⟨jn 27 ([]), []⟩

noncomputable def q96_E4 (i : q96_I4) (p : q96_Q4) (R : Type) (K : Ex → St → Option R) : Option R := sumC p (fun p => K (Ex.ret) (q96_X4_0 i p)) fun p => K (Ex.exit 0) (q96_X4_1 i p)

noncomputable def q96_K4 (i : q96_I4) (p : q96_Q4) : Ex × St := sumC p (fun p => (Ex.ret, q96_X4_0 i p)) fun p => (Ex.exit 0, q96_X4_1 i p)

def q96_M4 (i : q96_I4) (v : q96_V4) : den q96_T4.ty := (i.1, i.2.1, v.1, ())

def q96_P4 (x : den q96_T4.ty) : q96_I4 × q96_V4 := ((x.1, x.2.1, ()), (x.2.2.1, ()))

noncomputable def q96_C : Cfg := { ti := g_tis, ents := [q95_Ent], ann := [(4, loopFn q96_T4 0 q96_P4 laws_eqReadMarkS_D4 q96_E4)], lent := 0 }

def q96_ti : Tmpl := ⟨(.slot (Ty.slice YReadMark) (.slot (Ty.slice YReadMark) .nil)), .nil⟩

def q96_to : Tmpl := ⟨(.slot (Ty.bool) .nil), .nil⟩

noncomputable def laws_eqReadMarkS_S (x : List (Int × Int × Unit) × List (Int × Int × Unit) × Unit) : Option (Bool × Unit) :=
  bif (↑(List.length x.1) : Int) != (↑(List.length x.2.1) : Int) then some (false, ()) else Option.bind (iter (fun v => laws_eqReadMarkS_D4 (x.1, x.2.1, ()) v _ some) (0, ())) fun p => sumC p (fun p => some (false, ())) fun p => some
  (true, ())

noncomputable def q96_Ent : Ent := ⟨149, q96_ti, q96_to, laws_eqReadMarkS_S⟩

theorem q96_HC : CfgOK Go.Proofs.Tryz.prog q96_C := hc_of g_tisOK g_wide (all_cons q95_OK all_nil)

theorem q96_lk4 : LkOK Go.Proofs.Tryz.prog q96_C (lpc Go.Proofs.Tryz.f149 0) :=
  lk_of q96_HC (m := 0) (T := q96_T4) (sp := q96_P4) (D := laws_eqReadMarkS_D4) (E := q96_E4) (by kernel_rfl) (by kernel_rfl) (fun k hk => absurd hk (Nat.not_lt_zero k)) [4] q96_M4 (fun x => rfl) laws_eqReadMarkS_D4_nat q96_K4 (fun i p R K => by rcases p with p | p <;> rfl) (fun i v => by kernel_rfl)

theorem q96_OK : EntOK Go.Proofs.Tryz.prog q96_Ent := ok_of q96_HC Go.Proofs.Tryz.func149 1 (by kernel_rfl) (fun k hk => match k, hk with | 0, _ => q96_lk4) (by kernel_rfl) (by kernel_rfl) (fun x => by kernel_rfl)

/-! laws.eqWrite -/

noncomputable def q97_C : Cfg := { ti := g_tis, ents := [], ann := [], lent := 0 }

def q97_ti : Tmpl := ⟨(.slot YReadMark (.slot YReadMark .nil)), .nil⟩

def q97_to : Tmpl := ⟨(.slot (Ty.bool) .nil), .nil⟩

noncomputable def laws_eqWrite_S (x : (Int × Int × Unit) × (Int × Int × Unit) × Unit) : Option (Bool × Unit) :=
  bif x.1.1 != x.2.1.1 then some (false, ()) else bif x.1.2.1 != x.2.1.2.1 then some (false, ()) else some (true, ())

noncomputable def q97_Ent : Ent := ⟨268, q97_ti, q97_to, laws_eqWrite_S⟩

theorem q97_HC : CfgOK Go.Proofs.Tryz.prog q97_C := hc_of g_tisOK g_wide all_nil

theorem q97_OK : EntOK Go.Proofs.Tryz.prog q97_Ent := ok_of q97_HC Go.Proofs.Tryz.func268 0 (by kernel_rfl) (fun k hk => absurd hk (Nat.not_lt_zero k)) (by kernel_rfl) (by kernel_rfl) (fun x => by kernel_rfl)

/-! laws.eqWriteS -/

abbrev q98_I4 : Type := List (Int × Int × Unit) × List (Int × Int × Unit) × Unit

abbrev q98_V4 : Type := Int × Unit

abbrev q98_Q4 : Type := Unit ⊕ Unit

noncomputable def laws_eqWriteS_D4 (i : q98_I4) (v : q98_V4) (R : Type) (K : q98_V4 ⊕ q98_Q4 → Option R) : Option R :=
  bif decide (v.1 < (↑(List.length i.1) : Int)) then Option.bind (lAt i.1 v.1) fun v_1 => Option.bind (lAt i.2.1 v.1) fun v_2 => Option.bind (laws_eqWrite_S ((v_1.1, v_1.2.1, ()), (v_2.1, v_2.2.1, ()), ())) fun v_3 => bif !v_3.1 then K
  (Sum.inr (Sum.inl ())) else K (Sum.inl (IntKind.wrap IntKind.i64 (v.1 + 1), ())) else K (Sum.inr (Sum.inr ()))

theorem laws_eqWriteS_D4_nat : NatD laws_eqWriteS_D4 := fun i v R K => nat_bif (nat_bind fun _ => nat_bind fun _ => nat_bind fun _ => nat_bif (nat_some) (nat_some)) (nat_some)

def q98_T4 : Tmpl := ⟨(.slot (Ty.slice YReadMark) (.slot (Ty.slice YReadMark) (jk 3 (.slot Ty.i (jk 21 .nil))))), .nil⟩

def q98_X4_0 (i : q98_I4) (p : Unit) : St := ⟨jn 4 (.b (false) :: jn 22 ([])), []⟩

def q98_X4_1 (i : q98_I4) (p : Unit) : St := ⟨jn 27 ([]), []⟩

noncomputable def q98_E4 (i : q98_I4) (p : q98_Q4) (R : Type) (K : Ex → St → Option R) : Option R := sumC p (fun p => K (Ex.ret) (q98_X4_0 i p)) fun p => K (Ex.exit 0) (q98_X4_1 i p)

noncomputable def q98_K4 (i : q98_I4) (p : q98_Q4) : Ex × St := sumC p (fun p => (Ex.ret, q98_X4_0 i p)) fun p => (Ex.exit 0, q98_X4_1 i p)

def q98_M4 (i : q98_I4) (v : q98_V4) : den q98_T4.ty := (i.1, i.2.1, v.1, ())

def q98_P4 (x : den q98_T4.ty) : q98_I4 × q98_V4 := ((x.1, x.2.1, ()), (x.2.2.1, ()))

noncomputable def q98_C : Cfg := { ti := g_tis, ents := [q97_Ent], ann := [(4, loopFn q98_T4 0 q98_P4 laws_eqWriteS_D4 q98_E4)], lent := 0 }

def q98_ti : Tmpl := ⟨(.slot (Ty.slice YReadMark) (.slot (Ty.slice YReadMark) .nil)), .nil⟩

def q98_to : Tmpl := ⟨(.slot (Ty.bool) .nil), .nil⟩

noncomputable def laws_eqWriteS_S (x : List (Int × Int × Unit) × List (Int × Int × Unit) × Unit) : Option (Bool × Unit) :=
  bif (↑(List.length x.1) : Int) != (↑(List.length x.2.1) : Int) then some (false, ()) else Option.bind (iter (fun v => laws_eqWriteS_D4 (x.1, x.2.1, ()) v _ some) (0, ())) fun p => sumC p (fun p => some (false, ())) fun p => some
  (true, ())

noncomputable def q98_Ent : Ent := ⟨150, q98_ti, q98_to, laws_eqWriteS_S⟩

theorem q98_HC : CfgOK Go.Proofs.Tryz.prog q98_C := hc_of g_tisOK g_wide (all_cons q97_OK all_nil)

theorem q98_lk4 : LkOK Go.Proofs.Tryz.prog q98_C (lpc Go.Proofs.Tryz.f150 0) :=
  lk_of q98_HC (m := 0) (T := q98_T4) (sp := q98_P4) (D := laws_eqWriteS_D4) (E := q98_E4) (by kernel_rfl) (by kernel_rfl) (fun k hk => absurd hk (Nat.not_lt_zero k)) [4] q98_M4 (fun x => rfl) laws_eqWriteS_D4_nat q98_K4 (fun i p R K => by rcases p with p | p <;> rfl) (fun i v => by kernel_rfl)

theorem q98_OK : EntOK Go.Proofs.Tryz.prog q98_Ent := ok_of q98_HC Go.Proofs.Tryz.func150 1 (by kernel_rfl) (fun k hk => match k, hk with | 0, _ => q98_lk4) (by kernel_rfl) (by kernel_rfl) (fun x => by kernel_rfl)

/-! laws.eqEntry -/

noncomputable def q99_C : Cfg := { ti := g_tis, ents := [q96_Ent, q98_Ent], ann := [], lent := 0 }

def q99_ti : Tmpl := ⟨(.slot (Ty.prod Ty.i (Ty.prod Ty.i (Ty.prod (Ty.slice YReadMark) (Ty.prod (Ty.slice YReadMark)
  Ty.unit)))) (.slot (Ty.prod Ty.i (Ty.prod Ty.i (Ty.prod (Ty.slice YReadMark) (Ty.prod (Ty.slice YReadMark)
  Ty.unit)))) .nil)), .nil⟩

def q99_to : Tmpl := ⟨(.slot (Ty.bool) .nil), .nil⟩

noncomputable def laws_eqEntry_S (x : (Int × Int × List (Int × Int × Unit) × List (Int × Int × Unit) × Unit) × (Int × Int × List (Int × Int × Unit) × List (Int × Int × Unit) × Unit) × Unit) : Option (Bool × Unit) :=
  bif x.1.1 != x.2.1.1 then some (false, ()) else bif x.1.2.1 != x.2.1.2.1 then some (false, ()) else Option.bind (laws_eqReadMarkS_S (x.1.2.2.1, x.2.1.2.2.1, ())) fun v => bif !v.1 then some (false, ()) else Option.bind (laws_eqWriteS_S
  (x.1.2.2.2.1, x.2.1.2.2.2.1, ())) fun v => bif !v.1 then some (false, ()) else some (true, ())

noncomputable def q99_Ent : Ent := ⟨68, q99_ti, q99_to, laws_eqEntry_S⟩

theorem q99_HC : CfgOK Go.Proofs.Tryz.prog q99_C := hc_of g_tisOK g_wide (all_cons q96_OK (all_cons q98_OK all_nil))

theorem q99_OK : EntOK Go.Proofs.Tryz.prog q99_Ent := ok_of q99_HC Go.Proofs.Tryz.func68 0 (by kernel_rfl) (fun k hk => absurd hk (Nat.not_lt_zero k)) (by kernel_rfl) (by kernel_rfl) (fun x => by kernel_rfl)

/-! laws.eqEntryS -/

abbrev q100_I4 : Type := List (Int × Int × List (Int × Int × Unit) × List (Int × Int × Unit) × Unit) × List (Int × Int × List (Int × Int × Unit) × List (Int × Int × Unit) × Unit) × Unit

abbrev q100_V4 : Type := Int × Unit

abbrev q100_Q4 : Type := Unit ⊕ Unit

noncomputable def laws_eqEntryS_D4 (i : q100_I4) (v : q100_V4) (R : Type) (K : q100_V4 ⊕ q100_Q4 → Option R) : Option R :=
  bif decide (v.1 < (↑(List.length i.1) : Int)) then Option.bind (lAt i.1 v.1) fun v_1 => Option.bind (lAt i.2.1 v.1) fun v_2 => Option.bind (laws_eqEntry_S ((v_1.1, v_1.2.1, v_1.2.2.1, v_1.2.2.2.1, ()), (v_2.1, v_2.2.1, v_2.2.2.1,
  v_2.2.2.2.1, ()), ())) fun v_3 => bif !v_3.1 then K (Sum.inr (Sum.inl ())) else K (Sum.inl (IntKind.wrap IntKind.i64 (v.1 + 1), ())) else K (Sum.inr (Sum.inr ()))

theorem laws_eqEntryS_D4_nat : NatD laws_eqEntryS_D4 := fun i v R K => nat_bif (nat_bind fun _ => nat_bind fun _ => nat_bind fun _ => nat_bif (nat_some) (nat_some)) (nat_some)

def q100_T4 : Tmpl := ⟨(.slot (Ty.slice (Ty.prod Ty.i (Ty.prod Ty.i (Ty.prod (Ty.slice YReadMark) (Ty.prod (Ty.slice (Ty.prod Ty.i (Ty.prod Ty.i
  Ty.unit))) Ty.unit))))) (.slot (Ty.slice (Ty.prod Ty.i (Ty.prod Ty.i (Ty.prod (Ty.slice YReadMark) (Ty.prod (Ty.slice (Ty.prod Ty.i (Ty.prod Ty.i
  Ty.unit))) Ty.unit))))) (jk 3 (.slot Ty.i (jk 21 .nil))))), .nil⟩

def q100_X4_0 (i : q100_I4) (p : Unit) : St := ⟨jn 4 (.b (false) :: jn 22 ([])), []⟩

def q100_X4_1 (i : q100_I4) (p : Unit) : St := ⟨jn 27 ([]), []⟩

noncomputable def q100_E4 (i : q100_I4) (p : q100_Q4) (R : Type) (K : Ex → St → Option R) : Option R := sumC p (fun p => K (Ex.ret) (q100_X4_0 i p)) fun p => K (Ex.exit 0) (q100_X4_1 i p)

noncomputable def q100_K4 (i : q100_I4) (p : q100_Q4) : Ex × St := sumC p (fun p => (Ex.ret, q100_X4_0 i p)) fun p => (Ex.exit 0, q100_X4_1 i p)

def q100_M4 (i : q100_I4) (v : q100_V4) : den q100_T4.ty := (i.1, i.2.1, v.1, ())

def q100_P4 (x : den q100_T4.ty) : q100_I4 × q100_V4 := ((x.1, x.2.1, ()), (x.2.2.1, ()))

noncomputable def q100_C : Cfg := { ti := g_tis, ents := [q99_Ent], ann := [(4, loopFn q100_T4 0 q100_P4 laws_eqEntryS_D4 q100_E4)], lent := 0 }

def q100_ti : Tmpl := ⟨(.slot (Ty.slice (Ty.prod Ty.i (Ty.prod Ty.i (Ty.prod (Ty.slice YReadMark) (Ty.prod (Ty.slice (Ty.prod Ty.i (Ty.prod Ty.i
  Ty.unit))) Ty.unit))))) (.slot (Ty.slice (Ty.prod Ty.i (Ty.prod Ty.i (Ty.prod (Ty.slice YReadMark) (Ty.prod (Ty.slice (Ty.prod Ty.i (Ty.prod Ty.i
  Ty.unit))) Ty.unit))))) .nil)), .nil⟩

def q100_to : Tmpl := ⟨(.slot (Ty.bool) .nil), .nil⟩

noncomputable def laws_eqEntryS_S (x : List (Int × Int × List (Int × Int × Unit) × List (Int × Int × Unit) × Unit) × List (Int × Int × List (Int × Int × Unit) × List (Int × Int × Unit) × Unit) × Unit) : Option (Bool × Unit) :=
  bif (↑(List.length x.1) : Int) != (↑(List.length x.2.1) : Int) then some (false, ()) else Option.bind (iter (fun v => laws_eqEntryS_D4 (x.1, x.2.1, ()) v _ some) (0, ())) fun p => sumC p (fun p => some (false, ())) fun p => some
  (true, ())

noncomputable def q100_Ent : Ent := ⟨16, q100_ti, q100_to, laws_eqEntryS_S⟩

theorem q100_HC : CfgOK Go.Proofs.Tryz.prog q100_C := hc_of g_tisOK g_wide (all_cons q99_OK all_nil)

theorem q100_lk4 : LkOK Go.Proofs.Tryz.prog q100_C (lpc Go.Proofs.Tryz.f16 0) :=
  lk_of q100_HC (m := 0) (T := q100_T4) (sp := q100_P4) (D := laws_eqEntryS_D4) (E := q100_E4) (by kernel_rfl) (by kernel_rfl) (fun k hk => absurd hk (Nat.not_lt_zero k)) [4] q100_M4 (fun x => rfl) laws_eqEntryS_D4_nat q100_K4 (fun i p R K => by rcases p with p | p <;> rfl) (fun i v => by kernel_rfl)

theorem q100_OK : EntOK Go.Proofs.Tryz.prog q100_Ent := ok_of q100_HC Go.Proofs.Tryz.func16 1 (by kernel_rfl) (fun k hk => match k, hk with | 0, _ => q100_lk4) (by kernel_rfl) (by kernel_rfl) (fun x => by kernel_rfl)

/-! laws.markReadMarkS -/

abbrev q101_I2 : Type := Nat × Unit

abbrev q101_V2 : Type := Int × Int × List (Int × Int × List (Int × Int × Unit) × List (Int × Int × Unit) × Unit) × Unit

abbrev q101_Q2 : Type := Int × List (Int × Int × List (Int × Int × Unit) × List (Int × Int × Unit) × Unit) × Unit

noncomputable def laws_markReadMarkS_n_D2 (i : q101_I2) (v : q101_V2) (R : Type) (K : q101_V2 ⊕ q101_Q2 → Option R) : Option R :=
  Option.bind v.2.2.1[i.1]? fun v_1 => bif decide (v.2.1 < (↑(List.length v_1.2.2.1) : Int)) then Option.bind v.2.2.1[i.1]? fun v_2 => if 0 ≤ v.2.1 ∧ v.2.1 < (↑(List.length v_2.2.2.1) : Int) then Option.bind v.2.2.1[i.1]? fun v_3 =>
  Option.bind v_3.2.2.1[0 + Int.toNat v.2.1]? fun v_4 => Option.bind (List.set v.2.2.1 i.1 (v_3.1, v_3.2.1, List.set v_3.2.2.1 (0 + Int.toNat v.2.1) (v.1, v_4.2.1, ()), v_3.2.2.2.1, ()))[i.1]? fun v_5 => if 0 ≤ v.2.1 ∧ v.2.1 < (↑(List.length
  v_5.2.2.1) : Int) then Option.bind (List.set v.2.2.1 i.1 (v_3.1, v_3.2.1, List.set v_3.2.2.1 (0 + Int.toNat v.2.1) (v.1, v_4.2.1, ()), v_3.2.2.2.1, ()))[i.1]? fun v_6 => Option.bind v_6.2.2.1[0 + Int.toNat v.2.1]? fun v_7 => K (Sum.inl
  (IntKind.wrap IntKind.i64 (IntKind.wrap IntKind.i64 (v.1 + 1) + 1), IntKind.wrap IntKind.i64 (v.2.1 + 1), List.set (List.set v.2.2.1 i.1 (v_3.1, v_3.2.1, List.set v_3.2.2.1 (0 + Int.toNat v.2.1) (v.1, v_4.2.1, ()), v_3.2.2.2.1, ())) i.1
  (v_6.1, v_6.2.1, List.set v_6.2.2.1 (0 + Int.toNat v.2.1) (v_7.1, IntKind.wrap IntKind.i64 (v.1 + 1), ()), v_6.2.2.2.1, ()), ())) else none else none else K (Sum.inr (v.1, v.2.2.1, ()))

theorem laws_markReadMarkS_n_D2_nat : NatD laws_markReadMarkS_n_D2 := fun i v R K => nat_bind fun _ => nat_bif (nat_bind fun _ => nat_ite (nat_bind fun _ => nat_bind fun _ => nat_bind fun _ => nat_ite (nat_bind fun _ => nat_bind fun _ => nat_some))) (nat_some)

def q101_T2 : Tmpl := ⟨(.nown 0 2 (.slot Ty.i (jk 3 (.slot Ty.i (jk 21 .nil))))), (.tree false 0 (Ty.prod Ty.i (Ty.prod Ty.i (Ty.prod (Ty.slice YReadMark) (Ty.prod (Ty.slice YReadMark)
  Ty.unit)))) .nil)⟩

def q101_X2_0 (i : q101_I2) (p : Int × List (Int × Int × List (Int × Int × Unit) × List (Int × Int × Unit) × Unit) × Unit) : St := ⟨jn 1 (.n (p.1) :: jn 25 ([])), [some (Cont.tree false 0 (Ty.prod Ty.i (Ty.prod Ty.i (Ty.prod (Ty.slice YReadMark) (Ty.prod (Ty.slice (Ty.prod
  Ty.i (Ty.prod Ty.i Ty.unit))) Ty.unit)))) p.2.1 none)]⟩

noncomputable def q101_E2 (i : q101_I2) (p : q101_Q2) (R : Type) (K : Ex → St → Option R) : Option R := K (Ex.exit 0) (q101_X2_0 i p)

noncomputable def q101_K2 (i : q101_I2) (p : q101_Q2) : Ex × St := (Ex.exit 0, q101_X2_0 i p)

def q101_M2 (i : q101_I2) (v : q101_V2) : den q101_T2.ty := (i.1, v.1, v.2.1, v.2.2.1, ())

def q101_P2 (x : den q101_T2.ty) : q101_I2 × q101_V2 := ((x.1, ()), (x.2.1, x.2.2.1, x.2.2.2.1, ()))

noncomputable def q101_C : Cfg := { ti := g_tis, ents := [], ann := [(2, loopFn q101_T2 1 q101_P2 laws_markReadMarkS_n_D2 q101_E2)], lent := 1 }

def q101_ti : Tmpl := ⟨(.nown 0 2 (.slot Ty.i .nil)), (.tree false 0 (Ty.prod Ty.i (Ty.prod Ty.i (Ty.prod (Ty.slice YReadMark) (Ty.prod (Ty.slice YReadMark)
  Ty.unit)))) .nil)⟩

def q101_to : Tmpl := ⟨(.slot Ty.i .nil), (.tree false 0 (Ty.prod Ty.i (Ty.prod Ty.i (Ty.prod (Ty.slice YReadMark) (Ty.prod (Ty.slice YReadMark)
  Ty.unit)))) .nil)⟩

noncomputable def laws_markReadMarkS_n_S (x : Nat × Int × List (Int × Int × List (Int × Int × Unit) × List (Int × Int × Unit) × Unit) × Unit) : Option (Int × List (Int × Int × List (Int × Int × Unit) × List (Int × Int × Unit) × Unit) × Unit) :=
  Option.bind (iter (fun v => laws_markReadMarkS_n_D2 (x.1, ()) v _ some) (x.2.1, 0, x.2.2.1, ())) fun p => some (p.1, p.2.1, ())

noncomputable def q101_Ent : Ent := ⟨69, q101_ti, q101_to, laws_markReadMarkS_n_S⟩

theorem q101_HC : CfgOK Go.Proofs.Tryz.prog q101_C := hc_of g_tisOK g_wide all_nil

theorem q101_lk2 : LkOK Go.Proofs.Tryz.prog q101_C (lpc Go.Proofs.Tryz.f69 0) :=
  lk_of q101_HC (m := 0) (T := q101_T2) (sp := q101_P2) (D := laws_markReadMarkS_n_D2) (E := q101_E2) (by kernel_rfl) (by kernel_rfl) (fun k hk => absurd hk (Nat.not_lt_zero k)) [1] q101_M2 (fun x => rfl) laws_markReadMarkS_n_D2_nat q101_K2 (fun i p R K => rfl) (fun i v => by kernel_rfl)

theorem q101_OK : EntOK Go.Proofs.Tryz.prog q101_Ent := ok_of q101_HC Go.Proofs.Tryz.func69 1 (by kernel_rfl) (fun k hk => match k, hk with | 0, _ => q101_lk2) (by kernel_rfl) (by kernel_rfl) (fun x => by kernel_rfl)

/-! laws.markWriteS -/

abbrev q102_I2 : Type := Nat × Unit

abbrev q102_V2 : Type := Int × Int × List (Int × Int × List (Int × Int × Unit) × List (Int × Int × Unit) × Unit) × Unit

abbrev q102_Q2 : Type := Int × List (Int × Int × List (Int × Int × Unit) × List (Int × Int × Unit) × Unit) × Unit

noncomputable def laws_markWriteS_n_D2 (i : q102_I2) (v : q102_V2) (R : Type) (K : q102_V2 ⊕ q102_Q2 → Option R) : Option R :=
  Option.bind v.2.2.1[i.1]? fun v_1 => bif decide (v.2.1 < (↑(List.length v_1.2.2.2.1) : Int)) then Option.bind v.2.2.1[i.1]? fun v_2 => if 0 ≤ v.2.1 ∧ v.2.1 < (↑(List.length v_2.2.2.2.1) : Int) then Option.bind v.2.2.1[i.1]? fun v_3 =>
  Option.bind v_3.2.2.2.1[0 + Int.toNat v.2.1]? fun v_4 => Option.bind (List.set v.2.2.1 i.1 (v_3.1, v_3.2.1, v_3.2.2.1, List.set v_3.2.2.2.1 (0 + Int.toNat v.2.1) (v.1, v_4.2.1, ()), ()))[i.1]? fun v_5 => if 0 ≤ v.2.1 ∧ v.2.1 < (↑(List.length
  v_5.2.2.2.1) : Int) then Option.bind (List.set v.2.2.1 i.1 (v_3.1, v_3.2.1, v_3.2.2.1, List.set v_3.2.2.2.1 (0 + Int.toNat v.2.1) (v.1, v_4.2.1, ()), ()))[i.1]? fun v_6 => Option.bind v_6.2.2.2.1[0 + Int.toNat v.2.1]? fun v_7 => K (Sum.inl
  (IntKind.wrap IntKind.i64 (IntKind.wrap IntKind.i64 (v.1 + 1) + 1), IntKind.wrap IntKind.i64 (v.2.1 + 1), List.set (List.set v.2.2.1 i.1 (v_3.1, v_3.2.1, v_3.2.2.1, List.set v_3.2.2.2.1 (0 + Int.toNat v.2.1) (v.1, v_4.2.1, ()), ())) i.1
  (v_6.1, v_6.2.1, v_6.2.2.1, List.set v_6.2.2.2.1 (0 + Int.toNat v.2.1) (v_7.1, IntKind.wrap IntKind.i64 (v.1 + 1), ()), ()), ())) else none else none else K (Sum.inr (v.1, v.2.2.1, ()))

theorem laws_markWriteS_n_D2_nat : NatD laws_markWriteS_n_D2 := fun i v R K => nat_bind fun _ => nat_bif (nat_bind fun _ => nat_ite (nat_bind fun _ => nat_bind fun _ => nat_bind fun _ => nat_ite (nat_bind fun _ => nat_bind fun _ => nat_some))) (nat_some)

def q102_T2 : Tmpl := ⟨(.nown 0 3 (.slot Ty.i (jk 3 (.slot Ty.i (jk 21 .nil))))), (.tree false 0 (Ty.prod Ty.i (Ty.prod Ty.i (Ty.prod (Ty.slice YReadMark) (Ty.prod (Ty.slice YReadMark)
  Ty.unit)))) .nil)⟩

def q102_X2_0 (i : q102_I2) (p : Int × List (Int × Int × List (Int × Int × Unit) × List (Int × Int × Unit) × Unit) × Unit) : St := ⟨jn 1 (.n (p.1) :: jn 25 ([])), [some (Cont.tree false 0 (Ty.prod Ty.i (Ty.prod Ty.i (Ty.prod (Ty.slice YReadMark) (Ty.prod (Ty.slice (Ty.prod
  Ty.i (Ty.prod Ty.i Ty.unit))) Ty.unit)))) p.2.1 none)]⟩

noncomputable def q102_E2 (i : q102_I2) (p : q102_Q2) (R : Type) (K : Ex → St → Option R) : Option R := K (Ex.exit 0) (q102_X2_0 i p)

noncomputable def q102_K2 (i : q102_I2) (p : q102_Q2) : Ex × St := (Ex.exit 0, q102_X2_0 i p)

def q102_M2 (i : q102_I2) (v : q102_V2) : den q102_T2.ty := (i.1, v.1, v.2.1, v.2.2.1, ())

def q102_P2 (x : den q102_T2.ty) : q102_I2 × q102_V2 := ((x.1, ()), (x.2.1, x.2.2.1, x.2.2.2.1, ()))

noncomputable def q102_C : Cfg := { ti := g_tis, ents := [], ann := [(2, loopFn q102_T2 1 q102_P2 laws_markWriteS_n_D2 q102_E2)], lent := 1 }

def q102_ti : Tmpl := ⟨(.nown 0 3 (.slot Ty.i .nil)), (.tree false 0 (Ty.prod Ty.i (Ty.prod Ty.i (Ty.prod (Ty.slice YReadMark) (Ty.prod (Ty.slice YReadMark)
  Ty.unit)))) .nil)⟩

def q102_to : Tmpl := ⟨(.slot Ty.i .nil), (.tree false 0 (Ty.prod Ty.i (Ty.prod Ty.i (Ty.prod (Ty.slice YReadMark) (Ty.prod (Ty.slice YReadMark)
  Ty.unit)))) .nil)⟩

noncomputable def laws_markWriteS_n_S (x : Nat × Int × List (Int × Int × List (Int × Int × Unit) × List (Int × Int × Unit) × Unit) × Unit) : Option (Int × List (Int × Int × List (Int × Int × Unit) × List (Int × Int × Unit) × Unit) × Unit) :=
  Option.bind (iter (fun v => laws_markWriteS_n_D2 (x.1, ()) v _ some) (x.2.1, 0, x.2.2.1, ())) fun p => some (p.1, p.2.1, ())

noncomputable def q102_Ent : Ent := ⟨70, q102_ti, q102_to, laws_markWriteS_n_S⟩

theorem q102_HC : CfgOK Go.Proofs.Tryz.prog q102_C := hc_of g_tisOK g_wide all_nil

theorem q102_lk2 : LkOK Go.Proofs.Tryz.prog q102_C (lpc Go.Proofs.Tryz.f70 0) :=
  lk_of q102_HC (m := 0) (T := q102_T2) (sp := q102_P2) (D := laws_markWriteS_n_D2) (E := q102_E2) (by kernel_rfl) (by kernel_rfl) (fun k hk => absurd hk (Nat.not_lt_zero k)) [1] q102_M2 (fun x => rfl) laws_markWriteS_n_D2_nat q102_K2 (fun i p R K => rfl) (fun i v => by kernel_rfl)

theorem q102_OK : EntOK Go.Proofs.Tryz.prog q102_Ent := ok_of q102_HC Go.Proofs.Tryz.func70 1 (by kernel_rfl) (fun k hk => match k, hk with | 0, _ => q102_lk2) (by kernel_rfl) (by kernel_rfl) (fun x => by kernel_rfl)

/-! laws.markEntryS -/

abbrev q103_I2 : Type := Unit

abbrev q103_V2 : Type := Int × Int × List (Int × Int × List (Int × Int × Unit) × List (Int × Int × Unit) × Unit) × Unit

abbrev q103_Q2 : Type := Int × List (Int × Int × List (Int × Int × Unit) × List (Int × Int × Unit) × Unit) × Unit

noncomputable def laws_markEntryS_l_D2 (i : q103_I2) (v : q103_V2) (R : Type) (K : q103_V2 ⊕ q103_Q2 → Option R) : Option R :=
  bif decide (v.2.1 < (↑(List.length v.2.2.1) : Int)) then if 0 ≤ v.2.1 ∧ v.2.1 < (↑(List.length v.2.2.1) : Int) then Option.bind v.2.2.1[0 + Int.toNat v.2.1]? fun v_1 => if 0 ≤ v.2.1 ∧ v.2.1 < (↑(List.length (List.set v.2.2.1 (0 + Int.toNat
  v.2.1) (v.1, v_1.2.1, v_1.2.2.1, v_1.2.2.2.1, ()))) : Int) then Option.bind (List.set v.2.2.1 (0 + Int.toNat v.2.1) (v.1, v_1.2.1, v_1.2.2.1, v_1.2.2.2.1, ()))[0 + Int.toNat v.2.1]? fun v_2 => if 0 ≤ v.2.1 ∧ v.2.1 < (↑(List.length (List.set
  (List.set v.2.2.1 (0 + Int.toNat v.2.1) (v.1, v_1.2.1, v_1.2.2.1, v_1.2.2.2.1, ())) (0 + Int.toNat v.2.1) (v_2.1, IntKind.wrap IntKind.i64 (v.1 + 1), v_2.2.2.1, v_2.2.2.2.1, ()))) : Int) then Option.bind (List.set (List.set v.2.2.1 (0 +
  Int.toNat v.2.1) (v.1, v_1.2.1, v_1.2.2.1, v_1.2.2.2.1, ())) (0 + Int.toNat v.2.1) (v_2.1, IntKind.wrap IntKind.i64 (v.1 + 1), v_2.2.2.1, v_2.2.2.2.1, ()))[0 + Int.toNat v.2.1]? fun v_3 => Option.bind (laws_markReadMarkS_n_S (0 + Int.toNat
  v.2.1, IntKind.wrap IntKind.i64 (IntKind.wrap IntKind.i64 (v.1 + 1) + 1), List.set (List.set v.2.2.1 (0 + Int.toNat v.2.1) (v.1, v_1.2.1, v_1.2.2.1, v_1.2.2.2.1, ())) (0 + Int.toNat v.2.1) (v_2.1, IntKind.wrap IntKind.i64 (v.1 + 1),
  v_2.2.2.1, v_2.2.2.2.1, ()), ())) fun v_4 => if 0 ≤ v.2.1 ∧ v.2.1 < (↑(List.length v_4.2.1) : Int) then Option.bind v_4.2.1[0 + Int.toNat v.2.1]? fun v_5 => Option.bind (laws_markWriteS_n_S (0 + Int.toNat v.2.1, v_4.1, v_4.2.1, ())) fun v_6
  => K (Sum.inl (v_6.1, IntKind.wrap IntKind.i64 (v.2.1 + 1), v_6.2.1, ())) else none else none else none else none else K (Sum.inr (v.1, v.2.2.1, ()))

theorem laws_markEntryS_l_D2_nat : NatD laws_markEntryS_l_D2 := fun i v R K => nat_bif (nat_ite (nat_bind fun _ => nat_ite (nat_bind fun _ => nat_ite (nat_bind fun _ => nat_bind fun _ => nat_ite (nat_bind fun _ => nat_bind fun _ => nat_some))))) (nat_some)

def q103_T2 : Tmpl := ⟨(.own 0 (.slot Ty.i (jk 3 (.slot Ty.i (jk 35 .nil))))), (.tree false 1 (Ty.prod Ty.i (Ty.prod Ty.i (Ty.prod (Ty.slice YReadMark) (Ty.prod (Ty.slice YReadMark)
  Ty.unit)))) .nil)⟩

def q103_X2_0 (i : q103_I2) (p : Int × List (Int × Int × List (Int × Int × Unit) × List (Int × Int × Unit) × Unit) × Unit) : St := ⟨jn 1 (.n (p.1) :: jn 39 ([])), [some (Cont.tree false 1 (Ty.prod Ty.i (Ty.prod Ty.i (Ty.prod (Ty.slice YReadMark) (Ty.prod (Ty.slice (Ty.prod
  Ty.i (Ty.prod Ty.i Ty.unit))) Ty.unit)))) p.2.1 none)]⟩

noncomputable def q103_E2 (i : q103_I2) (p : q103_Q2) (R : Type) (K : Ex → St → Option R) : Option R := K (Ex.exit 0) (q103_X2_0 i p)

noncomputable def q103_K2 (i : q103_I2) (p : q103_Q2) : Ex × St := (Ex.exit 0, q103_X2_0 i p)

def q103_M2 (i : q103_I2) (v : q103_V2) : den q103_T2.ty := (v.1, v.2.1, v.2.2.1, ())

def q103_P2 (x : den q103_T2.ty) : q103_I2 × q103_V2 := ((()), (x.1, x.2.1, x.2.2.1, ()))

noncomputable def q103_C : Cfg := { ti := g_tis, ents := [q101_Ent, q102_Ent], ann := [(2, loopFn q103_T2 1 q103_P2 laws_markEntryS_l_D2 q103_E2)], lent := 1 }

def q103_ti : Tmpl := ⟨(.own 0 (.slot Ty.i .nil)), (.tree false 0 (Ty.prod Ty.i (Ty.prod Ty.i (Ty.prod (Ty.slice YReadMark) (Ty.prod (Ty.slice YReadMark)
  Ty.unit)))) .nil)⟩

def q103_to : Tmpl := ⟨(.slot Ty.i .nil), (.tree false 1 (Ty.prod Ty.i (Ty.prod Ty.i (Ty.prod (Ty.slice YReadMark) (Ty.prod (Ty.slice YReadMark)
  Ty.unit)))) .nil)⟩

noncomputable def laws_markEntryS_l_S (x : Int × List (Int × Int × List (Int × Int × Unit) × List (Int × Int × Unit) × Unit) × Unit) : Option (Int × List (Int × Int × List (Int × Int × Unit) × List (Int × Int × Unit) × Unit) × Unit) :=
  Option.bind (iter (fun v => laws_markEntryS_l_D2 () v _ some) (x.1, 0, x.2.1, ())) fun p => some (p.1, p.2.1, ())

noncomputable def q103_Ent : Ent := ⟨17, q103_ti, q103_to, laws_markEntryS_l_S⟩

theorem q103_HC : CfgOK Go.Proofs.Tryz.prog q103_C := hc_of g_tisOK g_wide (all_cons q101_OK (all_cons q102_OK all_nil))

theorem q103_lk2 : LkOK Go.Proofs.Tryz.prog q103_C (lpc Go.Proofs.Tryz.f17 0) :=
  lk_of q103_HC (m := 0) (T := q103_T2) (sp := q103_P2) (D := laws_markEntryS_l_D2) (E := q103_E2) (by kernel_rfl) (by kernel_rfl) (fun k hk => absurd hk (Nat.not_lt_zero k)) [1] q103_M2 (fun x => rfl) laws_markEntryS_l_D2_nat q103_K2 (fun i p R K => rfl) (fun i v => by kernel_rfl)

theorem q103_OK : EntOK Go.Proofs.Tryz.prog q103_Ent := ok_of q103_HC Go.Proofs.Tryz.func17 1 (by kernel_rfl) (fun k hk => match k, hk with | 0, _ => q103_lk2) (by kernel_rfl) (by kernel_rfl) (fun x => by kernel_rfl)

/-! laws.markIntS -/

abbrev q104_I2 : Type := Unit

abbrev q104_V2 : Type := Int × Int × List Int × Unit

abbrev q104_Q2 : Type := Int × List Int × Unit

noncomputable def laws_markIntS_l_D2 (i : q104_I2) (v : q104_V2) (R : Type) (K : q104_V2 ⊕ q104_Q2 → Option R) : Option R :=
  bif decide (v.2.1 < (↑(List.length v.2.2.1) : Int)) then if 0 ≤ v.2.1 ∧ v.2.1 < (↑(List.length v.2.2.1) : Int) then Option.bind v.2.2.1[0 + Int.toNat v.2.1]? fun v_1 => K (Sum.inl (IntKind.wrap IntKind.i64 (v.1 + 1), IntKind.wrap IntKind.i64
  (v.2.1 + 1), List.set v.2.2.1 (0 + Int.toNat v.2.1) v.1, ())) else none else K (Sum.inr (v.1, v.2.2.1, ()))

theorem laws_markIntS_l_D2_nat : NatD laws_markIntS_l_D2 := fun i v R K => nat_bif (nat_ite (nat_bind fun _ => nat_some)) (nat_some)

def q104_T2 : Tmpl := ⟨(.own 0 (.slot Ty.i (jk 3 (.slot Ty.i (jk 13 .nil))))), (.lst false Ty.i .nil)⟩

def q104_X2_0 (i : q104_I2) (p : Int × List Int × Unit) : St := ⟨jn 1 (.n (p.1) :: jn 17 ([])), [some (Cont.lst false Ty.i p.2.1)]⟩

noncomputable def q104_E2 (i : q104_I2) (p : q104_Q2) (R : Type) (K : Ex → St → Option R) : Option R := K (Ex.exit 0) (q104_X2_0 i p)

noncomputable def q104_K2 (i : q104_I2) (p : q104_Q2) : Ex × St := (Ex.exit 0, q104_X2_0 i p)

def q104_M2 (i : q104_I2) (v : q104_V2) : den q104_T2.ty := (v.1, v.2.1, v.2.2.1, ())

def q104_P2 (x : den q104_T2.ty) : q104_I2 × q104_V2 := ((()), (x.1, x.2.1, x.2.2.1, ()))

noncomputable def q104_C : Cfg := { ti := g_tis, ents := [], ann := [(2, loopFn q104_T2 1 q104_P2 laws_markIntS_l_D2 q104_E2)], lent := 1 }

def q104_ti : Tmpl := ⟨(.own 0 (.slot Ty.i .nil)), (.lst false Ty.i .nil)⟩

def q104_to : Tmpl := ⟨(.slot Ty.i .nil), (.lst false Ty.i .nil)⟩

noncomputable def laws_markIntS_l_S (x : Int × List Int × Unit) : Option (Int × List Int × Unit) :=
  Option.bind (iter (fun v => laws_markIntS_l_D2 () v _ some) (x.1, 0, x.2.1, ())) fun p => some (p.1, p.2.1, ())

noncomputable def q104_Ent : Ent := ⟨36, q104_ti, q104_to, laws_markIntS_l_S⟩

theorem q104_HC : CfgOK Go.Proofs.Tryz.prog q104_C := hc_of g_tisOK g_wide all_nil

theorem q104_lk2 : LkOK Go.Proofs.Tryz.prog q104_C (lpc Go.Proofs.Tryz.f36 0) :=
  lk_of q104_HC (m := 0) (T := q104_T2) (sp := q104_P2) (D := laws_markIntS_l_D2) (E := q104_E2) (by kernel_rfl) (by kernel_rfl) (fun k hk => absurd hk (Nat.not_lt_zero k)) [1] q104_M2 (fun x => rfl) laws_markIntS_l_D2_nat q104_K2 (fun i p R K => rfl) (fun i v => by kernel_rfl)

theorem q104_OK : EntOK Go.Proofs.Tryz.prog q104_Ent := ok_of q104_HC Go.Proofs.Tryz.func36 1 (by kernel_rfl) (fun k hk => match k, hk with | 0, _ => q104_lk2) (by kernel_rfl) (by kernel_rfl) (fun x => by kernel_rfl)

/-! laws.markReport -/

noncomputable def q105_C : Cfg := { ti := g_tis, ents := [q104_Ent], ann := [], lent := 2 }

def q105_ti : Tmpl := ⟨(.agg (.own 0 (.own 1 (.slot Ty.i .nil))) (.slot Ty.i .nil)), (.lst false Ty.i (.lst false Ty.i .nil))⟩

def q105_to : Tmpl := ⟨(.slot Ty.i .nil), (.lst false Ty.i (.lst false Ty.i .nil))⟩

noncomputable def laws_markReport_l_S (x : Int × Int × List Int × List Int × Unit) : Option (Int × List Int × List Int × Unit) :=
  Option.bind (laws_markIntS_l_S (x.2.1, x.2.2.1, ())) fun v => Option.bind (laws_markIntS_l_S (v.1, x.2.2.2.1, ())) fun v_1 => some (v_1.1, v.2.1, v_1.2.1, ())

noncomputable def q105_Ent : Ent := ⟨18, q105_ti, q105_to, laws_markReport_l_S⟩

theorem q105_HC : CfgOK Go.Proofs.Tryz.prog q105_C := hc_of g_tisOK g_wide (all_cons q104_OK all_nil)

theorem q105_OK : EntOK Go.Proofs.Tryz.prog q105_Ent := ok_of q105_HC Go.Proofs.Tryz.func18 0 (by kernel_rfl) (fun k hk => absurd hk (Nat.not_lt_zero k)) (by kernel_rfl) (by kernel_rfl) (fun x => by kernel_rfl)

/-! laws.heldIntS -/

abbrev q106_I2 : Type := List Int × Unit

abbrev q106_V2 : Type := Int × Int × Unit

abbrev q106_Q2 : Type := Int × Unit ⊕ Int × Unit

noncomputable def laws_heldIntS_D2 (i : q106_I2) (v : q106_V2) (R : Type) (K : q106_V2 ⊕ q106_Q2 → Option R) : Option R :=
  bif decide (v.2.1 < (↑(List.length i.1) : Int)) then Option.bind (lAt i.1 v.2.1) fun v_1 => bif v_1 != v.1 then K (Sum.inr (Sum.inl (v.1, ()))) else K (Sum.inl (IntKind.wrap IntKind.i64 (v.1 + 1), IntKind.wrap IntKind.i64 (v.2.1 + 1), ()))
  else K (Sum.inr (Sum.inr (v.1, ())))

theorem laws_heldIntS_D2_nat : NatD laws_heldIntS_D2 := fun i v R K => nat_bif (nat_bind fun _ => nat_bif (nat_some) (nat_some)) (nat_some)

def q106_T2 : Tmpl := ⟨(.slot (Ty.slice Ty.i) (.slot Ty.i (jk 3 (.slot Ty.i (jk 15 .nil))))), .nil⟩

def q106_X2_0 (i : q106_I2) (p : Int × Unit) : St := ⟨jn 1 (.n (p.1) :: jn 2 (.n (-1) :: jn 16 ([]))), []⟩

def q106_X2_1 (i : q106_I2) (p : Int × Unit) : St := ⟨jn 1 (.n (p.1) :: jn 19 ([])), []⟩

noncomputable def q106_E2 (i : q106_I2) (p : q106_Q2) (R : Type) (K : Ex → St → Option R) : Option R := sumC p (fun p => K (Ex.ret) (q106_X2_0 i p)) fun p => K (Ex.exit 0) (q106_X2_1 i p)

noncomputable def q106_K2 (i : q106_I2) (p : q106_Q2) : Ex × St := sumC p (fun p => (Ex.ret, q106_X2_0 i p)) fun p => (Ex.exit 0, q106_X2_1 i p)

def q106_M2 (i : q106_I2) (v : q106_V2) : den q106_T2.ty := (i.1, v.1, v.2.1, ())

def q106_P2 (x : den q106_T2.ty) : q106_I2 × q106_V2 := ((x.1, ()), (x.2.1, x.2.2.1, ()))

noncomputable def q106_C : Cfg := { ti := g_tis, ents := [], ann := [(2, loopFn q106_T2 0 q106_P2 laws_heldIntS_D2 q106_E2)], lent := 0 }

def q106_ti : Tmpl := ⟨(.slot (Ty.slice Ty.i) (.slot Ty.i .nil)), .nil⟩

def q106_to : Tmpl := ⟨(.slot Ty.i .nil), .nil⟩

noncomputable def laws_heldIntS_S (x : List Int × Int × Unit) : Option (Int × Unit) :=
  Option.bind (iter (fun v => laws_heldIntS_D2 (x.1, ()) v _ some) (x.2.1, 0, ())) fun p => sumC p (fun p => some (-1, ())) fun p => some (p.1, ())

noncomputable def q106_Ent : Ent := ⟨37, q106_ti, q106_to, laws_heldIntS_S⟩

theorem q106_HC : CfgOK Go.Proofs.Tryz.prog q106_C := hc_of g_tisOK g_wide all_nil

theorem q106_lk2 : LkOK Go.Proofs.Tryz.prog q106_C (lpc Go.Proofs.Tryz.f37 0) :=
  lk_of q106_HC (m := 0) (T := q106_T2) (sp := q106_P2) (D := laws_heldIntS_D2) (E := q106_E2) (by kernel_rfl) (by kernel_rfl) (fun k hk => absurd hk (Nat.not_lt_zero k)) [1, 4] q106_M2 (fun x => rfl) laws_heldIntS_D2_nat q106_K2 (fun i p R K => by rcases p with p | p <;> rfl) (fun i v => by kernel_rfl)

theorem q106_OK : EntOK Go.Proofs.Tryz.prog q106_Ent := ok_of q106_HC Go.Proofs.Tryz.func37 1 (by kernel_rfl) (fun k hk => match k, hk with | 0, _ => q106_lk2) (by kernel_rfl) (by kernel_rfl) (fun x => by kernel_rfl)

/-! laws.heldReport -/

noncomputable def q107_C : Cfg := { ti := g_tis, ents := [q106_Ent], ann := [], lent := 0 }

def q107_ti : Tmpl := ⟨(.slot YReport (.slot Ty.i .nil)), .nil⟩

def q107_to : Tmpl := ⟨(.slot Ty.i .nil), .nil⟩

noncomputable def laws_heldReport_S (x : (List Int × List Int × Int × Unit) × Int × Unit) : Option (Int × Unit) :=
  Option.bind (laws_heldIntS_S (x.1.1, x.2.1, ())) fun v => bif decide (v.1 < 0) then some (-1, ()) else Option.bind (laws_heldIntS_S (x.1.2.1, v.1, ())) fun v => bif decide (v.1 < 0) then some (-1, ()) else some (v.1, ())

noncomputable def q107_Ent : Ent := ⟨19, q107_ti, q107_to, laws_heldReport_S⟩

theorem q107_HC : CfgOK Go.Proofs.Tryz.prog q107_C := hc_of g_tisOK g_wide (all_cons q106_OK all_nil)

theorem q107_OK : EntOK Go.Proofs.Tryz.prog q107_Ent := ok_of q107_HC Go.Proofs.Tryz.func19 0 (by kernel_rfl) (fun k hk => absurd hk (Nat.not_lt_zero k)) (by kernel_rfl) (by kernel_rfl) (fun x => by kernel_rfl)

/-! laws.FnExactAuditHistory -/

noncomputable def q108_C : Cfg := { ti := g_tis, ents := [q103_Ent, q105_Ent, q3_Ent, q9_Ent, q33_Ent, q92_Ent, q94_Ent, q100_Ent, q107_Ent], ann := [], lent := 0 }

def q108_ti : Tmpl := ⟨(.slot (Ty.slice (Ty.prod Ty.i (Ty.prod Ty.i (Ty.prod (Ty.slice YReadMark) (Ty.prod (Ty.slice (Ty.prod Ty.i (Ty.prod Ty.i
  Ty.unit))) Ty.unit))))) .nil), .nil⟩

def q108_to : Tmpl := ⟨(.slot (Ty.bool) .nil), .nil⟩

noncomputable def laws_FnExactAuditHistory_S (x : List (Int × Int × List (Int × Int × Unit) × List (Int × Int × Unit) × Unit) × Unit) : Option (Bool × Unit) :=
  Option.bind (laws_szEntryS_S (x.1, 1048576, ())) fun v => bif decide (v.1 < 0) then some (true, ()) else Option.bind (laws_toEntryS_S (x.1, ())) fun v => Option.bind (spec_AuditHistory_S (v.1, ())) fun v => Option.bind (laws_toEntryS_S (x.1,
  ())) fun v_1 => Option.bind (impl_AuditHistory_S (v_1.1, ())) fun v_2 => Option.bind (laws_eqReport_S ((v_2.2.2.1, v_2.2.2.2.1, v_2.1, ()), (v.2.2.1, v.2.2.2.1, v.1, ()), ())) fun v_3 => bif !v_3.1 then some (false, ()) else bif !v_2.2.1 ==
  v.2.1 then some (false, ()) else Option.bind (laws_toEntryS_S (x.1, ())) fun v_4 => Option.bind (laws_eqEntryS_S (v_1.1, v_4.1, ())) fun v_5 => bif !v_5.1 then some (false, ()) else Option.bind (laws_markEntryS_l_S (1, v_1.1, ())) fun v_6 =>
  bif decide (v_6.1 < 0) then some (false, ()) else Option.bind (laws_eqReport_S ((v_2.2.2.1, v_2.2.2.2.1, v_2.1, ()), (v.2.2.1, v.2.2.2.1, v.1, ()), ())) fun v_7 => bif !v_7.1 then some (false, ()) else bif !v_2.2.1 == v.2.1 then some (false,
  ()) else Option.bind (laws_markReport_l_S (v_2.1, 1, v_2.2.2.1, v_2.2.2.2.1, ())) fun v_8 => Option.bind (laws_heldReport_S ((v_8.2.1, v_8.2.2.1, v_2.1, ()), 1, ())) fun v_9 => bif decide (v_9.1 < 0) then some (false, ()) else bif v_9.1 !=
  v_8.1 then some (false, ()) else Option.bind (laws_toEntryS_S (x.1, ())) fun v_10 => Option.bind (impl_AuditHistory_S (v_10.1, ())) fun v_11 => Option.bind (laws_eqReport_S ((v_11.2.2.1, v_11.2.2.2.1, v_11.1, ()), (v.2.2.1, v.2.2.2.1, v.1,
  ()), ())) fun v_12 => bif !v_12.1 then some (false, ()) else bif !v_11.2.1 == v.2.1 then some (false, ()) else Option.bind (laws_heldReport_S ((v_8.2.1, v_8.2.2.1, v_2.1, ()), 1, ())) fun v => bif decide (v.1 < 0) then some (false, ()) else
  bif v.1 != v_8.1 then some (false, ()) else some (true, ())

noncomputable def q108_Ent : Ent := ⟨3, q108_ti, q108_to, laws_FnExactAuditHistory_S⟩

theorem q108_HC : CfgOK Go.Proofs.Tryz.prog q108_C := hc_of g_tisOK g_wide (all_cons q103_OK (all_cons q105_OK (all_cons q3_OK (all_cons q9_OK (all_cons q33_OK (all_cons q92_OK (all_cons q94_OK (all_cons q100_OK (all_cons q107_OK all_nil)))))))))

theorem q108_OK : EntOK Go.Proofs.Tryz.prog q108_Ent := ok_of q108_HC Go.Proofs.Tryz.func3 0 (by kernel_rfl) (fun k hk => absurd hk (Nat.not_lt_zero k)) (by kernel_rfl) (by kernel_rfl) (fun x => by kernel_rfl)

theorem laws_FnExactAuditHistory_OK : EntOK Go.Proofs.Tryz.prog q108_Ent := q108_OK

end Go.Ab
