import Derived.Test.YtaefbkkplgaplaaGreatGenC1
set_option maxRecDepth 100000
set_option linter.unusedVariables false
namespace Go.Ab

/-! (impl.Store).copied -/

abbrev impl_Store_copied_I3 : Type := List (List (Int × Int × Int × Int × Int × Unit)) × Int × Unit

abbrev impl_Store_copied_V3 : Type := Int × List (List (Int × Int × Int × Int × Int × Unit)) × Unit

abbrev impl_Store_copied_Q3 : Type := List (List (Int × Int × Int × Int × Int × Unit)) × Unit

noncomputable def impl_Store_copied_D3 (i : impl_Store_copied_I3) (v : impl_Store_copied_V3) (R : Type) (K : impl_Store_copied_V3 ⊕ impl_Store_copied_Q3 → Option R) : Option R :=
  bif decide (v.1 < i.2.1) then Option.bind (lAt i.1 v.1) fun v_1 => Option.bind (slices_Clone_impl_Version_S (v_1, ())) fun v_2 => if List.length (v.2.1 ++ [v_2.1]) ≤ 1466015503701 then K (Sum.inl (IntKind.wrap IntKind.i64 (v.1 + 1), v.2.1 ++
  [v_2.1], ())) else none else K (Sum.inr (v.2.1, ()))

theorem impl_Store_copied_D3_nat : NatD impl_Store_copied_D3 := fun i v R K => nat_bif (nat_bind fun _ => nat_bind fun _ => nat_ite (nat_some)) (nat_some)

def impl_Store_copied_T3 : Tmpl := ⟨(jk 2 (.ptr 0 0 0 (.ptr 1 0 0 (jk 4 (.slot (Ty.slice (Ty.slice YVersion)) (.slot Ty.i (.slot Ty.i (jk 12 .nil)))))))), (.cells 1 (.const (AV.nils) .nil) (.cells 1 (.own 2 .nil) (.tree false 0 (Ty.slice YVersion) .nil)))⟩

def impl_Store_copied_X3_0 (i : impl_Store_copied_I3) (p : List (List (Int × Int × Int × Int × Int × Unit)) × Unit) : St := ⟨jn 2 (AV.ptr 0 none 0 0 :: AV.ptr 1 none 0 0 :: jn 19 ([])), [some (Cont.cells 1 [[AV.nils]]), some (Cont.cells 1 [[AV.own 2 none none]]), some (Cont.tree false 0 (Ty.slice (Ty.prod Ty.i (Ty.prod Ty.i
  (Ty.prod Ty.i YReadMark)))) p.1 none)]⟩

noncomputable def impl_Store_copied_E3 (i : impl_Store_copied_I3) (p : impl_Store_copied_Q3) (R : Type) (K : Ex → St → Option R) : Option R := K (Ex.exit 0) (impl_Store_copied_X3_0 i p)

noncomputable def impl_Store_copied_K3 (i : impl_Store_copied_I3) (p : impl_Store_copied_Q3) : Ex × St := (Ex.exit 0, impl_Store_copied_X3_0 i p)

def impl_Store_copied_M3 (i : impl_Store_copied_I3) (v : impl_Store_copied_V3) : den impl_Store_copied_T3.ty := (i.1, i.2.1, v.1, v.2.1, ())

def impl_Store_copied_P3 (x : den impl_Store_copied_T3.ty) : impl_Store_copied_I3 × impl_Store_copied_V3 := ((x.1, x.2.1, ()), (x.2.2.1, x.2.2.2.1, ()))

noncomputable def impl_Store_copied_C : Cfg := { ti := g_tis, ents := [slices_Clone_impl_Version_Ent], ann := [(3, loopFn impl_Store_copied_T3 0 impl_Store_copied_P3 impl_Store_copied_D3 impl_Store_copied_E3)], lent := 0 }

def impl_Store_copied_ti : Tmpl := ⟨(.slot YStore .nil), .nil⟩

def impl_Store_copied_to : Tmpl := ⟨(.agg (.own 0 .nil) .nil), (.tree false 0 (Ty.slice YVersion) .nil)⟩

noncomputable def impl_Store_copied_S (x : (List (List (Int × Int × Int × Int × Int × Unit)) × Unit) × Unit) : Option (List (List (Int × Int × Int × Int × Int × Unit)) × Unit) :=
  Option.bind (iter (fun v => impl_Store_copied_D3 (x.1.1, (↑(List.length x.1.1) : Int), ()) v _ some) (0, [], ())) fun p => some (p.1, ())

noncomputable def impl_Store_copied_Ent : Ent := ⟨58, impl_Store_copied_ti, impl_Store_copied_to, impl_Store_copied_S⟩

theorem impl_Store_copied_HC : CfgOK Go.Proofs.Tryz.prog impl_Store_copied_C := hc_of g_tisOK g_wide (all_cons slices_Clone_impl_Version_OK all_nil)

theorem impl_Store_copied_lk3 : LkOK Go.Proofs.Tryz.prog impl_Store_copied_C (lpc Go.Proofs.Tryz.f58 0) :=
  lk_of impl_Store_copied_HC (m := 0) (T := impl_Store_copied_T3) (sp := impl_Store_copied_P3) (D := impl_Store_copied_D3) (E := impl_Store_copied_E3) (by kernel_rfl) (by kernel_rfl) (fun k hk => absurd hk (Nat.not_lt_zero k)) [2, 3] impl_Store_copied_M3 (fun x => rfl) impl_Store_copied_D3_nat impl_Store_copied_K3 (fun i p R K => rfl) (fun i v => by kernel_rfl)

theorem impl_Store_copied_OK : EntOK Go.Proofs.Tryz.prog impl_Store_copied_Ent := ok_of impl_Store_copied_HC Go.Proofs.Tryz.func58 1 (by kernel_rfl) (fun k hk => match k, hk with | 0, _ => impl_Store_copied_lk3) (by kernel_rfl) (by kernel_rfl) (fun x => by kernel_rfl)

/-! slices.Clone[[]impl.Lock,impl.Lock] -/

noncomputable def slices_Clone_impl_Lock_C : Cfg := { ti := g_tis, ents := [], ann := [], lent := 0 }

def slices_Clone_impl_Lock_ti : Tmpl := ⟨(.slot (Ty.slice YReadMark) .nil), .nil⟩

def slices_Clone_impl_Lock_to : Tmpl := ⟨(.own 0 .nil), (.lst false YReadMark .nil)⟩

noncomputable def slices_Clone_impl_Lock_S (x : List (Int × Int × Unit) × Unit) : Option (List (Int × Int × Unit) × Unit) :=
  bif List.length x.1 == 0 then both (some ([], ())) (if List.length x.1 ≤ 2199023255552 then some (x.1, ()) else none) else if List.length x.1 ≤ 2199023255552 then some (x.1, ()) else none

noncomputable def slices_Clone_impl_Lock_Ent : Ent := ⟨59, slices_Clone_impl_Lock_ti, slices_Clone_impl_Lock_to, slices_Clone_impl_Lock_S⟩

theorem slices_Clone_impl_Lock_HC : CfgOK Go.Proofs.Tryz.prog slices_Clone_impl_Lock_C := hc_of g_tisOK g_wide all_nil

theorem slices_Clone_impl_Lock_OK : EntOK Go.Proofs.Tryz.prog slices_Clone_impl_Lock_Ent := ok_of slices_Clone_impl_Lock_HC Go.Proofs.Tryz.func59 0 (by kernel_rfl) (fun k hk => absurd hk (Nat.not_lt_zero k)) (by kernel_rfl) (by kernel_rfl) (fun x => by kernel_rfl)

/-! slices.Clone[[]impl.Wait,impl.Wait] -/

noncomputable def slices_Clone_impl_Wait_C : Cfg := { ti := g_tis, ents := [], ann := [], lent := 0 }

def slices_Clone_impl_Wait_ti : Tmpl := ⟨(.slot (Ty.slice YReadMark) .nil), .nil⟩

def slices_Clone_impl_Wait_to : Tmpl := ⟨(.own 0 .nil), (.lst false YReadMark .nil)⟩

noncomputable def slices_Clone_impl_Wait_S (x : List (Int × Int × Unit) × Unit) : Option (List (Int × Int × Unit) × Unit) :=
  bif List.length x.1 == 0 then both (some ([], ())) (if List.length x.1 ≤ 2199023255552 then some (x.1, ()) else none) else if List.length x.1 ≤ 2199023255552 then some (x.1, ()) else none

noncomputable def slices_Clone_impl_Wait_Ent : Ent := ⟨60, slices_Clone_impl_Wait_ti, slices_Clone_impl_Wait_to, slices_Clone_impl_Wait_S⟩

theorem slices_Clone_impl_Wait_HC : CfgOK Go.Proofs.Tryz.prog slices_Clone_impl_Wait_C := hc_of g_tisOK g_wide all_nil

theorem slices_Clone_impl_Wait_OK : EntOK Go.Proofs.Tryz.prog slices_Clone_impl_Wait_Ent := ok_of slices_Clone_impl_Wait_HC Go.Proofs.Tryz.func60 0 (by kernel_rfl) (fun k hk => absurd hk (Nat.not_lt_zero k)) (by kernel_rfl) (by kernel_rfl) (fun x => by kernel_rfl)

/-! slices.Clone[[]impl.ReadMark,impl.ReadMark] -/

noncomputable def slices_Clone_impl_ReadMark_C : Cfg := { ti := g_tis, ents := [], ann := [], lent := 0 }

def slices_Clone_impl_ReadMark_ti : Tmpl := ⟨(.slot (Ty.slice YReadMark) .nil), .nil⟩

def slices_Clone_impl_ReadMark_to : Tmpl := ⟨(.own 0 .nil), (.lst false YReadMark .nil)⟩

noncomputable def slices_Clone_impl_ReadMark_S (x : List (Int × Int × Unit) × Unit) : Option (List (Int × Int × Unit) × Unit) :=
  bif List.length x.1 == 0 then both (some ([], ())) (if List.length x.1 ≤ 2199023255552 then some (x.1, ()) else none) else if List.length x.1 ≤ 2199023255552 then some (x.1, ()) else none

noncomputable def slices_Clone_impl_ReadMark_Ent : Ent := ⟨99, slices_Clone_impl_ReadMark_ti, slices_Clone_impl_ReadMark_to, slices_Clone_impl_ReadMark_S⟩

theorem slices_Clone_impl_ReadMark_HC : CfgOK Go.Proofs.Tryz.prog slices_Clone_impl_ReadMark_C := hc_of g_tisOK g_wide all_nil

theorem slices_Clone_impl_ReadMark_OK : EntOK Go.Proofs.Tryz.prog slices_Clone_impl_ReadMark_Ent := ok_of slices_Clone_impl_ReadMark_HC Go.Proofs.Tryz.func99 0 (by kernel_rfl) (fun k hk => absurd hk (Nat.not_lt_zero k)) (by kernel_rfl) (by kernel_rfl) (fun x => by kernel_rfl)

/-! slices.Clone[[]impl.Write,impl.Write] -/

noncomputable def slices_Clone_impl_Write_C : Cfg := { ti := g_tis, ents := [], ann := [], lent := 0 }

def slices_Clone_impl_Write_ti : Tmpl := ⟨(.slot (Ty.slice YReadMark) .nil), .nil⟩

def slices_Clone_impl_Write_to : Tmpl := ⟨(.own 0 .nil), (.lst false YReadMark .nil)⟩

noncomputable def slices_Clone_impl_Write_S (x : List (Int × Int × Unit) × Unit) : Option (List (Int × Int × Unit) × Unit) :=
  bif List.length x.1 == 0 then both (some ([], ())) (if List.length x.1 ≤ 2199023255552 then some (x.1, ()) else none) else if List.length x.1 ≤ 2199023255552 then some (x.1, ()) else none

noncomputable def slices_Clone_impl_Write_Ent : Ent := ⟨100, slices_Clone_impl_Write_ti, slices_Clone_impl_Write_to, slices_Clone_impl_Write_S⟩

theorem slices_Clone_impl_Write_HC : CfgOK Go.Proofs.Tryz.prog slices_Clone_impl_Write_C := hc_of g_tisOK g_wide all_nil

theorem slices_Clone_impl_Write_OK : EntOK Go.Proofs.Tryz.prog slices_Clone_impl_Write_Ent := ok_of slices_Clone_impl_Write_HC Go.Proofs.Tryz.func100 0 (by kernel_rfl) (fun k hk => absurd hk (Nat.not_lt_zero k)) (by kernel_rfl) (by kernel_rfl) (fun x => by kernel_rfl)

/-! (impl.Transaction).copied -/

noncomputable def impl_Transaction_copied_C : Cfg := { ti := g_tis, ents := [slices_Clone_impl_ReadMark_Ent, slices_Clone_impl_Write_Ent], ann := [], lent := 0 }

def impl_Transaction_copied_ti : Tmpl := ⟨(.slot (Ty.prod Ty.i (Ty.prod Ty.i (Ty.prod Ty.i (Ty.prod Ty.i (Ty.prod Ty.i (Ty.prod Ty.i (Ty.prod Ty.i (Ty.prod (Ty.slice (Ty.prod
  Ty.i (Ty.prod Ty.i Ty.unit))) (Ty.prod (Ty.slice YReadMark) Ty.unit))))))))) .nil), .nil⟩

def impl_Transaction_copied_to : Tmpl := ⟨(.agg (.slot Ty.i (.slot Ty.i (.slot Ty.i (.slot Ty.i (.slot Ty.i (.slot Ty.i (.slot Ty.i (.own 0 (.own 1 .nil))))))))) .nil), (.lst false YReadMark (.lst false YReadMark .nil))⟩

noncomputable def impl_Transaction_copied_S (x : (Int × Int × Int × Int × Int × Int × Int × List (Int × Int × Unit) × List (Int × Int × Unit) × Unit) × Unit) : Option (Int × Int × Int × Int × Int × Int × Int × List (Int × Int × Unit) × List (Int × Int × Unit) × Unit) :=
  Option.bind (slices_Clone_impl_ReadMark_S (x.1.2.2.2.2.2.2.2.1, ())) fun v => Option.bind (slices_Clone_impl_Write_S (x.1.2.2.2.2.2.2.2.2.1, ())) fun v_1 => some (x.1.1, x.1.2.1, x.1.2.2.1, x.1.2.2.2.1, x.1.2.2.2.2.1, x.1.2.2.2.2.2.1,
  x.1.2.2.2.2.2.2.1, v.1, v_1.1, ())

noncomputable def impl_Transaction_copied_Ent : Ent := ⟨61, impl_Transaction_copied_ti, impl_Transaction_copied_to, impl_Transaction_copied_S⟩

theorem impl_Transaction_copied_HC : CfgOK Go.Proofs.Tryz.prog impl_Transaction_copied_C := hc_of g_tisOK g_wide (all_cons slices_Clone_impl_ReadMark_OK (all_cons slices_Clone_impl_Write_OK all_nil))

theorem impl_Transaction_copied_OK : EntOK Go.Proofs.Tryz.prog impl_Transaction_copied_Ent := ok_of impl_Transaction_copied_HC Go.Proofs.Tryz.func61 0 (by kernel_rfl) (fun k hk => absurd hk (Nat.not_lt_zero k)) (by kernel_rfl) (by kernel_rfl) (fun x => by kernel_rfl)

/-! (impl.Engine).copied -/

abbrev impl_Engine_copied_I3 : Type := List (Int × Int × Int × Int × Int × Int × Int × List (Int × Int × Unit) × List (Int × Int × Unit) × Unit) × Int × Bool × Int × Bool × Int × List (List (Int × Int × Int × Int × Int × Unit)) × List (Int × Int × Unit) × List (Int × Int × Unit)
  × Unit

abbrev impl_Engine_copied_V3 : Type := Int × List (Int × Int × Int × Int × Int × Int × Int × List (Int × Int × Unit) × List (Int × Int × Unit) × Unit) × Unit

abbrev impl_Engine_copied_Q3 : Type := List (Int × Int × Int × Int × Int × Int × Int × List (Int × Int × Unit) × List (Int × Int × Unit) × Unit) × Unit

noncomputable def impl_Engine_copied_D3 (i : impl_Engine_copied_I3) (v : impl_Engine_copied_V3) (R : Type) (K : impl_Engine_copied_V3 ⊕ impl_Engine_copied_Q3 → Option R) : Option R :=
  bif decide (v.1 < i.2.1) then Option.bind (lAt i.1 v.1) fun v_1 => Option.bind (impl_Transaction_copied_S ((v_1.1, v_1.2.1, v_1.2.2.1, v_1.2.2.2.1, v_1.2.2.2.2.1, v_1.2.2.2.2.2.1, v_1.2.2.2.2.2.2.1, v_1.2.2.2.2.2.2.2.1,
  v_1.2.2.2.2.2.2.2.2.1, ()), ())) fun v_2 => if List.length (v.2.1 ++ [(v_2.1, v_2.2.1, v_2.2.2.1, v_2.2.2.2.1, v_2.2.2.2.2.1, v_2.2.2.2.2.2.1, v_2.2.2.2.2.2.2.1, v_2.2.2.2.2.2.2.2.1, v_2.2.2.2.2.2.2.2.2.1, ())]) ≤ 338311270084 then K
  (Sum.inl (IntKind.wrap IntKind.i64 (v.1 + 1), v.2.1 ++ [(v_2.1, v_2.2.1, v_2.2.2.1, v_2.2.2.2.1, v_2.2.2.2.2.1, v_2.2.2.2.2.2.1, v_2.2.2.2.2.2.2.1, v_2.2.2.2.2.2.2.2.1, v_2.2.2.2.2.2.2.2.2.1, ())], ())) else none else K (Sum.inr (v.2.1, ()))

theorem impl_Engine_copied_D3_nat : NatD impl_Engine_copied_D3 := fun i v R K => nat_bif (nat_bind fun _ => nat_bind fun _ => nat_ite (nat_some)) (nat_some)

def impl_Engine_copied_T3 : Tmpl := ⟨(jk 2 (.ptr 0 0 0 (.ptr 1 0 0 (jk 17 (.slot (Ty.slice (Ty.prod Ty.i (Ty.prod Ty.i (Ty.prod Ty.i (Ty.prod Ty.i (Ty.prod Ty.i (Ty.prod Ty.i (Ty.prod Ty.i (Ty.prod (Ty.slice
  YReadMark) (Ty.prod (Ty.slice YReadMark) Ty.unit)))))))))) (.slot Ty.i (.slot Ty.i (jk 12 .nil)))))))), (.cells 6 (.slot (Ty.bool) (.const (AV.nils) (.const (AV.nils) (.const (AV.nils) (.const (AV.nils) (.slot Ty.i .nil)))))) (.cells 6 (.slot (Ty.bool) (.own 2 (.own 5 (.own 3 (.own 4 (.slot Ty.i .nil)))))) (.tree false 0 (Ty.slice YVersion) (.lst false YReadMark (.lst false YReadMark (.tree false 0 (Ty.prod Ty.i (Ty.prod Ty.i (Ty.prod Ty.i (Ty.prod Ty.i (Ty.prod Ty.i (Ty.prod Ty.i (Ty.prod Ty.i (Ty.prod (Ty.slice (Ty.prod
  Ty.i (Ty.prod Ty.i Ty.unit))) (Ty.prod (Ty.slice YReadMark) Ty.unit))))))))) .nil))))))⟩

def impl_Engine_copied_X3_0 (i : impl_Engine_copied_I3) (p : List (Int × Int × Int × Int × Int × Int × Int × List (Int × Int × Unit) × List (Int × Int × Unit) × Unit) × Unit) : St := ⟨jn 2 (AV.ptr 0 none 0 0 :: AV.ptr 1 none 0 0 :: jn 32 ([])), [some (Cont.cells 6 [[AV.pv Ty.bool i.2.2.1, AV.nils, AV.nils, AV.nils, AV.nils, AV.pv Ty.i i.2.2.2.1]]), some (Cont.cells 6 [[AV.pv Ty.bool i.2.2.2.2.1, AV.own 2
  none none, AV.own 5 none none, AV.own 3 none none, AV.own 4 none none, AV.pv Ty.i i.2.2.2.2.2.1]]), some (Cont.tree false 0 (Ty.slice (Ty.prod Ty.i (Ty.prod Ty.i (Ty.prod Ty.i
  YReadMark)))) i.2.2.2.2.2.2.1 none), some (Cont.lst false YReadMark i.2.2.2.2.2.2.2.1), some (Cont.lst false (Ty.prod
  Ty.i (Ty.prod Ty.i Ty.unit)) i.2.2.2.2.2.2.2.2.1), some (Cont.tree false 0 (Ty.prod Ty.i (Ty.prod Ty.i (Ty.prod Ty.i (Ty.prod Ty.i (Ty.prod
  Ty.i (Ty.prod Ty.i (Ty.prod Ty.i (Ty.prod (Ty.slice YReadMark) (Ty.prod (Ty.slice (Ty.prod Ty.i (Ty.prod (Ty.int
  IntKind.i64) Ty.unit))) Ty.unit))))))))) p.1 none)]⟩

noncomputable def impl_Engine_copied_E3 (i : impl_Engine_copied_I3) (p : impl_Engine_copied_Q3) (R : Type) (K : Ex → St → Option R) : Option R := K (Ex.exit 0) (impl_Engine_copied_X3_0 i p)

noncomputable def impl_Engine_copied_K3 (i : impl_Engine_copied_I3) (p : impl_Engine_copied_Q3) : Ex × St := (Ex.exit 0, impl_Engine_copied_X3_0 i p)

def impl_Engine_copied_M3 (i : impl_Engine_copied_I3) (v : impl_Engine_copied_V3) : den impl_Engine_copied_T3.ty := (i.1, i.2.1, v.1, i.2.2.1, i.2.2.2.1, i.2.2.2.2.1, i.2.2.2.2.2.1, i.2.2.2.2.2.2.1, i.2.2.2.2.2.2.2.1, i.2.2.2.2.2.2.2.2.1, v.2.1, ())

def impl_Engine_copied_P3 (x : den impl_Engine_copied_T3.ty) : impl_Engine_copied_I3 × impl_Engine_copied_V3 := ((x.1, x.2.1, x.2.2.2.1, x.2.2.2.2.1, x.2.2.2.2.2.1, x.2.2.2.2.2.2.1, x.2.2.2.2.2.2.2.1, x.2.2.2.2.2.2.2.2.1, x.2.2.2.2.2.2.2.2.2.1, ()), (x.2.2.1, x.2.2.2.2.2.2.2.2.2.2.1, ()))

noncomputable def impl_Engine_copied_C : Cfg := { ti := g_tis, ents := [impl_Store_copied_Ent, slices_Clone_impl_Lock_Ent, slices_Clone_impl_Wait_Ent, impl_Transaction_copied_Ent], ann := [(3, loopFn impl_Engine_copied_T3 0 impl_Engine_copied_P3 impl_Engine_copied_D3 impl_Engine_copied_E3)], lent := 0 }

def impl_Engine_copied_ti : Tmpl := ⟨(.slot (Ty.prod Ty.bool (Ty.prod YStore (Ty.prod
  (Ty.slice (Ty.prod Ty.i (Ty.prod Ty.i (Ty.prod Ty.i (Ty.prod Ty.i (Ty.prod Ty.i (Ty.prod Ty.i (Ty.prod Ty.i (Ty.prod (Ty.slice
  YReadMark) (Ty.prod (Ty.slice YReadMark) Ty.unit)))))))))) (Ty.prod (Ty.slice (Ty.prod Ty.i (Ty.prod
  Ty.i Ty.unit))) (Ty.prod (Ty.slice YReadMark) (Ty.prod Ty.i Ty.unit)))))) .nil), .nil⟩

def impl_Engine_copied_to : Tmpl := ⟨(.agg (.slot (Ty.bool) (.own 0 (.own 1 (.own 2 (.own 3 (.slot Ty.i .nil)))))) .nil), (.tree false 0 (Ty.slice YVersion) (.tree false 0 (Ty.prod Ty.i (Ty.prod Ty.i (Ty.prod Ty.i (Ty.prod Ty.i (Ty.prod Ty.i (Ty.prod Ty.i (Ty.prod Ty.i (Ty.prod (Ty.slice (Ty.prod
  Ty.i (Ty.prod Ty.i Ty.unit))) (Ty.prod (Ty.slice YReadMark) Ty.unit))))))))) (.lst false YReadMark (.lst false YReadMark .nil))))⟩

noncomputable def impl_Engine_copied_S (x : (Bool × (List (List (Int × Int × Int × Int × Int × Unit)) × Unit) × List (Int × Int × Int × Int × Int × Int × Int × List (Int × Int × Unit) × List (Int × Int × Unit) × Unit) × List (Int × Int × Unit) × List (Int × Int × Unit) × Int × Unit) ×
  Unit) : Option (Bool × Int × List (List (Int × Int × Int × Int × Int × Unit)) × List (Int × Int × Int × Int × Int × Int × Int × List (Int × Int × Unit) × List (Int × Int × Unit) × Unit) × List (Int × Int × Unit) × List (Int × Int × Unit) × Unit) :=
  Option.bind (impl_Store_copied_S ((x.1.2.1.1, ()), ())) fun v => Option.bind (slices_Clone_impl_Lock_S (x.1.2.2.2.1, ())) fun v_1 => Option.bind (slices_Clone_impl_Wait_S (x.1.2.2.2.2.1, ())) fun v_2 => Option.bind (iter (fun v_3 =>
  impl_Engine_copied_D3 (x.1.2.2.1, (↑(List.length x.1.2.2.1) : Int), false, 0, x.1.1, x.1.2.2.2.2.2.1, v.1, v_1.1, v_2.1, ()) v_3 _ some) (0, [], ())) fun p => some (x.1.1, x.1.2.2.2.2.2.1, v.1, p.1, v_1.1, v_2.1, ())

noncomputable def impl_Engine_copied_Ent : Ent := ⟨22, impl_Engine_copied_ti, impl_Engine_copied_to, impl_Engine_copied_S⟩

theorem impl_Engine_copied_HC : CfgOK Go.Proofs.Tryz.prog impl_Engine_copied_C := hc_of g_tisOK g_wide (all_cons impl_Store_copied_OK (all_cons slices_Clone_impl_Lock_OK (all_cons slices_Clone_impl_Wait_OK (all_cons impl_Transaction_copied_OK all_nil))))

theorem impl_Engine_copied_lk3 : LkOK Go.Proofs.Tryz.prog impl_Engine_copied_C (lpc Go.Proofs.Tryz.f22 0) :=
  lk_of impl_Engine_copied_HC (m := 0) (T := impl_Engine_copied_T3) (sp := impl_Engine_copied_P3) (D := impl_Engine_copied_D3) (E := impl_Engine_copied_E3) (by kernel_rfl) (by kernel_rfl) (fun k hk => absurd hk (Nat.not_lt_zero k)) [2, 3] impl_Engine_copied_M3 (fun x => rfl) impl_Engine_copied_D3_nat impl_Engine_copied_K3 (fun i p R K => rfl) (fun i v => by kernel_rfl)

theorem impl_Engine_copied_OK : EntOK Go.Proofs.Tryz.prog impl_Engine_copied_Ent := ok_of impl_Engine_copied_HC Go.Proofs.Tryz.func22 1 (by kernel_rfl) (fun k hk => match k, hk with | 0, _ => impl_Engine_copied_lk3) (by kernel_rfl) (by kernel_rfl) (fun x => by kernel_rfl)

/-! impl.in -/

noncomputable def impl_in_C : Cfg := { ti := g_tis, ents := [], ann := [], lent := 0 }

def impl_in_ti : Tmpl := ⟨(.slot Ty.i (.slot Ty.i (.slot Ty.i .nil))), .nil⟩

def impl_in_to : Tmpl := ⟨(.slot (Ty.bool) .nil), .nil⟩

noncomputable def impl_in_S (x : Int × Int × Int × Unit) : Option (Bool × Unit) :=
  bif decide (x.2.1 ≤ x.1) then some (decide (x.1 ≤ x.2.2.1), ()) else some (false, ())

noncomputable def impl_in_Ent : Ent := ⟨65, impl_in_ti, impl_in_to, impl_in_S⟩

theorem impl_in_HC : CfgOK Go.Proofs.Tryz.prog impl_in_C := hc_of g_tisOK g_wide all_nil

theorem impl_in_OK : EntOK Go.Proofs.Tryz.prog impl_in_Ent := ok_of impl_in_HC Go.Proofs.Tryz.func65 0 (by kernel_rfl) (fun k hk => absurd hk (Nat.not_lt_zero k)) (by kernel_rfl) (by kernel_rfl) (fun x => by kernel_rfl)

/-! impl.isValue -/

noncomputable def impl_isValue_C : Cfg := { ti := g_tis, ents := [impl_in_Ent], ann := [], lent := 0 }

def impl_isValue_ti : Tmpl := ⟨(.slot Ty.i .nil), .nil⟩

def impl_isValue_to : Tmpl := ⟨(.slot (Ty.bool) .nil), .nil⟩

noncomputable def impl_isValue_S (x : Int × Unit) : Option (Bool × Unit) :=
  Option.bind (impl_in_S (x.1, -1, 99, ())) fun v => some (v.1, ())

noncomputable def impl_isValue_Ent : Ent := ⟨140, impl_isValue_ti, impl_isValue_to, impl_isValue_S⟩

theorem impl_isValue_HC : CfgOK Go.Proofs.Tryz.prog impl_isValue_C := hc_of g_tisOK g_wide (all_cons impl_in_OK all_nil)

theorem impl_isValue_OK : EntOK Go.Proofs.Tryz.prog impl_isValue_Ent := ok_of impl_isValue_HC Go.Proofs.Tryz.func140 0 (by kernel_rfl) (fun k hk => absurd hk (Nat.not_lt_zero k)) (by kernel_rfl) (by kernel_rfl) (fun x => by kernel_rfl)

/-! impl.isID -/

noncomputable def impl_isID_C : Cfg := { ti := g_tis, ents := [impl_in_Ent], ann := [], lent := 0 }

def impl_isID_ti : Tmpl := ⟨(.slot Ty.i .nil), .nil⟩

def impl_isID_to : Tmpl := ⟨(.slot (Ty.bool) .nil), .nil⟩

noncomputable def impl_isID_S (x : Int × Unit) : Option (Bool × Unit) :=
  Option.bind (impl_in_S (x.1, 1, 9, ())) fun v => some (v.1, ())

noncomputable def impl_isID_Ent : Ent := ⟨105, impl_isID_ti, impl_isID_to, impl_isID_S⟩

theorem impl_isID_HC : CfgOK Go.Proofs.Tryz.prog impl_isID_C := hc_of g_tisOK g_wide (all_cons impl_in_OK all_nil)

theorem impl_isID_OK : EntOK Go.Proofs.Tryz.prog impl_isID_Ent := ok_of impl_isID_HC Go.Proofs.Tryz.func105 0 (by kernel_rfl) (fun k hk => absurd hk (Nat.not_lt_zero k)) (by kernel_rfl) (by kernel_rfl) (fun x => by kernel_rfl)

/-! impl.IsValidVersion -/

noncomputable def impl_IsValidVersion_C : Cfg := { ti := g_tis, ents := [impl_isValue_Ent, impl_in_Ent, impl_isID_Ent], ann := [], lent := 0 }

def impl_IsValidVersion_ti : Tmpl := ⟨(.slot YVersion .nil), .nil⟩

def impl_IsValidVersion_to : Tmpl := ⟨(.slot (Ty.bool) .nil), .nil⟩

noncomputable def impl_IsValidVersion_S (x : (Int × Int × Int × Int × Int × Unit) × Unit) : Option (Bool × Unit) :=
  Option.bind (impl_isValue_S (x.1.2.1, ())) fun v => bif !v.1 then some (false, ()) else Option.bind (impl_in_S (x.1.2.2.1, 0, 999, ())) fun v => bif !v.1 then some (false, ()) else Option.bind (impl_in_S (x.1.2.2.2.1, x.1.2.2.1, 999, ()))
  fun v => bif !v.1 then some (false, ()) else Option.bind (impl_in_S (x.1.2.2.2.2.1, 1, 1000, ())) fun v => bif !v.1 then some (false, ()) else bif x.1.2.2.1 == 0 then bif x.1.1 == 0 then some (x.1.2.1 == -1, ()) else some (false, ()) else
  Option.bind (impl_isID_S (x.1.1, ())) fun v => some (v.1, ())

noncomputable def impl_IsValidVersion_Ent : Ent := ⟨125, impl_IsValidVersion_ti, impl_IsValidVersion_to, impl_IsValidVersion_S⟩

theorem impl_IsValidVersion_HC : CfgOK Go.Proofs.Tryz.prog impl_IsValidVersion_C := hc_of g_tisOK g_wide (all_cons impl_isValue_OK (all_cons impl_in_OK (all_cons impl_isID_OK all_nil)))

theorem impl_IsValidVersion_OK : EntOK Go.Proofs.Tryz.prog impl_IsValidVersion_Ent := ok_of impl_IsValidVersion_HC Go.Proofs.Tryz.func125 0 (by kernel_rfl) (fun k hk => absurd hk (Nat.not_lt_zero k)) (by kernel_rfl) (by kernel_rfl) (fun x => by kernel_rfl)

/-! impl.IsValidChain -/

abbrev impl_IsValidChain_I2 : Type := List (Int × Int × Int × Int × Int × Unit) × List (Int × Int × Int × Int × Int × Unit) × Int × Unit

abbrev impl_IsValidChain_V2 : Type := Int × Unit

abbrev impl_IsValidChain_Q2 : Type := Int × Int × Int × Int × Int × Unit ⊕ Int × Int × Int × Int × Int × Unit ⊕ Int × Int × Int × Int × Int × Unit ⊕ Unit

noncomputable def impl_IsValidChain_D2 (i : impl_IsValidChain_I2) (v : impl_IsValidChain_V2) (R : Type) (K : impl_IsValidChain_V2 ⊕ impl_IsValidChain_Q2 → Option R) : Option R :=
  bif decide (v.1 < i.2.2.1) then Option.bind (lAt i.2.1 v.1) fun v_1 => Option.bind (impl_IsValidVersion_S ((v_1.1, v_1.2.1, v_1.2.2.1, v_1.2.2.2.1, v_1.2.2.2.2.1, ()), ())) fun v_2 => bif !v_2.1 then K (Sum.inr (Sum.inl (v_1.1, v_1.2.1,
  v_1.2.2.1, v_1.2.2.2.1, v_1.2.2.2.2.1, ()))) else bif decide (v.1 > 0) then Option.bind (lAt i.1 (IntKind.wrap IntKind.i64 (v.1 - 1))) fun v_3 => bif decide (v_3.2.2.1 ≥ v_1.2.2.1) then K (Sum.inr (Sum.inr (Sum.inl (v_1.1, v_1.2.1,
  v_1.2.2.1, v_1.2.2.2.1, v_1.2.2.2.2.1, ())))) else Option.bind (lAt i.1 (IntKind.wrap IntKind.i64 (v.1 - 1))) fun v_4 => bif decide (v_4.2.2.2.2.1 > v_1.2.2.1) then K (Sum.inr (Sum.inr (Sum.inr (Sum.inl (v_1.1, v_1.2.1, v_1.2.2.1,
  v_1.2.2.2.1, v_1.2.2.2.2.1, ()))))) else K (Sum.inl (IntKind.wrap IntKind.i64 (v.1 + 1), ())) else K (Sum.inl (IntKind.wrap IntKind.i64 (v.1 + 1), ())) else K (Sum.inr (Sum.inr (Sum.inr (Sum.inr ()))))

theorem impl_IsValidChain_D2_nat : NatD impl_IsValidChain_D2 := fun i v R K => nat_bif (nat_bind fun _ => nat_bind fun _ => nat_bif (nat_some) (nat_bif (nat_bind fun _ => nat_bif (nat_some) (nat_bind fun _ => nat_bif (nat_some) (nat_some))) (nat_some))) (nat_some)

def impl_IsValidChain_T2 : Tmpl := ⟨(.slot (Ty.slice YVersion) (jk 4 (.slot (Ty.slice YVersion) (.slot Ty.i (.slot Ty.i (jk 47 .nil)))))), .nil⟩

def impl_IsValidChain_X2_0 (i : impl_IsValidChain_I2) (p : Int × Int × Int × Int × Int × Unit) : St := ⟨AV.pv (Ty.slice YVersion) i.1 :: jn 1 (.b (false) :: jn 52 ([])), [some (Cont.cells 5
  [[AV.pv Ty.i p.1, AV.pv Ty.i p.2.1, AV.pv Ty.i p.2.2.1, AV.pv Ty.i p.2.2.2.1, AV.pv Ty.i p.2.2.2.2.1]])]⟩

def impl_IsValidChain_X2_1 (i : impl_IsValidChain_I2) (p : Int × Int × Int × Int × Int × Unit) : St := ⟨AV.pv (Ty.slice YVersion) i.1 :: jn 1 (.b (false) :: jn 52 ([])), [some (Cont.cells 5
  [[AV.pv Ty.i p.1, AV.pv Ty.i p.2.1, AV.pv Ty.i p.2.2.1, AV.pv Ty.i p.2.2.2.1, AV.pv Ty.i p.2.2.2.2.1]])]⟩

def impl_IsValidChain_X2_2 (i : impl_IsValidChain_I2) (p : Int × Int × Int × Int × Int × Unit) : St := ⟨AV.pv (Ty.slice YVersion) i.1 :: jn 1 (.b (false) :: jn 52 ([])), [some (Cont.cells 5
  [[AV.pv Ty.i p.1, AV.pv Ty.i p.2.1, AV.pv Ty.i p.2.2.1, AV.pv Ty.i p.2.2.2.1, AV.pv Ty.i p.2.2.2.2.1]])]⟩

def impl_IsValidChain_X2_3 (i : impl_IsValidChain_I2) (p : Unit) : St := ⟨AV.pv (Ty.slice YVersion) i.1 :: jn 54 ([]), []⟩

noncomputable def impl_IsValidChain_E2 (i : impl_IsValidChain_I2) (p : impl_IsValidChain_Q2) (R : Type) (K : Ex → St → Option R) : Option R := sumC p (fun p => K (Ex.ret) (impl_IsValidChain_X2_0 i p)) fun p => sumC p (fun p => K (Ex.ret) (impl_IsValidChain_X2_1 i p)) fun p => sumC p (fun p => K (Ex.ret) (impl_IsValidChain_X2_2 i p)) fun p => K (Ex.exit 0) (impl_IsValidChain_X2_3 i p)

noncomputable def impl_IsValidChain_K2 (i : impl_IsValidChain_I2) (p : impl_IsValidChain_Q2) : Ex × St := sumC p (fun p => (Ex.ret, impl_IsValidChain_X2_0 i p)) fun p => sumC p (fun p => (Ex.ret, impl_IsValidChain_X2_1 i p)) fun p => sumC p (fun p => (Ex.ret, impl_IsValidChain_X2_2 i p)) fun p => (Ex.exit 0, impl_IsValidChain_X2_3 i p)

def impl_IsValidChain_M2 (i : impl_IsValidChain_I2) (v : impl_IsValidChain_V2) : den impl_IsValidChain_T2.ty := (i.1, i.2.1, i.2.2.1, v.1, ())

def impl_IsValidChain_P2 (x : den impl_IsValidChain_T2.ty) : impl_IsValidChain_I2 × impl_IsValidChain_V2 := ((x.1, x.2.1, x.2.2.1, ()), (x.2.2.2.1, ()))

noncomputable def impl_IsValidChain_C : Cfg := { ti := g_tis, ents := [impl_IsValidVersion_Ent], ann := [(2, loopFn impl_IsValidChain_T2 0 impl_IsValidChain_P2 impl_IsValidChain_D2 impl_IsValidChain_E2)], lent := 0 }

def impl_IsValidChain_ti : Tmpl := ⟨(.slot (Ty.slice YVersion) .nil), .nil⟩

def impl_IsValidChain_to : Tmpl := ⟨(.slot (Ty.bool) .nil), .nil⟩

noncomputable def impl_IsValidChain_S (x : List (Int × Int × Int × Int × Int × Unit) × Unit) : Option (Bool × Unit) :=
  Option.bind (iter (fun v => impl_IsValidChain_D2 (x.1, x.1, (↑(List.length x.1) : Int), ()) v _ some) (0, ())) fun p => sumC p (fun p => some (false, ())) fun p => sumC p (fun p => some (false, ())) fun p => sumC p (fun p => some
  (false, ())) fun p => bif decide ((↑(List.length x.1) : Int) > 0) then Option.bind (lAt x.1 (IntKind.wrap IntKind.i64 ((↑(List.length x.1) : Int) - 1))) fun v => some (v.2.2.2.2.1 == 1000, ()) else some (false, ())

noncomputable def impl_IsValidChain_Ent : Ent := ⟨103, impl_IsValidChain_ti, impl_IsValidChain_to, impl_IsValidChain_S⟩

theorem impl_IsValidChain_HC : CfgOK Go.Proofs.Tryz.prog impl_IsValidChain_C := hc_of g_tisOK g_wide (all_cons impl_IsValidVersion_OK all_nil)

theorem impl_IsValidChain_lk2 : LkOK Go.Proofs.Tryz.prog impl_IsValidChain_C (lpc Go.Proofs.Tryz.f103 0) :=
  lk_of impl_IsValidChain_HC (m := 0) (T := impl_IsValidChain_T2) (sp := impl_IsValidChain_P2) (D := impl_IsValidChain_D2) (E := impl_IsValidChain_E2) (by kernel_rfl) (by kernel_rfl) (fun k hk => absurd hk (Nat.not_lt_zero k)) [0, 2] impl_IsValidChain_M2 (fun x => rfl) impl_IsValidChain_D2_nat impl_IsValidChain_K2 (fun i p R K => by rcases p with p | p | p | p <;> rfl) (fun i v => by kernel_rfl)

theorem impl_IsValidChain_OK : EntOK Go.Proofs.Tryz.prog impl_IsValidChain_Ent := ok_of impl_IsValidChain_HC Go.Proofs.Tryz.func103 1 (by kernel_rfl) (fun k hk => match k, hk with | 0, _ => impl_IsValidChain_lk2) (by kernel_rfl) (by kernel_rfl) (fun x => by kernel_rfl)

/-! impl.IsValidStore$1 -/

noncomputable def impl_IsValidStore_1_C : Cfg := { ti := g_tis, ents := [impl_IsValidChain_Ent], ann := [], lent := 0 }

def impl_IsValidStore_1_ti : Tmpl := ⟨(.slot (Ty.slice YVersion) .nil), .nil⟩

def impl_IsValidStore_1_to : Tmpl := ⟨(.slot (Ty.bool) .nil), .nil⟩

noncomputable def impl_IsValidStore_1_S (x : List (Int × Int × Int × Int × Int × Unit) × Unit) : Option (Bool × Unit) :=
  Option.bind (impl_IsValidChain_S (x.1, ())) fun v => bif !v.1 then some (true, ()) else some (decide ((↑(List.length x.1) : Int) > 50), ())

noncomputable def impl_IsValidStore_1_Ent : Ent := ⟨102, impl_IsValidStore_1_ti, impl_IsValidStore_1_to, impl_IsValidStore_1_S⟩

theorem impl_IsValidStore_1_HC : CfgOK Go.Proofs.Tryz.prog impl_IsValidStore_1_C := hc_of g_tisOK g_wide (all_cons impl_IsValidChain_OK all_nil)

theorem impl_IsValidStore_1_OK : EntOK Go.Proofs.Tryz.prog impl_IsValidStore_1_Ent := ok_of impl_IsValidStore_1_HC Go.Proofs.Tryz.func102 0 (by kernel_rfl) (fun k hk => absurd hk (Nat.not_lt_zero k)) (by kernel_rfl) (by kernel_rfl) (fun x => by kernel_rfl)

/-! slices.IndexFunc[[][]impl.Version,[]impl.Version] -/

abbrev slices_IndexFunc__impl_IsValidStore_1_I2 : Type := List (List (Int × Int × Int × Int × Int × Unit)) × Unit × Int × Unit

abbrev slices_IndexFunc__impl_IsValidStore_1_V2 : Type := Int × Unit

abbrev slices_IndexFunc__impl_IsValidStore_1_Q2 : Type := Int × Unit ⊕ Unit

noncomputable def slices_IndexFunc__impl_IsValidStore_1_D2 (i : slices_IndexFunc__impl_IsValidStore_1_I2) (v : slices_IndexFunc__impl_IsValidStore_1_V2) (R : Type) (K : slices_IndexFunc__impl_IsValidStore_1_V2 ⊕ slices_IndexFunc__impl_IsValidStore_1_Q2 → Option R) : Option R :=
  bif decide (v.1 < i.2.2.1) then Option.bind (lAt i.1 v.1) fun v_1 => Option.bind (impl_IsValidStore_1_S (v_1, ())) fun v_2 => bif v_2.1 then K (Sum.inr (Sum.inl (v.1, ()))) else K (Sum.inl (IntKind.wrap IntKind.i64 (v.1 + 1), ())) else K
  (Sum.inr (Sum.inr ()))

theorem slices_IndexFunc__impl_IsValidStore_1_D2_nat : NatD slices_IndexFunc__impl_IsValidStore_1_D2 := fun i v R K => nat_bif (nat_bind fun _ => nat_bind fun _ => nat_bif (nat_some) (nat_some)) (nat_some)

def slices_IndexFunc__impl_IsValidStore_1_T2 : Tmpl := ⟨(.slot (Ty.slice (Ty.slice YVersion)) (.slot (Ty.fn 102 Ty.unit) (jk 5 (.slot Ty.i (.slot Ty.i (jk 10 .nil)))))), .nil⟩

def slices_IndexFunc__impl_IsValidStore_1_X2_0 (i : slices_IndexFunc__impl_IsValidStore_1_I2) (p : Int × Unit) : St := ⟨jn 4 (.n (p.1) :: jn 14 ([])), []⟩

def slices_IndexFunc__impl_IsValidStore_1_X2_1 (i : slices_IndexFunc__impl_IsValidStore_1_I2) (p : Unit) : St := ⟨jn 19 ([]), []⟩

noncomputable def slices_IndexFunc__impl_IsValidStore_1_E2 (i : slices_IndexFunc__impl_IsValidStore_1_I2) (p : slices_IndexFunc__impl_IsValidStore_1_Q2) (R : Type) (K : Ex → St → Option R) : Option R := sumC p (fun p => K (Ex.ret) (slices_IndexFunc__impl_IsValidStore_1_X2_0 i p)) fun p => K (Ex.exit 0) (slices_IndexFunc__impl_IsValidStore_1_X2_1 i p)

noncomputable def slices_IndexFunc__impl_IsValidStore_1_K2 (i : slices_IndexFunc__impl_IsValidStore_1_I2) (p : slices_IndexFunc__impl_IsValidStore_1_Q2) : Ex × St := sumC p (fun p => (Ex.ret, slices_IndexFunc__impl_IsValidStore_1_X2_0 i p)) fun p => (Ex.exit 0, slices_IndexFunc__impl_IsValidStore_1_X2_1 i p)

def slices_IndexFunc__impl_IsValidStore_1_M2 (i : slices_IndexFunc__impl_IsValidStore_1_I2) (v : slices_IndexFunc__impl_IsValidStore_1_V2) : den slices_IndexFunc__impl_IsValidStore_1_T2.ty := (i.1, i.2.1, i.2.2.1, v.1, ())

def slices_IndexFunc__impl_IsValidStore_1_P2 (x : den slices_IndexFunc__impl_IsValidStore_1_T2.ty) : slices_IndexFunc__impl_IsValidStore_1_I2 × slices_IndexFunc__impl_IsValidStore_1_V2 := ((x.1, x.2.1, x.2.2.1, ()), (x.2.2.2.1, ()))

noncomputable def slices_IndexFunc__impl_IsValidStore_1_C : Cfg := { ti := g_tis, ents := [impl_IsValidStore_1_Ent], ann := [(2, loopFn slices_IndexFunc__impl_IsValidStore_1_T2 0 slices_IndexFunc__impl_IsValidStore_1_P2 slices_IndexFunc__impl_IsValidStore_1_D2 slices_IndexFunc__impl_IsValidStore_1_E2)], lent := 0 }

def slices_IndexFunc__impl_IsValidStore_1_ti : Tmpl := ⟨(.slot (Ty.slice (Ty.slice YVersion)) (.slot (Ty.fn 102 Ty.unit) .nil)), .nil⟩

def slices_IndexFunc__impl_IsValidStore_1_to : Tmpl := ⟨(.slot Ty.i .nil), .nil⟩

noncomputable def slices_IndexFunc__impl_IsValidStore_1_S (x : List (List (Int × Int × Int × Int × Int × Unit)) × Unit × Unit) : Option (Int × Unit) :=
  Option.bind (iter (fun v => slices_IndexFunc__impl_IsValidStore_1_D2 (x.1, x.2.1, (↑(List.length x.1) : Int), ()) v _ some) (0, ())) fun p => sumC p (fun p => some (p.1, ())) fun p => some (-1, ())

noncomputable def slices_IndexFunc__impl_IsValidStore_1_Ent : Ent := ⟨124, slices_IndexFunc__impl_IsValidStore_1_ti, slices_IndexFunc__impl_IsValidStore_1_to, slices_IndexFunc__impl_IsValidStore_1_S⟩

theorem slices_IndexFunc__impl_IsValidStore_1_HC : CfgOK Go.Proofs.Tryz.prog slices_IndexFunc__impl_IsValidStore_1_C := hc_of g_tisOK g_wide (all_cons impl_IsValidStore_1_OK all_nil)

theorem slices_IndexFunc__impl_IsValidStore_1_lk2 : LkOK Go.Proofs.Tryz.prog slices_IndexFunc__impl_IsValidStore_1_C (lpc Go.Proofs.Tryz.f124 0) :=
  lk_of slices_IndexFunc__impl_IsValidStore_1_HC (m := 0) (T := slices_IndexFunc__impl_IsValidStore_1_T2) (sp := slices_IndexFunc__impl_IsValidStore_1_P2) (D := slices_IndexFunc__impl_IsValidStore_1_D2) (E := slices_IndexFunc__impl_IsValidStore_1_E2) (by kernel_rfl) (by kernel_rfl) (fun k hk => absurd hk (Nat.not_lt_zero k)) [4] slices_IndexFunc__impl_IsValidStore_1_M2 (fun x => rfl) slices_IndexFunc__impl_IsValidStore_1_D2_nat slices_IndexFunc__impl_IsValidStore_1_K2 (fun i p R K => by rcases p with p | p <;> rfl) (fun i v => by kernel_rfl)

theorem slices_IndexFunc__impl_IsValidStore_1_OK : EntOK Go.Proofs.Tryz.prog slices_IndexFunc__impl_IsValidStore_1_Ent := ok_of slices_IndexFunc__impl_IsValidStore_1_HC Go.Proofs.Tryz.func124 1 (by kernel_rfl) (fun k hk => match k, hk with | 0, _ => slices_IndexFunc__impl_IsValidStore_1_lk2) (by kernel_rfl) (by kernel_rfl) (fun x => by kernel_rfl)

/-! slices.ContainsFunc[[][]impl.Version,[]impl.Version] -/

noncomputable def slices_ContainsFunc__impl_IsValidStore_1_C : Cfg := { ti := g_tis, ents := [slices_IndexFunc__impl_IsValidStore_1_Ent], ann := [], lent := 0 }

def slices_ContainsFunc__impl_IsValidStore_1_ti : Tmpl := ⟨(.slot (Ty.slice (Ty.slice YVersion)) (.slot (Ty.fn 102 Ty.unit) .nil)), .nil⟩

def slices_ContainsFunc__impl_IsValidStore_1_to : Tmpl := ⟨(.slot (Ty.bool) .nil), .nil⟩

noncomputable def slices_ContainsFunc__impl_IsValidStore_1_S (x : List (List (Int × Int × Int × Int × Int × Unit)) × Unit × Unit) : Option (Bool × Unit) :=
  Option.bind (slices_IndexFunc__impl_IsValidStore_1_S (x.1, x.2.1, ())) fun v => some (decide (v.1 ≥ 0), ())

noncomputable def slices_ContainsFunc__impl_IsValidStore_1_Ent : Ent := ⟨101, slices_ContainsFunc__impl_IsValidStore_1_ti, slices_ContainsFunc__impl_IsValidStore_1_to, slices_ContainsFunc__impl_IsValidStore_1_S⟩

theorem slices_ContainsFunc__impl_IsValidStore_1_HC : CfgOK Go.Proofs.Tryz.prog slices_ContainsFunc__impl_IsValidStore_1_C := hc_of g_tisOK g_wide (all_cons slices_IndexFunc__impl_IsValidStore_1_OK all_nil)

theorem slices_ContainsFunc__impl_IsValidStore_1_OK : EntOK Go.Proofs.Tryz.prog slices_ContainsFunc__impl_IsValidStore_1_Ent := ok_of slices_ContainsFunc__impl_IsValidStore_1_HC Go.Proofs.Tryz.func101 0 (by kernel_rfl) (fun k hk => absurd hk (Nat.not_lt_zero k)) (by kernel_rfl) (by kernel_rfl) (fun x => by kernel_rfl)

/-! impl.IsValidStore -/

noncomputable def impl_IsValidStore_C : Cfg := { ti := g_tis, ents := [slices_ContainsFunc__impl_IsValidStore_1_Ent], ann := [], lent := 0 }

def impl_IsValidStore_ti : Tmpl := ⟨(.slot YStore .nil), .nil⟩

def impl_IsValidStore_to : Tmpl := ⟨(.slot (Ty.bool) .nil), .nil⟩

noncomputable def impl_IsValidStore_S (x : (List (List (Int × Int × Int × Int × Int × Unit)) × Unit) × Unit) : Option (Bool × Unit) :=
  bif (↑(List.length x.1.1) : Int) == 6 then Option.bind (slices_ContainsFunc__impl_IsValidStore_1_S (x.1.1, (), ())) fun v => some (!v.1, ()) else some (false, ())

noncomputable def impl_IsValidStore_Ent : Ent := ⟨62, impl_IsValidStore_ti, impl_IsValidStore_to, impl_IsValidStore_S⟩

theorem impl_IsValidStore_HC : CfgOK Go.Proofs.Tryz.prog impl_IsValidStore_C := hc_of g_tisOK g_wide (all_cons slices_ContainsFunc__impl_IsValidStore_1_OK all_nil)

theorem impl_IsValidStore_OK : EntOK Go.Proofs.Tryz.prog impl_IsValidStore_Ent := ok_of impl_IsValidStore_HC Go.Proofs.Tryz.func62 0 (by kernel_rfl) (fun k hk => absurd hk (Nat.not_lt_zero k)) (by kernel_rfl) (by kernel_rfl) (fun x => by kernel_rfl)

/-! impl.isKey -/

noncomputable def impl_isKey_C : Cfg := { ti := g_tis, ents := [impl_in_Ent], ann := [], lent := 0 }

def impl_isKey_ti : Tmpl := ⟨(.slot Ty.i .nil), .nil⟩

def impl_isKey_to : Tmpl := ⟨(.slot (Ty.bool) .nil), .nil⟩

noncomputable def impl_isKey_S (x : Int × Unit) : Option (Bool × Unit) :=
  Option.bind (impl_in_S (x.1, 0, 5, ())) fun v => some (v.1, ())

noncomputable def impl_isKey_Ent : Ent := ⟨104, impl_isKey_ti, impl_isKey_to, impl_isKey_S⟩

theorem impl_isKey_HC : CfgOK Go.Proofs.Tryz.prog impl_isKey_C := hc_of g_tisOK g_wide (all_cons impl_in_OK all_nil)

theorem impl_isKey_OK : EntOK Go.Proofs.Tryz.prog impl_isKey_Ent := ok_of impl_isKey_HC Go.Proofs.Tryz.func104 0 (by kernel_rfl) (fun k hk => absurd hk (Nat.not_lt_zero k)) (by kernel_rfl) (by kernel_rfl) (fun x => by kernel_rfl)

/-! impl.AreLocks -/

abbrev impl_AreLocks_I2 : Type := List (Int × Int × Unit) × List (Int × Int × Unit) × Int × Unit

abbrev impl_AreLocks_V2 : Type := Int × Unit

abbrev impl_AreLocks_Q2 : Type := Int × Int × Unit ⊕ Int × Int × Unit ⊕ Int × Int × Unit ⊕ Unit

noncomputable def impl_AreLocks_D2 (i : impl_AreLocks_I2) (v : impl_AreLocks_V2) (R : Type) (K : impl_AreLocks_V2 ⊕ impl_AreLocks_Q2 → Option R) : Option R :=
  bif decide (v.1 < i.2.2.1) then Option.bind (lAt i.2.1 v.1) fun v_1 => Option.bind (impl_isKey_S (v_1.1, ())) fun v_2 => bif !v_2.1 then K (Sum.inr (Sum.inl (v_1.1, v_1.2.1, ()))) else Option.bind (impl_isID_S (v_1.2.1, ())) fun v_3 => bif
  !v_3.1 then K (Sum.inr (Sum.inr (Sum.inl (v_1.1, v_1.2.1, ())))) else bif decide (v.1 > 0) then Option.bind (lAt i.1 (IntKind.wrap IntKind.i64 (v.1 - 1))) fun v_4 => bif decide (v_4.1 ≥ v_1.1) then K (Sum.inr (Sum.inr (Sum.inr (Sum.inl
  (v_1.1, v_1.2.1, ()))))) else K (Sum.inl (IntKind.wrap IntKind.i64 (v.1 + 1), ())) else K (Sum.inl (IntKind.wrap IntKind.i64 (v.1 + 1), ())) else K (Sum.inr (Sum.inr (Sum.inr (Sum.inr ()))))

theorem impl_AreLocks_D2_nat : NatD impl_AreLocks_D2 := fun i v R K => nat_bif (nat_bind fun _ => nat_bind fun _ => nat_bif (nat_some) (nat_bind fun _ => nat_bif (nat_some) (nat_bif (nat_bind fun _ => nat_bif (nat_some) (nat_some)) (nat_some)))) (nat_some)

def impl_AreLocks_T2 : Tmpl := ⟨(.slot (Ty.slice YReadMark) (jk 4 (.slot (Ty.slice YReadMark) (.slot Ty.i (.slot Ty.i (jk 30 .nil)))))), .nil⟩

def impl_AreLocks_X2_0 (i : impl_AreLocks_I2) (p : Int × Int × Unit) : St := ⟨jn 2 (.b (false) :: jn 35 ([])), [some (Cont.cells 2 [[AV.pv Ty.i p.1, AV.pv Ty.i p.2.1]])]⟩

def impl_AreLocks_X2_1 (i : impl_AreLocks_I2) (p : Int × Int × Unit) : St := ⟨jn 2 (.b (false) :: jn 35 ([])), [some (Cont.cells 2 [[AV.pv Ty.i p.1, AV.pv Ty.i p.2.1]])]⟩

def impl_AreLocks_X2_2 (i : impl_AreLocks_I2) (p : Int × Int × Unit) : St := ⟨jn 2 (.b (false) :: jn 35 ([])), [some (Cont.cells 2 [[AV.pv Ty.i p.1, AV.pv Ty.i p.2.1]])]⟩

def impl_AreLocks_X2_3 (i : impl_AreLocks_I2) (p : Unit) : St := ⟨jn 38 ([]), []⟩

noncomputable def impl_AreLocks_E2 (i : impl_AreLocks_I2) (p : impl_AreLocks_Q2) (R : Type) (K : Ex → St → Option R) : Option R := sumC p (fun p => K (Ex.ret) (impl_AreLocks_X2_0 i p)) fun p => sumC p (fun p => K (Ex.ret) (impl_AreLocks_X2_1 i p)) fun p => sumC p (fun p => K (Ex.ret) (impl_AreLocks_X2_2 i p)) fun p => K (Ex.exit 0) (impl_AreLocks_X2_3 i p)

noncomputable def impl_AreLocks_K2 (i : impl_AreLocks_I2) (p : impl_AreLocks_Q2) : Ex × St := sumC p (fun p => (Ex.ret, impl_AreLocks_X2_0 i p)) fun p => sumC p (fun p => (Ex.ret, impl_AreLocks_X2_1 i p)) fun p => sumC p (fun p => (Ex.ret, impl_AreLocks_X2_2 i p)) fun p => (Ex.exit 0, impl_AreLocks_X2_3 i p)

def impl_AreLocks_M2 (i : impl_AreLocks_I2) (v : impl_AreLocks_V2) : den impl_AreLocks_T2.ty := (i.1, i.2.1, i.2.2.1, v.1, ())

def impl_AreLocks_P2 (x : den impl_AreLocks_T2.ty) : impl_AreLocks_I2 × impl_AreLocks_V2 := ((x.1, x.2.1, x.2.2.1, ()), (x.2.2.2.1, ()))

noncomputable def impl_AreLocks_C : Cfg := { ti := g_tis, ents := [impl_isKey_Ent, impl_isID_Ent], ann := [(2, loopFn impl_AreLocks_T2 0 impl_AreLocks_P2 impl_AreLocks_D2 impl_AreLocks_E2)], lent := 0 }

def impl_AreLocks_ti : Tmpl := ⟨(.slot (Ty.slice YReadMark) .nil), .nil⟩

def impl_AreLocks_to : Tmpl := ⟨(.slot (Ty.bool) .nil), .nil⟩

noncomputable def impl_AreLocks_S (x : List (Int × Int × Unit) × Unit) : Option (Bool × Unit) :=
  Option.bind (iter (fun v => impl_AreLocks_D2 (x.1, x.1, (↑(List.length x.1) : Int), ()) v _ some) (0, ())) fun p => sumC p (fun p => some (false, ())) fun p => sumC p (fun p => some (false, ())) fun p => sumC p (fun p => some
  (false, ())) fun p => some (true, ())

noncomputable def impl_AreLocks_Ent : Ent := ⟨63, impl_AreLocks_ti, impl_AreLocks_to, impl_AreLocks_S⟩

theorem impl_AreLocks_HC : CfgOK Go.Proofs.Tryz.prog impl_AreLocks_C := hc_of g_tisOK g_wide (all_cons impl_isKey_OK (all_cons impl_isID_OK all_nil))

theorem impl_AreLocks_lk2 : LkOK Go.Proofs.Tryz.prog impl_AreLocks_C (lpc Go.Proofs.Tryz.f63 0) :=
  lk_of impl_AreLocks_HC (m := 0) (T := impl_AreLocks_T2) (sp := impl_AreLocks_P2) (D := impl_AreLocks_D2) (E := impl_AreLocks_E2) (by kernel_rfl) (by kernel_rfl) (fun k hk => absurd hk (Nat.not_lt_zero k)) [2] impl_AreLocks_M2 (fun x => rfl) impl_AreLocks_D2_nat impl_AreLocks_K2 (fun i p R K => by rcases p with p | p | p | p <;> rfl) (fun i v => by kernel_rfl)

theorem impl_AreLocks_OK : EntOK Go.Proofs.Tryz.prog impl_AreLocks_Ent := ok_of impl_AreLocks_HC Go.Proofs.Tryz.func63 1 (by kernel_rfl) (fun k hk => match k, hk with | 0, _ => impl_AreLocks_lk2) (by kernel_rfl) (by kernel_rfl) (fun x => by kernel_rfl)

/-! impl.AreWaits -/

abbrev impl_AreWaits_I2 : Type := List (Int × Int × Unit) × List (Int × Int × Unit) × Int × Unit

abbrev impl_AreWaits_V2 : Type := Int × Unit

abbrev impl_AreWaits_Q2 : Type := Int × Int × Unit ⊕ Int × Int × Unit ⊕ Int × Int × Unit ⊕ Int × Int × Unit ⊕ Unit

noncomputable def impl_AreWaits_D2 (i : impl_AreWaits_I2) (v : impl_AreWaits_V2) (R : Type) (K : impl_AreWaits_V2 ⊕ impl_AreWaits_Q2 → Option R) : Option R :=
  bif decide (v.1 < i.2.2.1) then Option.bind (lAt i.2.1 v.1) fun v_1 => Option.bind (impl_isID_S (v_1.1, ())) fun v_2 => bif !v_2.1 then K (Sum.inr (Sum.inl (v_1.1, v_1.2.1, ()))) else Option.bind (impl_isID_S (v_1.2.1, ())) fun v_3 => bif
  !v_3.1 then K (Sum.inr (Sum.inr (Sum.inl (v_1.1, v_1.2.1, ())))) else bif v_1.1 == v_1.2.1 then K (Sum.inr (Sum.inr (Sum.inr (Sum.inl (v_1.1, v_1.2.1, ()))))) else bif decide (v.1 > 0) then Option.bind (lAt i.1 (IntKind.wrap IntKind.i64 (v.1
  - 1))) fun v_4 => bif decide (v_4.1 ≥ v_1.1) then K (Sum.inr (Sum.inr (Sum.inr (Sum.inr (Sum.inl (v_1.1, v_1.2.1, ())))))) else K (Sum.inl (IntKind.wrap IntKind.i64 (v.1 + 1), ())) else K (Sum.inl (IntKind.wrap IntKind.i64 (v.1 + 1), ()))
  else K (Sum.inr (Sum.inr (Sum.inr (Sum.inr (Sum.inr ())))))

theorem impl_AreWaits_D2_nat : NatD impl_AreWaits_D2 := fun i v R K => nat_bif (nat_bind fun _ => nat_bind fun _ => nat_bif (nat_some) (nat_bind fun _ => nat_bif (nat_some) (nat_bif (nat_some) (nat_bif (nat_bind fun _ => nat_bif (nat_some) (nat_some)) (nat_some))))) (nat_some)

def impl_AreWaits_T2 : Tmpl := ⟨(.slot (Ty.slice YReadMark) (jk 4 (.slot (Ty.slice YReadMark) (.slot Ty.i (.slot Ty.i (jk 37 .nil)))))), .nil⟩

def impl_AreWaits_X2_0 (i : impl_AreWaits_I2) (p : Int × Int × Unit) : St := ⟨jn 2 (.b (false) :: jn 42 ([])), [some (Cont.cells 2 [[AV.pv Ty.i p.1, AV.pv Ty.i p.2.1]])]⟩

def impl_AreWaits_X2_1 (i : impl_AreWaits_I2) (p : Int × Int × Unit) : St := ⟨jn 2 (.b (false) :: jn 42 ([])), [some (Cont.cells 2 [[AV.pv Ty.i p.1, AV.pv Ty.i p.2.1]])]⟩

def impl_AreWaits_X2_2 (i : impl_AreWaits_I2) (p : Int × Int × Unit) : St := ⟨jn 2 (.b (false) :: jn 42 ([])), [some (Cont.cells 2 [[AV.pv Ty.i p.1, AV.pv Ty.i p.2.1]])]⟩

def impl_AreWaits_X2_3 (i : impl_AreWaits_I2) (p : Int × Int × Unit) : St := ⟨jn 2 (.b (false) :: jn 42 ([])), [some (Cont.cells 2 [[AV.pv Ty.i p.1, AV.pv Ty.i p.2.1]])]⟩

def impl_AreWaits_X2_4 (i : impl_AreWaits_I2) (p : Unit) : St := ⟨jn 45 ([]), []⟩

noncomputable def impl_AreWaits_E2 (i : impl_AreWaits_I2) (p : impl_AreWaits_Q2) (R : Type) (K : Ex → St → Option R) : Option R := sumC p (fun p => K (Ex.ret) (impl_AreWaits_X2_0 i p)) fun p => sumC p (fun p => K (Ex.ret) (impl_AreWaits_X2_1 i p)) fun p => sumC p (fun p => K (Ex.ret) (impl_AreWaits_X2_2 i p)) fun p => sumC p (fun p => K (Ex.ret) (impl_AreWaits_X2_3 i p)) fun p => K (Ex.exit 0) (impl_AreWaits_X2_4 i p)

noncomputable def impl_AreWaits_K2 (i : impl_AreWaits_I2) (p : impl_AreWaits_Q2) : Ex × St := sumC p (fun p => (Ex.ret, impl_AreWaits_X2_0 i p)) fun p => sumC p (fun p => (Ex.ret, impl_AreWaits_X2_1 i p)) fun p => sumC p (fun p => (Ex.ret, impl_AreWaits_X2_2 i p)) fun p => sumC p (fun p => (Ex.ret, impl_AreWaits_X2_3 i p)) fun p => (Ex.exit 0, impl_AreWaits_X2_4 i p)

def impl_AreWaits_M2 (i : impl_AreWaits_I2) (v : impl_AreWaits_V2) : den impl_AreWaits_T2.ty := (i.1, i.2.1, i.2.2.1, v.1, ())

def impl_AreWaits_P2 (x : den impl_AreWaits_T2.ty) : impl_AreWaits_I2 × impl_AreWaits_V2 := ((x.1, x.2.1, x.2.2.1, ()), (x.2.2.2.1, ()))

noncomputable def impl_AreWaits_C : Cfg := { ti := g_tis, ents := [impl_isID_Ent], ann := [(2, loopFn impl_AreWaits_T2 0 impl_AreWaits_P2 impl_AreWaits_D2 impl_AreWaits_E2)], lent := 0 }

def impl_AreWaits_ti : Tmpl := ⟨(.slot (Ty.slice YReadMark) .nil), .nil⟩

def impl_AreWaits_to : Tmpl := ⟨(.slot (Ty.bool) .nil), .nil⟩

noncomputable def impl_AreWaits_S (x : List (Int × Int × Unit) × Unit) : Option (Bool × Unit) :=
  Option.bind (iter (fun v => impl_AreWaits_D2 (x.1, x.1, (↑(List.length x.1) : Int), ()) v _ some) (0, ())) fun p => sumC p (fun p => some (false, ())) fun p => sumC p (fun p => some (false, ())) fun p => sumC p (fun p => some
  (false, ())) fun p => sumC p (fun p => some (false, ())) fun p => some (true, ())

noncomputable def impl_AreWaits_Ent : Ent := ⟨64, impl_AreWaits_ti, impl_AreWaits_to, impl_AreWaits_S⟩

theorem impl_AreWaits_HC : CfgOK Go.Proofs.Tryz.prog impl_AreWaits_C := hc_of g_tisOK g_wide (all_cons impl_isID_OK all_nil)

theorem impl_AreWaits_lk2 : LkOK Go.Proofs.Tryz.prog impl_AreWaits_C (lpc Go.Proofs.Tryz.f64 0) :=
  lk_of impl_AreWaits_HC (m := 0) (T := impl_AreWaits_T2) (sp := impl_AreWaits_P2) (D := impl_AreWaits_D2) (E := impl_AreWaits_E2) (by kernel_rfl) (by kernel_rfl) (fun k hk => absurd hk (Nat.not_lt_zero k)) [2] impl_AreWaits_M2 (fun x => rfl) impl_AreWaits_D2_nat impl_AreWaits_K2 (fun i p R K => by rcases p with p | p | p | p | p <;> rfl) (fun i v => by kernel_rfl)

theorem impl_AreWaits_OK : EntOK Go.Proofs.Tryz.prog impl_AreWaits_Ent := ok_of impl_AreWaits_HC Go.Proofs.Tryz.func64 1 (by kernel_rfl) (fun k hk => match k, hk with | 0, _ => impl_AreWaits_lk2) (by kernel_rfl) (by kernel_rfl) (fun x => by kernel_rfl)

/-! (impl.Store).lastStamp -/

abbrev impl_Store_lastStamp_I6 : Type := List (List (Int × Int × Int × Int × Int × Unit)) × Int × Int × List (Int × Int × Int × Int × Int × Unit) × Int × Unit

abbrev impl_Store_lastStamp_V6 : Type := Int × Int × Unit

abbrev impl_Store_lastStamp_Q6 : Type := Int × Unit

noncomputable def impl_Store_lastStamp_D6 (i : impl_Store_lastStamp_I6) (v : impl_Store_lastStamp_V6) (R : Type) (K : impl_Store_lastStamp_V6 ⊕ impl_Store_lastStamp_Q6 → Option R) : Option R :=
  bif decide (v.2.1 < i.2.2.2.2.1) then Option.bind (lAt i.2.2.2.1 v.2.1) fun v_1 => K (Sum.inl (mx v.1 v_1.2.2.2.1, IntKind.wrap IntKind.i64 (v.2.1 + 1), ())) else K (Sum.inr (v.1, ()))

theorem impl_Store_lastStamp_D6_nat : NatD impl_Store_lastStamp_D6 := fun i v R K => nat_bif (nat_bind fun _ => nat_some) (nat_some)

def impl_Store_lastStamp_T6 : Tmpl := ⟨(jk 3 (.slot Ty.i (jk 5 (.slot (Ty.slice (Ty.slice YVersion)) (.slot Ty.i (.slot Ty.i (jk 3 (.slot (Ty.slice YVersion) (.slot Ty.i (.slot Ty.i (jk 10 .nil))))))))))), .nil⟩

def impl_Store_lastStamp_X6_0 (i : impl_Store_lastStamp_I6) (p : Int × Unit) : St := ⟨jn 3 (.n (p.1) :: jn 5 (AV.pv (Ty.slice (Ty.slice YVersion)) i.1 :: .n (i.2.1) :: .n
  (i.2.2.1) :: jn 16 ([]))), []⟩

noncomputable def impl_Store_lastStamp_E6 (i : impl_Store_lastStamp_I6) (p : impl_Store_lastStamp_Q6) (R : Type) (K : Ex → St → Option R) : Option R := K (Ex.exit 2) (impl_Store_lastStamp_X6_0 i p)

noncomputable def impl_Store_lastStamp_K6 (i : impl_Store_lastStamp_I6) (p : impl_Store_lastStamp_Q6) : Ex × St := (Ex.exit 2, impl_Store_lastStamp_X6_0 i p)

def impl_Store_lastStamp_M6 (i : impl_Store_lastStamp_I6) (v : impl_Store_lastStamp_V6) : den impl_Store_lastStamp_T6.ty := (v.1, i.1, i.2.1, i.2.2.1, i.2.2.2.1, i.2.2.2.2.1, v.2.1, ())

def impl_Store_lastStamp_P6 (x : den impl_Store_lastStamp_T6.ty) : impl_Store_lastStamp_I6 × impl_Store_lastStamp_V6 := ((x.2.1, x.2.2.1, x.2.2.2.1, x.2.2.2.2.1, x.2.2.2.2.2.1, ()), (x.1, x.2.2.2.2.2.2.1, ()))

abbrev impl_Store_lastStamp_I3 : Type := List (List (Int × Int × Int × Int × Int × Unit)) × Int × Unit

abbrev impl_Store_lastStamp_V3 : Type := Int × Int × Unit

abbrev impl_Store_lastStamp_Q3 : Type := Int × Unit

noncomputable def impl_Store_lastStamp_D3 (i : impl_Store_lastStamp_I3) (v : impl_Store_lastStamp_V3) (R : Type) (K : impl_Store_lastStamp_V3 ⊕ impl_Store_lastStamp_Q3 → Option R) : Option R :=
  bif decide (v.2.1 < i.2.1) then Option.bind (lAt i.1 v.2.1) fun v_1 => Option.bind (iter (fun v_2 => impl_Store_lastStamp_D6 (i.1, i.2.1, v.2.1, v_1, (↑(List.length v_1) : Int), ()) v_2 _ some) (v.1, 0, ())) fun p => K (Sum.inl
  (p.1, IntKind.wrap IntKind.i64 (v.2.1 + 1), ())) else K (Sum.inr (v.1, ()))

theorem impl_Store_lastStamp_D3_nat : NatD impl_Store_lastStamp_D3 := fun i v R K => nat_bif (nat_bind fun _ => nat_bind fun _ => nat_some) (nat_some)

def impl_Store_lastStamp_T3 : Tmpl := ⟨(jk 3 (.slot Ty.i (jk 5 (.slot (Ty.slice (Ty.slice YVersion)) (.slot Ty.i (.slot Ty.i (jk 16 .nil))))))), .nil⟩

def impl_Store_lastStamp_X3_0 (i : impl_Store_lastStamp_I3) (p : Int × Unit) : St := ⟨jn 3 (.n (p.1) :: jn 24 ([])), []⟩

noncomputable def impl_Store_lastStamp_E3 (i : impl_Store_lastStamp_I3) (p : impl_Store_lastStamp_Q3) (R : Type) (K : Ex → St → Option R) : Option R := K (Ex.exit 0) (impl_Store_lastStamp_X3_0 i p)

noncomputable def impl_Store_lastStamp_K3 (i : impl_Store_lastStamp_I3) (p : impl_Store_lastStamp_Q3) : Ex × St := (Ex.exit 0, impl_Store_lastStamp_X3_0 i p)

def impl_Store_lastStamp_M3 (i : impl_Store_lastStamp_I3) (v : impl_Store_lastStamp_V3) : den impl_Store_lastStamp_T3.ty := (v.1, i.1, i.2.1, v.2.1, ())

def impl_Store_lastStamp_P3 (x : den impl_Store_lastStamp_T3.ty) : impl_Store_lastStamp_I3 × impl_Store_lastStamp_V3 := ((x.2.1, x.2.2.1, ()), (x.1, x.2.2.2.1, ()))

noncomputable def impl_Store_lastStamp_C : Cfg := { ti := g_tis, ents := [], ann := [(6, loopFn impl_Store_lastStamp_T6 0 impl_Store_lastStamp_P6 impl_Store_lastStamp_D6 impl_Store_lastStamp_E6), (3, loopFn impl_Store_lastStamp_T3 0 impl_Store_lastStamp_P3 impl_Store_lastStamp_D3 impl_Store_lastStamp_E3)], lent := 0 }

def impl_Store_lastStamp_ti : Tmpl := ⟨(.slot YStore .nil), .nil⟩

def impl_Store_lastStamp_to : Tmpl := ⟨(.slot Ty.i .nil), .nil⟩

noncomputable def impl_Store_lastStamp_S (x : (List (List (Int × Int × Int × Int × Int × Unit)) × Unit) × Unit) : Option (Int × Unit) :=
  Option.bind (iter (fun v => impl_Store_lastStamp_D3 (x.1.1, (↑(List.length x.1.1) : Int), ()) v _ some) (0, 0, ())) fun p => some (p.1, ())

noncomputable def impl_Store_lastStamp_Ent : Ent := ⟨66, impl_Store_lastStamp_ti, impl_Store_lastStamp_to, impl_Store_lastStamp_S⟩

theorem impl_Store_lastStamp_HC : CfgOK Go.Proofs.Tryz.prog impl_Store_lastStamp_C := hc_of g_tisOK g_wide all_nil

theorem impl_Store_lastStamp_lk6 : LkOK Go.Proofs.Tryz.prog impl_Store_lastStamp_C (lpc Go.Proofs.Tryz.f66 1) :=
  lk_of impl_Store_lastStamp_HC (m := 0) (T := impl_Store_lastStamp_T6) (sp := impl_Store_lastStamp_P6) (D := impl_Store_lastStamp_D6) (E := impl_Store_lastStamp_E6) (by kernel_rfl) (by kernel_rfl) (fun k hk => absurd hk (Nat.not_lt_zero k)) [3, 9, 10, 11] impl_Store_lastStamp_M6 (fun x => rfl) impl_Store_lastStamp_D6_nat impl_Store_lastStamp_K6 (fun i p R K => rfl) (fun i v => by kernel_rfl)

theorem impl_Store_lastStamp_lk3 : LkOK Go.Proofs.Tryz.prog impl_Store_lastStamp_C (lpc Go.Proofs.Tryz.f66 0) :=
  lk_of impl_Store_lastStamp_HC (m := 1) (T := impl_Store_lastStamp_T3) (sp := impl_Store_lastStamp_P3) (D := impl_Store_lastStamp_D3) (E := impl_Store_lastStamp_E3) (by kernel_rfl) (by kernel_rfl) (fun k hk => match k, hk with | 0, _ => lk_at (by kernel_rfl) impl_Store_lastStamp_lk6) [3] impl_Store_lastStamp_M3 (fun x => rfl) impl_Store_lastStamp_D3_nat impl_Store_lastStamp_K3 (fun i p R K => rfl) (fun i v => by kernel_rfl)

theorem impl_Store_lastStamp_OK : EntOK Go.Proofs.Tryz.prog impl_Store_lastStamp_Ent := ok_of impl_Store_lastStamp_HC Go.Proofs.Tryz.func66 2 (by kernel_rfl) (fun k hk => match k, hk with | 0, _ => impl_Store_lastStamp_lk3 | 1, _ => impl_Store_lastStamp_lk6) (by kernel_rfl) (by kernel_rfl) (fun x => by kernel_rfl)

/-! impl.isScheme -/

noncomputable def impl_isScheme_C : Cfg := { ti := g_tis, ents := [impl_in_Ent], ann := [], lent := 0 }

def impl_isScheme_ti : Tmpl := ⟨(.slot Ty.i .nil), .nil⟩

def impl_isScheme_to : Tmpl := ⟨(.slot (Ty.bool) .nil), .nil⟩

noncomputable def impl_isScheme_S (x : Int × Unit) : Option (Bool × Unit) :=
  Option.bind (impl_in_S (x.1, 1, 4, ())) fun v => some (v.1, ())

noncomputable def impl_isScheme_Ent : Ent := ⟨126, impl_isScheme_ti, impl_isScheme_to, impl_isScheme_S⟩

theorem impl_isScheme_HC : CfgOK Go.Proofs.Tryz.prog impl_isScheme_C := hc_of g_tisOK g_wide (all_cons impl_in_OK all_nil)

theorem impl_isScheme_OK : EntOK Go.Proofs.Tryz.prog impl_isScheme_Ent := ok_of impl_isScheme_HC Go.Proofs.Tryz.func126 0 (by kernel_rfl) (fun k hk => absurd hk (Nat.not_lt_zero k)) (by kernel_rfl) (by kernel_rfl) (fun x => by kernel_rfl)

/-! impl.IsStamp -/

noncomputable def impl_IsStamp_C : Cfg := { ti := g_tis, ents := [impl_in_Ent], ann := [], lent := 0 }

def impl_IsStamp_ti : Tmpl := ⟨(.slot Ty.i .nil), .nil⟩

def impl_IsStamp_to : Tmpl := ⟨(.slot (Ty.bool) .nil), .nil⟩

noncomputable def impl_IsStamp_S (x : Int × Unit) : Option (Bool × Unit) :=
  Option.bind (impl_in_S (x.1, 1, 999, ())) fun v => some (v.1, ())

noncomputable def impl_IsStamp_Ent : Ent := ⟨127, impl_IsStamp_ti, impl_IsStamp_to, impl_IsStamp_S⟩

theorem impl_IsStamp_HC : CfgOK Go.Proofs.Tryz.prog impl_IsStamp_C := hc_of g_tisOK g_wide (all_cons impl_in_OK all_nil)

theorem impl_IsStamp_OK : EntOK Go.Proofs.Tryz.prog impl_IsStamp_Ent := ok_of impl_IsStamp_HC Go.Proofs.Tryz.func127 0 (by kernel_rfl) (fun k hk => absurd hk (Nat.not_lt_zero k)) (by kernel_rfl) (by kernel_rfl) (fun x => by kernel_rfl)

/-! cmp.isNaN[int] -/

noncomputable def cmp_isNaN_int_C : Cfg := { ti := g_tis, ents := [], ann := [], lent := 0 }

def cmp_isNaN_int_ti : Tmpl := ⟨(.slot Ty.i .nil), .nil⟩

def cmp_isNaN_int_to : Tmpl := ⟨(.slot (Ty.bool) .nil), .nil⟩

noncomputable def cmp_isNaN_int_S (x : Int × Unit) : Option (Bool × Unit) :=
  some (x.1 != x.1, ())

noncomputable def cmp_isNaN_int_Ent : Ent := ⟨150, cmp_isNaN_int_ti, cmp_isNaN_int_to, cmp_isNaN_int_S⟩

theorem cmp_isNaN_int_HC : CfgOK Go.Proofs.Tryz.prog cmp_isNaN_int_C := hc_of g_tisOK g_wide all_nil

theorem cmp_isNaN_int_OK : EntOK Go.Proofs.Tryz.prog cmp_isNaN_int_Ent := ok_of cmp_isNaN_int_HC Go.Proofs.Tryz.func150 0 (by kernel_rfl) (fun k hk => absurd hk (Nat.not_lt_zero k)) (by kernel_rfl) (by kernel_rfl) (fun x => by kernel_rfl)

/-! cmp.Compare[int] -/

noncomputable def cmp_Compare_int_C : Cfg := { ti := g_tis, ents := [cmp_isNaN_int_Ent], ann := [], lent := 0 }

def cmp_Compare_int_ti : Tmpl := ⟨(.slot Ty.i (.slot Ty.i .nil)), .nil⟩

def cmp_Compare_int_to : Tmpl := ⟨(.slot Ty.i .nil), .nil⟩

noncomputable def cmp_Compare_int_S (x : Int × Int × Unit) : Option (Int × Unit) :=
  Option.bind (cmp_isNaN_int_S (x.1, ())) fun v => Option.bind (cmp_isNaN_int_S (x.2.1, ())) fun v_1 => bif v.1 then bif v_1.1 then some (0, ()) else some (-1, ()) else bif v_1.1 then some (1, ()) else bif decide (x.1 < x.2.1) then some (-1,
  ()) else bif decide (x.1 > x.2.1) then some (1, ()) else some (0, ())

noncomputable def cmp_Compare_int_Ent : Ent := ⟨147, cmp_Compare_int_ti, cmp_Compare_int_to, cmp_Compare_int_S⟩

theorem cmp_Compare_int_HC : CfgOK Go.Proofs.Tryz.prog cmp_Compare_int_C := hc_of g_tisOK g_wide (all_cons cmp_isNaN_int_OK all_nil)

theorem cmp_Compare_int_OK : EntOK Go.Proofs.Tryz.prog cmp_Compare_int_Ent := ok_of cmp_Compare_int_HC Go.Proofs.Tryz.func147 0 (by kernel_rfl) (fun k hk => absurd hk (Nat.not_lt_zero k)) (by kernel_rfl) (by kernel_rfl) (fun x => by kernel_rfl)

/-! cmp.Or[int] -/

abbrev cmp_Or_int_I3 : Type := Int × List Int × Int × Unit

abbrev cmp_Or_int_V3 : Type := Int × Unit

abbrev cmp_Or_int_Q3 : Type := Int × Unit ⊕ Unit

noncomputable def cmp_Or_int_D3 (i : cmp_Or_int_I3) (v : cmp_Or_int_V3) (R : Type) (K : cmp_Or_int_V3 ⊕ cmp_Or_int_Q3 → Option R) : Option R :=
  bif decide (v.1 < i.2.2.1) then Option.bind (lAt i.2.1 v.1) fun v_1 => bif v_1 != i.1 then K (Sum.inr (Sum.inl (v_1, ()))) else K (Sum.inl (IntKind.wrap IntKind.i64 (v.1 + 1), ())) else K (Sum.inr (Sum.inr ()))

theorem cmp_Or_int_D3_nat : NatD cmp_Or_int_D3 := fun i v R K => nat_bif (nat_bind fun _ => nat_bif (nat_some) (nat_some)) (nat_some)

def cmp_Or_int_T3 : Tmpl := ⟨(jk 3 (.slot Ty.i (jk 2 (.slot (Ty.slice Ty.i) (.slot Ty.i (.slot Ty.i (jk 9 .nil))))))), .nil⟩

def cmp_Or_int_X3_0 (i : cmp_Or_int_I3) (p : Int × Unit) : St := ⟨jn 2 (.n (p.1) :: .n (i.1) :: jn 14 ([])), []⟩

def cmp_Or_int_X3_1 (i : cmp_Or_int_I3) (p : Unit) : St := ⟨jn 3 (.n (i.1) :: jn 14 ([])), []⟩

noncomputable def cmp_Or_int_E3 (i : cmp_Or_int_I3) (p : cmp_Or_int_Q3) (R : Type) (K : Ex → St → Option R) : Option R := sumC p (fun p => K (Ex.ret) (cmp_Or_int_X3_0 i p)) fun p => K (Ex.exit 0) (cmp_Or_int_X3_1 i p)

noncomputable def cmp_Or_int_K3 (i : cmp_Or_int_I3) (p : cmp_Or_int_Q3) : Ex × St := sumC p (fun p => (Ex.ret, cmp_Or_int_X3_0 i p)) fun p => (Ex.exit 0, cmp_Or_int_X3_1 i p)

def cmp_Or_int_M3 (i : cmp_Or_int_I3) (v : cmp_Or_int_V3) : den cmp_Or_int_T3.ty := (i.1, i.2.1, i.2.2.1, v.1, ())

def cmp_Or_int_P3 (x : den cmp_Or_int_T3.ty) : cmp_Or_int_I3 × cmp_Or_int_V3 := ((x.1, x.2.1, x.2.2.1, ()), (x.2.2.2.1, ()))

noncomputable def cmp_Or_int_C : Cfg := { ti := g_tis, ents := [], ann := [(3, loopFn cmp_Or_int_T3 0 cmp_Or_int_P3 cmp_Or_int_D3 cmp_Or_int_E3)], lent := 0 }

def cmp_Or_int_ti : Tmpl := ⟨(.slot (Ty.slice Ty.i) .nil), .nil⟩

def cmp_Or_int_to : Tmpl := ⟨(.slot Ty.i .nil), .nil⟩

noncomputable def cmp_Or_int_S (x : List Int × Unit) : Option (Int × Unit) :=
  Option.bind (iter (fun v => cmp_Or_int_D3 (0, x.1, (↑(List.length x.1) : Int), ()) v _ some) (0, ())) fun p => sumC p (fun p => some (p.1, ())) fun p => some (0, ())

noncomputable def cmp_Or_int_Ent : Ent := ⟨146, cmp_Or_int_ti, cmp_Or_int_to, cmp_Or_int_S⟩

theorem cmp_Or_int_HC : CfgOK Go.Proofs.Tryz.prog cmp_Or_int_C := hc_of g_tisOK g_wide all_nil

theorem cmp_Or_int_lk3 : LkOK Go.Proofs.Tryz.prog cmp_Or_int_C (lpc Go.Proofs.Tryz.f146 0) :=
  lk_of cmp_Or_int_HC (m := 0) (T := cmp_Or_int_T3) (sp := cmp_Or_int_P3) (D := cmp_Or_int_D3) (E := cmp_Or_int_E3) (by kernel_rfl) (by kernel_rfl) (fun k hk => absurd hk (Nat.not_lt_zero k)) [2, 3] cmp_Or_int_M3 (fun x => rfl) cmp_Or_int_D3_nat cmp_Or_int_K3 (fun i p R K => by rcases p with p | p <;> rfl) (fun i v => by kernel_rfl)

theorem cmp_Or_int_OK : EntOK Go.Proofs.Tryz.prog cmp_Or_int_Ent := ok_of cmp_Or_int_HC Go.Proofs.Tryz.func146 1 (by kernel_rfl) (fun k hk => match k, hk with | 0, _ => cmp_Or_int_lk3) (by kernel_rfl) (by kernel_rfl) (fun x => by kernel_rfl)

/-! impl.compareMarks -/

noncomputable def impl_compareMarks_C : Cfg := { ti := g_tis, ents := [cmp_Compare_int_Ent, cmp_Or_int_Ent], ann := [], lent := 0 }

def impl_compareMarks_ti : Tmpl := ⟨(.slot YReadMark (.slot YReadMark .nil)), .nil⟩

def impl_compareMarks_to : Tmpl := ⟨(.slot Ty.i .nil), .nil⟩

noncomputable def impl_compareMarks_S (x : (Int × Int × Unit) × (Int × Int × Unit) × Unit) : Option (Int × Unit) :=
  Option.bind (cmp_Compare_int_S (x.1.1, x.2.1.1, ())) fun v => Option.bind (cmp_Compare_int_S (x.1.2.1, x.2.1.2.1, ())) fun v_1 => Option.bind (cmp_Or_int_S ([v.1, v_1.1], ())) fun v => some (v.1, ())

noncomputable def impl_compareMarks_Ent : Ent := ⟨141, impl_compareMarks_ti, impl_compareMarks_to, impl_compareMarks_S⟩

theorem impl_compareMarks_HC : CfgOK Go.Proofs.Tryz.prog impl_compareMarks_C := hc_of g_tisOK g_wide (all_cons cmp_Compare_int_OK (all_cons cmp_Or_int_OK all_nil))

theorem impl_compareMarks_OK : EntOK Go.Proofs.Tryz.prog impl_compareMarks_Ent := ok_of impl_compareMarks_HC Go.Proofs.Tryz.func141 0 (by kernel_rfl) (fun k hk => absurd hk (Nat.not_lt_zero k)) (by kernel_rfl) (by kernel_rfl) (fun x => by kernel_rfl)

/-! impl.areReads -/

abbrev impl_areReads_I2 : Type := List (Int × Int × Unit) × List (Int × Int × Unit) × Int × Unit

abbrev impl_areReads_V2 : Type := Int × Unit

abbrev impl_areReads_Q2 : Type := Int × Int × Unit ⊕ Int × Int × Unit ⊕ Int × Int × Unit ⊕ Unit

noncomputable def impl_areReads_D2 (i : impl_areReads_I2) (v : impl_areReads_V2) (R : Type) (K : impl_areReads_V2 ⊕ impl_areReads_Q2 → Option R) : Option R :=
  bif decide (v.1 < i.2.2.1) then Option.bind (lAt i.2.1 v.1) fun v_1 => Option.bind (impl_isKey_S (v_1.1, ())) fun v_2 => bif !v_2.1 then K (Sum.inr (Sum.inl (v_1.1, v_1.2.1, ()))) else Option.bind (impl_in_S (v_1.2.1, 0, 999, ())) fun v_3 =>
  bif !v_3.1 then K (Sum.inr (Sum.inr (Sum.inl (v_1.1, v_1.2.1, ())))) else bif decide (v.1 > 0) then Option.bind (lAt i.1 (IntKind.wrap IntKind.i64 (v.1 - 1))) fun v_4 => Option.bind (impl_compareMarks_S ((v_4.1, v_4.2.1, ()), (v_1.1,
  v_1.2.1, ()), ())) fun v_5 => bif decide (v_5.1 ≥ 0) then K (Sum.inr (Sum.inr (Sum.inr (Sum.inl (v_1.1, v_1.2.1, ()))))) else K (Sum.inl (IntKind.wrap IntKind.i64 (v.1 + 1), ())) else K (Sum.inl (IntKind.wrap IntKind.i64 (v.1 + 1), ())) else
  K (Sum.inr (Sum.inr (Sum.inr (Sum.inr ()))))

theorem impl_areReads_D2_nat : NatD impl_areReads_D2 := fun i v R K => nat_bif (nat_bind fun _ => nat_bind fun _ => nat_bif (nat_some) (nat_bind fun _ => nat_bif (nat_some) (nat_bif (nat_bind fun _ => nat_bind fun _ => nat_bif (nat_some) (nat_some)) (nat_some)))) (nat_some)

def impl_areReads_T2 : Tmpl := ⟨(.slot (Ty.slice YReadMark) (jk 4 (.slot (Ty.slice YReadMark) (.slot Ty.i (.slot Ty.i (jk 32 .nil)))))), .nil⟩

def impl_areReads_X2_0 (i : impl_areReads_I2) (p : Int × Int × Unit) : St := ⟨AV.pv (Ty.slice YReadMark) i.1 :: jn 1 (.b (false) :: jn 37 ([])), [some (Cont.cells 2 [[AV.pv Ty.i p.1, AV.pv Ty.i p.2.1]])]⟩

def impl_areReads_X2_1 (i : impl_areReads_I2) (p : Int × Int × Unit) : St := ⟨AV.pv (Ty.slice YReadMark) i.1 :: jn 1 (.b (false) :: jn 37 ([])), [some (Cont.cells 2 [[AV.pv Ty.i p.1, AV.pv Ty.i p.2.1]])]⟩

def impl_areReads_X2_2 (i : impl_areReads_I2) (p : Int × Int × Unit) : St := ⟨AV.pv (Ty.slice YReadMark) i.1 :: jn 1 (.b (false) :: jn 37 ([])), [some (Cont.cells 2 [[AV.pv Ty.i p.1, AV.pv Ty.i p.2.1]])]⟩

def impl_areReads_X2_3 (i : impl_areReads_I2) (p : Unit) : St := ⟨AV.pv (Ty.slice YReadMark) i.1 :: jn 39 ([]), []⟩

noncomputable def impl_areReads_E2 (i : impl_areReads_I2) (p : impl_areReads_Q2) (R : Type) (K : Ex → St → Option R) : Option R := sumC p (fun p => K (Ex.ret) (impl_areReads_X2_0 i p)) fun p => sumC p (fun p => K (Ex.ret) (impl_areReads_X2_1 i p)) fun p => sumC p (fun p => K (Ex.ret) (impl_areReads_X2_2 i p)) fun p => K (Ex.exit 0) (impl_areReads_X2_3 i p)

noncomputable def impl_areReads_K2 (i : impl_areReads_I2) (p : impl_areReads_Q2) : Ex × St := sumC p (fun p => (Ex.ret, impl_areReads_X2_0 i p)) fun p => sumC p (fun p => (Ex.ret, impl_areReads_X2_1 i p)) fun p => sumC p (fun p => (Ex.ret, impl_areReads_X2_2 i p)) fun p => (Ex.exit 0, impl_areReads_X2_3 i p)

def impl_areReads_M2 (i : impl_areReads_I2) (v : impl_areReads_V2) : den impl_areReads_T2.ty := (i.1, i.2.1, i.2.2.1, v.1, ())

def impl_areReads_P2 (x : den impl_areReads_T2.ty) : impl_areReads_I2 × impl_areReads_V2 := ((x.1, x.2.1, x.2.2.1, ()), (x.2.2.2.1, ()))

noncomputable def impl_areReads_C : Cfg := { ti := g_tis, ents := [impl_isKey_Ent, impl_in_Ent, impl_compareMarks_Ent], ann := [(2, loopFn impl_areReads_T2 0 impl_areReads_P2 impl_areReads_D2 impl_areReads_E2)], lent := 0 }

def impl_areReads_ti : Tmpl := ⟨(.slot (Ty.slice YReadMark) .nil), .nil⟩

def impl_areReads_to : Tmpl := ⟨(.slot (Ty.bool) .nil), .nil⟩

noncomputable def impl_areReads_S (x : List (Int × Int × Unit) × Unit) : Option (Bool × Unit) :=
  Option.bind (iter (fun v => impl_areReads_D2 (x.1, x.1, (↑(List.length x.1) : Int), ()) v _ some) (0, ())) fun p => sumC p (fun p => some (false, ())) fun p => sumC p (fun p => some (false, ())) fun p => sumC p (fun p => some
  (false, ())) fun p => some (decide ((↑(List.length x.1) : Int) ≤ 60), ())

noncomputable def impl_areReads_Ent : Ent := ⟨128, impl_areReads_ti, impl_areReads_to, impl_areReads_S⟩

theorem impl_areReads_HC : CfgOK Go.Proofs.Tryz.prog impl_areReads_C := hc_of g_tisOK g_wide (all_cons impl_isKey_OK (all_cons impl_in_OK (all_cons impl_compareMarks_OK all_nil)))

theorem impl_areReads_lk2 : LkOK Go.Proofs.Tryz.prog impl_areReads_C (lpc Go.Proofs.Tryz.f128 0) :=
  lk_of impl_areReads_HC (m := 0) (T := impl_areReads_T2) (sp := impl_areReads_P2) (D := impl_areReads_D2) (E := impl_areReads_E2) (by kernel_rfl) (by kernel_rfl) (fun k hk => absurd hk (Nat.not_lt_zero k)) [0, 2] impl_areReads_M2 (fun x => rfl) impl_areReads_D2_nat impl_areReads_K2 (fun i p R K => by rcases p with p | p | p | p <;> rfl) (fun i v => by kernel_rfl)

theorem impl_areReads_OK : EntOK Go.Proofs.Tryz.prog impl_areReads_Ent := ok_of impl_areReads_HC Go.Proofs.Tryz.func128 1 (by kernel_rfl) (fun k hk => match k, hk with | 0, _ => impl_areReads_lk2) (by kernel_rfl) (by kernel_rfl) (fun x => by kernel_rfl)

/-! impl.areWrites -/

abbrev impl_areWrites_I2 : Type := List (Int × Int × Unit) × List (Int × Int × Unit) × Int × Unit

abbrev impl_areWrites_V2 : Type := Int × Unit

abbrev impl_areWrites_Q2 : Type := Int × Int × Unit ⊕ Int × Int × Unit ⊕ Int × Int × Unit ⊕ Unit

noncomputable def impl_areWrites_D2 (i : impl_areWrites_I2) (v : impl_areWrites_V2) (R : Type) (K : impl_areWrites_V2 ⊕ impl_areWrites_Q2 → Option R) : Option R :=
  bif decide (v.1 < i.2.2.1) then Option.bind (lAt i.2.1 v.1) fun v_1 => Option.bind (impl_isKey_S (v_1.1, ())) fun v_2 => bif !v_2.1 then K (Sum.inr (Sum.inl (v_1.1, v_1.2.1, ()))) else Option.bind (impl_isValue_S (v_1.2.1, ())) fun v_3 =>
  bif !v_3.1 then K (Sum.inr (Sum.inr (Sum.inl (v_1.1, v_1.2.1, ())))) else bif decide (v.1 > 0) then Option.bind (lAt i.1 (IntKind.wrap IntKind.i64 (v.1 - 1))) fun v_4 => bif decide (v_4.1 ≥ v_1.1) then K (Sum.inr (Sum.inr (Sum.inr (Sum.inl
  (v_1.1, v_1.2.1, ()))))) else K (Sum.inl (IntKind.wrap IntKind.i64 (v.1 + 1), ())) else K (Sum.inl (IntKind.wrap IntKind.i64 (v.1 + 1), ())) else K (Sum.inr (Sum.inr (Sum.inr (Sum.inr ()))))

theorem impl_areWrites_D2_nat : NatD impl_areWrites_D2 := fun i v R K => nat_bif (nat_bind fun _ => nat_bind fun _ => nat_bif (nat_some) (nat_bind fun _ => nat_bif (nat_some) (nat_bif (nat_bind fun _ => nat_bif (nat_some) (nat_some)) (nat_some)))) (nat_some)

def impl_areWrites_T2 : Tmpl := ⟨(.slot (Ty.slice YReadMark) (jk 4 (.slot (Ty.slice YReadMark) (.slot Ty.i (.slot Ty.i (jk 30 .nil)))))), .nil⟩

def impl_areWrites_X2_0 (i : impl_areWrites_I2) (p : Int × Int × Unit) : St := ⟨jn 2 (.b (false) :: jn 35 ([])), [some (Cont.cells 2 [[AV.pv Ty.i p.1, AV.pv Ty.i p.2.1]])]⟩

def impl_areWrites_X2_1 (i : impl_areWrites_I2) (p : Int × Int × Unit) : St := ⟨jn 2 (.b (false) :: jn 35 ([])), [some (Cont.cells 2 [[AV.pv Ty.i p.1, AV.pv Ty.i p.2.1]])]⟩

def impl_areWrites_X2_2 (i : impl_areWrites_I2) (p : Int × Int × Unit) : St := ⟨jn 2 (.b (false) :: jn 35 ([])), [some (Cont.cells 2 [[AV.pv Ty.i p.1, AV.pv Ty.i p.2.1]])]⟩

def impl_areWrites_X2_3 (i : impl_areWrites_I2) (p : Unit) : St := ⟨jn 38 ([]), []⟩

noncomputable def impl_areWrites_E2 (i : impl_areWrites_I2) (p : impl_areWrites_Q2) (R : Type) (K : Ex → St → Option R) : Option R := sumC p (fun p => K (Ex.ret) (impl_areWrites_X2_0 i p)) fun p => sumC p (fun p => K (Ex.ret) (impl_areWrites_X2_1 i p)) fun p => sumC p (fun p => K (Ex.ret) (impl_areWrites_X2_2 i p)) fun p => K (Ex.exit 0) (impl_areWrites_X2_3 i p)

noncomputable def impl_areWrites_K2 (i : impl_areWrites_I2) (p : impl_areWrites_Q2) : Ex × St := sumC p (fun p => (Ex.ret, impl_areWrites_X2_0 i p)) fun p => sumC p (fun p => (Ex.ret, impl_areWrites_X2_1 i p)) fun p => sumC p (fun p => (Ex.ret, impl_areWrites_X2_2 i p)) fun p => (Ex.exit 0, impl_areWrites_X2_3 i p)

def impl_areWrites_M2 (i : impl_areWrites_I2) (v : impl_areWrites_V2) : den impl_areWrites_T2.ty := (i.1, i.2.1, i.2.2.1, v.1, ())

def impl_areWrites_P2 (x : den impl_areWrites_T2.ty) : impl_areWrites_I2 × impl_areWrites_V2 := ((x.1, x.2.1, x.2.2.1, ()), (x.2.2.2.1, ()))

noncomputable def impl_areWrites_C : Cfg := { ti := g_tis, ents := [impl_isKey_Ent, impl_isValue_Ent], ann := [(2, loopFn impl_areWrites_T2 0 impl_areWrites_P2 impl_areWrites_D2 impl_areWrites_E2)], lent := 0 }

def impl_areWrites_ti : Tmpl := ⟨(.slot (Ty.slice YReadMark) .nil), .nil⟩

def impl_areWrites_to : Tmpl := ⟨(.slot (Ty.bool) .nil), .nil⟩

noncomputable def impl_areWrites_S (x : List (Int × Int × Unit) × Unit) : Option (Bool × Unit) :=
  Option.bind (iter (fun v => impl_areWrites_D2 (x.1, x.1, (↑(List.length x.1) : Int), ()) v _ some) (0, ())) fun p => sumC p (fun p => some (false, ())) fun p => sumC p (fun p => some (false, ())) fun p => sumC p (fun p => some
  (false, ())) fun p => some (true, ())

noncomputable def impl_areWrites_Ent : Ent := ⟨129, impl_areWrites_ti, impl_areWrites_to, impl_areWrites_S⟩

theorem impl_areWrites_HC : CfgOK Go.Proofs.Tryz.prog impl_areWrites_C := hc_of g_tisOK g_wide (all_cons impl_isKey_OK (all_cons impl_isValue_OK all_nil))

theorem impl_areWrites_lk2 : LkOK Go.Proofs.Tryz.prog impl_areWrites_C (lpc Go.Proofs.Tryz.f129 0) :=
  lk_of impl_areWrites_HC (m := 0) (T := impl_areWrites_T2) (sp := impl_areWrites_P2) (D := impl_areWrites_D2) (E := impl_areWrites_E2) (by kernel_rfl) (by kernel_rfl) (fun k hk => absurd hk (Nat.not_lt_zero k)) [2] impl_areWrites_M2 (fun x => rfl) impl_areWrites_D2_nat impl_areWrites_K2 (fun i p R K => by rcases p with p | p | p | p <;> rfl) (fun i v => by kernel_rfl)

theorem impl_areWrites_OK : EntOK Go.Proofs.Tryz.prog impl_areWrites_Ent := ok_of impl_areWrites_HC Go.Proofs.Tryz.func129 1 (by kernel_rfl) (fun k hk => match k, hk with | 0, _ => impl_areWrites_lk2) (by kernel_rfl) (by kernel_rfl) (fun x => by kernel_rfl)

/-! impl.IsValidTransaction -/

noncomputable def impl_IsValidTransaction_C : Cfg := { ti := g_tis, ents := [impl_isID_Ent, impl_isScheme_Ent, impl_in_Ent, impl_IsStamp_Ent, impl_areReads_Ent, impl_areWrites_Ent], ann := [], lent := 0 }

def impl_IsValidTransaction_ti : Tmpl := ⟨(.slot (Ty.prod Ty.i (Ty.prod Ty.i (Ty.prod Ty.i (Ty.prod Ty.i (Ty.prod Ty.i (Ty.prod Ty.i (Ty.prod Ty.i (Ty.prod (Ty.slice (Ty.prod
  Ty.i (Ty.prod Ty.i Ty.unit))) (Ty.prod (Ty.slice YReadMark) Ty.unit))))))))) .nil), .nil⟩

def impl_IsValidTransaction_to : Tmpl := ⟨(.slot (Ty.bool) .nil), .nil⟩

noncomputable def impl_IsValidTransaction_S (x : (Int × Int × Int × Int × Int × Int × Int × List (Int × Int × Unit) × List (Int × Int × Unit) × Unit) × Unit) : Option (Bool × Unit) :=
  Option.bind (impl_isID_S (x.1.1, ())) fun v => bif !v.1 then some (false, ()) else Option.bind (impl_isScheme_S (x.1.2.1, ())) fun v => bif !v.1 then some (false, ()) else Option.bind (impl_in_S (x.1.2.2.1, 1, 3, ())) fun v => bif !v.1 then
  some (false, ()) else Option.bind (impl_in_S (x.1.2.2.2.1, 0, 999, ())) fun v => bif !v.1 then some (false, ()) else Option.bind (impl_in_S (x.1.2.2.2.2.1, 0, 999, ())) fun v => bif !v.1 then some (false, ()) else Option.bind (impl_in_S
  (x.1.2.2.2.2.2.1, 1, 1000, ())) fun v => bif !v.1 then some (false, ()) else bif x.1.2.2.1 == 2 then Option.bind (impl_IsStamp_S (x.1.2.2.2.2.2.2.1, ())) fun v => bif !v.1 then some (false, ()) else bif x.1.2.2.1 != 2 then bif
  x.1.2.2.2.2.2.2.1 != 0 then some (false, ()) else Option.bind (impl_areReads_S (x.1.2.2.2.2.2.2.2.1, ())) fun v => bif v.1 then Option.bind (impl_areWrites_S (x.1.2.2.2.2.2.2.2.2.1, ())) fun v => some (v.1, ()) else some (false, ()) else
  Option.bind (impl_areReads_S (x.1.2.2.2.2.2.2.2.1, ())) fun v => bif v.1 then Option.bind (impl_areWrites_S (x.1.2.2.2.2.2.2.2.2.1, ())) fun v => some (v.1, ()) else some (false, ()) else bif x.1.2.2.1 != 2 then bif x.1.2.2.2.2.2.2.1 != 0
  then some (false, ()) else Option.bind (impl_areReads_S (x.1.2.2.2.2.2.2.2.1, ())) fun v => bif v.1 then Option.bind (impl_areWrites_S (x.1.2.2.2.2.2.2.2.2.1, ())) fun v => some (v.1, ()) else some (false, ()) else Option.bind
  (impl_areReads_S (x.1.2.2.2.2.2.2.2.1, ())) fun v => bif v.1 then Option.bind (impl_areWrites_S (x.1.2.2.2.2.2.2.2.2.1, ())) fun v => some (v.1, ()) else some (false, ())

noncomputable def impl_IsValidTransaction_Ent : Ent := ⟨106, impl_IsValidTransaction_ti, impl_IsValidTransaction_to, impl_IsValidTransaction_S⟩

theorem impl_IsValidTransaction_HC : CfgOK Go.Proofs.Tryz.prog impl_IsValidTransaction_C := hc_of g_tisOK g_wide (all_cons impl_isID_OK (all_cons impl_isScheme_OK (all_cons impl_in_OK (all_cons impl_IsStamp_OK (all_cons impl_areReads_OK (all_cons impl_areWrites_OK all_nil))))))

theorem impl_IsValidTransaction_OK : EntOK Go.Proofs.Tryz.prog impl_IsValidTransaction_Ent := ok_of impl_IsValidTransaction_HC Go.Proofs.Tryz.func106 0 (by kernel_rfl) (fun k hk => absurd hk (Nat.not_lt_zero k)) (by kernel_rfl) (by kernel_rfl) (fun x => by kernel_rfl)

/-! impl.FindVersion$1 -/

noncomputable def impl_FindVersion_1_C : Cfg := { ti := g_tis, ents := [], ann := [], lent := 0 }

def impl_FindVersion_1_ti : Tmpl := ⟨(.slot YVersion (.slot (Ty.iref Ty.i) .nil)), .nil⟩

def impl_FindVersion_1_to : Tmpl := ⟨(.slot (Ty.bool) .nil), .nil⟩

noncomputable def impl_FindVersion_1_S (x : (Int × Int × Int × Int × Int × Unit) × Option Int × Unit) : Option (Bool × Unit) :=
  Option.bind x.2.1 fun v => some (x.1.2.2.1 == v, ())

noncomputable def impl_FindVersion_1_Ent : Ent := ⟨149, impl_FindVersion_1_ti, impl_FindVersion_1_to, impl_FindVersion_1_S⟩

theorem impl_FindVersion_1_HC : CfgOK Go.Proofs.Tryz.prog impl_FindVersion_1_C := hc_of g_tisOK g_wide all_nil

theorem impl_FindVersion_1_OK : EntOK Go.Proofs.Tryz.prog impl_FindVersion_1_Ent := ok_of impl_FindVersion_1_HC Go.Proofs.Tryz.func149 0 (by kernel_rfl) (fun k hk => absurd hk (Nat.not_lt_zero k)) (by kernel_rfl) (by kernel_rfl) (fun x => by kernel_rfl)

/-! slices.IndexFunc[[]impl.Version,impl.Version] -/

abbrev slices_IndexFunc__impl_FindVersion_1_I2 : Type := List (Int × Int × Int × Int × Int × Unit) × (Option Int × Unit) × Int × Unit

abbrev slices_IndexFunc__impl_FindVersion_1_V2 : Type := Int × Unit

abbrev slices_IndexFunc__impl_FindVersion_1_Q2 : Type := Int × Unit ⊕ Unit

noncomputable def slices_IndexFunc__impl_FindVersion_1_D2 (i : slices_IndexFunc__impl_FindVersion_1_I2) (v : slices_IndexFunc__impl_FindVersion_1_V2) (R : Type) (K : slices_IndexFunc__impl_FindVersion_1_V2 ⊕ slices_IndexFunc__impl_FindVersion_1_Q2 → Option R) : Option R :=
  bif decide (v.1 < i.2.2.1) then Option.bind (lAt i.1 v.1) fun v_1 => Option.bind (impl_FindVersion_1_S ((v_1.1, v_1.2.1, v_1.2.2.1, v_1.2.2.2.1, v_1.2.2.2.2.1, ()), i.2.1.1, ())) fun v_2 => bif v_2.1 then K (Sum.inr (Sum.inl (v.1, ()))) else
  K (Sum.inl (IntKind.wrap IntKind.i64 (v.1 + 1), ())) else K (Sum.inr (Sum.inr ()))

theorem slices_IndexFunc__impl_FindVersion_1_D2_nat : NatD slices_IndexFunc__impl_FindVersion_1_D2 := fun i v R K => nat_bif (nat_bind fun _ => nat_bind fun _ => nat_bif (nat_some) (nat_some)) (nat_some)

def slices_IndexFunc__impl_FindVersion_1_T2 : Tmpl := ⟨(.slot (Ty.slice YVersion) (.slot (Ty.fn 149 (Ty.prod (Ty.iref Ty.i) Ty.unit)) (jk 5 (.slot Ty.i (.slot Ty.i (jk 10 .nil)))))), .nil⟩

def slices_IndexFunc__impl_FindVersion_1_X2_0 (i : slices_IndexFunc__impl_FindVersion_1_I2) (p : Int × Unit) : St := ⟨jn 4 (.n (p.1) :: jn 14 ([])), []⟩

def slices_IndexFunc__impl_FindVersion_1_X2_1 (i : slices_IndexFunc__impl_FindVersion_1_I2) (p : Unit) : St := ⟨jn 19 ([]), []⟩

noncomputable def slices_IndexFunc__impl_FindVersion_1_E2 (i : slices_IndexFunc__impl_FindVersion_1_I2) (p : slices_IndexFunc__impl_FindVersion_1_Q2) (R : Type) (K : Ex → St → Option R) : Option R := sumC p (fun p => K (Ex.ret) (slices_IndexFunc__impl_FindVersion_1_X2_0 i p)) fun p => K (Ex.exit 0) (slices_IndexFunc__impl_FindVersion_1_X2_1 i p)

noncomputable def slices_IndexFunc__impl_FindVersion_1_K2 (i : slices_IndexFunc__impl_FindVersion_1_I2) (p : slices_IndexFunc__impl_FindVersion_1_Q2) : Ex × St := sumC p (fun p => (Ex.ret, slices_IndexFunc__impl_FindVersion_1_X2_0 i p)) fun p => (Ex.exit 0, slices_IndexFunc__impl_FindVersion_1_X2_1 i p)

def slices_IndexFunc__impl_FindVersion_1_M2 (i : slices_IndexFunc__impl_FindVersion_1_I2) (v : slices_IndexFunc__impl_FindVersion_1_V2) : den slices_IndexFunc__impl_FindVersion_1_T2.ty := (i.1, i.2.1, i.2.2.1, v.1, ())

def slices_IndexFunc__impl_FindVersion_1_P2 (x : den slices_IndexFunc__impl_FindVersion_1_T2.ty) : slices_IndexFunc__impl_FindVersion_1_I2 × slices_IndexFunc__impl_FindVersion_1_V2 := ((x.1, x.2.1, x.2.2.1, ()), (x.2.2.2.1, ()))

noncomputable def slices_IndexFunc__impl_FindVersion_1_C : Cfg := { ti := g_tis, ents := [impl_FindVersion_1_Ent], ann := [(2, loopFn slices_IndexFunc__impl_FindVersion_1_T2 0 slices_IndexFunc__impl_FindVersion_1_P2 slices_IndexFunc__impl_FindVersion_1_D2 slices_IndexFunc__impl_FindVersion_1_E2)], lent := 0 }

def slices_IndexFunc__impl_FindVersion_1_ti : Tmpl := ⟨(.slot (Ty.slice YVersion) (.slot (Ty.fn 149 (Ty.prod (Ty.iref Ty.i) Ty.unit)) .nil)), .nil⟩

def slices_IndexFunc__impl_FindVersion_1_to : Tmpl := ⟨(.slot Ty.i .nil), .nil⟩

noncomputable def slices_IndexFunc__impl_FindVersion_1_S (x : List (Int × Int × Int × Int × Int × Unit) × (Option Int × Unit) × Unit) : Option (Int × Unit) :=
  Option.bind (iter (fun v => slices_IndexFunc__impl_FindVersion_1_D2 (x.1, x.2.1, (↑(List.length x.1) : Int), ()) v _ some) (0, ())) fun p => sumC p (fun p => some (p.1, ())) fun p => some (-1, ())

noncomputable def slices_IndexFunc__impl_FindVersion_1_Ent : Ent := ⟨148, slices_IndexFunc__impl_FindVersion_1_ti, slices_IndexFunc__impl_FindVersion_1_to, slices_IndexFunc__impl_FindVersion_1_S⟩

theorem slices_IndexFunc__impl_FindVersion_1_HC : CfgOK Go.Proofs.Tryz.prog slices_IndexFunc__impl_FindVersion_1_C := hc_of g_tisOK g_wide (all_cons impl_FindVersion_1_OK all_nil)

theorem slices_IndexFunc__impl_FindVersion_1_lk2 : LkOK Go.Proofs.Tryz.prog slices_IndexFunc__impl_FindVersion_1_C (lpc Go.Proofs.Tryz.f148 0) :=
  lk_of slices_IndexFunc__impl_FindVersion_1_HC (m := 0) (T := slices_IndexFunc__impl_FindVersion_1_T2) (sp := slices_IndexFunc__impl_FindVersion_1_P2) (D := slices_IndexFunc__impl_FindVersion_1_D2) (E := slices_IndexFunc__impl_FindVersion_1_E2) (by kernel_rfl) (by kernel_rfl) (fun k hk => absurd hk (Nat.not_lt_zero k)) [4] slices_IndexFunc__impl_FindVersion_1_M2 (fun x => rfl) slices_IndexFunc__impl_FindVersion_1_D2_nat slices_IndexFunc__impl_FindVersion_1_K2 (fun i p R K => by rcases p with p | p <;> rfl) (fun i v => by kernel_rfl)

theorem slices_IndexFunc__impl_FindVersion_1_OK : EntOK Go.Proofs.Tryz.prog slices_IndexFunc__impl_FindVersion_1_Ent := ok_of slices_IndexFunc__impl_FindVersion_1_HC Go.Proofs.Tryz.func148 1 (by kernel_rfl) (fun k hk => match k, hk with | 0, _ => slices_IndexFunc__impl_FindVersion_1_lk2) (by kernel_rfl) (by kernel_rfl) (fun x => by kernel_rfl)

/-! impl.FindVersion -/

noncomputable def impl_FindVersion_C : Cfg := { ti := g_tis, ents := [slices_IndexFunc__impl_FindVersion_1_Ent], ann := [], lent := 0 }

def impl_FindVersion_ti : Tmpl := ⟨(.slot (Ty.slice YVersion) (.slot Ty.i .nil)), .nil⟩

def impl_FindVersion_to : Tmpl := ⟨(.slot Ty.i .nil), .nil⟩

noncomputable def impl_FindVersion_S (x : List (Int × Int × Int × Int × Int × Unit) × Int × Unit) : Option (Int × Unit) :=
  Option.bind (slices_IndexFunc__impl_FindVersion_1_S (x.1, (some x.2.1, ()), ())) fun v => some (v.1, ())

noncomputable def impl_FindVersion_Ent : Ent := ⟨143, impl_FindVersion_ti, impl_FindVersion_to, impl_FindVersion_S⟩

theorem impl_FindVersion_HC : CfgOK Go.Proofs.Tryz.prog impl_FindVersion_C := hc_of g_tisOK g_wide (all_cons slices_IndexFunc__impl_FindVersion_1_OK all_nil)

theorem impl_FindVersion_OK : EntOK Go.Proofs.Tryz.prog impl_FindVersion_Ent := ok_of impl_FindVersion_HC Go.Proofs.Tryz.func143 0 (by kernel_rfl) (fun k hk => absurd hk (Nat.not_lt_zero k)) (by kernel_rfl) (by kernel_rfl) (fun x => by kernel_rfl)

/-! (impl.Store).find -/

noncomputable def impl_Store_find_C : Cfg := { ti := g_tis, ents := [impl_FindVersion_Ent], ann := [], lent := 0 }

def impl_Store_find_ti : Tmpl := ⟨(.slot YStore (.slot YReadMark .nil)), .nil⟩

def impl_Store_find_to : Tmpl := ⟨(.slot (Ty.iref YVersion) .nil), .nil⟩

noncomputable def impl_Store_find_S (x : (List (List (Int × Int × Int × Int × Int × Unit)) × Unit) × (Int × Int × Unit) × Unit) : Option (Option (Int × Int × Int × Int × Int × Unit) × Unit) :=
  Option.bind (lAt x.1.1 x.2.1.1) fun v => Option.bind (impl_FindVersion_S (v, x.2.1.2.1, ())) fun v_1 => bif decide (v_1.1 < 0) then some (none, ()) else Option.bind (lAt v v_1.1) fun v => some (some v, ())

noncomputable def impl_Store_find_Ent : Ent := ⟨132, impl_Store_find_ti, impl_Store_find_to, impl_Store_find_S⟩

theorem impl_Store_find_HC : CfgOK Go.Proofs.Tryz.prog impl_Store_find_C := hc_of g_tisOK g_wide (all_cons impl_FindVersion_OK all_nil)

theorem impl_Store_find_OK : EntOK Go.Proofs.Tryz.prog impl_Store_find_Ent := ok_of impl_Store_find_HC Go.Proofs.Tryz.func132 0 (by kernel_rfl) (fun k hk => absurd hk (Nat.not_lt_zero k)) (by kernel_rfl) (by kernel_rfl) (fun x => by kernel_rfl)

/-! (impl.Store).readsExist$1 -/

noncomputable def impl_Store_readsExist_1_C : Cfg := { ti := g_tis, ents := [impl_Store_find_Ent], ann := [], lent := 0 }

def impl_Store_readsExist_1_ti : Tmpl := ⟨(.slot YReadMark (.slot (Ty.iref YStore) .nil)), .nil⟩

def impl_Store_readsExist_1_to : Tmpl := ⟨(.slot (Ty.bool) .nil), .nil⟩

noncomputable def impl_Store_readsExist_1_S (x : (Int × Int × Unit) × Option (List (List (Int × Int × Int × Int × Int × Unit)) × Unit) × Unit) : Option (Bool × Unit) :=
  Option.bind x.2.1 fun v => Option.bind (impl_Store_find_S ((v.1, ()), (x.1.1, x.1.2.1, ()), ())) fun v => some (Option.isNone v.1, ())

noncomputable def impl_Store_readsExist_1_Ent : Ent := ⟨131, impl_Store_readsExist_1_ti, impl_Store_readsExist_1_to, impl_Store_readsExist_1_S⟩

theorem impl_Store_readsExist_1_HC : CfgOK Go.Proofs.Tryz.prog impl_Store_readsExist_1_C := hc_of g_tisOK g_wide (all_cons impl_Store_find_OK all_nil)

theorem impl_Store_readsExist_1_OK : EntOK Go.Proofs.Tryz.prog impl_Store_readsExist_1_Ent := ok_of impl_Store_readsExist_1_HC Go.Proofs.Tryz.func131 0 (by kernel_rfl) (fun k hk => absurd hk (Nat.not_lt_zero k)) (by kernel_rfl) (by kernel_rfl) (fun x => by kernel_rfl)

/-! slices.IndexFunc[[]impl.ReadMark,impl.ReadMark] -/

abbrev slices_IndexFunc__impl_Store_readsExist_1_I2 : Type := List (Int × Int × Unit) × (Option (List (List (Int × Int × Int × Int × Int × Unit)) × Unit) × Unit) × Int × Unit

abbrev slices_IndexFunc__impl_Store_readsExist_1_V2 : Type := Int × Unit

abbrev slices_IndexFunc__impl_Store_readsExist_1_Q2 : Type := Int × Unit ⊕ Unit

noncomputable def slices_IndexFunc__impl_Store_readsExist_1_D2 (i : slices_IndexFunc__impl_Store_readsExist_1_I2) (v : slices_IndexFunc__impl_Store_readsExist_1_V2) (R : Type) (K : slices_IndexFunc__impl_Store_readsExist_1_V2 ⊕ slices_IndexFunc__impl_Store_readsExist_1_Q2 → Option R) : Option R :=
  bif decide (v.1 < i.2.2.1) then Option.bind (lAt i.1 v.1) fun v_1 => Option.bind (impl_Store_readsExist_1_S ((v_1.1, v_1.2.1, ()), i.2.1.1, ())) fun v_2 => bif v_2.1 then K (Sum.inr (Sum.inl (v.1, ()))) else K (Sum.inl (IntKind.wrap
  IntKind.i64 (v.1 + 1), ())) else K (Sum.inr (Sum.inr ()))

theorem slices_IndexFunc__impl_Store_readsExist_1_D2_nat : NatD slices_IndexFunc__impl_Store_readsExist_1_D2 := fun i v R K => nat_bif (nat_bind fun _ => nat_bind fun _ => nat_bif (nat_some) (nat_some)) (nat_some)

def slices_IndexFunc__impl_Store_readsExist_1_T2 : Tmpl := ⟨(.slot (Ty.slice YReadMark) (.slot (Ty.fn 131 (Ty.prod (Ty.iref YStore) Ty.unit)) (jk 5 (.slot Ty.i (.slot Ty.i (jk 10 .nil)))))), .nil⟩

def slices_IndexFunc__impl_Store_readsExist_1_X2_0 (i : slices_IndexFunc__impl_Store_readsExist_1_I2) (p : Int × Unit) : St := ⟨jn 4 (.n (p.1) :: jn 14 ([])), []⟩

def slices_IndexFunc__impl_Store_readsExist_1_X2_1 (i : slices_IndexFunc__impl_Store_readsExist_1_I2) (p : Unit) : St := ⟨jn 19 ([]), []⟩

noncomputable def slices_IndexFunc__impl_Store_readsExist_1_E2 (i : slices_IndexFunc__impl_Store_readsExist_1_I2) (p : slices_IndexFunc__impl_Store_readsExist_1_Q2) (R : Type) (K : Ex → St → Option R) : Option R := sumC p (fun p => K (Ex.ret) (slices_IndexFunc__impl_Store_readsExist_1_X2_0 i p)) fun p => K (Ex.exit 0) (slices_IndexFunc__impl_Store_readsExist_1_X2_1 i p)

noncomputable def slices_IndexFunc__impl_Store_readsExist_1_K2 (i : slices_IndexFunc__impl_Store_readsExist_1_I2) (p : slices_IndexFunc__impl_Store_readsExist_1_Q2) : Ex × St := sumC p (fun p => (Ex.ret, slices_IndexFunc__impl_Store_readsExist_1_X2_0 i p)) fun p => (Ex.exit 0, slices_IndexFunc__impl_Store_readsExist_1_X2_1 i p)

def slices_IndexFunc__impl_Store_readsExist_1_M2 (i : slices_IndexFunc__impl_Store_readsExist_1_I2) (v : slices_IndexFunc__impl_Store_readsExist_1_V2) : den slices_IndexFunc__impl_Store_readsExist_1_T2.ty := (i.1, i.2.1, i.2.2.1, v.1, ())

def slices_IndexFunc__impl_Store_readsExist_1_P2 (x : den slices_IndexFunc__impl_Store_readsExist_1_T2.ty) : slices_IndexFunc__impl_Store_readsExist_1_I2 × slices_IndexFunc__impl_Store_readsExist_1_V2 := ((x.1, x.2.1, x.2.2.1, ()), (x.2.2.2.1, ()))

noncomputable def slices_IndexFunc__impl_Store_readsExist_1_C : Cfg := { ti := g_tis, ents := [impl_Store_readsExist_1_Ent], ann := [(2, loopFn slices_IndexFunc__impl_Store_readsExist_1_T2 0 slices_IndexFunc__impl_Store_readsExist_1_P2 slices_IndexFunc__impl_Store_readsExist_1_D2 slices_IndexFunc__impl_Store_readsExist_1_E2)], lent := 0 }

def slices_IndexFunc__impl_Store_readsExist_1_ti : Tmpl := ⟨(.slot (Ty.slice YReadMark) (.slot (Ty.fn 131 (Ty.prod (Ty.iref YStore) Ty.unit)) .nil)), .nil⟩

def slices_IndexFunc__impl_Store_readsExist_1_to : Tmpl := ⟨(.slot Ty.i .nil), .nil⟩

noncomputable def slices_IndexFunc__impl_Store_readsExist_1_S (x : List (Int × Int × Unit) × (Option (List (List (Int × Int × Int × Int × Int × Unit)) × Unit) × Unit) × Unit) : Option (Int × Unit) :=
  Option.bind (iter (fun v => slices_IndexFunc__impl_Store_readsExist_1_D2 (x.1, x.2.1, (↑(List.length x.1) : Int), ()) v _ some) (0, ())) fun p => sumC p (fun p => some (p.1, ())) fun p => some (-1, ())

noncomputable def slices_IndexFunc__impl_Store_readsExist_1_Ent : Ent := ⟨142, slices_IndexFunc__impl_Store_readsExist_1_ti, slices_IndexFunc__impl_Store_readsExist_1_to, slices_IndexFunc__impl_Store_readsExist_1_S⟩

theorem slices_IndexFunc__impl_Store_readsExist_1_HC : CfgOK Go.Proofs.Tryz.prog slices_IndexFunc__impl_Store_readsExist_1_C := hc_of g_tisOK g_wide (all_cons impl_Store_readsExist_1_OK all_nil)

theorem slices_IndexFunc__impl_Store_readsExist_1_lk2 : LkOK Go.Proofs.Tryz.prog slices_IndexFunc__impl_Store_readsExist_1_C (lpc Go.Proofs.Tryz.f142 0) :=
  lk_of slices_IndexFunc__impl_Store_readsExist_1_HC (m := 0) (T := slices_IndexFunc__impl_Store_readsExist_1_T2) (sp := slices_IndexFunc__impl_Store_readsExist_1_P2) (D := slices_IndexFunc__impl_Store_readsExist_1_D2) (E := slices_IndexFunc__impl_Store_readsExist_1_E2) (by kernel_rfl) (by kernel_rfl) (fun k hk => absurd hk (Nat.not_lt_zero k)) [4] slices_IndexFunc__impl_Store_readsExist_1_M2 (fun x => rfl) slices_IndexFunc__impl_Store_readsExist_1_D2_nat slices_IndexFunc__impl_Store_readsExist_1_K2 (fun i p R K => by rcases p with p | p <;> rfl) (fun i v => by kernel_rfl)

theorem slices_IndexFunc__impl_Store_readsExist_1_OK : EntOK Go.Proofs.Tryz.prog slices_IndexFunc__impl_Store_readsExist_1_Ent := ok_of slices_IndexFunc__impl_Store_readsExist_1_HC Go.Proofs.Tryz.func142 1 (by kernel_rfl) (fun k hk => match k, hk with | 0, _ => slices_IndexFunc__impl_Store_readsExist_1_lk2) (by kernel_rfl) (by kernel_rfl) (fun x => by kernel_rfl)

/-! slices.ContainsFunc[[]impl.ReadMark,impl.ReadMark] -/

noncomputable def slices_ContainsFunc__impl_Store_readsExist_1_C : Cfg := { ti := g_tis, ents := [slices_IndexFunc__impl_Store_readsExist_1_Ent], ann := [], lent := 0 }

def slices_ContainsFunc__impl_Store_readsExist_1_ti : Tmpl := ⟨(.slot (Ty.slice YReadMark) (.slot (Ty.fn 131 (Ty.prod (Ty.iref YStore) Ty.unit)) .nil)), .nil⟩

def slices_ContainsFunc__impl_Store_readsExist_1_to : Tmpl := ⟨(.slot (Ty.bool) .nil), .nil⟩

noncomputable def slices_ContainsFunc__impl_Store_readsExist_1_S (x : List (Int × Int × Unit) × (Option (List (List (Int × Int × Int × Int × Int × Unit)) × Unit) × Unit) × Unit) : Option (Bool × Unit) :=
  Option.bind (slices_IndexFunc__impl_Store_readsExist_1_S (x.1, x.2.1, ())) fun v => some (decide (v.1 ≥ 0), ())

noncomputable def slices_ContainsFunc__impl_Store_readsExist_1_Ent : Ent := ⟨130, slices_ContainsFunc__impl_Store_readsExist_1_ti, slices_ContainsFunc__impl_Store_readsExist_1_to, slices_ContainsFunc__impl_Store_readsExist_1_S⟩

theorem slices_ContainsFunc__impl_Store_readsExist_1_HC : CfgOK Go.Proofs.Tryz.prog slices_ContainsFunc__impl_Store_readsExist_1_C := hc_of g_tisOK g_wide (all_cons slices_IndexFunc__impl_Store_readsExist_1_OK all_nil)

theorem slices_ContainsFunc__impl_Store_readsExist_1_OK : EntOK Go.Proofs.Tryz.prog slices_ContainsFunc__impl_Store_readsExist_1_Ent := ok_of slices_ContainsFunc__impl_Store_readsExist_1_HC Go.Proofs.Tryz.func130 0 (by kernel_rfl) (fun k hk => absurd hk (Nat.not_lt_zero k)) (by kernel_rfl) (by kernel_rfl) (fun x => by kernel_rfl)

/-! (impl.Store).readsExist -/

noncomputable def impl_Store_readsExist_C : Cfg := { ti := g_tis, ents := [slices_ContainsFunc__impl_Store_readsExist_1_Ent], ann := [], lent := 0 }

def impl_Store_readsExist_ti : Tmpl := ⟨(.slot YStore (.slot (Ty.slice YReadMark) .nil)), .nil⟩

def impl_Store_readsExist_to : Tmpl := ⟨(.slot (Ty.bool) .nil), .nil⟩

noncomputable def impl_Store_readsExist_S (x : (List (List (Int × Int × Int × Int × Int × Unit)) × Unit) × List (Int × Int × Unit) × Unit) : Option (Bool × Unit) :=
  Option.bind (slices_ContainsFunc__impl_Store_readsExist_1_S (x.2.1, (some (x.1.1, ()), ()), ())) fun v => some (!v.1, ())

noncomputable def impl_Store_readsExist_Ent : Ent := ⟨107, impl_Store_readsExist_ti, impl_Store_readsExist_to, impl_Store_readsExist_S⟩

theorem impl_Store_readsExist_HC : CfgOK Go.Proofs.Tryz.prog impl_Store_readsExist_C := hc_of g_tisOK g_wide (all_cons slices_ContainsFunc__impl_Store_readsExist_1_OK all_nil)

theorem impl_Store_readsExist_OK : EntOK Go.Proofs.Tryz.prog impl_Store_readsExist_Ent := ok_of impl_Store_readsExist_HC Go.Proofs.Tryz.func107 0 (by kernel_rfl) (fun k hk => absurd hk (Nat.not_lt_zero k)) (by kernel_rfl) (by kernel_rfl) (fun x => by kernel_rfl)

/-! (impl.Engine).areTransactions -/

abbrev impl_Engine_areTransactions_I2 : Type := List (Int × Int × Int × Int × Int × Int × Int × List (Int × Int × Unit) × List (Int × Int × Unit) × Unit) × Int × Bool × List (List (Int × Int × Int × Int × Int × Unit)) × List (Int × Int × Int × Int × Int × Int × Int × List (Int × Int ×
  Unit) × List (Int × Int × Unit) × Unit) × List (Int × Int × Unit) × List (Int × Int × Unit) × Int × Unit

abbrev impl_Engine_areTransactions_V2 : Type := Int × Unit

abbrev impl_Engine_areTransactions_Q2 : Type := Int × Int × Int × Int × Int × Int × Int × List (Int × Int × Unit) × List (Int × Int × Unit) × Unit ⊕ Int × Int × Int × Int × Int × Int × Int × List (Int × Int × Unit) × List (Int × Int × Unit) × Unit ⊕ Int × Int × Int × Int × Int × Int × Int
  × List (Int × Int × Unit) × List (Int × Int × Unit) × Unit ⊕ Int × Int × Int × Int × Int × Int × Int × List (Int × Int × Unit) × List (Int × Int × Unit) × Unit ⊕ Int × Int × Int × Int × Int × Int × Int × List (Int × Int × Unit) × List (Int ×
  Int × Unit) × Unit ⊕ Int × Int × Int × Int × Int × Int × Int × List (Int × Int × Unit) × List (Int × Int × Unit) × Unit ⊕ Int × Int × Int × Int × Int × Int × Int × List (Int × Int × Unit) × List (Int × Int × Unit) × Unit ⊕ Int × Int × Int ×
  Int × Int × Int × Int × List (Int × Int × Unit) × List (Int × Int × Unit) × Unit ⊕ Unit

noncomputable def impl_Engine_areTransactions_D2 (i : impl_Engine_areTransactions_I2) (v : impl_Engine_areTransactions_V2) (R : Type) (K : impl_Engine_areTransactions_V2 ⊕ impl_Engine_areTransactions_Q2 → Option R) : Option R :=
  bif decide (v.1 < i.2.1) then Option.bind (lAt i.1 v.1) fun v_1 => Option.bind (impl_IsValidTransaction_S ((v_1.1, v_1.2.1, v_1.2.2.1, v_1.2.2.2.1, v_1.2.2.2.2.1, v_1.2.2.2.2.2.1, v_1.2.2.2.2.2.2.1, v_1.2.2.2.2.2.2.2.1,
  v_1.2.2.2.2.2.2.2.2.1, ()), ())) fun v_2 => bif !v_2.1 then K (Sum.inr (Sum.inl (v_1.1, v_1.2.1, v_1.2.2.1, v_1.2.2.2.1, v_1.2.2.2.2.1, v_1.2.2.2.2.2.1, v_1.2.2.2.2.2.2.1, v_1.2.2.2.2.2.2.2.1, v_1.2.2.2.2.2.2.2.2.1, ()))) else bif decide
  (v.1 > 0) then Option.bind (lAt i.2.2.2.2.1 (IntKind.wrap IntKind.i64 (v.1 - 1))) fun v_3 => bif decide (v_3.1 ≥ v_1.1) then K (Sum.inr (Sum.inr (Sum.inl (v_1.1, v_1.2.1, v_1.2.2.1, v_1.2.2.2.1, v_1.2.2.2.2.1, v_1.2.2.2.2.2.1,
  v_1.2.2.2.2.2.2.1, v_1.2.2.2.2.2.2.2.1, v_1.2.2.2.2.2.2.2.2.1, ())))) else bif decide (v_1.2.2.2.1 > i.2.2.2.2.2.2.2.1) then K (Sum.inr (Sum.inr (Sum.inr (Sum.inl (v_1.1, v_1.2.1, v_1.2.2.1, v_1.2.2.2.1, v_1.2.2.2.2.1, v_1.2.2.2.2.2.1,
  v_1.2.2.2.2.2.2.1, v_1.2.2.2.2.2.2.2.1, v_1.2.2.2.2.2.2.2.2.1, ()))))) else bif decide (v_1.2.2.2.2.2.2.1 > i.2.2.2.2.2.2.2.1) then K (Sum.inr (Sum.inr (Sum.inr (Sum.inr (Sum.inl (v_1.1, v_1.2.1, v_1.2.2.1, v_1.2.2.2.1, v_1.2.2.2.2.1,
  v_1.2.2.2.2.2.1, v_1.2.2.2.2.2.2.1, v_1.2.2.2.2.2.2.2.1, v_1.2.2.2.2.2.2.2.2.1, ())))))) else bif v_1.2.2.1 == 1 then Option.bind (impl_Store_readsExist_S ((i.2.2.2.1, ()), v_1.2.2.2.2.2.2.2.1, ())) fun v_4 => bif !v_4.1 then K (Sum.inr
  (Sum.inr (Sum.inr (Sum.inr (Sum.inr (Sum.inl (v_1.1, v_1.2.1, v_1.2.2.1, v_1.2.2.2.1, v_1.2.2.2.2.1, v_1.2.2.2.2.2.1, v_1.2.2.2.2.2.2.1, v_1.2.2.2.2.2.2.2.1, v_1.2.2.2.2.2.2.2.2.1, ()))))))) else K (Sum.inl (IntKind.wrap IntKind.i64 (v.1 +
  1), ())) else K (Sum.inl (IntKind.wrap IntKind.i64 (v.1 + 1), ())) else bif decide (v_1.2.2.2.1 > i.2.2.2.2.2.2.2.1) then K (Sum.inr (Sum.inr (Sum.inr (Sum.inr (Sum.inr (Sum.inr (Sum.inl (v_1.1, v_1.2.1, v_1.2.2.1, v_1.2.2.2.1,
  v_1.2.2.2.2.1, v_1.2.2.2.2.2.1, v_1.2.2.2.2.2.2.1, v_1.2.2.2.2.2.2.2.1, v_1.2.2.2.2.2.2.2.2.1, ())))))))) else bif decide (v_1.2.2.2.2.2.2.1 > i.2.2.2.2.2.2.2.1) then K (Sum.inr (Sum.inr (Sum.inr (Sum.inr (Sum.inr (Sum.inr (Sum.inr (Sum.inl
  (v_1.1, v_1.2.1, v_1.2.2.1, v_1.2.2.2.1, v_1.2.2.2.2.1, v_1.2.2.2.2.2.1, v_1.2.2.2.2.2.2.1, v_1.2.2.2.2.2.2.2.1, v_1.2.2.2.2.2.2.2.2.1, ()))))))))) else bif v_1.2.2.1 == 1 then Option.bind (impl_Store_readsExist_S ((i.2.2.2.1, ()),
  v_1.2.2.2.2.2.2.2.1, ())) fun v_3 => bif !v_3.1 then K (Sum.inr (Sum.inr (Sum.inr (Sum.inr (Sum.inr (Sum.inr (Sum.inr (Sum.inr (Sum.inl (v_1.1, v_1.2.1, v_1.2.2.1, v_1.2.2.2.1, v_1.2.2.2.2.1, v_1.2.2.2.2.2.1, v_1.2.2.2.2.2.2.1,
  v_1.2.2.2.2.2.2.2.1, v_1.2.2.2.2.2.2.2.2.1, ())))))))))) else K (Sum.inl (IntKind.wrap IntKind.i64 (v.1 + 1), ())) else K (Sum.inl (IntKind.wrap IntKind.i64 (v.1 + 1), ())) else K (Sum.inr (Sum.inr (Sum.inr (Sum.inr (Sum.inr (Sum.inr
  (Sum.inr (Sum.inr (Sum.inr ())))))))))

theorem impl_Engine_areTransactions_D2_nat : NatD impl_Engine_areTransactions_D2 := fun i v R K => nat_bif (nat_bind fun _ => nat_bind fun _ => nat_bif (nat_some) (nat_bif (nat_bind fun _ => nat_bif (nat_some) (nat_bif (nat_some) (nat_bif (nat_some) (nat_bif (nat_bind fun _ => nat_bif (nat_some) (nat_some)) (nat_some))))) (nat_bif (nat_some) (nat_bif (nat_some) (nat_bif (nat_bind fun _ => nat_bif (nat_some) (nat_some)) (nat_some)))))) (nat_some)

def impl_Engine_areTransactions_T2 : Tmpl := ⟨(.junk (.ptr 0 0 0 (jk 4 (.slot (Ty.slice (Ty.prod Ty.i (Ty.prod Ty.i (Ty.prod Ty.i (Ty.prod Ty.i (Ty.prod Ty.i (Ty.prod Ty.i (Ty.prod Ty.i (Ty.prod (Ty.slice
  YReadMark) (Ty.prod (Ty.slice YReadMark) Ty.unit)))))))))) (.slot Ty.i (.slot Ty.i (jk 53 .nil))))))), (.cells 6 (.slot (Ty.bool) (.slot (Ty.slice (Ty.slice YVersion)) (.slot (Ty.slice (Ty.prod Ty.i (Ty.prod Ty.i (Ty.prod Ty.i (Ty.prod Ty.i (Ty.prod Ty.i (Ty.prod Ty.i (Ty.prod Ty.i (Ty.prod (Ty.slice
  YReadMark) (Ty.prod (Ty.slice YReadMark) Ty.unit)))))))))) (.slot (Ty.slice YReadMark) (.slot (Ty.slice YReadMark) (.slot Ty.i .nil)))))) .nil)⟩

def impl_Engine_areTransactions_X2_0 (i : impl_Engine_areTransactions_I2) (p : Int × Int × Int × Int × Int × Int × Int × List (Int × Int × Unit) × List (Int × Int × Unit) × Unit) : St := ⟨jn 1 (AV.ptr 0 none 0 0 :: .b (false) :: jn 59 ([])), [some (Cont.cells 6 [[AV.pv Ty.bool i.2.2.1, AV.pv (Ty.slice (Ty.slice (Ty.prod Ty.i (Ty.prod Ty.i (Ty.prod Ty.i (Ty.prod (Ty.int
  IntKind.i64) (Ty.prod Ty.i Ty.unit))))))) i.2.2.2.1, AV.pv (Ty.slice (Ty.prod Ty.i (Ty.prod Ty.i (Ty.prod Ty.i (Ty.prod Ty.i (Ty.prod Ty.i
  (Ty.prod Ty.i (Ty.prod Ty.i (Ty.prod (Ty.slice YReadMark) (Ty.prod (Ty.slice YReadMark)
  Ty.unit)))))))))) i.2.2.2.2.1, AV.pv (Ty.slice YReadMark) i.2.2.2.2.2.1, AV.pv (Ty.slice YReadMark) i.2.2.2.2.2.2.1,
  AV.pv Ty.i i.2.2.2.2.2.2.2.1]]), some (Cont.cells 9 [[AV.pv Ty.i p.1, AV.pv Ty.i p.2.1, AV.pv Ty.i p.2.2.1, AV.pv Ty.i p.2.2.2.1, AV.pv Ty.i
  p.2.2.2.2.1, AV.pv Ty.i p.2.2.2.2.2.1, AV.pv Ty.i p.2.2.2.2.2.2.1, AV.pv (Ty.slice YReadMark) p.2.2.2.2.2.2.2.1, AV.pv (Ty.slice (Ty.prod (Ty.int
  IntKind.i64) (Ty.prod Ty.i Ty.unit))) p.2.2.2.2.2.2.2.2.1]])]⟩

def impl_Engine_areTransactions_X2_1 (i : impl_Engine_areTransactions_I2) (p : Int × Int × Int × Int × Int × Int × Int × List (Int × Int × Unit) × List (Int × Int × Unit) × Unit) : St := ⟨jn 1 (AV.ptr 0 none 0 0 :: .b (false) :: jn 59 ([])), [some (Cont.cells 6 [[AV.pv Ty.bool i.2.2.1, AV.pv (Ty.slice (Ty.slice (Ty.prod Ty.i (Ty.prod Ty.i (Ty.prod Ty.i (Ty.prod (Ty.int
  IntKind.i64) (Ty.prod Ty.i Ty.unit))))))) i.2.2.2.1, AV.pv (Ty.slice (Ty.prod Ty.i (Ty.prod Ty.i (Ty.prod Ty.i (Ty.prod Ty.i (Ty.prod Ty.i
  (Ty.prod Ty.i (Ty.prod Ty.i (Ty.prod (Ty.slice YReadMark) (Ty.prod (Ty.slice YReadMark)
  Ty.unit)))))))))) i.2.2.2.2.1, AV.pv (Ty.slice YReadMark) i.2.2.2.2.2.1, AV.pv (Ty.slice YReadMark) i.2.2.2.2.2.2.1,
  AV.pv Ty.i i.2.2.2.2.2.2.2.1]]), some (Cont.cells 9 [[AV.pv Ty.i p.1, AV.pv Ty.i p.2.1, AV.pv Ty.i p.2.2.1, AV.pv Ty.i p.2.2.2.1, AV.pv Ty.i
  p.2.2.2.2.1, AV.pv Ty.i p.2.2.2.2.2.1, AV.pv Ty.i p.2.2.2.2.2.2.1, AV.pv (Ty.slice YReadMark) p.2.2.2.2.2.2.2.1, AV.pv (Ty.slice (Ty.prod (Ty.int
  IntKind.i64) (Ty.prod Ty.i Ty.unit))) p.2.2.2.2.2.2.2.2.1]])]⟩

def impl_Engine_areTransactions_X2_2 (i : impl_Engine_areTransactions_I2) (p : Int × Int × Int × Int × Int × Int × Int × List (Int × Int × Unit) × List (Int × Int × Unit) × Unit) : St := ⟨jn 1 (AV.ptr 0 none 0 0 :: .b (false) :: jn 59 ([])), [some (Cont.cells 6 [[AV.pv Ty.bool i.2.2.1, AV.pv (Ty.slice (Ty.slice (Ty.prod Ty.i (Ty.prod Ty.i (Ty.prod Ty.i (Ty.prod (Ty.int
  IntKind.i64) (Ty.prod Ty.i Ty.unit))))))) i.2.2.2.1, AV.pv (Ty.slice (Ty.prod Ty.i (Ty.prod Ty.i (Ty.prod Ty.i (Ty.prod Ty.i (Ty.prod Ty.i
  (Ty.prod Ty.i (Ty.prod Ty.i (Ty.prod (Ty.slice YReadMark) (Ty.prod (Ty.slice YReadMark)
  Ty.unit)))))))))) i.2.2.2.2.1, AV.pv (Ty.slice YReadMark) i.2.2.2.2.2.1, AV.pv (Ty.slice YReadMark) i.2.2.2.2.2.2.1,
  AV.pv Ty.i i.2.2.2.2.2.2.2.1]]), some (Cont.cells 9 [[AV.pv Ty.i p.1, AV.pv Ty.i p.2.1, AV.pv Ty.i p.2.2.1, AV.pv Ty.i p.2.2.2.1, AV.pv Ty.i
  p.2.2.2.2.1, AV.pv Ty.i p.2.2.2.2.2.1, AV.pv Ty.i p.2.2.2.2.2.2.1, AV.pv (Ty.slice YReadMark) p.2.2.2.2.2.2.2.1, AV.pv (Ty.slice (Ty.prod (Ty.int
  IntKind.i64) (Ty.prod Ty.i Ty.unit))) p.2.2.2.2.2.2.2.2.1]])]⟩

def impl_Engine_areTransactions_X2_3 (i : impl_Engine_areTransactions_I2) (p : Int × Int × Int × Int × Int × Int × Int × List (Int × Int × Unit) × List (Int × Int × Unit) × Unit) : St := ⟨jn 1 (AV.ptr 0 none 0 0 :: .b (false) :: jn 59 ([])), [some (Cont.cells 6 [[AV.pv Ty.bool i.2.2.1, AV.pv (Ty.slice (Ty.slice (Ty.prod Ty.i (Ty.prod Ty.i (Ty.prod Ty.i (Ty.prod (Ty.int
  IntKind.i64) (Ty.prod Ty.i Ty.unit))))))) i.2.2.2.1, AV.pv (Ty.slice (Ty.prod Ty.i (Ty.prod Ty.i (Ty.prod Ty.i (Ty.prod Ty.i (Ty.prod Ty.i
  (Ty.prod Ty.i (Ty.prod Ty.i (Ty.prod (Ty.slice YReadMark) (Ty.prod (Ty.slice YReadMark)
  Ty.unit)))))))))) i.2.2.2.2.1, AV.pv (Ty.slice YReadMark) i.2.2.2.2.2.1, AV.pv (Ty.slice YReadMark) i.2.2.2.2.2.2.1,
  AV.pv Ty.i i.2.2.2.2.2.2.2.1]]), some (Cont.cells 9 [[AV.pv Ty.i p.1, AV.pv Ty.i p.2.1, AV.pv Ty.i p.2.2.1, AV.pv Ty.i p.2.2.2.1, AV.pv Ty.i
  p.2.2.2.2.1, AV.pv Ty.i p.2.2.2.2.2.1, AV.pv Ty.i p.2.2.2.2.2.2.1, AV.pv (Ty.slice YReadMark) p.2.2.2.2.2.2.2.1, AV.pv (Ty.slice (Ty.prod (Ty.int
  IntKind.i64) (Ty.prod Ty.i Ty.unit))) p.2.2.2.2.2.2.2.2.1]])]⟩

def impl_Engine_areTransactions_X2_4 (i : impl_Engine_areTransactions_I2) (p : Int × Int × Int × Int × Int × Int × Int × List (Int × Int × Unit) × List (Int × Int × Unit) × Unit) : St := ⟨jn 1 (AV.ptr 0 none 0 0 :: .b (false) :: jn 59 ([])), [some (Cont.cells 6 [[AV.pv Ty.bool i.2.2.1, AV.pv (Ty.slice (Ty.slice (Ty.prod Ty.i (Ty.prod Ty.i (Ty.prod Ty.i (Ty.prod (Ty.int
  IntKind.i64) (Ty.prod Ty.i Ty.unit))))))) i.2.2.2.1, AV.pv (Ty.slice (Ty.prod Ty.i (Ty.prod Ty.i (Ty.prod Ty.i (Ty.prod Ty.i (Ty.prod Ty.i
  (Ty.prod Ty.i (Ty.prod Ty.i (Ty.prod (Ty.slice YReadMark) (Ty.prod (Ty.slice YReadMark)
  Ty.unit)))))))))) i.2.2.2.2.1, AV.pv (Ty.slice YReadMark) i.2.2.2.2.2.1, AV.pv (Ty.slice YReadMark) i.2.2.2.2.2.2.1,
  AV.pv Ty.i i.2.2.2.2.2.2.2.1]]), some (Cont.cells 9 [[AV.pv Ty.i p.1, AV.pv Ty.i p.2.1, AV.pv Ty.i p.2.2.1, AV.pv Ty.i p.2.2.2.1, AV.pv Ty.i
  p.2.2.2.2.1, AV.pv Ty.i p.2.2.2.2.2.1, AV.pv Ty.i p.2.2.2.2.2.2.1, AV.pv (Ty.slice YReadMark) p.2.2.2.2.2.2.2.1, AV.pv (Ty.slice (Ty.prod (Ty.int
  IntKind.i64) (Ty.prod Ty.i Ty.unit))) p.2.2.2.2.2.2.2.2.1]])]⟩

def impl_Engine_areTransactions_X2_5 (i : impl_Engine_areTransactions_I2) (p : Int × Int × Int × Int × Int × Int × Int × List (Int × Int × Unit) × List (Int × Int × Unit) × Unit) : St := ⟨jn 1 (AV.ptr 0 none 0 0 :: .b (false) :: jn 59 ([])), [some (Cont.cells 6 [[AV.pv Ty.bool i.2.2.1, AV.pv (Ty.slice (Ty.slice (Ty.prod Ty.i (Ty.prod Ty.i (Ty.prod Ty.i (Ty.prod (Ty.int
  IntKind.i64) (Ty.prod Ty.i Ty.unit))))))) i.2.2.2.1, AV.pv (Ty.slice (Ty.prod Ty.i (Ty.prod Ty.i (Ty.prod Ty.i (Ty.prod Ty.i (Ty.prod Ty.i
  (Ty.prod Ty.i (Ty.prod Ty.i (Ty.prod (Ty.slice YReadMark) (Ty.prod (Ty.slice YReadMark)
  Ty.unit)))))))))) i.2.2.2.2.1, AV.pv (Ty.slice YReadMark) i.2.2.2.2.2.1, AV.pv (Ty.slice YReadMark) i.2.2.2.2.2.2.1,
  AV.pv Ty.i i.2.2.2.2.2.2.2.1]]), some (Cont.cells 9 [[AV.pv Ty.i p.1, AV.pv Ty.i p.2.1, AV.pv Ty.i p.2.2.1, AV.pv Ty.i p.2.2.2.1, AV.pv Ty.i
  p.2.2.2.2.1, AV.pv Ty.i p.2.2.2.2.2.1, AV.pv Ty.i p.2.2.2.2.2.2.1, AV.pv (Ty.slice YReadMark) p.2.2.2.2.2.2.2.1, AV.pv (Ty.slice (Ty.prod (Ty.int
  IntKind.i64) (Ty.prod Ty.i Ty.unit))) p.2.2.2.2.2.2.2.2.1]])]⟩

def impl_Engine_areTransactions_X2_6 (i : impl_Engine_areTransactions_I2) (p : Int × Int × Int × Int × Int × Int × Int × List (Int × Int × Unit) × List (Int × Int × Unit) × Unit) : St := ⟨jn 1 (AV.ptr 0 none 0 0 :: .b (false) :: jn 59 ([])), [some (Cont.cells 6 [[AV.pv Ty.bool i.2.2.1, AV.pv (Ty.slice (Ty.slice (Ty.prod Ty.i (Ty.prod Ty.i (Ty.prod Ty.i (Ty.prod (Ty.int
  IntKind.i64) (Ty.prod Ty.i Ty.unit))))))) i.2.2.2.1, AV.pv (Ty.slice (Ty.prod Ty.i (Ty.prod Ty.i (Ty.prod Ty.i (Ty.prod Ty.i (Ty.prod Ty.i
  (Ty.prod Ty.i (Ty.prod Ty.i (Ty.prod (Ty.slice YReadMark) (Ty.prod (Ty.slice YReadMark)
  Ty.unit)))))))))) i.2.2.2.2.1, AV.pv (Ty.slice YReadMark) i.2.2.2.2.2.1, AV.pv (Ty.slice YReadMark) i.2.2.2.2.2.2.1,
  AV.pv Ty.i i.2.2.2.2.2.2.2.1]]), some (Cont.cells 9 [[AV.pv Ty.i p.1, AV.pv Ty.i p.2.1, AV.pv Ty.i p.2.2.1, AV.pv Ty.i p.2.2.2.1, AV.pv Ty.i
  p.2.2.2.2.1, AV.pv Ty.i p.2.2.2.2.2.1, AV.pv Ty.i p.2.2.2.2.2.2.1, AV.pv (Ty.slice YReadMark) p.2.2.2.2.2.2.2.1, AV.pv (Ty.slice (Ty.prod (Ty.int
  IntKind.i64) (Ty.prod Ty.i Ty.unit))) p.2.2.2.2.2.2.2.2.1]])]⟩

def impl_Engine_areTransactions_X2_7 (i : impl_Engine_areTransactions_I2) (p : Int × Int × Int × Int × Int × Int × Int × List (Int × Int × Unit) × List (Int × Int × Unit) × Unit) : St := ⟨jn 1 (AV.ptr 0 none 0 0 :: .b (false) :: jn 59 ([])), [some (Cont.cells 6 [[AV.pv Ty.bool i.2.2.1, AV.pv (Ty.slice (Ty.slice (Ty.prod Ty.i (Ty.prod Ty.i (Ty.prod Ty.i (Ty.prod (Ty.int
  IntKind.i64) (Ty.prod Ty.i Ty.unit))))))) i.2.2.2.1, AV.pv (Ty.slice (Ty.prod Ty.i (Ty.prod Ty.i (Ty.prod Ty.i (Ty.prod Ty.i (Ty.prod Ty.i
  (Ty.prod Ty.i (Ty.prod Ty.i (Ty.prod (Ty.slice YReadMark) (Ty.prod (Ty.slice YReadMark)
  Ty.unit)))))))))) i.2.2.2.2.1, AV.pv (Ty.slice YReadMark) i.2.2.2.2.2.1, AV.pv (Ty.slice YReadMark) i.2.2.2.2.2.2.1,
  AV.pv Ty.i i.2.2.2.2.2.2.2.1]]), some (Cont.cells 9 [[AV.pv Ty.i p.1, AV.pv Ty.i p.2.1, AV.pv Ty.i p.2.2.1, AV.pv Ty.i p.2.2.2.1, AV.pv Ty.i
  p.2.2.2.2.1, AV.pv Ty.i p.2.2.2.2.2.1, AV.pv Ty.i p.2.2.2.2.2.2.1, AV.pv (Ty.slice YReadMark) p.2.2.2.2.2.2.2.1, AV.pv (Ty.slice (Ty.prod (Ty.int
  IntKind.i64) (Ty.prod Ty.i Ty.unit))) p.2.2.2.2.2.2.2.2.1]])]⟩

def impl_Engine_areTransactions_X2_8 (i : impl_Engine_areTransactions_I2) (p : Unit) : St := ⟨jn 1 (AV.ptr 0 none 0 0 :: jn 60 ([])), [some (Cont.cells 6 [[AV.pv Ty.bool i.2.2.1, AV.pv (Ty.slice (Ty.slice (Ty.prod Ty.i (Ty.prod Ty.i (Ty.prod Ty.i (Ty.prod Ty.i (Ty.prod
  Ty.i Ty.unit))))))) i.2.2.2.1, AV.pv (Ty.slice (Ty.prod Ty.i (Ty.prod Ty.i (Ty.prod Ty.i (Ty.prod Ty.i (Ty.prod Ty.i (Ty.prod (Ty.int
  IntKind.i64) (Ty.prod Ty.i (Ty.prod (Ty.slice YReadMark) (Ty.prod (Ty.slice YReadMark) Ty.unit))))))))))
  i.2.2.2.2.1, AV.pv (Ty.slice YReadMark) i.2.2.2.2.2.1, AV.pv (Ty.slice YReadMark) i.2.2.2.2.2.2.1, AV.pv (Ty.int
  IntKind.i64) i.2.2.2.2.2.2.2.1]])]⟩

noncomputable def impl_Engine_areTransactions_E2 (i : impl_Engine_areTransactions_I2) (p : impl_Engine_areTransactions_Q2) (R : Type) (K : Ex → St → Option R) : Option R := sumC p (fun p => K (Ex.ret) (impl_Engine_areTransactions_X2_0 i p)) fun p => sumC p (fun p => K (Ex.ret) (impl_Engine_areTransactions_X2_1 i p)) fun p => sumC p (fun p => K (Ex.ret) (impl_Engine_areTransactions_X2_2 i p)) fun p => sumC p (fun p => K (Ex.ret) (impl_Engine_areTransactions_X2_3 i p)) fun p => sumC p (fun p => K (Ex.ret) (impl_Engine_areTransactions_X2_4 i p)) fun p => sumC p (fun p => K (Ex.ret) (impl_Engine_areTransactions_X2_5 i p)) fun p => sumC p (fun p => K (Ex.ret) (impl_Engine_areTransactions_X2_6 i p)) fun p => sumC p (fun p => K (Ex.ret) (impl_Engine_areTransactions_X2_7 i p)) fun p => K (Ex.exit 0) (impl_Engine_areTransactions_X2_8 i p)

noncomputable def impl_Engine_areTransactions_K2 (i : impl_Engine_areTransactions_I2) (p : impl_Engine_areTransactions_Q2) : Ex × St := sumC p (fun p => (Ex.ret, impl_Engine_areTransactions_X2_0 i p)) fun p => sumC p (fun p => (Ex.ret, impl_Engine_areTransactions_X2_1 i p)) fun p => sumC p (fun p => (Ex.ret, impl_Engine_areTransactions_X2_2 i p)) fun p => sumC p (fun p => (Ex.ret, impl_Engine_areTransactions_X2_3 i p)) fun p => sumC p (fun p => (Ex.ret, impl_Engine_areTransactions_X2_4 i p)) fun p => sumC p (fun p => (Ex.ret, impl_Engine_areTransactions_X2_5 i p)) fun p => sumC p (fun p => (Ex.ret, impl_Engine_areTransactions_X2_6 i p)) fun p => sumC p (fun p => (Ex.ret, impl_Engine_areTransactions_X2_7 i p)) fun p => (Ex.exit 0, impl_Engine_areTransactions_X2_8 i p)

def impl_Engine_areTransactions_M2 (i : impl_Engine_areTransactions_I2) (v : impl_Engine_areTransactions_V2) : den impl_Engine_areTransactions_T2.ty := (i.1, i.2.1, v.1, i.2.2.1, i.2.2.2.1, i.2.2.2.2.1, i.2.2.2.2.2.1, i.2.2.2.2.2.2.1, i.2.2.2.2.2.2.2.1, ())

def impl_Engine_areTransactions_P2 (x : den impl_Engine_areTransactions_T2.ty) : impl_Engine_areTransactions_I2 × impl_Engine_areTransactions_V2 := ((x.1, x.2.1, x.2.2.2.1, x.2.2.2.2.1, x.2.2.2.2.2.1, x.2.2.2.2.2.2.1, x.2.2.2.2.2.2.2.1, x.2.2.2.2.2.2.2.2.1, ()), (x.2.2.1, ()))

noncomputable def impl_Engine_areTransactions_C : Cfg := { ti := g_tis, ents := [impl_IsValidTransaction_Ent, impl_Store_readsExist_Ent], ann := [(2, loopFn impl_Engine_areTransactions_T2 0 impl_Engine_areTransactions_P2 impl_Engine_areTransactions_D2 impl_Engine_areTransactions_E2)], lent := 0 }

def impl_Engine_areTransactions_ti : Tmpl := ⟨(.slot (Ty.prod Ty.bool (Ty.prod YStore (Ty.prod
  (Ty.slice (Ty.prod Ty.i (Ty.prod Ty.i (Ty.prod Ty.i (Ty.prod Ty.i (Ty.prod Ty.i (Ty.prod Ty.i (Ty.prod Ty.i (Ty.prod (Ty.slice
  YReadMark) (Ty.prod (Ty.slice YReadMark) Ty.unit)))))))))) (Ty.prod (Ty.slice (Ty.prod Ty.i (Ty.prod
  Ty.i Ty.unit))) (Ty.prod (Ty.slice YReadMark) (Ty.prod Ty.i Ty.unit)))))) .nil), .nil⟩

def impl_Engine_areTransactions_to : Tmpl := ⟨(.slot (Ty.bool) .nil), .nil⟩

noncomputable def impl_Engine_areTransactions_S (x : (Bool × (List (List (Int × Int × Int × Int × Int × Unit)) × Unit) × List (Int × Int × Int × Int × Int × Int × Int × List (Int × Int × Unit) × List (Int × Int × Unit) × Unit) × List (Int × Int × Unit) × List (Int × Int × Unit) × Int × Unit) ×
  Unit) : Option (Bool × Unit) :=
  Option.bind (iter (fun v => impl_Engine_areTransactions_D2 (x.1.2.2.1, (↑(List.length x.1.2.2.1) : Int), x.1.1, x.1.2.1.1, x.1.2.2.1, x.1.2.2.2.1, x.1.2.2.2.2.1, x.1.2.2.2.2.2.1, ()) v _ some) (0, ())) fun p => sumC p (fun p =>
  some (false, ())) fun p => sumC p (fun p => some (false, ())) fun p => sumC p (fun p => some (false, ())) fun p => sumC p (fun p => some (false, ())) fun p => sumC p (fun p => some (false, ())) fun p => sumC p (fun p => some (false, ())) fun
  p => sumC p (fun p => some (false, ())) fun p => sumC p (fun p => some (false, ())) fun p => some (decide ((↑(List.length x.1.2.2.1) : Int) ≤ 6), ())

noncomputable def impl_Engine_areTransactions_Ent : Ent := ⟨67, impl_Engine_areTransactions_ti, impl_Engine_areTransactions_to, impl_Engine_areTransactions_S⟩

theorem impl_Engine_areTransactions_HC : CfgOK Go.Proofs.Tryz.prog impl_Engine_areTransactions_C := hc_of g_tisOK g_wide (all_cons impl_IsValidTransaction_OK (all_cons impl_Store_readsExist_OK all_nil))

theorem impl_Engine_areTransactions_lk2 : LkOK Go.Proofs.Tryz.prog impl_Engine_areTransactions_C (lpc Go.Proofs.Tryz.f67 0) :=
  lk_of impl_Engine_areTransactions_HC (m := 0) (T := impl_Engine_areTransactions_T2) (sp := impl_Engine_areTransactions_P2) (D := impl_Engine_areTransactions_D2) (E := impl_Engine_areTransactions_E2) (by kernel_rfl) (by kernel_rfl) (fun k hk => absurd hk (Nat.not_lt_zero k)) [1, 2] impl_Engine_areTransactions_M2 (fun x => rfl) impl_Engine_areTransactions_D2_nat impl_Engine_areTransactions_K2 (fun i p R K => by rcases p with p | p | p | p | p | p | p | p | p <;> rfl) (fun i v => by kernel_rfl)

theorem impl_Engine_areTransactions_OK : EntOK Go.Proofs.Tryz.prog impl_Engine_areTransactions_Ent := ok_of impl_Engine_areTransactions_HC Go.Proofs.Tryz.func67 1 (by kernel_rfl) (fun k hk => match k, hk with | 0, _ => impl_Engine_areTransactions_lk2) (by kernel_rfl) (by kernel_rfl) (fun x => by kernel_rfl)

/-! impl.FindTransaction$1 -/

noncomputable def impl_FindTransaction_1_C : Cfg := { ti := g_tis, ents := [], ann := [], lent := 0 }

def impl_FindTransaction_1_ti : Tmpl := ⟨(.slot (Ty.prod Ty.i (Ty.prod Ty.i (Ty.prod Ty.i (Ty.prod Ty.i (Ty.prod Ty.i (Ty.prod Ty.i (Ty.prod Ty.i (Ty.prod (Ty.slice (Ty.prod
  Ty.i (Ty.prod Ty.i Ty.unit))) (Ty.prod (Ty.slice YReadMark) Ty.unit))))))))) (.slot (Ty.iref Ty.i) .nil)), .nil⟩

def impl_FindTransaction_1_to : Tmpl := ⟨(.slot (Ty.bool) .nil), .nil⟩

noncomputable def impl_FindTransaction_1_S (x : (Int × Int × Int × Int × Int × Int × Int × List (Int × Int × Unit) × List (Int × Int × Unit) × Unit) × Option Int × Unit) : Option (Bool × Unit) :=
  Option.bind x.2.1 fun v => some (x.1.1 == v, ())

noncomputable def impl_FindTransaction_1_Ent : Ent := ⟨133, impl_FindTransaction_1_ti, impl_FindTransaction_1_to, impl_FindTransaction_1_S⟩

theorem impl_FindTransaction_1_HC : CfgOK Go.Proofs.Tryz.prog impl_FindTransaction_1_C := hc_of g_tisOK g_wide all_nil

theorem impl_FindTransaction_1_OK : EntOK Go.Proofs.Tryz.prog impl_FindTransaction_1_Ent := ok_of impl_FindTransaction_1_HC Go.Proofs.Tryz.func133 0 (by kernel_rfl) (fun k hk => absurd hk (Nat.not_lt_zero k)) (by kernel_rfl) (by kernel_rfl) (fun x => by kernel_rfl)

/-! slices.IndexFunc[[]impl.Transaction,impl.Transaction] -/

abbrev slices_IndexFunc__impl_FindTransaction_1_I2 : Type := List (Int × Int × Int × Int × Int × Int × Int × List (Int × Int × Unit) × List (Int × Int × Unit) × Unit) × (Option Int × Unit) × Int × Unit

abbrev slices_IndexFunc__impl_FindTransaction_1_V2 : Type := Int × Unit

abbrev slices_IndexFunc__impl_FindTransaction_1_Q2 : Type := Int × Unit ⊕ Unit

noncomputable def slices_IndexFunc__impl_FindTransaction_1_D2 (i : slices_IndexFunc__impl_FindTransaction_1_I2) (v : slices_IndexFunc__impl_FindTransaction_1_V2) (R : Type) (K : slices_IndexFunc__impl_FindTransaction_1_V2 ⊕ slices_IndexFunc__impl_FindTransaction_1_Q2 → Option R) : Option R :=
  bif decide (v.1 < i.2.2.1) then Option.bind (lAt i.1 v.1) fun v_1 => Option.bind (impl_FindTransaction_1_S ((v_1.1, v_1.2.1, v_1.2.2.1, v_1.2.2.2.1, v_1.2.2.2.2.1, v_1.2.2.2.2.2.1, v_1.2.2.2.2.2.2.1, v_1.2.2.2.2.2.2.2.1,
  v_1.2.2.2.2.2.2.2.2.1, ()), i.2.1.1, ())) fun v_2 => bif v_2.1 then K (Sum.inr (Sum.inl (v.1, ()))) else K (Sum.inl (IntKind.wrap IntKind.i64 (v.1 + 1), ())) else K (Sum.inr (Sum.inr ()))

theorem slices_IndexFunc__impl_FindTransaction_1_D2_nat : NatD slices_IndexFunc__impl_FindTransaction_1_D2 := fun i v R K => nat_bif (nat_bind fun _ => nat_bind fun _ => nat_bif (nat_some) (nat_some)) (nat_some)

def slices_IndexFunc__impl_FindTransaction_1_T2 : Tmpl := ⟨(.slot (Ty.slice (Ty.prod Ty.i (Ty.prod Ty.i (Ty.prod Ty.i (Ty.prod Ty.i (Ty.prod Ty.i (Ty.prod Ty.i (Ty.prod Ty.i (Ty.prod (Ty.slice
  YReadMark) (Ty.prod (Ty.slice YReadMark) Ty.unit)))))))))) (.slot (Ty.fn 133 (Ty.prod (Ty.iref Ty.i) Ty.unit)) (jk 5 (.slot Ty.i (.slot Ty.i (jk 10 .nil)))))), .nil⟩

def slices_IndexFunc__impl_FindTransaction_1_X2_0 (i : slices_IndexFunc__impl_FindTransaction_1_I2) (p : Int × Unit) : St := ⟨jn 4 (.n (p.1) :: jn 14 ([])), []⟩

def slices_IndexFunc__impl_FindTransaction_1_X2_1 (i : slices_IndexFunc__impl_FindTransaction_1_I2) (p : Unit) : St := ⟨jn 19 ([]), []⟩

noncomputable def slices_IndexFunc__impl_FindTransaction_1_E2 (i : slices_IndexFunc__impl_FindTransaction_1_I2) (p : slices_IndexFunc__impl_FindTransaction_1_Q2) (R : Type) (K : Ex → St → Option R) : Option R := sumC p (fun p => K (Ex.ret) (slices_IndexFunc__impl_FindTransaction_1_X2_0 i p)) fun p => K (Ex.exit 0) (slices_IndexFunc__impl_FindTransaction_1_X2_1 i p)

noncomputable def slices_IndexFunc__impl_FindTransaction_1_K2 (i : slices_IndexFunc__impl_FindTransaction_1_I2) (p : slices_IndexFunc__impl_FindTransaction_1_Q2) : Ex × St := sumC p (fun p => (Ex.ret, slices_IndexFunc__impl_FindTransaction_1_X2_0 i p)) fun p => (Ex.exit 0, slices_IndexFunc__impl_FindTransaction_1_X2_1 i p)

def slices_IndexFunc__impl_FindTransaction_1_M2 (i : slices_IndexFunc__impl_FindTransaction_1_I2) (v : slices_IndexFunc__impl_FindTransaction_1_V2) : den slices_IndexFunc__impl_FindTransaction_1_T2.ty := (i.1, i.2.1, i.2.2.1, v.1, ())

def slices_IndexFunc__impl_FindTransaction_1_P2 (x : den slices_IndexFunc__impl_FindTransaction_1_T2.ty) : slices_IndexFunc__impl_FindTransaction_1_I2 × slices_IndexFunc__impl_FindTransaction_1_V2 := ((x.1, x.2.1, x.2.2.1, ()), (x.2.2.2.1, ()))

noncomputable def slices_IndexFunc__impl_FindTransaction_1_C : Cfg := { ti := g_tis, ents := [impl_FindTransaction_1_Ent], ann := [(2, loopFn slices_IndexFunc__impl_FindTransaction_1_T2 0 slices_IndexFunc__impl_FindTransaction_1_P2 slices_IndexFunc__impl_FindTransaction_1_D2 slices_IndexFunc__impl_FindTransaction_1_E2)], lent := 0 }

def slices_IndexFunc__impl_FindTransaction_1_ti : Tmpl := ⟨(.slot (Ty.slice (Ty.prod Ty.i (Ty.prod Ty.i (Ty.prod Ty.i (Ty.prod Ty.i (Ty.prod Ty.i (Ty.prod Ty.i (Ty.prod Ty.i (Ty.prod (Ty.slice
  YReadMark) (Ty.prod (Ty.slice YReadMark) Ty.unit)))))))))) (.slot (Ty.fn 133 (Ty.prod (Ty.iref Ty.i) Ty.unit)) .nil)), .nil⟩

def slices_IndexFunc__impl_FindTransaction_1_to : Tmpl := ⟨(.slot Ty.i .nil), .nil⟩

noncomputable def slices_IndexFunc__impl_FindTransaction_1_S (x : List (Int × Int × Int × Int × Int × Int × Int × List (Int × Int × Unit) × List (Int × Int × Unit) × Unit) × (Option Int × Unit) × Unit) : Option (Int × Unit) :=
  Option.bind (iter (fun v => slices_IndexFunc__impl_FindTransaction_1_D2 (x.1, x.2.1, (↑(List.length x.1) : Int), ()) v _ some) (0, ())) fun p => sumC p (fun p => some (p.1, ())) fun p => some (-1, ())

noncomputable def slices_IndexFunc__impl_FindTransaction_1_Ent : Ent := ⟨112, slices_IndexFunc__impl_FindTransaction_1_ti, slices_IndexFunc__impl_FindTransaction_1_to, slices_IndexFunc__impl_FindTransaction_1_S⟩

theorem slices_IndexFunc__impl_FindTransaction_1_HC : CfgOK Go.Proofs.Tryz.prog slices_IndexFunc__impl_FindTransaction_1_C := hc_of g_tisOK g_wide (all_cons impl_FindTransaction_1_OK all_nil)

theorem slices_IndexFunc__impl_FindTransaction_1_lk2 : LkOK Go.Proofs.Tryz.prog slices_IndexFunc__impl_FindTransaction_1_C (lpc Go.Proofs.Tryz.f112 0) :=
  lk_of slices_IndexFunc__impl_FindTransaction_1_HC (m := 0) (T := slices_IndexFunc__impl_FindTransaction_1_T2) (sp := slices_IndexFunc__impl_FindTransaction_1_P2) (D := slices_IndexFunc__impl_FindTransaction_1_D2) (E := slices_IndexFunc__impl_FindTransaction_1_E2) (by kernel_rfl) (by kernel_rfl) (fun k hk => absurd hk (Nat.not_lt_zero k)) [4] slices_IndexFunc__impl_FindTransaction_1_M2 (fun x => rfl) slices_IndexFunc__impl_FindTransaction_1_D2_nat slices_IndexFunc__impl_FindTransaction_1_K2 (fun i p R K => by rcases p with p | p <;> rfl) (fun i v => by kernel_rfl)

theorem slices_IndexFunc__impl_FindTransaction_1_OK : EntOK Go.Proofs.Tryz.prog slices_IndexFunc__impl_FindTransaction_1_Ent := ok_of slices_IndexFunc__impl_FindTransaction_1_HC Go.Proofs.Tryz.func112 1 (by kernel_rfl) (fun k hk => match k, hk with | 0, _ => slices_IndexFunc__impl_FindTransaction_1_lk2) (by kernel_rfl) (by kernel_rfl) (fun x => by kernel_rfl)

/-! impl.FindTransaction -/

noncomputable def impl_FindTransaction_C : Cfg := { ti := g_tis, ents := [slices_IndexFunc__impl_FindTransaction_1_Ent], ann := [], lent := 0 }

def impl_FindTransaction_ti : Tmpl := ⟨(.slot (Ty.prod Ty.bool (Ty.prod YStore (Ty.prod
  (Ty.slice (Ty.prod Ty.i (Ty.prod Ty.i (Ty.prod Ty.i (Ty.prod Ty.i (Ty.prod Ty.i (Ty.prod Ty.i (Ty.prod Ty.i (Ty.prod (Ty.slice
  YReadMark) (Ty.prod (Ty.slice YReadMark) Ty.unit)))))))))) (Ty.prod (Ty.slice (Ty.prod Ty.i (Ty.prod
  Ty.i Ty.unit))) (Ty.prod (Ty.slice YReadMark) (Ty.prod Ty.i Ty.unit)))))) (.slot Ty.i .nil)), .nil⟩

def impl_FindTransaction_to : Tmpl := ⟨(.slot Ty.i .nil), .nil⟩

noncomputable def impl_FindTransaction_S (x : (Bool × (List (List (Int × Int × Int × Int × Int × Unit)) × Unit) × List (Int × Int × Int × Int × Int × Int × Int × List (Int × Int × Unit) × List (Int × Int × Unit) × Unit) × List (Int × Int × Unit) × List (Int × Int × Unit) × Int × Unit) ×
  Int × Unit) : Option (Int × Unit) :=
  Option.bind (slices_IndexFunc__impl_FindTransaction_1_S (x.1.2.2.1, (some x.2.1, ()), ())) fun v => some (v.1, ())

noncomputable def impl_FindTransaction_Ent : Ent := ⟨109, impl_FindTransaction_ti, impl_FindTransaction_to, impl_FindTransaction_S⟩

theorem impl_FindTransaction_HC : CfgOK Go.Proofs.Tryz.prog impl_FindTransaction_C := hc_of g_tisOK g_wide (all_cons slices_IndexFunc__impl_FindTransaction_1_OK all_nil)

theorem impl_FindTransaction_OK : EntOK Go.Proofs.Tryz.prog impl_FindTransaction_Ent := ok_of impl_FindTransaction_HC Go.Proofs.Tryz.func109 0 (by kernel_rfl) (fun k hk => absurd hk (Nat.not_lt_zero k)) (by kernel_rfl) (by kernel_rfl) (fun x => by kernel_rfl)

/-! (impl.Engine).isActive -/

noncomputable def impl_Engine_isActive_C : Cfg := { ti := g_tis, ents := [impl_FindTransaction_Ent], ann := [], lent := 0 }

def impl_Engine_isActive_ti : Tmpl := ⟨(.slot (Ty.prod Ty.bool (Ty.prod YStore (Ty.prod
  (Ty.slice (Ty.prod Ty.i (Ty.prod Ty.i (Ty.prod Ty.i (Ty.prod Ty.i (Ty.prod Ty.i (Ty.prod Ty.i (Ty.prod Ty.i (Ty.prod (Ty.slice
  YReadMark) (Ty.prod (Ty.slice YReadMark) Ty.unit)))))))))) (Ty.prod (Ty.slice (Ty.prod Ty.i (Ty.prod
  Ty.i Ty.unit))) (Ty.prod (Ty.slice YReadMark) (Ty.prod Ty.i Ty.unit)))))) (.slot Ty.i .nil)), .nil⟩

def impl_Engine_isActive_to : Tmpl := ⟨(.slot (Ty.bool) .nil), .nil⟩

noncomputable def impl_Engine_isActive_S (x : (Bool × (List (List (Int × Int × Int × Int × Int × Unit)) × Unit) × List (Int × Int × Int × Int × Int × Int × Int × List (Int × Int × Unit) × List (Int × Int × Unit) × Unit) × List (Int × Int × Unit) × List (Int × Int × Unit) × Int × Unit) ×
  Int × Unit) : Option (Bool × Unit) :=
  Option.bind (impl_FindTransaction_S ((x.1.1, (x.1.2.1.1, ()), x.1.2.2.1, x.1.2.2.2.1, x.1.2.2.2.2.1, x.1.2.2.2.2.2.1, ()), x.2.1, ())) fun v => bif decide (v.1 ≥ 0) then Option.bind (lAt x.1.2.2.1 v.1) fun v => some (v.2.2.1 == 1, ()) else
  some (false, ())

noncomputable def impl_Engine_isActive_Ent : Ent := ⟨70, impl_Engine_isActive_ti, impl_Engine_isActive_to, impl_Engine_isActive_S⟩

theorem impl_Engine_isActive_HC : CfgOK Go.Proofs.Tryz.prog impl_Engine_isActive_C := hc_of g_tisOK g_wide (all_cons impl_FindTransaction_OK all_nil)

theorem impl_Engine_isActive_OK : EntOK Go.Proofs.Tryz.prog impl_Engine_isActive_Ent := ok_of impl_Engine_isActive_HC Go.Proofs.Tryz.func70 0 (by kernel_rfl) (fun k hk => absurd hk (Nat.not_lt_zero k)) (by kernel_rfl) (by kernel_rfl) (fun x => by kernel_rfl)

/-! impl.IsValidEngine$1 -/

noncomputable def impl_IsValidEngine_1_C : Cfg := { ti := g_tis, ents := [impl_Engine_isActive_Ent], ann := [], lent := 0 }

def impl_IsValidEngine_1_ti : Tmpl := ⟨(.slot YReadMark (.slot (Ty.iref (Ty.prod Ty.bool (Ty.prod YStore
  (Ty.prod (Ty.slice (Ty.prod Ty.i (Ty.prod Ty.i (Ty.prod Ty.i (Ty.prod Ty.i (Ty.prod Ty.i (Ty.prod Ty.i (Ty.prod Ty.i (Ty.prod
  (Ty.slice YReadMark) (Ty.prod (Ty.slice YReadMark) Ty.unit)))))))))) (Ty.prod (Ty.slice (Ty.prod Ty.i
  (Ty.prod Ty.i Ty.unit))) (Ty.prod (Ty.slice YReadMark) (Ty.prod Ty.i Ty.unit))))))) .nil)), .nil⟩

def impl_IsValidEngine_1_to : Tmpl := ⟨(.slot (Ty.bool) .nil), .nil⟩

noncomputable def impl_IsValidEngine_1_S (x : (Int × Int × Unit) × Option (Bool × (List (List (Int × Int × Int × Int × Int × Unit)) × Unit) × List (Int × Int × Int × Int × Int × Int × Int × List (Int × Int × Unit) × List (Int × Int × Unit) × Unit) × List (Int × Int × Unit) × List (Int ×
  Int × Unit) × Int × Unit) × Unit) : Option (Bool × Unit) :=
  Option.bind x.2.1 fun v => Option.bind (impl_Engine_isActive_S ((v.1, (v.2.1.1, ()), v.2.2.1, v.2.2.2.1, v.2.2.2.2.1, v.2.2.2.2.2.1, ()), x.1.2.1, ())) fun v => some (!v.1, ())

noncomputable def impl_IsValidEngine_1_Ent : Ent := ⟨69, impl_IsValidEngine_1_ti, impl_IsValidEngine_1_to, impl_IsValidEngine_1_S⟩

theorem impl_IsValidEngine_1_HC : CfgOK Go.Proofs.Tryz.prog impl_IsValidEngine_1_C := hc_of g_tisOK g_wide (all_cons impl_Engine_isActive_OK all_nil)

theorem impl_IsValidEngine_1_OK : EntOK Go.Proofs.Tryz.prog impl_IsValidEngine_1_Ent := ok_of impl_IsValidEngine_1_HC Go.Proofs.Tryz.func69 0 (by kernel_rfl) (fun k hk => absurd hk (Nat.not_lt_zero k)) (by kernel_rfl) (by kernel_rfl) (fun x => by kernel_rfl)

/-! slices.IndexFunc[[]impl.Lock,impl.Lock] -/

abbrev slices_IndexFunc__impl_IsValidEngine_1_I2 : Type := List (Int × Int × Unit) × (Option (Bool × (List (List (Int × Int × Int × Int × Int × Unit)) × Unit) × List (Int × Int × Int × Int × Int × Int × Int × List (Int × Int × Unit) × List (Int × Int × Unit) × Unit) × List (Int × Int × Unit) × List
  (Int × Int × Unit) × Int × Unit) × Unit) × Int × Unit

abbrev slices_IndexFunc__impl_IsValidEngine_1_V2 : Type := Int × Unit

abbrev slices_IndexFunc__impl_IsValidEngine_1_Q2 : Type := Int × Unit ⊕ Unit

noncomputable def slices_IndexFunc__impl_IsValidEngine_1_D2 (i : slices_IndexFunc__impl_IsValidEngine_1_I2) (v : slices_IndexFunc__impl_IsValidEngine_1_V2) (R : Type) (K : slices_IndexFunc__impl_IsValidEngine_1_V2 ⊕ slices_IndexFunc__impl_IsValidEngine_1_Q2 → Option R) : Option R :=
  bif decide (v.1 < i.2.2.1) then Option.bind (lAt i.1 v.1) fun v_1 => Option.bind (impl_IsValidEngine_1_S ((v_1.1, v_1.2.1, ()), i.2.1.1, ())) fun v_2 => bif v_2.1 then K (Sum.inr (Sum.inl (v.1, ()))) else K (Sum.inl (IntKind.wrap IntKind.i64
  (v.1 + 1), ())) else K (Sum.inr (Sum.inr ()))

theorem slices_IndexFunc__impl_IsValidEngine_1_D2_nat : NatD slices_IndexFunc__impl_IsValidEngine_1_D2 := fun i v R K => nat_bif (nat_bind fun _ => nat_bind fun _ => nat_bif (nat_some) (nat_some)) (nat_some)

def slices_IndexFunc__impl_IsValidEngine_1_T2 : Tmpl := ⟨(.slot (Ty.slice YReadMark) (.slot (Ty.fn 69 (Ty.prod (Ty.iref (Ty.prod Ty.bool (Ty.prod (Ty.prod (Ty.slice (Ty.slice (Ty.prod Ty.i (Ty.prod Ty.i (Ty.prod Ty.i (Ty.prod Ty.i (Ty.prod Ty.i
  Ty.unit))))))) Ty.unit) (Ty.prod (Ty.slice (Ty.prod Ty.i (Ty.prod Ty.i (Ty.prod Ty.i (Ty.prod Ty.i (Ty.prod Ty.i (Ty.prod Ty.i (Ty.prod (Ty.int
  IntKind.i64) (Ty.prod (Ty.slice YReadMark) (Ty.prod (Ty.slice YReadMark) Ty.unit)))))))))) (Ty.prod (Ty.slice (Ty.prod
  Ty.i (Ty.prod Ty.i Ty.unit))) (Ty.prod (Ty.slice YReadMark) (Ty.prod Ty.i Ty.unit))))))) Ty.unit)) (jk 5 (.slot Ty.i (.slot Ty.i (jk 10 .nil)))))), .nil⟩

def slices_IndexFunc__impl_IsValidEngine_1_X2_0 (i : slices_IndexFunc__impl_IsValidEngine_1_I2) (p : Int × Unit) : St := ⟨jn 4 (.n (p.1) :: jn 14 ([])), []⟩

def slices_IndexFunc__impl_IsValidEngine_1_X2_1 (i : slices_IndexFunc__impl_IsValidEngine_1_I2) (p : Unit) : St := ⟨jn 19 ([]), []⟩

noncomputable def slices_IndexFunc__impl_IsValidEngine_1_E2 (i : slices_IndexFunc__impl_IsValidEngine_1_I2) (p : slices_IndexFunc__impl_IsValidEngine_1_Q2) (R : Type) (K : Ex → St → Option R) : Option R := sumC p (fun p => K (Ex.ret) (slices_IndexFunc__impl_IsValidEngine_1_X2_0 i p)) fun p => K (Ex.exit 0) (slices_IndexFunc__impl_IsValidEngine_1_X2_1 i p)

noncomputable def slices_IndexFunc__impl_IsValidEngine_1_K2 (i : slices_IndexFunc__impl_IsValidEngine_1_I2) (p : slices_IndexFunc__impl_IsValidEngine_1_Q2) : Ex × St := sumC p (fun p => (Ex.ret, slices_IndexFunc__impl_IsValidEngine_1_X2_0 i p)) fun p => (Ex.exit 0, slices_IndexFunc__impl_IsValidEngine_1_X2_1 i p)

def slices_IndexFunc__impl_IsValidEngine_1_M2 (i : slices_IndexFunc__impl_IsValidEngine_1_I2) (v : slices_IndexFunc__impl_IsValidEngine_1_V2) : den slices_IndexFunc__impl_IsValidEngine_1_T2.ty := (i.1, i.2.1, i.2.2.1, v.1, ())

def slices_IndexFunc__impl_IsValidEngine_1_P2 (x : den slices_IndexFunc__impl_IsValidEngine_1_T2.ty) : slices_IndexFunc__impl_IsValidEngine_1_I2 × slices_IndexFunc__impl_IsValidEngine_1_V2 := ((x.1, x.2.1, x.2.2.1, ()), (x.2.2.2.1, ()))

noncomputable def slices_IndexFunc__impl_IsValidEngine_1_C : Cfg := { ti := g_tis, ents := [impl_IsValidEngine_1_Ent], ann := [(2, loopFn slices_IndexFunc__impl_IsValidEngine_1_T2 0 slices_IndexFunc__impl_IsValidEngine_1_P2 slices_IndexFunc__impl_IsValidEngine_1_D2 slices_IndexFunc__impl_IsValidEngine_1_E2)], lent := 0 }

def slices_IndexFunc__impl_IsValidEngine_1_ti : Tmpl := ⟨(.slot (Ty.slice YReadMark) (.slot (Ty.fn 69 (Ty.prod (Ty.iref (Ty.prod Ty.bool (Ty.prod (Ty.prod (Ty.slice (Ty.slice (Ty.prod Ty.i (Ty.prod Ty.i (Ty.prod Ty.i (Ty.prod Ty.i (Ty.prod Ty.i
  Ty.unit))))))) Ty.unit) (Ty.prod (Ty.slice (Ty.prod Ty.i (Ty.prod Ty.i (Ty.prod Ty.i (Ty.prod Ty.i (Ty.prod Ty.i (Ty.prod Ty.i (Ty.prod (Ty.int
  IntKind.i64) (Ty.prod (Ty.slice YReadMark) (Ty.prod (Ty.slice YReadMark) Ty.unit)))))))))) (Ty.prod (Ty.slice (Ty.prod
  Ty.i (Ty.prod Ty.i Ty.unit))) (Ty.prod (Ty.slice YReadMark) (Ty.prod Ty.i Ty.unit))))))) Ty.unit)) .nil)), .nil⟩

def slices_IndexFunc__impl_IsValidEngine_1_to : Tmpl := ⟨(.slot Ty.i .nil), .nil⟩

noncomputable def slices_IndexFunc__impl_IsValidEngine_1_S (x : List (Int × Int × Unit) × (Option (Bool × (List (List (Int × Int × Int × Int × Int × Unit)) × Unit) × List (Int × Int × Int × Int × Int × Int × Int × List (Int × Int × Unit) × List (Int × Int × Unit) × Unit) × List (Int × Int × Unit) × List
  (Int × Int × Unit) × Int × Unit) × Unit) × Unit) : Option (Int × Unit) :=
  Option.bind (iter (fun v => slices_IndexFunc__impl_IsValidEngine_1_D2 (x.1, x.2.1, (↑(List.length x.1) : Int), ()) v _ some) (0, ())) fun p => sumC p (fun p => some (p.1, ())) fun p => some (-1, ())

noncomputable def slices_IndexFunc__impl_IsValidEngine_1_Ent : Ent := ⟨108, slices_IndexFunc__impl_IsValidEngine_1_ti, slices_IndexFunc__impl_IsValidEngine_1_to, slices_IndexFunc__impl_IsValidEngine_1_S⟩

theorem slices_IndexFunc__impl_IsValidEngine_1_HC : CfgOK Go.Proofs.Tryz.prog slices_IndexFunc__impl_IsValidEngine_1_C := hc_of g_tisOK g_wide (all_cons impl_IsValidEngine_1_OK all_nil)

theorem slices_IndexFunc__impl_IsValidEngine_1_lk2 : LkOK Go.Proofs.Tryz.prog slices_IndexFunc__impl_IsValidEngine_1_C (lpc Go.Proofs.Tryz.f108 0) :=
  lk_of slices_IndexFunc__impl_IsValidEngine_1_HC (m := 0) (T := slices_IndexFunc__impl_IsValidEngine_1_T2) (sp := slices_IndexFunc__impl_IsValidEngine_1_P2) (D := slices_IndexFunc__impl_IsValidEngine_1_D2) (E := slices_IndexFunc__impl_IsValidEngine_1_E2) (by kernel_rfl) (by kernel_rfl) (fun k hk => absurd hk (Nat.not_lt_zero k)) [4] slices_IndexFunc__impl_IsValidEngine_1_M2 (fun x => rfl) slices_IndexFunc__impl_IsValidEngine_1_D2_nat slices_IndexFunc__impl_IsValidEngine_1_K2 (fun i p R K => by rcases p with p | p <;> rfl) (fun i v => by kernel_rfl)

theorem slices_IndexFunc__impl_IsValidEngine_1_OK : EntOK Go.Proofs.Tryz.prog slices_IndexFunc__impl_IsValidEngine_1_Ent := ok_of slices_IndexFunc__impl_IsValidEngine_1_HC Go.Proofs.Tryz.func108 1 (by kernel_rfl) (fun k hk => match k, hk with | 0, _ => slices_IndexFunc__impl_IsValidEngine_1_lk2) (by kernel_rfl) (by kernel_rfl) (fun x => by kernel_rfl)

/-! slices.ContainsFunc[[]impl.Lock,impl.Lock] -/

noncomputable def slices_ContainsFunc__impl_IsValidEngine_1_C : Cfg := { ti := g_tis, ents := [slices_IndexFunc__impl_IsValidEngine_1_Ent], ann := [], lent := 0 }

def slices_ContainsFunc__impl_IsValidEngine_1_ti : Tmpl := ⟨(.slot (Ty.slice YReadMark) (.slot (Ty.fn 69 (Ty.prod (Ty.iref (Ty.prod Ty.bool (Ty.prod (Ty.prod (Ty.slice (Ty.slice (Ty.prod Ty.i (Ty.prod Ty.i (Ty.prod Ty.i (Ty.prod Ty.i (Ty.prod Ty.i
  Ty.unit))))))) Ty.unit) (Ty.prod (Ty.slice (Ty.prod Ty.i (Ty.prod Ty.i (Ty.prod Ty.i (Ty.prod Ty.i (Ty.prod Ty.i (Ty.prod Ty.i (Ty.prod (Ty.int
  IntKind.i64) (Ty.prod (Ty.slice YReadMark) (Ty.prod (Ty.slice YReadMark) Ty.unit)))))))))) (Ty.prod (Ty.slice (Ty.prod
  Ty.i (Ty.prod Ty.i Ty.unit))) (Ty.prod (Ty.slice YReadMark) (Ty.prod Ty.i Ty.unit))))))) Ty.unit)) .nil)), .nil⟩

def slices_ContainsFunc__impl_IsValidEngine_1_to : Tmpl := ⟨(.slot (Ty.bool) .nil), .nil⟩

noncomputable def slices_ContainsFunc__impl_IsValidEngine_1_S (x : List (Int × Int × Unit) × (Option (Bool × (List (List (Int × Int × Int × Int × Int × Unit)) × Unit) × List (Int × Int × Int × Int × Int × Int × Int × List (Int × Int × Unit) × List (Int × Int × Unit) × Unit) × List (Int × Int × Unit) × List
  (Int × Int × Unit) × Int × Unit) × Unit) × Unit) : Option (Bool × Unit) :=
  Option.bind (slices_IndexFunc__impl_IsValidEngine_1_S (x.1, x.2.1, ())) fun v => some (decide (v.1 ≥ 0), ())

noncomputable def slices_ContainsFunc__impl_IsValidEngine_1_Ent : Ent := ⟨68, slices_ContainsFunc__impl_IsValidEngine_1_ti, slices_ContainsFunc__impl_IsValidEngine_1_to, slices_ContainsFunc__impl_IsValidEngine_1_S⟩

theorem slices_ContainsFunc__impl_IsValidEngine_1_HC : CfgOK Go.Proofs.Tryz.prog slices_ContainsFunc__impl_IsValidEngine_1_C := hc_of g_tisOK g_wide (all_cons slices_IndexFunc__impl_IsValidEngine_1_OK all_nil)

theorem slices_ContainsFunc__impl_IsValidEngine_1_OK : EntOK Go.Proofs.Tryz.prog slices_ContainsFunc__impl_IsValidEngine_1_Ent := ok_of slices_ContainsFunc__impl_IsValidEngine_1_HC Go.Proofs.Tryz.func68 0 (by kernel_rfl) (fun k hk => absurd hk (Nat.not_lt_zero k)) (by kernel_rfl) (by kernel_rfl) (fun x => by kernel_rfl)

/-! impl.IsValidEngine$2 -/

noncomputable def impl_IsValidEngine_2_C : Cfg := { ti := g_tis, ents := [impl_Engine_isActive_Ent], ann := [], lent := 0 }

def impl_IsValidEngine_2_ti : Tmpl := ⟨(.slot YReadMark (.slot (Ty.iref (Ty.prod Ty.bool (Ty.prod YStore
  (Ty.prod (Ty.slice (Ty.prod Ty.i (Ty.prod Ty.i (Ty.prod Ty.i (Ty.prod Ty.i (Ty.prod Ty.i (Ty.prod Ty.i (Ty.prod Ty.i (Ty.prod
  (Ty.slice YReadMark) (Ty.prod (Ty.slice YReadMark) Ty.unit)))))))))) (Ty.prod (Ty.slice (Ty.prod Ty.i
  (Ty.prod Ty.i Ty.unit))) (Ty.prod (Ty.slice YReadMark) (Ty.prod Ty.i Ty.unit))))))) .nil)), .nil⟩

def impl_IsValidEngine_2_to : Tmpl := ⟨(.slot (Ty.bool) .nil), .nil⟩

noncomputable def impl_IsValidEngine_2_S (x : (Int × Int × Unit) × Option (Bool × (List (List (Int × Int × Int × Int × Int × Unit)) × Unit) × List (Int × Int × Int × Int × Int × Int × Int × List (Int × Int × Unit) × List (Int × Int × Unit) × Unit) × List (Int × Int × Unit) × List (Int ×
  Int × Unit) × Int × Unit) × Unit) : Option (Bool × Unit) :=
  Option.bind x.2.1 fun v => Option.bind (impl_Engine_isActive_S ((v.1, (v.2.1.1, ()), v.2.2.1, v.2.2.2.1, v.2.2.2.2.1, v.2.2.2.2.2.1, ()), x.1.1, ())) fun v => bif !v.1 then some (true, ()) else Option.bind x.2.1 fun v => Option.bind
  (impl_Engine_isActive_S ((v.1, (v.2.1.1, ()), v.2.2.1, v.2.2.2.1, v.2.2.2.2.1, v.2.2.2.2.2.1, ()), x.1.2.1, ())) fun v => some (!v.1, ())

noncomputable def impl_IsValidEngine_2_Ent : Ent := ⟨72, impl_IsValidEngine_2_ti, impl_IsValidEngine_2_to, impl_IsValidEngine_2_S⟩

theorem impl_IsValidEngine_2_HC : CfgOK Go.Proofs.Tryz.prog impl_IsValidEngine_2_C := hc_of g_tisOK g_wide (all_cons impl_Engine_isActive_OK all_nil)

theorem impl_IsValidEngine_2_OK : EntOK Go.Proofs.Tryz.prog impl_IsValidEngine_2_Ent := ok_of impl_IsValidEngine_2_HC Go.Proofs.Tryz.func72 0 (by kernel_rfl) (fun k hk => absurd hk (Nat.not_lt_zero k)) (by kernel_rfl) (by kernel_rfl) (fun x => by kernel_rfl)

/-! slices.IndexFunc[[]impl.Wait,impl.Wait] -/

abbrev slices_IndexFunc__impl_IsValidEngine_2_I2 : Type := List (Int × Int × Unit) × (Option (Bool × (List (List (Int × Int × Int × Int × Int × Unit)) × Unit) × List (Int × Int × Int × Int × Int × Int × Int × List (Int × Int × Unit) × List (Int × Int × Unit) × Unit) × List (Int × Int × Unit) × List
  (Int × Int × Unit) × Int × Unit) × Unit) × Int × Unit

abbrev slices_IndexFunc__impl_IsValidEngine_2_V2 : Type := Int × Unit

abbrev slices_IndexFunc__impl_IsValidEngine_2_Q2 : Type := Int × Unit ⊕ Unit

noncomputable def slices_IndexFunc__impl_IsValidEngine_2_D2 (i : slices_IndexFunc__impl_IsValidEngine_2_I2) (v : slices_IndexFunc__impl_IsValidEngine_2_V2) (R : Type) (K : slices_IndexFunc__impl_IsValidEngine_2_V2 ⊕ slices_IndexFunc__impl_IsValidEngine_2_Q2 → Option R) : Option R :=
  bif decide (v.1 < i.2.2.1) then Option.bind (lAt i.1 v.1) fun v_1 => Option.bind (impl_IsValidEngine_2_S ((v_1.1, v_1.2.1, ()), i.2.1.1, ())) fun v_2 => bif v_2.1 then K (Sum.inr (Sum.inl (v.1, ()))) else K (Sum.inl (IntKind.wrap IntKind.i64
  (v.1 + 1), ())) else K (Sum.inr (Sum.inr ()))

theorem slices_IndexFunc__impl_IsValidEngine_2_D2_nat : NatD slices_IndexFunc__impl_IsValidEngine_2_D2 := fun i v R K => nat_bif (nat_bind fun _ => nat_bind fun _ => nat_bif (nat_some) (nat_some)) (nat_some)

def slices_IndexFunc__impl_IsValidEngine_2_T2 : Tmpl := ⟨(.slot (Ty.slice YReadMark) (.slot (Ty.fn 72 (Ty.prod (Ty.iref (Ty.prod Ty.bool (Ty.prod (Ty.prod (Ty.slice (Ty.slice (Ty.prod Ty.i (Ty.prod Ty.i (Ty.prod Ty.i (Ty.prod Ty.i (Ty.prod Ty.i
  Ty.unit))))))) Ty.unit) (Ty.prod (Ty.slice (Ty.prod Ty.i (Ty.prod Ty.i (Ty.prod Ty.i (Ty.prod Ty.i (Ty.prod Ty.i (Ty.prod Ty.i (Ty.prod (Ty.int
  IntKind.i64) (Ty.prod (Ty.slice YReadMark) (Ty.prod (Ty.slice YReadMark) Ty.unit)))))))))) (Ty.prod (Ty.slice (Ty.prod
  Ty.i (Ty.prod Ty.i Ty.unit))) (Ty.prod (Ty.slice YReadMark) (Ty.prod Ty.i Ty.unit))))))) Ty.unit)) (jk 5 (.slot Ty.i (.slot Ty.i (jk 10 .nil)))))), .nil⟩

def slices_IndexFunc__impl_IsValidEngine_2_X2_0 (i : slices_IndexFunc__impl_IsValidEngine_2_I2) (p : Int × Unit) : St := ⟨jn 4 (.n (p.1) :: jn 14 ([])), []⟩

def slices_IndexFunc__impl_IsValidEngine_2_X2_1 (i : slices_IndexFunc__impl_IsValidEngine_2_I2) (p : Unit) : St := ⟨jn 19 ([]), []⟩

noncomputable def slices_IndexFunc__impl_IsValidEngine_2_E2 (i : slices_IndexFunc__impl_IsValidEngine_2_I2) (p : slices_IndexFunc__impl_IsValidEngine_2_Q2) (R : Type) (K : Ex → St → Option R) : Option R := sumC p (fun p => K (Ex.ret) (slices_IndexFunc__impl_IsValidEngine_2_X2_0 i p)) fun p => K (Ex.exit 0) (slices_IndexFunc__impl_IsValidEngine_2_X2_1 i p)

noncomputable def slices_IndexFunc__impl_IsValidEngine_2_K2 (i : slices_IndexFunc__impl_IsValidEngine_2_I2) (p : slices_IndexFunc__impl_IsValidEngine_2_Q2) : Ex × St := sumC p (fun p => (Ex.ret, slices_IndexFunc__impl_IsValidEngine_2_X2_0 i p)) fun p => (Ex.exit 0, slices_IndexFunc__impl_IsValidEngine_2_X2_1 i p)

def slices_IndexFunc__impl_IsValidEngine_2_M2 (i : slices_IndexFunc__impl_IsValidEngine_2_I2) (v : slices_IndexFunc__impl_IsValidEngine_2_V2) : den slices_IndexFunc__impl_IsValidEngine_2_T2.ty := (i.1, i.2.1, i.2.2.1, v.1, ())

def slices_IndexFunc__impl_IsValidEngine_2_P2 (x : den slices_IndexFunc__impl_IsValidEngine_2_T2.ty) : slices_IndexFunc__impl_IsValidEngine_2_I2 × slices_IndexFunc__impl_IsValidEngine_2_V2 := ((x.1, x.2.1, x.2.2.1, ()), (x.2.2.2.1, ()))

noncomputable def slices_IndexFunc__impl_IsValidEngine_2_C : Cfg := { ti := g_tis, ents := [impl_IsValidEngine_2_Ent], ann := [(2, loopFn slices_IndexFunc__impl_IsValidEngine_2_T2 0 slices_IndexFunc__impl_IsValidEngine_2_P2 slices_IndexFunc__impl_IsValidEngine_2_D2 slices_IndexFunc__impl_IsValidEngine_2_E2)], lent := 0 }

def slices_IndexFunc__impl_IsValidEngine_2_ti : Tmpl := ⟨(.slot (Ty.slice YReadMark) (.slot (Ty.fn 72 (Ty.prod (Ty.iref (Ty.prod Ty.bool (Ty.prod (Ty.prod (Ty.slice (Ty.slice (Ty.prod Ty.i (Ty.prod Ty.i (Ty.prod Ty.i (Ty.prod Ty.i (Ty.prod Ty.i
  Ty.unit))))))) Ty.unit) (Ty.prod (Ty.slice (Ty.prod Ty.i (Ty.prod Ty.i (Ty.prod Ty.i (Ty.prod Ty.i (Ty.prod Ty.i (Ty.prod Ty.i (Ty.prod (Ty.int
  IntKind.i64) (Ty.prod (Ty.slice YReadMark) (Ty.prod (Ty.slice YReadMark) Ty.unit)))))))))) (Ty.prod (Ty.slice (Ty.prod
  Ty.i (Ty.prod Ty.i Ty.unit))) (Ty.prod (Ty.slice YReadMark) (Ty.prod Ty.i Ty.unit))))))) Ty.unit)) .nil)), .nil⟩

def slices_IndexFunc__impl_IsValidEngine_2_to : Tmpl := ⟨(.slot Ty.i .nil), .nil⟩

noncomputable def slices_IndexFunc__impl_IsValidEngine_2_S (x : List (Int × Int × Unit) × (Option (Bool × (List (List (Int × Int × Int × Int × Int × Unit)) × Unit) × List (Int × Int × Int × Int × Int × Int × Int × List (Int × Int × Unit) × List (Int × Int × Unit) × Unit) × List (Int × Int × Unit) × List
  (Int × Int × Unit) × Int × Unit) × Unit) × Unit) : Option (Int × Unit) :=
  Option.bind (iter (fun v => slices_IndexFunc__impl_IsValidEngine_2_D2 (x.1, x.2.1, (↑(List.length x.1) : Int), ()) v _ some) (0, ())) fun p => sumC p (fun p => some (p.1, ())) fun p => some (-1, ())

noncomputable def slices_IndexFunc__impl_IsValidEngine_2_Ent : Ent := ⟨110, slices_IndexFunc__impl_IsValidEngine_2_ti, slices_IndexFunc__impl_IsValidEngine_2_to, slices_IndexFunc__impl_IsValidEngine_2_S⟩

theorem slices_IndexFunc__impl_IsValidEngine_2_HC : CfgOK Go.Proofs.Tryz.prog slices_IndexFunc__impl_IsValidEngine_2_C := hc_of g_tisOK g_wide (all_cons impl_IsValidEngine_2_OK all_nil)

theorem slices_IndexFunc__impl_IsValidEngine_2_lk2 : LkOK Go.Proofs.Tryz.prog slices_IndexFunc__impl_IsValidEngine_2_C (lpc Go.Proofs.Tryz.f110 0) :=
  lk_of slices_IndexFunc__impl_IsValidEngine_2_HC (m := 0) (T := slices_IndexFunc__impl_IsValidEngine_2_T2) (sp := slices_IndexFunc__impl_IsValidEngine_2_P2) (D := slices_IndexFunc__impl_IsValidEngine_2_D2) (E := slices_IndexFunc__impl_IsValidEngine_2_E2) (by kernel_rfl) (by kernel_rfl) (fun k hk => absurd hk (Nat.not_lt_zero k)) [4] slices_IndexFunc__impl_IsValidEngine_2_M2 (fun x => rfl) slices_IndexFunc__impl_IsValidEngine_2_D2_nat slices_IndexFunc__impl_IsValidEngine_2_K2 (fun i p R K => by rcases p with p | p <;> rfl) (fun i v => by kernel_rfl)

theorem slices_IndexFunc__impl_IsValidEngine_2_OK : EntOK Go.Proofs.Tryz.prog slices_IndexFunc__impl_IsValidEngine_2_Ent := ok_of slices_IndexFunc__impl_IsValidEngine_2_HC Go.Proofs.Tryz.func110 1 (by kernel_rfl) (fun k hk => match k, hk with | 0, _ => slices_IndexFunc__impl_IsValidEngine_2_lk2) (by kernel_rfl) (by kernel_rfl) (fun x => by kernel_rfl)

/-! slices.ContainsFunc[[]impl.Wait,impl.Wait] -/

noncomputable def slices_ContainsFunc__impl_IsValidEngine_2_C : Cfg := { ti := g_tis, ents := [slices_IndexFunc__impl_IsValidEngine_2_Ent], ann := [], lent := 0 }

def slices_ContainsFunc__impl_IsValidEngine_2_ti : Tmpl := ⟨(.slot (Ty.slice YReadMark) (.slot (Ty.fn 72 (Ty.prod (Ty.iref (Ty.prod Ty.bool (Ty.prod (Ty.prod (Ty.slice (Ty.slice (Ty.prod Ty.i (Ty.prod Ty.i (Ty.prod Ty.i (Ty.prod Ty.i (Ty.prod Ty.i
  Ty.unit))))))) Ty.unit) (Ty.prod (Ty.slice (Ty.prod Ty.i (Ty.prod Ty.i (Ty.prod Ty.i (Ty.prod Ty.i (Ty.prod Ty.i (Ty.prod Ty.i (Ty.prod (Ty.int
  IntKind.i64) (Ty.prod (Ty.slice YReadMark) (Ty.prod (Ty.slice YReadMark) Ty.unit)))))))))) (Ty.prod (Ty.slice (Ty.prod
  Ty.i (Ty.prod Ty.i Ty.unit))) (Ty.prod (Ty.slice YReadMark) (Ty.prod Ty.i Ty.unit))))))) Ty.unit)) .nil)), .nil⟩

def slices_ContainsFunc__impl_IsValidEngine_2_to : Tmpl := ⟨(.slot (Ty.bool) .nil), .nil⟩

noncomputable def slices_ContainsFunc__impl_IsValidEngine_2_S (x : List (Int × Int × Unit) × (Option (Bool × (List (List (Int × Int × Int × Int × Int × Unit)) × Unit) × List (Int × Int × Int × Int × Int × Int × Int × List (Int × Int × Unit) × List (Int × Int × Unit) × Unit) × List (Int × Int × Unit) × List
  (Int × Int × Unit) × Int × Unit) × Unit) × Unit) : Option (Bool × Unit) :=
  Option.bind (slices_IndexFunc__impl_IsValidEngine_2_S (x.1, x.2.1, ())) fun v => some (decide (v.1 ≥ 0), ())

noncomputable def slices_ContainsFunc__impl_IsValidEngine_2_Ent : Ent := ⟨71, slices_ContainsFunc__impl_IsValidEngine_2_ti, slices_ContainsFunc__impl_IsValidEngine_2_to, slices_ContainsFunc__impl_IsValidEngine_2_S⟩

theorem slices_ContainsFunc__impl_IsValidEngine_2_HC : CfgOK Go.Proofs.Tryz.prog slices_ContainsFunc__impl_IsValidEngine_2_C := hc_of g_tisOK g_wide (all_cons slices_IndexFunc__impl_IsValidEngine_2_OK all_nil)

theorem slices_ContainsFunc__impl_IsValidEngine_2_OK : EntOK Go.Proofs.Tryz.prog slices_ContainsFunc__impl_IsValidEngine_2_Ent := ok_of slices_ContainsFunc__impl_IsValidEngine_2_HC Go.Proofs.Tryz.func71 0 (by kernel_rfl) (fun k hk => absurd hk (Nat.not_lt_zero k)) (by kernel_rfl) (by kernel_rfl) (fun x => by kernel_rfl)

/-! impl.IsValidEngine -/

noncomputable def impl_IsValidEngine_C : Cfg := { ti := g_tis, ents := [impl_IsValidStore_Ent, impl_AreLocks_Ent, impl_AreWaits_Ent, impl_Store_lastStamp_Ent, impl_in_Ent, impl_Engine_areTransactions_Ent, slices_ContainsFunc__impl_IsValidEngine_1_Ent, slices_ContainsFunc__impl_IsValidEngine_2_Ent], ann := [], lent := 0 }

def impl_IsValidEngine_ti : Tmpl := ⟨(.slot (Ty.prod Ty.bool (Ty.prod YStore (Ty.prod
  (Ty.slice (Ty.prod Ty.i (Ty.prod Ty.i (Ty.prod Ty.i (Ty.prod Ty.i (Ty.prod Ty.i (Ty.prod Ty.i (Ty.prod Ty.i (Ty.prod (Ty.slice
  YReadMark) (Ty.prod (Ty.slice YReadMark) Ty.unit)))))))))) (Ty.prod (Ty.slice (Ty.prod Ty.i (Ty.prod
  Ty.i Ty.unit))) (Ty.prod (Ty.slice YReadMark) (Ty.prod Ty.i Ty.unit)))))) .nil), .nil⟩

def impl_IsValidEngine_to : Tmpl := ⟨(.slot (Ty.bool) .nil), .nil⟩

noncomputable def impl_IsValidEngine_S (x : (Bool × (List (List (Int × Int × Int × Int × Int × Unit)) × Unit) × List (Int × Int × Int × Int × Int × Int × Int × List (Int × Int × Unit) × List (Int × Int × Unit) × Unit) × List (Int × Int × Unit) × List (Int × Int × Unit) × Int × Unit) ×
  Unit) : Option (Bool × Unit) :=
  Option.bind (impl_IsValidStore_S ((x.1.2.1.1, ()), ())) fun v => bif v.1 then Option.bind (impl_AreLocks_S (x.1.2.2.2.1, ())) fun v => bif v.1 then Option.bind (impl_AreWaits_S (x.1.2.2.2.2.1, ())) fun v => bif v.1 then Option.bind
  (impl_Store_lastStamp_S ((x.1.2.1.1, ()), ())) fun v => Option.bind (impl_in_S (x.1.2.2.2.2.2.1, v.1, 999, ())) fun v => bif v.1 then Option.bind (impl_Engine_areTransactions_S ((x.1.1, (x.1.2.1.1, ()), x.1.2.2.1, x.1.2.2.2.1, x.1.2.2.2.2.1,
  x.1.2.2.2.2.2.1, ()), ())) fun v => bif v.1 then Option.bind (slices_ContainsFunc__impl_IsValidEngine_1_S (x.1.2.2.2.1, (some (x.1.1, (x.1.2.1.1, ()), x.1.2.2.1, x.1.2.2.2.1, x.1.2.2.2.2.1, x.1.2.2.2.2.2.1, ()), ()), ())) fun v => bif !v.1
  then Option.bind (slices_ContainsFunc__impl_IsValidEngine_2_S (x.1.2.2.2.2.1, (some (x.1.1, (x.1.2.1.1, ()), x.1.2.2.1, x.1.2.2.2.1, x.1.2.2.2.2.1, x.1.2.2.2.2.2.1, ()), ()), ())) fun v => some (!v.1, ()) else some (false, ()) else some
  (false, ()) else some (false, ()) else some (false, ()) else some (false, ()) else some (false, ())

noncomputable def impl_IsValidEngine_Ent : Ent := ⟨23, impl_IsValidEngine_ti, impl_IsValidEngine_to, impl_IsValidEngine_S⟩

theorem impl_IsValidEngine_HC : CfgOK Go.Proofs.Tryz.prog impl_IsValidEngine_C := hc_of g_tisOK g_wide (all_cons impl_IsValidStore_OK (all_cons impl_AreLocks_OK (all_cons impl_AreWaits_OK (all_cons impl_Store_lastStamp_OK (all_cons impl_in_OK (all_cons impl_Engine_areTransactions_OK (all_cons slices_ContainsFunc__impl_IsValidEngine_1_OK (all_cons slices_ContainsFunc__impl_IsValidEngine_2_OK all_nil))))))))

theorem impl_IsValidEngine_OK : EntOK Go.Proofs.Tryz.prog impl_IsValidEngine_Ent := ok_of impl_IsValidEngine_HC Go.Proofs.Tryz.func23 0 (by kernel_rfl) (fun k hk => absurd hk (Nat.not_lt_zero k)) (by kernel_rfl) (by kernel_rfl) (fun x => by kernel_rfl)

/-! (impl.Store).refreshHigh -/

abbrev impl_Store_refreshHigh_I3 : Type := List (Int × Int × Unit) × Int × List (List (Int × Int × Int × Int × Int × Unit)) × Unit

abbrev impl_Store_refreshHigh_V3 : Type := Int × Int × Unit

abbrev impl_Store_refreshHigh_Q3 : Type := Int × Unit

noncomputable def impl_Store_refreshHigh_D3 (i : impl_Store_refreshHigh_I3) (v : impl_Store_refreshHigh_V3) (R : Type) (K : impl_Store_refreshHigh_V3 ⊕ impl_Store_refreshHigh_Q3 → Option R) : Option R :=
  bif decide (v.2.1 < i.2.1) then Option.bind (lAt i.1 v.2.1) fun v_1 => Option.bind (impl_Store_find_S ((i.2.2.1, ()), (v_1.1, v_1.2.1, ()), ())) fun v_2 => Option.bind v_2.1 fun v_3 => K (Sum.inl (mn v.1 v_3.2.2.2.2.1, IntKind.wrap
  IntKind.i64 (v.2.1 + 1), ())) else K (Sum.inr (v.1, ()))

theorem impl_Store_refreshHigh_D3_nat : NatD impl_Store_refreshHigh_D3 := fun i v R K => nat_bif (nat_bind fun _ => nat_bind fun _ => nat_bind fun _ => nat_some) (nat_some)

def impl_Store_refreshHigh_T3 : Tmpl := ⟨(jk 2 (.ptr 0 0 0 (jk 2 (.slot Ty.i (jk 3 (.slot (Ty.slice YReadMark) (.slot Ty.i (.slot Ty.i (jk 13 .nil))))))))), (.cells 1 (.slot (Ty.slice (Ty.slice YVersion)) .nil) .nil)⟩

def impl_Store_refreshHigh_X3_0 (i : impl_Store_refreshHigh_I3) (p : Int × Unit) : St := ⟨jn 5 (.n (p.1) :: jn 19 ([])), [some (Cont.cells 1 [[AV.pv (Ty.slice (Ty.slice (Ty.prod Ty.i (Ty.prod Ty.i (Ty.prod Ty.i (Ty.prod Ty.i (Ty.prod Ty.i
  Ty.unit))))))) i.2.2.1]])]⟩

noncomputable def impl_Store_refreshHigh_E3 (i : impl_Store_refreshHigh_I3) (p : impl_Store_refreshHigh_Q3) (R : Type) (K : Ex → St → Option R) : Option R := K (Ex.exit 0) (impl_Store_refreshHigh_X3_0 i p)

noncomputable def impl_Store_refreshHigh_K3 (i : impl_Store_refreshHigh_I3) (p : impl_Store_refreshHigh_Q3) : Ex × St := (Ex.exit 0, impl_Store_refreshHigh_X3_0 i p)

def impl_Store_refreshHigh_M3 (i : impl_Store_refreshHigh_I3) (v : impl_Store_refreshHigh_V3) : den impl_Store_refreshHigh_T3.ty := (v.1, i.1, i.2.1, v.2.1, i.2.2.1, ())

def impl_Store_refreshHigh_P3 (x : den impl_Store_refreshHigh_T3.ty) : impl_Store_refreshHigh_I3 × impl_Store_refreshHigh_V3 := ((x.2.1, x.2.2.1, x.2.2.2.2.1, ()), (x.1, x.2.2.2.1, ()))

noncomputable def impl_Store_refreshHigh_C : Cfg := { ti := g_tis, ents := [impl_Store_find_Ent], ann := [(3, loopFn impl_Store_refreshHigh_T3 0 impl_Store_refreshHigh_P3 impl_Store_refreshHigh_D3 impl_Store_refreshHigh_E3)], lent := 0 }

def impl_Store_refreshHigh_ti : Tmpl := ⟨(.slot YStore (.slot (Ty.prod Ty.i (Ty.prod Ty.i (Ty.prod Ty.i (Ty.prod Ty.i (Ty.prod Ty.i (Ty.prod Ty.i (Ty.prod Ty.i (Ty.prod (Ty.slice (Ty.prod
  Ty.i (Ty.prod Ty.i Ty.unit))) (Ty.prod (Ty.slice YReadMark) Ty.unit))))))))) .nil)), .nil⟩

def impl_Store_refreshHigh_to : Tmpl := ⟨(.slot Ty.i .nil), .nil⟩

noncomputable def impl_Store_refreshHigh_S (x : (List (List (Int × Int × Int × Int × Int × Unit)) × Unit) × (Int × Int × Int × Int × Int × Int × Int × List (Int × Int × Unit) × List (Int × Int × Unit) × Unit) × Unit) : Option (Int × Unit) :=
  Option.bind (iter (fun v => impl_Store_refreshHigh_D3 (x.2.1.2.2.2.2.2.2.2.1, (↑(List.length x.2.1.2.2.2.2.2.2.2.1) : Int), x.1.1, ()) v _ some) (1000, 0, ())) fun p => some (p.1, ())

noncomputable def impl_Store_refreshHigh_Ent : Ent := ⟨144, impl_Store_refreshHigh_ti, impl_Store_refreshHigh_to, impl_Store_refreshHigh_S⟩

theorem impl_Store_refreshHigh_HC : CfgOK Go.Proofs.Tryz.prog impl_Store_refreshHigh_C := hc_of g_tisOK g_wide (all_cons impl_Store_find_OK all_nil)

theorem impl_Store_refreshHigh_lk3 : LkOK Go.Proofs.Tryz.prog impl_Store_refreshHigh_C (lpc Go.Proofs.Tryz.f144 0) :=
  lk_of impl_Store_refreshHigh_HC (m := 0) (T := impl_Store_refreshHigh_T3) (sp := impl_Store_refreshHigh_P3) (D := impl_Store_refreshHigh_D3) (E := impl_Store_refreshHigh_E3) (by kernel_rfl) (by kernel_rfl) (fun k hk => absurd hk (Nat.not_lt_zero k)) [5] impl_Store_refreshHigh_M3 (fun x => rfl) impl_Store_refreshHigh_D3_nat impl_Store_refreshHigh_K3 (fun i p R K => rfl) (fun i v => by kernel_rfl)

theorem impl_Store_refreshHigh_OK : EntOK Go.Proofs.Tryz.prog impl_Store_refreshHigh_Ent := ok_of impl_Store_refreshHigh_HC Go.Proofs.Tryz.func144 1 (by kernel_rfl) (fun k hk => match k, hk with | 0, _ => impl_Store_refreshHigh_lk3) (by kernel_rfl) (by kernel_rfl) (fun x => by kernel_rfl)

/-! (impl.Engine).unsafe -/

noncomputable def impl_Engine_unsafe_C : Cfg := { ti := g_tis, ents := [impl_Store_refreshHigh_Ent], ann := [], lent := 0 }

def impl_Engine_unsafe_ti : Tmpl := ⟨(.slot (Ty.prod Ty.bool (Ty.prod YStore (Ty.prod
  (Ty.slice (Ty.prod Ty.i (Ty.prod Ty.i (Ty.prod Ty.i (Ty.prod Ty.i (Ty.prod Ty.i (Ty.prod Ty.i (Ty.prod Ty.i (Ty.prod (Ty.slice
  YReadMark) (Ty.prod (Ty.slice YReadMark) Ty.unit)))))))))) (Ty.prod (Ty.slice (Ty.prod Ty.i (Ty.prod
  Ty.i Ty.unit))) (Ty.prod (Ty.slice YReadMark) (Ty.prod Ty.i Ty.unit)))))) (.slot (Ty.prod Ty.i (Ty.prod Ty.i (Ty.prod Ty.i (Ty.prod Ty.i (Ty.prod Ty.i (Ty.prod Ty.i (Ty.prod Ty.i (Ty.prod (Ty.slice (Ty.prod
  Ty.i (Ty.prod Ty.i Ty.unit))) (Ty.prod (Ty.slice YReadMark) Ty.unit))))))))) (.slot Ty.i .nil))), .nil⟩

def impl_Engine_unsafe_to : Tmpl := ⟨(.slot (Ty.bool) .nil), .nil⟩

noncomputable def impl_Engine_unsafe_S (x : (Bool × (List (List (Int × Int × Int × Int × Int × Unit)) × Unit) × List (Int × Int × Int × Int × Int × Int × Int × List (Int × Int × Unit) × List (Int × Int × Unit) × Unit) × List (Int × Int × Unit) × List (Int × Int × Unit) × Int × Unit) ×
  (Int × Int × Int × Int × Int × Int × Int × List (Int × Int × Unit) × List (Int × Int × Unit) × Unit) × Int × Unit) : Option (Bool × Unit) :=
  bif x.2.1.2.2.1 == 2 then bif decide (x.2.1.2.2.2.2.2.2.1 > x.2.2.1) then some (decide (x.2.1.2.2.2.2.2.1 ≤ x.2.2.1), ()) else some (false, ()) else bif x.2.1.2.2.1 == 1 then Option.bind (impl_Store_refreshHigh_S ((x.1.2.1.1, ()), (x.2.1.1,
  x.2.1.2.1, x.2.1.2.2.1, x.2.1.2.2.2.1, x.2.1.2.2.2.2.1, x.2.1.2.2.2.2.2.1, x.2.1.2.2.2.2.2.2.1, x.2.1.2.2.2.2.2.2.2.1, x.2.1.2.2.2.2.2.2.2.2.1, ()), ())) fun v => bif decide (v.1 ≤ x.2.2.1) then some (true, ()) else bif x.2.1.2.1 == 2 then
  some (decide (x.2.1.2.2.2.1 < x.2.2.1), ()) else some (false, ()) else some (false, ())

noncomputable def impl_Engine_unsafe_Ent : Ent := ⟨134, impl_Engine_unsafe_ti, impl_Engine_unsafe_to, impl_Engine_unsafe_S⟩

theorem impl_Engine_unsafe_HC : CfgOK Go.Proofs.Tryz.prog impl_Engine_unsafe_C := hc_of g_tisOK g_wide (all_cons impl_Store_refreshHigh_OK all_nil)

theorem impl_Engine_unsafe_OK : EntOK Go.Proofs.Tryz.prog impl_Engine_unsafe_Ent := ok_of impl_Engine_unsafe_HC Go.Proofs.Tryz.func134 0 (by kernel_rfl) (fun k hk => absurd hk (Nat.not_lt_zero k)) (by kernel_rfl) (by kernel_rfl) (fun x => by kernel_rfl)

/-! (impl.Engine).because -/

abbrev impl_Engine_because_I2 : Type := Int × List (Int × Int × Int × Int × Int × Int × Int × List (Int × Int × Unit) × List (Int × Int × Unit) × Unit) × Int × Bool × List (List (Int × Int × Int × Int × Int × Unit)) × List (Int × Int × Int × Int × Int × Int × Int × List (Int × Int
  × Unit) × List (Int × Int × Unit) × Unit) × List (Int × Int × Unit) × List (Int × Int × Unit) × Int × Unit

abbrev impl_Engine_because_V2 : Type := Int × Unit

abbrev impl_Engine_because_Q2 : Type := Int × Int × Int × Int × Int × Int × Int × List (Int × Int × Unit) × List (Int × Int × Unit) × Unit ⊕ Unit

noncomputable def impl_Engine_because_D2 (i : impl_Engine_because_I2) (v : impl_Engine_because_V2) (R : Type) (K : impl_Engine_because_V2 ⊕ impl_Engine_because_Q2 → Option R) : Option R :=
  bif decide (v.1 < i.2.2.1) then Option.bind (lAt i.2.1 v.1) fun v_1 => Option.bind (impl_Engine_unsafe_S ((i.2.2.2.1, (i.2.2.2.2.1, ()), i.2.2.2.2.2.1, i.2.2.2.2.2.2.1, i.2.2.2.2.2.2.2.1, i.2.2.2.2.2.2.2.2.1, ()), (v_1.1, v_1.2.1, v_1.2.2.1,
  v_1.2.2.2.1, v_1.2.2.2.2.1, v_1.2.2.2.2.2.1, v_1.2.2.2.2.2.2.1, v_1.2.2.2.2.2.2.2.1, v_1.2.2.2.2.2.2.2.2.1, ()), i.1, ())) fun v_2 => bif v_2.1 then K (Sum.inr (Sum.inl (v_1.1, v_1.2.1, v_1.2.2.1, v_1.2.2.2.1, v_1.2.2.2.2.1, v_1.2.2.2.2.2.1,
  v_1.2.2.2.2.2.2.1, v_1.2.2.2.2.2.2.2.1, v_1.2.2.2.2.2.2.2.2.1, ()))) else K (Sum.inl (IntKind.wrap IntKind.i64 (v.1 + 1), ())) else K (Sum.inr (Sum.inr ()))

theorem impl_Engine_because_D2_nat : NatD impl_Engine_because_D2 := fun i v R K => nat_bif (nat_bind fun _ => nat_bind fun _ => nat_bif (nat_some) (nat_some)) (nat_some)

def impl_Engine_because_T2 : Tmpl := ⟨(.junk (.slot Ty.i (.ptr 0 0 0 (jk 5 (.slot (Ty.slice (Ty.prod Ty.i (Ty.prod Ty.i (Ty.prod Ty.i (Ty.prod Ty.i (Ty.prod Ty.i (Ty.prod Ty.i (Ty.prod Ty.i (Ty.prod (Ty.slice
  YReadMark) (Ty.prod (Ty.slice YReadMark) Ty.unit)))))))))) (.slot Ty.i (.slot Ty.i (jk 10 .nil)))))))), (.cells 6 (.slot (Ty.bool) (.slot (Ty.slice (Ty.slice YVersion)) (.slot (Ty.slice (Ty.prod Ty.i (Ty.prod Ty.i (Ty.prod Ty.i (Ty.prod Ty.i (Ty.prod Ty.i (Ty.prod Ty.i (Ty.prod Ty.i (Ty.prod (Ty.slice
  YReadMark) (Ty.prod (Ty.slice YReadMark) Ty.unit)))))))))) (.slot (Ty.slice YReadMark) (.slot (Ty.slice YReadMark) (.slot Ty.i .nil)))))) .nil)⟩

def impl_Engine_because_X2_0 (i : impl_Engine_because_I2) (p : Int × Int × Int × Int × Int × Int × Int × List (Int × Int × Unit) × List (Int × Int × Unit) × Unit) : St := ⟨jn 4 (.n (p.1) :: jn 16 ([])), [some (Cont.cells 6 [[AV.pv Ty.bool i.2.2.2.1, AV.pv (Ty.slice (Ty.slice (Ty.prod Ty.i (Ty.prod Ty.i (Ty.prod Ty.i (Ty.prod Ty.i (Ty.prod (Ty.int
  IntKind.i64) Ty.unit))))))) i.2.2.2.2.1, AV.pv (Ty.slice (Ty.prod Ty.i (Ty.prod Ty.i (Ty.prod Ty.i (Ty.prod Ty.i (Ty.prod Ty.i (Ty.prod Ty.i
  (Ty.prod Ty.i (Ty.prod (Ty.slice YReadMark) (Ty.prod (Ty.slice YReadMark) Ty.unit))))))))))
  i.2.2.2.2.2.1, AV.pv (Ty.slice YReadMark) i.2.2.2.2.2.2.1, AV.pv (Ty.slice YReadMark) i.2.2.2.2.2.2.2.1, AV.pv (Ty.int
  IntKind.i64) i.2.2.2.2.2.2.2.2.1]]), some (Cont.cells 9 [[AV.pv Ty.i p.1, AV.pv Ty.i p.2.1, AV.pv Ty.i p.2.2.1, AV.pv Ty.i p.2.2.2.1, AV.pv Ty.i p.2.2.2.2.1,
  AV.pv Ty.i p.2.2.2.2.2.1, AV.pv Ty.i p.2.2.2.2.2.2.1, AV.pv (Ty.slice YReadMark) p.2.2.2.2.2.2.2.1, AV.pv (Ty.slice (Ty.prod Ty.i
  (Ty.prod Ty.i Ty.unit))) p.2.2.2.2.2.2.2.2.1]])]⟩

def impl_Engine_because_X2_1 (i : impl_Engine_because_I2) (p : Unit) : St := ⟨jn 21 ([]), [some (Cont.cells 6 [[AV.pv Ty.bool i.2.2.2.1, AV.pv (Ty.slice (Ty.slice (Ty.prod Ty.i (Ty.prod Ty.i (Ty.prod Ty.i (Ty.prod Ty.i (Ty.prod Ty.i
  Ty.unit))))))) i.2.2.2.2.1, AV.pv (Ty.slice (Ty.prod Ty.i (Ty.prod Ty.i (Ty.prod Ty.i (Ty.prod Ty.i (Ty.prod Ty.i (Ty.prod Ty.i (Ty.prod (Ty.int
  IntKind.i64) (Ty.prod (Ty.slice YReadMark) (Ty.prod (Ty.slice YReadMark) Ty.unit)))))))))) i.2.2.2.2.2.1, AV.pv (Ty.slice
  YReadMark) i.2.2.2.2.2.2.1, AV.pv (Ty.slice YReadMark) i.2.2.2.2.2.2.2.1, AV.pv Ty.i
  i.2.2.2.2.2.2.2.2.1]])]⟩

noncomputable def impl_Engine_because_E2 (i : impl_Engine_because_I2) (p : impl_Engine_because_Q2) (R : Type) (K : Ex → St → Option R) : Option R := sumC p (fun p => K (Ex.ret) (impl_Engine_because_X2_0 i p)) fun p => K (Ex.exit 0) (impl_Engine_because_X2_1 i p)

noncomputable def impl_Engine_because_K2 (i : impl_Engine_because_I2) (p : impl_Engine_because_Q2) : Ex × St := sumC p (fun p => (Ex.ret, impl_Engine_because_X2_0 i p)) fun p => (Ex.exit 0, impl_Engine_because_X2_1 i p)

def impl_Engine_because_M2 (i : impl_Engine_because_I2) (v : impl_Engine_because_V2) : den impl_Engine_because_T2.ty := (i.1, i.2.1, i.2.2.1, v.1, i.2.2.2.1, i.2.2.2.2.1, i.2.2.2.2.2.1, i.2.2.2.2.2.2.1, i.2.2.2.2.2.2.2.1, i.2.2.2.2.2.2.2.2.1, ())

def impl_Engine_because_P2 (x : den impl_Engine_because_T2.ty) : impl_Engine_because_I2 × impl_Engine_because_V2 := ((x.1, x.2.1, x.2.2.1, x.2.2.2.2.1, x.2.2.2.2.2.1, x.2.2.2.2.2.2.1, x.2.2.2.2.2.2.2.1, x.2.2.2.2.2.2.2.2.1, x.2.2.2.2.2.2.2.2.2.1, ()), (x.2.2.2.1, ()))

noncomputable def impl_Engine_because_C : Cfg := { ti := g_tis, ents := [impl_Engine_unsafe_Ent], ann := [(2, loopFn impl_Engine_because_T2 0 impl_Engine_because_P2 impl_Engine_because_D2 impl_Engine_because_E2)], lent := 0 }

def impl_Engine_because_ti : Tmpl := ⟨(.slot (Ty.prod Ty.bool (Ty.prod YStore (Ty.prod
  (Ty.slice (Ty.prod Ty.i (Ty.prod Ty.i (Ty.prod Ty.i (Ty.prod Ty.i (Ty.prod Ty.i (Ty.prod Ty.i (Ty.prod Ty.i (Ty.prod (Ty.slice
  YReadMark) (Ty.prod (Ty.slice YReadMark) Ty.unit)))))))))) (Ty.prod (Ty.slice (Ty.prod Ty.i (Ty.prod
  Ty.i Ty.unit))) (Ty.prod (Ty.slice YReadMark) (Ty.prod Ty.i Ty.unit)))))) (.slot Ty.i .nil)), .nil⟩

def impl_Engine_because_to : Tmpl := ⟨(.slot Ty.i .nil), .nil⟩

noncomputable def impl_Engine_because_S (x : (Bool × (List (List (Int × Int × Int × Int × Int × Unit)) × Unit) × List (Int × Int × Int × Int × Int × Int × Int × List (Int × Int × Unit) × List (Int × Int × Unit) × Unit) × List (Int × Int × Unit) × List (Int × Int × Unit) × Int × Unit) ×
  Int × Unit) : Option (Int × Unit) :=
  Option.bind (iter (fun v => impl_Engine_because_D2 (x.2.1, x.1.2.2.1, (↑(List.length x.1.2.2.1) : Int), x.1.1, x.1.2.1.1, x.1.2.2.1, x.1.2.2.2.1, x.1.2.2.2.2.1, x.1.2.2.2.2.2.1, ()) v _ some) (0, ())) fun p => sumC p (fun p => some
  (p.1, ())) fun p => some (0, ())

noncomputable def impl_Engine_because_Ent : Ent := ⟨111, impl_Engine_because_ti, impl_Engine_because_to, impl_Engine_because_S⟩

theorem impl_Engine_because_HC : CfgOK Go.Proofs.Tryz.prog impl_Engine_because_C := hc_of g_tisOK g_wide (all_cons impl_Engine_unsafe_OK all_nil)

theorem impl_Engine_because_lk2 : LkOK Go.Proofs.Tryz.prog impl_Engine_because_C (lpc Go.Proofs.Tryz.f111 0) :=
  lk_of impl_Engine_because_HC (m := 0) (T := impl_Engine_because_T2) (sp := impl_Engine_because_P2) (D := impl_Engine_because_D2) (E := impl_Engine_because_E2) (by kernel_rfl) (by kernel_rfl) (fun k hk => absurd hk (Nat.not_lt_zero k)) [4] impl_Engine_because_M2 (fun x => rfl) impl_Engine_because_D2_nat impl_Engine_because_K2 (fun i p R K => by rcases p with p | p <;> rfl) (fun i v => by kernel_rfl)

theorem impl_Engine_because_OK : EntOK Go.Proofs.Tryz.prog impl_Engine_because_Ent := ok_of impl_Engine_because_HC Go.Proofs.Tryz.func111 1 (by kernel_rfl) (fun k hk => match k, hk with | 0, _ => impl_Engine_because_lk2) (by kernel_rfl) (by kernel_rfl) (fun x => by kernel_rfl)

/-! (impl.Engine).safe -/

abbrev impl_Engine_safe_I2 : Type := Bool × List (List (Int × Int × Int × Int × Int × Unit)) × List (Int × Int × Int × Int × Int × Int × Int × List (Int × Int × Unit) × List (Int × Int × Unit) × Unit) × List (Int × Int × Unit) × List (Int × Int × Unit) × Int × Unit

abbrev impl_Engine_safe_V2 : Type := Int × Unit

abbrev impl_Engine_safe_Q2 : Type := Int × Unit ⊕ Unit

noncomputable def impl_Engine_safe_D2 (i : impl_Engine_safe_I2) (v : impl_Engine_safe_V2) (R : Type) (K : impl_Engine_safe_V2 ⊕ impl_Engine_safe_Q2 → Option R) : Option R :=
  bif decide (v.1 > 0) then Option.bind (impl_Engine_because_S ((i.1, (i.2.1, ()), i.2.2.1, i.2.2.2.1, i.2.2.2.2.1, i.2.2.2.2.2.1, ()), v.1, ())) fun v_1 => bif v_1.1 == 0 then K (Sum.inr (Sum.inl (v.1, ()))) else K (Sum.inl (IntKind.wrap
  IntKind.i64 (v.1 - 1), ())) else K (Sum.inr (Sum.inr ()))

theorem impl_Engine_safe_D2_nat : NatD impl_Engine_safe_D2 := fun i v R K => nat_bif (nat_bind fun _ => nat_bif (nat_some) (nat_some)) (nat_some)

def impl_Engine_safe_T2 : Tmpl := ⟨(.junk (.ptr 0 0 0 (.junk (.slot Ty.i (jk 11 .nil))))), (.cells 6 (.slot (Ty.bool) (.slot (Ty.slice (Ty.slice YVersion)) (.slot (Ty.slice (Ty.prod Ty.i (Ty.prod Ty.i (Ty.prod Ty.i (Ty.prod Ty.i (Ty.prod Ty.i (Ty.prod Ty.i (Ty.prod Ty.i (Ty.prod (Ty.slice
  YReadMark) (Ty.prod (Ty.slice YReadMark) Ty.unit)))))))))) (.slot (Ty.slice YReadMark) (.slot (Ty.slice YReadMark) (.slot Ty.i .nil)))))) .nil)⟩

def impl_Engine_safe_X2_0 (i : impl_Engine_safe_I2) (p : Int × Unit) : St := ⟨jn 2 (.n (p.1) :: jn 12 ([])), [some (Cont.cells 6 [[AV.pv Ty.bool i.1, AV.pv (Ty.slice (Ty.slice (Ty.prod Ty.i (Ty.prod Ty.i (Ty.prod Ty.i (Ty.prod Ty.i (Ty.prod (Ty.int
  IntKind.i64) Ty.unit))))))) i.2.1, AV.pv (Ty.slice (Ty.prod Ty.i (Ty.prod Ty.i (Ty.prod Ty.i (Ty.prod Ty.i (Ty.prod Ty.i (Ty.prod Ty.i (Ty.prod
  Ty.i (Ty.prod (Ty.slice YReadMark) (Ty.prod (Ty.slice YReadMark) Ty.unit)))))))))) i.2.2.1, AV.pv
  (Ty.slice YReadMark) i.2.2.2.1, AV.pv (Ty.slice YReadMark) i.2.2.2.2.1, AV.pv Ty.i i.2.2.2.2.2.1]])]⟩

def impl_Engine_safe_X2_1 (i : impl_Engine_safe_I2) (p : Unit) : St := ⟨jn 15 ([]), [some (Cont.cells 6 [[AV.pv Ty.bool i.1, AV.pv (Ty.slice (Ty.slice (Ty.prod Ty.i (Ty.prod Ty.i (Ty.prod Ty.i (Ty.prod Ty.i (Ty.prod Ty.i
  Ty.unit))))))) i.2.1, AV.pv (Ty.slice (Ty.prod Ty.i (Ty.prod Ty.i (Ty.prod Ty.i (Ty.prod Ty.i (Ty.prod Ty.i (Ty.prod Ty.i (Ty.prod (Ty.int
  IntKind.i64) (Ty.prod (Ty.slice YReadMark) (Ty.prod (Ty.slice YReadMark) Ty.unit)))))))))) i.2.2.1, AV.pv (Ty.slice
  YReadMark) i.2.2.2.1, AV.pv (Ty.slice YReadMark) i.2.2.2.2.1, AV.pv Ty.i i.2.2.2.2.2.1]])]⟩

noncomputable def impl_Engine_safe_E2 (i : impl_Engine_safe_I2) (p : impl_Engine_safe_Q2) (R : Type) (K : Ex → St → Option R) : Option R := sumC p (fun p => K (Ex.ret) (impl_Engine_safe_X2_0 i p)) fun p => K (Ex.exit 0) (impl_Engine_safe_X2_1 i p)

noncomputable def impl_Engine_safe_K2 (i : impl_Engine_safe_I2) (p : impl_Engine_safe_Q2) : Ex × St := sumC p (fun p => (Ex.ret, impl_Engine_safe_X2_0 i p)) fun p => (Ex.exit 0, impl_Engine_safe_X2_1 i p)

def impl_Engine_safe_M2 (i : impl_Engine_safe_I2) (v : impl_Engine_safe_V2) : den impl_Engine_safe_T2.ty := (v.1, i.1, i.2.1, i.2.2.1, i.2.2.2.1, i.2.2.2.2.1, i.2.2.2.2.2.1, ())

def impl_Engine_safe_P2 (x : den impl_Engine_safe_T2.ty) : impl_Engine_safe_I2 × impl_Engine_safe_V2 := ((x.2.1, x.2.2.1, x.2.2.2.1, x.2.2.2.2.1, x.2.2.2.2.2.1, x.2.2.2.2.2.2.1, ()), (x.1, ()))

noncomputable def impl_Engine_safe_C : Cfg := { ti := g_tis, ents := [impl_Engine_because_Ent], ann := [(2, loopFn impl_Engine_safe_T2 0 impl_Engine_safe_P2 impl_Engine_safe_D2 impl_Engine_safe_E2)], lent := 0 }

def impl_Engine_safe_ti : Tmpl := ⟨(.slot (Ty.prod Ty.bool (Ty.prod YStore (Ty.prod
  (Ty.slice (Ty.prod Ty.i (Ty.prod Ty.i (Ty.prod Ty.i (Ty.prod Ty.i (Ty.prod Ty.i (Ty.prod Ty.i (Ty.prod Ty.i (Ty.prod (Ty.slice
  YReadMark) (Ty.prod (Ty.slice YReadMark) Ty.unit)))))))))) (Ty.prod (Ty.slice (Ty.prod Ty.i (Ty.prod
  Ty.i Ty.unit))) (Ty.prod (Ty.slice YReadMark) (Ty.prod Ty.i Ty.unit)))))) .nil), .nil⟩

def impl_Engine_safe_to : Tmpl := ⟨(.slot Ty.i .nil), .nil⟩

noncomputable def impl_Engine_safe_S (x : (Bool × (List (List (Int × Int × Int × Int × Int × Unit)) × Unit) × List (Int × Int × Int × Int × Int × Int × Int × List (Int × Int × Unit) × List (Int × Int × Unit) × Unit) × List (Int × Int × Unit) × List (Int × Int × Unit) × Int × Unit) ×
  Unit) : Option (Int × Unit) :=
  Option.bind (iter (fun v => impl_Engine_safe_D2 (x.1.1, x.1.2.1.1, x.1.2.2.1, x.1.2.2.2.1, x.1.2.2.2.2.1, x.1.2.2.2.2.2.1, ()) v _ some) (x.1.2.2.2.2.2.1, ())) fun p => sumC p (fun p => some (p.1, ())) fun p => some (0, ())

noncomputable def impl_Engine_safe_Ent : Ent := ⟨73, impl_Engine_safe_ti, impl_Engine_safe_to, impl_Engine_safe_S⟩

theorem impl_Engine_safe_HC : CfgOK Go.Proofs.Tryz.prog impl_Engine_safe_C := hc_of g_tisOK g_wide (all_cons impl_Engine_because_OK all_nil)

theorem impl_Engine_safe_lk2 : LkOK Go.Proofs.Tryz.prog impl_Engine_safe_C (lpc Go.Proofs.Tryz.f73 0) :=
  lk_of impl_Engine_safe_HC (m := 0) (T := impl_Engine_safe_T2) (sp := impl_Engine_safe_P2) (D := impl_Engine_safe_D2) (E := impl_Engine_safe_E2) (by kernel_rfl) (by kernel_rfl) (fun k hk => absurd hk (Nat.not_lt_zero k)) [2] impl_Engine_safe_M2 (fun x => rfl) impl_Engine_safe_D2_nat impl_Engine_safe_K2 (fun i p R K => by rcases p with p | p <;> rfl) (fun i v => by kernel_rfl)

theorem impl_Engine_safe_OK : EntOK Go.Proofs.Tryz.prog impl_Engine_safe_Ent := ok_of impl_Engine_safe_HC Go.Proofs.Tryz.func73 1 (by kernel_rfl) (fun k hk => match k, hk with | 0, _ => impl_Engine_safe_lk2) (by kernel_rfl) (by kernel_rfl) (fun x => by kernel_rfl)

/-! (impl.Engine).watermark -/

abbrev impl_Engine_watermark_I3 : Type := List (Int × Int × Int × Int × Int × Int × Int × List (Int × Int × Unit) × List (Int × Int × Unit) × Unit) × Int × Unit

abbrev impl_Engine_watermark_V3 : Type := Int × Int × Unit

abbrev impl_Engine_watermark_Q3 : Type := Int × Unit

noncomputable def impl_Engine_watermark_D3 (i : impl_Engine_watermark_I3) (v : impl_Engine_watermark_V3) (R : Type) (K : impl_Engine_watermark_V3 ⊕ impl_Engine_watermark_Q3 → Option R) : Option R :=
  bif decide (v.2.1 < i.2.1) then Option.bind (lAt i.1 v.2.1) fun v_1 => bif v_1.2.2.1 == 1 then K (Sum.inl (mn v.1 v_1.2.2.2.1, IntKind.wrap IntKind.i64 (v.2.1 + 1), ())) else K (Sum.inl (v.1, IntKind.wrap IntKind.i64 (v.2.1 + 1), ())) else K
  (Sum.inr (v.1, ()))

theorem impl_Engine_watermark_D3_nat : NatD impl_Engine_watermark_D3 := fun i v R K => nat_bif (nat_bind fun _ => nat_bif (nat_some) (nat_some)) (nat_some)

def impl_Engine_watermark_T3 : Tmpl := ⟨(jk 3 (.slot Ty.i (jk 5 (.slot (Ty.slice (Ty.prod Ty.i (Ty.prod Ty.i (Ty.prod Ty.i (Ty.prod Ty.i (Ty.prod Ty.i (Ty.prod Ty.i (Ty.prod Ty.i (Ty.prod (Ty.slice
  YReadMark) (Ty.prod (Ty.slice YReadMark) Ty.unit)))))))))) (.slot Ty.i (.slot Ty.i (jk 12 .nil))))))), .nil⟩

def impl_Engine_watermark_X3_0 (i : impl_Engine_watermark_I3) (p : Int × Unit) : St := ⟨jn 3 (.n (p.1) :: jn 20 ([])), []⟩

noncomputable def impl_Engine_watermark_E3 (i : impl_Engine_watermark_I3) (p : impl_Engine_watermark_Q3) (R : Type) (K : Ex → St → Option R) : Option R := K (Ex.exit 0) (impl_Engine_watermark_X3_0 i p)

noncomputable def impl_Engine_watermark_K3 (i : impl_Engine_watermark_I3) (p : impl_Engine_watermark_Q3) : Ex × St := (Ex.exit 0, impl_Engine_watermark_X3_0 i p)

def impl_Engine_watermark_M3 (i : impl_Engine_watermark_I3) (v : impl_Engine_watermark_V3) : den impl_Engine_watermark_T3.ty := (v.1, i.1, i.2.1, v.2.1, ())

def impl_Engine_watermark_P3 (x : den impl_Engine_watermark_T3.ty) : impl_Engine_watermark_I3 × impl_Engine_watermark_V3 := ((x.2.1, x.2.2.1, ()), (x.1, x.2.2.2.1, ()))

noncomputable def impl_Engine_watermark_C : Cfg := { ti := g_tis, ents := [impl_Engine_safe_Ent], ann := [(3, loopFn impl_Engine_watermark_T3 0 impl_Engine_watermark_P3 impl_Engine_watermark_D3 impl_Engine_watermark_E3)], lent := 0 }

def impl_Engine_watermark_ti : Tmpl := ⟨(.slot (Ty.prod Ty.bool (Ty.prod YStore (Ty.prod
  (Ty.slice (Ty.prod Ty.i (Ty.prod Ty.i (Ty.prod Ty.i (Ty.prod Ty.i (Ty.prod Ty.i (Ty.prod Ty.i (Ty.prod Ty.i (Ty.prod (Ty.slice
  YReadMark) (Ty.prod (Ty.slice YReadMark) Ty.unit)))))))))) (Ty.prod (Ty.slice (Ty.prod Ty.i (Ty.prod
  Ty.i Ty.unit))) (Ty.prod (Ty.slice YReadMark) (Ty.prod Ty.i Ty.unit)))))) .nil), .nil⟩

def impl_Engine_watermark_to : Tmpl := ⟨(.slot Ty.i .nil), .nil⟩

noncomputable def impl_Engine_watermark_S (x : (Bool × (List (List (Int × Int × Int × Int × Int × Unit)) × Unit) × List (Int × Int × Int × Int × Int × Int × Int × List (Int × Int × Unit) × List (Int × Int × Unit) × Unit) × List (Int × Int × Unit) × List (Int × Int × Unit) × Int × Unit) ×
  Unit) : Option (Int × Unit) :=
  Option.bind (impl_Engine_safe_S ((x.1.1, (x.1.2.1.1, ()), x.1.2.2.1, x.1.2.2.2.1, x.1.2.2.2.2.1, x.1.2.2.2.2.2.1, ()), ())) fun v => Option.bind (iter (fun v => impl_Engine_watermark_D3 (x.1.2.2.1, (↑(List.length x.1.2.2.1) : Int), ()) v
  _ some) (v.1, 0, ())) fun p => some (p.1, ())

noncomputable def impl_Engine_watermark_Ent : Ent := ⟨24, impl_Engine_watermark_ti, impl_Engine_watermark_to, impl_Engine_watermark_S⟩

theorem impl_Engine_watermark_HC : CfgOK Go.Proofs.Tryz.prog impl_Engine_watermark_C := hc_of g_tisOK g_wide (all_cons impl_Engine_safe_OK all_nil)

theorem impl_Engine_watermark_lk3 : LkOK Go.Proofs.Tryz.prog impl_Engine_watermark_C (lpc Go.Proofs.Tryz.f24 0) :=
  lk_of impl_Engine_watermark_HC (m := 0) (T := impl_Engine_watermark_T3) (sp := impl_Engine_watermark_P3) (D := impl_Engine_watermark_D3) (E := impl_Engine_watermark_E3) (by kernel_rfl) (by kernel_rfl) (fun k hk => absurd hk (Nat.not_lt_zero k)) [3] impl_Engine_watermark_M3 (fun x => rfl) impl_Engine_watermark_D3_nat impl_Engine_watermark_K3 (fun i p R K => rfl) (fun i v => by kernel_rfl)

theorem impl_Engine_watermark_OK : EntOK Go.Proofs.Tryz.prog impl_Engine_watermark_Ent := ok_of impl_Engine_watermark_HC Go.Proofs.Tryz.func24 1 (by kernel_rfl) (fun k hk => match k, hk with | 0, _ => impl_Engine_watermark_lk3) (by kernel_rfl) (by kernel_rfl) (fun x => by kernel_rfl)

/-! slices.Index[[]impl.ReadMark,impl.ReadMark] -/

abbrev slices_Index_impl_ReadMark_I2 : Type := List (Int × Int × Unit) × Int × Int × Int × Unit

abbrev slices_Index_impl_ReadMark_V2 : Type := Int × Unit

abbrev slices_Index_impl_ReadMark_Q2 : Type := Int × Unit ⊕ Unit

noncomputable def slices_Index_impl_ReadMark_D2 (i : slices_Index_impl_ReadMark_I2) (v : slices_Index_impl_ReadMark_V2) (R : Type) (K : slices_Index_impl_ReadMark_V2 ⊕ slices_Index_impl_ReadMark_Q2 → Option R) : Option R :=
  bif decide (v.1 < i.2.1) then Option.bind (lAt i.1 v.1) fun v_1 => bif i.2.2.1 == v_1.1 && (i.2.2.2.1 == v_1.2.1 && true) then K (Sum.inr (Sum.inl (v.1, ()))) else K (Sum.inl (IntKind.wrap IntKind.i64 (v.1 + 1), ())) else K (Sum.inr (Sum.inr
  ()))

theorem slices_Index_impl_ReadMark_D2_nat : NatD slices_Index_impl_ReadMark_D2 := fun i v R K => nat_bif (nat_bind fun _ => nat_bif (nat_some) (nat_some)) (nat_some)

def slices_Index_impl_ReadMark_T2 : Tmpl := ⟨(.slot (Ty.slice YReadMark) (jk 2 (.ptr 0 0 0 (jk 3 (.slot Ty.i (.slot Ty.i (jk 10 .nil))))))), (.cells 2 (.slot Ty.i (.slot Ty.i .nil)) .nil)⟩

def slices_Index_impl_ReadMark_X2_0 (i : slices_Index_impl_ReadMark_I2) (p : Int × Unit) : St := ⟨jn 4 (.n (p.1) :: jn 14 ([])), [some (Cont.cells 2 [[AV.pv Ty.i i.2.2.1, AV.pv Ty.i i.2.2.2.1]])]⟩

def slices_Index_impl_ReadMark_X2_1 (i : slices_Index_impl_ReadMark_I2) (p : Unit) : St := ⟨jn 19 ([]), [some (Cont.cells 2 [[AV.pv Ty.i i.2.2.1, AV.pv Ty.i i.2.2.2.1]])]⟩

noncomputable def slices_Index_impl_ReadMark_E2 (i : slices_Index_impl_ReadMark_I2) (p : slices_Index_impl_ReadMark_Q2) (R : Type) (K : Ex → St → Option R) : Option R := sumC p (fun p => K (Ex.ret) (slices_Index_impl_ReadMark_X2_0 i p)) fun p => K (Ex.exit 0) (slices_Index_impl_ReadMark_X2_1 i p)

noncomputable def slices_Index_impl_ReadMark_K2 (i : slices_Index_impl_ReadMark_I2) (p : slices_Index_impl_ReadMark_Q2) : Ex × St := sumC p (fun p => (Ex.ret, slices_Index_impl_ReadMark_X2_0 i p)) fun p => (Ex.exit 0, slices_Index_impl_ReadMark_X2_1 i p)

def slices_Index_impl_ReadMark_M2 (i : slices_Index_impl_ReadMark_I2) (v : slices_Index_impl_ReadMark_V2) : den slices_Index_impl_ReadMark_T2.ty := (i.1, i.2.1, v.1, i.2.2.1, i.2.2.2.1, ())

def slices_Index_impl_ReadMark_P2 (x : den slices_Index_impl_ReadMark_T2.ty) : slices_Index_impl_ReadMark_I2 × slices_Index_impl_ReadMark_V2 := ((x.1, x.2.1, x.2.2.2.1, x.2.2.2.2.1, ()), (x.2.2.1, ()))

noncomputable def slices_Index_impl_ReadMark_C : Cfg := { ti := g_tis, ents := [], ann := [(2, loopFn slices_Index_impl_ReadMark_T2 0 slices_Index_impl_ReadMark_P2 slices_Index_impl_ReadMark_D2 slices_Index_impl_ReadMark_E2)], lent := 0 }

def slices_Index_impl_ReadMark_ti : Tmpl := ⟨(.slot (Ty.slice YReadMark) (.slot YReadMark .nil)), .nil⟩

def slices_Index_impl_ReadMark_to : Tmpl := ⟨(.slot Ty.i .nil), .nil⟩

noncomputable def slices_Index_impl_ReadMark_S (x : List (Int × Int × Unit) × (Int × Int × Unit) × Unit) : Option (Int × Unit) :=
  Option.bind (iter (fun v => slices_Index_impl_ReadMark_D2 (x.1, (↑(List.length x.1) : Int), x.2.1.1, x.2.1.2.1, ()) v _ some) (0, ())) fun p => sumC p (fun p => some (p.1, ())) fun p => some (-1, ())

noncomputable def slices_Index_impl_ReadMark_Ent : Ent := ⟨135, slices_Index_impl_ReadMark_ti, slices_Index_impl_ReadMark_to, slices_Index_impl_ReadMark_S⟩

theorem slices_Index_impl_ReadMark_HC : CfgOK Go.Proofs.Tryz.prog slices_Index_impl_ReadMark_C := hc_of g_tisOK g_wide all_nil

theorem slices_Index_impl_ReadMark_lk2 : LkOK Go.Proofs.Tryz.prog slices_Index_impl_ReadMark_C (lpc Go.Proofs.Tryz.f135 0) :=
  lk_of slices_Index_impl_ReadMark_HC (m := 0) (T := slices_Index_impl_ReadMark_T2) (sp := slices_Index_impl_ReadMark_P2) (D := slices_Index_impl_ReadMark_D2) (E := slices_Index_impl_ReadMark_E2) (by kernel_rfl) (by kernel_rfl) (fun k hk => absurd hk (Nat.not_lt_zero k)) [4] slices_Index_impl_ReadMark_M2 (fun x => rfl) slices_Index_impl_ReadMark_D2_nat slices_Index_impl_ReadMark_K2 (fun i p R K => by rcases p with p | p <;> rfl) (fun i v => by kernel_rfl)

theorem slices_Index_impl_ReadMark_OK : EntOK Go.Proofs.Tryz.prog slices_Index_impl_ReadMark_Ent := ok_of slices_Index_impl_ReadMark_HC Go.Proofs.Tryz.func135 1 (by kernel_rfl) (fun k hk => match k, hk with | 0, _ => slices_Index_impl_ReadMark_lk2) (by kernel_rfl) (by kernel_rfl) (fun x => by kernel_rfl)

/-! slices.Contains[[]impl.ReadMark,impl.ReadMark] -/

noncomputable def slices_Contains_impl_ReadMark_C : Cfg := { ti := g_tis, ents := [slices_Index_impl_ReadMark_Ent], ann := [], lent := 0 }

def slices_Contains_impl_ReadMark_ti : Tmpl := ⟨(.slot (Ty.slice YReadMark) (.slot YReadMark .nil)), .nil⟩

def slices_Contains_impl_ReadMark_to : Tmpl := ⟨(.slot (Ty.bool) .nil), .nil⟩

noncomputable def slices_Contains_impl_ReadMark_S (x : List (Int × Int × Unit) × (Int × Int × Unit) × Unit) : Option (Bool × Unit) :=
  Option.bind (slices_Index_impl_ReadMark_S (x.1, (x.2.1.1, x.2.1.2.1, ()), ())) fun v => some (decide (v.1 ≥ 0), ())

noncomputable def slices_Contains_impl_ReadMark_Ent : Ent := ⟨113, slices_Contains_impl_ReadMark_ti, slices_Contains_impl_ReadMark_to, slices_Contains_impl_ReadMark_S⟩

theorem slices_Contains_impl_ReadMark_HC : CfgOK Go.Proofs.Tryz.prog slices_Contains_impl_ReadMark_C := hc_of g_tisOK g_wide (all_cons slices_Index_impl_ReadMark_OK all_nil)

theorem slices_Contains_impl_ReadMark_OK : EntOK Go.Proofs.Tryz.prog slices_Contains_impl_ReadMark_Ent := ok_of slices_Contains_impl_ReadMark_HC Go.Proofs.Tryz.func113 0 (by kernel_rfl) (fun k hk => absurd hk (Nat.not_lt_zero k)) (by kernel_rfl) (by kernel_rfl) (fun x => by kernel_rfl)

/-! impl.HasRead -/

noncomputable def impl_HasRead_C : Cfg := { ti := g_tis, ents := [slices_Contains_impl_ReadMark_Ent], ann := [], lent := 0 }

def impl_HasRead_ti : Tmpl := ⟨(.slot (Ty.prod Ty.i (Ty.prod Ty.i (Ty.prod Ty.i (Ty.prod Ty.i (Ty.prod Ty.i (Ty.prod Ty.i (Ty.prod Ty.i (Ty.prod (Ty.slice (Ty.prod
  Ty.i (Ty.prod Ty.i Ty.unit))) (Ty.prod (Ty.slice YReadMark) Ty.unit))))))))) (.slot YReadMark .nil)), .nil⟩

def impl_HasRead_to : Tmpl := ⟨(.slot (Ty.bool) .nil), .nil⟩

noncomputable def impl_HasRead_S (x : (Int × Int × Int × Int × Int × Int × Int × List (Int × Int × Unit) × List (Int × Int × Unit) × Unit) × (Int × Int × Unit) × Unit) : Option (Bool × Unit) :=
  Option.bind (slices_Contains_impl_ReadMark_S (x.1.2.2.2.2.2.2.2.1, (x.2.1.1, x.2.1.2.1, ()), ())) fun v => some (v.1, ())

noncomputable def impl_HasRead_Ent : Ent := ⟨76, impl_HasRead_ti, impl_HasRead_to, impl_HasRead_S⟩

theorem impl_HasRead_HC : CfgOK Go.Proofs.Tryz.prog impl_HasRead_C := hc_of g_tisOK g_wide (all_cons slices_Contains_impl_ReadMark_OK all_nil)

theorem impl_HasRead_OK : EntOK Go.Proofs.Tryz.prog impl_HasRead_Ent := ok_of impl_HasRead_HC Go.Proofs.Tryz.func76 0 (by kernel_rfl) (fun k hk => absurd hk (Nat.not_lt_zero k)) (by kernel_rfl) (by kernel_rfl) (fun x => by kernel_rfl)

/-! (impl.Engine).collectable$1 -/

noncomputable def impl_Engine_collectable_1_C : Cfg := { ti := g_tis, ents := [impl_HasRead_Ent], ann := [], lent := 0 }

def impl_Engine_collectable_1_ti : Tmpl := ⟨(.slot (Ty.prod Ty.i (Ty.prod Ty.i (Ty.prod Ty.i (Ty.prod Ty.i (Ty.prod Ty.i (Ty.prod Ty.i (Ty.prod Ty.i (Ty.prod (Ty.slice (Ty.prod
  Ty.i (Ty.prod Ty.i Ty.unit))) (Ty.prod (Ty.slice YReadMark) Ty.unit))))))))) (.slot (Ty.iref Ty.i) (.slot (Ty.iref (Ty.slice YVersion)) (.slot (Ty.iref Ty.i) .nil)))), .nil⟩

def impl_Engine_collectable_1_to : Tmpl := ⟨(.slot (Ty.bool) .nil), .nil⟩

noncomputable def impl_Engine_collectable_1_S (x : (Int × Int × Int × Int × Int × Int × Int × List (Int × Int × Unit) × List (Int × Int × Unit) × Unit) × Option Int × Option (List (Int × Int × Int × Int × Int × Unit)) × Option Int × Unit) : Option (Bool × Unit) :=
  bif x.1.2.2.1 == 1 then Option.bind x.2.1 fun v => Option.bind x.2.2.1 fun v_1 => Option.bind x.2.2.2.1 fun v_2 => Option.bind (lAt v_1 v_2) fun v_3 => Option.bind (impl_HasRead_S ((x.1.1, x.1.2.1, x.1.2.2.1, x.1.2.2.2.1, x.1.2.2.2.2.1,
  x.1.2.2.2.2.2.1, x.1.2.2.2.2.2.2.1, x.1.2.2.2.2.2.2.2.1, x.1.2.2.2.2.2.2.2.2.1, ()), (v, v_3.2.2.1, ()), ())) fun v => some (v.1, ()) else some (false, ())

noncomputable def impl_Engine_collectable_1_Ent : Ent := ⟨75, impl_Engine_collectable_1_ti, impl_Engine_collectable_1_to, impl_Engine_collectable_1_S⟩

theorem impl_Engine_collectable_1_HC : CfgOK Go.Proofs.Tryz.prog impl_Engine_collectable_1_C := hc_of g_tisOK g_wide (all_cons impl_HasRead_OK all_nil)

theorem impl_Engine_collectable_1_OK : EntOK Go.Proofs.Tryz.prog impl_Engine_collectable_1_Ent := ok_of impl_Engine_collectable_1_HC Go.Proofs.Tryz.func75 0 (by kernel_rfl) (fun k hk => absurd hk (Nat.not_lt_zero k)) (by kernel_rfl) (by kernel_rfl) (fun x => by kernel_rfl)

/-! slices.IndexFunc[[]impl.Transaction,impl.Transaction] -/

abbrev slices_IndexFunc__impl_Engine_collectable_1_I2 : Type := List (Int × Int × Int × Int × Int × Int × Int × List (Int × Int × Unit) × List (Int × Int × Unit) × Unit) × (Option Int × Option (List (Int × Int × Int × Int × Int × Unit)) × Option Int × Unit) × Int × Unit

abbrev slices_IndexFunc__impl_Engine_collectable_1_V2 : Type := Int × Unit

abbrev slices_IndexFunc__impl_Engine_collectable_1_Q2 : Type := Int × Unit ⊕ Unit

noncomputable def slices_IndexFunc__impl_Engine_collectable_1_D2 (i : slices_IndexFunc__impl_Engine_collectable_1_I2) (v : slices_IndexFunc__impl_Engine_collectable_1_V2) (R : Type) (K : slices_IndexFunc__impl_Engine_collectable_1_V2 ⊕ slices_IndexFunc__impl_Engine_collectable_1_Q2 → Option R) : Option R :=
  bif decide (v.1 < i.2.2.1) then Option.bind (lAt i.1 v.1) fun v_1 => Option.bind (impl_Engine_collectable_1_S ((v_1.1, v_1.2.1, v_1.2.2.1, v_1.2.2.2.1, v_1.2.2.2.2.1, v_1.2.2.2.2.2.1, v_1.2.2.2.2.2.2.1, v_1.2.2.2.2.2.2.2.1,
  v_1.2.2.2.2.2.2.2.2.1, ()), i.2.1.1, i.2.1.2.1, i.2.1.2.2.1, ())) fun v_2 => bif v_2.1 then K (Sum.inr (Sum.inl (v.1, ()))) else K (Sum.inl (IntKind.wrap IntKind.i64 (v.1 + 1), ())) else K (Sum.inr (Sum.inr ()))

theorem slices_IndexFunc__impl_Engine_collectable_1_D2_nat : NatD slices_IndexFunc__impl_Engine_collectable_1_D2 := fun i v R K => nat_bif (nat_bind fun _ => nat_bind fun _ => nat_bif (nat_some) (nat_some)) (nat_some)

def slices_IndexFunc__impl_Engine_collectable_1_T2 : Tmpl := ⟨(.slot (Ty.slice (Ty.prod Ty.i (Ty.prod Ty.i (Ty.prod Ty.i (Ty.prod Ty.i (Ty.prod Ty.i (Ty.prod Ty.i (Ty.prod Ty.i (Ty.prod (Ty.slice
  YReadMark) (Ty.prod (Ty.slice YReadMark) Ty.unit)))))))))) (.slot (Ty.fn 75 (Ty.prod (Ty.iref Ty.i) (Ty.prod (Ty.iref (Ty.slice YVersion))
  (Ty.prod (Ty.iref Ty.i) Ty.unit)))) (jk 5 (.slot Ty.i (.slot Ty.i (jk 10 .nil)))))), .nil⟩

def slices_IndexFunc__impl_Engine_collectable_1_X2_0 (i : slices_IndexFunc__impl_Engine_collectable_1_I2) (p : Int × Unit) : St := ⟨jn 4 (.n (p.1) :: jn 14 ([])), []⟩

def slices_IndexFunc__impl_Engine_collectable_1_X2_1 (i : slices_IndexFunc__impl_Engine_collectable_1_I2) (p : Unit) : St := ⟨jn 19 ([]), []⟩

noncomputable def slices_IndexFunc__impl_Engine_collectable_1_E2 (i : slices_IndexFunc__impl_Engine_collectable_1_I2) (p : slices_IndexFunc__impl_Engine_collectable_1_Q2) (R : Type) (K : Ex → St → Option R) : Option R := sumC p (fun p => K (Ex.ret) (slices_IndexFunc__impl_Engine_collectable_1_X2_0 i p)) fun p => K (Ex.exit 0) (slices_IndexFunc__impl_Engine_collectable_1_X2_1 i p)

noncomputable def slices_IndexFunc__impl_Engine_collectable_1_K2 (i : slices_IndexFunc__impl_Engine_collectable_1_I2) (p : slices_IndexFunc__impl_Engine_collectable_1_Q2) : Ex × St := sumC p (fun p => (Ex.ret, slices_IndexFunc__impl_Engine_collectable_1_X2_0 i p)) fun p => (Ex.exit 0, slices_IndexFunc__impl_Engine_collectable_1_X2_1 i p)

def slices_IndexFunc__impl_Engine_collectable_1_M2 (i : slices_IndexFunc__impl_Engine_collectable_1_I2) (v : slices_IndexFunc__impl_Engine_collectable_1_V2) : den slices_IndexFunc__impl_Engine_collectable_1_T2.ty := (i.1, i.2.1, i.2.2.1, v.1, ())

def slices_IndexFunc__impl_Engine_collectable_1_P2 (x : den slices_IndexFunc__impl_Engine_collectable_1_T2.ty) : slices_IndexFunc__impl_Engine_collectable_1_I2 × slices_IndexFunc__impl_Engine_collectable_1_V2 := ((x.1, x.2.1, x.2.2.1, ()), (x.2.2.2.1, ()))

noncomputable def slices_IndexFunc__impl_Engine_collectable_1_C : Cfg := { ti := g_tis, ents := [impl_Engine_collectable_1_Ent], ann := [(2, loopFn slices_IndexFunc__impl_Engine_collectable_1_T2 0 slices_IndexFunc__impl_Engine_collectable_1_P2 slices_IndexFunc__impl_Engine_collectable_1_D2 slices_IndexFunc__impl_Engine_collectable_1_E2)], lent := 0 }

def slices_IndexFunc__impl_Engine_collectable_1_ti : Tmpl := ⟨(.slot (Ty.slice (Ty.prod Ty.i (Ty.prod Ty.i (Ty.prod Ty.i (Ty.prod Ty.i (Ty.prod Ty.i (Ty.prod Ty.i (Ty.prod Ty.i (Ty.prod (Ty.slice
  YReadMark) (Ty.prod (Ty.slice YReadMark) Ty.unit)))))))))) (.slot (Ty.fn 75 (Ty.prod (Ty.iref Ty.i) (Ty.prod (Ty.iref (Ty.slice YVersion))
  (Ty.prod (Ty.iref Ty.i) Ty.unit)))) .nil)), .nil⟩

def slices_IndexFunc__impl_Engine_collectable_1_to : Tmpl := ⟨(.slot Ty.i .nil), .nil⟩

noncomputable def slices_IndexFunc__impl_Engine_collectable_1_S (x : List (Int × Int × Int × Int × Int × Int × Int × List (Int × Int × Unit) × List (Int × Int × Unit) × Unit) × (Option Int × Option (List (Int × Int × Int × Int × Int × Unit)) × Option Int × Unit) × Unit) : Option (Int × Unit) :=
  Option.bind (iter (fun v => slices_IndexFunc__impl_Engine_collectable_1_D2 (x.1, x.2.1, (↑(List.length x.1) : Int), ()) v _ some) (0, ())) fun p => sumC p (fun p => some (p.1, ())) fun p => some (-1, ())

noncomputable def slices_IndexFunc__impl_Engine_collectable_1_Ent : Ent := ⟨112, slices_IndexFunc__impl_Engine_collectable_1_ti, slices_IndexFunc__impl_Engine_collectable_1_to, slices_IndexFunc__impl_Engine_collectable_1_S⟩

theorem slices_IndexFunc__impl_Engine_collectable_1_HC : CfgOK Go.Proofs.Tryz.prog slices_IndexFunc__impl_Engine_collectable_1_C := hc_of g_tisOK g_wide (all_cons impl_Engine_collectable_1_OK all_nil)

theorem slices_IndexFunc__impl_Engine_collectable_1_lk2 : LkOK Go.Proofs.Tryz.prog slices_IndexFunc__impl_Engine_collectable_1_C (lpc Go.Proofs.Tryz.f112 0) :=
  lk_of slices_IndexFunc__impl_Engine_collectable_1_HC (m := 0) (T := slices_IndexFunc__impl_Engine_collectable_1_T2) (sp := slices_IndexFunc__impl_Engine_collectable_1_P2) (D := slices_IndexFunc__impl_Engine_collectable_1_D2) (E := slices_IndexFunc__impl_Engine_collectable_1_E2) (by kernel_rfl) (by kernel_rfl) (fun k hk => absurd hk (Nat.not_lt_zero k)) [4] slices_IndexFunc__impl_Engine_collectable_1_M2 (fun x => rfl) slices_IndexFunc__impl_Engine_collectable_1_D2_nat slices_IndexFunc__impl_Engine_collectable_1_K2 (fun i p R K => by rcases p with p | p <;> rfl) (fun i v => by kernel_rfl)

theorem slices_IndexFunc__impl_Engine_collectable_1_OK : EntOK Go.Proofs.Tryz.prog slices_IndexFunc__impl_Engine_collectable_1_Ent := ok_of slices_IndexFunc__impl_Engine_collectable_1_HC Go.Proofs.Tryz.func112 1 (by kernel_rfl) (fun k hk => match k, hk with | 0, _ => slices_IndexFunc__impl_Engine_collectable_1_lk2) (by kernel_rfl) (by kernel_rfl) (fun x => by kernel_rfl)

/-! slices.ContainsFunc[[]impl.Transaction,impl.Transaction] -/

noncomputable def slices_ContainsFunc__impl_Engine_collectable_1_C : Cfg := { ti := g_tis, ents := [slices_IndexFunc__impl_Engine_collectable_1_Ent], ann := [], lent := 0 }

def slices_ContainsFunc__impl_Engine_collectable_1_ti : Tmpl := ⟨(.slot (Ty.slice (Ty.prod Ty.i (Ty.prod Ty.i (Ty.prod Ty.i (Ty.prod Ty.i (Ty.prod Ty.i (Ty.prod Ty.i (Ty.prod Ty.i (Ty.prod (Ty.slice
  YReadMark) (Ty.prod (Ty.slice YReadMark) Ty.unit)))))))))) (.slot (Ty.fn 75 (Ty.prod (Ty.iref Ty.i) (Ty.prod (Ty.iref (Ty.slice YVersion))
  (Ty.prod (Ty.iref Ty.i) Ty.unit)))) .nil)), .nil⟩

def slices_ContainsFunc__impl_Engine_collectable_1_to : Tmpl := ⟨(.slot (Ty.bool) .nil), .nil⟩

noncomputable def slices_ContainsFunc__impl_Engine_collectable_1_S (x : List (Int × Int × Int × Int × Int × Int × Int × List (Int × Int × Unit) × List (Int × Int × Unit) × Unit) × (Option Int × Option (List (Int × Int × Int × Int × Int × Unit)) × Option Int × Unit) × Unit) : Option (Bool × Unit) :=
  Option.bind (slices_IndexFunc__impl_Engine_collectable_1_S (x.1, x.2.1, ())) fun v => some (decide (v.1 ≥ 0), ())

noncomputable def slices_ContainsFunc__impl_Engine_collectable_1_Ent : Ent := ⟨74, slices_ContainsFunc__impl_Engine_collectable_1_ti, slices_ContainsFunc__impl_Engine_collectable_1_to, slices_ContainsFunc__impl_Engine_collectable_1_S⟩

theorem slices_ContainsFunc__impl_Engine_collectable_1_HC : CfgOK Go.Proofs.Tryz.prog slices_ContainsFunc__impl_Engine_collectable_1_C := hc_of g_tisOK g_wide (all_cons slices_IndexFunc__impl_Engine_collectable_1_OK all_nil)

theorem slices_ContainsFunc__impl_Engine_collectable_1_OK : EntOK Go.Proofs.Tryz.prog slices_ContainsFunc__impl_Engine_collectable_1_Ent := ok_of slices_ContainsFunc__impl_Engine_collectable_1_HC Go.Proofs.Tryz.func74 0 (by kernel_rfl) (fun k hk => absurd hk (Nat.not_lt_zero k)) (by kernel_rfl) (by kernel_rfl) (fun x => by kernel_rfl)

/-! (impl.Engine).collectable -/

noncomputable def impl_Engine_collectable_C : Cfg := { ti := g_tis, ents := [slices_ContainsFunc__impl_Engine_collectable_1_Ent], ann := [], lent := 0 }

def impl_Engine_collectable_ti : Tmpl := ⟨(.slot (Ty.prod Ty.bool (Ty.prod YStore (Ty.prod
  (Ty.slice (Ty.prod Ty.i (Ty.prod Ty.i (Ty.prod Ty.i (Ty.prod Ty.i (Ty.prod Ty.i (Ty.prod Ty.i (Ty.prod Ty.i (Ty.prod (Ty.slice
  YReadMark) (Ty.prod (Ty.slice YReadMark) Ty.unit)))))))))) (Ty.prod (Ty.slice (Ty.prod Ty.i (Ty.prod
  Ty.i Ty.unit))) (Ty.prod (Ty.slice YReadMark) (Ty.prod Ty.i Ty.unit)))))) (.slot Ty.i (.slot Ty.i (.slot Ty.i .nil)))), .nil⟩

def impl_Engine_collectable_to : Tmpl := ⟨(.slot (Ty.bool) .nil), .nil⟩

noncomputable def impl_Engine_collectable_S (x : (Bool × (List (List (Int × Int × Int × Int × Int × Unit)) × Unit) × List (Int × Int × Int × Int × Int × Int × Int × List (Int × Int × Unit) × List (Int × Int × Unit) × Unit) × List (Int × Int × Unit) × List (Int × Int × Unit) × Int × Unit) ×
  Int × Int × Int × Unit) : Option (Bool × Unit) :=
  Option.bind (lAt x.1.2.1.1 x.2.1) fun v => bif decide (IntKind.wrap IntKind.i64 (x.2.2.1 + 1) ≥ (↑(List.length v) : Int)) then some (false, ()) else Option.bind (lAt v (IntKind.wrap IntKind.i64 (x.2.2.1 + 1))) fun v_1 => bif decide
  (v_1.2.2.1 > x.2.2.2.1) then some (false, ()) else Option.bind (slices_ContainsFunc__impl_Engine_collectable_1_S (x.1.2.2.1, (some x.2.1, some v, some x.2.2.1, ()), ())) fun v => some (!v.1, ())

noncomputable def impl_Engine_collectable_Ent : Ent := ⟨25, impl_Engine_collectable_ti, impl_Engine_collectable_to, impl_Engine_collectable_S⟩

theorem impl_Engine_collectable_HC : CfgOK Go.Proofs.Tryz.prog impl_Engine_collectable_C := hc_of g_tisOK g_wide (all_cons slices_ContainsFunc__impl_Engine_collectable_1_OK all_nil)

theorem impl_Engine_collectable_OK : EntOK Go.Proofs.Tryz.prog impl_Engine_collectable_Ent := ok_of impl_Engine_collectable_HC Go.Proofs.Tryz.func25 0 (by kernel_rfl) (fun k hk => absurd hk (Nat.not_lt_zero k)) (by kernel_rfl) (by kernel_rfl) (fun x => by kernel_rfl)

/-! impl.CollectVersions -/

abbrev impl_CollectVersions_I10 : Type := Int × Int × List (List (Int × Int × Int × Int × Int × Unit)) × Int × Int × List (Int × Int × Int × Int × Int × Unit) × Int × Bool × List (List (Int × Int × Int × Int × Int × Unit)) × List (Int × Int × Int × Int × Int × Int × Int × List (Int
  × Int × Unit) × List (Int × Int × Unit) × Unit) × List (Int × Int × Unit) × List (Int × Int × Unit) × Int × Bool × Int × Bool × Int × List (List (Int × Int × Int × Int × Int × Unit)) × List (Int × Int × Int × Int × Int × Int × Int × List
  (Int × Int × Unit) × List (Int × Int × Unit) × Unit) × List (Int × Int × Unit) × List (Int × Int × Unit) × Unit

abbrev impl_CollectVersions_V10 : Type := Int × Int × List (Int × Int × Int × Int × Int × Unit) × Unit

abbrev impl_CollectVersions_Q10 : Type := Int × List (Int × Int × Int × Int × Int × Unit) × Unit

noncomputable def impl_CollectVersions_D10 (i : impl_CollectVersions_I10) (v : impl_CollectVersions_V10) (R : Type) (K : impl_CollectVersions_V10 ⊕ impl_CollectVersions_Q10 → Option R) : Option R :=
  bif decide (v.2.1 < i.2.2.2.2.2.2.1) then Option.bind (lAt i.2.2.2.2.2.1 v.2.1) fun v_1 => Option.bind (impl_Engine_collectable_S ((i.2.2.2.2.2.2.2.1, (i.2.2.2.2.2.2.2.2.1, ()), i.2.2.2.2.2.2.2.2.2.1, i.2.2.2.2.2.2.2.2.2.2.1,
  i.2.2.2.2.2.2.2.2.2.2.2.1, i.2.2.2.2.2.2.2.2.2.2.2.2.1, ()), i.2.1, v.2.1, i.1, ())) fun v_2 => bif v_2.1 then K (Sum.inl (IntKind.wrap IntKind.i64 (v.1 + 1), IntKind.wrap IntKind.i64 (v.2.1 + 1), v.2.2.1, ())) else if List.length (v.2.2.1
  ++ [(v_1.1, v_1.2.1, v_1.2.2.1, v_1.2.2.2.1, v_1.2.2.2.2.1, ())]) ≤ 879609302220 then K (Sum.inl (v.1, IntKind.wrap IntKind.i64 (v.2.1 + 1), v.2.2.1 ++ [(v_1.1, v_1.2.1, v_1.2.2.1, v_1.2.2.2.1, v_1.2.2.2.2.1, ())], ())) else none else K
  (Sum.inr (v.1, v.2.2.1, ()))

theorem impl_CollectVersions_D10_nat : NatD impl_CollectVersions_D10 := fun i v R K => nat_bif (nat_bind fun _ => nat_bind fun _ => nat_bif (nat_some) (nat_ite (nat_some))) (nat_some)

def impl_CollectVersions_T10 : Tmpl := ⟨(.junk (.ptr 0 0 0 (.ptr 1 0 0 (.junk (.ptr 2 0 0 (.slot Ty.i (.slot Ty.i (.slot Ty.i (.junk (.own 7 (jk 12 (.slot (Ty.slice (Ty.slice YVersion)) (.slot Ty.i (.slot Ty.i (jk 5 (.slot (Ty.slice YVersion) (.slot Ty.i (.slot Ty.i (jk 25 .nil))))))))))))))))))), (.cells 6 (.slot (Ty.bool) (.slot (Ty.slice (Ty.slice YVersion)) (.slot (Ty.slice (Ty.prod Ty.i (Ty.prod Ty.i (Ty.prod Ty.i (Ty.prod Ty.i (Ty.prod Ty.i (Ty.prod Ty.i (Ty.prod Ty.i (Ty.prod (Ty.slice
  YReadMark) (Ty.prod (Ty.slice YReadMark) Ty.unit)))))))))) (.slot (Ty.slice YReadMark) (.slot (Ty.slice YReadMark) (.slot Ty.i .nil)))))) (.cells 6 (.slot (Ty.bool) (.const (AV.nils) (.const (AV.nils) (.const (AV.nils) (.const (AV.nils) (.slot Ty.i .nil)))))) (.cells 6 (.slot (Ty.bool) (.own 3 (.own 4 (.own 5 (.own 6 (.slot Ty.i .nil)))))) (.tree false 1 (Ty.slice YVersion) (.tree false 0 (Ty.prod Ty.i (Ty.prod Ty.i (Ty.prod Ty.i (Ty.prod Ty.i (Ty.prod Ty.i (Ty.prod Ty.i (Ty.prod Ty.i (Ty.prod (Ty.slice (Ty.prod
  Ty.i (Ty.prod Ty.i Ty.unit))) (Ty.prod (Ty.slice YReadMark) Ty.unit))))))))) (.lst false YReadMark (.lst false YReadMark (.lst false YVersion .nil))))))))⟩

def impl_CollectVersions_X10_0 (i : impl_CollectVersions_I10) (p : Int × List (Int × Int × Int × Int × Int × Unit) × Unit) : St := ⟨jn 1 (AV.ptr 0 none 0 0 :: AV.ptr 1 none 0 0 :: jn 1 (AV.ptr 2 none 0 0 :: .n (p.1) :: .n (i.1) :: .n (i.2.1) :: jn 1 (AV.own 7 none none :: jn 12 (AV.pv (Ty.slice (Ty.slice (Ty.prod Ty.i (Ty.prod Ty.i
  (Ty.prod Ty.i YReadMark))))) i.2.2.1 :: .n (i.2.2.2.1) :: .n (i.2.2.2.2.1) :: jn 33 ([]))))), [some (Cont.cells 6 [[AV.pv Ty.bool i.2.2.2.2.2.2.2.1, AV.pv (Ty.slice
  (Ty.slice YVersion)) i.2.2.2.2.2.2.2.2.1, AV.pv (Ty.slice (Ty.prod Ty.i
  (Ty.prod Ty.i (Ty.prod Ty.i (Ty.prod Ty.i (Ty.prod Ty.i (Ty.prod Ty.i (Ty.prod Ty.i (Ty.prod (Ty.slice (Ty.prod Ty.i (Ty.prod
  Ty.i Ty.unit))) (Ty.prod (Ty.slice YReadMark) Ty.unit)))))))))) i.2.2.2.2.2.2.2.2.2.1, AV.pv (Ty.slice (Ty.prod Ty.i (Ty.prod Ty.i
  Ty.unit))) i.2.2.2.2.2.2.2.2.2.2.1, AV.pv (Ty.slice YReadMark) i.2.2.2.2.2.2.2.2.2.2.2.1, AV.pv Ty.i i.2.2.2.2.2.2.2.2.2.2.2.2.1]]), some (Cont.cells 6 [[AV.pv
  Ty.bool i.2.2.2.2.2.2.2.2.2.2.2.2.2.1, AV.nils, AV.nils, AV.nils, AV.nils, AV.pv Ty.i i.2.2.2.2.2.2.2.2.2.2.2.2.2.2.1]]), some (Cont.cells 6 [[AV.pv Ty.bool i.2.2.2.2.2.2.2.2.2.2.2.2.2.2.2.1, AV.own 3 none none, AV.own 4 none
  none, AV.own 5 none none, AV.own 6 none none, AV.pv Ty.i i.2.2.2.2.2.2.2.2.2.2.2.2.2.2.2.2.1]]), some (Cont.tree false 1 (Ty.slice (Ty.prod Ty.i (Ty.prod Ty.i (Ty.prod Ty.i
  YReadMark)))) i.2.2.2.2.2.2.2.2.2.2.2.2.2.2.2.2.2.1 none), some (Cont.tree false 0 (Ty.prod Ty.i (Ty.prod Ty.i (Ty.prod Ty.i (Ty.prod
  Ty.i (Ty.prod Ty.i (Ty.prod Ty.i (Ty.prod Ty.i (Ty.prod (Ty.slice YReadMark) (Ty.prod (Ty.slice (Ty.prod (Ty.int
  IntKind.i64) (Ty.prod Ty.i Ty.unit))) Ty.unit))))))))) i.2.2.2.2.2.2.2.2.2.2.2.2.2.2.2.2.2.2.1 none), some (Cont.lst false YReadMark
  i.2.2.2.2.2.2.2.2.2.2.2.2.2.2.2.2.2.2.2.1), some (Cont.lst false YReadMark i.2.2.2.2.2.2.2.2.2.2.2.2.2.2.2.2.2.2.2.2.1), some (Cont.lst false (Ty.prod Ty.i (Ty.prod
  Ty.i (Ty.prod Ty.i YReadMark))) p.2.1)]⟩

noncomputable def impl_CollectVersions_E10 (i : impl_CollectVersions_I10) (p : impl_CollectVersions_Q10) (R : Type) (K : Ex → St → Option R) : Option R := K (Ex.exit 2) (impl_CollectVersions_X10_0 i p)

noncomputable def impl_CollectVersions_K10 (i : impl_CollectVersions_I10) (p : impl_CollectVersions_Q10) : Ex × St := (Ex.exit 2, impl_CollectVersions_X10_0 i p)

def impl_CollectVersions_M10 (i : impl_CollectVersions_I10) (v : impl_CollectVersions_V10) : den impl_CollectVersions_T10.ty := (v.1, i.1, i.2.1, i.2.2.1, i.2.2.2.1, i.2.2.2.2.1, i.2.2.2.2.2.1, i.2.2.2.2.2.2.1, v.2.1, i.2.2.2.2.2.2.2.1, i.2.2.2.2.2.2.2.2.1, i.2.2.2.2.2.2.2.2.2.1, i.2.2.2.2.2.2.2.2.2.2.1, i.2.2.2.2.2.2.2.2.2.2.2.1, i.2.2.2.2.2.2.2.2.2.2.2.2.1, i.2.2.2.2.2.2.2.2.2.2.2.2.2.1, i.2.2.2.2.2.2.2.2.2.2.2.2.2.2.1, i.2.2.2.2.2.2.2.2.2.2.2.2.2.2.2.1, i.2.2.2.2.2.2.2.2.2.2.2.2.2.2.2.2.1, i.2.2.2.2.2.2.2.2.2.2.2.2.2.2.2.2.2.1, i.2.2.2.2.2.2.2.2.2.2.2.2.2.2.2.2.2.2.1, i.2.2.2.2.2.2.2.2.2.2.2.2.2.2.2.2.2.2.2.1, i.2.2.2.2.2.2.2.2.2.2.2.2.2.2.2.2.2.2.2.2.1, v.2.2.1, ())

def impl_CollectVersions_P10 (x : den impl_CollectVersions_T10.ty) : impl_CollectVersions_I10 × impl_CollectVersions_V10 := ((x.2.1, x.2.2.1, x.2.2.2.1, x.2.2.2.2.1, x.2.2.2.2.2.1, x.2.2.2.2.2.2.1, x.2.2.2.2.2.2.2.1, x.2.2.2.2.2.2.2.2.2.1, x.2.2.2.2.2.2.2.2.2.2.1, x.2.2.2.2.2.2.2.2.2.2.2.1, x.2.2.2.2.2.2.2.2.2.2.2.2.1, x.2.2.2.2.2.2.2.2.2.2.2.2.2.1, x.2.2.2.2.2.2.2.2.2.2.2.2.2.2.1, x.2.2.2.2.2.2.2.2.2.2.2.2.2.2.2.1, x.2.2.2.2.2.2.2.2.2.2.2.2.2.2.2.2.1, x.2.2.2.2.2.2.2.2.2.2.2.2.2.2.2.2.2.1, x.2.2.2.2.2.2.2.2.2.2.2.2.2.2.2.2.2.2.1, x.2.2.2.2.2.2.2.2.2.2.2.2.2.2.2.2.2.2.2.1, x.2.2.2.2.2.2.2.2.2.2.2.2.2.2.2.2.2.2.2.2.1, x.2.2.2.2.2.2.2.2.2.2.2.2.2.2.2.2.2.2.2.2.2.1, x.2.2.2.2.2.2.2.2.2.2.2.2.2.2.2.2.2.2.2.2.2.2.1, ()), (x.1, x.2.2.2.2.2.2.2.2.1, x.2.2.2.2.2.2.2.2.2.2.2.2.2.2.2.2.2.2.2.2.2.2.2.1, ()))

abbrev impl_CollectVersions_I6 : Type := Int × List (List (Int × Int × Int × Int × Int × Unit)) × Int × Bool × List (List (Int × Int × Int × Int × Int × Unit)) × List (Int × Int × Int × Int × Int × Int × Int × List (Int × Int × Unit) × List (Int × Int × Unit) × Unit) × List (Int ×
  Int × Unit) × List (Int × Int × Unit) × Int × Bool × Int × Bool × Int × List (Int × Int × Int × Int × Int × Int × Int × List (Int × Int × Unit) × List (Int × Int × Unit) × Unit) × List (Int × Int × Unit) × List (Int × Int × Unit) × Unit

abbrev impl_CollectVersions_V6 : Type := Int × Int × List (List (Int × Int × Int × Int × Int × Unit)) × Unit

abbrev impl_CollectVersions_Q6 : Type := Int × List (List (Int × Int × Int × Int × Int × Unit)) × Unit

noncomputable def impl_CollectVersions_D6 (i : impl_CollectVersions_I6) (v : impl_CollectVersions_V6) (R : Type) (K : impl_CollectVersions_V6 ⊕ impl_CollectVersions_Q6 → Option R) : Option R :=
  bif decide (v.2.1 < i.2.2.1) then Option.bind (lAt i.2.1 v.2.1) fun v_1 => Option.bind (iter (fun v_2 => impl_CollectVersions_D10 (i.1, v.2.1, i.2.1, i.2.2.1, v.2.1, v_1, (↑(List.length v_1) : Int), i.2.2.2.1, i.2.2.2.2.1, i.2.2.2.2.2.1,
  i.2.2.2.2.2.2.1, i.2.2.2.2.2.2.2.1, i.2.2.2.2.2.2.2.2.1, i.2.2.2.2.2.2.2.2.2.1, i.2.2.2.2.2.2.2.2.2.2.1, i.2.2.2.2.2.2.2.2.2.2.2.1, i.2.2.2.2.2.2.2.2.2.2.2.2.1, v.2.2.1, i.2.2.2.2.2.2.2.2.2.2.2.2.2.1, i.2.2.2.2.2.2.2.2.2.2.2.2.2.2.1,
  i.2.2.2.2.2.2.2.2.2.2.2.2.2.2.2.1, ()) v_2 _ some) (v.1, 0, [], ())) fun p => if 0 ≤ v.2.1 ∧ v.2.1 < (↑(List.length v.2.2.1) : Int) then Option.bind v.2.2.1[0 + Int.toNat v.2.1]? fun v_2 => K (Sum.inl (p.1, IntKind.wrap IntKind.i64
  (v.2.1 + 1), List.set v.2.2.1 (0 + Int.toNat v.2.1) p.2.1, ())) else none else K (Sum.inr (v.1, v.2.2.1, ()))

theorem impl_CollectVersions_D6_nat : NatD impl_CollectVersions_D6 := fun i v R K => nat_bif (nat_bind fun _ => nat_bind fun _ => nat_ite (nat_bind fun _ => nat_some)) (nat_some)

def impl_CollectVersions_T6 : Tmpl := ⟨(.junk (.ptr 0 0 0 (.ptr 1 0 0 (.junk (.ptr 2 0 0 (.slot Ty.i (.slot Ty.i (jk 15 (.slot (Ty.slice (Ty.slice YVersion)) (.slot Ty.i (.slot Ty.i (jk 33 .nil)))))))))))), (.cells 6 (.slot (Ty.bool) (.slot (Ty.slice (Ty.slice YVersion)) (.slot (Ty.slice (Ty.prod Ty.i (Ty.prod Ty.i (Ty.prod Ty.i (Ty.prod Ty.i (Ty.prod Ty.i (Ty.prod Ty.i (Ty.prod Ty.i (Ty.prod (Ty.slice
  YReadMark) (Ty.prod (Ty.slice YReadMark) Ty.unit)))))))))) (.slot (Ty.slice YReadMark) (.slot (Ty.slice YReadMark) (.slot Ty.i .nil)))))) (.cells 6 (.slot (Ty.bool) (.const (AV.nils) (.const (AV.nils) (.const (AV.nils) (.const (AV.nils) (.slot Ty.i .nil)))))) (.cells 6 (.slot (Ty.bool) (.own 3 (.own 4 (.own 5 (.own 6 (.slot Ty.i .nil)))))) (.tree false 1 (Ty.slice YVersion) (.tree false 0 (Ty.prod Ty.i (Ty.prod Ty.i (Ty.prod Ty.i (Ty.prod Ty.i (Ty.prod Ty.i (Ty.prod Ty.i (Ty.prod Ty.i (Ty.prod (Ty.slice (Ty.prod
  Ty.i (Ty.prod Ty.i Ty.unit))) (Ty.prod (Ty.slice YReadMark) Ty.unit))))))))) (.lst false YReadMark (.lst false YReadMark .nil)))))))⟩

def impl_CollectVersions_X6_0 (i : impl_CollectVersions_I6) (p : Int × List (List (Int × Int × Int × Int × Int × Unit)) × Unit) : St := ⟨jn 2 (AV.ptr 1 none 0 0 :: jn 1 (AV.ptr 2 none 0 0 :: .n (p.1) :: jn 52 ([]))), [some (Cont.cells 6 [[AV.pv Ty.bool i.2.2.2.1, AV.pv (Ty.slice (Ty.slice (Ty.prod Ty.i (Ty.prod Ty.i (Ty.prod (Ty.int
  IntKind.i64) YReadMark))))) i.2.2.2.2.1, AV.pv (Ty.slice (Ty.prod Ty.i (Ty.prod Ty.i (Ty.prod Ty.i (Ty.prod Ty.i
  (Ty.prod Ty.i (Ty.prod Ty.i (Ty.prod Ty.i (Ty.prod (Ty.slice YReadMark) (Ty.prod (Ty.slice (Ty.prod Ty.i (Ty.prod
  Ty.i Ty.unit))) Ty.unit)))))))))) i.2.2.2.2.2.1, AV.pv (Ty.slice YReadMark) i.2.2.2.2.2.2.1, AV.pv (Ty.slice (Ty.prod Ty.i (Ty.prod (Ty.int
  IntKind.i64) Ty.unit))) i.2.2.2.2.2.2.2.1, AV.pv Ty.i i.2.2.2.2.2.2.2.2.1]]), some (Cont.cells 6 [[AV.pv Ty.bool i.2.2.2.2.2.2.2.2.2.1, AV.nils, AV.nils, AV.nils, AV.nils, AV.pv Ty.i
  i.2.2.2.2.2.2.2.2.2.2.1]]), some (Cont.cells 6 [[AV.pv Ty.bool i.2.2.2.2.2.2.2.2.2.2.2.1, AV.own 3 none none, AV.own 4 none none, AV.own 5 none none, AV.own 6 none none, AV.pv Ty.i i.2.2.2.2.2.2.2.2.2.2.2.2.1]]), some
  (Cont.tree false 1 (Ty.slice YVersion) p.2.1 none), some (Cont.tree false 0 (Ty.prod
  Ty.i (Ty.prod Ty.i (Ty.prod Ty.i (Ty.prod Ty.i (Ty.prod Ty.i (Ty.prod Ty.i (Ty.prod Ty.i (Ty.prod (Ty.slice (Ty.prod (Ty.int
  IntKind.i64) (Ty.prod Ty.i Ty.unit))) (Ty.prod (Ty.slice YReadMark) Ty.unit))))))))) i.2.2.2.2.2.2.2.2.2.2.2.2.2.1 none), some (Cont.lst false (Ty.prod (Ty.int
  IntKind.i64) (Ty.prod Ty.i Ty.unit)) i.2.2.2.2.2.2.2.2.2.2.2.2.2.2.1), some (Cont.lst false YReadMark i.2.2.2.2.2.2.2.2.2.2.2.2.2.2.2.1)]⟩

noncomputable def impl_CollectVersions_E6 (i : impl_CollectVersions_I6) (p : impl_CollectVersions_Q6) (R : Type) (K : Ex → St → Option R) : Option R := K (Ex.exit 0) (impl_CollectVersions_X6_0 i p)

noncomputable def impl_CollectVersions_K6 (i : impl_CollectVersions_I6) (p : impl_CollectVersions_Q6) : Ex × St := (Ex.exit 0, impl_CollectVersions_X6_0 i p)

def impl_CollectVersions_M6 (i : impl_CollectVersions_I6) (v : impl_CollectVersions_V6) : den impl_CollectVersions_T6.ty := (v.1, i.1, i.2.1, i.2.2.1, v.2.1, i.2.2.2.1, i.2.2.2.2.1, i.2.2.2.2.2.1, i.2.2.2.2.2.2.1, i.2.2.2.2.2.2.2.1, i.2.2.2.2.2.2.2.2.1, i.2.2.2.2.2.2.2.2.2.1, i.2.2.2.2.2.2.2.2.2.2.1, i.2.2.2.2.2.2.2.2.2.2.2.1, i.2.2.2.2.2.2.2.2.2.2.2.2.1, v.2.2.1, i.2.2.2.2.2.2.2.2.2.2.2.2.2.1, i.2.2.2.2.2.2.2.2.2.2.2.2.2.2.1, i.2.2.2.2.2.2.2.2.2.2.2.2.2.2.2.1, ())

def impl_CollectVersions_P6 (x : den impl_CollectVersions_T6.ty) : impl_CollectVersions_I6 × impl_CollectVersions_V6 := ((x.2.1, x.2.2.1, x.2.2.2.1, x.2.2.2.2.2.1, x.2.2.2.2.2.2.1, x.2.2.2.2.2.2.2.1, x.2.2.2.2.2.2.2.2.1, x.2.2.2.2.2.2.2.2.2.1, x.2.2.2.2.2.2.2.2.2.2.1, x.2.2.2.2.2.2.2.2.2.2.2.1, x.2.2.2.2.2.2.2.2.2.2.2.2.1, x.2.2.2.2.2.2.2.2.2.2.2.2.2.1, x.2.2.2.2.2.2.2.2.2.2.2.2.2.2.1, x.2.2.2.2.2.2.2.2.2.2.2.2.2.2.2.2.1, x.2.2.2.2.2.2.2.2.2.2.2.2.2.2.2.2.2.1, x.2.2.2.2.2.2.2.2.2.2.2.2.2.2.2.2.2.2.1, ()), (x.1, x.2.2.2.2.1, x.2.2.2.2.2.2.2.2.2.2.2.2.2.2.2.1, ()))

noncomputable def impl_CollectVersions_C : Cfg := { ti := g_tis, ents := [impl_Engine_copied_Ent, impl_IsValidEngine_Ent, impl_Engine_watermark_Ent, impl_Engine_collectable_Ent], ann := [(10, loopFn impl_CollectVersions_T10 0 impl_CollectVersions_P10 impl_CollectVersions_D10 impl_CollectVersions_E10), (6, loopFn impl_CollectVersions_T6 0 impl_CollectVersions_P6 impl_CollectVersions_D6 impl_CollectVersions_E6)], lent := 0 }

def impl_CollectVersions_ti : Tmpl := ⟨(.slot (Ty.prod Ty.bool (Ty.prod YStore (Ty.prod
  (Ty.slice (Ty.prod Ty.i (Ty.prod Ty.i (Ty.prod Ty.i (Ty.prod Ty.i (Ty.prod Ty.i (Ty.prod Ty.i (Ty.prod Ty.i (Ty.prod (Ty.slice
  YReadMark) (Ty.prod (Ty.slice YReadMark) Ty.unit)))))))))) (Ty.prod (Ty.slice (Ty.prod Ty.i (Ty.prod
  Ty.i Ty.unit))) (Ty.prod (Ty.slice YReadMark) (Ty.prod Ty.i Ty.unit)))))) .nil), .nil⟩

def impl_CollectVersions_to : Tmpl := ⟨(.agg (.slot (Ty.bool) (.own 0 (.own 1 (.own 2 (.own 3 (.slot Ty.i .nil)))))) (.slot Ty.i .nil)), (.tree false 1 (Ty.slice YVersion) (.tree false 0 (Ty.prod Ty.i (Ty.prod Ty.i (Ty.prod Ty.i (Ty.prod Ty.i (Ty.prod Ty.i (Ty.prod Ty.i (Ty.prod Ty.i (Ty.prod (Ty.slice (Ty.prod
  Ty.i (Ty.prod Ty.i Ty.unit))) (Ty.prod (Ty.slice YReadMark) Ty.unit))))))))) (.lst false YReadMark (.lst false YReadMark .nil))))⟩

noncomputable def impl_CollectVersions_S (x : (Bool × (List (List (Int × Int × Int × Int × Int × Unit)) × Unit) × List (Int × Int × Int × Int × Int × Int × Int × List (Int × Int × Unit) × List (Int × Int × Unit) × Unit) × List (Int × Int × Unit) × List (Int × Int × Unit) × Int × Unit) ×
  Unit) : Option (Bool × Int × Int × List (List (Int × Int × Int × Int × Int × Unit)) × List (Int × Int × Int × Int × Int × Int × Int × List (Int × Int × Unit) × List (Int × Int × Unit) × Unit) × List (Int × Int × Unit) × List (Int × Int × Unit) × Unit) :=
  Option.bind (impl_Engine_copied_S ((x.1.1, (x.1.2.1.1, ()), x.1.2.2.1, x.1.2.2.2.1, x.1.2.2.2.2.1, x.1.2.2.2.2.2.1, ()), ())) fun v => Option.bind (impl_IsValidEngine_S ((x.1.1, (x.1.2.1.1, ()), x.1.2.2.1, x.1.2.2.2.1, x.1.2.2.2.2.1,
  x.1.2.2.2.2.2.1, ()), ())) fun v_1 => bif !v_1.1 then some (v.1, v.2.1, 0, v.2.2.1, v.2.2.2.1, v.2.2.2.2.1, v.2.2.2.2.2.1, ()) else Option.bind (impl_Engine_watermark_S ((x.1.1, (x.1.2.1.1, ()), x.1.2.2.1, x.1.2.2.2.1, x.1.2.2.2.2.1,
  x.1.2.2.2.2.2.1, ()), ())) fun v_2 => Option.bind (iter (fun v_3 => impl_CollectVersions_D6 (v_2.1, x.1.2.1.1, (↑(List.length x.1.2.1.1) : Int), x.1.1, x.1.2.1.1, x.1.2.2.1, x.1.2.2.2.1, x.1.2.2.2.2.1, x.1.2.2.2.2.2.1, false, 0, v.1, v.2.1,
  v.2.2.2.1, v.2.2.2.2.1, v.2.2.2.2.2.1, ()) v_3 _ some) (0, 0, v.2.2.1, ())) fun p => some (v.1, v.2.1, p.1, p.2.1, v.2.2.2.1, v.2.2.2.2.1, v.2.2.2.2.2.1, ())

noncomputable def impl_CollectVersions_Ent : Ent := ⟨7, impl_CollectVersions_ti, impl_CollectVersions_to, impl_CollectVersions_S⟩

theorem impl_CollectVersions_HC : CfgOK Go.Proofs.Tryz.prog impl_CollectVersions_C := hc_of g_tisOK g_wide (all_cons impl_Engine_copied_OK (all_cons impl_IsValidEngine_OK (all_cons impl_Engine_watermark_OK (all_cons impl_Engine_collectable_OK all_nil))))

theorem impl_CollectVersions_lk10 : LkOK Go.Proofs.Tryz.prog impl_CollectVersions_C (lpc Go.Proofs.Tryz.f7 1) :=
  lk_of impl_CollectVersions_HC (m := 0) (T := impl_CollectVersions_T10) (sp := impl_CollectVersions_P10) (D := impl_CollectVersions_D10) (E := impl_CollectVersions_E10) (by kernel_rfl) (by kernel_rfl) (fun k hk => absurd hk (Nat.not_lt_zero k)) [1, 2, 4, 5, 6, 7, 9, 22, 23, 24] impl_CollectVersions_M10 (fun x => rfl) impl_CollectVersions_D10_nat impl_CollectVersions_K10 (fun i p R K => rfl) (fun i v => by kernel_rfl)

theorem impl_CollectVersions_lk6 : LkOK Go.Proofs.Tryz.prog impl_CollectVersions_C (lpc Go.Proofs.Tryz.f7 0) :=
  lk_of impl_CollectVersions_HC (m := 1) (T := impl_CollectVersions_T6) (sp := impl_CollectVersions_P6) (D := impl_CollectVersions_D6) (E := impl_CollectVersions_E6) (by kernel_rfl) (by kernel_rfl) (fun k hk => match k, hk with | 0, _ => lk_at (by kernel_rfl) impl_CollectVersions_lk10) [2, 4, 5] impl_CollectVersions_M6 (fun x => rfl) impl_CollectVersions_D6_nat impl_CollectVersions_K6 (fun i p R K => rfl) (fun i v => by kernel_rfl)

theorem impl_CollectVersions_OK : EntOK Go.Proofs.Tryz.prog impl_CollectVersions_Ent := ok_of impl_CollectVersions_HC Go.Proofs.Tryz.func7 2 (by kernel_rfl) (fun k hk => match k, hk with | 0, _ => impl_CollectVersions_lk6 | 1, _ => impl_CollectVersions_lk10) (by kernel_rfl) (by kernel_rfl) (fun x => by kernel_rfl)

/-! laws.eqVersion -/

noncomputable def laws_eqVersion_C : Cfg := { ti := g_tis, ents := [], ann := [], lent := 0 }

def laws_eqVersion_ti : Tmpl := ⟨(.slot YVersion (.slot YVersion .nil)), .nil⟩

def laws_eqVersion_to : Tmpl := ⟨(.slot (Ty.bool) .nil), .nil⟩

noncomputable def laws_eqVersion_S (x : (Int × Int × Int × Int × Int × Unit) × (Int × Int × Int × Int × Int × Unit) × Unit) : Option (Bool × Unit) :=
  bif x.1.1 != x.2.1.1 then some (false, ()) else bif x.1.2.1 != x.2.1.2.1 then some (false, ()) else bif x.1.2.2.1 != x.2.1.2.2.1 then some (false, ()) else bif x.1.2.2.2.1 != x.2.1.2.2.2.1 then some (false, ()) else bif x.1.2.2.2.2.1 !=
  x.2.1.2.2.2.2.1 then some (false, ()) else some (true, ())

noncomputable def laws_eqVersion_Ent : Ent := ⟨136, laws_eqVersion_ti, laws_eqVersion_to, laws_eqVersion_S⟩

theorem laws_eqVersion_HC : CfgOK Go.Proofs.Tryz.prog laws_eqVersion_C := hc_of g_tisOK g_wide all_nil

theorem laws_eqVersion_OK : EntOK Go.Proofs.Tryz.prog laws_eqVersion_Ent := ok_of laws_eqVersion_HC Go.Proofs.Tryz.func136 0 (by kernel_rfl) (fun k hk => absurd hk (Nat.not_lt_zero k)) (by kernel_rfl) (by kernel_rfl) (fun x => by kernel_rfl)

/-! laws.eqVersionS -/

abbrev laws_eqVersionS_I4 : Type := List (Int × Int × Int × Int × Int × Unit) × List (Int × Int × Int × Int × Int × Unit) × Unit

abbrev laws_eqVersionS_V4 : Type := Int × Unit

abbrev laws_eqVersionS_Q4 : Type := Unit ⊕ Unit

noncomputable def laws_eqVersionS_D4 (i : laws_eqVersionS_I4) (v : laws_eqVersionS_V4) (R : Type) (K : laws_eqVersionS_V4 ⊕ laws_eqVersionS_Q4 → Option R) : Option R :=
  bif decide (v.1 < (↑(List.length i.1) : Int)) then Option.bind (lAt i.1 v.1) fun v_1 => Option.bind (lAt i.2.1 v.1) fun v_2 => Option.bind (laws_eqVersion_S ((v_1.1, v_1.2.1, v_1.2.2.1, v_1.2.2.2.1, v_1.2.2.2.2.1, ()), (v_2.1, v_2.2.1,
  v_2.2.2.1, v_2.2.2.2.1, v_2.2.2.2.2.1, ()), ())) fun v_3 => bif !v_3.1 then K (Sum.inr (Sum.inl ())) else K (Sum.inl (IntKind.wrap IntKind.i64 (v.1 + 1), ())) else K (Sum.inr (Sum.inr ()))

theorem laws_eqVersionS_D4_nat : NatD laws_eqVersionS_D4 := fun i v R K => nat_bif (nat_bind fun _ => nat_bind fun _ => nat_bind fun _ => nat_bif (nat_some) (nat_some)) (nat_some)

def laws_eqVersionS_T4 : Tmpl := ⟨(.slot (Ty.slice YVersion) (.slot (Ty.slice YVersion) (jk 3 (.slot Ty.i (jk 21 .nil))))), .nil⟩

def laws_eqVersionS_X4_0 (i : laws_eqVersionS_I4) (p : Unit) : St := ⟨jn 4 (.b (false) :: jn 22 ([])), []⟩

def laws_eqVersionS_X4_1 (i : laws_eqVersionS_I4) (p : Unit) : St := ⟨jn 27 ([]), []⟩

noncomputable def laws_eqVersionS_E4 (i : laws_eqVersionS_I4) (p : laws_eqVersionS_Q4) (R : Type) (K : Ex → St → Option R) : Option R := sumC p (fun p => K (Ex.ret) (laws_eqVersionS_X4_0 i p)) fun p => K (Ex.exit 0) (laws_eqVersionS_X4_1 i p)

noncomputable def laws_eqVersionS_K4 (i : laws_eqVersionS_I4) (p : laws_eqVersionS_Q4) : Ex × St := sumC p (fun p => (Ex.ret, laws_eqVersionS_X4_0 i p)) fun p => (Ex.exit 0, laws_eqVersionS_X4_1 i p)

def laws_eqVersionS_M4 (i : laws_eqVersionS_I4) (v : laws_eqVersionS_V4) : den laws_eqVersionS_T4.ty := (i.1, i.2.1, v.1, ())

def laws_eqVersionS_P4 (x : den laws_eqVersionS_T4.ty) : laws_eqVersionS_I4 × laws_eqVersionS_V4 := ((x.1, x.2.1, ()), (x.2.2.1, ()))

noncomputable def laws_eqVersionS_C : Cfg := { ti := g_tis, ents := [laws_eqVersion_Ent], ann := [(4, loopFn laws_eqVersionS_T4 0 laws_eqVersionS_P4 laws_eqVersionS_D4 laws_eqVersionS_E4)], lent := 0 }

def laws_eqVersionS_ti : Tmpl := ⟨(.slot (Ty.slice YVersion) (.slot (Ty.slice YVersion) .nil)), .nil⟩

def laws_eqVersionS_to : Tmpl := ⟨(.slot (Ty.bool) .nil), .nil⟩

noncomputable def laws_eqVersionS_S (x : List (Int × Int × Int × Int × Int × Unit) × List (Int × Int × Int × Int × Int × Unit) × Unit) : Option (Bool × Unit) :=
  bif (↑(List.length x.1) : Int) != (↑(List.length x.2.1) : Int) then some (false, ()) else Option.bind (iter (fun v => laws_eqVersionS_D4 (x.1, x.2.1, ()) v _ some) (0, ())) fun p => sumC p (fun p => some (false, ())) fun p => some
  (true, ())

noncomputable def laws_eqVersionS_Ent : Ent := ⟨114, laws_eqVersionS_ti, laws_eqVersionS_to, laws_eqVersionS_S⟩

theorem laws_eqVersionS_HC : CfgOK Go.Proofs.Tryz.prog laws_eqVersionS_C := hc_of g_tisOK g_wide (all_cons laws_eqVersion_OK all_nil)

theorem laws_eqVersionS_lk4 : LkOK Go.Proofs.Tryz.prog laws_eqVersionS_C (lpc Go.Proofs.Tryz.f114 0) :=
  lk_of laws_eqVersionS_HC (m := 0) (T := laws_eqVersionS_T4) (sp := laws_eqVersionS_P4) (D := laws_eqVersionS_D4) (E := laws_eqVersionS_E4) (by kernel_rfl) (by kernel_rfl) (fun k hk => absurd hk (Nat.not_lt_zero k)) [4] laws_eqVersionS_M4 (fun x => rfl) laws_eqVersionS_D4_nat laws_eqVersionS_K4 (fun i p R K => by rcases p with p | p <;> rfl) (fun i v => by kernel_rfl)

theorem laws_eqVersionS_OK : EntOK Go.Proofs.Tryz.prog laws_eqVersionS_Ent := ok_of laws_eqVersionS_HC Go.Proofs.Tryz.func114 1 (by kernel_rfl) (fun k hk => match k, hk with | 0, _ => laws_eqVersionS_lk4) (by kernel_rfl) (by kernel_rfl) (fun x => by kernel_rfl)

/-! laws.eqVersionSS -/

abbrev laws_eqVersionSS_I4 : Type := List (List (Int × Int × Int × Int × Int × Unit)) × List (List (Int × Int × Int × Int × Int × Unit)) × Unit

abbrev laws_eqVersionSS_V4 : Type := Int × Unit

abbrev laws_eqVersionSS_Q4 : Type := Unit ⊕ Unit

noncomputable def laws_eqVersionSS_D4 (i : laws_eqVersionSS_I4) (v : laws_eqVersionSS_V4) (R : Type) (K : laws_eqVersionSS_V4 ⊕ laws_eqVersionSS_Q4 → Option R) : Option R :=
  bif decide (v.1 < (↑(List.length i.1) : Int)) then Option.bind (lAt i.1 v.1) fun v_1 => Option.bind (lAt i.2.1 v.1) fun v_2 => Option.bind (laws_eqVersionS_S (v_1, v_2, ())) fun v_3 => bif !v_3.1 then K (Sum.inr (Sum.inl ())) else K (Sum.inl
  (IntKind.wrap IntKind.i64 (v.1 + 1), ())) else K (Sum.inr (Sum.inr ()))

theorem laws_eqVersionSS_D4_nat : NatD laws_eqVersionSS_D4 := fun i v R K => nat_bif (nat_bind fun _ => nat_bind fun _ => nat_bind fun _ => nat_bif (nat_some) (nat_some)) (nat_some)

def laws_eqVersionSS_T4 : Tmpl := ⟨(.slot (Ty.slice (Ty.slice YVersion)) (.slot (Ty.slice (Ty.slice YVersion)) (jk 3 (.slot Ty.i (jk 21 .nil))))), .nil⟩

def laws_eqVersionSS_X4_0 (i : laws_eqVersionSS_I4) (p : Unit) : St := ⟨jn 4 (.b (false) :: jn 22 ([])), []⟩

def laws_eqVersionSS_X4_1 (i : laws_eqVersionSS_I4) (p : Unit) : St := ⟨jn 27 ([]), []⟩

noncomputable def laws_eqVersionSS_E4 (i : laws_eqVersionSS_I4) (p : laws_eqVersionSS_Q4) (R : Type) (K : Ex → St → Option R) : Option R := sumC p (fun p => K (Ex.ret) (laws_eqVersionSS_X4_0 i p)) fun p => K (Ex.exit 0) (laws_eqVersionSS_X4_1 i p)

noncomputable def laws_eqVersionSS_K4 (i : laws_eqVersionSS_I4) (p : laws_eqVersionSS_Q4) : Ex × St := sumC p (fun p => (Ex.ret, laws_eqVersionSS_X4_0 i p)) fun p => (Ex.exit 0, laws_eqVersionSS_X4_1 i p)

def laws_eqVersionSS_M4 (i : laws_eqVersionSS_I4) (v : laws_eqVersionSS_V4) : den laws_eqVersionSS_T4.ty := (i.1, i.2.1, v.1, ())

def laws_eqVersionSS_P4 (x : den laws_eqVersionSS_T4.ty) : laws_eqVersionSS_I4 × laws_eqVersionSS_V4 := ((x.1, x.2.1, ()), (x.2.2.1, ()))

noncomputable def laws_eqVersionSS_C : Cfg := { ti := g_tis, ents := [laws_eqVersionS_Ent], ann := [(4, loopFn laws_eqVersionSS_T4 0 laws_eqVersionSS_P4 laws_eqVersionSS_D4 laws_eqVersionSS_E4)], lent := 0 }

def laws_eqVersionSS_ti : Tmpl := ⟨(.slot (Ty.slice (Ty.slice YVersion)) (.slot (Ty.slice (Ty.slice YVersion)) .nil)), .nil⟩

def laws_eqVersionSS_to : Tmpl := ⟨(.slot (Ty.bool) .nil), .nil⟩

noncomputable def laws_eqVersionSS_S (x : List (List (Int × Int × Int × Int × Int × Unit)) × List (List (Int × Int × Int × Int × Int × Unit)) × Unit) : Option (Bool × Unit) :=
  bif (↑(List.length x.1) : Int) != (↑(List.length x.2.1) : Int) then some (false, ()) else Option.bind (iter (fun v => laws_eqVersionSS_D4 (x.1, x.2.1, ()) v _ some) (0, ())) fun p => sumC p (fun p => some (false, ())) fun p => some
  (true, ())

noncomputable def laws_eqVersionSS_Ent : Ent := ⟨77, laws_eqVersionSS_ti, laws_eqVersionSS_to, laws_eqVersionSS_S⟩

theorem laws_eqVersionSS_HC : CfgOK Go.Proofs.Tryz.prog laws_eqVersionSS_C := hc_of g_tisOK g_wide (all_cons laws_eqVersionS_OK all_nil)

theorem laws_eqVersionSS_lk4 : LkOK Go.Proofs.Tryz.prog laws_eqVersionSS_C (lpc Go.Proofs.Tryz.f77 0) :=
  lk_of laws_eqVersionSS_HC (m := 0) (T := laws_eqVersionSS_T4) (sp := laws_eqVersionSS_P4) (D := laws_eqVersionSS_D4) (E := laws_eqVersionSS_E4) (by kernel_rfl) (by kernel_rfl) (fun k hk => absurd hk (Nat.not_lt_zero k)) [4] laws_eqVersionSS_M4 (fun x => rfl) laws_eqVersionSS_D4_nat laws_eqVersionSS_K4 (fun i p R K => by rcases p with p | p <;> rfl) (fun i v => by kernel_rfl)

theorem laws_eqVersionSS_OK : EntOK Go.Proofs.Tryz.prog laws_eqVersionSS_Ent := ok_of laws_eqVersionSS_HC Go.Proofs.Tryz.func77 1 (by kernel_rfl) (fun k hk => match k, hk with | 0, _ => laws_eqVersionSS_lk4) (by kernel_rfl) (by kernel_rfl) (fun x => by kernel_rfl)

/-! laws.eqStore -/

noncomputable def laws_eqStore_C : Cfg := { ti := g_tis, ents := [laws_eqVersionSS_Ent], ann := [], lent := 0 }

def laws_eqStore_ti : Tmpl := ⟨(.slot YStore (.slot YStore .nil)), .nil⟩

def laws_eqStore_to : Tmpl := ⟨(.slot (Ty.bool) .nil), .nil⟩

noncomputable def laws_eqStore_S (x : (List (List (Int × Int × Int × Int × Int × Unit)) × Unit) × (List (List (Int × Int × Int × Int × Int × Unit)) × Unit) × Unit) : Option (Bool × Unit) :=
  Option.bind (laws_eqVersionSS_S (x.1.1, x.2.1.1, ())) fun v => bif !v.1 then some (false, ()) else some (true, ())

noncomputable def laws_eqStore_Ent : Ent := ⟨26, laws_eqStore_ti, laws_eqStore_to, laws_eqStore_S⟩

theorem laws_eqStore_HC : CfgOK Go.Proofs.Tryz.prog laws_eqStore_C := hc_of g_tisOK g_wide (all_cons laws_eqVersionSS_OK all_nil)

theorem laws_eqStore_OK : EntOK Go.Proofs.Tryz.prog laws_eqStore_Ent := ok_of laws_eqStore_HC Go.Proofs.Tryz.func26 0 (by kernel_rfl) (fun k hk => absurd hk (Nat.not_lt_zero k)) (by kernel_rfl) (by kernel_rfl) (fun x => by kernel_rfl)

/-! laws.eqReadMark -/

noncomputable def laws_eqReadMark_C : Cfg := { ti := g_tis, ents := [], ann := [], lent := 0 }

def laws_eqReadMark_ti : Tmpl := ⟨(.slot YReadMark (.slot YReadMark .nil)), .nil⟩

def laws_eqReadMark_to : Tmpl := ⟨(.slot (Ty.bool) .nil), .nil⟩

noncomputable def laws_eqReadMark_S (x : (Int × Int × Unit) × (Int × Int × Unit) × Unit) : Option (Bool × Unit) :=
  bif x.1.1 != x.2.1.1 then some (false, ()) else bif x.1.2.1 != x.2.1.2.1 then some (false, ()) else some (true, ())

noncomputable def laws_eqReadMark_Ent : Ent := ⟨137, laws_eqReadMark_ti, laws_eqReadMark_to, laws_eqReadMark_S⟩

theorem laws_eqReadMark_HC : CfgOK Go.Proofs.Tryz.prog laws_eqReadMark_C := hc_of g_tisOK g_wide all_nil

theorem laws_eqReadMark_OK : EntOK Go.Proofs.Tryz.prog laws_eqReadMark_Ent := ok_of laws_eqReadMark_HC Go.Proofs.Tryz.func137 0 (by kernel_rfl) (fun k hk => absurd hk (Nat.not_lt_zero k)) (by kernel_rfl) (by kernel_rfl) (fun x => by kernel_rfl)

/-! laws.eqReadMarkS -/

abbrev laws_eqReadMarkS_I4 : Type := List (Int × Int × Unit) × List (Int × Int × Unit) × Unit

abbrev laws_eqReadMarkS_V4 : Type := Int × Unit

abbrev laws_eqReadMarkS_Q4 : Type := Unit ⊕ Unit

noncomputable def laws_eqReadMarkS_D4 (i : laws_eqReadMarkS_I4) (v : laws_eqReadMarkS_V4) (R : Type) (K : laws_eqReadMarkS_V4 ⊕ laws_eqReadMarkS_Q4 → Option R) : Option R :=
  bif decide (v.1 < (↑(List.length i.1) : Int)) then Option.bind (lAt i.1 v.1) fun v_1 => Option.bind (lAt i.2.1 v.1) fun v_2 => Option.bind (laws_eqReadMark_S ((v_1.1, v_1.2.1, ()), (v_2.1, v_2.2.1, ()), ())) fun v_3 => bif !v_3.1 then K
  (Sum.inr (Sum.inl ())) else K (Sum.inl (IntKind.wrap IntKind.i64 (v.1 + 1), ())) else K (Sum.inr (Sum.inr ()))

theorem laws_eqReadMarkS_D4_nat : NatD laws_eqReadMarkS_D4 := fun i v R K => nat_bif (nat_bind fun _ => nat_bind fun _ => nat_bind fun _ => nat_bif (nat_some) (nat_some)) (nat_some)

def laws_eqReadMarkS_T4 : Tmpl := ⟨(.slot (Ty.slice YReadMark) (.slot (Ty.slice YReadMark) (jk 3 (.slot Ty.i (jk 21 .nil))))), .nil⟩

def laws_eqReadMarkS_X4_0 (i : laws_eqReadMarkS_I4) (p : Unit) : St := ⟨jn 4 (.b (false) :: jn 22 ([])), []⟩

def laws_eqReadMarkS_X4_1 (i : laws_eqReadMarkS_I4) (p : Unit) : St := ⟨jn 27 ([]), []⟩

noncomputable def laws_eqReadMarkS_E4 (i : laws_eqReadMarkS_I4) (p : laws_eqReadMarkS_Q4) (R : Type) (K : Ex → St → Option R) : Option R := sumC p (fun p => K (Ex.ret) (laws_eqReadMarkS_X4_0 i p)) fun p => K (Ex.exit 0) (laws_eqReadMarkS_X4_1 i p)

noncomputable def laws_eqReadMarkS_K4 (i : laws_eqReadMarkS_I4) (p : laws_eqReadMarkS_Q4) : Ex × St := sumC p (fun p => (Ex.ret, laws_eqReadMarkS_X4_0 i p)) fun p => (Ex.exit 0, laws_eqReadMarkS_X4_1 i p)

def laws_eqReadMarkS_M4 (i : laws_eqReadMarkS_I4) (v : laws_eqReadMarkS_V4) : den laws_eqReadMarkS_T4.ty := (i.1, i.2.1, v.1, ())

def laws_eqReadMarkS_P4 (x : den laws_eqReadMarkS_T4.ty) : laws_eqReadMarkS_I4 × laws_eqReadMarkS_V4 := ((x.1, x.2.1, ()), (x.2.2.1, ()))

noncomputable def laws_eqReadMarkS_C : Cfg := { ti := g_tis, ents := [laws_eqReadMark_Ent], ann := [(4, loopFn laws_eqReadMarkS_T4 0 laws_eqReadMarkS_P4 laws_eqReadMarkS_D4 laws_eqReadMarkS_E4)], lent := 0 }

def laws_eqReadMarkS_ti : Tmpl := ⟨(.slot (Ty.slice YReadMark) (.slot (Ty.slice YReadMark) .nil)), .nil⟩

def laws_eqReadMarkS_to : Tmpl := ⟨(.slot (Ty.bool) .nil), .nil⟩

noncomputable def laws_eqReadMarkS_S (x : List (Int × Int × Unit) × List (Int × Int × Unit) × Unit) : Option (Bool × Unit) :=
  bif (↑(List.length x.1) : Int) != (↑(List.length x.2.1) : Int) then some (false, ()) else Option.bind (iter (fun v => laws_eqReadMarkS_D4 (x.1, x.2.1, ()) v _ some) (0, ())) fun p => sumC p (fun p => some (false, ())) fun p => some
  (true, ())

noncomputable def laws_eqReadMarkS_Ent : Ent := ⟨115, laws_eqReadMarkS_ti, laws_eqReadMarkS_to, laws_eqReadMarkS_S⟩

theorem laws_eqReadMarkS_HC : CfgOK Go.Proofs.Tryz.prog laws_eqReadMarkS_C := hc_of g_tisOK g_wide (all_cons laws_eqReadMark_OK all_nil)

theorem laws_eqReadMarkS_lk4 : LkOK Go.Proofs.Tryz.prog laws_eqReadMarkS_C (lpc Go.Proofs.Tryz.f115 0) :=
  lk_of laws_eqReadMarkS_HC (m := 0) (T := laws_eqReadMarkS_T4) (sp := laws_eqReadMarkS_P4) (D := laws_eqReadMarkS_D4) (E := laws_eqReadMarkS_E4) (by kernel_rfl) (by kernel_rfl) (fun k hk => absurd hk (Nat.not_lt_zero k)) [4] laws_eqReadMarkS_M4 (fun x => rfl) laws_eqReadMarkS_D4_nat laws_eqReadMarkS_K4 (fun i p R K => by rcases p with p | p <;> rfl) (fun i v => by kernel_rfl)

theorem laws_eqReadMarkS_OK : EntOK Go.Proofs.Tryz.prog laws_eqReadMarkS_Ent := ok_of laws_eqReadMarkS_HC Go.Proofs.Tryz.func115 1 (by kernel_rfl) (fun k hk => match k, hk with | 0, _ => laws_eqReadMarkS_lk4) (by kernel_rfl) (by kernel_rfl) (fun x => by kernel_rfl)

/-! laws.eqWrite -/

noncomputable def laws_eqWrite_C : Cfg := { ti := g_tis, ents := [], ann := [], lent := 0 }

def laws_eqWrite_ti : Tmpl := ⟨(.slot YReadMark (.slot YReadMark .nil)), .nil⟩

def laws_eqWrite_to : Tmpl := ⟨(.slot (Ty.bool) .nil), .nil⟩

noncomputable def laws_eqWrite_S (x : (Int × Int × Unit) × (Int × Int × Unit) × Unit) : Option (Bool × Unit) :=
  bif x.1.1 != x.2.1.1 then some (false, ()) else bif x.1.2.1 != x.2.1.2.1 then some (false, ()) else some (true, ())

noncomputable def laws_eqWrite_Ent : Ent := ⟨138, laws_eqWrite_ti, laws_eqWrite_to, laws_eqWrite_S⟩

theorem laws_eqWrite_HC : CfgOK Go.Proofs.Tryz.prog laws_eqWrite_C := hc_of g_tisOK g_wide all_nil

theorem laws_eqWrite_OK : EntOK Go.Proofs.Tryz.prog laws_eqWrite_Ent := ok_of laws_eqWrite_HC Go.Proofs.Tryz.func138 0 (by kernel_rfl) (fun k hk => absurd hk (Nat.not_lt_zero k)) (by kernel_rfl) (by kernel_rfl) (fun x => by kernel_rfl)

end Go.Ab
