import Derived.Test.YtaefbkkplgaplaaHd
set_option maxRecDepth 100000
set_option linter.unusedVariables false
namespace Go.Ab

/-! spec.NewStore -/

noncomputable def spec_NewStore_D3 (i : Unit) (v : Int × List (List (Int × Int × Int × Int × Int × Unit)) × Unit) (R : Type) (K : Int × List (List (Int × Int × Int × Int × Int × Unit)) × Unit ⊕ List (List (Int × Int × Int × Int × Int × Unit)) × Unit → Option R) : Option R :=
  bif decide (v.1 < 6) then if List.length (v.2.1 ++ [[(0, -1, 0, 0, 1000, ())]]) ≤ 1466015503701 then K (Sum.inl (IntKind.wrap IntKind.i64 (v.1 + 1), v.2.1 ++ [[(0, -1, 0, 0, 1000, ())]], ())) else none else K (Sum.inr (v.2.1, ()))

theorem spec_NewStore_D3_nat (i : Unit) (v : Int × List (List (Int × Int × Int × Int × Int × Unit)) × Unit) (R : Type) (K : Int × List (List (Int × Int × Int × Int × Int × Unit)) × Unit ⊕ List (List (Int × Int × Int × Int × Int × Unit)) × Unit → Option R) : spec_NewStore_D3 i v R K = (spec_NewStore_D3 i v _ some).bind K := nat_bif (nat_ite (nat_some)) (nat_some)

def spec_NewStore_T3 : Tmpl := Tmpl.mk (TmL.ptr 0 0 0 (TmL.ptr 1 0 0 (TmL.slot Ty.i (TmL.junk (TmL.junk (TmL.junk (TmL.junk (TmL.junk (TmL.junk (TmL.junk (TmL.junk (TmL.junk (TmL.junk (TmL.junk (TmL.junk (TmL.junk TmL.nil)))))))))))))))) (TmH.cells 1
  (TmL.const AV.nils TmL.nil) (TmH.cells 1 (TmL.own 2 TmL.nil) (TmH.tree false 0 (Ty.slice (Ty.prod Ty.i (Ty.prod Ty.i (Ty.prod Ty.i (Ty.prod Ty.i (Ty.prod Ty.i
  Ty.unit)))))) TmH.nil)))

def spec_NewStore_X3_0 (i : Unit) (p : List (List (Int × Int × Int × Int × Int × Unit)) × Unit) : St :=
  St.mk [AV.ptr 0 none 0 0, AV.ptr 1 none 0 0, AV.junk, AV.junk, AV.junk, AV.junk, AV.junk, AV.junk, AV.junk, AV.junk, AV.junk, AV.junk, AV.junk, AV.junk, AV.junk, AV.junk] [some (Cont.cells 1 [[AV.nils]]), some (Cont.cells 1 [[AV.own 2 none
  none]]), some (Cont.tree false 0 (Ty.slice YVersion) p.1 none)]

noncomputable def spec_NewStore_E3 (i : Unit) (p : List (List (Int × Int × Int × Int × Int × Unit)) × Unit) (R : Type) (K : Ex → St → Option R) : Option R := K (Ex.exit 0) (spec_NewStore_X3_0 i p)

noncomputable def spec_NewStore_K3 (i : Unit) (p : List (List (Int × Int × Int × Int × Int × Unit)) × Unit) : Ex × St := ((Ex.exit 0), spec_NewStore_X3_0 i p)

def spec_NewStore_M3 (i : Unit) (v : Int × List (List (Int × Int × Int × Int × Int × Unit)) × Unit) : den spec_NewStore_T3.ty := (v.1, v.2.1, ())

def spec_NewStore_P3 (x : den spec_NewStore_T3.ty) : (Unit) × (Int × List (List (Int × Int × Int × Int × Int × Unit)) × Unit) := ((()), (x.1, x.2.1, ()))

noncomputable def spec_NewStore_F3 : LoopFn := fun s R K => Tmpl.readS spec_NewStore_T3 0 s fun x => (iter (fun v => spec_NewStore_D3 (spec_NewStore_P3 x).1 v _ some) (spec_NewStore_P3 x).2).bind fun p => spec_NewStore_E3 (spec_NewStore_P3 x).1 p R K

noncomputable def spec_NewStore_C : Cfg := { ti := g_tis, ents := [], ann := [(3, spec_NewStore_F3)], lent := 0 }

def spec_NewStore_ti : Tmpl := Tmpl.mk TmL.nil TmH.nil

def spec_NewStore_to : Tmpl := Tmpl.mk (TmL.agg (TmL.own 0 TmL.nil) TmL.nil) (TmH.tree false 0 (Ty.slice YVersion)
  TmH.nil)

noncomputable def spec_NewStore_S (x : Unit) : Option (List (List (Int × Int × Int × Int × Int × Unit)) × Unit) :=
  Option.bind (iter (fun v => spec_NewStore_D3 () v (Int × List (List (Int × Int × Int × Int × Int × Unit)) × Unit ⊕ List (List (Int × Int × Int × Int × Int × Unit)) × Unit) some) (0, [], ())) fun p => some (p.1, ())

noncomputable def spec_NewStore_Ent : Ent := ⟨38, spec_NewStore_ti, spec_NewStore_to, spec_NewStore_S⟩

theorem spec_NewStore_HC : CfgOK Go.Proofs.Try.prog spec_NewStore_C := ⟨⟨info_ok g_tisOK⟩, all_nil, g_wide⟩

theorem spec_NewStore_lk3 : ∀ F, ((spec_NewStore_C).ann.find? fun x => x.1 == firstId ((loopsOf (codeOf Go.Proofs.Try.f38)).getD 0 .skip)).map (·.2) = some F → LoopOK Go.Proofs.Try.prog spec_NewStore_C.lent ((loopsOf (codeOf Go.Proofs.Try.f38)).getD 0 .skip) F := by
  refine lookup_ok (show ((spec_NewStore_C).ann.find? fun x => x.1 == firstId ((loopsOf (codeOf Go.Proofs.Try.f38)).getD 0 .skip)).map (·.2) = some spec_NewStore_F3 from by kernel_rfl) ?_
  exact loop_ok spec_NewStore_HC (loops_all 0 (by kernel_rfl) (fun k hk => absurd hk (Nat.not_lt_zero k))) spec_NewStore_T3 [0, 1] spec_NewStore_M3 spec_NewStore_P3 (fun x => rfl) spec_NewStore_D3 spec_NewStore_D3_nat spec_NewStore_E3 spec_NewStore_K3 (fun i p R K => rfl) (fun i v => by kernel_rfl)

theorem spec_NewStore_VC (x : den spec_NewStore_ti.ty) : vcall spec_NewStore_C Go.Proofs.Try.f38 spec_NewStore_ti spec_NewStore_to x = spec_NewStore_S x := by kernel_rfl

theorem spec_NewStore_OK : EntOK Go.Proofs.Try.prog spec_NewStore_Ent := EntOK.of_vcall spec_NewStore_HC Go.Proofs.Try.func38 (body_loops (by kernel_rfl) (loops_all 1 (by kernel_rfl) (fun k hk => match k, hk with | 0, _ => spec_NewStore_lk3))) (by kernel_rfl) (by kernel_rfl) spec_NewStore_VC

/-! spec.NewReplica -/

noncomputable def spec_NewReplica_C : Cfg := { ti := g_tis, ents := [spec_NewStore_Ent], ann := [], lent := 0 }

def spec_NewReplica_ti : Tmpl := Tmpl.mk TmL.nil TmH.nil

def spec_NewReplica_to : Tmpl := Tmpl.mk (TmL.agg (TmL.slot Ty.i (TmL.slot Ty.i (TmL.own 0 TmL.nil))) TmL.nil) (TmH.tree false 0 (Ty.slice (Ty.prod Ty.i (Ty.prod Ty.i (Ty.prod Ty.i (Ty.prod
  Ty.i (Ty.prod Ty.i Ty.unit)))))) TmH.nil)

noncomputable def spec_NewReplica_S (x : Unit) : Option (Int × Int × List (List (Int × Int × Int × Int × Int × Unit)) × Unit) :=
  Option.bind (spec_NewStore_S ()) fun v => some (0, 0, v.1, ())

noncomputable def spec_NewReplica_Ent : Ent := ⟨8, spec_NewReplica_ti, spec_NewReplica_to, spec_NewReplica_S⟩

theorem spec_NewReplica_HC : CfgOK Go.Proofs.Try.prog spec_NewReplica_C := ⟨⟨info_ok g_tisOK⟩, (all_cons spec_NewStore_OK all_nil), g_wide⟩

theorem spec_NewReplica_VC (x : den spec_NewReplica_ti.ty) : vcall spec_NewReplica_C Go.Proofs.Try.f8 spec_NewReplica_ti spec_NewReplica_to x = spec_NewReplica_S x := by kernel_rfl

theorem spec_NewReplica_OK : EntOK Go.Proofs.Try.prog spec_NewReplica_Ent := EntOK.of_vcall spec_NewReplica_HC Go.Proofs.Try.func8 (body_loops (by kernel_rfl) (loops_all 0 (by kernel_rfl) (fun k hk => absurd hk (Nat.not_lt_zero k)))) (by kernel_rfl) (by kernel_rfl) spec_NewReplica_VC

/-! impl.NewStore -/

noncomputable def impl_NewStore_D3 (i : Unit) (v : Int × List (List (Int × Int × Int × Int × Int × Unit)) × Unit) (R : Type) (K : Int × List (List (Int × Int × Int × Int × Int × Unit)) × Unit ⊕ List (List (Int × Int × Int × Int × Int × Unit)) × Unit → Option R) : Option R :=
  bif decide (v.1 < 6) then if List.length (v.2.1 ++ [[(0, -1, 0, 0, 1000, ())]]) ≤ 1466015503701 then K (Sum.inl (IntKind.wrap IntKind.i64 (v.1 + 1), v.2.1 ++ [[(0, -1, 0, 0, 1000, ())]], ())) else none else K (Sum.inr (v.2.1, ()))

theorem impl_NewStore_D3_nat (i : Unit) (v : Int × List (List (Int × Int × Int × Int × Int × Unit)) × Unit) (R : Type) (K : Int × List (List (Int × Int × Int × Int × Int × Unit)) × Unit ⊕ List (List (Int × Int × Int × Int × Int × Unit)) × Unit → Option R) : impl_NewStore_D3 i v R K = (impl_NewStore_D3 i v _ some).bind K := nat_bif (nat_ite (nat_some)) (nat_some)

def impl_NewStore_T3 : Tmpl := Tmpl.mk (TmL.ptr 0 0 0 (TmL.ptr 1 0 0 (TmL.junk (TmL.slot Ty.i (TmL.junk (TmL.junk (TmL.junk (TmL.junk (TmL.junk (TmL.junk (TmL.junk (TmL.junk (TmL.junk (TmL.junk TmL.nil)))))))))))))) (TmH.cells 1 (TmL.const AV.nils TmL.nil)
  (TmH.cells 1 (TmL.own 2 TmL.nil) (TmH.tree false 0 (Ty.slice YVersion) TmH.nil)))

def impl_NewStore_X3_0 (i : Unit) (p : List (List (Int × Int × Int × Int × Int × Unit)) × Unit) : St :=
  St.mk [AV.ptr 0 none 0 0, AV.ptr 1 none 0 0, AV.junk, AV.junk, AV.junk, AV.junk, AV.junk, AV.junk, AV.junk, AV.junk, AV.junk, AV.junk, AV.junk, AV.junk] [some (Cont.cells 1 [[AV.nils]]), some (Cont.cells 1 [[AV.own 2 none none]]), some
  (Cont.tree false 0 (Ty.slice YVersion) p.1 none)]

noncomputable def impl_NewStore_E3 (i : Unit) (p : List (List (Int × Int × Int × Int × Int × Unit)) × Unit) (R : Type) (K : Ex → St → Option R) : Option R := K (Ex.exit 0) (impl_NewStore_X3_0 i p)

noncomputable def impl_NewStore_K3 (i : Unit) (p : List (List (Int × Int × Int × Int × Int × Unit)) × Unit) : Ex × St := ((Ex.exit 0), impl_NewStore_X3_0 i p)

def impl_NewStore_M3 (i : Unit) (v : Int × List (List (Int × Int × Int × Int × Int × Unit)) × Unit) : den impl_NewStore_T3.ty := (v.1, v.2.1, ())

def impl_NewStore_P3 (x : den impl_NewStore_T3.ty) : (Unit) × (Int × List (List (Int × Int × Int × Int × Int × Unit)) × Unit) := ((()), (x.1, x.2.1, ()))

noncomputable def impl_NewStore_F3 : LoopFn := fun s R K => Tmpl.readS impl_NewStore_T3 0 s fun x => (iter (fun v => impl_NewStore_D3 (impl_NewStore_P3 x).1 v _ some) (impl_NewStore_P3 x).2).bind fun p => impl_NewStore_E3 (impl_NewStore_P3 x).1 p R K

noncomputable def impl_NewStore_C : Cfg := { ti := g_tis, ents := [], ann := [(3, impl_NewStore_F3)], lent := 0 }

def impl_NewStore_ti : Tmpl := Tmpl.mk TmL.nil TmH.nil

def impl_NewStore_to : Tmpl := Tmpl.mk (TmL.agg (TmL.own 0 TmL.nil) TmL.nil) (TmH.tree false 0 (Ty.slice YVersion)
  TmH.nil)

noncomputable def impl_NewStore_S (x : Unit) : Option (List (List (Int × Int × Int × Int × Int × Unit)) × Unit) :=
  Option.bind (iter (fun v => impl_NewStore_D3 () v (Int × List (List (Int × Int × Int × Int × Int × Unit)) × Unit ⊕ List (List (Int × Int × Int × Int × Int × Unit)) × Unit) some) (0, [], ())) fun p => some (p.1, ())

noncomputable def impl_NewStore_Ent : Ent := ⟨39, impl_NewStore_ti, impl_NewStore_to, impl_NewStore_S⟩

theorem impl_NewStore_HC : CfgOK Go.Proofs.Try.prog impl_NewStore_C := ⟨⟨info_ok g_tisOK⟩, all_nil, g_wide⟩

theorem impl_NewStore_lk3 : ∀ F, ((impl_NewStore_C).ann.find? fun x => x.1 == firstId ((loopsOf (codeOf Go.Proofs.Try.f39)).getD 0 .skip)).map (·.2) = some F → LoopOK Go.Proofs.Try.prog impl_NewStore_C.lent ((loopsOf (codeOf Go.Proofs.Try.f39)).getD 0 .skip) F := by
  refine lookup_ok (show ((impl_NewStore_C).ann.find? fun x => x.1 == firstId ((loopsOf (codeOf Go.Proofs.Try.f39)).getD 0 .skip)).map (·.2) = some impl_NewStore_F3 from by kernel_rfl) ?_
  exact loop_ok impl_NewStore_HC (loops_all 0 (by kernel_rfl) (fun k hk => absurd hk (Nat.not_lt_zero k))) impl_NewStore_T3 [0, 1] impl_NewStore_M3 impl_NewStore_P3 (fun x => rfl) impl_NewStore_D3 impl_NewStore_D3_nat impl_NewStore_E3 impl_NewStore_K3 (fun i p R K => rfl) (fun i v => by kernel_rfl)

theorem impl_NewStore_VC (x : den impl_NewStore_ti.ty) : vcall impl_NewStore_C Go.Proofs.Try.f39 impl_NewStore_ti impl_NewStore_to x = impl_NewStore_S x := by kernel_rfl

theorem impl_NewStore_OK : EntOK Go.Proofs.Try.prog impl_NewStore_Ent := EntOK.of_vcall impl_NewStore_HC Go.Proofs.Try.func39 (body_loops (by kernel_rfl) (loops_all 1 (by kernel_rfl) (fun k hk => match k, hk with | 0, _ => impl_NewStore_lk3))) (by kernel_rfl) (by kernel_rfl) impl_NewStore_VC

/-! impl.NewReplica -/

noncomputable def impl_NewReplica_C : Cfg := { ti := g_tis, ents := [impl_NewStore_Ent], ann := [], lent := 0 }

def impl_NewReplica_ti : Tmpl := Tmpl.mk TmL.nil TmH.nil

def impl_NewReplica_to : Tmpl := Tmpl.mk (TmL.agg (TmL.slot Ty.i (TmL.slot Ty.i (TmL.own 0 TmL.nil))) TmL.nil) (TmH.tree false 0 (Ty.slice (Ty.prod Ty.i (Ty.prod Ty.i (Ty.prod Ty.i (Ty.prod
  Ty.i (Ty.prod Ty.i Ty.unit)))))) TmH.nil)

noncomputable def impl_NewReplica_S (x : Unit) : Option (Int × Int × List (List (Int × Int × Int × Int × Int × Unit)) × Unit) :=
  Option.bind (impl_NewStore_S ()) fun v => some (0, 0, v.1, ())

noncomputable def impl_NewReplica_Ent : Ent := ⟨9, impl_NewReplica_ti, impl_NewReplica_to, impl_NewReplica_S⟩

theorem impl_NewReplica_HC : CfgOK Go.Proofs.Try.prog impl_NewReplica_C := ⟨⟨info_ok g_tisOK⟩, (all_cons impl_NewStore_OK all_nil), g_wide⟩

theorem impl_NewReplica_VC (x : den impl_NewReplica_ti.ty) : vcall impl_NewReplica_C Go.Proofs.Try.f9 impl_NewReplica_ti impl_NewReplica_to x = impl_NewReplica_S x := by kernel_rfl

theorem impl_NewReplica_OK : EntOK Go.Proofs.Try.prog impl_NewReplica_Ent := EntOK.of_vcall impl_NewReplica_HC Go.Proofs.Try.func9 (body_loops (by kernel_rfl) (loops_all 0 (by kernel_rfl) (fun k hk => absurd hk (Nat.not_lt_zero k)))) (by kernel_rfl) (by kernel_rfl) impl_NewReplica_VC

/-! laws.eqVersion -/

noncomputable def laws_eqVersion_C : Cfg := { ti := g_tis, ents := [], ann := [], lent := 0 }

def laws_eqVersion_ti : Tmpl := Tmpl.mk (TmL.slot YVersion (TmL.slot (Ty.prod Ty.i (Ty.prod (Ty.int
  IntKind.i64) (Ty.prod Ty.i YReadMark))) TmL.nil)) TmH.nil

def laws_eqVersion_to : Tmpl := Tmpl.mk (TmL.slot Ty.bool TmL.nil) TmH.nil

noncomputable def laws_eqVersion_S (x : (Int × Int × Int × Int × Int × Unit) × (Int × Int × Int × Int × Int × Unit) × Unit) : Option (Bool × Unit) :=
  bif x.1.1 != x.2.1.1 then some (false, ()) else bif x.1.2.1 != x.2.1.2.1 then some (false, ()) else bif x.1.2.2.1 != x.2.1.2.2.1 then some (false, ()) else bif x.1.2.2.2.1 != x.2.1.2.2.2.1 then some (false, ()) else bif x.1.2.2.2.2.1 !=
  x.2.1.2.2.2.2.1 then some (false, ()) else some (true, ())

noncomputable def laws_eqVersion_Ent : Ent := ⟨148, laws_eqVersion_ti, laws_eqVersion_to, laws_eqVersion_S⟩

theorem laws_eqVersion_HC : CfgOK Go.Proofs.Try.prog laws_eqVersion_C := ⟨⟨info_ok g_tisOK⟩, all_nil, g_wide⟩

theorem laws_eqVersion_VC (x : den laws_eqVersion_ti.ty) : vcall laws_eqVersion_C Go.Proofs.Try.f148 laws_eqVersion_ti laws_eqVersion_to x = laws_eqVersion_S x := by kernel_rfl

theorem laws_eqVersion_OK : EntOK Go.Proofs.Try.prog laws_eqVersion_Ent := EntOK.of_vcall laws_eqVersion_HC Go.Proofs.Try.func148 (body_loops (by kernel_rfl) (loops_all 0 (by kernel_rfl) (fun k hk => absurd hk (Nat.not_lt_zero k)))) (by kernel_rfl) (by kernel_rfl) laws_eqVersion_VC

/-! laws.eqVersionS -/

noncomputable def laws_eqVersionS_D4 (i : List (Int × Int × Int × Int × Int × Unit) × List (Int × Int × Int × Int × Int × Unit) × Unit) (v : Int × Unit) (R : Type) (K : Int × Unit ⊕ Unit ⊕ Unit → Option R) : Option R :=
  bif decide (v.1 < (↑(List.length i.1) : Int)) then Option.bind (lAt i.1 v.1) fun v_1 => Option.bind (lAt i.2.1 v.1) fun v_2 => Option.bind (laws_eqVersion_S ((v_1.1, v_1.2.1, v_1.2.2.1, v_1.2.2.2.1, v_1.2.2.2.2.1, ()), (v_2.1, v_2.2.1,
  v_2.2.2.1, v_2.2.2.2.1, v_2.2.2.2.2.1, ()), ())) fun v_3 => bif !v_3.1 then K (Sum.inr (Sum.inl ())) else K (Sum.inl (IntKind.wrap IntKind.i64 (v.1 + 1), ())) else K (Sum.inr (Sum.inr ()))

theorem laws_eqVersionS_D4_nat (i : List (Int × Int × Int × Int × Int × Unit) × List (Int × Int × Int × Int × Int × Unit) × Unit) (v : Int × Unit) (R : Type) (K : Int × Unit ⊕ Unit ⊕ Unit → Option R) : laws_eqVersionS_D4 i v R K = (laws_eqVersionS_D4 i v _ some).bind K := nat_bif (nat_bind fun _ => nat_bind fun _ => nat_bind fun _ => nat_bif (nat_some) (nat_some)) (nat_some)

def laws_eqVersionS_T4 : Tmpl := Tmpl.mk (TmL.slot (Ty.slice YVersion) (TmL.slot (Ty.slice (Ty.prod Ty.i
  (Ty.prod Ty.i (Ty.prod Ty.i YReadMark)))) (TmL.junk (TmL.junk (TmL.junk (TmL.slot Ty.i (TmL.junk (TmL.junk (TmL.junk (TmL.junk
  (TmL.junk (TmL.junk (TmL.junk (TmL.junk (TmL.junk (TmL.junk (TmL.junk (TmL.junk (TmL.junk (TmL.junk (TmL.junk (TmL.junk (TmL.junk (TmL.junk (TmL.junk (TmL.junk (TmL.junk TmL.nil))))))))))))))))))))))))))) TmH.nil

def laws_eqVersionS_X4_0 (i : List (Int × Int × Int × Int × Int × Unit) × List (Int × Int × Int × Int × Int × Unit) × Unit) (p : Unit) : St :=
  St.mk [AV.junk, AV.junk, AV.junk, AV.junk, AV.pv Ty.bool false, AV.junk, AV.junk, AV.junk, AV.junk, AV.junk, AV.junk, AV.junk, AV.junk, AV.junk, AV.junk, AV.junk, AV.junk, AV.junk, AV.junk, AV.junk, AV.junk, AV.junk, AV.junk, AV.junk,
  AV.junk, AV.junk, AV.junk] []

def laws_eqVersionS_X4_1 (i : List (Int × Int × Int × Int × Int × Unit) × List (Int × Int × Int × Int × Int × Unit) × Unit) (p : Unit) : St :=
  St.mk [AV.junk, AV.junk, AV.junk, AV.junk, AV.junk, AV.junk, AV.junk, AV.junk, AV.junk, AV.junk, AV.junk, AV.junk, AV.junk, AV.junk, AV.junk, AV.junk, AV.junk, AV.junk, AV.junk, AV.junk, AV.junk, AV.junk, AV.junk, AV.junk, AV.junk, AV.junk,
  AV.junk] []

noncomputable def laws_eqVersionS_E4 (i : List (Int × Int × Int × Int × Int × Unit) × List (Int × Int × Int × Int × Int × Unit) × Unit) (p : Unit ⊕ Unit) (R : Type) (K : Ex → St → Option R) : Option R := sumC p (fun p => K (Ex.ret) (laws_eqVersionS_X4_0 i p)) (fun p => K (Ex.exit 0) (laws_eqVersionS_X4_1 i p))

noncomputable def laws_eqVersionS_K4 (i : List (Int × Int × Int × Int × Int × Unit) × List (Int × Int × Int × Int × Int × Unit) × Unit) (p : Unit ⊕ Unit) : Ex × St := sumC p (fun p => ((Ex.ret), laws_eqVersionS_X4_0 i p)) (fun p => ((Ex.exit 0), laws_eqVersionS_X4_1 i p))

def laws_eqVersionS_M4 (i : List (Int × Int × Int × Int × Int × Unit) × List (Int × Int × Int × Int × Int × Unit) × Unit) (v : Int × Unit) : den laws_eqVersionS_T4.ty := (i.1, i.2.1, v.1, ())

def laws_eqVersionS_P4 (x : den laws_eqVersionS_T4.ty) : (List (Int × Int × Int × Int × Int × Unit) × List (Int × Int × Int × Int × Int × Unit) × Unit) × (Int × Unit) := ((x.1, x.2.1, ()), (x.2.2.1, ()))

noncomputable def laws_eqVersionS_F4 : LoopFn := fun s R K => Tmpl.readS laws_eqVersionS_T4 0 s fun x => (iter (fun v => laws_eqVersionS_D4 (laws_eqVersionS_P4 x).1 v _ some) (laws_eqVersionS_P4 x).2).bind fun p => laws_eqVersionS_E4 (laws_eqVersionS_P4 x).1 p R K

noncomputable def laws_eqVersionS_C : Cfg := { ti := g_tis, ents := [laws_eqVersion_Ent], ann := [(4, laws_eqVersionS_F4)], lent := 0 }

def laws_eqVersionS_ti : Tmpl := Tmpl.mk (TmL.slot (Ty.slice YVersion) (TmL.slot (Ty.slice (Ty.prod Ty.i
  (Ty.prod Ty.i (Ty.prod Ty.i YReadMark)))) TmL.nil)) TmH.nil

def laws_eqVersionS_to : Tmpl := Tmpl.mk (TmL.slot Ty.bool TmL.nil) TmH.nil

noncomputable def laws_eqVersionS_S (x : List (Int × Int × Int × Int × Int × Unit) × List (Int × Int × Int × Int × Int × Unit) × Unit) : Option (Bool × Unit) :=
  bif (↑(List.length x.1) : Int) != (↑(List.length x.2.1) : Int) then some (false, ()) else Option.bind (iter (fun v => laws_eqVersionS_D4 (x.1, x.2.1, ()) v (Int × Unit ⊕ Unit ⊕ Unit) some) (0, ())) fun p => sumC p (fun p => some (false, ()))
  fun p => some (true, ())

noncomputable def laws_eqVersionS_Ent : Ent := ⟨114, laws_eqVersionS_ti, laws_eqVersionS_to, laws_eqVersionS_S⟩

theorem laws_eqVersionS_HC : CfgOK Go.Proofs.Try.prog laws_eqVersionS_C := ⟨⟨info_ok g_tisOK⟩, (all_cons laws_eqVersion_OK all_nil), g_wide⟩

theorem laws_eqVersionS_lk4 : ∀ F, ((laws_eqVersionS_C).ann.find? fun x => x.1 == firstId ((loopsOf (codeOf Go.Proofs.Try.f114)).getD 0 .skip)).map (·.2) = some F → LoopOK Go.Proofs.Try.prog laws_eqVersionS_C.lent ((loopsOf (codeOf Go.Proofs.Try.f114)).getD 0 .skip) F := by
  refine lookup_ok (show ((laws_eqVersionS_C).ann.find? fun x => x.1 == firstId ((loopsOf (codeOf Go.Proofs.Try.f114)).getD 0 .skip)).map (·.2) = some laws_eqVersionS_F4 from by kernel_rfl) ?_
  exact loop_ok laws_eqVersionS_HC (loops_all 0 (by kernel_rfl) (fun k hk => absurd hk (Nat.not_lt_zero k))) laws_eqVersionS_T4 [4] laws_eqVersionS_M4 laws_eqVersionS_P4 (fun x => rfl) laws_eqVersionS_D4 laws_eqVersionS_D4_nat laws_eqVersionS_E4 laws_eqVersionS_K4 (fun i p R K => by rcases p with p | p <;> rfl) (fun i v => by kernel_rfl)

theorem laws_eqVersionS_VC (x : den laws_eqVersionS_ti.ty) : vcall laws_eqVersionS_C Go.Proofs.Try.f114 laws_eqVersionS_ti laws_eqVersionS_to x = laws_eqVersionS_S x := by kernel_rfl

theorem laws_eqVersionS_OK : EntOK Go.Proofs.Try.prog laws_eqVersionS_Ent := EntOK.of_vcall laws_eqVersionS_HC Go.Proofs.Try.func114 (body_loops (by kernel_rfl) (loops_all 1 (by kernel_rfl) (fun k hk => match k, hk with | 0, _ => laws_eqVersionS_lk4))) (by kernel_rfl) (by kernel_rfl) laws_eqVersionS_VC

/-! laws.eqVersionSS -/

noncomputable def laws_eqVersionSS_D4 (i : List (List (Int × Int × Int × Int × Int × Unit)) × List (List (Int × Int × Int × Int × Int × Unit)) × Unit) (v : Int × Unit) (R : Type) (K : Int × Unit ⊕ Unit ⊕ Unit → Option R) : Option R :=
  bif decide (v.1 < (↑(List.length i.1) : Int)) then Option.bind (lAt i.1 v.1) fun v_1 => Option.bind (lAt i.2.1 v.1) fun v_2 => Option.bind (laws_eqVersionS_S (v_1, v_2, ())) fun v_3 => bif !v_3.1 then K (Sum.inr (Sum.inl ())) else K (Sum.inl
  (IntKind.wrap IntKind.i64 (v.1 + 1), ())) else K (Sum.inr (Sum.inr ()))

theorem laws_eqVersionSS_D4_nat (i : List (List (Int × Int × Int × Int × Int × Unit)) × List (List (Int × Int × Int × Int × Int × Unit)) × Unit) (v : Int × Unit) (R : Type) (K : Int × Unit ⊕ Unit ⊕ Unit → Option R) : laws_eqVersionSS_D4 i v R K = (laws_eqVersionSS_D4 i v _ some).bind K := nat_bif (nat_bind fun _ => nat_bind fun _ => nat_bind fun _ => nat_bif (nat_some) (nat_some)) (nat_some)

def laws_eqVersionSS_T4 : Tmpl := Tmpl.mk (TmL.slot (Ty.slice (Ty.slice YVersion)) (TmL.slot (Ty.slice (Ty.slice (Ty.prod
  Ty.i (Ty.prod Ty.i (Ty.prod Ty.i YReadMark))))) (TmL.junk (TmL.junk (TmL.junk (TmL.slot Ty.i (TmL.junk (TmL.junk
  (TmL.junk (TmL.junk (TmL.junk (TmL.junk (TmL.junk (TmL.junk (TmL.junk (TmL.junk (TmL.junk (TmL.junk (TmL.junk (TmL.junk (TmL.junk (TmL.junk (TmL.junk (TmL.junk (TmL.junk (TmL.junk (TmL.junk TmL.nil))))))))))))))))))))))))))) TmH.nil

def laws_eqVersionSS_X4_0 (i : List (List (Int × Int × Int × Int × Int × Unit)) × List (List (Int × Int × Int × Int × Int × Unit)) × Unit) (p : Unit) : St :=
  St.mk [AV.junk, AV.junk, AV.junk, AV.junk, AV.pv Ty.bool false, AV.junk, AV.junk, AV.junk, AV.junk, AV.junk, AV.junk, AV.junk, AV.junk, AV.junk, AV.junk, AV.junk, AV.junk, AV.junk, AV.junk, AV.junk, AV.junk, AV.junk, AV.junk, AV.junk,
  AV.junk, AV.junk, AV.junk] []

def laws_eqVersionSS_X4_1 (i : List (List (Int × Int × Int × Int × Int × Unit)) × List (List (Int × Int × Int × Int × Int × Unit)) × Unit) (p : Unit) : St :=
  St.mk [AV.junk, AV.junk, AV.junk, AV.junk, AV.junk, AV.junk, AV.junk, AV.junk, AV.junk, AV.junk, AV.junk, AV.junk, AV.junk, AV.junk, AV.junk, AV.junk, AV.junk, AV.junk, AV.junk, AV.junk, AV.junk, AV.junk, AV.junk, AV.junk, AV.junk, AV.junk,
  AV.junk] []

noncomputable def laws_eqVersionSS_E4 (i : List (List (Int × Int × Int × Int × Int × Unit)) × List (List (Int × Int × Int × Int × Int × Unit)) × Unit) (p : Unit ⊕ Unit) (R : Type) (K : Ex → St → Option R) : Option R := sumC p (fun p => K (Ex.ret) (laws_eqVersionSS_X4_0 i p)) (fun p => K (Ex.exit 0) (laws_eqVersionSS_X4_1 i p))

noncomputable def laws_eqVersionSS_K4 (i : List (List (Int × Int × Int × Int × Int × Unit)) × List (List (Int × Int × Int × Int × Int × Unit)) × Unit) (p : Unit ⊕ Unit) : Ex × St := sumC p (fun p => ((Ex.ret), laws_eqVersionSS_X4_0 i p)) (fun p => ((Ex.exit 0), laws_eqVersionSS_X4_1 i p))

def laws_eqVersionSS_M4 (i : List (List (Int × Int × Int × Int × Int × Unit)) × List (List (Int × Int × Int × Int × Int × Unit)) × Unit) (v : Int × Unit) : den laws_eqVersionSS_T4.ty := (i.1, i.2.1, v.1, ())

def laws_eqVersionSS_P4 (x : den laws_eqVersionSS_T4.ty) : (List (List (Int × Int × Int × Int × Int × Unit)) × List (List (Int × Int × Int × Int × Int × Unit)) × Unit) × (Int × Unit) := ((x.1, x.2.1, ()), (x.2.2.1, ()))

noncomputable def laws_eqVersionSS_F4 : LoopFn := fun s R K => Tmpl.readS laws_eqVersionSS_T4 0 s fun x => (iter (fun v => laws_eqVersionSS_D4 (laws_eqVersionSS_P4 x).1 v _ some) (laws_eqVersionSS_P4 x).2).bind fun p => laws_eqVersionSS_E4 (laws_eqVersionSS_P4 x).1 p R K

noncomputable def laws_eqVersionSS_C : Cfg := { ti := g_tis, ents := [laws_eqVersionS_Ent], ann := [(4, laws_eqVersionSS_F4)], lent := 0 }

def laws_eqVersionSS_ti : Tmpl := Tmpl.mk (TmL.slot (Ty.slice (Ty.slice YVersion)) (TmL.slot (Ty.slice (Ty.slice (Ty.prod
  Ty.i (Ty.prod Ty.i (Ty.prod Ty.i YReadMark))))) TmL.nil)) TmH.nil

def laws_eqVersionSS_to : Tmpl := Tmpl.mk (TmL.slot Ty.bool TmL.nil) TmH.nil

noncomputable def laws_eqVersionSS_S (x : List (List (Int × Int × Int × Int × Int × Unit)) × List (List (Int × Int × Int × Int × Int × Unit)) × Unit) : Option (Bool × Unit) :=
  bif (↑(List.length x.1) : Int) != (↑(List.length x.2.1) : Int) then some (false, ()) else Option.bind (iter (fun v => laws_eqVersionSS_D4 (x.1, x.2.1, ()) v (Int × Unit ⊕ Unit ⊕ Unit) some) (0, ())) fun p => sumC p (fun p => some (false,
  ())) fun p => some (true, ())

noncomputable def laws_eqVersionSS_Ent : Ent := ⟨74, laws_eqVersionSS_ti, laws_eqVersionSS_to, laws_eqVersionSS_S⟩

theorem laws_eqVersionSS_HC : CfgOK Go.Proofs.Try.prog laws_eqVersionSS_C := ⟨⟨info_ok g_tisOK⟩, (all_cons laws_eqVersionS_OK all_nil), g_wide⟩

theorem laws_eqVersionSS_lk4 : ∀ F, ((laws_eqVersionSS_C).ann.find? fun x => x.1 == firstId ((loopsOf (codeOf Go.Proofs.Try.f74)).getD 0 .skip)).map (·.2) = some F → LoopOK Go.Proofs.Try.prog laws_eqVersionSS_C.lent ((loopsOf (codeOf Go.Proofs.Try.f74)).getD 0 .skip) F := by
  refine lookup_ok (show ((laws_eqVersionSS_C).ann.find? fun x => x.1 == firstId ((loopsOf (codeOf Go.Proofs.Try.f74)).getD 0 .skip)).map (·.2) = some laws_eqVersionSS_F4 from by kernel_rfl) ?_
  exact loop_ok laws_eqVersionSS_HC (loops_all 0 (by kernel_rfl) (fun k hk => absurd hk (Nat.not_lt_zero k))) laws_eqVersionSS_T4 [4] laws_eqVersionSS_M4 laws_eqVersionSS_P4 (fun x => rfl) laws_eqVersionSS_D4 laws_eqVersionSS_D4_nat laws_eqVersionSS_E4 laws_eqVersionSS_K4 (fun i p R K => by rcases p with p | p <;> rfl) (fun i v => by kernel_rfl)

theorem laws_eqVersionSS_VC (x : den laws_eqVersionSS_ti.ty) : vcall laws_eqVersionSS_C Go.Proofs.Try.f74 laws_eqVersionSS_ti laws_eqVersionSS_to x = laws_eqVersionSS_S x := by kernel_rfl

theorem laws_eqVersionSS_OK : EntOK Go.Proofs.Try.prog laws_eqVersionSS_Ent := EntOK.of_vcall laws_eqVersionSS_HC Go.Proofs.Try.func74 (body_loops (by kernel_rfl) (loops_all 1 (by kernel_rfl) (fun k hk => match k, hk with | 0, _ => laws_eqVersionSS_lk4))) (by kernel_rfl) (by kernel_rfl) laws_eqVersionSS_VC

/-! laws.eqStore -/

noncomputable def laws_eqStore_C : Cfg := { ti := g_tis, ents := [laws_eqVersionSS_Ent], ann := [], lent := 0 }

def laws_eqStore_ti : Tmpl := Tmpl.mk (TmL.slot YStore (TmL.slot (Ty.prod
  (Ty.slice (Ty.slice YVersion)) Ty.unit) TmL.nil)) TmH.nil

def laws_eqStore_to : Tmpl := Tmpl.mk (TmL.slot Ty.bool TmL.nil) TmH.nil

noncomputable def laws_eqStore_S (x : (List (List (Int × Int × Int × Int × Int × Unit)) × Unit) × (List (List (Int × Int × Int × Int × Int × Unit)) × Unit) × Unit) : Option (Bool × Unit) :=
  Option.bind (laws_eqVersionSS_S (x.1.1, x.2.1.1, ())) fun v => bif !v.1 then some (false, ()) else some (true, ())

noncomputable def laws_eqStore_Ent : Ent := ⟨26, laws_eqStore_ti, laws_eqStore_to, laws_eqStore_S⟩

theorem laws_eqStore_HC : CfgOK Go.Proofs.Try.prog laws_eqStore_C := ⟨⟨info_ok g_tisOK⟩, (all_cons laws_eqVersionSS_OK all_nil), g_wide⟩

theorem laws_eqStore_VC (x : den laws_eqStore_ti.ty) : vcall laws_eqStore_C Go.Proofs.Try.f26 laws_eqStore_ti laws_eqStore_to x = laws_eqStore_S x := by kernel_rfl

theorem laws_eqStore_OK : EntOK Go.Proofs.Try.prog laws_eqStore_Ent := EntOK.of_vcall laws_eqStore_HC Go.Proofs.Try.func26 (body_loops (by kernel_rfl) (loops_all 0 (by kernel_rfl) (fun k hk => absurd hk (Nat.not_lt_zero k)))) (by kernel_rfl) (by kernel_rfl) laws_eqStore_VC

/-! laws.eqReplica -/

noncomputable def laws_eqReplica_C : Cfg := { ti := g_tis, ents := [laws_eqStore_Ent], ann := [], lent := 0 }

def laws_eqReplica_ti : Tmpl := Tmpl.mk (TmL.slot (Ty.prod Ty.i (Ty.prod Ty.i (Ty.prod (Ty.prod (Ty.slice (Ty.slice (Ty.prod Ty.i (Ty.prod Ty.i (Ty.prod Ty.i (Ty.prod Ty.i
  (Ty.prod Ty.i Ty.unit))))))) Ty.unit) Ty.unit))) (TmL.slot (Ty.prod Ty.i (Ty.prod Ty.i (Ty.prod (Ty.prod (Ty.slice (Ty.slice (Ty.prod Ty.i (Ty.prod Ty.i (Ty.prod
  Ty.i YReadMark))))) Ty.unit) Ty.unit))) TmL.nil)) TmH.nil

def laws_eqReplica_to : Tmpl := Tmpl.mk (TmL.slot Ty.bool TmL.nil) TmH.nil

noncomputable def laws_eqReplica_S (x : (Int × Int × (List (List (Int × Int × Int × Int × Int × Unit)) × Unit) × Unit) × (Int × Int × (List (List (Int × Int × Int × Int × Int × Unit)) × Unit) × Unit) × Unit) : Option (Bool × Unit) :=
  bif x.1.1 != x.2.1.1 then some (false, ()) else bif x.1.2.1 != x.2.1.2.1 then some (false, ()) else Option.bind (laws_eqStore_S ((x.1.2.2.1.1, ()), (x.2.1.2.2.1.1, ()), ())) fun v => bif !v.1 then some (false, ()) else some (true, ())

noncomputable def laws_eqReplica_Ent : Ent := ⟨10, laws_eqReplica_ti, laws_eqReplica_to, laws_eqReplica_S⟩

theorem laws_eqReplica_HC : CfgOK Go.Proofs.Try.prog laws_eqReplica_C := ⟨⟨info_ok g_tisOK⟩, (all_cons laws_eqStore_OK all_nil), g_wide⟩

theorem laws_eqReplica_VC (x : den laws_eqReplica_ti.ty) : vcall laws_eqReplica_C Go.Proofs.Try.f10 laws_eqReplica_ti laws_eqReplica_to x = laws_eqReplica_S x := by kernel_rfl

theorem laws_eqReplica_OK : EntOK Go.Proofs.Try.prog laws_eqReplica_Ent := EntOK.of_vcall laws_eqReplica_HC Go.Proofs.Try.func10 (body_loops (by kernel_rfl) (loops_all 0 (by kernel_rfl) (fun k hk => absurd hk (Nat.not_lt_zero k)))) (by kernel_rfl) (by kernel_rfl) laws_eqReplica_VC

/-! laws.markVersionS -/

noncomputable def laws_markVersionS_l_D2 (i : Nat × Unit) (v : Int × Int × List (List (Int × Int × Int × Int × Int × Unit)) × Unit) (R : Type) (K : Int × Int × List (List (Int × Int × Int × Int × Int × Unit)) × Unit ⊕ Int × List (List (Int × Int × Int × Int × Int × Unit)) × Unit → Option R) : Option R :=
  Option.bind v.2.2.1[i.1]? fun v_1 => bif decide (v.2.1 < (↑(List.length v_1) : Int)) then Option.bind v.2.2.1[i.1]? fun v_2 => if 0 ≤ v.2.1 ∧ v.2.1 < (↑(List.length v_2) : Int) then Option.bind v.2.2.1[i.1]? fun v_3 => Option.bind v_3[0 +
  Int.toNat v.2.1]? fun v_4 => Option.bind (List.set v.2.2.1 i.1 (List.set v_3 (0 + Int.toNat v.2.1) (v.1, v_4.2.1, v_4.2.2.1, v_4.2.2.2.1, v_4.2.2.2.2.1, ())))[i.1]? fun v_5 => if 0 ≤ v.2.1 ∧ v.2.1 < (↑(List.length v_5) : Int) then
  Option.bind (List.set v.2.2.1 i.1 (List.set v_3 (0 + Int.toNat v.2.1) (v.1, v_4.2.1, v_4.2.2.1, v_4.2.2.2.1, v_4.2.2.2.2.1, ())))[i.1]? fun v_6 => Option.bind v_6[0 + Int.toNat v.2.1]? fun v_7 => Option.bind (List.set (List.set v.2.2.1 i.1
  (List.set v_3 (0 + Int.toNat v.2.1) (v.1, v_4.2.1, v_4.2.2.1, v_4.2.2.2.1, v_4.2.2.2.2.1, ()))) i.1 (List.set v_6 (0 + Int.toNat v.2.1) (v_7.1, IntKind.wrap IntKind.i64 (v.1 + 1), v_7.2.2.1, v_7.2.2.2.1, v_7.2.2.2.2.1, ())))[i.1]? fun v_8 =>
  if 0 ≤ v.2.1 ∧ v.2.1 < (↑(List.length v_8) : Int) then Option.bind (List.set (List.set v.2.2.1 i.1 (List.set v_3 (0 + Int.toNat v.2.1) (v.1, v_4.2.1, v_4.2.2.1, v_4.2.2.2.1, v_4.2.2.2.2.1, ()))) i.1 (List.set v_6 (0 + Int.toNat v.2.1)
  (v_7.1, IntKind.wrap IntKind.i64 (v.1 + 1), v_7.2.2.1, v_7.2.2.2.1, v_7.2.2.2.2.1, ())))[i.1]? fun v_9 => Option.bind v_9[0 + Int.toNat v.2.1]? fun v_10 => Option.bind (List.set (List.set (List.set v.2.2.1 i.1 (List.set v_3 (0 + Int.toNat
  v.2.1) (v.1, v_4.2.1, v_4.2.2.1, v_4.2.2.2.1, v_4.2.2.2.2.1, ()))) i.1 (List.set v_6 (0 + Int.toNat v.2.1) (v_7.1, IntKind.wrap IntKind.i64 (v.1 + 1), v_7.2.2.1, v_7.2.2.2.1, v_7.2.2.2.2.1, ()))) i.1 (List.set v_9 (0 + Int.toNat v.2.1)
  (v_10.1, v_10.2.1, IntKind.wrap IntKind.i64 (IntKind.wrap IntKind.i64 (v.1 + 1) + 1), v_10.2.2.2.1, v_10.2.2.2.2.1, ())))[i.1]? fun v_11 => if 0 ≤ v.2.1 ∧ v.2.1 < (↑(List.length v_11) : Int) then Option.bind (List.set (List.set (List.set
  v.2.2.1 i.1 (List.set v_3 (0 + Int.toNat v.2.1) (v.1, v_4.2.1, v_4.2.2.1, v_4.2.2.2.1, v_4.2.2.2.2.1, ()))) i.1 (List.set v_6 (0 + Int.toNat v.2.1) (v_7.1, IntKind.wrap IntKind.i64 (v.1 + 1), v_7.2.2.1, v_7.2.2.2.1, v_7.2.2.2.2.1, ()))) i.1
  (List.set v_9 (0 + Int.toNat v.2.1) (v_10.1, v_10.2.1, IntKind.wrap IntKind.i64 (IntKind.wrap IntKind.i64 (v.1 + 1) + 1), v_10.2.2.2.1, v_10.2.2.2.2.1, ())))[i.1]? fun v_12 => Option.bind v_12[0 + Int.toNat v.2.1]? fun v_13 => Option.bind
  (List.set (List.set (List.set (List.set v.2.2.1 i.1 (List.set v_3 (0 + Int.toNat v.2.1) (v.1, v_4.2.1, v_4.2.2.1, v_4.2.2.2.1, v_4.2.2.2.2.1, ()))) i.1 (List.set v_6 (0 + Int.toNat v.2.1) (v_7.1, IntKind.wrap IntKind.i64 (v.1 + 1),
  v_7.2.2.1, v_7.2.2.2.1, v_7.2.2.2.2.1, ()))) i.1 (List.set v_9 (0 + Int.toNat v.2.1) (v_10.1, v_10.2.1, IntKind.wrap IntKind.i64 (IntKind.wrap IntKind.i64 (v.1 + 1) + 1), v_10.2.2.2.1, v_10.2.2.2.2.1, ()))) i.1 (List.set v_12 (0 + Int.toNat
  v.2.1) (v_13.1, v_13.2.1, v_13.2.2.1, IntKind.wrap IntKind.i64 (IntKind.wrap IntKind.i64 (IntKind.wrap IntKind.i64 (v.1 + 1) + 1) + 1), v_13.2.2.2.2.1, ())))[i.1]? fun v_14 => if 0 ≤ v.2.1 ∧ v.2.1 < (↑(List.length v_14) : Int) then
  Option.bind (List.set (List.set (List.set (List.set v.2.2.1 i.1 (List.set v_3 (0 + Int.toNat v.2.1) (v.1, v_4.2.1, v_4.2.2.1, v_4.2.2.2.1, v_4.2.2.2.2.1, ()))) i.1 (List.set v_6 (0 + Int.toNat v.2.1) (v_7.1, IntKind.wrap IntKind.i64 (v.1 +
  1), v_7.2.2.1, v_7.2.2.2.1, v_7.2.2.2.2.1, ()))) i.1 (List.set v_9 (0 + Int.toNat v.2.1) (v_10.1, v_10.2.1, IntKind.wrap IntKind.i64 (IntKind.wrap IntKind.i64 (v.1 + 1) + 1), v_10.2.2.2.1, v_10.2.2.2.2.1, ()))) i.1 (List.set v_12 (0 +
  Int.toNat v.2.1) (v_13.1, v_13.2.1, v_13.2.2.1, IntKind.wrap IntKind.i64 (IntKind.wrap IntKind.i64 (IntKind.wrap IntKind.i64 (v.1 + 1) + 1) + 1), v_13.2.2.2.2.1, ())))[i.1]? fun v_15 => Option.bind v_15[0 + Int.toNat v.2.1]? fun v_16 => K
  (Sum.inl (IntKind.wrap IntKind.i64 (IntKind.wrap IntKind.i64 (IntKind.wrap IntKind.i64 (IntKind.wrap IntKind.i64 (IntKind.wrap IntKind.i64 (v.1 + 1) + 1) + 1) + 1) + 1), IntKind.wrap IntKind.i64 (v.2.1 + 1), List.set (List.set (List.set
  (List.set (List.set v.2.2.1 i.1 (List.set v_3 (0 + Int.toNat v.2.1) (v.1, v_4.2.1, v_4.2.2.1, v_4.2.2.2.1, v_4.2.2.2.2.1, ()))) i.1 (List.set v_6 (0 + Int.toNat v.2.1) (v_7.1, IntKind.wrap IntKind.i64 (v.1 + 1), v_7.2.2.1, v_7.2.2.2.1,
  v_7.2.2.2.2.1, ()))) i.1 (List.set v_9 (0 + Int.toNat v.2.1) (v_10.1, v_10.2.1, IntKind.wrap IntKind.i64 (IntKind.wrap IntKind.i64 (v.1 + 1) + 1), v_10.2.2.2.1, v_10.2.2.2.2.1, ()))) i.1 (List.set v_12 (0 + Int.toNat v.2.1) (v_13.1,
  v_13.2.1, v_13.2.2.1, IntKind.wrap IntKind.i64 (IntKind.wrap IntKind.i64 (IntKind.wrap IntKind.i64 (v.1 + 1) + 1) + 1), v_13.2.2.2.2.1, ()))) i.1 (List.set v_15 (0 + Int.toNat v.2.1) (v_16.1, v_16.2.1, v_16.2.2.1, v_16.2.2.2.1, IntKind.wrap
  IntKind.i64 (IntKind.wrap IntKind.i64 (IntKind.wrap IntKind.i64 (IntKind.wrap IntKind.i64 (v.1 + 1) + 1) + 1) + 1), ())), ())) else none else none else none else none else none else K (Sum.inr (v.1, v.2.2.1, ()))

theorem laws_markVersionS_l_D2_nat (i : Nat × Unit) (v : Int × Int × List (List (Int × Int × Int × Int × Int × Unit)) × Unit) (R : Type) (K : Int × Int × List (List (Int × Int × Int × Int × Int × Unit)) × Unit ⊕ Int × List (List (Int × Int × Int × Int × Int × Unit)) × Unit → Option R) : laws_markVersionS_l_D2 i v R K = (laws_markVersionS_l_D2 i v _ some).bind K := nat_bind fun _ => nat_bif (nat_bind fun _ => nat_ite (nat_bind fun _ => nat_bind fun _ => nat_bind fun _ => nat_ite (nat_bind fun _ => nat_bind fun _ => nat_bind fun _ => nat_ite (nat_bind fun _ => nat_bind fun _ => nat_bind fun _ => nat_ite (nat_bind fun _ => nat_bind fun _ => nat_bind fun _ => nat_ite (nat_bind fun _ => nat_bind fun _ => nat_some)))))) (nat_some)

def laws_markVersionS_l_T2 : Tmpl := Tmpl.mk (TmL.nown 0 0 (TmL.slot Ty.i (TmL.junk (TmL.junk (TmL.junk (TmL.slot Ty.i (TmL.junk (TmL.junk (TmL.junk (TmL.junk (TmL.junk (TmL.junk (TmL.junk (TmL.junk (TmL.junk (TmL.junk (TmL.junk (TmL.junk
  (TmL.junk (TmL.junk (TmL.junk (TmL.junk (TmL.junk (TmL.junk (TmL.junk (TmL.junk (TmL.junk (TmL.junk (TmL.junk (TmL.junk (TmL.junk (TmL.junk (TmL.junk (TmL.junk (TmL.junk (TmL.junk (TmL.junk (TmL.junk (TmL.junk (TmL.junk (TmL.junk (TmL.junk
  (TmL.junk (TmL.junk (TmL.junk (TmL.junk (TmL.junk (TmL.junk TmL.nil)))))))))))))))))))))))))))))))))))))))))))))))) (TmH.tree false 0 (Ty.slice (Ty.prod Ty.i (Ty.prod Ty.i (Ty.prod Ty.i
  YReadMark)))) TmH.nil)

def laws_markVersionS_l_X2_0 (i : Nat × Unit) (p : Int × List (List (Int × Int × Int × Int × Int × Unit)) × Unit) : St :=
  St.mk [AV.junk, AV.pv Ty.i p.1, AV.junk, AV.junk, AV.junk, AV.junk, AV.junk, AV.junk, AV.junk, AV.junk, AV.junk, AV.junk, AV.junk, AV.junk, AV.junk, AV.junk, AV.junk, AV.junk, AV.junk, AV.junk, AV.junk, AV.junk, AV.junk,
  AV.junk, AV.junk, AV.junk, AV.junk, AV.junk, AV.junk, AV.junk, AV.junk, AV.junk, AV.junk, AV.junk, AV.junk, AV.junk, AV.junk, AV.junk, AV.junk, AV.junk, AV.junk, AV.junk, AV.junk, AV.junk, AV.junk, AV.junk, AV.junk, AV.junk] [some (Cont.tree
  false 0 (Ty.slice YVersion) p.2.1 none)]

noncomputable def laws_markVersionS_l_E2 (i : Nat × Unit) (p : Int × List (List (Int × Int × Int × Int × Int × Unit)) × Unit) (R : Type) (K : Ex → St → Option R) : Option R := K (Ex.exit 0) (laws_markVersionS_l_X2_0 i p)

noncomputable def laws_markVersionS_l_K2 (i : Nat × Unit) (p : Int × List (List (Int × Int × Int × Int × Int × Unit)) × Unit) : Ex × St := ((Ex.exit 0), laws_markVersionS_l_X2_0 i p)

def laws_markVersionS_l_M2 (i : Nat × Unit) (v : Int × Int × List (List (Int × Int × Int × Int × Int × Unit)) × Unit) : den laws_markVersionS_l_T2.ty := (i.1, v.1, v.2.1, v.2.2.1, ())

def laws_markVersionS_l_P2 (x : den laws_markVersionS_l_T2.ty) : (Nat × Unit) × (Int × Int × List (List (Int × Int × Int × Int × Int × Unit)) × Unit) := ((x.1, ()), (x.2.1, x.2.2.1, x.2.2.2.1, ()))

noncomputable def laws_markVersionS_l_F2 : LoopFn := fun s R K => Tmpl.readS laws_markVersionS_l_T2 1 s fun x => (iter (fun v => laws_markVersionS_l_D2 (laws_markVersionS_l_P2 x).1 v _ some) (laws_markVersionS_l_P2 x).2).bind fun p => laws_markVersionS_l_E2 (laws_markVersionS_l_P2 x).1 p R K

noncomputable def laws_markVersionS_l_C : Cfg := { ti := g_tis, ents := [], ann := [(2, laws_markVersionS_l_F2)], lent := 1 }

def laws_markVersionS_l_ti : Tmpl := Tmpl.mk (TmL.nown 0 0 (TmL.slot Ty.i TmL.nil)) (TmH.tree false 0 (Ty.slice (Ty.prod Ty.i (Ty.prod Ty.i (Ty.prod Ty.i (Ty.prod Ty.i (Ty.prod Ty.i
  Ty.unit)))))) TmH.nil)

def laws_markVersionS_l_to : Tmpl := Tmpl.mk (TmL.slot Ty.i TmL.nil) (TmH.tree false 0 (Ty.slice YVersion)
  TmH.nil)

noncomputable def laws_markVersionS_l_S (x : Nat × Int × List (List (Int × Int × Int × Int × Int × Unit)) × Unit) : Option (Int × List (List (Int × Int × Int × Int × Int × Unit)) × Unit) :=
  Option.bind (iter (fun v => laws_markVersionS_l_D2 (x.1, ()) v (Int × Int × List (List (Int × Int × Int × Int × Int × Unit)) × Unit ⊕ Int × List (List (Int × Int × Int × Int × Int × Unit)) × Unit) some) (x.2.1, 0, x.2.2.1, ())) fun p => some
  (p.1, p.2.1, ())

noncomputable def laws_markVersionS_l_Ent : Ent := ⟨115, laws_markVersionS_l_ti, laws_markVersionS_l_to, laws_markVersionS_l_S⟩

theorem laws_markVersionS_l_HC : CfgOK Go.Proofs.Try.prog laws_markVersionS_l_C := ⟨⟨info_ok g_tisOK⟩, all_nil, g_wide⟩

theorem laws_markVersionS_l_lk2 : ∀ F, ((laws_markVersionS_l_C).ann.find? fun x => x.1 == firstId ((loopsOf (codeOf Go.Proofs.Try.f115)).getD 0 .skip)).map (·.2) = some F → LoopOK Go.Proofs.Try.prog laws_markVersionS_l_C.lent ((loopsOf (codeOf Go.Proofs.Try.f115)).getD 0 .skip) F := by
  refine lookup_ok (show ((laws_markVersionS_l_C).ann.find? fun x => x.1 == firstId ((loopsOf (codeOf Go.Proofs.Try.f115)).getD 0 .skip)).map (·.2) = some laws_markVersionS_l_F2 from by kernel_rfl) ?_
  exact loop_ok laws_markVersionS_l_HC (loops_all 0 (by kernel_rfl) (fun k hk => absurd hk (Nat.not_lt_zero k))) laws_markVersionS_l_T2 [1] laws_markVersionS_l_M2 laws_markVersionS_l_P2 (fun x => rfl) laws_markVersionS_l_D2 laws_markVersionS_l_D2_nat laws_markVersionS_l_E2 laws_markVersionS_l_K2 (fun i p R K => rfl) (fun i v => by kernel_rfl)

theorem laws_markVersionS_l_VC (x : den laws_markVersionS_l_ti.ty) : vcall laws_markVersionS_l_C Go.Proofs.Try.f115 laws_markVersionS_l_ti laws_markVersionS_l_to x = laws_markVersionS_l_S x := by kernel_rfl

theorem laws_markVersionS_l_OK : EntOK Go.Proofs.Try.prog laws_markVersionS_l_Ent := EntOK.of_vcall laws_markVersionS_l_HC Go.Proofs.Try.func115 (body_loops (by kernel_rfl) (loops_all 1 (by kernel_rfl) (fun k hk => match k, hk with | 0, _ => laws_markVersionS_l_lk2))) (by kernel_rfl) (by kernel_rfl) laws_markVersionS_l_VC

/-! laws.markVersionSS -/

noncomputable def laws_markVersionSS_l_D2 (i : Unit) (v : Int × Int × List (List (Int × Int × Int × Int × Int × Unit)) × Unit) (R : Type) (K : Int × Int × List (List (Int × Int × Int × Int × Int × Unit)) × Unit ⊕ Int × List (List (Int × Int × Int × Int × Int × Unit)) × Unit → Option R) : Option R :=
  bif decide (v.2.1 < (↑(List.length v.2.2.1) : Int)) then if 0 ≤ v.2.1 ∧ v.2.1 < (↑(List.length v.2.2.1) : Int) then Option.bind v.2.2.1[0 + Int.toNat v.2.1]? fun v_1 => Option.bind (laws_markVersionS_l_S (0 + Int.toNat v.2.1, v.1, v.2.2.1,
  ())) fun v_2 => K (Sum.inl (v_2.1, IntKind.wrap IntKind.i64 (v.2.1 + 1), v_2.2.1, ())) else none else K (Sum.inr (v.1, v.2.2.1, ()))

theorem laws_markVersionSS_l_D2_nat (i : Unit) (v : Int × Int × List (List (Int × Int × Int × Int × Int × Unit)) × Unit) (R : Type) (K : Int × Int × List (List (Int × Int × Int × Int × Int × Unit)) × Unit ⊕ Int × List (List (Int × Int × Int × Int × Int × Unit)) × Unit → Option R) : laws_markVersionSS_l_D2 i v R K = (laws_markVersionSS_l_D2 i v _ some).bind K := nat_bif (nat_ite (nat_bind fun _ => nat_bind fun _ => nat_some)) (nat_some)

def laws_markVersionSS_l_T2 : Tmpl := Tmpl.mk (TmL.own 0 (TmL.slot Ty.i (TmL.junk (TmL.junk (TmL.junk (TmL.slot Ty.i (TmL.junk (TmL.junk (TmL.junk (TmL.junk (TmL.junk (TmL.junk (TmL.junk (TmL.junk (TmL.junk (TmL.junk (TmL.junk (TmL.junk (TmL.junk
  TmL.nil))))))))))))))))))) (TmH.tree false 0 (Ty.slice YVersion) TmH.nil)

def laws_markVersionSS_l_X2_0 (i : Unit) (p : Int × List (List (Int × Int × Int × Int × Int × Unit)) × Unit) : St :=
  St.mk [AV.junk, AV.pv Ty.i p.1, AV.junk, AV.junk, AV.junk, AV.junk, AV.junk, AV.junk, AV.junk, AV.junk, AV.junk, AV.junk, AV.junk, AV.junk, AV.junk, AV.junk, AV.junk, AV.junk, AV.junk] [some (Cont.tree false 0 (Ty.slice
  YVersion) p.2.1 none)]

noncomputable def laws_markVersionSS_l_E2 (i : Unit) (p : Int × List (List (Int × Int × Int × Int × Int × Unit)) × Unit) (R : Type) (K : Ex → St → Option R) : Option R := K (Ex.exit 0) (laws_markVersionSS_l_X2_0 i p)

noncomputable def laws_markVersionSS_l_K2 (i : Unit) (p : Int × List (List (Int × Int × Int × Int × Int × Unit)) × Unit) : Ex × St := ((Ex.exit 0), laws_markVersionSS_l_X2_0 i p)

def laws_markVersionSS_l_M2 (i : Unit) (v : Int × Int × List (List (Int × Int × Int × Int × Int × Unit)) × Unit) : den laws_markVersionSS_l_T2.ty := (v.1, v.2.1, v.2.2.1, ())

def laws_markVersionSS_l_P2 (x : den laws_markVersionSS_l_T2.ty) : (Unit) × (Int × Int × List (List (Int × Int × Int × Int × Int × Unit)) × Unit) := ((()), (x.1, x.2.1, x.2.2.1, ()))

noncomputable def laws_markVersionSS_l_F2 : LoopFn := fun s R K => Tmpl.readS laws_markVersionSS_l_T2 1 s fun x => (iter (fun v => laws_markVersionSS_l_D2 (laws_markVersionSS_l_P2 x).1 v _ some) (laws_markVersionSS_l_P2 x).2).bind fun p => laws_markVersionSS_l_E2 (laws_markVersionSS_l_P2 x).1 p R K

noncomputable def laws_markVersionSS_l_C : Cfg := { ti := g_tis, ents := [laws_markVersionS_l_Ent], ann := [(2, laws_markVersionSS_l_F2)], lent := 1 }

def laws_markVersionSS_l_ti : Tmpl := Tmpl.mk (TmL.own 0 (TmL.slot Ty.i TmL.nil)) (TmH.tree false 0 (Ty.slice (Ty.prod Ty.i (Ty.prod Ty.i (Ty.prod Ty.i (Ty.prod Ty.i (Ty.prod Ty.i
  Ty.unit)))))) TmH.nil)

def laws_markVersionSS_l_to : Tmpl := Tmpl.mk (TmL.slot Ty.i TmL.nil) (TmH.tree false 0 (Ty.slice YVersion)
  TmH.nil)

noncomputable def laws_markVersionSS_l_S (x : Int × List (List (Int × Int × Int × Int × Int × Unit)) × Unit) : Option (Int × List (List (Int × Int × Int × Int × Int × Unit)) × Unit) :=
  Option.bind (iter (fun v => laws_markVersionSS_l_D2 () v (Int × Int × List (List (Int × Int × Int × Int × Int × Unit)) × Unit ⊕ Int × List (List (Int × Int × Int × Int × Int × Unit)) × Unit) some) (x.1, 0, x.2.1, ())) fun p => some (p.1,
  p.2.1, ())

noncomputable def laws_markVersionSS_l_Ent : Ent := ⟨75, laws_markVersionSS_l_ti, laws_markVersionSS_l_to, laws_markVersionSS_l_S⟩

theorem laws_markVersionSS_l_HC : CfgOK Go.Proofs.Try.prog laws_markVersionSS_l_C := ⟨⟨info_ok g_tisOK⟩, (all_cons laws_markVersionS_l_OK all_nil), g_wide⟩

theorem laws_markVersionSS_l_lk2 : ∀ F, ((laws_markVersionSS_l_C).ann.find? fun x => x.1 == firstId ((loopsOf (codeOf Go.Proofs.Try.f75)).getD 0 .skip)).map (·.2) = some F → LoopOK Go.Proofs.Try.prog laws_markVersionSS_l_C.lent ((loopsOf (codeOf Go.Proofs.Try.f75)).getD 0 .skip) F := by
  refine lookup_ok (show ((laws_markVersionSS_l_C).ann.find? fun x => x.1 == firstId ((loopsOf (codeOf Go.Proofs.Try.f75)).getD 0 .skip)).map (·.2) = some laws_markVersionSS_l_F2 from by kernel_rfl) ?_
  exact loop_ok laws_markVersionSS_l_HC (loops_all 0 (by kernel_rfl) (fun k hk => absurd hk (Nat.not_lt_zero k))) laws_markVersionSS_l_T2 [1] laws_markVersionSS_l_M2 laws_markVersionSS_l_P2 (fun x => rfl) laws_markVersionSS_l_D2 laws_markVersionSS_l_D2_nat laws_markVersionSS_l_E2 laws_markVersionSS_l_K2 (fun i p R K => rfl) (fun i v => by kernel_rfl)

theorem laws_markVersionSS_l_VC (x : den laws_markVersionSS_l_ti.ty) : vcall laws_markVersionSS_l_C Go.Proofs.Try.f75 laws_markVersionSS_l_ti laws_markVersionSS_l_to x = laws_markVersionSS_l_S x := by kernel_rfl

theorem laws_markVersionSS_l_OK : EntOK Go.Proofs.Try.prog laws_markVersionSS_l_Ent := EntOK.of_vcall laws_markVersionSS_l_HC Go.Proofs.Try.func75 (body_loops (by kernel_rfl) (loops_all 1 (by kernel_rfl) (fun k hk => match k, hk with | 0, _ => laws_markVersionSS_l_lk2))) (by kernel_rfl) (by kernel_rfl) laws_markVersionSS_l_VC

/-! laws.markStore -/

noncomputable def laws_markStore_l_C : Cfg := { ti := g_tis, ents := [laws_markVersionSS_l_Ent], ann := [], lent := 1 }

def laws_markStore_l_ti : Tmpl := Tmpl.mk (TmL.agg (TmL.own 0 TmL.nil) (TmL.slot Ty.i TmL.nil)) (TmH.tree false 0 (Ty.slice (Ty.prod Ty.i (Ty.prod Ty.i (Ty.prod Ty.i (Ty.prod Ty.i (Ty.prod
  Ty.i Ty.unit)))))) TmH.nil)

def laws_markStore_l_to : Tmpl := Tmpl.mk (TmL.slot Ty.i TmL.nil) (TmH.tree false 0 (Ty.slice YVersion)
  TmH.nil)

noncomputable def laws_markStore_l_S (x : Int × List (List (Int × Int × Int × Int × Int × Unit)) × Unit) : Option (Int × List (List (Int × Int × Int × Int × Int × Unit)) × Unit) :=
  Option.bind (laws_markVersionSS_l_S (x.1, x.2.1, ())) fun v => some (v.1, v.2.1, ())

noncomputable def laws_markStore_l_Ent : Ent := ⟨28, laws_markStore_l_ti, laws_markStore_l_to, laws_markStore_l_S⟩

theorem laws_markStore_l_HC : CfgOK Go.Proofs.Try.prog laws_markStore_l_C := ⟨⟨info_ok g_tisOK⟩, (all_cons laws_markVersionSS_l_OK all_nil), g_wide⟩

theorem laws_markStore_l_VC (x : den laws_markStore_l_ti.ty) : vcall laws_markStore_l_C Go.Proofs.Try.f28 laws_markStore_l_ti laws_markStore_l_to x = laws_markStore_l_S x := by kernel_rfl

theorem laws_markStore_l_OK : EntOK Go.Proofs.Try.prog laws_markStore_l_Ent := EntOK.of_vcall laws_markStore_l_HC Go.Proofs.Try.func28 (body_loops (by kernel_rfl) (loops_all 0 (by kernel_rfl) (fun k hk => absurd hk (Nat.not_lt_zero k)))) (by kernel_rfl) (by kernel_rfl) laws_markStore_l_VC

/-! laws.markReplica -/

noncomputable def laws_markReplica_l_C : Cfg := { ti := g_tis, ents := [laws_markStore_l_Ent], ann := [], lent := 1 }

def laws_markReplica_l_ti : Tmpl := Tmpl.mk (TmL.agg (TmL.slot Ty.i (TmL.slot Ty.i (TmL.own 0 TmL.nil))) (TmL.slot Ty.i TmL.nil)) (TmH.tree false 0 (Ty.slice (Ty.prod Ty.i (Ty.prod Ty.i (Ty.prod
  Ty.i YReadMark)))) TmH.nil)

def laws_markReplica_l_to : Tmpl := Tmpl.mk (TmL.slot Ty.i TmL.nil) (TmH.tree false 0 (Ty.slice YVersion)
  TmH.nil)

noncomputable def laws_markReplica_l_S (x : Int × Int × Int × List (List (Int × Int × Int × Int × Int × Unit)) × Unit) : Option (Int × List (List (Int × Int × Int × Int × Int × Unit)) × Unit) :=
  Option.bind (laws_markStore_l_S (x.2.2.1, x.2.2.2.1, ())) fun v => some (v.1, v.2.1, ())

noncomputable def laws_markReplica_l_Ent : Ent := ⟨11, laws_markReplica_l_ti, laws_markReplica_l_to, laws_markReplica_l_S⟩

theorem laws_markReplica_l_HC : CfgOK Go.Proofs.Try.prog laws_markReplica_l_C := ⟨⟨info_ok g_tisOK⟩, (all_cons laws_markStore_l_OK all_nil), g_wide⟩

theorem laws_markReplica_l_VC (x : den laws_markReplica_l_ti.ty) : vcall laws_markReplica_l_C Go.Proofs.Try.f11 laws_markReplica_l_ti laws_markReplica_l_to x = laws_markReplica_l_S x := by kernel_rfl

theorem laws_markReplica_l_OK : EntOK Go.Proofs.Try.prog laws_markReplica_l_Ent := EntOK.of_vcall laws_markReplica_l_HC Go.Proofs.Try.func11 (body_loops (by kernel_rfl) (loops_all 0 (by kernel_rfl) (fun k hk => absurd hk (Nat.not_lt_zero k)))) (by kernel_rfl) (by kernel_rfl) laws_markReplica_l_VC

/-! laws.heldVersionS -/

noncomputable def laws_heldVersionS_D2 (i : List (Int × Int × Int × Int × Int × Unit) × Unit) (v : Int × Int × Unit) (R : Type) (K : Int × Int × Unit ⊕ Int × Unit ⊕ Int × Unit ⊕ Int × Unit ⊕ Int × Unit ⊕ Int × Unit ⊕ Int × Unit → Option R) : Option R :=
  bif decide (v.2.1 < (↑(List.length i.1) : Int)) then Option.bind (lAt i.1 v.2.1) fun v_1 => bif v_1.1 != v.1 then K (Sum.inr (Sum.inl (v.1, ()))) else Option.bind (lAt i.1 v.2.1) fun v_2 => bif v_2.2.1 != IntKind.wrap IntKind.i64 (v.1 + 1)
  then K (Sum.inr (Sum.inr (Sum.inl (IntKind.wrap IntKind.i64 (v.1 + 1), ())))) else Option.bind (lAt i.1 v.2.1) fun v_3 => bif v_3.2.2.1 != IntKind.wrap IntKind.i64 (IntKind.wrap IntKind.i64 (v.1 + 1) + 1) then K (Sum.inr (Sum.inr (Sum.inr
  (Sum.inl (IntKind.wrap IntKind.i64 (IntKind.wrap IntKind.i64 (v.1 + 1) + 1), ()))))) else Option.bind (lAt i.1 v.2.1) fun v_4 => bif v_4.2.2.2.1 != IntKind.wrap IntKind.i64 (IntKind.wrap IntKind.i64 (IntKind.wrap IntKind.i64 (v.1 + 1) + 1) +
  1) then K (Sum.inr (Sum.inr (Sum.inr (Sum.inr (Sum.inl (IntKind.wrap IntKind.i64 (IntKind.wrap IntKind.i64 (IntKind.wrap IntKind.i64 (v.1 + 1) + 1) + 1), ())))))) else Option.bind (lAt i.1 v.2.1) fun v_5 => bif v_5.2.2.2.2.1 != IntKind.wrap
  IntKind.i64 (IntKind.wrap IntKind.i64 (IntKind.wrap IntKind.i64 (IntKind.wrap IntKind.i64 (v.1 + 1) + 1) + 1) + 1) then K (Sum.inr (Sum.inr (Sum.inr (Sum.inr (Sum.inr (Sum.inl (IntKind.wrap IntKind.i64 (IntKind.wrap IntKind.i64 (IntKind.wrap
  IntKind.i64 (IntKind.wrap IntKind.i64 (v.1 + 1) + 1) + 1) + 1), ()))))))) else K (Sum.inl (IntKind.wrap IntKind.i64 (IntKind.wrap IntKind.i64 (IntKind.wrap IntKind.i64 (IntKind.wrap IntKind.i64 (IntKind.wrap IntKind.i64 (v.1 + 1) + 1) + 1) +
  1) + 1), IntKind.wrap IntKind.i64 (v.2.1 + 1), ())) else K (Sum.inr (Sum.inr (Sum.inr (Sum.inr (Sum.inr (Sum.inr (v.1, ())))))))

theorem laws_heldVersionS_D2_nat (i : List (Int × Int × Int × Int × Int × Unit) × Unit) (v : Int × Int × Unit) (R : Type) (K : Int × Int × Unit ⊕ Int × Unit ⊕ Int × Unit ⊕ Int × Unit ⊕ Int × Unit ⊕ Int × Unit ⊕ Int × Unit → Option R) : laws_heldVersionS_D2 i v R K = (laws_heldVersionS_D2 i v _ some).bind K := nat_bif (nat_bind fun _ => nat_bif (nat_some) (nat_bind fun _ => nat_bif (nat_some) (nat_bind fun _ => nat_bif (nat_some) (nat_bind fun _ => nat_bif (nat_some) (nat_bind fun _ => nat_bif (nat_some) (nat_some)))))) (nat_some)

def laws_heldVersionS_T2 : Tmpl := Tmpl.mk (TmL.slot (Ty.slice YVersion) (TmL.slot Ty.i (TmL.junk
  (TmL.junk (TmL.junk (TmL.slot Ty.i (TmL.junk (TmL.junk (TmL.junk (TmL.junk (TmL.junk (TmL.junk (TmL.junk (TmL.junk (TmL.junk (TmL.junk (TmL.junk (TmL.junk (TmL.junk (TmL.junk (TmL.junk (TmL.junk (TmL.junk (TmL.junk (TmL.junk
  (TmL.junk (TmL.junk (TmL.junk (TmL.junk (TmL.junk (TmL.junk (TmL.junk (TmL.junk (TmL.junk (TmL.junk (TmL.junk (TmL.junk (TmL.junk (TmL.junk (TmL.junk (TmL.junk (TmL.junk (TmL.junk (TmL.junk (TmL.junk (TmL.junk (TmL.junk (TmL.junk (TmL.junk
  (TmL.junk (TmL.junk (TmL.junk (TmL.junk (TmL.junk (TmL.junk (TmL.junk (TmL.junk (TmL.junk TmL.nil)))))))))))))))))))))))))))))))))))))))))))))))))))))))))) TmH.nil

def laws_heldVersionS_X2_0 (i : List (Int × Int × Int × Int × Int × Unit) × Unit) (p : Int × Unit) : St :=
  St.mk [AV.junk, AV.pv Ty.i p.1, AV.junk, AV.junk, AV.pv Ty.i (-1), AV.junk, AV.junk, AV.junk, AV.junk, AV.junk, AV.junk, AV.junk, AV.junk, AV.junk, AV.junk, AV.junk, AV.junk, AV.junk, AV.junk, AV.junk,
  AV.junk, AV.junk, AV.junk, AV.junk, AV.junk, AV.junk, AV.junk, AV.junk, AV.junk, AV.junk, AV.junk, AV.junk, AV.junk, AV.junk, AV.junk, AV.junk, AV.junk, AV.junk, AV.junk, AV.junk, AV.junk, AV.junk, AV.junk, AV.junk, AV.junk, AV.junk,
  AV.junk, AV.junk, AV.junk, AV.junk, AV.junk, AV.junk, AV.junk, AV.junk, AV.junk, AV.junk, AV.junk, AV.junk] []

def laws_heldVersionS_X2_1 (i : List (Int × Int × Int × Int × Int × Unit) × Unit) (p : Int × Unit) : St :=
  St.mk [AV.junk, AV.pv Ty.i p.1, AV.junk, AV.junk, AV.pv Ty.i (-1), AV.junk, AV.junk, AV.junk, AV.junk, AV.junk, AV.junk, AV.junk, AV.junk, AV.junk, AV.junk, AV.junk, AV.junk, AV.junk, AV.junk, AV.junk,
  AV.junk, AV.junk, AV.junk, AV.junk, AV.junk, AV.junk, AV.junk, AV.junk, AV.junk, AV.junk, AV.junk, AV.junk, AV.junk, AV.junk, AV.junk, AV.junk, AV.junk, AV.junk, AV.junk, AV.junk, AV.junk, AV.junk, AV.junk, AV.junk, AV.junk, AV.junk,
  AV.junk, AV.junk, AV.junk, AV.junk, AV.junk, AV.junk, AV.junk, AV.junk, AV.junk, AV.junk, AV.junk, AV.junk] []

def laws_heldVersionS_X2_2 (i : List (Int × Int × Int × Int × Int × Unit) × Unit) (p : Int × Unit) : St :=
  St.mk [AV.junk, AV.pv Ty.i p.1, AV.junk, AV.junk, AV.pv Ty.i (-1), AV.junk, AV.junk, AV.junk, AV.junk, AV.junk, AV.junk, AV.junk, AV.junk, AV.junk, AV.junk, AV.junk, AV.junk, AV.junk, AV.junk, AV.junk,
  AV.junk, AV.junk, AV.junk, AV.junk, AV.junk, AV.junk, AV.junk, AV.junk, AV.junk, AV.junk, AV.junk, AV.junk, AV.junk, AV.junk, AV.junk, AV.junk, AV.junk, AV.junk, AV.junk, AV.junk, AV.junk, AV.junk, AV.junk, AV.junk, AV.junk, AV.junk,
  AV.junk, AV.junk, AV.junk, AV.junk, AV.junk, AV.junk, AV.junk, AV.junk, AV.junk, AV.junk, AV.junk, AV.junk] []

def laws_heldVersionS_X2_3 (i : List (Int × Int × Int × Int × Int × Unit) × Unit) (p : Int × Unit) : St :=
  St.mk [AV.junk, AV.pv Ty.i p.1, AV.junk, AV.junk, AV.pv Ty.i (-1), AV.junk, AV.junk, AV.junk, AV.junk, AV.junk, AV.junk, AV.junk, AV.junk, AV.junk, AV.junk, AV.junk, AV.junk, AV.junk, AV.junk, AV.junk,
  AV.junk, AV.junk, AV.junk, AV.junk, AV.junk, AV.junk, AV.junk, AV.junk, AV.junk, AV.junk, AV.junk, AV.junk, AV.junk, AV.junk, AV.junk, AV.junk, AV.junk, AV.junk, AV.junk, AV.junk, AV.junk, AV.junk, AV.junk, AV.junk, AV.junk, AV.junk,
  AV.junk, AV.junk, AV.junk, AV.junk, AV.junk, AV.junk, AV.junk, AV.junk, AV.junk, AV.junk, AV.junk, AV.junk] []

def laws_heldVersionS_X2_4 (i : List (Int × Int × Int × Int × Int × Unit) × Unit) (p : Int × Unit) : St :=
  St.mk [AV.junk, AV.pv Ty.i p.1, AV.junk, AV.junk, AV.pv Ty.i (-1), AV.junk, AV.junk, AV.junk, AV.junk, AV.junk, AV.junk, AV.junk, AV.junk, AV.junk, AV.junk, AV.junk, AV.junk, AV.junk, AV.junk, AV.junk,
  AV.junk, AV.junk, AV.junk, AV.junk, AV.junk, AV.junk, AV.junk, AV.junk, AV.junk, AV.junk, AV.junk, AV.junk, AV.junk, AV.junk, AV.junk, AV.junk, AV.junk, AV.junk, AV.junk, AV.junk, AV.junk, AV.junk, AV.junk, AV.junk, AV.junk, AV.junk,
  AV.junk, AV.junk, AV.junk, AV.junk, AV.junk, AV.junk, AV.junk, AV.junk, AV.junk, AV.junk, AV.junk, AV.junk] []

def laws_heldVersionS_X2_5 (i : List (Int × Int × Int × Int × Int × Unit) × Unit) (p : Int × Unit) : St :=
  St.mk [AV.junk, AV.pv Ty.i p.1, AV.junk, AV.junk, AV.junk, AV.junk, AV.junk, AV.junk, AV.junk, AV.junk, AV.junk, AV.junk, AV.junk, AV.junk, AV.junk, AV.junk, AV.junk, AV.junk, AV.junk, AV.junk, AV.junk, AV.junk, AV.junk,
  AV.junk, AV.junk, AV.junk, AV.junk, AV.junk, AV.junk, AV.junk, AV.junk, AV.junk, AV.junk, AV.junk, AV.junk, AV.junk, AV.junk, AV.junk, AV.junk, AV.junk, AV.junk, AV.junk, AV.junk, AV.junk, AV.junk, AV.junk, AV.junk, AV.junk, AV.junk,
  AV.junk, AV.junk, AV.junk, AV.junk, AV.junk, AV.junk, AV.junk, AV.junk, AV.junk] []

noncomputable def laws_heldVersionS_E2 (i : List (Int × Int × Int × Int × Int × Unit) × Unit) (p : Int × Unit ⊕ Int × Unit ⊕ Int × Unit ⊕ Int × Unit ⊕ Int × Unit ⊕ Int × Unit) (R : Type) (K : Ex → St → Option R) : Option R := sumC p (fun p => K (Ex.ret) (laws_heldVersionS_X2_0 i p)) (fun p => sumC p (fun p => K (Ex.ret) (laws_heldVersionS_X2_1 i p)) (fun p => sumC p (fun p => K (Ex.ret) (laws_heldVersionS_X2_2 i p)) (fun p => sumC p (fun p => K (Ex.ret) (laws_heldVersionS_X2_3 i p)) (fun p => sumC p (fun p => K (Ex.ret) (laws_heldVersionS_X2_4 i p)) (fun p => K (Ex.exit 0) (laws_heldVersionS_X2_5 i p))))))

noncomputable def laws_heldVersionS_K2 (i : List (Int × Int × Int × Int × Int × Unit) × Unit) (p : Int × Unit ⊕ Int × Unit ⊕ Int × Unit ⊕ Int × Unit ⊕ Int × Unit ⊕ Int × Unit) : Ex × St := sumC p (fun p => ((Ex.ret), laws_heldVersionS_X2_0 i p)) (fun p => sumC p (fun p => ((Ex.ret), laws_heldVersionS_X2_1 i p)) (fun p => sumC p (fun p => ((Ex.ret), laws_heldVersionS_X2_2 i p)) (fun p => sumC p (fun p => ((Ex.ret), laws_heldVersionS_X2_3 i p)) (fun p => sumC p (fun p => ((Ex.ret), laws_heldVersionS_X2_4 i p)) (fun p => ((Ex.exit 0), laws_heldVersionS_X2_5 i p))))))

def laws_heldVersionS_M2 (i : List (Int × Int × Int × Int × Int × Unit) × Unit) (v : Int × Int × Unit) : den laws_heldVersionS_T2.ty := (i.1, v.1, v.2.1, ())

def laws_heldVersionS_P2 (x : den laws_heldVersionS_T2.ty) : (List (Int × Int × Int × Int × Int × Unit) × Unit) × (Int × Int × Unit) := ((x.1, ()), (x.2.1, x.2.2.1, ()))

noncomputable def laws_heldVersionS_F2 : LoopFn := fun s R K => Tmpl.readS laws_heldVersionS_T2 0 s fun x => (iter (fun v => laws_heldVersionS_D2 (laws_heldVersionS_P2 x).1 v _ some) (laws_heldVersionS_P2 x).2).bind fun p => laws_heldVersionS_E2 (laws_heldVersionS_P2 x).1 p R K

noncomputable def laws_heldVersionS_C : Cfg := { ti := g_tis, ents := [], ann := [(2, laws_heldVersionS_F2)], lent := 0 }

def laws_heldVersionS_ti : Tmpl := Tmpl.mk (TmL.slot (Ty.slice YVersion) (TmL.slot Ty.i TmL.nil)) TmH.nil

def laws_heldVersionS_to : Tmpl := Tmpl.mk (TmL.slot Ty.i TmL.nil) TmH.nil

noncomputable def laws_heldVersionS_S (x : List (Int × Int × Int × Int × Int × Unit) × Int × Unit) : Option (Int × Unit) :=
  Option.bind (iter (fun v => laws_heldVersionS_D2 (x.1, ()) v (Int × Int × Unit ⊕ Int × Unit ⊕ Int × Unit ⊕ Int × Unit ⊕ Int × Unit ⊕ Int × Unit ⊕ Int × Unit) some) (x.2.1, 0, ())) fun p => sumC p (fun p => some (-1, ())) fun p => sumC p (fun
  p => some (-1, ())) fun p => sumC p (fun p => some (-1, ())) fun p => sumC p (fun p => some (-1, ())) fun p => sumC p (fun p => some (-1, ())) fun p => some (p.1, ())

noncomputable def laws_heldVersionS_Ent : Ent := ⟨116, laws_heldVersionS_ti, laws_heldVersionS_to, laws_heldVersionS_S⟩

theorem laws_heldVersionS_HC : CfgOK Go.Proofs.Try.prog laws_heldVersionS_C := ⟨⟨info_ok g_tisOK⟩, all_nil, g_wide⟩

theorem laws_heldVersionS_lk2 : ∀ F, ((laws_heldVersionS_C).ann.find? fun x => x.1 == firstId ((loopsOf (codeOf Go.Proofs.Try.f116)).getD 0 .skip)).map (·.2) = some F → LoopOK Go.Proofs.Try.prog laws_heldVersionS_C.lent ((loopsOf (codeOf Go.Proofs.Try.f116)).getD 0 .skip) F := by
  refine lookup_ok (show ((laws_heldVersionS_C).ann.find? fun x => x.1 == firstId ((loopsOf (codeOf Go.Proofs.Try.f116)).getD 0 .skip)).map (·.2) = some laws_heldVersionS_F2 from by kernel_rfl) ?_
  exact loop_ok laws_heldVersionS_HC (loops_all 0 (by kernel_rfl) (fun k hk => absurd hk (Nat.not_lt_zero k))) laws_heldVersionS_T2 [1, 4] laws_heldVersionS_M2 laws_heldVersionS_P2 (fun x => rfl) laws_heldVersionS_D2 laws_heldVersionS_D2_nat laws_heldVersionS_E2 laws_heldVersionS_K2 (fun i p R K => by rcases p with p | p | p | p | p | p <;> rfl) (fun i v => by kernel_rfl)

theorem laws_heldVersionS_VC (x : den laws_heldVersionS_ti.ty) : vcall laws_heldVersionS_C Go.Proofs.Try.f116 laws_heldVersionS_ti laws_heldVersionS_to x = laws_heldVersionS_S x := by kernel_rfl

theorem laws_heldVersionS_OK : EntOK Go.Proofs.Try.prog laws_heldVersionS_Ent := EntOK.of_vcall laws_heldVersionS_HC Go.Proofs.Try.func116 (body_loops (by kernel_rfl) (loops_all 1 (by kernel_rfl) (fun k hk => match k, hk with | 0, _ => laws_heldVersionS_lk2))) (by kernel_rfl) (by kernel_rfl) laws_heldVersionS_VC

/-! laws.heldVersionSS -/

noncomputable def laws_heldVersionSS_D2 (i : List (List (Int × Int × Int × Int × Int × Unit)) × Unit) (v : Int × Int × Unit) (R : Type) (K : Int × Int × Unit ⊕ Int × Unit ⊕ Int × Unit → Option R) : Option R :=
  bif decide (v.2.1 < (↑(List.length i.1) : Int)) then Option.bind (lAt i.1 v.2.1) fun v_1 => Option.bind (laws_heldVersionS_S (v_1, v.1, ())) fun v_2 => bif decide (v_2.1 < 0) then K (Sum.inr (Sum.inl (v_2.1, ()))) else K (Sum.inl (v_2.1,
  IntKind.wrap IntKind.i64 (v.2.1 + 1), ())) else K (Sum.inr (Sum.inr (v.1, ())))

theorem laws_heldVersionSS_D2_nat (i : List (List (Int × Int × Int × Int × Int × Unit)) × Unit) (v : Int × Int × Unit) (R : Type) (K : Int × Int × Unit ⊕ Int × Unit ⊕ Int × Unit → Option R) : laws_heldVersionSS_D2 i v R K = (laws_heldVersionSS_D2 i v _ some).bind K := nat_bif (nat_bind fun _ => nat_bind fun _ => nat_bif (nat_some) (nat_some)) (nat_some)

def laws_heldVersionSS_T2 : Tmpl := Tmpl.mk (TmL.slot (Ty.slice (Ty.slice YVersion)) (TmL.slot Ty.i
  (TmL.junk (TmL.junk (TmL.junk (TmL.slot Ty.i (TmL.junk (TmL.junk (TmL.junk (TmL.junk (TmL.junk (TmL.junk (TmL.junk (TmL.junk (TmL.junk (TmL.junk (TmL.junk (TmL.junk (TmL.junk (TmL.junk (TmL.junk TmL.nil)))))))))))))))))))))
  TmH.nil

def laws_heldVersionSS_X2_0 (i : List (List (Int × Int × Int × Int × Int × Unit)) × Unit) (p : Int × Unit) : St :=
  St.mk [AV.junk, AV.pv Ty.i p.1, AV.junk, AV.junk, AV.pv Ty.i (-1), AV.junk, AV.junk, AV.junk, AV.junk, AV.junk, AV.junk, AV.junk, AV.junk, AV.junk, AV.junk, AV.junk, AV.junk, AV.junk, AV.junk, AV.junk,
  AV.junk] []

def laws_heldVersionSS_X2_1 (i : List (List (Int × Int × Int × Int × Int × Unit)) × Unit) (p : Int × Unit) : St :=
  St.mk [AV.junk, AV.pv Ty.i p.1, AV.junk, AV.junk, AV.junk, AV.junk, AV.junk, AV.junk, AV.junk, AV.junk, AV.junk, AV.junk, AV.junk, AV.junk, AV.junk, AV.junk, AV.junk, AV.junk, AV.junk, AV.junk, AV.junk] []

noncomputable def laws_heldVersionSS_E2 (i : List (List (Int × Int × Int × Int × Int × Unit)) × Unit) (p : Int × Unit ⊕ Int × Unit) (R : Type) (K : Ex → St → Option R) : Option R := sumC p (fun p => K (Ex.ret) (laws_heldVersionSS_X2_0 i p)) (fun p => K (Ex.exit 0) (laws_heldVersionSS_X2_1 i p))

noncomputable def laws_heldVersionSS_K2 (i : List (List (Int × Int × Int × Int × Int × Unit)) × Unit) (p : Int × Unit ⊕ Int × Unit) : Ex × St := sumC p (fun p => ((Ex.ret), laws_heldVersionSS_X2_0 i p)) (fun p => ((Ex.exit 0), laws_heldVersionSS_X2_1 i p))

def laws_heldVersionSS_M2 (i : List (List (Int × Int × Int × Int × Int × Unit)) × Unit) (v : Int × Int × Unit) : den laws_heldVersionSS_T2.ty := (i.1, v.1, v.2.1, ())

def laws_heldVersionSS_P2 (x : den laws_heldVersionSS_T2.ty) : (List (List (Int × Int × Int × Int × Int × Unit)) × Unit) × (Int × Int × Unit) := ((x.1, ()), (x.2.1, x.2.2.1, ()))

noncomputable def laws_heldVersionSS_F2 : LoopFn := fun s R K => Tmpl.readS laws_heldVersionSS_T2 0 s fun x => (iter (fun v => laws_heldVersionSS_D2 (laws_heldVersionSS_P2 x).1 v _ some) (laws_heldVersionSS_P2 x).2).bind fun p => laws_heldVersionSS_E2 (laws_heldVersionSS_P2 x).1 p R K

noncomputable def laws_heldVersionSS_C : Cfg := { ti := g_tis, ents := [laws_heldVersionS_Ent], ann := [(2, laws_heldVersionSS_F2)], lent := 0 }

def laws_heldVersionSS_ti : Tmpl := Tmpl.mk (TmL.slot (Ty.slice (Ty.slice YVersion)) (TmL.slot Ty.i
  TmL.nil)) TmH.nil

def laws_heldVersionSS_to : Tmpl := Tmpl.mk (TmL.slot Ty.i TmL.nil) TmH.nil

noncomputable def laws_heldVersionSS_S (x : List (List (Int × Int × Int × Int × Int × Unit)) × Int × Unit) : Option (Int × Unit) :=
  Option.bind (iter (fun v => laws_heldVersionSS_D2 (x.1, ()) v (Int × Int × Unit ⊕ Int × Unit ⊕ Int × Unit) some) (x.2.1, 0, ())) fun p => sumC p (fun p => some (-1, ())) fun p => some (p.1, ())

noncomputable def laws_heldVersionSS_Ent : Ent := ⟨76, laws_heldVersionSS_ti, laws_heldVersionSS_to, laws_heldVersionSS_S⟩

theorem laws_heldVersionSS_HC : CfgOK Go.Proofs.Try.prog laws_heldVersionSS_C := ⟨⟨info_ok g_tisOK⟩, (all_cons laws_heldVersionS_OK all_nil), g_wide⟩

theorem laws_heldVersionSS_lk2 : ∀ F, ((laws_heldVersionSS_C).ann.find? fun x => x.1 == firstId ((loopsOf (codeOf Go.Proofs.Try.f76)).getD 0 .skip)).map (·.2) = some F → LoopOK Go.Proofs.Try.prog laws_heldVersionSS_C.lent ((loopsOf (codeOf Go.Proofs.Try.f76)).getD 0 .skip) F := by
  refine lookup_ok (show ((laws_heldVersionSS_C).ann.find? fun x => x.1 == firstId ((loopsOf (codeOf Go.Proofs.Try.f76)).getD 0 .skip)).map (·.2) = some laws_heldVersionSS_F2 from by kernel_rfl) ?_
  exact loop_ok laws_heldVersionSS_HC (loops_all 0 (by kernel_rfl) (fun k hk => absurd hk (Nat.not_lt_zero k))) laws_heldVersionSS_T2 [1, 4] laws_heldVersionSS_M2 laws_heldVersionSS_P2 (fun x => rfl) laws_heldVersionSS_D2 laws_heldVersionSS_D2_nat laws_heldVersionSS_E2 laws_heldVersionSS_K2 (fun i p R K => by rcases p with p | p <;> rfl) (fun i v => by kernel_rfl)

theorem laws_heldVersionSS_VC (x : den laws_heldVersionSS_ti.ty) : vcall laws_heldVersionSS_C Go.Proofs.Try.f76 laws_heldVersionSS_ti laws_heldVersionSS_to x = laws_heldVersionSS_S x := by kernel_rfl

theorem laws_heldVersionSS_OK : EntOK Go.Proofs.Try.prog laws_heldVersionSS_Ent := EntOK.of_vcall laws_heldVersionSS_HC Go.Proofs.Try.func76 (body_loops (by kernel_rfl) (loops_all 1 (by kernel_rfl) (fun k hk => match k, hk with | 0, _ => laws_heldVersionSS_lk2))) (by kernel_rfl) (by kernel_rfl) laws_heldVersionSS_VC

/-! laws.heldStore -/

noncomputable def laws_heldStore_C : Cfg := { ti := g_tis, ents := [laws_heldVersionSS_Ent], ann := [], lent := 0 }

def laws_heldStore_ti : Tmpl := Tmpl.mk (TmL.slot YStore (TmL.slot (Ty.int
  IntKind.i64) TmL.nil)) TmH.nil

def laws_heldStore_to : Tmpl := Tmpl.mk (TmL.slot Ty.i TmL.nil) TmH.nil

noncomputable def laws_heldStore_S (x : (List (List (Int × Int × Int × Int × Int × Unit)) × Unit) × Int × Unit) : Option (Int × Unit) :=
  Option.bind (laws_heldVersionSS_S (x.1.1, x.2.1, ())) fun v => bif decide (v.1 < 0) then some (-1, ()) else some (v.1, ())

noncomputable def laws_heldStore_Ent : Ent := ⟨30, laws_heldStore_ti, laws_heldStore_to, laws_heldStore_S⟩

theorem laws_heldStore_HC : CfgOK Go.Proofs.Try.prog laws_heldStore_C := ⟨⟨info_ok g_tisOK⟩, (all_cons laws_heldVersionSS_OK all_nil), g_wide⟩

theorem laws_heldStore_VC (x : den laws_heldStore_ti.ty) : vcall laws_heldStore_C Go.Proofs.Try.f30 laws_heldStore_ti laws_heldStore_to x = laws_heldStore_S x := by kernel_rfl

theorem laws_heldStore_OK : EntOK Go.Proofs.Try.prog laws_heldStore_Ent := EntOK.of_vcall laws_heldStore_HC Go.Proofs.Try.func30 (body_loops (by kernel_rfl) (loops_all 0 (by kernel_rfl) (fun k hk => absurd hk (Nat.not_lt_zero k)))) (by kernel_rfl) (by kernel_rfl) laws_heldStore_VC

/-! laws.heldReplica -/

noncomputable def laws_heldReplica_C : Cfg := { ti := g_tis, ents := [laws_heldStore_Ent], ann := [], lent := 0 }

def laws_heldReplica_ti : Tmpl := Tmpl.mk (TmL.slot (Ty.prod Ty.i (Ty.prod Ty.i (Ty.prod (Ty.prod (Ty.slice (Ty.slice (Ty.prod Ty.i (Ty.prod Ty.i (Ty.prod Ty.i (Ty.prod Ty.i
  (Ty.prod Ty.i Ty.unit))))))) Ty.unit) Ty.unit))) (TmL.slot Ty.i TmL.nil)) TmH.nil

def laws_heldReplica_to : Tmpl := Tmpl.mk (TmL.slot Ty.i TmL.nil) TmH.nil

noncomputable def laws_heldReplica_S (x : (Int × Int × (List (List (Int × Int × Int × Int × Int × Unit)) × Unit) × Unit) × Int × Unit) : Option (Int × Unit) :=
  Option.bind (laws_heldStore_S ((x.1.2.2.1.1, ()), x.2.1, ())) fun v => bif decide (v.1 < 0) then some (-1, ()) else some (v.1, ())

noncomputable def laws_heldReplica_Ent : Ent := ⟨12, laws_heldReplica_ti, laws_heldReplica_to, laws_heldReplica_S⟩

theorem laws_heldReplica_HC : CfgOK Go.Proofs.Try.prog laws_heldReplica_C := ⟨⟨info_ok g_tisOK⟩, (all_cons laws_heldStore_OK all_nil), g_wide⟩

theorem laws_heldReplica_VC (x : den laws_heldReplica_ti.ty) : vcall laws_heldReplica_C Go.Proofs.Try.f12 laws_heldReplica_ti laws_heldReplica_to x = laws_heldReplica_S x := by kernel_rfl

theorem laws_heldReplica_OK : EntOK Go.Proofs.Try.prog laws_heldReplica_Ent := EntOK.of_vcall laws_heldReplica_HC Go.Proofs.Try.func12 (body_loops (by kernel_rfl) (loops_all 0 (by kernel_rfl) (fun k hk => absurd hk (Nat.not_lt_zero k)))) (by kernel_rfl) (by kernel_rfl) laws_heldReplica_VC

/-! laws.FnExactNewReplica -/

noncomputable def laws_FnExactNewReplica_C : Cfg := { ti := g_tis, ents := [laws_markReplica_l_Ent, spec_NewReplica_Ent, impl_NewReplica_Ent, laws_eqReplica_Ent, laws_heldReplica_Ent], ann := [], lent := 0 }

def laws_FnExactNewReplica_ti : Tmpl := Tmpl.mk TmL.nil TmH.nil

def laws_FnExactNewReplica_to : Tmpl := Tmpl.mk (TmL.slot Ty.bool TmL.nil) TmH.nil

noncomputable def laws_FnExactNewReplica_S (x : Unit) : Option (Bool × Unit) :=
  Option.bind (spec_NewReplica_S ()) fun v => Option.bind (impl_NewReplica_S ()) fun v_1 => Option.bind (laws_eqReplica_S ((v_1.1, v_1.2.1, (v_1.2.2.1, ()), ()), (v.1, v.2.1, (v.2.2.1, ()), ()), ())) fun v_2 => bif !v_2.1 then some (false, ())
  else Option.bind (laws_markReplica_l_S (v_1.1, v_1.2.1, 1, v_1.2.2.1, ())) fun v_3 => Option.bind (laws_heldReplica_S ((v_1.1, v_1.2.1, (v_3.2.1, ()), ()), 1, ())) fun v_4 => bif decide (v_4.1 < 0) then some (false, ()) else bif v_4.1 !=
  v_3.1 then some (false, ()) else Option.bind (impl_NewReplica_S ()) fun v_5 => Option.bind (laws_eqReplica_S ((v_5.1, v_5.2.1, (v_5.2.2.1, ()), ()), (v.1, v.2.1, (v.2.2.1, ()), ()), ())) fun v => bif !v.1 then some (false, ()) else
  Option.bind (laws_heldReplica_S ((v_1.1, v_1.2.1, (v_3.2.1, ()), ()), 1, ())) fun v => bif decide (v.1 < 0) then some (false, ()) else bif v.1 != v_3.1 then some (false, ()) else some (true, ())

noncomputable def laws_FnExactNewReplica_Ent : Ent := ⟨3, laws_FnExactNewReplica_ti, laws_FnExactNewReplica_to, laws_FnExactNewReplica_S⟩

theorem laws_FnExactNewReplica_HC : CfgOK Go.Proofs.Try.prog laws_FnExactNewReplica_C := ⟨⟨info_ok g_tisOK⟩, (all_cons laws_markReplica_l_OK (all_cons spec_NewReplica_OK (all_cons impl_NewReplica_OK (all_cons laws_eqReplica_OK (all_cons laws_heldReplica_OK all_nil))))), g_wide⟩

theorem laws_FnExactNewReplica_VC (x : den laws_FnExactNewReplica_ti.ty) : vcall laws_FnExactNewReplica_C Go.Proofs.Try.f3 laws_FnExactNewReplica_ti laws_FnExactNewReplica_to x = laws_FnExactNewReplica_S x := by kernel_rfl

theorem laws_FnExactNewReplica_OK : EntOK Go.Proofs.Try.prog laws_FnExactNewReplica_Ent := EntOK.of_vcall laws_FnExactNewReplica_HC Go.Proofs.Try.func3 (body_loops (by kernel_rfl) (loops_all 0 (by kernel_rfl) (fun k hk => absurd hk (Nat.not_lt_zero k)))) (by kernel_rfl) (by kernel_rfl) laws_FnExactNewReplica_VC

end Go.Ab
