import Derived.Test.YtaefbkkplgaplaaHd
set_option maxRecDepth 100000
set_option linter.unusedVariables false
namespace Go.Ab

/-! laws.eqVersion -/

noncomputable def laws_eqVersion_C : Cfg := { ti := g_tis, ents := [], ann := [], lent := 0 }

def laws_eqVersion_ti : Tmpl := Tmpl.mk (TmL.slot YVersion (TmL.slot (Ty.prod Ty.i (Ty.prod (Ty.int
  IntKind.i64) (Ty.prod Ty.i YReadMark))) TmL.nil)) TmH.nil

def laws_eqVersion_to : Tmpl := Tmpl.mk (TmL.slot Ty.bool TmL.nil) TmH.nil

noncomputable def laws_eqVersion_S (x : (Int × Int × Int × Int × Int × Unit) × (Int × Int × Int × Int × Int × Unit) × Unit) : Option (Bool × Unit) :=
  bif x.1.1 != x.2.1.1 then some (false, ()) else bif x.1.2.1 != x.2.1.2.1 then some (false, ()) else bif x.1.2.2.1 != x.2.1.2.2.1 then some (false, ()) else bif x.1.2.2.2.1 != x.2.1.2.2.2.1 then some (false, ()) else bif x.1.2.2.2.2.1 !=
  x.2.1.2.2.2.2.1 then some (false, ()) else some (true, ())

noncomputable def laws_eqVersion_Ent : Ent := ⟨148, laws_eqVersion_ti, laws_eqVersion_to, laws_eqVersion_S⟩

theorem laws_eqVersion_HC : CfgOK Go.Proofs.Try.prog laws_eqVersion_C := ⟨⟨info_ok g_tisOK⟩, all_nil, g_wide⟩

theorem laws_eqVersion_VC (x : den laws_eqVersion_ti.ty) : vcall laws_eqVersion_C Go.Proofs.Try.f148 laws_eqVersion_ti laws_eqVersion_to x = laws_eqVersion_S x := by kernel_rfl

theorem laws_eqVersion_OK : EntOK Go.Proofs.Try.prog laws_eqVersion_Ent := EntOK.of_vcall laws_eqVersion_HC Go.Proofs.Try.func148 (body_loops (by kernel_rfl) (loops_all 0 (by kernel_rfl) (fun k hk => absurd hk (Nat.not_lt_zero k)))) (by kernel_rfl) (by kernel_rfl) laws_eqVersion_VC

/-! laws.eqVersionS -/

noncomputable def laws_eqVersionS_D4 (i : List (Int × Int × Int × Int × Int × Unit) × List (Int × Int × Int × Int × Int × Unit) × Unit) (v : Int × Unit) (R : Type) (K : Int × Unit ⊕ Unit ⊕ Unit → Option R) : Option R :=
  bif decide (v.1 < (↑(List.length i.1) : Int)) then Option.bind (lAt i.1 v.1) fun v_1 => Option.bind (lAt i.2.1 v.1) fun v_2 => Option.bind (laws_eqVersion_S ((v_1.1, v_1.2.1, v_1.2.2.1, v_1.2.2.2.1, v_1.2.2.2.2.1, ()), (v_2.1, v_2.2.1,
  v_2.2.2.1, v_2.2.2.2.1, v_2.2.2.2.2.1, ()), ())) fun v_3 => bif !v_3.1 then K (Sum.inr (Sum.inl ())) else K (Sum.inl (IntKind.wrap IntKind.i64 (v.1 + 1), ())) else K (Sum.inr (Sum.inr ()))

theorem laws_eqVersionS_D4_nat (i : List (Int × Int × Int × Int × Int × Unit) × List (Int × Int × Int × Int × Int × Unit) × Unit) (v : Int × Unit) (R : Type) (K : Int × Unit ⊕ Unit ⊕ Unit → Option R) : laws_eqVersionS_D4 i v R K = (laws_eqVersionS_D4 i v _ some).bind K := nat_bif (nat_bind fun _ => nat_bind fun _ => nat_bind fun _ => nat_bif (nat_some) (nat_some)) (nat_some)

def laws_eqVersionS_T4 : Tmpl := Tmpl.mk (TmL.slot (Ty.slice YVersion) (TmL.slot (Ty.slice (Ty.prod Ty.i
  (Ty.prod Ty.i (Ty.prod Ty.i YReadMark)))) (TmL.junk (TmL.junk (TmL.junk (TmL.slot Ty.i (TmL.junk (TmL.junk (TmL.junk (TmL.junk
  (TmL.junk (TmL.junk (TmL.junk (TmL.junk (TmL.junk (TmL.junk (TmL.junk (TmL.junk (TmL.junk (TmL.junk (TmL.junk (TmL.junk (TmL.junk (TmL.junk (TmL.junk (TmL.junk (TmL.junk TmL.nil))))))))))))))))))))))))))) TmH.nil

def laws_eqVersionS_X4_0 (i : List (Int × Int × Int × Int × Int × Unit) × List (Int × Int × Int × Int × Int × Unit) × Unit) (p : Unit) : St :=
  St.mk [AV.junk, AV.junk, AV.junk, AV.junk, AV.pv Ty.bool false, AV.junk, AV.junk, AV.junk, AV.junk, AV.junk, AV.junk, AV.junk, AV.junk, AV.junk, AV.junk, AV.junk, AV.junk, AV.junk, AV.junk, AV.junk, AV.junk, AV.junk, AV.junk, AV.junk,
  AV.junk, AV.junk, AV.junk] []

def laws_eqVersionS_X4_1 (i : List (Int × Int × Int × Int × Int × Unit) × List (Int × Int × Int × Int × Int × Unit) × Unit) (p : Unit) : St :=
  St.mk [AV.junk, AV.junk, AV.junk, AV.junk, AV.junk, AV.junk, AV.junk, AV.junk, AV.junk, AV.junk, AV.junk, AV.junk, AV.junk, AV.junk, AV.junk, AV.junk, AV.junk, AV.junk, AV.junk, AV.junk, AV.junk, AV.junk, AV.junk, AV.junk, AV.junk, AV.junk,
  AV.junk] []

noncomputable def laws_eqVersionS_E4 (i : List (Int × Int × Int × Int × Int × Unit) × List (Int × Int × Int × Int × Int × Unit) × Unit) (p : Unit ⊕ Unit) (R : Type) (K : Ex → St → Option R) : Option R := sumC p (fun p => K (Ex.ret) (laws_eqVersionS_X4_0 i p)) (fun p => K (Ex.exit 0) (laws_eqVersionS_X4_1 i p))

noncomputable def laws_eqVersionS_K4 (i : List (Int × Int × Int × Int × Int × Unit) × List (Int × Int × Int × Int × Int × Unit) × Unit) (p : Unit ⊕ Unit) : Ex × St := sumC p (fun p => ((Ex.ret), laws_eqVersionS_X4_0 i p)) (fun p => ((Ex.exit 0), laws_eqVersionS_X4_1 i p))

def laws_eqVersionS_M4 (i : List (Int × Int × Int × Int × Int × Unit) × List (Int × Int × Int × Int × Int × Unit) × Unit) (v : Int × Unit) : den laws_eqVersionS_T4.ty := (i.1, i.2.1, v.1, ())

def laws_eqVersionS_P4 (x : den laws_eqVersionS_T4.ty) : (List (Int × Int × Int × Int × Int × Unit) × List (Int × Int × Int × Int × Int × Unit) × Unit) × (Int × Unit) := ((x.1, x.2.1, ()), (x.2.2.1, ()))

noncomputable def laws_eqVersionS_F4 : LoopFn := fun s R K => Tmpl.readS laws_eqVersionS_T4 0 s fun x => (iter (fun v => laws_eqVersionS_D4 (laws_eqVersionS_P4 x).1 v _ some) (laws_eqVersionS_P4 x).2).bind fun p => laws_eqVersionS_E4 (laws_eqVersionS_P4 x).1 p R K

noncomputable def laws_eqVersionS_C : Cfg := { ti := g_tis, ents := [laws_eqVersion_Ent], ann := [(4, laws_eqVersionS_F4)], lent := 0 }

def laws_eqVersionS_ti : Tmpl := Tmpl.mk (TmL.slot (Ty.slice YVersion) (TmL.slot (Ty.slice (Ty.prod Ty.i
  (Ty.prod Ty.i (Ty.prod Ty.i YReadMark)))) TmL.nil)) TmH.nil

def laws_eqVersionS_to : Tmpl := Tmpl.mk (TmL.slot Ty.bool TmL.nil) TmH.nil

noncomputable def laws_eqVersionS_S (x : List (Int × Int × Int × Int × Int × Unit) × List (Int × Int × Int × Int × Int × Unit) × Unit) : Option (Bool × Unit) :=
  bif (↑(List.length x.1) : Int) != (↑(List.length x.2.1) : Int) then some (false, ()) else Option.bind (iter (fun v => laws_eqVersionS_D4 (x.1, x.2.1, ()) v (Int × Unit ⊕ Unit ⊕ Unit) some) (0, ())) fun p => sumC p (fun p => some (false, ()))
  fun p => some (true, ())

noncomputable def laws_eqVersionS_Ent : Ent := ⟨114, laws_eqVersionS_ti, laws_eqVersionS_to, laws_eqVersionS_S⟩

theorem laws_eqVersionS_HC : CfgOK Go.Proofs.Try.prog laws_eqVersionS_C := ⟨⟨info_ok g_tisOK⟩, (all_cons laws_eqVersion_OK all_nil), g_wide⟩

theorem laws_eqVersionS_lk4 : ∀ F, ((laws_eqVersionS_C).ann.find? fun x => x.1 == firstId ((loopsOf (codeOf Go.Proofs.Try.f114)).getD 0 .skip)).map (·.2) = some F → LoopOK Go.Proofs.Try.prog laws_eqVersionS_C.lent ((loopsOf (codeOf Go.Proofs.Try.f114)).getD 0 .skip) F := by
  refine lookup_ok (show ((laws_eqVersionS_C).ann.find? fun x => x.1 == firstId ((loopsOf (codeOf Go.Proofs.Try.f114)).getD 0 .skip)).map (·.2) = some laws_eqVersionS_F4 from by kernel_rfl) ?_
  exact loop_ok laws_eqVersionS_HC (loops_all 0 (by kernel_rfl) (fun k hk => absurd hk (Nat.not_lt_zero k))) laws_eqVersionS_T4 [4] laws_eqVersionS_M4 laws_eqVersionS_P4 (fun x => rfl) laws_eqVersionS_D4 laws_eqVersionS_D4_nat laws_eqVersionS_E4 laws_eqVersionS_K4 (fun i p R K => by rcases p with p | p <;> rfl) (fun i v => by kernel_rfl)

theorem laws_eqVersionS_VC (x : den laws_eqVersionS_ti.ty) : vcall laws_eqVersionS_C Go.Proofs.Try.f114 laws_eqVersionS_ti laws_eqVersionS_to x = laws_eqVersionS_S x := by kernel_rfl

theorem laws_eqVersionS_OK : EntOK Go.Proofs.Try.prog laws_eqVersionS_Ent := EntOK.of_vcall laws_eqVersionS_HC Go.Proofs.Try.func114 (body_loops (by kernel_rfl) (loops_all 1 (by kernel_rfl) (fun k hk => match k, hk with | 0, _ => laws_eqVersionS_lk4))) (by kernel_rfl) (by kernel_rfl) laws_eqVersionS_VC

/-! laws.eqVersionSS -/

noncomputable def laws_eqVersionSS_D4 (i : List (List (Int × Int × Int × Int × Int × Unit)) × List (List (Int × Int × Int × Int × Int × Unit)) × Unit) (v : Int × Unit) (R : Type) (K : Int × Unit ⊕ Unit ⊕ Unit → Option R) : Option R :=
  bif decide (v.1 < (↑(List.length i.1) : Int)) then Option.bind (lAt i.1 v.1) fun v_1 => Option.bind (lAt i.2.1 v.1) fun v_2 => Option.bind (laws_eqVersionS_S (v_1, v_2, ())) fun v_3 => bif !v_3.1 then K (Sum.inr (Sum.inl ())) else K (Sum.inl
  (IntKind.wrap IntKind.i64 (v.1 + 1), ())) else K (Sum.inr (Sum.inr ()))

theorem laws_eqVersionSS_D4_nat (i : List (List (Int × Int × Int × Int × Int × Unit)) × List (List (Int × Int × Int × Int × Int × Unit)) × Unit) (v : Int × Unit) (R : Type) (K : Int × Unit ⊕ Unit ⊕ Unit → Option R) : laws_eqVersionSS_D4 i v R K = (laws_eqVersionSS_D4 i v _ some).bind K := nat_bif (nat_bind fun _ => nat_bind fun _ => nat_bind fun _ => nat_bif (nat_some) (nat_some)) (nat_some)

def laws_eqVersionSS_T4 : Tmpl := Tmpl.mk (TmL.slot (Ty.slice (Ty.slice YVersion)) (TmL.slot (Ty.slice (Ty.slice (Ty.prod
  Ty.i (Ty.prod Ty.i (Ty.prod Ty.i YReadMark))))) (TmL.junk (TmL.junk (TmL.junk (TmL.slot Ty.i (TmL.junk (TmL.junk
  (TmL.junk (TmL.junk (TmL.junk (TmL.junk (TmL.junk (TmL.junk (TmL.junk (TmL.junk (TmL.junk (TmL.junk (TmL.junk (TmL.junk (TmL.junk (TmL.junk (TmL.junk (TmL.junk (TmL.junk (TmL.junk (TmL.junk TmL.nil))))))))))))))))))))))))))) TmH.nil

def laws_eqVersionSS_X4_0 (i : List (List (Int × Int × Int × Int × Int × Unit)) × List (List (Int × Int × Int × Int × Int × Unit)) × Unit) (p : Unit) : St :=
  St.mk [AV.junk, AV.junk, AV.junk, AV.junk, AV.pv Ty.bool false, AV.junk, AV.junk, AV.junk, AV.junk, AV.junk, AV.junk, AV.junk, AV.junk, AV.junk, AV.junk, AV.junk, AV.junk, AV.junk, AV.junk, AV.junk, AV.junk, AV.junk, AV.junk, AV.junk,
  AV.junk, AV.junk, AV.junk] []

def laws_eqVersionSS_X4_1 (i : List (List (Int × Int × Int × Int × Int × Unit)) × List (List (Int × Int × Int × Int × Int × Unit)) × Unit) (p : Unit) : St :=
  St.mk [AV.junk, AV.junk, AV.junk, AV.junk, AV.junk, AV.junk, AV.junk, AV.junk, AV.junk, AV.junk, AV.junk, AV.junk, AV.junk, AV.junk, AV.junk, AV.junk, AV.junk, AV.junk, AV.junk, AV.junk, AV.junk, AV.junk, AV.junk, AV.junk, AV.junk, AV.junk,
  AV.junk] []

noncomputable def laws_eqVersionSS_E4 (i : List (List (Int × Int × Int × Int × Int × Unit)) × List (List (Int × Int × Int × Int × Int × Unit)) × Unit) (p : Unit ⊕ Unit) (R : Type) (K : Ex → St → Option R) : Option R := sumC p (fun p => K (Ex.ret) (laws_eqVersionSS_X4_0 i p)) (fun p => K (Ex.exit 0) (laws_eqVersionSS_X4_1 i p))

noncomputable def laws_eqVersionSS_K4 (i : List (List (Int × Int × Int × Int × Int × Unit)) × List (List (Int × Int × Int × Int × Int × Unit)) × Unit) (p : Unit ⊕ Unit) : Ex × St := sumC p (fun p => ((Ex.ret), laws_eqVersionSS_X4_0 i p)) (fun p => ((Ex.exit 0), laws_eqVersionSS_X4_1 i p))

def laws_eqVersionSS_M4 (i : List (List (Int × Int × Int × Int × Int × Unit)) × List (List (Int × Int × Int × Int × Int × Unit)) × Unit) (v : Int × Unit) : den laws_eqVersionSS_T4.ty := (i.1, i.2.1, v.1, ())

def laws_eqVersionSS_P4 (x : den laws_eqVersionSS_T4.ty) : (List (List (Int × Int × Int × Int × Int × Unit)) × List (List (Int × Int × Int × Int × Int × Unit)) × Unit) × (Int × Unit) := ((x.1, x.2.1, ()), (x.2.2.1, ()))

noncomputable def laws_eqVersionSS_F4 : LoopFn := fun s R K => Tmpl.readS laws_eqVersionSS_T4 0 s fun x => (iter (fun v => laws_eqVersionSS_D4 (laws_eqVersionSS_P4 x).1 v _ some) (laws_eqVersionSS_P4 x).2).bind fun p => laws_eqVersionSS_E4 (laws_eqVersionSS_P4 x).1 p R K

noncomputable def laws_eqVersionSS_C : Cfg := { ti := g_tis, ents := [laws_eqVersionS_Ent], ann := [(4, laws_eqVersionSS_F4)], lent := 0 }

def laws_eqVersionSS_ti : Tmpl := Tmpl.mk (TmL.slot (Ty.slice (Ty.slice YVersion)) (TmL.slot (Ty.slice (Ty.slice (Ty.prod
  Ty.i (Ty.prod Ty.i (Ty.prod Ty.i YReadMark))))) TmL.nil)) TmH.nil

def laws_eqVersionSS_to : Tmpl := Tmpl.mk (TmL.slot Ty.bool TmL.nil) TmH.nil

noncomputable def laws_eqVersionSS_S (x : List (List (Int × Int × Int × Int × Int × Unit)) × List (List (Int × Int × Int × Int × Int × Unit)) × Unit) : Option (Bool × Unit) :=
  bif (↑(List.length x.1) : Int) != (↑(List.length x.2.1) : Int) then some (false, ()) else Option.bind (iter (fun v => laws_eqVersionSS_D4 (x.1, x.2.1, ()) v (Int × Unit ⊕ Unit ⊕ Unit) some) (0, ())) fun p => sumC p (fun p => some (false,
  ())) fun p => some (true, ())

noncomputable def laws_eqVersionSS_Ent : Ent := ⟨74, laws_eqVersionSS_ti, laws_eqVersionSS_to, laws_eqVersionSS_S⟩

theorem laws_eqVersionSS_HC : CfgOK Go.Proofs.Try.prog laws_eqVersionSS_C := ⟨⟨info_ok g_tisOK⟩, (all_cons laws_eqVersionS_OK all_nil), g_wide⟩

theorem laws_eqVersionSS_lk4 : ∀ F, ((laws_eqVersionSS_C).ann.find? fun x => x.1 == firstId ((loopsOf (codeOf Go.Proofs.Try.f74)).getD 0 .skip)).map (·.2) = some F → LoopOK Go.Proofs.Try.prog laws_eqVersionSS_C.lent ((loopsOf (codeOf Go.Proofs.Try.f74)).getD 0 .skip) F := by
  refine lookup_ok (show ((laws_eqVersionSS_C).ann.find? fun x => x.1 == firstId ((loopsOf (codeOf Go.Proofs.Try.f74)).getD 0 .skip)).map (·.2) = some laws_eqVersionSS_F4 from by kernel_rfl) ?_
  exact loop_ok laws_eqVersionSS_HC (loops_all 0 (by kernel_rfl) (fun k hk => absurd hk (Nat.not_lt_zero k))) laws_eqVersionSS_T4 [4] laws_eqVersionSS_M4 laws_eqVersionSS_P4 (fun x => rfl) laws_eqVersionSS_D4 laws_eqVersionSS_D4_nat laws_eqVersionSS_E4 laws_eqVersionSS_K4 (fun i p R K => by rcases p with p | p <;> rfl) (fun i v => by kernel_rfl)

theorem laws_eqVersionSS_VC (x : den laws_eqVersionSS_ti.ty) : vcall laws_eqVersionSS_C Go.Proofs.Try.f74 laws_eqVersionSS_ti laws_eqVersionSS_to x = laws_eqVersionSS_S x := by kernel_rfl

theorem laws_eqVersionSS_OK : EntOK Go.Proofs.Try.prog laws_eqVersionSS_Ent := EntOK.of_vcall laws_eqVersionSS_HC Go.Proofs.Try.func74 (body_loops (by kernel_rfl) (loops_all 1 (by kernel_rfl) (fun k hk => match k, hk with | 0, _ => laws_eqVersionSS_lk4))) (by kernel_rfl) (by kernel_rfl) laws_eqVersionSS_VC

/-! laws.eqStore -/

noncomputable def laws_eqStore_C : Cfg := { ti := g_tis, ents := [laws_eqVersionSS_Ent], ann := [], lent := 0 }

def laws_eqStore_ti : Tmpl := Tmpl.mk (TmL.slot YStore (TmL.slot (Ty.prod
  (Ty.slice (Ty.slice YVersion)) Ty.unit) TmL.nil)) TmH.nil

def laws_eqStore_to : Tmpl := Tmpl.mk (TmL.slot Ty.bool TmL.nil) TmH.nil

noncomputable def laws_eqStore_S (x : (List (List (Int × Int × Int × Int × Int × Unit)) × Unit) × (List (List (Int × Int × Int × Int × Int × Unit)) × Unit) × Unit) : Option (Bool × Unit) :=
  Option.bind (laws_eqVersionSS_S (x.1.1, x.2.1.1, ())) fun v => bif !v.1 then some (false, ()) else some (true, ())

noncomputable def laws_eqStore_Ent : Ent := ⟨26, laws_eqStore_ti, laws_eqStore_to, laws_eqStore_S⟩

theorem laws_eqStore_HC : CfgOK Go.Proofs.Try.prog laws_eqStore_C := ⟨⟨info_ok g_tisOK⟩, (all_cons laws_eqVersionSS_OK all_nil), g_wide⟩

theorem laws_eqStore_VC (x : den laws_eqStore_ti.ty) : vcall laws_eqStore_C Go.Proofs.Try.f26 laws_eqStore_ti laws_eqStore_to x = laws_eqStore_S x := by kernel_rfl

theorem laws_eqStore_OK : EntOK Go.Proofs.Try.prog laws_eqStore_Ent := EntOK.of_vcall laws_eqStore_HC Go.Proofs.Try.func26 (body_loops (by kernel_rfl) (loops_all 0 (by kernel_rfl) (fun k hk => absurd hk (Nat.not_lt_zero k)))) (by kernel_rfl) (by kernel_rfl) laws_eqStore_VC

/-! laws.szVersionS -/

noncomputable def laws_szVersionS_C : Cfg := { ti := g_tis, ents := [], ann := [], lent := 0 }

def laws_szVersionS_ti : Tmpl := Tmpl.mk (TmL.slot (Ty.slice YVersion) (TmL.slot Ty.i TmL.nil)) TmH.nil

def laws_szVersionS_to : Tmpl := Tmpl.mk (TmL.slot Ty.i TmL.nil) TmH.nil

noncomputable def laws_szVersionS_S (x : List (Int × Int × Int × Int × Int × Unit) × Int × Unit) : Option (Int × Unit) :=
  bif decide (IntKind.wrap IntKind.i64 (x.2.1 - (↑(List.length x.1) : Int)) < 0) then some (-1, ()) else some (IntKind.wrap IntKind.i64 (x.2.1 - (↑(List.length x.1) : Int)), ())

noncomputable def laws_szVersionS_Ent : Ent := ⟨94, laws_szVersionS_ti, laws_szVersionS_to, laws_szVersionS_S⟩

theorem laws_szVersionS_HC : CfgOK Go.Proofs.Try.prog laws_szVersionS_C := ⟨⟨info_ok g_tisOK⟩, all_nil, g_wide⟩

theorem laws_szVersionS_VC (x : den laws_szVersionS_ti.ty) : vcall laws_szVersionS_C Go.Proofs.Try.f94 laws_szVersionS_ti laws_szVersionS_to x = laws_szVersionS_S x := by kernel_rfl

theorem laws_szVersionS_OK : EntOK Go.Proofs.Try.prog laws_szVersionS_Ent := EntOK.of_vcall laws_szVersionS_HC Go.Proofs.Try.func94 (body_loops (by kernel_rfl) (loops_all 0 (by kernel_rfl) (fun k hk => absurd hk (Nat.not_lt_zero k)))) (by kernel_rfl) (by kernel_rfl) laws_szVersionS_VC

/-! laws.szVersionSS -/

noncomputable def laws_szVersionSS_D5 (i : List (List (Int × Int × Int × Int × Int × Unit)) × Unit) (v : Int × Int × Unit) (R : Type) (K : Int × Int × Unit ⊕ Int × Unit ⊕ Int × Unit → Option R) : Option R :=
  bif decide (v.2.1 < (↑(List.length i.1) : Int)) then Option.bind (lAt i.1 v.2.1) fun v_1 => Option.bind (laws_szVersionS_S (v_1, v.1, ())) fun v_2 => bif decide (v_2.1 < 0) then K (Sum.inr (Sum.inl (v_2.1, ()))) else K (Sum.inl (v_2.1,
  IntKind.wrap IntKind.i64 (v.2.1 + 1), ())) else K (Sum.inr (Sum.inr (v.1, ())))

theorem laws_szVersionSS_D5_nat (i : List (List (Int × Int × Int × Int × Int × Unit)) × Unit) (v : Int × Int × Unit) (R : Type) (K : Int × Int × Unit ⊕ Int × Unit ⊕ Int × Unit → Option R) : laws_szVersionSS_D5 i v R K = (laws_szVersionSS_D5 i v _ some).bind K := nat_bif (nat_bind fun _ => nat_bind fun _ => nat_bif (nat_some) (nat_some)) (nat_some)

def laws_szVersionSS_T5 : Tmpl := Tmpl.mk (TmL.slot (Ty.slice (Ty.slice YVersion)) (TmL.slot Ty.i
  (TmL.junk (TmL.junk (TmL.junk (TmL.slot Ty.i (TmL.junk (TmL.junk (TmL.junk (TmL.junk (TmL.junk (TmL.junk (TmL.junk (TmL.junk (TmL.junk (TmL.junk (TmL.junk (TmL.junk (TmL.junk (TmL.junk (TmL.junk (TmL.junk (TmL.junk (TmL.junk
  (TmL.junk (TmL.junk (TmL.junk TmL.nil))))))))))))))))))))))))))) TmH.nil

def laws_szVersionSS_X5_0 (i : List (List (Int × Int × Int × Int × Int × Unit)) × Unit) (p : Int × Unit) : St :=
  St.mk [AV.junk, AV.pv Ty.i p.1, AV.junk, AV.junk, AV.pv Ty.i (-1), AV.junk, AV.junk, AV.junk, AV.junk, AV.junk, AV.junk, AV.junk, AV.junk, AV.junk, AV.junk, AV.junk, AV.junk, AV.junk, AV.junk, AV.junk,
  AV.junk, AV.junk, AV.junk, AV.junk, AV.junk, AV.junk, AV.junk] []

def laws_szVersionSS_X5_1 (i : List (List (Int × Int × Int × Int × Int × Unit)) × Unit) (p : Int × Unit) : St :=
  St.mk [AV.junk, AV.pv Ty.i p.1, AV.junk, AV.junk, AV.junk, AV.junk, AV.junk, AV.junk, AV.junk, AV.junk, AV.junk, AV.junk, AV.junk, AV.junk, AV.junk, AV.junk, AV.junk, AV.junk, AV.junk, AV.junk, AV.junk, AV.junk, AV.junk,
  AV.junk, AV.junk, AV.junk, AV.junk] []

noncomputable def laws_szVersionSS_E5 (i : List (List (Int × Int × Int × Int × Int × Unit)) × Unit) (p : Int × Unit ⊕ Int × Unit) (R : Type) (K : Ex → St → Option R) : Option R := sumC p (fun p => K (Ex.ret) (laws_szVersionSS_X5_0 i p)) (fun p => K (Ex.exit 0) (laws_szVersionSS_X5_1 i p))

noncomputable def laws_szVersionSS_K5 (i : List (List (Int × Int × Int × Int × Int × Unit)) × Unit) (p : Int × Unit ⊕ Int × Unit) : Ex × St := sumC p (fun p => ((Ex.ret), laws_szVersionSS_X5_0 i p)) (fun p => ((Ex.exit 0), laws_szVersionSS_X5_1 i p))

def laws_szVersionSS_M5 (i : List (List (Int × Int × Int × Int × Int × Unit)) × Unit) (v : Int × Int × Unit) : den laws_szVersionSS_T5.ty := (i.1, v.1, v.2.1, ())

def laws_szVersionSS_P5 (x : den laws_szVersionSS_T5.ty) : (List (List (Int × Int × Int × Int × Int × Unit)) × Unit) × (Int × Int × Unit) := ((x.1, ()), (x.2.1, x.2.2.1, ()))

noncomputable def laws_szVersionSS_F5 : LoopFn := fun s R K => Tmpl.readS laws_szVersionSS_T5 0 s fun x => (iter (fun v => laws_szVersionSS_D5 (laws_szVersionSS_P5 x).1 v _ some) (laws_szVersionSS_P5 x).2).bind fun p => laws_szVersionSS_E5 (laws_szVersionSS_P5 x).1 p R K

noncomputable def laws_szVersionSS_C : Cfg := { ti := g_tis, ents := [laws_szVersionS_Ent], ann := [(5, laws_szVersionSS_F5)], lent := 0 }

def laws_szVersionSS_ti : Tmpl := Tmpl.mk (TmL.slot (Ty.slice (Ty.slice YVersion)) (TmL.slot Ty.i
  TmL.nil)) TmH.nil

def laws_szVersionSS_to : Tmpl := Tmpl.mk (TmL.slot Ty.i TmL.nil) TmH.nil

noncomputable def laws_szVersionSS_S (x : List (List (Int × Int × Int × Int × Int × Unit)) × Int × Unit) : Option (Int × Unit) :=
  bif decide (IntKind.wrap IntKind.i64 (x.2.1 - (↑(List.length x.1) : Int)) < 0) then some (-1, ()) else Option.bind (iter (fun v => laws_szVersionSS_D5 (x.1, ()) v (Int × Int × Unit ⊕ Int × Unit ⊕ Int × Unit) some) (IntKind.wrap IntKind.i64
  (x.2.1 - (↑(List.length x.1) : Int)), 0, ())) fun p => sumC p (fun p => some (-1, ())) fun p => some (p.1, ())

noncomputable def laws_szVersionSS_Ent : Ent := ⟨51, laws_szVersionSS_ti, laws_szVersionSS_to, laws_szVersionSS_S⟩

theorem laws_szVersionSS_HC : CfgOK Go.Proofs.Try.prog laws_szVersionSS_C := ⟨⟨info_ok g_tisOK⟩, (all_cons laws_szVersionS_OK all_nil), g_wide⟩

theorem laws_szVersionSS_lk5 : ∀ F, ((laws_szVersionSS_C).ann.find? fun x => x.1 == firstId ((loopsOf (codeOf Go.Proofs.Try.f51)).getD 0 .skip)).map (·.2) = some F → LoopOK Go.Proofs.Try.prog laws_szVersionSS_C.lent ((loopsOf (codeOf Go.Proofs.Try.f51)).getD 0 .skip) F := by
  refine lookup_ok (show ((laws_szVersionSS_C).ann.find? fun x => x.1 == firstId ((loopsOf (codeOf Go.Proofs.Try.f51)).getD 0 .skip)).map (·.2) = some laws_szVersionSS_F5 from by kernel_rfl) ?_
  exact loop_ok laws_szVersionSS_HC (loops_all 0 (by kernel_rfl) (fun k hk => absurd hk (Nat.not_lt_zero k))) laws_szVersionSS_T5 [1, 4] laws_szVersionSS_M5 laws_szVersionSS_P5 (fun x => rfl) laws_szVersionSS_D5 laws_szVersionSS_D5_nat laws_szVersionSS_E5 laws_szVersionSS_K5 (fun i p R K => by rcases p with p | p <;> rfl) (fun i v => by kernel_rfl)

theorem laws_szVersionSS_VC (x : den laws_szVersionSS_ti.ty) : vcall laws_szVersionSS_C Go.Proofs.Try.f51 laws_szVersionSS_ti laws_szVersionSS_to x = laws_szVersionSS_S x := by kernel_rfl

theorem laws_szVersionSS_OK : EntOK Go.Proofs.Try.prog laws_szVersionSS_Ent := EntOK.of_vcall laws_szVersionSS_HC Go.Proofs.Try.func51 (body_loops (by kernel_rfl) (loops_all 1 (by kernel_rfl) (fun k hk => match k, hk with | 0, _ => laws_szVersionSS_lk5))) (by kernel_rfl) (by kernel_rfl) laws_szVersionSS_VC

/-! laws.szStore -/

noncomputable def laws_szStore_C : Cfg := { ti := g_tis, ents := [laws_szVersionSS_Ent], ann := [], lent := 0 }

def laws_szStore_ti : Tmpl := Tmpl.mk (TmL.slot YStore (TmL.slot (Ty.int
  IntKind.i64) TmL.nil)) TmH.nil

def laws_szStore_to : Tmpl := Tmpl.mk (TmL.slot Ty.i TmL.nil) TmH.nil

noncomputable def laws_szStore_S (x : (List (List (Int × Int × Int × Int × Int × Unit)) × Unit) × Int × Unit) : Option (Int × Unit) :=
  Option.bind (laws_szVersionSS_S (x.1.1, x.2.1, ())) fun v => bif decide (v.1 < 0) then some (-1, ()) else some (v.1, ())

noncomputable def laws_szStore_Ent : Ent := ⟨20, laws_szStore_ti, laws_szStore_to, laws_szStore_S⟩

theorem laws_szStore_HC : CfgOK Go.Proofs.Try.prog laws_szStore_C := ⟨⟨info_ok g_tisOK⟩, (all_cons laws_szVersionSS_OK all_nil), g_wide⟩

theorem laws_szStore_VC (x : den laws_szStore_ti.ty) : vcall laws_szStore_C Go.Proofs.Try.f20 laws_szStore_ti laws_szStore_to x = laws_szStore_S x := by kernel_rfl

theorem laws_szStore_OK : EntOK Go.Proofs.Try.prog laws_szStore_Ent := EntOK.of_vcall laws_szStore_HC Go.Proofs.Try.func20 (body_loops (by kernel_rfl) (loops_all 0 (by kernel_rfl) (fun k hk => absurd hk (Nat.not_lt_zero k)))) (by kernel_rfl) (by kernel_rfl) laws_szStore_VC

/-! laws.toVersion -/

noncomputable def laws_toVersion_C : Cfg := { ti := g_tis, ents := [], ann := [], lent := 0 }

def laws_toVersion_ti : Tmpl := Tmpl.mk (TmL.slot YVersion TmL.nil) TmH.nil

def laws_toVersion_to : Tmpl := Tmpl.mk (TmL.agg (TmL.slot Ty.i (TmL.slot Ty.i (TmL.slot Ty.i (TmL.slot Ty.i (TmL.slot Ty.i TmL.nil))))) TmL.nil) TmH.nil

noncomputable def laws_toVersion_S (x : (Int × Int × Int × Int × Int × Unit) × Unit) : Option (Int × Int × Int × Int × Int × Unit) :=
  some (x.1.1, x.1.2.1, x.1.2.2.1, x.1.2.2.2.1, x.1.2.2.2.2.1, ())

noncomputable def laws_toVersion_Ent : Ent := ⟨139, laws_toVersion_ti, laws_toVersion_to, laws_toVersion_S⟩

theorem laws_toVersion_HC : CfgOK Go.Proofs.Try.prog laws_toVersion_C := ⟨⟨info_ok g_tisOK⟩, all_nil, g_wide⟩

theorem laws_toVersion_VC (x : den laws_toVersion_ti.ty) : vcall laws_toVersion_C Go.Proofs.Try.f139 laws_toVersion_ti laws_toVersion_to x = laws_toVersion_S x := by kernel_rfl

theorem laws_toVersion_OK : EntOK Go.Proofs.Try.prog laws_toVersion_Ent := EntOK.of_vcall laws_toVersion_HC Go.Proofs.Try.func139 (body_loops (by kernel_rfl) (loops_all 0 (by kernel_rfl) (fun k hk => absurd hk (Nat.not_lt_zero k)))) (by kernel_rfl) (by kernel_rfl) laws_toVersion_VC

/-! laws.toVersionS -/

noncomputable def laws_toVersionS_D3 (i : List (Int × Int × Int × Int × Int × Unit) × Unit) (v : Int × List (Int × Int × Int × Int × Int × Unit) × Unit) (R : Type) (K : Int × List (Int × Int × Int × Int × Int × Unit) × Unit ⊕ List (Int × Int × Int × Int × Int × Unit) × Unit → Option R) : Option R :=
  bif decide (v.1 < (↑(List.length i.1) : Int)) then Option.bind (lAt i.1 v.1) fun v_1 => Option.bind (laws_toVersion_S ((v_1.1, v_1.2.1, v_1.2.2.1, v_1.2.2.2.1, v_1.2.2.2.2.1, ()), ())) fun v_2 => if 0 ≤ v.1 ∧ v.1 < (↑(List.length v.2.1) :
  Int) then Option.bind v.2.1[0 + Int.toNat v.1]? fun v_3 => K (Sum.inl (IntKind.wrap IntKind.i64 (v.1 + 1), List.set v.2.1 (0 + Int.toNat v.1) (v_2.1, v_2.2.1, v_2.2.2.1, v_2.2.2.2.1, v_2.2.2.2.2.1, ()), ())) else none else K (Sum.inr (v.2.1,
  ()))

theorem laws_toVersionS_D3_nat (i : List (Int × Int × Int × Int × Int × Unit) × Unit) (v : Int × List (Int × Int × Int × Int × Int × Unit) × Unit) (R : Type) (K : Int × List (Int × Int × Int × Int × Int × Unit) × Unit ⊕ List (Int × Int × Int × Int × Int × Unit) × Unit → Option R) : laws_toVersionS_D3 i v R K = (laws_toVersionS_D3 i v _ some).bind K := nat_bif (nat_bind fun _ => nat_bind fun _ => nat_ite (nat_bind fun _ => nat_some)) (nat_some)

def laws_toVersionS_T3 : Tmpl := Tmpl.mk (TmL.slot (Ty.slice YVersion) (TmL.junk (TmL.junk (TmL.own 0 (TmL.slot (Ty.int
  IntKind.i64) (TmL.junk (TmL.junk (TmL.junk (TmL.junk (TmL.junk (TmL.junk (TmL.junk (TmL.junk (TmL.junk (TmL.junk (TmL.junk (TmL.junk (TmL.junk (TmL.junk (TmL.junk (TmL.junk (TmL.junk (TmL.junk TmL.nil))))))))))))))))))))))) (TmH.lst false
  YVersion TmH.nil)

def laws_toVersionS_X3_0 (i : List (Int × Int × Int × Int × Int × Unit) × Unit) (p : List (Int × Int × Int × Int × Int × Unit) × Unit) : St :=
  St.mk [AV.junk, AV.junk, AV.junk, AV.own 0 none none, AV.junk, AV.junk, AV.junk, AV.junk, AV.junk, AV.junk, AV.junk, AV.junk, AV.junk, AV.junk, AV.junk, AV.junk, AV.junk, AV.junk, AV.junk, AV.junk, AV.junk, AV.junk, AV.junk] [some (Cont.lst
  false YVersion p.1)]

noncomputable def laws_toVersionS_E3 (i : List (Int × Int × Int × Int × Int × Unit) × Unit) (p : List (Int × Int × Int × Int × Int × Unit) × Unit) (R : Type) (K : Ex → St → Option R) : Option R := K (Ex.exit 0) (laws_toVersionS_X3_0 i p)

noncomputable def laws_toVersionS_K3 (i : List (Int × Int × Int × Int × Int × Unit) × Unit) (p : List (Int × Int × Int × Int × Int × Unit) × Unit) : Ex × St := ((Ex.exit 0), laws_toVersionS_X3_0 i p)

def laws_toVersionS_M3 (i : List (Int × Int × Int × Int × Int × Unit) × Unit) (v : Int × List (Int × Int × Int × Int × Int × Unit) × Unit) : den laws_toVersionS_T3.ty := (i.1, v.1, v.2.1, ())

def laws_toVersionS_P3 (x : den laws_toVersionS_T3.ty) : (List (Int × Int × Int × Int × Int × Unit) × Unit) × (Int × List (Int × Int × Int × Int × Int × Unit) × Unit) := ((x.1, ()), (x.2.1, x.2.2.1, ()))

noncomputable def laws_toVersionS_F3 : LoopFn := fun s R K => Tmpl.readS laws_toVersionS_T3 0 s fun x => (iter (fun v => laws_toVersionS_D3 (laws_toVersionS_P3 x).1 v _ some) (laws_toVersionS_P3 x).2).bind fun p => laws_toVersionS_E3 (laws_toVersionS_P3 x).1 p R K

noncomputable def laws_toVersionS_C : Cfg := { ti := g_tis, ents := [laws_toVersion_Ent], ann := [(3, laws_toVersionS_F3)], lent := 0 }

def laws_toVersionS_ti : Tmpl := Tmpl.mk (TmL.slot (Ty.slice YVersion) TmL.nil) TmH.nil

def laws_toVersionS_to : Tmpl := Tmpl.mk (TmL.own 0 TmL.nil) (TmH.lst false YVersion TmH.nil)

noncomputable def laws_toVersionS_S (x : List (Int × Int × Int × Int × Int × Unit) × Unit) : Option (List (Int × Int × Int × Int × Int × Unit) × Unit) :=
  if 0 ≤ (↑(List.length x.1) : Int) ∧ (↑(List.length x.1) : Int) ≤ (↑(List.length x.1) : Int) ∧ (↑(List.length x.1) : Int) ≤ (↑879609302220 : Int) then Option.bind (iter (fun v => laws_toVersionS_D3 (x.1, ()) v (Int × List (Int × Int × Int ×
  Int × Int × Unit) × Unit ⊕ List (Int × Int × Int × Int × Int × Unit) × Unit) some) (0, List.replicate (Int.toNat (↑(List.length x.1) : Int)) (0, 0, 0, 0, 0, ()), ())) fun p => some (p.1, ()) else none

noncomputable def laws_toVersionS_Ent : Ent := ⟨100, laws_toVersionS_ti, laws_toVersionS_to, laws_toVersionS_S⟩

theorem laws_toVersionS_HC : CfgOK Go.Proofs.Try.prog laws_toVersionS_C := ⟨⟨info_ok g_tisOK⟩, (all_cons laws_toVersion_OK all_nil), g_wide⟩

theorem laws_toVersionS_lk3 : ∀ F, ((laws_toVersionS_C).ann.find? fun x => x.1 == firstId ((loopsOf (codeOf Go.Proofs.Try.f100)).getD 0 .skip)).map (·.2) = some F → LoopOK Go.Proofs.Try.prog laws_toVersionS_C.lent ((loopsOf (codeOf Go.Proofs.Try.f100)).getD 0 .skip) F := by
  refine lookup_ok (show ((laws_toVersionS_C).ann.find? fun x => x.1 == firstId ((loopsOf (codeOf Go.Proofs.Try.f100)).getD 0 .skip)).map (·.2) = some laws_toVersionS_F3 from by kernel_rfl) ?_
  exact loop_ok laws_toVersionS_HC (loops_all 0 (by kernel_rfl) (fun k hk => absurd hk (Nat.not_lt_zero k))) laws_toVersionS_T3 [3] laws_toVersionS_M3 laws_toVersionS_P3 (fun x => rfl) laws_toVersionS_D3 laws_toVersionS_D3_nat laws_toVersionS_E3 laws_toVersionS_K3 (fun i p R K => rfl) (fun i v => by kernel_rfl)

theorem laws_toVersionS_VC (x : den laws_toVersionS_ti.ty) : vcall laws_toVersionS_C Go.Proofs.Try.f100 laws_toVersionS_ti laws_toVersionS_to x = laws_toVersionS_S x := by kernel_rfl

theorem laws_toVersionS_OK : EntOK Go.Proofs.Try.prog laws_toVersionS_Ent := EntOK.of_vcall laws_toVersionS_HC Go.Proofs.Try.func100 (body_loops (by kernel_rfl) (loops_all 1 (by kernel_rfl) (fun k hk => match k, hk with | 0, _ => laws_toVersionS_lk3))) (by kernel_rfl) (by kernel_rfl) laws_toVersionS_VC

/-! laws.toVersionSS -/

noncomputable def laws_toVersionSS_D3 (i : List (List (Int × Int × Int × Int × Int × Unit)) × Unit) (v : Int × List (List (Int × Int × Int × Int × Int × Unit)) × Unit) (R : Type) (K : Int × List (List (Int × Int × Int × Int × Int × Unit)) × Unit ⊕ List (List (Int × Int × Int × Int × Int × Unit)) × Unit → Option R) : Option R :=
  bif decide (v.1 < (↑(List.length i.1) : Int)) then Option.bind (lAt i.1 v.1) fun v_1 => Option.bind (laws_toVersionS_S (v_1, ())) fun v_2 => if 0 ≤ v.1 ∧ v.1 < (↑(List.length v.2.1) : Int) then Option.bind v.2.1[0 + Int.toNat v.1]? fun v_3
  => K (Sum.inl (IntKind.wrap IntKind.i64 (v.1 + 1), List.set v.2.1 (0 + Int.toNat v.1) v_2.1, ())) else none else K (Sum.inr (v.2.1, ()))

theorem laws_toVersionSS_D3_nat (i : List (List (Int × Int × Int × Int × Int × Unit)) × Unit) (v : Int × List (List (Int × Int × Int × Int × Int × Unit)) × Unit) (R : Type) (K : Int × List (List (Int × Int × Int × Int × Int × Unit)) × Unit ⊕ List (List (Int × Int × Int × Int × Int × Unit)) × Unit → Option R) : laws_toVersionSS_D3 i v R K = (laws_toVersionSS_D3 i v _ some).bind K := nat_bif (nat_bind fun _ => nat_bind fun _ => nat_ite (nat_bind fun _ => nat_some)) (nat_some)

def laws_toVersionSS_T3 : Tmpl := Tmpl.mk (TmL.slot (Ty.slice (Ty.slice YVersion)) (TmL.junk (TmL.junk (TmL.own 0
  (TmL.slot Ty.i (TmL.junk (TmL.junk (TmL.junk (TmL.junk (TmL.junk (TmL.junk (TmL.junk (TmL.junk (TmL.junk (TmL.junk (TmL.junk (TmL.junk (TmL.junk (TmL.junk (TmL.junk (TmL.junk (TmL.junk (TmL.junk TmL.nil)))))))))))))))))))))))
  (TmH.tree false 1 (Ty.slice YVersion) TmH.nil)

def laws_toVersionSS_X3_0 (i : List (List (Int × Int × Int × Int × Int × Unit)) × Unit) (p : List (List (Int × Int × Int × Int × Int × Unit)) × Unit) : St :=
  St.mk [AV.junk, AV.junk, AV.junk, AV.own 0 none none, AV.junk, AV.junk, AV.junk, AV.junk, AV.junk, AV.junk, AV.junk, AV.junk, AV.junk, AV.junk, AV.junk, AV.junk, AV.junk, AV.junk, AV.junk, AV.junk, AV.junk, AV.junk, AV.junk] [some (Cont.tree
  false 1 (Ty.slice YVersion) p.1 none)]

noncomputable def laws_toVersionSS_E3 (i : List (List (Int × Int × Int × Int × Int × Unit)) × Unit) (p : List (List (Int × Int × Int × Int × Int × Unit)) × Unit) (R : Type) (K : Ex → St → Option R) : Option R := K (Ex.exit 0) (laws_toVersionSS_X3_0 i p)

noncomputable def laws_toVersionSS_K3 (i : List (List (Int × Int × Int × Int × Int × Unit)) × Unit) (p : List (List (Int × Int × Int × Int × Int × Unit)) × Unit) : Ex × St := ((Ex.exit 0), laws_toVersionSS_X3_0 i p)

def laws_toVersionSS_M3 (i : List (List (Int × Int × Int × Int × Int × Unit)) × Unit) (v : Int × List (List (Int × Int × Int × Int × Int × Unit)) × Unit) : den laws_toVersionSS_T3.ty := (i.1, v.1, v.2.1, ())

def laws_toVersionSS_P3 (x : den laws_toVersionSS_T3.ty) : (List (List (Int × Int × Int × Int × Int × Unit)) × Unit) × (Int × List (List (Int × Int × Int × Int × Int × Unit)) × Unit) := ((x.1, ()), (x.2.1, x.2.2.1, ()))

noncomputable def laws_toVersionSS_F3 : LoopFn := fun s R K => Tmpl.readS laws_toVersionSS_T3 0 s fun x => (iter (fun v => laws_toVersionSS_D3 (laws_toVersionSS_P3 x).1 v _ some) (laws_toVersionSS_P3 x).2).bind fun p => laws_toVersionSS_E3 (laws_toVersionSS_P3 x).1 p R K

noncomputable def laws_toVersionSS_C : Cfg := { ti := g_tis, ents := [laws_toVersionS_Ent], ann := [(3, laws_toVersionSS_F3)], lent := 0 }

def laws_toVersionSS_ti : Tmpl := Tmpl.mk (TmL.slot (Ty.slice (Ty.slice YVersion)) TmL.nil) TmH.nil

def laws_toVersionSS_to : Tmpl := Tmpl.mk (TmL.own 0 TmL.nil) (TmH.tree false 1 (Ty.slice YVersion) TmH.nil)

noncomputable def laws_toVersionSS_S (x : List (List (Int × Int × Int × Int × Int × Unit)) × Unit) : Option (List (List (Int × Int × Int × Int × Int × Unit)) × Unit) :=
  if 0 ≤ (↑(List.length x.1) : Int) ∧ (↑(List.length x.1) : Int) ≤ (↑(List.length x.1) : Int) ∧ (↑(List.length x.1) : Int) ≤ (↑1466015503701 : Int) then Option.bind (iter (fun v => laws_toVersionSS_D3 (x.1, ()) v (Int × List (List (Int × Int ×
  Int × Int × Int × Unit)) × Unit ⊕ List (List (Int × Int × Int × Int × Int × Unit)) × Unit) some) (0, List.replicate (Int.toNat (↑(List.length x.1) : Int)) [], ())) fun p => some (p.1, ()) else none

noncomputable def laws_toVersionSS_Ent : Ent := ⟨62, laws_toVersionSS_ti, laws_toVersionSS_to, laws_toVersionSS_S⟩

theorem laws_toVersionSS_HC : CfgOK Go.Proofs.Try.prog laws_toVersionSS_C := ⟨⟨info_ok g_tisOK⟩, (all_cons laws_toVersionS_OK all_nil), g_wide⟩

theorem laws_toVersionSS_lk3 : ∀ F, ((laws_toVersionSS_C).ann.find? fun x => x.1 == firstId ((loopsOf (codeOf Go.Proofs.Try.f62)).getD 0 .skip)).map (·.2) = some F → LoopOK Go.Proofs.Try.prog laws_toVersionSS_C.lent ((loopsOf (codeOf Go.Proofs.Try.f62)).getD 0 .skip) F := by
  refine lookup_ok (show ((laws_toVersionSS_C).ann.find? fun x => x.1 == firstId ((loopsOf (codeOf Go.Proofs.Try.f62)).getD 0 .skip)).map (·.2) = some laws_toVersionSS_F3 from by kernel_rfl) ?_
  exact loop_ok laws_toVersionSS_HC (loops_all 0 (by kernel_rfl) (fun k hk => absurd hk (Nat.not_lt_zero k))) laws_toVersionSS_T3 [3] laws_toVersionSS_M3 laws_toVersionSS_P3 (fun x => rfl) laws_toVersionSS_D3 laws_toVersionSS_D3_nat laws_toVersionSS_E3 laws_toVersionSS_K3 (fun i p R K => rfl) (fun i v => by kernel_rfl)

theorem laws_toVersionSS_VC (x : den laws_toVersionSS_ti.ty) : vcall laws_toVersionSS_C Go.Proofs.Try.f62 laws_toVersionSS_ti laws_toVersionSS_to x = laws_toVersionSS_S x := by kernel_rfl

theorem laws_toVersionSS_OK : EntOK Go.Proofs.Try.prog laws_toVersionSS_Ent := EntOK.of_vcall laws_toVersionSS_HC Go.Proofs.Try.func62 (body_loops (by kernel_rfl) (loops_all 1 (by kernel_rfl) (fun k hk => match k, hk with | 0, _ => laws_toVersionSS_lk3))) (by kernel_rfl) (by kernel_rfl) laws_toVersionSS_VC

/-! laws.toStore -/

noncomputable def laws_toStore_C : Cfg := { ti := g_tis, ents := [laws_toVersionSS_Ent], ann := [], lent := 0 }

def laws_toStore_ti : Tmpl := Tmpl.mk (TmL.slot YStore TmL.nil) TmH.nil

def laws_toStore_to : Tmpl := Tmpl.mk (TmL.agg (TmL.own 0 TmL.nil) TmL.nil) (TmH.tree false 1 (Ty.slice YVersion)
  TmH.nil)

noncomputable def laws_toStore_S (x : (List (List (Int × Int × Int × Int × Int × Unit)) × Unit) × Unit) : Option (List (List (Int × Int × Int × Int × Int × Unit)) × Unit) :=
  Option.bind (laws_toVersionSS_S (x.1.1, ())) fun v => some (v.1, ())

noncomputable def laws_toStore_Ent : Ent := ⟨23, laws_toStore_ti, laws_toStore_to, laws_toStore_S⟩

theorem laws_toStore_HC : CfgOK Go.Proofs.Try.prog laws_toStore_C := ⟨⟨info_ok g_tisOK⟩, (all_cons laws_toVersionSS_OK all_nil), g_wide⟩

theorem laws_toStore_VC (x : den laws_toStore_ti.ty) : vcall laws_toStore_C Go.Proofs.Try.f23 laws_toStore_ti laws_toStore_to x = laws_toStore_S x := by kernel_rfl

theorem laws_toStore_OK : EntOK Go.Proofs.Try.prog laws_toStore_Ent := EntOK.of_vcall laws_toStore_HC Go.Proofs.Try.func23 (body_loops (by kernel_rfl) (loops_all 0 (by kernel_rfl) (fun k hk => absurd hk (Nat.not_lt_zero k)))) (by kernel_rfl) (by kernel_rfl) laws_toStore_VC

/-! spec.l1In -/

noncomputable def spec_l1In_C : Cfg := { ti := g_tis, ents := [], ann := [], lent := 0 }

def spec_l1In_ti : Tmpl := Tmpl.mk (TmL.slot Ty.i (TmL.slot Ty.i (TmL.slot Ty.i TmL.nil))) TmH.nil

def spec_l1In_to : Tmpl := Tmpl.mk (TmL.slot Ty.bool TmL.nil) TmH.nil

noncomputable def spec_l1In_S (x : Int × Int × Int × Unit) : Option (Bool × Unit) :=
  bif decide (x.1 ≥ x.2.1) then some (decide (x.1 ≤ x.2.2.1), ()) else some (false, ())

noncomputable def spec_l1In_Ent : Ent := ⟨42, spec_l1In_ti, spec_l1In_to, spec_l1In_S⟩

theorem spec_l1In_HC : CfgOK Go.Proofs.Try.prog spec_l1In_C := ⟨⟨info_ok g_tisOK⟩, all_nil, g_wide⟩

theorem spec_l1In_VC (x : den spec_l1In_ti.ty) : vcall spec_l1In_C Go.Proofs.Try.f42 spec_l1In_ti spec_l1In_to x = spec_l1In_S x := by kernel_rfl

theorem spec_l1In_OK : EntOK Go.Proofs.Try.prog spec_l1In_Ent := EntOK.of_vcall spec_l1In_HC Go.Proofs.Try.func42 (body_loops (by kernel_rfl) (loops_all 0 (by kernel_rfl) (fun k hk => absurd hk (Nat.not_lt_zero k)))) (by kernel_rfl) (by kernel_rfl) spec_l1In_VC

/-! spec.IsValidVersion -/

noncomputable def spec_IsValidVersion_C : Cfg := { ti := g_tis, ents := [spec_l1In_Ent], ann := [], lent := 0 }

def spec_IsValidVersion_ti : Tmpl := Tmpl.mk (TmL.slot YVersion TmL.nil) TmH.nil

def spec_IsValidVersion_to : Tmpl := Tmpl.mk (TmL.slot Ty.bool TmL.nil) TmH.nil

noncomputable def spec_IsValidVersion_S (x : (Int × Int × Int × Int × Int × Unit) × Unit) : Option (Bool × Unit) :=
  Option.bind (spec_l1In_S (x.1.2.1, -1, 99, ())) fun v => bif !v.1 then some (false, ()) else Option.bind (spec_l1In_S (x.1.2.2.1, 0, 999, ())) fun v => bif !v.1 then some (false, ()) else Option.bind (spec_l1In_S (x.1.2.2.2.1, x.1.2.2.1,
  999, ())) fun v => bif !v.1 then some (false, ()) else Option.bind (spec_l1In_S (x.1.2.2.2.2.1, 1, 1000, ())) fun v => bif !v.1 then some (false, ()) else bif x.1.2.2.1 == 0 then bif x.1.1 == 0 then some (x.1.2.1 == -1, ()) else some (false,
  ()) else Option.bind (spec_l1In_S (x.1.1, 1, 9, ())) fun v => some (v.1, ())

noncomputable def spec_IsValidVersion_Ent : Ent := ⟨137, spec_IsValidVersion_ti, spec_IsValidVersion_to, spec_IsValidVersion_S⟩

theorem spec_IsValidVersion_HC : CfgOK Go.Proofs.Try.prog spec_IsValidVersion_C := ⟨⟨info_ok g_tisOK⟩, (all_cons spec_l1In_OK all_nil), g_wide⟩

theorem spec_IsValidVersion_VC (x : den spec_IsValidVersion_ti.ty) : vcall spec_IsValidVersion_C Go.Proofs.Try.f137 spec_IsValidVersion_ti spec_IsValidVersion_to x = spec_IsValidVersion_S x := by kernel_rfl

theorem spec_IsValidVersion_OK : EntOK Go.Proofs.Try.prog spec_IsValidVersion_Ent := EntOK.of_vcall spec_IsValidVersion_HC Go.Proofs.Try.func137 (body_loops (by kernel_rfl) (loops_all 0 (by kernel_rfl) (fun k hk => absurd hk (Nat.not_lt_zero k)))) (by kernel_rfl) (by kernel_rfl) spec_IsValidVersion_VC

/-! spec.IsValidChain -/

noncomputable def spec_IsValidChain_D2 (i : List (Int × Int × Int × Int × Int × Unit) × Unit) (v : Int × Unit) (R : Type) (K : Int × Unit ⊕ Unit ⊕ Unit ⊕ Unit ⊕ Unit → Option R) : Option R :=
  bif decide (v.1 < (↑(List.length i.1) : Int)) then Option.bind (lAt i.1 v.1) fun v_1 => Option.bind (spec_IsValidVersion_S ((v_1.1, v_1.2.1, v_1.2.2.1, v_1.2.2.2.1, v_1.2.2.2.2.1, ()), ())) fun v_2 => bif !v_2.1 then K (Sum.inr (Sum.inl ()))
  else bif decide (IntKind.wrap IntKind.i64 (v.1 + 1) < (↑(List.length i.1) : Int)) then Option.bind (lAt i.1 v.1) fun v_3 => Option.bind (lAt i.1 (IntKind.wrap IntKind.i64 (v.1 + 1))) fun v_4 => bif decide (v_3.2.2.1 ≥ v_4.2.2.1) then K
  (Sum.inr (Sum.inr (Sum.inl ()))) else Option.bind (lAt i.1 v.1) fun v_5 => Option.bind (lAt i.1 (IntKind.wrap IntKind.i64 (v.1 + 1))) fun v_6 => bif decide (v_5.2.2.2.2.1 > v_6.2.2.1) then K (Sum.inr (Sum.inr (Sum.inr (Sum.inl ())))) else K
  (Sum.inl (IntKind.wrap IntKind.i64 (v.1 + 1), ())) else K (Sum.inl (IntKind.wrap IntKind.i64 (v.1 + 1), ())) else K (Sum.inr (Sum.inr (Sum.inr (Sum.inr ()))))

theorem spec_IsValidChain_D2_nat (i : List (Int × Int × Int × Int × Int × Unit) × Unit) (v : Int × Unit) (R : Type) (K : Int × Unit ⊕ Unit ⊕ Unit ⊕ Unit ⊕ Unit → Option R) : spec_IsValidChain_D2 i v R K = (spec_IsValidChain_D2 i v _ some).bind K := nat_bif (nat_bind fun _ => nat_bind fun _ => nat_bif (nat_some) (nat_bif (nat_bind fun _ => nat_bind fun _ => nat_bif (nat_some) (nat_bind fun _ => nat_bind fun _ => nat_bif (nat_some) (nat_some))) (nat_some))) (nat_some)

def spec_IsValidChain_T2 : Tmpl := Tmpl.mk (TmL.slot (Ty.slice YVersion) (TmL.junk (TmL.junk (TmL.slot (Ty.int
  IntKind.i64) (TmL.junk (TmL.junk (TmL.junk (TmL.junk (TmL.junk (TmL.junk (TmL.junk (TmL.junk (TmL.junk (TmL.junk (TmL.junk (TmL.junk (TmL.junk (TmL.junk (TmL.junk (TmL.junk (TmL.junk (TmL.junk (TmL.junk (TmL.junk (TmL.junk (TmL.junk
  (TmL.junk (TmL.junk (TmL.junk (TmL.junk (TmL.junk (TmL.junk (TmL.junk (TmL.junk (TmL.junk (TmL.junk (TmL.junk (TmL.junk (TmL.junk (TmL.junk (TmL.junk (TmL.junk (TmL.junk (TmL.junk (TmL.junk (TmL.junk (TmL.junk (TmL.junk (TmL.junk (TmL.junk
  (TmL.junk (TmL.junk (TmL.junk (TmL.junk (TmL.junk (TmL.junk (TmL.junk (TmL.junk (TmL.junk (TmL.junk (TmL.junk (TmL.junk TmL.nil)))))))))))))))))))))))))))))))))))))))))))))))))))))))))))))) TmH.nil

def spec_IsValidChain_X2_0 (i : List (Int × Int × Int × Int × Int × Unit) × Unit) (p : Unit) : St :=
  St.mk [AV.pv (Ty.slice YVersion) i.1, AV.junk, AV.pv Ty.bool false, AV.junk, AV.junk,
  AV.junk, AV.junk, AV.junk, AV.junk, AV.junk, AV.junk, AV.junk, AV.junk, AV.junk, AV.junk, AV.junk, AV.junk, AV.junk, AV.junk, AV.junk, AV.junk, AV.junk, AV.junk, AV.junk, AV.junk, AV.junk, AV.junk, AV.junk, AV.junk, AV.junk, AV.junk,
  AV.junk, AV.junk, AV.junk, AV.junk, AV.junk, AV.junk, AV.junk, AV.junk, AV.junk, AV.junk, AV.junk, AV.junk, AV.junk, AV.junk, AV.junk, AV.junk, AV.junk, AV.junk, AV.junk, AV.junk, AV.junk, AV.junk, AV.junk, AV.junk, AV.junk, AV.junk,
  AV.junk, AV.junk, AV.junk, AV.junk, AV.junk] []

def spec_IsValidChain_X2_1 (i : List (Int × Int × Int × Int × Int × Unit) × Unit) (p : Unit) : St :=
  St.mk [AV.pv (Ty.slice YVersion) i.1, AV.junk, AV.pv Ty.bool false, AV.junk, AV.junk,
  AV.junk, AV.junk, AV.junk, AV.junk, AV.junk, AV.junk, AV.junk, AV.junk, AV.junk, AV.junk, AV.junk, AV.junk, AV.junk, AV.junk, AV.junk, AV.junk, AV.junk, AV.junk, AV.junk, AV.junk, AV.junk, AV.junk, AV.junk, AV.junk, AV.junk, AV.junk,
  AV.junk, AV.junk, AV.junk, AV.junk, AV.junk, AV.junk, AV.junk, AV.junk, AV.junk, AV.junk, AV.junk, AV.junk, AV.junk, AV.junk, AV.junk, AV.junk, AV.junk, AV.junk, AV.junk, AV.junk, AV.junk, AV.junk, AV.junk, AV.junk, AV.junk, AV.junk,
  AV.junk, AV.junk, AV.junk, AV.junk, AV.junk] []

def spec_IsValidChain_X2_2 (i : List (Int × Int × Int × Int × Int × Unit) × Unit) (p : Unit) : St :=
  St.mk [AV.pv (Ty.slice YVersion) i.1, AV.junk, AV.pv Ty.bool false, AV.junk, AV.junk,
  AV.junk, AV.junk, AV.junk, AV.junk, AV.junk, AV.junk, AV.junk, AV.junk, AV.junk, AV.junk, AV.junk, AV.junk, AV.junk, AV.junk, AV.junk, AV.junk, AV.junk, AV.junk, AV.junk, AV.junk, AV.junk, AV.junk, AV.junk, AV.junk, AV.junk, AV.junk,
  AV.junk, AV.junk, AV.junk, AV.junk, AV.junk, AV.junk, AV.junk, AV.junk, AV.junk, AV.junk, AV.junk, AV.junk, AV.junk, AV.junk, AV.junk, AV.junk, AV.junk, AV.junk, AV.junk, AV.junk, AV.junk, AV.junk, AV.junk, AV.junk, AV.junk, AV.junk,
  AV.junk, AV.junk, AV.junk, AV.junk, AV.junk] []

def spec_IsValidChain_X2_3 (i : List (Int × Int × Int × Int × Int × Unit) × Unit) (p : Unit) : St :=
  St.mk [AV.pv (Ty.slice YVersion) i.1, AV.junk, AV.junk, AV.junk, AV.junk, AV.junk,
  AV.junk, AV.junk, AV.junk, AV.junk, AV.junk, AV.junk, AV.junk, AV.junk, AV.junk, AV.junk, AV.junk, AV.junk, AV.junk, AV.junk, AV.junk, AV.junk, AV.junk, AV.junk, AV.junk, AV.junk, AV.junk, AV.junk, AV.junk, AV.junk, AV.junk, AV.junk,
  AV.junk, AV.junk, AV.junk, AV.junk, AV.junk, AV.junk, AV.junk, AV.junk, AV.junk, AV.junk, AV.junk, AV.junk, AV.junk, AV.junk, AV.junk, AV.junk, AV.junk, AV.junk, AV.junk, AV.junk, AV.junk, AV.junk, AV.junk, AV.junk, AV.junk, AV.junk,
  AV.junk, AV.junk, AV.junk, AV.junk] []

noncomputable def spec_IsValidChain_E2 (i : List (Int × Int × Int × Int × Int × Unit) × Unit) (p : Unit ⊕ Unit ⊕ Unit ⊕ Unit) (R : Type) (K : Ex → St → Option R) : Option R := sumC p (fun p => K (Ex.ret) (spec_IsValidChain_X2_0 i p)) (fun p => sumC p (fun p => K (Ex.ret) (spec_IsValidChain_X2_1 i p)) (fun p => sumC p (fun p => K (Ex.ret) (spec_IsValidChain_X2_2 i p)) (fun p => K (Ex.exit 0) (spec_IsValidChain_X2_3 i p))))

noncomputable def spec_IsValidChain_K2 (i : List (Int × Int × Int × Int × Int × Unit) × Unit) (p : Unit ⊕ Unit ⊕ Unit ⊕ Unit) : Ex × St := sumC p (fun p => ((Ex.ret), spec_IsValidChain_X2_0 i p)) (fun p => sumC p (fun p => ((Ex.ret), spec_IsValidChain_X2_1 i p)) (fun p => sumC p (fun p => ((Ex.ret), spec_IsValidChain_X2_2 i p)) (fun p => ((Ex.exit 0), spec_IsValidChain_X2_3 i p))))

def spec_IsValidChain_M2 (i : List (Int × Int × Int × Int × Int × Unit) × Unit) (v : Int × Unit) : den spec_IsValidChain_T2.ty := (i.1, v.1, ())

def spec_IsValidChain_P2 (x : den spec_IsValidChain_T2.ty) : (List (Int × Int × Int × Int × Int × Unit) × Unit) × (Int × Unit) := ((x.1, ()), (x.2.1, ()))

noncomputable def spec_IsValidChain_F2 : LoopFn := fun s R K => Tmpl.readS spec_IsValidChain_T2 0 s fun x => (iter (fun v => spec_IsValidChain_D2 (spec_IsValidChain_P2 x).1 v _ some) (spec_IsValidChain_P2 x).2).bind fun p => spec_IsValidChain_E2 (spec_IsValidChain_P2 x).1 p R K

noncomputable def spec_IsValidChain_C : Cfg := { ti := g_tis, ents := [spec_IsValidVersion_Ent], ann := [(2, spec_IsValidChain_F2)], lent := 0 }

def spec_IsValidChain_ti : Tmpl := Tmpl.mk (TmL.slot (Ty.slice YVersion) TmL.nil) TmH.nil

def spec_IsValidChain_to : Tmpl := Tmpl.mk (TmL.slot Ty.bool TmL.nil) TmH.nil

noncomputable def spec_IsValidChain_S (x : List (Int × Int × Int × Int × Int × Unit) × Unit) : Option (Bool × Unit) :=
  Option.bind (iter (fun v => spec_IsValidChain_D2 (x.1, ()) v (Int × Unit ⊕ Unit ⊕ Unit ⊕ Unit ⊕ Unit) some) (0, ())) fun p => sumC p (fun p => some (false, ())) fun p => sumC p (fun p => some (false, ())) fun p => sumC p (fun p => some
  (false, ())) fun p => bif decide ((↑(List.length x.1) : Int) > 0) then Option.bind (lAt x.1 (IntKind.wrap IntKind.i64 ((↑(List.length x.1) : Int) - 1))) fun v => some (v.2.2.2.2.1 == 1000, ()) else some (false, ())

noncomputable def spec_IsValidChain_Ent : Ent := ⟨95, spec_IsValidChain_ti, spec_IsValidChain_to, spec_IsValidChain_S⟩

theorem spec_IsValidChain_HC : CfgOK Go.Proofs.Try.prog spec_IsValidChain_C := ⟨⟨info_ok g_tisOK⟩, (all_cons spec_IsValidVersion_OK all_nil), g_wide⟩

theorem spec_IsValidChain_lk2 : ∀ F, ((spec_IsValidChain_C).ann.find? fun x => x.1 == firstId ((loopsOf (codeOf Go.Proofs.Try.f95)).getD 0 .skip)).map (·.2) = some F → LoopOK Go.Proofs.Try.prog spec_IsValidChain_C.lent ((loopsOf (codeOf Go.Proofs.Try.f95)).getD 0 .skip) F := by
  refine lookup_ok (show ((spec_IsValidChain_C).ann.find? fun x => x.1 == firstId ((loopsOf (codeOf Go.Proofs.Try.f95)).getD 0 .skip)).map (·.2) = some spec_IsValidChain_F2 from by kernel_rfl) ?_
  exact loop_ok spec_IsValidChain_HC (loops_all 0 (by kernel_rfl) (fun k hk => absurd hk (Nat.not_lt_zero k))) spec_IsValidChain_T2 [0, 2] spec_IsValidChain_M2 spec_IsValidChain_P2 (fun x => rfl) spec_IsValidChain_D2 spec_IsValidChain_D2_nat spec_IsValidChain_E2 spec_IsValidChain_K2 (fun i p R K => by rcases p with p | p | p | p <;> rfl) (fun i v => by kernel_rfl)

theorem spec_IsValidChain_VC (x : den spec_IsValidChain_ti.ty) : vcall spec_IsValidChain_C Go.Proofs.Try.f95 spec_IsValidChain_ti spec_IsValidChain_to x = spec_IsValidChain_S x := by kernel_rfl

theorem spec_IsValidChain_OK : EntOK Go.Proofs.Try.prog spec_IsValidChain_Ent := EntOK.of_vcall spec_IsValidChain_HC Go.Proofs.Try.func95 (body_loops (by kernel_rfl) (loops_all 1 (by kernel_rfl) (fun k hk => match k, hk with | 0, _ => spec_IsValidChain_lk2))) (by kernel_rfl) (by kernel_rfl) spec_IsValidChain_VC

/-! spec.IsValidStore -/

noncomputable def spec_IsValidStore_D2 (i : List (List (Int × Int × Int × Int × Int × Unit)) × Unit) (v : Int × Unit) (R : Type) (K : Int × Unit ⊕ Unit ⊕ Unit ⊕ Unit ⊕ Unit ⊕ Unit → Option R) : Option R :=
  bif decide (v.1 < (↑(List.length i.1) : Int)) then Option.bind (lAt i.1 v.1) fun v_1 => Option.bind (spec_IsValidChain_S (v_1, ())) fun v_2 => bif !v_2.1 then K (Sum.inr (Sum.inl ())) else Option.bind (lAt i.1 v.1) fun v_3 => Option.bind
  (lAt v_3 0) fun v_4 => bif decide (v_4.2.2.1 > 0) then Option.bind (lAt i.1 v.1) fun v_5 => bif decide ((↑(List.length v_5) : Int) > 50) then K (Sum.inr (Sum.inr (Sum.inl ()))) else Option.bind (lAt i.1 v.1) fun v_6 => bif decide
  ((↑(List.length v_6) : Int) > 50) then K (Sum.inr (Sum.inr (Sum.inr (Sum.inl ())))) else K (Sum.inl (IntKind.wrap IntKind.i64 (v.1 + 1), ())) else Option.bind (lAt i.1 v.1) fun v_5 => bif decide ((↑(List.length v_5) : Int) > 50) then K
  (Sum.inr (Sum.inr (Sum.inr (Sum.inr (Sum.inl ()))))) else K (Sum.inl (IntKind.wrap IntKind.i64 (v.1 + 1), ())) else K (Sum.inr (Sum.inr (Sum.inr (Sum.inr (Sum.inr ())))))

theorem spec_IsValidStore_D2_nat (i : List (List (Int × Int × Int × Int × Int × Unit)) × Unit) (v : Int × Unit) (R : Type) (K : Int × Unit ⊕ Unit ⊕ Unit ⊕ Unit ⊕ Unit ⊕ Unit → Option R) : spec_IsValidStore_D2 i v R K = (spec_IsValidStore_D2 i v _ some).bind K := nat_bif (nat_bind fun _ => nat_bind fun _ => nat_bif (nat_some) (nat_bind fun _ => nat_bind fun _ => nat_bif (nat_bind fun _ => nat_bif (nat_some) (nat_bind fun _ => nat_bif (nat_some) (nat_some))) (nat_bind fun _ => nat_bif (nat_some) (nat_some)))) (nat_some)

def spec_IsValidStore_T2 : Tmpl := Tmpl.mk (TmL.junk (TmL.ptr 0 0 0 (TmL.junk (TmL.slot Ty.i (TmL.junk (TmL.junk (TmL.junk (TmL.junk (TmL.junk (TmL.junk (TmL.junk (TmL.junk (TmL.junk (TmL.junk (TmL.junk (TmL.junk (TmL.junk (TmL.junk (TmL.junk (TmL.junk
  (TmL.junk (TmL.junk (TmL.junk (TmL.junk (TmL.junk (TmL.junk (TmL.junk (TmL.junk (TmL.junk (TmL.junk (TmL.junk (TmL.junk (TmL.junk (TmL.junk (TmL.junk (TmL.junk (TmL.junk (TmL.junk (TmL.junk (TmL.junk (TmL.junk (TmL.junk (TmL.junk (TmL.junk
  (TmL.junk (TmL.junk (TmL.junk (TmL.junk (TmL.junk (TmL.junk (TmL.junk TmL.nil))))))))))))))))))))))))))))))))))))))))))))))))))) (TmH.cells 1 (TmL.slot (Ty.slice (Ty.slice (Ty.prod Ty.i (Ty.prod Ty.i (Ty.prod
  Ty.i YReadMark))))) TmL.nil) TmH.nil)

def spec_IsValidStore_X2_0 (i : List (List (Int × Int × Int × Int × Int × Unit)) × Unit) (p : Unit) : St :=
  St.mk [AV.junk, AV.ptr 0 none 0 0, AV.pv Ty.bool false, AV.junk, AV.junk, AV.junk, AV.junk, AV.junk, AV.junk, AV.junk, AV.junk, AV.junk, AV.junk, AV.junk, AV.junk, AV.junk, AV.junk, AV.junk, AV.junk, AV.junk, AV.junk, AV.junk, AV.junk,
  AV.junk, AV.junk, AV.junk, AV.junk, AV.junk, AV.junk, AV.junk, AV.junk, AV.junk, AV.junk, AV.junk, AV.junk, AV.junk, AV.junk, AV.junk, AV.junk, AV.junk, AV.junk, AV.junk, AV.junk, AV.junk, AV.junk, AV.junk, AV.junk, AV.junk, AV.junk,
  AV.junk, AV.junk] [some (Cont.cells 1 [[AV.pv (Ty.slice (Ty.slice YVersion)) i.1]])]

def spec_IsValidStore_X2_1 (i : List (List (Int × Int × Int × Int × Int × Unit)) × Unit) (p : Unit) : St :=
  St.mk [AV.junk, AV.ptr 0 none 0 0, AV.pv Ty.bool false, AV.junk, AV.junk, AV.junk, AV.junk, AV.junk, AV.junk, AV.junk, AV.junk, AV.junk, AV.junk, AV.junk, AV.junk, AV.junk, AV.junk, AV.junk, AV.junk, AV.junk, AV.junk, AV.junk, AV.junk,
  AV.junk, AV.junk, AV.junk, AV.junk, AV.junk, AV.junk, AV.junk, AV.junk, AV.junk, AV.junk, AV.junk, AV.junk, AV.junk, AV.junk, AV.junk, AV.junk, AV.junk, AV.junk, AV.junk, AV.junk, AV.junk, AV.junk, AV.junk, AV.junk, AV.junk, AV.junk,
  AV.junk, AV.junk] [some (Cont.cells 1 [[AV.pv (Ty.slice (Ty.slice YVersion)) i.1]])]

def spec_IsValidStore_X2_2 (i : List (List (Int × Int × Int × Int × Int × Unit)) × Unit) (p : Unit) : St :=
  St.mk [AV.junk, AV.ptr 0 none 0 0, AV.pv Ty.bool false, AV.junk, AV.junk, AV.junk, AV.junk, AV.junk, AV.junk, AV.junk, AV.junk, AV.junk, AV.junk, AV.junk, AV.junk, AV.junk, AV.junk, AV.junk, AV.junk, AV.junk, AV.junk, AV.junk, AV.junk,
  AV.junk, AV.junk, AV.junk, AV.junk, AV.junk, AV.junk, AV.junk, AV.junk, AV.junk, AV.junk, AV.junk, AV.junk, AV.junk, AV.junk, AV.junk, AV.junk, AV.junk, AV.junk, AV.junk, AV.junk, AV.junk, AV.junk, AV.junk, AV.junk, AV.junk, AV.junk,
  AV.junk, AV.junk] [some (Cont.cells 1 [[AV.pv (Ty.slice (Ty.slice YVersion)) i.1]])]

def spec_IsValidStore_X2_3 (i : List (List (Int × Int × Int × Int × Int × Unit)) × Unit) (p : Unit) : St :=
  St.mk [AV.junk, AV.ptr 0 none 0 0, AV.pv Ty.bool false, AV.junk, AV.junk, AV.junk, AV.junk, AV.junk, AV.junk, AV.junk, AV.junk, AV.junk, AV.junk, AV.junk, AV.junk, AV.junk, AV.junk, AV.junk, AV.junk, AV.junk, AV.junk, AV.junk, AV.junk,
  AV.junk, AV.junk, AV.junk, AV.junk, AV.junk, AV.junk, AV.junk, AV.junk, AV.junk, AV.junk, AV.junk, AV.junk, AV.junk, AV.junk, AV.junk, AV.junk, AV.junk, AV.junk, AV.junk, AV.junk, AV.junk, AV.junk, AV.junk, AV.junk, AV.junk, AV.junk,
  AV.junk, AV.junk] [some (Cont.cells 1 [[AV.pv (Ty.slice (Ty.slice YVersion)) i.1]])]

def spec_IsValidStore_X2_4 (i : List (List (Int × Int × Int × Int × Int × Unit)) × Unit) (p : Unit) : St :=
  St.mk [AV.junk, AV.ptr 0 none 0 0, AV.junk, AV.junk, AV.junk, AV.junk, AV.junk, AV.junk, AV.junk, AV.junk, AV.junk, AV.junk, AV.junk, AV.junk, AV.junk, AV.junk, AV.junk, AV.junk, AV.junk, AV.junk, AV.junk, AV.junk, AV.junk, AV.junk, AV.junk,
  AV.junk, AV.junk, AV.junk, AV.junk, AV.junk, AV.junk, AV.junk, AV.junk, AV.junk, AV.junk, AV.junk, AV.junk, AV.junk, AV.junk, AV.junk, AV.junk, AV.junk, AV.junk, AV.junk, AV.junk, AV.junk, AV.junk, AV.junk, AV.junk, AV.junk, AV.junk] [some
  (Cont.cells 1 [[AV.pv (Ty.slice (Ty.slice YVersion)) i.1]])]

noncomputable def spec_IsValidStore_E2 (i : List (List (Int × Int × Int × Int × Int × Unit)) × Unit) (p : Unit ⊕ Unit ⊕ Unit ⊕ Unit ⊕ Unit) (R : Type) (K : Ex → St → Option R) : Option R := sumC p (fun p => K (Ex.ret) (spec_IsValidStore_X2_0 i p)) (fun p => sumC p (fun p => K (Ex.ret) (spec_IsValidStore_X2_1 i p)) (fun p => sumC p (fun p => K (Ex.ret) (spec_IsValidStore_X2_2 i p)) (fun p => sumC p (fun p => K (Ex.ret) (spec_IsValidStore_X2_3 i p)) (fun p => K (Ex.exit 0) (spec_IsValidStore_X2_4 i p)))))

noncomputable def spec_IsValidStore_K2 (i : List (List (Int × Int × Int × Int × Int × Unit)) × Unit) (p : Unit ⊕ Unit ⊕ Unit ⊕ Unit ⊕ Unit) : Ex × St := sumC p (fun p => ((Ex.ret), spec_IsValidStore_X2_0 i p)) (fun p => sumC p (fun p => ((Ex.ret), spec_IsValidStore_X2_1 i p)) (fun p => sumC p (fun p => ((Ex.ret), spec_IsValidStore_X2_2 i p)) (fun p => sumC p (fun p => ((Ex.ret), spec_IsValidStore_X2_3 i p)) (fun p => ((Ex.exit 0), spec_IsValidStore_X2_4 i p)))))

def spec_IsValidStore_M2 (i : List (List (Int × Int × Int × Int × Int × Unit)) × Unit) (v : Int × Unit) : den spec_IsValidStore_T2.ty := (v.1, i.1, ())

def spec_IsValidStore_P2 (x : den spec_IsValidStore_T2.ty) : (List (List (Int × Int × Int × Int × Int × Unit)) × Unit) × (Int × Unit) := ((x.2.1, ()), (x.1, ()))

noncomputable def spec_IsValidStore_F2 : LoopFn := fun s R K => Tmpl.readS spec_IsValidStore_T2 0 s fun x => (iter (fun v => spec_IsValidStore_D2 (spec_IsValidStore_P2 x).1 v _ some) (spec_IsValidStore_P2 x).2).bind fun p => spec_IsValidStore_E2 (spec_IsValidStore_P2 x).1 p R K

noncomputable def spec_IsValidStore_C : Cfg := { ti := g_tis, ents := [spec_IsValidChain_Ent], ann := [(2, spec_IsValidStore_F2)], lent := 0 }

def spec_IsValidStore_ti : Tmpl := Tmpl.mk (TmL.slot YStore TmL.nil) TmH.nil

def spec_IsValidStore_to : Tmpl := Tmpl.mk (TmL.slot Ty.bool TmL.nil) TmH.nil

noncomputable def spec_IsValidStore_S (x : (List (List (Int × Int × Int × Int × Int × Unit)) × Unit) × Unit) : Option (Bool × Unit) :=
  Option.bind (iter (fun v => spec_IsValidStore_D2 (x.1.1, ()) v (Int × Unit ⊕ Unit ⊕ Unit ⊕ Unit ⊕ Unit ⊕ Unit) some) (0, ())) fun p => sumC p (fun p => some (false, ())) fun p => sumC p (fun p => some (false, ())) fun p => sumC p (fun p =>
  some (false, ())) fun p => sumC p (fun p => some (false, ())) fun p => some ((↑(List.length x.1.1) : Int) == 6, ())

noncomputable def spec_IsValidStore_Ent : Ent := ⟨54, spec_IsValidStore_ti, spec_IsValidStore_to, spec_IsValidStore_S⟩

theorem spec_IsValidStore_HC : CfgOK Go.Proofs.Try.prog spec_IsValidStore_C := ⟨⟨info_ok g_tisOK⟩, (all_cons spec_IsValidChain_OK all_nil), g_wide⟩

theorem spec_IsValidStore_lk2 : ∀ F, ((spec_IsValidStore_C).ann.find? fun x => x.1 == firstId ((loopsOf (codeOf Go.Proofs.Try.f54)).getD 0 .skip)).map (·.2) = some F → LoopOK Go.Proofs.Try.prog spec_IsValidStore_C.lent ((loopsOf (codeOf Go.Proofs.Try.f54)).getD 0 .skip) F := by
  refine lookup_ok (show ((spec_IsValidStore_C).ann.find? fun x => x.1 == firstId ((loopsOf (codeOf Go.Proofs.Try.f54)).getD 0 .skip)).map (·.2) = some spec_IsValidStore_F2 from by kernel_rfl) ?_
  exact loop_ok spec_IsValidStore_HC (loops_all 0 (by kernel_rfl) (fun k hk => absurd hk (Nat.not_lt_zero k))) spec_IsValidStore_T2 [1, 2] spec_IsValidStore_M2 spec_IsValidStore_P2 (fun x => rfl) spec_IsValidStore_D2 spec_IsValidStore_D2_nat spec_IsValidStore_E2 spec_IsValidStore_K2 (fun i p R K => by rcases p with p | p | p | p | p <;> rfl) (fun i v => by kernel_rfl)

theorem spec_IsValidStore_VC (x : den spec_IsValidStore_ti.ty) : vcall spec_IsValidStore_C Go.Proofs.Try.f54 spec_IsValidStore_ti spec_IsValidStore_to x = spec_IsValidStore_S x := by kernel_rfl

theorem spec_IsValidStore_OK : EntOK Go.Proofs.Try.prog spec_IsValidStore_Ent := EntOK.of_vcall spec_IsValidStore_HC Go.Proofs.Try.func54 (body_loops (by kernel_rfl) (loops_all 1 (by kernel_rfl) (fun k hk => match k, hk with | 0, _ => spec_IsValidStore_lk2))) (by kernel_rfl) (by kernel_rfl) spec_IsValidStore_VC

/-! spec.LastStamp -/

noncomputable def spec_LastStamp_D6 (i : Int × List (List (Int × Int × Int × Int × Int × Unit)) × Unit) (v : Int × Int × Unit) (R : Type) (K : Int × Int × Unit ⊕ Int × Unit → Option R) : Option R :=
  Option.bind (lAt i.2.1 i.1) fun v_1 => bif decide (v.2.1 < (↑(List.length v_1) : Int)) then Option.bind (lAt i.2.1 i.1) fun v_2 => Option.bind (lAt v_2 v.2.1) fun v_3 => Option.bind (lAt i.2.1 i.1) fun v_4 => Option.bind (lAt v_4 v.2.1) fun
  v_5 => K (Sum.inl (mx (mx v.1 v_3.2.2.1) v_5.2.2.2.1, IntKind.wrap IntKind.i64 (v.2.1 + 1), ())) else K (Sum.inr (v.1, ()))

theorem spec_LastStamp_D6_nat (i : Int × List (List (Int × Int × Int × Int × Int × Unit)) × Unit) (v : Int × Int × Unit) (R : Type) (K : Int × Int × Unit ⊕ Int × Unit → Option R) : spec_LastStamp_D6 i v R K = (spec_LastStamp_D6 i v _ some).bind K := nat_bind fun _ => nat_bif (nat_bind fun _ => nat_bind fun _ => nat_bind fun _ => nat_bind fun _ => nat_some) (nat_some)

def spec_LastStamp_T6 : Tmpl := Tmpl.mk (TmL.junk (TmL.ptr 0 0 0 (TmL.junk (TmL.slot Ty.i (TmL.slot Ty.i (TmL.slot Ty.i (TmL.junk (TmL.junk (TmL.junk (TmL.junk (TmL.junk (TmL.junk (TmL.junk (TmL.junk (TmL.junk (TmL.junk
  (TmL.junk (TmL.junk (TmL.junk (TmL.junk (TmL.junk (TmL.junk (TmL.junk (TmL.junk (TmL.junk (TmL.junk (TmL.junk (TmL.junk (TmL.junk (TmL.junk (TmL.junk (TmL.junk (TmL.junk (TmL.junk (TmL.junk (TmL.junk (TmL.junk (TmL.junk (TmL.junk (TmL.junk
  (TmL.junk (TmL.junk (TmL.junk (TmL.junk (TmL.junk (TmL.junk (TmL.junk (TmL.junk TmL.nil)))))))))))))))))))))))))))))))))))))))))))))))) (TmH.cells 1 (TmL.slot (Ty.slice (Ty.slice (Ty.prod Ty.i (Ty.prod Ty.i
  (Ty.prod Ty.i YReadMark))))) TmL.nil) TmH.nil)

def spec_LastStamp_X6_0 (i : Int × List (List (Int × Int × Int × Int × Int × Unit)) × Unit) (p : Int × Unit) : St :=
  St.mk [AV.junk, AV.ptr 0 none 0 0, AV.junk, AV.pv Ty.i p.1, AV.pv Ty.i i.1, AV.junk, AV.junk, AV.junk, AV.junk, AV.junk, AV.junk, AV.junk, AV.junk, AV.junk, AV.junk, AV.junk, AV.junk, AV.junk, AV.junk,
  AV.junk, AV.junk, AV.junk, AV.junk, AV.junk, AV.junk, AV.junk, AV.junk, AV.junk, AV.junk, AV.junk, AV.junk, AV.junk, AV.junk, AV.junk, AV.junk, AV.junk, AV.junk, AV.junk, AV.junk, AV.junk, AV.junk, AV.junk, AV.junk, AV.junk, AV.junk,
  AV.junk, AV.junk, AV.junk] [some (Cont.cells 1 [[AV.pv (Ty.slice (Ty.slice YVersion))
  i.2.1]])]

noncomputable def spec_LastStamp_E6 (i : Int × List (List (Int × Int × Int × Int × Int × Unit)) × Unit) (p : Int × Unit) (R : Type) (K : Ex → St → Option R) : Option R := K (Ex.exit 2) (spec_LastStamp_X6_0 i p)

noncomputable def spec_LastStamp_K6 (i : Int × List (List (Int × Int × Int × Int × Int × Unit)) × Unit) (p : Int × Unit) : Ex × St := ((Ex.exit 2), spec_LastStamp_X6_0 i p)

def spec_LastStamp_M6 (i : Int × List (List (Int × Int × Int × Int × Int × Unit)) × Unit) (v : Int × Int × Unit) : den spec_LastStamp_T6.ty := (v.1, i.1, v.2.1, i.2.1, ())

def spec_LastStamp_P6 (x : den spec_LastStamp_T6.ty) : (Int × List (List (Int × Int × Int × Int × Int × Unit)) × Unit) × (Int × Int × Unit) := ((x.2.1, x.2.2.2.1, ()), (x.1, x.2.2.1, ()))

noncomputable def spec_LastStamp_F6 : LoopFn := fun s R K => Tmpl.readS spec_LastStamp_T6 0 s fun x => (iter (fun v => spec_LastStamp_D6 (spec_LastStamp_P6 x).1 v _ some) (spec_LastStamp_P6 x).2).bind fun p => spec_LastStamp_E6 (spec_LastStamp_P6 x).1 p R K

noncomputable def spec_LastStamp_D3 (i : List (List (Int × Int × Int × Int × Int × Unit)) × Unit) (v : Int × Int × Unit) (R : Type) (K : Int × Int × Unit ⊕ Int × Unit ⊕ Int × Unit → Option R) : Option R :=
  bif decide (v.2.1 < (↑(List.length i.1) : Int)) then Option.bind (spec_IsValidStore_S ((i.1, ()), ())) fun v_1 => bif v_1.1 then Option.bind (iter (fun v_2 => spec_LastStamp_D6 (v.2.1, i.1, ()) v_2 (Int × Int × Unit ⊕ Int × Unit) some) (v.1,
  0, ())) fun p => K (Sum.inl (p.1, IntKind.wrap IntKind.i64 (v.2.1 + 1), ())) else K (Sum.inr (Sum.inl (v.1, ()))) else K (Sum.inr (Sum.inr (v.1, ())))

theorem spec_LastStamp_D3_nat (i : List (List (Int × Int × Int × Int × Int × Unit)) × Unit) (v : Int × Int × Unit) (R : Type) (K : Int × Int × Unit ⊕ Int × Unit ⊕ Int × Unit → Option R) : spec_LastStamp_D3 i v R K = (spec_LastStamp_D3 i v _ some).bind K := nat_bif (nat_bind fun _ => nat_bif (nat_bind fun _ => nat_some) (nat_some)) (nat_some)

def spec_LastStamp_T3 : Tmpl := Tmpl.mk (TmL.junk (TmL.ptr 0 0 0 (TmL.junk (TmL.slot Ty.i (TmL.slot Ty.i (TmL.junk (TmL.junk (TmL.junk (TmL.junk (TmL.junk (TmL.junk (TmL.junk (TmL.junk (TmL.junk (TmL.junk (TmL.junk (TmL.junk (TmL.junk
  (TmL.junk (TmL.junk (TmL.junk (TmL.junk (TmL.junk (TmL.junk (TmL.junk (TmL.junk (TmL.junk (TmL.junk (TmL.junk (TmL.junk (TmL.junk (TmL.junk (TmL.junk (TmL.junk (TmL.junk (TmL.junk (TmL.junk (TmL.junk (TmL.junk (TmL.junk (TmL.junk (TmL.junk
  (TmL.junk (TmL.junk (TmL.junk (TmL.junk (TmL.junk (TmL.junk TmL.nil)))))))))))))))))))))))))))))))))))))))))))))))) (TmH.cells 1 (TmL.slot (Ty.slice (Ty.slice (Ty.prod Ty.i (Ty.prod Ty.i (Ty.prod (Ty.int
  IntKind.i64) YReadMark))))) TmL.nil) TmH.nil)

def spec_LastStamp_X3_0 (i : List (List (Int × Int × Int × Int × Int × Unit)) × Unit) (p : Int × Unit) : St :=
  St.mk [AV.junk, AV.junk, AV.junk, AV.pv Ty.i p.1, AV.junk, AV.junk, AV.junk, AV.junk, AV.junk, AV.junk, AV.junk, AV.junk, AV.junk, AV.junk, AV.junk, AV.junk, AV.junk, AV.junk, AV.junk, AV.junk, AV.junk, AV.junk, AV.junk,
  AV.junk, AV.junk, AV.junk, AV.junk, AV.junk, AV.junk, AV.junk, AV.junk, AV.junk, AV.junk, AV.junk, AV.junk, AV.junk, AV.junk, AV.junk, AV.junk, AV.junk, AV.junk, AV.junk, AV.junk, AV.junk, AV.junk, AV.junk, AV.junk, AV.junk] [some
  (Cont.cells 1 [[AV.pv (Ty.slice (Ty.slice YVersion)) i.1]])]

def spec_LastStamp_X3_1 (i : List (List (Int × Int × Int × Int × Int × Unit)) × Unit) (p : Int × Unit) : St :=
  St.mk [AV.junk, AV.junk, AV.junk, AV.pv Ty.i p.1, AV.junk, AV.junk, AV.junk, AV.junk, AV.junk, AV.junk, AV.junk, AV.junk, AV.junk, AV.junk, AV.junk, AV.junk, AV.junk, AV.junk, AV.junk, AV.junk, AV.junk, AV.junk, AV.junk,
  AV.junk, AV.junk, AV.junk, AV.junk, AV.junk, AV.junk, AV.junk, AV.junk, AV.junk, AV.junk, AV.junk, AV.junk, AV.junk, AV.junk, AV.junk, AV.junk, AV.junk, AV.junk, AV.junk, AV.junk, AV.junk, AV.junk, AV.junk, AV.junk, AV.junk] [some
  (Cont.cells 1 [[AV.pv (Ty.slice (Ty.slice YVersion)) i.1]])]

noncomputable def spec_LastStamp_E3 (i : List (List (Int × Int × Int × Int × Int × Unit)) × Unit) (p : Int × Unit ⊕ Int × Unit) (R : Type) (K : Ex → St → Option R) : Option R := sumC p (fun p => K (Ex.exit 0) (spec_LastStamp_X3_0 i p)) (fun p => K (Ex.exit 0) (spec_LastStamp_X3_1 i p))

noncomputable def spec_LastStamp_K3 (i : List (List (Int × Int × Int × Int × Int × Unit)) × Unit) (p : Int × Unit ⊕ Int × Unit) : Ex × St := sumC p (fun p => ((Ex.exit 0), spec_LastStamp_X3_0 i p)) (fun p => ((Ex.exit 0), spec_LastStamp_X3_1 i p))

def spec_LastStamp_M3 (i : List (List (Int × Int × Int × Int × Int × Unit)) × Unit) (v : Int × Int × Unit) : den spec_LastStamp_T3.ty := (v.1, v.2.1, i.1, ())

def spec_LastStamp_P3 (x : den spec_LastStamp_T3.ty) : (List (List (Int × Int × Int × Int × Int × Unit)) × Unit) × (Int × Int × Unit) := ((x.2.2.1, ()), (x.1, x.2.1, ()))

noncomputable def spec_LastStamp_F3 : LoopFn := fun s R K => Tmpl.readS spec_LastStamp_T3 0 s fun x => (iter (fun v => spec_LastStamp_D3 (spec_LastStamp_P3 x).1 v _ some) (spec_LastStamp_P3 x).2).bind fun p => spec_LastStamp_E3 (spec_LastStamp_P3 x).1 p R K

noncomputable def spec_LastStamp_C : Cfg := { ti := g_tis, ents := [spec_IsValidStore_Ent], ann := [(6, spec_LastStamp_F6), (3, spec_LastStamp_F3)], lent := 0 }

def spec_LastStamp_ti : Tmpl := Tmpl.mk (TmL.slot YStore TmL.nil) TmH.nil

def spec_LastStamp_to : Tmpl := Tmpl.mk (TmL.slot Ty.i TmL.nil) TmH.nil

noncomputable def spec_LastStamp_S (x : (List (List (Int × Int × Int × Int × Int × Unit)) × Unit) × Unit) : Option (Int × Unit) :=
  Option.bind (iter (fun v => spec_LastStamp_D3 (x.1.1, ()) v (Int × Int × Unit ⊕ Int × Unit ⊕ Int × Unit) some) (0, 0, ())) fun p => sumC p (fun p => some (p.1, ())) fun p => some (p.1, ())

noncomputable def spec_LastStamp_Ent : Ent := ⟨56, spec_LastStamp_ti, spec_LastStamp_to, spec_LastStamp_S⟩

theorem spec_LastStamp_HC : CfgOK Go.Proofs.Try.prog spec_LastStamp_C := ⟨⟨info_ok g_tisOK⟩, (all_cons spec_IsValidStore_OK all_nil), g_wide⟩

theorem spec_LastStamp_lk6 : ∀ F, ((spec_LastStamp_C).ann.find? fun x => x.1 == firstId ((loopsOf (codeOf Go.Proofs.Try.f56)).getD 1 .skip)).map (·.2) = some F → LoopOK Go.Proofs.Try.prog spec_LastStamp_C.lent ((loopsOf (codeOf Go.Proofs.Try.f56)).getD 1 .skip) F := by
  refine lookup_ok (show ((spec_LastStamp_C).ann.find? fun x => x.1 == firstId ((loopsOf (codeOf Go.Proofs.Try.f56)).getD 1 .skip)).map (·.2) = some spec_LastStamp_F6 from by kernel_rfl) ?_
  exact loop_ok spec_LastStamp_HC (loops_all 0 (by kernel_rfl) (fun k hk => absurd hk (Nat.not_lt_zero k))) spec_LastStamp_T6 [1, 3, 4] spec_LastStamp_M6 spec_LastStamp_P6 (fun x => rfl) spec_LastStamp_D6 spec_LastStamp_D6_nat spec_LastStamp_E6 spec_LastStamp_K6 (fun i p R K => rfl) (fun i v => by kernel_rfl)

theorem spec_LastStamp_lk3 : ∀ F, ((spec_LastStamp_C).ann.find? fun x => x.1 == firstId ((loopsOf (codeOf Go.Proofs.Try.f56)).getD 0 .skip)).map (·.2) = some F → LoopOK Go.Proofs.Try.prog spec_LastStamp_C.lent ((loopsOf (codeOf Go.Proofs.Try.f56)).getD 0 .skip) F := by
  refine lookup_ok (show ((spec_LastStamp_C).ann.find? fun x => x.1 == firstId ((loopsOf (codeOf Go.Proofs.Try.f56)).getD 0 .skip)).map (·.2) = some spec_LastStamp_F3 from by kernel_rfl) ?_
  exact loop_ok spec_LastStamp_HC (loops_all 1 (by kernel_rfl) (fun k hk => match k, hk with | 0, _ => lp_at (by kernel_rfl) spec_LastStamp_lk6)) spec_LastStamp_T3 [3] spec_LastStamp_M3 spec_LastStamp_P3 (fun x => rfl) spec_LastStamp_D3 spec_LastStamp_D3_nat spec_LastStamp_E3 spec_LastStamp_K3 (fun i p R K => by rcases p with p | p <;> rfl) (fun i v => by kernel_rfl)

theorem spec_LastStamp_VC (x : den spec_LastStamp_ti.ty) : vcall spec_LastStamp_C Go.Proofs.Try.f56 spec_LastStamp_ti spec_LastStamp_to x = spec_LastStamp_S x := by kernel_rfl

theorem spec_LastStamp_OK : EntOK Go.Proofs.Try.prog spec_LastStamp_Ent := EntOK.of_vcall spec_LastStamp_HC Go.Proofs.Try.func56 (body_loops (by kernel_rfl) (loops_all 2 (by kernel_rfl) (fun k hk => match k, hk with | 0, _ => spec_LastStamp_lk3 | 1, _ => spec_LastStamp_lk6))) (by kernel_rfl) (by kernel_rfl) spec_LastStamp_VC

/-! impl.in -/

noncomputable def impl_in_C : Cfg := { ti := g_tis, ents := [], ann := [], lent := 0 }

def impl_in_ti : Tmpl := Tmpl.mk (TmL.slot Ty.i (TmL.slot Ty.i (TmL.slot Ty.i TmL.nil))) TmH.nil

def impl_in_to : Tmpl := Tmpl.mk (TmL.slot Ty.bool TmL.nil) TmH.nil

noncomputable def impl_in_S (x : Int × Int × Int × Unit) : Option (Bool × Unit) :=
  bif decide (x.2.1 ≤ x.1) then some (decide (x.1 ≤ x.2.2.1), ()) else some (false, ())

noncomputable def impl_in_Ent : Ent := ⟨89, impl_in_ti, impl_in_to, impl_in_S⟩

theorem impl_in_HC : CfgOK Go.Proofs.Try.prog impl_in_C := ⟨⟨info_ok g_tisOK⟩, all_nil, g_wide⟩

theorem impl_in_VC (x : den impl_in_ti.ty) : vcall impl_in_C Go.Proofs.Try.f89 impl_in_ti impl_in_to x = impl_in_S x := by kernel_rfl

theorem impl_in_OK : EntOK Go.Proofs.Try.prog impl_in_Ent := EntOK.of_vcall impl_in_HC Go.Proofs.Try.func89 (body_loops (by kernel_rfl) (loops_all 0 (by kernel_rfl) (fun k hk => absurd hk (Nat.not_lt_zero k)))) (by kernel_rfl) (by kernel_rfl) impl_in_VC

/-! impl.isValue -/

noncomputable def impl_isValue_C : Cfg := { ti := g_tis, ents := [impl_in_Ent], ann := [], lent := 0 }

def impl_isValue_ti : Tmpl := Tmpl.mk (TmL.slot Ty.i TmL.nil) TmH.nil

def impl_isValue_to : Tmpl := Tmpl.mk (TmL.slot Ty.bool TmL.nil) TmH.nil

noncomputable def impl_isValue_S (x : Int × Unit) : Option (Bool × Unit) :=
  Option.bind (impl_in_S (x.1, -1, 99, ())) fun v => some (v.1, ())

noncomputable def impl_isValue_Ent : Ent := ⟨144, impl_isValue_ti, impl_isValue_to, impl_isValue_S⟩

theorem impl_isValue_HC : CfgOK Go.Proofs.Try.prog impl_isValue_C := ⟨⟨info_ok g_tisOK⟩, (all_cons impl_in_OK all_nil), g_wide⟩

theorem impl_isValue_VC (x : den impl_isValue_ti.ty) : vcall impl_isValue_C Go.Proofs.Try.f144 impl_isValue_ti impl_isValue_to x = impl_isValue_S x := by kernel_rfl

theorem impl_isValue_OK : EntOK Go.Proofs.Try.prog impl_isValue_Ent := EntOK.of_vcall impl_isValue_HC Go.Proofs.Try.func144 (body_loops (by kernel_rfl) (loops_all 0 (by kernel_rfl) (fun k hk => absurd hk (Nat.not_lt_zero k)))) (by kernel_rfl) (by kernel_rfl) impl_isValue_VC

/-! impl.isID -/

noncomputable def impl_isID_C : Cfg := { ti := g_tis, ents := [impl_in_Ent], ann := [], lent := 0 }

def impl_isID_ti : Tmpl := Tmpl.mk (TmL.slot Ty.i TmL.nil) TmH.nil

def impl_isID_to : Tmpl := Tmpl.mk (TmL.slot Ty.bool TmL.nil) TmH.nil

noncomputable def impl_isID_S (x : Int × Unit) : Option (Bool × Unit) :=
  Option.bind (impl_in_S (x.1, 1, 9, ())) fun v => some (v.1, ())

noncomputable def impl_isID_Ent : Ent := ⟨91, impl_isID_ti, impl_isID_to, impl_isID_S⟩

theorem impl_isID_HC : CfgOK Go.Proofs.Try.prog impl_isID_C := ⟨⟨info_ok g_tisOK⟩, (all_cons impl_in_OK all_nil), g_wide⟩

theorem impl_isID_VC (x : den impl_isID_ti.ty) : vcall impl_isID_C Go.Proofs.Try.f91 impl_isID_ti impl_isID_to x = impl_isID_S x := by kernel_rfl

theorem impl_isID_OK : EntOK Go.Proofs.Try.prog impl_isID_Ent := EntOK.of_vcall impl_isID_HC Go.Proofs.Try.func91 (body_loops (by kernel_rfl) (loops_all 0 (by kernel_rfl) (fun k hk => absurd hk (Nat.not_lt_zero k)))) (by kernel_rfl) (by kernel_rfl) impl_isID_VC

/-! impl.IsValidVersion -/

noncomputable def impl_IsValidVersion_C : Cfg := { ti := g_tis, ents := [impl_isValue_Ent, impl_in_Ent, impl_isID_Ent], ann := [], lent := 0 }

def impl_IsValidVersion_ti : Tmpl := Tmpl.mk (TmL.slot YVersion TmL.nil) TmH.nil

def impl_IsValidVersion_to : Tmpl := Tmpl.mk (TmL.slot Ty.bool TmL.nil) TmH.nil

noncomputable def impl_IsValidVersion_S (x : (Int × Int × Int × Int × Int × Unit) × Unit) : Option (Bool × Unit) :=
  Option.bind (impl_isValue_S (x.1.2.1, ())) fun v => bif !v.1 then some (false, ()) else Option.bind (impl_in_S (x.1.2.2.1, 0, 999, ())) fun v => bif !v.1 then some (false, ()) else Option.bind (impl_in_S (x.1.2.2.2.1, x.1.2.2.1, 999, ()))
  fun v => bif !v.1 then some (false, ()) else Option.bind (impl_in_S (x.1.2.2.2.2.1, 1, 1000, ())) fun v => bif !v.1 then some (false, ()) else bif x.1.2.2.1 == 0 then bif x.1.1 == 0 then some (x.1.2.1 == -1, ()) else some (false, ()) else
  Option.bind (impl_isID_S (x.1.1, ())) fun v => some (v.1, ())

noncomputable def impl_IsValidVersion_Ent : Ent := ⟨141, impl_IsValidVersion_ti, impl_IsValidVersion_to, impl_IsValidVersion_S⟩

theorem impl_IsValidVersion_HC : CfgOK Go.Proofs.Try.prog impl_IsValidVersion_C := ⟨⟨info_ok g_tisOK⟩, (all_cons impl_isValue_OK (all_cons impl_in_OK (all_cons impl_isID_OK all_nil))), g_wide⟩

theorem impl_IsValidVersion_VC (x : den impl_IsValidVersion_ti.ty) : vcall impl_IsValidVersion_C Go.Proofs.Try.f141 impl_IsValidVersion_ti impl_IsValidVersion_to x = impl_IsValidVersion_S x := by kernel_rfl

theorem impl_IsValidVersion_OK : EntOK Go.Proofs.Try.prog impl_IsValidVersion_Ent := EntOK.of_vcall impl_IsValidVersion_HC Go.Proofs.Try.func141 (body_loops (by kernel_rfl) (loops_all 0 (by kernel_rfl) (fun k hk => absurd hk (Nat.not_lt_zero k)))) (by kernel_rfl) (by kernel_rfl) impl_IsValidVersion_VC

/-! impl.IsValidChain -/

noncomputable def impl_IsValidChain_D2 (i : List (Int × Int × Int × Int × Int × Unit) × List (Int × Int × Int × Int × Int × Unit) × Int × Unit) (v : Int × Unit) (R : Type) (K : Int × Unit ⊕ Int × Int × Int × Int × Int × Unit ⊕ Int × Int × Int × Int × Int × Unit ⊕ Int × Int × Int × Int × Int × Unit ⊕ Unit → Option R) : Option R :=
  bif decide (v.1 < i.2.2.1) then Option.bind (lAt i.2.1 v.1) fun v_1 => Option.bind (impl_IsValidVersion_S ((v_1.1, v_1.2.1, v_1.2.2.1, v_1.2.2.2.1, v_1.2.2.2.2.1, ()), ())) fun v_2 => bif !v_2.1 then K (Sum.inr (Sum.inl (v_1.1, v_1.2.1,
  v_1.2.2.1, v_1.2.2.2.1, v_1.2.2.2.2.1, ()))) else bif decide (v.1 > 0) then Option.bind (lAt i.1 (IntKind.wrap IntKind.i64 (v.1 - 1))) fun v_3 => bif decide (v_3.2.2.1 ≥ v_1.2.2.1) then K (Sum.inr (Sum.inr (Sum.inl (v_1.1, v_1.2.1,
  v_1.2.2.1, v_1.2.2.2.1, v_1.2.2.2.2.1, ())))) else Option.bind (lAt i.1 (IntKind.wrap IntKind.i64 (v.1 - 1))) fun v_4 => bif decide (v_4.2.2.2.2.1 > v_1.2.2.1) then K (Sum.inr (Sum.inr (Sum.inr (Sum.inl (v_1.1, v_1.2.1, v_1.2.2.1,
  v_1.2.2.2.1, v_1.2.2.2.2.1, ()))))) else K (Sum.inl (IntKind.wrap IntKind.i64 (v.1 + 1), ())) else K (Sum.inl (IntKind.wrap IntKind.i64 (v.1 + 1), ())) else K (Sum.inr (Sum.inr (Sum.inr (Sum.inr ()))))

theorem impl_IsValidChain_D2_nat (i : List (Int × Int × Int × Int × Int × Unit) × List (Int × Int × Int × Int × Int × Unit) × Int × Unit) (v : Int × Unit) (R : Type) (K : Int × Unit ⊕ Int × Int × Int × Int × Int × Unit ⊕ Int × Int × Int × Int × Int × Unit ⊕ Int × Int × Int × Int × Int × Unit ⊕ Unit → Option R) : impl_IsValidChain_D2 i v R K = (impl_IsValidChain_D2 i v _ some).bind K := nat_bif (nat_bind fun _ => nat_bind fun _ => nat_bif (nat_some) (nat_bif (nat_bind fun _ => nat_bif (nat_some) (nat_bind fun _ => nat_bif (nat_some) (nat_some))) (nat_some))) (nat_some)

def impl_IsValidChain_T2 : Tmpl := Tmpl.mk (TmL.slot (Ty.slice YVersion) (TmL.junk (TmL.junk (TmL.junk (TmL.junk (TmL.slot
  (Ty.slice YVersion) (TmL.slot Ty.i (TmL.slot Ty.i
  (TmL.junk (TmL.junk (TmL.junk (TmL.junk (TmL.junk (TmL.junk (TmL.junk (TmL.junk (TmL.junk (TmL.junk (TmL.junk (TmL.junk (TmL.junk (TmL.junk (TmL.junk (TmL.junk (TmL.junk (TmL.junk (TmL.junk (TmL.junk (TmL.junk (TmL.junk (TmL.junk (TmL.junk
  (TmL.junk (TmL.junk (TmL.junk (TmL.junk (TmL.junk (TmL.junk (TmL.junk (TmL.junk (TmL.junk (TmL.junk (TmL.junk (TmL.junk (TmL.junk (TmL.junk (TmL.junk (TmL.junk (TmL.junk (TmL.junk (TmL.junk (TmL.junk (TmL.junk (TmL.junk (TmL.junk
  TmL.nil))))))))))))))))))))))))))))))))))))))))))))))))))))))) TmH.nil

def impl_IsValidChain_X2_0 (i : List (Int × Int × Int × Int × Int × Unit) × List (Int × Int × Int × Int × Int × Unit) × Int × Unit) (p : Int × Int × Int × Int × Int × Unit) : St :=
  St.mk [AV.pv (Ty.slice YVersion) i.1, AV.junk, AV.pv Ty.bool false, AV.junk, AV.junk,
  AV.junk, AV.junk, AV.junk, AV.junk, AV.junk, AV.junk, AV.junk, AV.junk, AV.junk, AV.junk, AV.junk, AV.junk, AV.junk, AV.junk, AV.junk, AV.junk, AV.junk, AV.junk, AV.junk, AV.junk, AV.junk, AV.junk, AV.junk, AV.junk, AV.junk, AV.junk,
  AV.junk, AV.junk, AV.junk, AV.junk, AV.junk, AV.junk, AV.junk, AV.junk, AV.junk, AV.junk, AV.junk, AV.junk, AV.junk, AV.junk, AV.junk, AV.junk, AV.junk, AV.junk, AV.junk, AV.junk, AV.junk, AV.junk, AV.junk, AV.junk] [some (Cont.cells 5
  [[AV.pv Ty.i p.1, AV.pv Ty.i p.2.1, AV.pv Ty.i p.2.2.1, AV.pv Ty.i p.2.2.2.1, AV.pv Ty.i p.2.2.2.2.1]])]

def impl_IsValidChain_X2_1 (i : List (Int × Int × Int × Int × Int × Unit) × List (Int × Int × Int × Int × Int × Unit) × Int × Unit) (p : Int × Int × Int × Int × Int × Unit) : St :=
  St.mk [AV.pv (Ty.slice YVersion) i.1, AV.junk, AV.pv Ty.bool false, AV.junk, AV.junk,
  AV.junk, AV.junk, AV.junk, AV.junk, AV.junk, AV.junk, AV.junk, AV.junk, AV.junk, AV.junk, AV.junk, AV.junk, AV.junk, AV.junk, AV.junk, AV.junk, AV.junk, AV.junk, AV.junk, AV.junk, AV.junk, AV.junk, AV.junk, AV.junk, AV.junk, AV.junk,
  AV.junk, AV.junk, AV.junk, AV.junk, AV.junk, AV.junk, AV.junk, AV.junk, AV.junk, AV.junk, AV.junk, AV.junk, AV.junk, AV.junk, AV.junk, AV.junk, AV.junk, AV.junk, AV.junk, AV.junk, AV.junk, AV.junk, AV.junk, AV.junk] [some (Cont.cells 5
  [[AV.pv Ty.i p.1, AV.pv Ty.i p.2.1, AV.pv Ty.i p.2.2.1, AV.pv Ty.i p.2.2.2.1, AV.pv Ty.i p.2.2.2.2.1]])]

def impl_IsValidChain_X2_2 (i : List (Int × Int × Int × Int × Int × Unit) × List (Int × Int × Int × Int × Int × Unit) × Int × Unit) (p : Int × Int × Int × Int × Int × Unit) : St :=
  St.mk [AV.pv (Ty.slice YVersion) i.1, AV.junk, AV.pv Ty.bool false, AV.junk, AV.junk,
  AV.junk, AV.junk, AV.junk, AV.junk, AV.junk, AV.junk, AV.junk, AV.junk, AV.junk, AV.junk, AV.junk, AV.junk, AV.junk, AV.junk, AV.junk, AV.junk, AV.junk, AV.junk, AV.junk, AV.junk, AV.junk, AV.junk, AV.junk, AV.junk, AV.junk, AV.junk,
  AV.junk, AV.junk, AV.junk, AV.junk, AV.junk, AV.junk, AV.junk, AV.junk, AV.junk, AV.junk, AV.junk, AV.junk, AV.junk, AV.junk, AV.junk, AV.junk, AV.junk, AV.junk, AV.junk, AV.junk, AV.junk, AV.junk, AV.junk, AV.junk] [some (Cont.cells 5
  [[AV.pv Ty.i p.1, AV.pv Ty.i p.2.1, AV.pv Ty.i p.2.2.1, AV.pv Ty.i p.2.2.2.1, AV.pv Ty.i p.2.2.2.2.1]])]

def impl_IsValidChain_X2_3 (i : List (Int × Int × Int × Int × Int × Unit) × List (Int × Int × Int × Int × Int × Unit) × Int × Unit) (p : Unit) : St :=
  St.mk [AV.pv (Ty.slice YVersion) i.1, AV.junk, AV.junk, AV.junk, AV.junk, AV.junk,
  AV.junk, AV.junk, AV.junk, AV.junk, AV.junk, AV.junk, AV.junk, AV.junk, AV.junk, AV.junk, AV.junk, AV.junk, AV.junk, AV.junk, AV.junk, AV.junk, AV.junk, AV.junk, AV.junk, AV.junk, AV.junk, AV.junk, AV.junk, AV.junk, AV.junk, AV.junk,
  AV.junk, AV.junk, AV.junk, AV.junk, AV.junk, AV.junk, AV.junk, AV.junk, AV.junk, AV.junk, AV.junk, AV.junk, AV.junk, AV.junk, AV.junk, AV.junk, AV.junk, AV.junk, AV.junk, AV.junk, AV.junk, AV.junk, AV.junk] []

noncomputable def impl_IsValidChain_E2 (i : List (Int × Int × Int × Int × Int × Unit) × List (Int × Int × Int × Int × Int × Unit) × Int × Unit) (p : Int × Int × Int × Int × Int × Unit ⊕ Int × Int × Int × Int × Int × Unit ⊕ Int × Int × Int × Int × Int × Unit ⊕ Unit) (R : Type) (K : Ex → St → Option R) : Option R := sumC p (fun p => K (Ex.ret) (impl_IsValidChain_X2_0 i p)) (fun p => sumC p (fun p => K (Ex.ret) (impl_IsValidChain_X2_1 i p)) (fun p => sumC p (fun p => K (Ex.ret) (impl_IsValidChain_X2_2 i p)) (fun p => K (Ex.exit 0) (impl_IsValidChain_X2_3 i p))))

noncomputable def impl_IsValidChain_K2 (i : List (Int × Int × Int × Int × Int × Unit) × List (Int × Int × Int × Int × Int × Unit) × Int × Unit) (p : Int × Int × Int × Int × Int × Unit ⊕ Int × Int × Int × Int × Int × Unit ⊕ Int × Int × Int × Int × Int × Unit ⊕ Unit) : Ex × St := sumC p (fun p => ((Ex.ret), impl_IsValidChain_X2_0 i p)) (fun p => sumC p (fun p => ((Ex.ret), impl_IsValidChain_X2_1 i p)) (fun p => sumC p (fun p => ((Ex.ret), impl_IsValidChain_X2_2 i p)) (fun p => ((Ex.exit 0), impl_IsValidChain_X2_3 i p))))

def impl_IsValidChain_M2 (i : List (Int × Int × Int × Int × Int × Unit) × List (Int × Int × Int × Int × Int × Unit) × Int × Unit) (v : Int × Unit) : den impl_IsValidChain_T2.ty := (i.1, i.2.1, i.2.2.1, v.1, ())

def impl_IsValidChain_P2 (x : den impl_IsValidChain_T2.ty) : (List (Int × Int × Int × Int × Int × Unit) × List (Int × Int × Int × Int × Int × Unit) × Int × Unit) × (Int × Unit) := ((x.1, x.2.1, x.2.2.1, ()), (x.2.2.2.1, ()))

noncomputable def impl_IsValidChain_F2 : LoopFn := fun s R K => Tmpl.readS impl_IsValidChain_T2 0 s fun x => (iter (fun v => impl_IsValidChain_D2 (impl_IsValidChain_P2 x).1 v _ some) (impl_IsValidChain_P2 x).2).bind fun p => impl_IsValidChain_E2 (impl_IsValidChain_P2 x).1 p R K

noncomputable def impl_IsValidChain_C : Cfg := { ti := g_tis, ents := [impl_IsValidVersion_Ent], ann := [(2, impl_IsValidChain_F2)], lent := 0 }

def impl_IsValidChain_ti : Tmpl := Tmpl.mk (TmL.slot (Ty.slice YVersion) TmL.nil) TmH.nil

def impl_IsValidChain_to : Tmpl := Tmpl.mk (TmL.slot Ty.bool TmL.nil) TmH.nil

noncomputable def impl_IsValidChain_S (x : List (Int × Int × Int × Int × Int × Unit) × Unit) : Option (Bool × Unit) :=
  Option.bind (iter (fun v => impl_IsValidChain_D2 (x.1, x.1, (↑(List.length x.1) : Int), ()) v (Int × Unit ⊕ Int × Int × Int × Int × Int × Unit ⊕ Int × Int × Int × Int × Int × Unit ⊕ Int × Int × Int × Int × Int × Unit ⊕ Unit) some) (0, ()))
  fun p => sumC p (fun p => some (false, ())) fun p => sumC p (fun p => some (false, ())) fun p => sumC p (fun p => some (false, ())) fun p => bif decide ((↑(List.length x.1) : Int) > 0) then Option.bind (lAt x.1 (IntKind.wrap IntKind.i64
  ((↑(List.length x.1) : Int) - 1))) fun v => some (v.2.2.2.2.1 == 1000, ()) else some (false, ())

noncomputable def impl_IsValidChain_Ent : Ent := ⟨106, impl_IsValidChain_ti, impl_IsValidChain_to, impl_IsValidChain_S⟩

theorem impl_IsValidChain_HC : CfgOK Go.Proofs.Try.prog impl_IsValidChain_C := ⟨⟨info_ok g_tisOK⟩, (all_cons impl_IsValidVersion_OK all_nil), g_wide⟩

theorem impl_IsValidChain_lk2 : ∀ F, ((impl_IsValidChain_C).ann.find? fun x => x.1 == firstId ((loopsOf (codeOf Go.Proofs.Try.f106)).getD 0 .skip)).map (·.2) = some F → LoopOK Go.Proofs.Try.prog impl_IsValidChain_C.lent ((loopsOf (codeOf Go.Proofs.Try.f106)).getD 0 .skip) F := by
  refine lookup_ok (show ((impl_IsValidChain_C).ann.find? fun x => x.1 == firstId ((loopsOf (codeOf Go.Proofs.Try.f106)).getD 0 .skip)).map (·.2) = some impl_IsValidChain_F2 from by kernel_rfl) ?_
  exact loop_ok impl_IsValidChain_HC (loops_all 0 (by kernel_rfl) (fun k hk => absurd hk (Nat.not_lt_zero k))) impl_IsValidChain_T2 [0, 2] impl_IsValidChain_M2 impl_IsValidChain_P2 (fun x => rfl) impl_IsValidChain_D2 impl_IsValidChain_D2_nat impl_IsValidChain_E2 impl_IsValidChain_K2 (fun i p R K => by rcases p with p | p | p | p <;> rfl) (fun i v => by kernel_rfl)

theorem impl_IsValidChain_VC (x : den impl_IsValidChain_ti.ty) : vcall impl_IsValidChain_C Go.Proofs.Try.f106 impl_IsValidChain_ti impl_IsValidChain_to x = impl_IsValidChain_S x := by kernel_rfl

theorem impl_IsValidChain_OK : EntOK Go.Proofs.Try.prog impl_IsValidChain_Ent := EntOK.of_vcall impl_IsValidChain_HC Go.Proofs.Try.func106 (body_loops (by kernel_rfl) (loops_all 1 (by kernel_rfl) (fun k hk => match k, hk with | 0, _ => impl_IsValidChain_lk2))) (by kernel_rfl) (by kernel_rfl) impl_IsValidChain_VC

/-! impl.IsValidStore$1 -/

noncomputable def impl_IsValidStore_1_C : Cfg := { ti := g_tis, ents := [impl_IsValidChain_Ent], ann := [], lent := 0 }

def impl_IsValidStore_1_ti : Tmpl := Tmpl.mk (TmL.slot (Ty.slice YVersion) TmL.nil) TmH.nil

def impl_IsValidStore_1_to : Tmpl := Tmpl.mk (TmL.slot Ty.bool TmL.nil) TmH.nil

noncomputable def impl_IsValidStore_1_S (x : List (Int × Int × Int × Int × Int × Unit) × Unit) : Option (Bool × Unit) :=
  Option.bind (impl_IsValidChain_S (x.1, ())) fun v => bif !v.1 then some (true, ()) else some (decide ((↑(List.length x.1) : Int) > 50), ())

noncomputable def impl_IsValidStore_1_Ent : Ent := ⟨105, impl_IsValidStore_1_ti, impl_IsValidStore_1_to, impl_IsValidStore_1_S⟩

theorem impl_IsValidStore_1_HC : CfgOK Go.Proofs.Try.prog impl_IsValidStore_1_C := ⟨⟨info_ok g_tisOK⟩, (all_cons impl_IsValidChain_OK all_nil), g_wide⟩

theorem impl_IsValidStore_1_VC (x : den impl_IsValidStore_1_ti.ty) : vcall impl_IsValidStore_1_C Go.Proofs.Try.f105 impl_IsValidStore_1_ti impl_IsValidStore_1_to x = impl_IsValidStore_1_S x := by kernel_rfl

theorem impl_IsValidStore_1_OK : EntOK Go.Proofs.Try.prog impl_IsValidStore_1_Ent := EntOK.of_vcall impl_IsValidStore_1_HC Go.Proofs.Try.func105 (body_loops (by kernel_rfl) (loops_all 0 (by kernel_rfl) (fun k hk => absurd hk (Nat.not_lt_zero k)))) (by kernel_rfl) (by kernel_rfl) impl_IsValidStore_1_VC

/-! slices.IndexFunc[[][]impl.Version,[]impl.Version] -/

noncomputable def slices_IndexFunc_impl_Version_impl_Version__impl_IsValidStore_1_D2 (i : List (List (Int × Int × Int × Int × Int × Unit)) × Unit × Int × Unit) (v : Int × Unit) (R : Type) (K : Int × Unit ⊕ Int × Unit ⊕ Unit → Option R) : Option R :=
  bif decide (v.1 < i.2.2.1) then Option.bind (lAt i.1 v.1) fun v_1 => Option.bind (impl_IsValidStore_1_S (v_1, ())) fun v_2 => bif v_2.1 then K (Sum.inr (Sum.inl (v.1, ()))) else K (Sum.inl (IntKind.wrap IntKind.i64 (v.1 + 1), ())) else K
  (Sum.inr (Sum.inr ()))

theorem slices_IndexFunc_impl_Version_impl_Version__impl_IsValidStore_1_D2_nat (i : List (List (Int × Int × Int × Int × Int × Unit)) × Unit × Int × Unit) (v : Int × Unit) (R : Type) (K : Int × Unit ⊕ Int × Unit ⊕ Unit → Option R) : slices_IndexFunc_impl_Version_impl_Version__impl_IsValidStore_1_D2 i v R K = (slices_IndexFunc_impl_Version_impl_Version__impl_IsValidStore_1_D2 i v _ some).bind K := nat_bif (nat_bind fun _ => nat_bind fun _ => nat_bif (nat_some) (nat_some)) (nat_some)

def slices_IndexFunc_impl_Version_impl_Version__impl_IsValidStore_1_T2 : Tmpl := Tmpl.mk (TmL.slot (Ty.slice (Ty.slice YVersion)) (TmL.slot (Ty.fn 105 Ty.unit)
  (TmL.junk (TmL.junk (TmL.junk (TmL.junk (TmL.junk (TmL.slot Ty.i (TmL.slot Ty.i (TmL.junk (TmL.junk (TmL.junk (TmL.junk (TmL.junk (TmL.junk (TmL.junk (TmL.junk (TmL.junk (TmL.junk TmL.nil)))))))))))))))))))
  TmH.nil

def slices_IndexFunc_impl_Version_impl_Version__impl_IsValidStore_1_X2_0 (i : List (List (Int × Int × Int × Int × Int × Unit)) × Unit × Int × Unit) (p : Int × Unit) : St :=
  St.mk [AV.junk, AV.junk, AV.junk, AV.junk, AV.pv Ty.i p.1, AV.junk, AV.junk, AV.junk, AV.junk, AV.junk, AV.junk, AV.junk, AV.junk, AV.junk, AV.junk, AV.junk, AV.junk, AV.junk, AV.junk] []

def slices_IndexFunc_impl_Version_impl_Version__impl_IsValidStore_1_X2_1 (i : List (List (Int × Int × Int × Int × Int × Unit)) × Unit × Int × Unit) (p : Unit) : St :=
  St.mk [AV.junk, AV.junk, AV.junk, AV.junk, AV.junk, AV.junk, AV.junk, AV.junk, AV.junk, AV.junk, AV.junk, AV.junk, AV.junk, AV.junk, AV.junk, AV.junk, AV.junk, AV.junk, AV.junk] []

noncomputable def slices_IndexFunc_impl_Version_impl_Version__impl_IsValidStore_1_E2 (i : List (List (Int × Int × Int × Int × Int × Unit)) × Unit × Int × Unit) (p : Int × Unit ⊕ Unit) (R : Type) (K : Ex → St → Option R) : Option R := sumC p (fun p => K (Ex.ret) (slices_IndexFunc_impl_Version_impl_Version__impl_IsValidStore_1_X2_0 i p)) (fun p => K (Ex.exit 0) (slices_IndexFunc_impl_Version_impl_Version__impl_IsValidStore_1_X2_1 i p))

noncomputable def slices_IndexFunc_impl_Version_impl_Version__impl_IsValidStore_1_K2 (i : List (List (Int × Int × Int × Int × Int × Unit)) × Unit × Int × Unit) (p : Int × Unit ⊕ Unit) : Ex × St := sumC p (fun p => ((Ex.ret), slices_IndexFunc_impl_Version_impl_Version__impl_IsValidStore_1_X2_0 i p)) (fun p => ((Ex.exit 0), slices_IndexFunc_impl_Version_impl_Version__impl_IsValidStore_1_X2_1 i p))

def slices_IndexFunc_impl_Version_impl_Version__impl_IsValidStore_1_M2 (i : List (List (Int × Int × Int × Int × Int × Unit)) × Unit × Int × Unit) (v : Int × Unit) : den slices_IndexFunc_impl_Version_impl_Version__impl_IsValidStore_1_T2.ty := (i.1, i.2.1, i.2.2.1, v.1, ())

def slices_IndexFunc_impl_Version_impl_Version__impl_IsValidStore_1_P2 (x : den slices_IndexFunc_impl_Version_impl_Version__impl_IsValidStore_1_T2.ty) : (List (List (Int × Int × Int × Int × Int × Unit)) × Unit × Int × Unit) × (Int × Unit) := ((x.1, x.2.1, x.2.2.1, ()), (x.2.2.2.1, ()))

noncomputable def slices_IndexFunc_impl_Version_impl_Version__impl_IsValidStore_1_F2 : LoopFn := fun s R K => Tmpl.readS slices_IndexFunc_impl_Version_impl_Version__impl_IsValidStore_1_T2 0 s fun x => (iter (fun v => slices_IndexFunc_impl_Version_impl_Version__impl_IsValidStore_1_D2 (slices_IndexFunc_impl_Version_impl_Version__impl_IsValidStore_1_P2 x).1 v _ some) (slices_IndexFunc_impl_Version_impl_Version__impl_IsValidStore_1_P2 x).2).bind fun p => slices_IndexFunc_impl_Version_impl_Version__impl_IsValidStore_1_E2 (slices_IndexFunc_impl_Version_impl_Version__impl_IsValidStore_1_P2 x).1 p R K

noncomputable def slices_IndexFunc_impl_Version_impl_Version__impl_IsValidStore_1_C : Cfg := { ti := g_tis, ents := [impl_IsValidStore_1_Ent], ann := [(2, slices_IndexFunc_impl_Version_impl_Version__impl_IsValidStore_1_F2)], lent := 0 }

def slices_IndexFunc_impl_Version_impl_Version__impl_IsValidStore_1_ti : Tmpl := Tmpl.mk (TmL.slot (Ty.slice (Ty.slice YVersion)) (TmL.slot (Ty.fn 105 Ty.unit)
  TmL.nil)) TmH.nil

def slices_IndexFunc_impl_Version_impl_Version__impl_IsValidStore_1_to : Tmpl := Tmpl.mk (TmL.slot Ty.i TmL.nil) TmH.nil

noncomputable def slices_IndexFunc_impl_Version_impl_Version__impl_IsValidStore_1_S (x : List (List (Int × Int × Int × Int × Int × Unit)) × Unit × Unit) : Option (Int × Unit) :=
  Option.bind (iter (fun v => slices_IndexFunc_impl_Version_impl_Version__impl_IsValidStore_1_D2 (x.1, x.2.1, (↑(List.length x.1) : Int), ()) v (Int × Unit ⊕ Int × Unit ⊕ Unit) some) (0, ())) fun p => sumC p (fun p => some (p.1, ())) fun p =>
  some (-1, ())

noncomputable def slices_IndexFunc_impl_Version_impl_Version__impl_IsValidStore_1_Ent : Ent := ⟨140, slices_IndexFunc_impl_Version_impl_Version__impl_IsValidStore_1_ti, slices_IndexFunc_impl_Version_impl_Version__impl_IsValidStore_1_to, slices_IndexFunc_impl_Version_impl_Version__impl_IsValidStore_1_S⟩

theorem slices_IndexFunc_impl_Version_impl_Version__impl_IsValidStore_1_HC : CfgOK Go.Proofs.Try.prog slices_IndexFunc_impl_Version_impl_Version__impl_IsValidStore_1_C := ⟨⟨info_ok g_tisOK⟩, (all_cons impl_IsValidStore_1_OK all_nil), g_wide⟩

theorem slices_IndexFunc_impl_Version_impl_Version__impl_IsValidStore_1_lk2 : ∀ F, ((slices_IndexFunc_impl_Version_impl_Version__impl_IsValidStore_1_C).ann.find? fun x => x.1 == firstId ((loopsOf (codeOf Go.Proofs.Try.f140)).getD 0 .skip)).map (·.2) = some F → LoopOK Go.Proofs.Try.prog slices_IndexFunc_impl_Version_impl_Version__impl_IsValidStore_1_C.lent ((loopsOf (codeOf Go.Proofs.Try.f140)).getD 0 .skip) F := by
  refine lookup_ok (show ((slices_IndexFunc_impl_Version_impl_Version__impl_IsValidStore_1_C).ann.find? fun x => x.1 == firstId ((loopsOf (codeOf Go.Proofs.Try.f140)).getD 0 .skip)).map (·.2) = some slices_IndexFunc_impl_Version_impl_Version__impl_IsValidStore_1_F2 from by kernel_rfl) ?_
  exact loop_ok slices_IndexFunc_impl_Version_impl_Version__impl_IsValidStore_1_HC (loops_all 0 (by kernel_rfl) (fun k hk => absurd hk (Nat.not_lt_zero k))) slices_IndexFunc_impl_Version_impl_Version__impl_IsValidStore_1_T2 [4] slices_IndexFunc_impl_Version_impl_Version__impl_IsValidStore_1_M2 slices_IndexFunc_impl_Version_impl_Version__impl_IsValidStore_1_P2 (fun x => rfl) slices_IndexFunc_impl_Version_impl_Version__impl_IsValidStore_1_D2 slices_IndexFunc_impl_Version_impl_Version__impl_IsValidStore_1_D2_nat slices_IndexFunc_impl_Version_impl_Version__impl_IsValidStore_1_E2 slices_IndexFunc_impl_Version_impl_Version__impl_IsValidStore_1_K2 (fun i p R K => by rcases p with p | p <;> rfl) (fun i v => by kernel_rfl)

theorem slices_IndexFunc_impl_Version_impl_Version__impl_IsValidStore_1_VC (x : den slices_IndexFunc_impl_Version_impl_Version__impl_IsValidStore_1_ti.ty) : vcall slices_IndexFunc_impl_Version_impl_Version__impl_IsValidStore_1_C Go.Proofs.Try.f140 slices_IndexFunc_impl_Version_impl_Version__impl_IsValidStore_1_ti slices_IndexFunc_impl_Version_impl_Version__impl_IsValidStore_1_to x = slices_IndexFunc_impl_Version_impl_Version__impl_IsValidStore_1_S x := by kernel_rfl

theorem slices_IndexFunc_impl_Version_impl_Version__impl_IsValidStore_1_OK : EntOK Go.Proofs.Try.prog slices_IndexFunc_impl_Version_impl_Version__impl_IsValidStore_1_Ent := EntOK.of_vcall slices_IndexFunc_impl_Version_impl_Version__impl_IsValidStore_1_HC Go.Proofs.Try.func140 (body_loops (by kernel_rfl) (loops_all 1 (by kernel_rfl) (fun k hk => match k, hk with | 0, _ => slices_IndexFunc_impl_Version_impl_Version__impl_IsValidStore_1_lk2))) (by kernel_rfl) (by kernel_rfl) slices_IndexFunc_impl_Version_impl_Version__impl_IsValidStore_1_VC

/-! slices.ContainsFunc[[][]impl.Version,[]impl.Version] -/

noncomputable def slices_ContainsFunc_impl_Version_impl_Version__impl_IsValidStore_1_C : Cfg := { ti := g_tis, ents := [slices_IndexFunc_impl_Version_impl_Version__impl_IsValidStore_1_Ent], ann := [], lent := 0 }

def slices_ContainsFunc_impl_Version_impl_Version__impl_IsValidStore_1_ti : Tmpl := Tmpl.mk (TmL.slot (Ty.slice (Ty.slice YVersion)) (TmL.slot (Ty.fn 105 Ty.unit)
  TmL.nil)) TmH.nil

def slices_ContainsFunc_impl_Version_impl_Version__impl_IsValidStore_1_to : Tmpl := Tmpl.mk (TmL.slot Ty.bool TmL.nil) TmH.nil

noncomputable def slices_ContainsFunc_impl_Version_impl_Version__impl_IsValidStore_1_S (x : List (List (Int × Int × Int × Int × Int × Unit)) × Unit × Unit) : Option (Bool × Unit) :=
  Option.bind (slices_IndexFunc_impl_Version_impl_Version__impl_IsValidStore_1_S (x.1, x.2.1, ())) fun v => some (decide (v.1 ≥ 0), ())

noncomputable def slices_ContainsFunc_impl_Version_impl_Version__impl_IsValidStore_1_Ent : Ent := ⟨104, slices_ContainsFunc_impl_Version_impl_Version__impl_IsValidStore_1_ti, slices_ContainsFunc_impl_Version_impl_Version__impl_IsValidStore_1_to, slices_ContainsFunc_impl_Version_impl_Version__impl_IsValidStore_1_S⟩

theorem slices_ContainsFunc_impl_Version_impl_Version__impl_IsValidStore_1_HC : CfgOK Go.Proofs.Try.prog slices_ContainsFunc_impl_Version_impl_Version__impl_IsValidStore_1_C := ⟨⟨info_ok g_tisOK⟩, (all_cons slices_IndexFunc_impl_Version_impl_Version__impl_IsValidStore_1_OK all_nil), g_wide⟩

theorem slices_ContainsFunc_impl_Version_impl_Version__impl_IsValidStore_1_VC (x : den slices_ContainsFunc_impl_Version_impl_Version__impl_IsValidStore_1_ti.ty) : vcall slices_ContainsFunc_impl_Version_impl_Version__impl_IsValidStore_1_C Go.Proofs.Try.f104 slices_ContainsFunc_impl_Version_impl_Version__impl_IsValidStore_1_ti slices_ContainsFunc_impl_Version_impl_Version__impl_IsValidStore_1_to x = slices_ContainsFunc_impl_Version_impl_Version__impl_IsValidStore_1_S x := by kernel_rfl

theorem slices_ContainsFunc_impl_Version_impl_Version__impl_IsValidStore_1_OK : EntOK Go.Proofs.Try.prog slices_ContainsFunc_impl_Version_impl_Version__impl_IsValidStore_1_Ent := EntOK.of_vcall slices_ContainsFunc_impl_Version_impl_Version__impl_IsValidStore_1_HC Go.Proofs.Try.func104 (body_loops (by kernel_rfl) (loops_all 0 (by kernel_rfl) (fun k hk => absurd hk (Nat.not_lt_zero k)))) (by kernel_rfl) (by kernel_rfl) slices_ContainsFunc_impl_Version_impl_Version__impl_IsValidStore_1_VC

/-! impl.IsValidStore -/

noncomputable def impl_IsValidStore_C : Cfg := { ti := g_tis, ents := [slices_ContainsFunc_impl_Version_impl_Version__impl_IsValidStore_1_Ent], ann := [], lent := 0 }

def impl_IsValidStore_ti : Tmpl := Tmpl.mk (TmL.slot YStore TmL.nil) TmH.nil

def impl_IsValidStore_to : Tmpl := Tmpl.mk (TmL.slot Ty.bool TmL.nil) TmH.nil

noncomputable def impl_IsValidStore_S (x : (List (List (Int × Int × Int × Int × Int × Unit)) × Unit) × Unit) : Option (Bool × Unit) :=
  bif (↑(List.length x.1.1) : Int) == 6 then Option.bind (slices_ContainsFunc_impl_Version_impl_Version__impl_IsValidStore_1_S (x.1.1, (), ())) fun v => some (!v.1, ()) else some (false, ())

noncomputable def impl_IsValidStore_Ent : Ent := ⟨66, impl_IsValidStore_ti, impl_IsValidStore_to, impl_IsValidStore_S⟩

theorem impl_IsValidStore_HC : CfgOK Go.Proofs.Try.prog impl_IsValidStore_C := ⟨⟨info_ok g_tisOK⟩, (all_cons slices_ContainsFunc_impl_Version_impl_Version__impl_IsValidStore_1_OK all_nil), g_wide⟩

theorem impl_IsValidStore_VC (x : den impl_IsValidStore_ti.ty) : vcall impl_IsValidStore_C Go.Proofs.Try.f66 impl_IsValidStore_ti impl_IsValidStore_to x = impl_IsValidStore_S x := by kernel_rfl

theorem impl_IsValidStore_OK : EntOK Go.Proofs.Try.prog impl_IsValidStore_Ent := EntOK.of_vcall impl_IsValidStore_HC Go.Proofs.Try.func66 (body_loops (by kernel_rfl) (loops_all 0 (by kernel_rfl) (fun k hk => absurd hk (Nat.not_lt_zero k)))) (by kernel_rfl) (by kernel_rfl) impl_IsValidStore_VC

/-! (impl.Store).lastStamp -/

noncomputable def impl_Store_lastStamp_D6 (i : List (List (Int × Int × Int × Int × Int × Unit)) × Int × Int × List (Int × Int × Int × Int × Int × Unit) × Int × Unit) (v : Int × Int × Unit) (R : Type) (K : Int × Int × Unit ⊕ Int × Unit → Option R) : Option R :=
  bif decide (v.2.1 < i.2.2.2.2.1) then Option.bind (lAt i.2.2.2.1 v.2.1) fun v_1 => K (Sum.inl (mx v.1 v_1.2.2.2.1, IntKind.wrap IntKind.i64 (v.2.1 + 1), ())) else K (Sum.inr (v.1, ()))

theorem impl_Store_lastStamp_D6_nat (i : List (List (Int × Int × Int × Int × Int × Unit)) × Int × Int × List (Int × Int × Int × Int × Int × Unit) × Int × Unit) (v : Int × Int × Unit) (R : Type) (K : Int × Int × Unit ⊕ Int × Unit → Option R) : impl_Store_lastStamp_D6 i v R K = (impl_Store_lastStamp_D6 i v _ some).bind K := nat_bif (nat_bind fun _ => nat_some) (nat_some)

def impl_Store_lastStamp_T6 : Tmpl := Tmpl.mk (TmL.junk (TmL.junk (TmL.junk (TmL.slot Ty.i (TmL.junk (TmL.junk (TmL.junk (TmL.junk (TmL.junk (TmL.slot (Ty.slice (Ty.slice (Ty.prod Ty.i (Ty.prod Ty.i (Ty.prod Ty.i
  YReadMark))))) (TmL.slot Ty.i (TmL.slot Ty.i (TmL.junk (TmL.junk (TmL.junk (TmL.slot (Ty.slice (Ty.prod Ty.i (Ty.prod (Ty.int
  IntKind.i64) (Ty.prod Ty.i YReadMark)))) (TmL.slot Ty.i (TmL.slot Ty.i (TmL.junk (TmL.junk (TmL.junk (TmL.junk (TmL.junk (TmL.junk
  (TmL.junk (TmL.junk (TmL.junk (TmL.junk TmL.nil)))))))))))))))))))))))))))) TmH.nil

def impl_Store_lastStamp_X6_0 (i : List (List (Int × Int × Int × Int × Int × Unit)) × Int × Int × List (Int × Int × Int × Int × Int × Unit) × Int × Unit) (p : Int × Unit) : St :=
  St.mk [AV.junk, AV.junk, AV.junk, AV.pv Ty.i p.1, AV.junk, AV.junk, AV.junk, AV.junk, AV.junk, AV.pv (Ty.slice (Ty.slice (Ty.prod Ty.i (Ty.prod Ty.i (Ty.prod Ty.i (Ty.prod
  Ty.i (Ty.prod Ty.i Ty.unit))))))) i.1, AV.pv Ty.i i.2.1, AV.pv Ty.i i.2.2.1, AV.junk, AV.junk, AV.junk, AV.junk, AV.junk, AV.junk, AV.junk, AV.junk, AV.junk, AV.junk, AV.junk,
  AV.junk, AV.junk, AV.junk, AV.junk, AV.junk] []

noncomputable def impl_Store_lastStamp_E6 (i : List (List (Int × Int × Int × Int × Int × Unit)) × Int × Int × List (Int × Int × Int × Int × Int × Unit) × Int × Unit) (p : Int × Unit) (R : Type) (K : Ex → St → Option R) : Option R := K (Ex.exit 2) (impl_Store_lastStamp_X6_0 i p)

noncomputable def impl_Store_lastStamp_K6 (i : List (List (Int × Int × Int × Int × Int × Unit)) × Int × Int × List (Int × Int × Int × Int × Int × Unit) × Int × Unit) (p : Int × Unit) : Ex × St := ((Ex.exit 2), impl_Store_lastStamp_X6_0 i p)

def impl_Store_lastStamp_M6 (i : List (List (Int × Int × Int × Int × Int × Unit)) × Int × Int × List (Int × Int × Int × Int × Int × Unit) × Int × Unit) (v : Int × Int × Unit) : den impl_Store_lastStamp_T6.ty := (v.1, i.1, i.2.1, i.2.2.1, i.2.2.2.1, i.2.2.2.2.1, v.2.1, ())

def impl_Store_lastStamp_P6 (x : den impl_Store_lastStamp_T6.ty) : (List (List (Int × Int × Int × Int × Int × Unit)) × Int × Int × List (Int × Int × Int × Int × Int × Unit) × Int × Unit) × (Int × Int × Unit) := ((x.2.1, x.2.2.1, x.2.2.2.1, x.2.2.2.2.1, x.2.2.2.2.2.1, ()), (x.1, x.2.2.2.2.2.2.1, ()))

noncomputable def impl_Store_lastStamp_F6 : LoopFn := fun s R K => Tmpl.readS impl_Store_lastStamp_T6 0 s fun x => (iter (fun v => impl_Store_lastStamp_D6 (impl_Store_lastStamp_P6 x).1 v _ some) (impl_Store_lastStamp_P6 x).2).bind fun p => impl_Store_lastStamp_E6 (impl_Store_lastStamp_P6 x).1 p R K

noncomputable def impl_Store_lastStamp_D3 (i : List (List (Int × Int × Int × Int × Int × Unit)) × Int × Unit) (v : Int × Int × Unit) (R : Type) (K : Int × Int × Unit ⊕ Int × Unit → Option R) : Option R :=
  bif decide (v.2.1 < i.2.1) then Option.bind (lAt i.1 v.2.1) fun v_1 => Option.bind (iter (fun v_2 => impl_Store_lastStamp_D6 (i.1, i.2.1, v.2.1, v_1, (↑(List.length v_1) : Int), ()) v_2 (Int × Int × Unit ⊕ Int × Unit) some) (v.1, 0, ())) fun
  p => K (Sum.inl (p.1, IntKind.wrap IntKind.i64 (v.2.1 + 1), ())) else K (Sum.inr (v.1, ()))

theorem impl_Store_lastStamp_D3_nat (i : List (List (Int × Int × Int × Int × Int × Unit)) × Int × Unit) (v : Int × Int × Unit) (R : Type) (K : Int × Int × Unit ⊕ Int × Unit → Option R) : impl_Store_lastStamp_D3 i v R K = (impl_Store_lastStamp_D3 i v _ some).bind K := nat_bif (nat_bind fun _ => nat_bind fun _ => nat_some) (nat_some)

def impl_Store_lastStamp_T3 : Tmpl := Tmpl.mk (TmL.junk (TmL.junk (TmL.junk (TmL.slot Ty.i (TmL.junk (TmL.junk (TmL.junk (TmL.junk (TmL.junk (TmL.slot (Ty.slice (Ty.slice (Ty.prod Ty.i (Ty.prod Ty.i (Ty.prod Ty.i
  YReadMark))))) (TmL.slot Ty.i (TmL.slot Ty.i (TmL.junk (TmL.junk (TmL.junk (TmL.junk (TmL.junk (TmL.junk (TmL.junk (TmL.junk (TmL.junk (TmL.junk
  (TmL.junk (TmL.junk (TmL.junk (TmL.junk (TmL.junk (TmL.junk TmL.nil)))))))))))))))))))))))))))) TmH.nil

def impl_Store_lastStamp_X3_0 (i : List (List (Int × Int × Int × Int × Int × Unit)) × Int × Unit) (p : Int × Unit) : St :=
  St.mk [AV.junk, AV.junk, AV.junk, AV.pv Ty.i p.1, AV.junk, AV.junk, AV.junk, AV.junk, AV.junk, AV.junk, AV.junk, AV.junk, AV.junk, AV.junk, AV.junk, AV.junk, AV.junk, AV.junk, AV.junk, AV.junk, AV.junk, AV.junk, AV.junk,
  AV.junk, AV.junk, AV.junk, AV.junk, AV.junk] []

noncomputable def impl_Store_lastStamp_E3 (i : List (List (Int × Int × Int × Int × Int × Unit)) × Int × Unit) (p : Int × Unit) (R : Type) (K : Ex → St → Option R) : Option R := K (Ex.exit 0) (impl_Store_lastStamp_X3_0 i p)

noncomputable def impl_Store_lastStamp_K3 (i : List (List (Int × Int × Int × Int × Int × Unit)) × Int × Unit) (p : Int × Unit) : Ex × St := ((Ex.exit 0), impl_Store_lastStamp_X3_0 i p)

def impl_Store_lastStamp_M3 (i : List (List (Int × Int × Int × Int × Int × Unit)) × Int × Unit) (v : Int × Int × Unit) : den impl_Store_lastStamp_T3.ty := (v.1, i.1, i.2.1, v.2.1, ())

def impl_Store_lastStamp_P3 (x : den impl_Store_lastStamp_T3.ty) : (List (List (Int × Int × Int × Int × Int × Unit)) × Int × Unit) × (Int × Int × Unit) := ((x.2.1, x.2.2.1, ()), (x.1, x.2.2.2.1, ()))

noncomputable def impl_Store_lastStamp_F3 : LoopFn := fun s R K => Tmpl.readS impl_Store_lastStamp_T3 0 s fun x => (iter (fun v => impl_Store_lastStamp_D3 (impl_Store_lastStamp_P3 x).1 v _ some) (impl_Store_lastStamp_P3 x).2).bind fun p => impl_Store_lastStamp_E3 (impl_Store_lastStamp_P3 x).1 p R K

noncomputable def impl_Store_lastStamp_C : Cfg := { ti := g_tis, ents := [], ann := [(6, impl_Store_lastStamp_F6), (3, impl_Store_lastStamp_F3)], lent := 0 }

def impl_Store_lastStamp_ti : Tmpl := Tmpl.mk (TmL.slot YStore TmL.nil) TmH.nil

def impl_Store_lastStamp_to : Tmpl := Tmpl.mk (TmL.slot Ty.i TmL.nil) TmH.nil

noncomputable def impl_Store_lastStamp_S (x : (List (List (Int × Int × Int × Int × Int × Unit)) × Unit) × Unit) : Option (Int × Unit) :=
  Option.bind (iter (fun v => impl_Store_lastStamp_D3 (x.1.1, (↑(List.length x.1.1) : Int), ()) v (Int × Int × Unit ⊕ Int × Unit) some) (0, 0, ())) fun p => some (p.1, ())

noncomputable def impl_Store_lastStamp_Ent : Ent := ⟨68, impl_Store_lastStamp_ti, impl_Store_lastStamp_to, impl_Store_lastStamp_S⟩

theorem impl_Store_lastStamp_HC : CfgOK Go.Proofs.Try.prog impl_Store_lastStamp_C := ⟨⟨info_ok g_tisOK⟩, all_nil, g_wide⟩

theorem impl_Store_lastStamp_lk6 : ∀ F, ((impl_Store_lastStamp_C).ann.find? fun x => x.1 == firstId ((loopsOf (codeOf Go.Proofs.Try.f68)).getD 1 .skip)).map (·.2) = some F → LoopOK Go.Proofs.Try.prog impl_Store_lastStamp_C.lent ((loopsOf (codeOf Go.Proofs.Try.f68)).getD 1 .skip) F := by
  refine lookup_ok (show ((impl_Store_lastStamp_C).ann.find? fun x => x.1 == firstId ((loopsOf (codeOf Go.Proofs.Try.f68)).getD 1 .skip)).map (·.2) = some impl_Store_lastStamp_F6 from by kernel_rfl) ?_
  exact loop_ok impl_Store_lastStamp_HC (loops_all 0 (by kernel_rfl) (fun k hk => absurd hk (Nat.not_lt_zero k))) impl_Store_lastStamp_T6 [3, 9, 10, 11] impl_Store_lastStamp_M6 impl_Store_lastStamp_P6 (fun x => rfl) impl_Store_lastStamp_D6 impl_Store_lastStamp_D6_nat impl_Store_lastStamp_E6 impl_Store_lastStamp_K6 (fun i p R K => rfl) (fun i v => by kernel_rfl)

theorem impl_Store_lastStamp_lk3 : ∀ F, ((impl_Store_lastStamp_C).ann.find? fun x => x.1 == firstId ((loopsOf (codeOf Go.Proofs.Try.f68)).getD 0 .skip)).map (·.2) = some F → LoopOK Go.Proofs.Try.prog impl_Store_lastStamp_C.lent ((loopsOf (codeOf Go.Proofs.Try.f68)).getD 0 .skip) F := by
  refine lookup_ok (show ((impl_Store_lastStamp_C).ann.find? fun x => x.1 == firstId ((loopsOf (codeOf Go.Proofs.Try.f68)).getD 0 .skip)).map (·.2) = some impl_Store_lastStamp_F3 from by kernel_rfl) ?_
  exact loop_ok impl_Store_lastStamp_HC (loops_all 1 (by kernel_rfl) (fun k hk => match k, hk with | 0, _ => lp_at (by kernel_rfl) impl_Store_lastStamp_lk6)) impl_Store_lastStamp_T3 [3] impl_Store_lastStamp_M3 impl_Store_lastStamp_P3 (fun x => rfl) impl_Store_lastStamp_D3 impl_Store_lastStamp_D3_nat impl_Store_lastStamp_E3 impl_Store_lastStamp_K3 (fun i p R K => rfl) (fun i v => by kernel_rfl)

theorem impl_Store_lastStamp_VC (x : den impl_Store_lastStamp_ti.ty) : vcall impl_Store_lastStamp_C Go.Proofs.Try.f68 impl_Store_lastStamp_ti impl_Store_lastStamp_to x = impl_Store_lastStamp_S x := by kernel_rfl

theorem impl_Store_lastStamp_OK : EntOK Go.Proofs.Try.prog impl_Store_lastStamp_Ent := EntOK.of_vcall impl_Store_lastStamp_HC Go.Proofs.Try.func68 (body_loops (by kernel_rfl) (loops_all 2 (by kernel_rfl) (fun k hk => match k, hk with | 0, _ => impl_Store_lastStamp_lk3 | 1, _ => impl_Store_lastStamp_lk6))) (by kernel_rfl) (by kernel_rfl) impl_Store_lastStamp_VC

/-! impl.isKey -/

noncomputable def impl_isKey_C : Cfg := { ti := g_tis, ents := [impl_in_Ent], ann := [], lent := 0 }

def impl_isKey_ti : Tmpl := Tmpl.mk (TmL.slot Ty.i TmL.nil) TmH.nil

def impl_isKey_to : Tmpl := Tmpl.mk (TmL.slot Ty.bool TmL.nil) TmH.nil

noncomputable def impl_isKey_S (x : Int × Unit) : Option (Bool × Unit) :=
  Option.bind (impl_in_S (x.1, 0, 5, ())) fun v => some (v.1, ())

noncomputable def impl_isKey_Ent : Ent := ⟨142, impl_isKey_ti, impl_isKey_to, impl_isKey_S⟩

theorem impl_isKey_HC : CfgOK Go.Proofs.Try.prog impl_isKey_C := ⟨⟨info_ok g_tisOK⟩, (all_cons impl_in_OK all_nil), g_wide⟩

theorem impl_isKey_VC (x : den impl_isKey_ti.ty) : vcall impl_isKey_C Go.Proofs.Try.f142 impl_isKey_ti impl_isKey_to x = impl_isKey_S x := by kernel_rfl

theorem impl_isKey_OK : EntOK Go.Proofs.Try.prog impl_isKey_Ent := EntOK.of_vcall impl_isKey_HC Go.Proofs.Try.func142 (body_loops (by kernel_rfl) (loops_all 0 (by kernel_rfl) (fun k hk => absurd hk (Nat.not_lt_zero k)))) (by kernel_rfl) (by kernel_rfl) impl_isKey_VC

/-! laws.eqReadMark -/

noncomputable def laws_eqReadMark_C : Cfg := { ti := g_tis, ents := [], ann := [], lent := 0 }

def laws_eqReadMark_ti : Tmpl := Tmpl.mk (TmL.slot YReadMark (TmL.slot YReadMark TmL.nil)) TmH.nil

def laws_eqReadMark_to : Tmpl := Tmpl.mk (TmL.slot Ty.bool TmL.nil) TmH.nil

noncomputable def laws_eqReadMark_S (x : (Int × Int × Unit) × (Int × Int × Unit) × Unit) : Option (Bool × Unit) :=
  bif x.1.1 != x.2.1.1 then some (false, ()) else bif x.1.2.1 != x.2.1.2.1 then some (false, ()) else some (true, ())

noncomputable def laws_eqReadMark_Ent : Ent := ⟨92, laws_eqReadMark_ti, laws_eqReadMark_to, laws_eqReadMark_S⟩

theorem laws_eqReadMark_HC : CfgOK Go.Proofs.Try.prog laws_eqReadMark_C := ⟨⟨info_ok g_tisOK⟩, all_nil, g_wide⟩

theorem laws_eqReadMark_VC (x : den laws_eqReadMark_ti.ty) : vcall laws_eqReadMark_C Go.Proofs.Try.f92 laws_eqReadMark_ti laws_eqReadMark_to x = laws_eqReadMark_S x := by kernel_rfl

theorem laws_eqReadMark_OK : EntOK Go.Proofs.Try.prog laws_eqReadMark_Ent := EntOK.of_vcall laws_eqReadMark_HC Go.Proofs.Try.func92 (body_loops (by kernel_rfl) (loops_all 0 (by kernel_rfl) (fun k hk => absurd hk (Nat.not_lt_zero k)))) (by kernel_rfl) (by kernel_rfl) laws_eqReadMark_VC

/-! laws.eqReadMarkS -/

noncomputable def laws_eqReadMarkS_D4 (i : List (Int × Int × Unit) × List (Int × Int × Unit) × Unit) (v : Int × Unit) (R : Type) (K : Int × Unit ⊕ Unit ⊕ Unit → Option R) : Option R :=
  bif decide (v.1 < (↑(List.length i.1) : Int)) then Option.bind (lAt i.1 v.1) fun v_1 => Option.bind (lAt i.2.1 v.1) fun v_2 => Option.bind (laws_eqReadMark_S ((v_1.1, v_1.2.1, ()), (v_2.1, v_2.2.1, ()), ())) fun v_3 => bif !v_3.1 then K
  (Sum.inr (Sum.inl ())) else K (Sum.inl (IntKind.wrap IntKind.i64 (v.1 + 1), ())) else K (Sum.inr (Sum.inr ()))

theorem laws_eqReadMarkS_D4_nat (i : List (Int × Int × Unit) × List (Int × Int × Unit) × Unit) (v : Int × Unit) (R : Type) (K : Int × Unit ⊕ Unit ⊕ Unit → Option R) : laws_eqReadMarkS_D4 i v R K = (laws_eqReadMarkS_D4 i v _ some).bind K := nat_bif (nat_bind fun _ => nat_bind fun _ => nat_bind fun _ => nat_bif (nat_some) (nat_some)) (nat_some)

def laws_eqReadMarkS_T4 : Tmpl := Tmpl.mk (TmL.slot (Ty.slice YReadMark) (TmL.slot (Ty.slice YReadMark) (TmL.junk (TmL.junk (TmL.junk (TmL.slot (Ty.int
  IntKind.i64) (TmL.junk (TmL.junk (TmL.junk (TmL.junk (TmL.junk (TmL.junk (TmL.junk (TmL.junk (TmL.junk (TmL.junk (TmL.junk (TmL.junk (TmL.junk (TmL.junk (TmL.junk (TmL.junk (TmL.junk (TmL.junk (TmL.junk (TmL.junk (TmL.junk
  TmL.nil))))))))))))))))))))))))))) TmH.nil

def laws_eqReadMarkS_X4_0 (i : List (Int × Int × Unit) × List (Int × Int × Unit) × Unit) (p : Unit) : St :=
  St.mk [AV.junk, AV.junk, AV.junk, AV.junk, AV.pv Ty.bool false, AV.junk, AV.junk, AV.junk, AV.junk, AV.junk, AV.junk, AV.junk, AV.junk, AV.junk, AV.junk, AV.junk, AV.junk, AV.junk, AV.junk, AV.junk, AV.junk, AV.junk, AV.junk, AV.junk,
  AV.junk, AV.junk, AV.junk] []

def laws_eqReadMarkS_X4_1 (i : List (Int × Int × Unit) × List (Int × Int × Unit) × Unit) (p : Unit) : St :=
  St.mk [AV.junk, AV.junk, AV.junk, AV.junk, AV.junk, AV.junk, AV.junk, AV.junk, AV.junk, AV.junk, AV.junk, AV.junk, AV.junk, AV.junk, AV.junk, AV.junk, AV.junk, AV.junk, AV.junk, AV.junk, AV.junk, AV.junk, AV.junk, AV.junk, AV.junk, AV.junk,
  AV.junk] []

noncomputable def laws_eqReadMarkS_E4 (i : List (Int × Int × Unit) × List (Int × Int × Unit) × Unit) (p : Unit ⊕ Unit) (R : Type) (K : Ex → St → Option R) : Option R := sumC p (fun p => K (Ex.ret) (laws_eqReadMarkS_X4_0 i p)) (fun p => K (Ex.exit 0) (laws_eqReadMarkS_X4_1 i p))

noncomputable def laws_eqReadMarkS_K4 (i : List (Int × Int × Unit) × List (Int × Int × Unit) × Unit) (p : Unit ⊕ Unit) : Ex × St := sumC p (fun p => ((Ex.ret), laws_eqReadMarkS_X4_0 i p)) (fun p => ((Ex.exit 0), laws_eqReadMarkS_X4_1 i p))

def laws_eqReadMarkS_M4 (i : List (Int × Int × Unit) × List (Int × Int × Unit) × Unit) (v : Int × Unit) : den laws_eqReadMarkS_T4.ty := (i.1, i.2.1, v.1, ())

def laws_eqReadMarkS_P4 (x : den laws_eqReadMarkS_T4.ty) : (List (Int × Int × Unit) × List (Int × Int × Unit) × Unit) × (Int × Unit) := ((x.1, x.2.1, ()), (x.2.2.1, ()))

noncomputable def laws_eqReadMarkS_F4 : LoopFn := fun s R K => Tmpl.readS laws_eqReadMarkS_T4 0 s fun x => (iter (fun v => laws_eqReadMarkS_D4 (laws_eqReadMarkS_P4 x).1 v _ some) (laws_eqReadMarkS_P4 x).2).bind fun p => laws_eqReadMarkS_E4 (laws_eqReadMarkS_P4 x).1 p R K

noncomputable def laws_eqReadMarkS_C : Cfg := { ti := g_tis, ents := [laws_eqReadMark_Ent], ann := [(4, laws_eqReadMarkS_F4)], lent := 0 }

def laws_eqReadMarkS_ti : Tmpl := Tmpl.mk (TmL.slot (Ty.slice YReadMark) (TmL.slot (Ty.slice YReadMark) TmL.nil)) TmH.nil

def laws_eqReadMarkS_to : Tmpl := Tmpl.mk (TmL.slot Ty.bool TmL.nil) TmH.nil

noncomputable def laws_eqReadMarkS_S (x : List (Int × Int × Unit) × List (Int × Int × Unit) × Unit) : Option (Bool × Unit) :=
  bif (↑(List.length x.1) : Int) != (↑(List.length x.2.1) : Int) then some (false, ()) else Option.bind (iter (fun v => laws_eqReadMarkS_D4 (x.1, x.2.1, ()) v (Int × Unit ⊕ Unit ⊕ Unit) some) (0, ())) fun p => sumC p (fun p => some (false,
  ())) fun p => some (true, ())

noncomputable def laws_eqReadMarkS_Ent : Ent := ⟨45, laws_eqReadMarkS_ti, laws_eqReadMarkS_to, laws_eqReadMarkS_S⟩

theorem laws_eqReadMarkS_HC : CfgOK Go.Proofs.Try.prog laws_eqReadMarkS_C := ⟨⟨info_ok g_tisOK⟩, (all_cons laws_eqReadMark_OK all_nil), g_wide⟩

theorem laws_eqReadMarkS_lk4 : ∀ F, ((laws_eqReadMarkS_C).ann.find? fun x => x.1 == firstId ((loopsOf (codeOf Go.Proofs.Try.f45)).getD 0 .skip)).map (·.2) = some F → LoopOK Go.Proofs.Try.prog laws_eqReadMarkS_C.lent ((loopsOf (codeOf Go.Proofs.Try.f45)).getD 0 .skip) F := by
  refine lookup_ok (show ((laws_eqReadMarkS_C).ann.find? fun x => x.1 == firstId ((loopsOf (codeOf Go.Proofs.Try.f45)).getD 0 .skip)).map (·.2) = some laws_eqReadMarkS_F4 from by kernel_rfl) ?_
  exact loop_ok laws_eqReadMarkS_HC (loops_all 0 (by kernel_rfl) (fun k hk => absurd hk (Nat.not_lt_zero k))) laws_eqReadMarkS_T4 [4] laws_eqReadMarkS_M4 laws_eqReadMarkS_P4 (fun x => rfl) laws_eqReadMarkS_D4 laws_eqReadMarkS_D4_nat laws_eqReadMarkS_E4 laws_eqReadMarkS_K4 (fun i p R K => by rcases p with p | p <;> rfl) (fun i v => by kernel_rfl)

theorem laws_eqReadMarkS_VC (x : den laws_eqReadMarkS_ti.ty) : vcall laws_eqReadMarkS_C Go.Proofs.Try.f45 laws_eqReadMarkS_ti laws_eqReadMarkS_to x = laws_eqReadMarkS_S x := by kernel_rfl

theorem laws_eqReadMarkS_OK : EntOK Go.Proofs.Try.prog laws_eqReadMarkS_Ent := EntOK.of_vcall laws_eqReadMarkS_HC Go.Proofs.Try.func45 (body_loops (by kernel_rfl) (loops_all 1 (by kernel_rfl) (fun k hk => match k, hk with | 0, _ => laws_eqReadMarkS_lk4))) (by kernel_rfl) (by kernel_rfl) laws_eqReadMarkS_VC

/-! laws.eqWrite -/

noncomputable def laws_eqWrite_C : Cfg := { ti := g_tis, ents := [], ann := [], lent := 0 }

def laws_eqWrite_ti : Tmpl := Tmpl.mk (TmL.slot YReadMark (TmL.slot YReadMark TmL.nil)) TmH.nil

def laws_eqWrite_to : Tmpl := Tmpl.mk (TmL.slot Ty.bool TmL.nil) TmH.nil

noncomputable def laws_eqWrite_S (x : (Int × Int × Unit) × (Int × Int × Unit) × Unit) : Option (Bool × Unit) :=
  bif x.1.1 != x.2.1.1 then some (false, ()) else bif x.1.2.1 != x.2.1.2.1 then some (false, ()) else some (true, ())

noncomputable def laws_eqWrite_Ent : Ent := ⟨93, laws_eqWrite_ti, laws_eqWrite_to, laws_eqWrite_S⟩

theorem laws_eqWrite_HC : CfgOK Go.Proofs.Try.prog laws_eqWrite_C := ⟨⟨info_ok g_tisOK⟩, all_nil, g_wide⟩

theorem laws_eqWrite_VC (x : den laws_eqWrite_ti.ty) : vcall laws_eqWrite_C Go.Proofs.Try.f93 laws_eqWrite_ti laws_eqWrite_to x = laws_eqWrite_S x := by kernel_rfl

theorem laws_eqWrite_OK : EntOK Go.Proofs.Try.prog laws_eqWrite_Ent := EntOK.of_vcall laws_eqWrite_HC Go.Proofs.Try.func93 (body_loops (by kernel_rfl) (loops_all 0 (by kernel_rfl) (fun k hk => absurd hk (Nat.not_lt_zero k)))) (by kernel_rfl) (by kernel_rfl) laws_eqWrite_VC

/-! laws.eqWriteS -/

noncomputable def laws_eqWriteS_D4 (i : List (Int × Int × Unit) × List (Int × Int × Unit) × Unit) (v : Int × Unit) (R : Type) (K : Int × Unit ⊕ Unit ⊕ Unit → Option R) : Option R :=
  bif decide (v.1 < (↑(List.length i.1) : Int)) then Option.bind (lAt i.1 v.1) fun v_1 => Option.bind (lAt i.2.1 v.1) fun v_2 => Option.bind (laws_eqWrite_S ((v_1.1, v_1.2.1, ()), (v_2.1, v_2.2.1, ()), ())) fun v_3 => bif !v_3.1 then K
  (Sum.inr (Sum.inl ())) else K (Sum.inl (IntKind.wrap IntKind.i64 (v.1 + 1), ())) else K (Sum.inr (Sum.inr ()))

theorem laws_eqWriteS_D4_nat (i : List (Int × Int × Unit) × List (Int × Int × Unit) × Unit) (v : Int × Unit) (R : Type) (K : Int × Unit ⊕ Unit ⊕ Unit → Option R) : laws_eqWriteS_D4 i v R K = (laws_eqWriteS_D4 i v _ some).bind K := nat_bif (nat_bind fun _ => nat_bind fun _ => nat_bind fun _ => nat_bif (nat_some) (nat_some)) (nat_some)

def laws_eqWriteS_T4 : Tmpl := Tmpl.mk (TmL.slot (Ty.slice YReadMark) (TmL.slot (Ty.slice YReadMark) (TmL.junk (TmL.junk (TmL.junk (TmL.slot (Ty.int
  IntKind.i64) (TmL.junk (TmL.junk (TmL.junk (TmL.junk (TmL.junk (TmL.junk (TmL.junk (TmL.junk (TmL.junk (TmL.junk (TmL.junk (TmL.junk (TmL.junk (TmL.junk (TmL.junk (TmL.junk (TmL.junk (TmL.junk (TmL.junk (TmL.junk (TmL.junk
  TmL.nil))))))))))))))))))))))))))) TmH.nil

def laws_eqWriteS_X4_0 (i : List (Int × Int × Unit) × List (Int × Int × Unit) × Unit) (p : Unit) : St :=
  St.mk [AV.junk, AV.junk, AV.junk, AV.junk, AV.pv Ty.bool false, AV.junk, AV.junk, AV.junk, AV.junk, AV.junk, AV.junk, AV.junk, AV.junk, AV.junk, AV.junk, AV.junk, AV.junk, AV.junk, AV.junk, AV.junk, AV.junk, AV.junk, AV.junk, AV.junk,
  AV.junk, AV.junk, AV.junk] []

def laws_eqWriteS_X4_1 (i : List (Int × Int × Unit) × List (Int × Int × Unit) × Unit) (p : Unit) : St :=
  St.mk [AV.junk, AV.junk, AV.junk, AV.junk, AV.junk, AV.junk, AV.junk, AV.junk, AV.junk, AV.junk, AV.junk, AV.junk, AV.junk, AV.junk, AV.junk, AV.junk, AV.junk, AV.junk, AV.junk, AV.junk, AV.junk, AV.junk, AV.junk, AV.junk, AV.junk, AV.junk,
  AV.junk] []

noncomputable def laws_eqWriteS_E4 (i : List (Int × Int × Unit) × List (Int × Int × Unit) × Unit) (p : Unit ⊕ Unit) (R : Type) (K : Ex → St → Option R) : Option R := sumC p (fun p => K (Ex.ret) (laws_eqWriteS_X4_0 i p)) (fun p => K (Ex.exit 0) (laws_eqWriteS_X4_1 i p))

noncomputable def laws_eqWriteS_K4 (i : List (Int × Int × Unit) × List (Int × Int × Unit) × Unit) (p : Unit ⊕ Unit) : Ex × St := sumC p (fun p => ((Ex.ret), laws_eqWriteS_X4_0 i p)) (fun p => ((Ex.exit 0), laws_eqWriteS_X4_1 i p))

def laws_eqWriteS_M4 (i : List (Int × Int × Unit) × List (Int × Int × Unit) × Unit) (v : Int × Unit) : den laws_eqWriteS_T4.ty := (i.1, i.2.1, v.1, ())

def laws_eqWriteS_P4 (x : den laws_eqWriteS_T4.ty) : (List (Int × Int × Unit) × List (Int × Int × Unit) × Unit) × (Int × Unit) := ((x.1, x.2.1, ()), (x.2.2.1, ()))

noncomputable def laws_eqWriteS_F4 : LoopFn := fun s R K => Tmpl.readS laws_eqWriteS_T4 0 s fun x => (iter (fun v => laws_eqWriteS_D4 (laws_eqWriteS_P4 x).1 v _ some) (laws_eqWriteS_P4 x).2).bind fun p => laws_eqWriteS_E4 (laws_eqWriteS_P4 x).1 p R K

noncomputable def laws_eqWriteS_C : Cfg := { ti := g_tis, ents := [laws_eqWrite_Ent], ann := [(4, laws_eqWriteS_F4)], lent := 0 }

def laws_eqWriteS_ti : Tmpl := Tmpl.mk (TmL.slot (Ty.slice YReadMark) (TmL.slot (Ty.slice YReadMark) TmL.nil)) TmH.nil

def laws_eqWriteS_to : Tmpl := Tmpl.mk (TmL.slot Ty.bool TmL.nil) TmH.nil

noncomputable def laws_eqWriteS_S (x : List (Int × Int × Unit) × List (Int × Int × Unit) × Unit) : Option (Bool × Unit) :=
  bif (↑(List.length x.1) : Int) != (↑(List.length x.2.1) : Int) then some (false, ()) else Option.bind (iter (fun v => laws_eqWriteS_D4 (x.1, x.2.1, ()) v (Int × Unit ⊕ Unit ⊕ Unit) some) (0, ())) fun p => sumC p (fun p => some (false, ()))
  fun p => some (true, ())

noncomputable def laws_eqWriteS_Ent : Ent := ⟨46, laws_eqWriteS_ti, laws_eqWriteS_to, laws_eqWriteS_S⟩

theorem laws_eqWriteS_HC : CfgOK Go.Proofs.Try.prog laws_eqWriteS_C := ⟨⟨info_ok g_tisOK⟩, (all_cons laws_eqWrite_OK all_nil), g_wide⟩

theorem laws_eqWriteS_lk4 : ∀ F, ((laws_eqWriteS_C).ann.find? fun x => x.1 == firstId ((loopsOf (codeOf Go.Proofs.Try.f46)).getD 0 .skip)).map (·.2) = some F → LoopOK Go.Proofs.Try.prog laws_eqWriteS_C.lent ((loopsOf (codeOf Go.Proofs.Try.f46)).getD 0 .skip) F := by
  refine lookup_ok (show ((laws_eqWriteS_C).ann.find? fun x => x.1 == firstId ((loopsOf (codeOf Go.Proofs.Try.f46)).getD 0 .skip)).map (·.2) = some laws_eqWriteS_F4 from by kernel_rfl) ?_
  exact loop_ok laws_eqWriteS_HC (loops_all 0 (by kernel_rfl) (fun k hk => absurd hk (Nat.not_lt_zero k))) laws_eqWriteS_T4 [4] laws_eqWriteS_M4 laws_eqWriteS_P4 (fun x => rfl) laws_eqWriteS_D4 laws_eqWriteS_D4_nat laws_eqWriteS_E4 laws_eqWriteS_K4 (fun i p R K => by rcases p with p | p <;> rfl) (fun i v => by kernel_rfl)

theorem laws_eqWriteS_VC (x : den laws_eqWriteS_ti.ty) : vcall laws_eqWriteS_C Go.Proofs.Try.f46 laws_eqWriteS_ti laws_eqWriteS_to x = laws_eqWriteS_S x := by kernel_rfl

theorem laws_eqWriteS_OK : EntOK Go.Proofs.Try.prog laws_eqWriteS_Ent := EntOK.of_vcall laws_eqWriteS_HC Go.Proofs.Try.func46 (body_loops (by kernel_rfl) (loops_all 1 (by kernel_rfl) (fun k hk => match k, hk with | 0, _ => laws_eqWriteS_lk4))) (by kernel_rfl) (by kernel_rfl) laws_eqWriteS_VC

/-! laws.szReadMarkS -/

noncomputable def laws_szReadMarkS_C : Cfg := { ti := g_tis, ents := [], ann := [], lent := 0 }

def laws_szReadMarkS_ti : Tmpl := Tmpl.mk (TmL.slot (Ty.slice YReadMark) (TmL.slot Ty.i TmL.nil)) TmH.nil

def laws_szReadMarkS_to : Tmpl := Tmpl.mk (TmL.slot Ty.i TmL.nil) TmH.nil

noncomputable def laws_szReadMarkS_S (x : List (Int × Int × Unit) × Int × Unit) : Option (Int × Unit) :=
  bif decide (IntKind.wrap IntKind.i64 (x.2.1 - (↑(List.length x.1) : Int)) < 0) then some (-1, ()) else some (IntKind.wrap IntKind.i64 (x.2.1 - (↑(List.length x.1) : Int)), ())

noncomputable def laws_szReadMarkS_Ent : Ent := ⟨52, laws_szReadMarkS_ti, laws_szReadMarkS_to, laws_szReadMarkS_S⟩

theorem laws_szReadMarkS_HC : CfgOK Go.Proofs.Try.prog laws_szReadMarkS_C := ⟨⟨info_ok g_tisOK⟩, all_nil, g_wide⟩

theorem laws_szReadMarkS_VC (x : den laws_szReadMarkS_ti.ty) : vcall laws_szReadMarkS_C Go.Proofs.Try.f52 laws_szReadMarkS_ti laws_szReadMarkS_to x = laws_szReadMarkS_S x := by kernel_rfl

theorem laws_szReadMarkS_OK : EntOK Go.Proofs.Try.prog laws_szReadMarkS_Ent := EntOK.of_vcall laws_szReadMarkS_HC Go.Proofs.Try.func52 (body_loops (by kernel_rfl) (loops_all 0 (by kernel_rfl) (fun k hk => absurd hk (Nat.not_lt_zero k)))) (by kernel_rfl) (by kernel_rfl) laws_szReadMarkS_VC

/-! laws.szWriteS -/

noncomputable def laws_szWriteS_C : Cfg := { ti := g_tis, ents := [], ann := [], lent := 0 }

def laws_szWriteS_ti : Tmpl := Tmpl.mk (TmL.slot (Ty.slice YReadMark) (TmL.slot Ty.i TmL.nil)) TmH.nil

def laws_szWriteS_to : Tmpl := Tmpl.mk (TmL.slot Ty.i TmL.nil) TmH.nil

noncomputable def laws_szWriteS_S (x : List (Int × Int × Unit) × Int × Unit) : Option (Int × Unit) :=
  bif decide (IntKind.wrap IntKind.i64 (x.2.1 - (↑(List.length x.1) : Int)) < 0) then some (-1, ()) else some (IntKind.wrap IntKind.i64 (x.2.1 - (↑(List.length x.1) : Int)), ())

noncomputable def laws_szWriteS_Ent : Ent := ⟨53, laws_szWriteS_ti, laws_szWriteS_to, laws_szWriteS_S⟩

theorem laws_szWriteS_HC : CfgOK Go.Proofs.Try.prog laws_szWriteS_C := ⟨⟨info_ok g_tisOK⟩, all_nil, g_wide⟩

theorem laws_szWriteS_VC (x : den laws_szWriteS_ti.ty) : vcall laws_szWriteS_C Go.Proofs.Try.f53 laws_szWriteS_ti laws_szWriteS_to x = laws_szWriteS_S x := by kernel_rfl

theorem laws_szWriteS_OK : EntOK Go.Proofs.Try.prog laws_szWriteS_Ent := EntOK.of_vcall laws_szWriteS_HC Go.Proofs.Try.func53 (body_loops (by kernel_rfl) (loops_all 0 (by kernel_rfl) (fun k hk => absurd hk (Nat.not_lt_zero k)))) (by kernel_rfl) (by kernel_rfl) laws_szWriteS_VC

/-! laws.toReadMark -/

noncomputable def laws_toReadMark_C : Cfg := { ti := g_tis, ents := [], ann := [], lent := 0 }

def laws_toReadMark_ti : Tmpl := Tmpl.mk (TmL.slot YReadMark TmL.nil) TmH.nil

def laws_toReadMark_to : Tmpl := Tmpl.mk (TmL.agg (TmL.slot Ty.i (TmL.slot Ty.i TmL.nil)) TmL.nil) TmH.nil

noncomputable def laws_toReadMark_S (x : (Int × Int × Unit) × Unit) : Option (Int × Int × Unit) :=
  some (x.1.1, x.1.2.1, ())

noncomputable def laws_toReadMark_Ent : Ent := ⟨101, laws_toReadMark_ti, laws_toReadMark_to, laws_toReadMark_S⟩

theorem laws_toReadMark_HC : CfgOK Go.Proofs.Try.prog laws_toReadMark_C := ⟨⟨info_ok g_tisOK⟩, all_nil, g_wide⟩

theorem laws_toReadMark_VC (x : den laws_toReadMark_ti.ty) : vcall laws_toReadMark_C Go.Proofs.Try.f101 laws_toReadMark_ti laws_toReadMark_to x = laws_toReadMark_S x := by kernel_rfl

theorem laws_toReadMark_OK : EntOK Go.Proofs.Try.prog laws_toReadMark_Ent := EntOK.of_vcall laws_toReadMark_HC Go.Proofs.Try.func101 (body_loops (by kernel_rfl) (loops_all 0 (by kernel_rfl) (fun k hk => absurd hk (Nat.not_lt_zero k)))) (by kernel_rfl) (by kernel_rfl) laws_toReadMark_VC

/-! laws.toReadMarkS -/

noncomputable def laws_toReadMarkS_D3 (i : List (Int × Int × Unit) × Unit) (v : Int × List (Int × Int × Unit) × Unit) (R : Type) (K : Int × List (Int × Int × Unit) × Unit ⊕ List (Int × Int × Unit) × Unit → Option R) : Option R :=
  bif decide (v.1 < (↑(List.length i.1) : Int)) then Option.bind (lAt i.1 v.1) fun v_1 => Option.bind (laws_toReadMark_S ((v_1.1, v_1.2.1, ()), ())) fun v_2 => if 0 ≤ v.1 ∧ v.1 < (↑(List.length v.2.1) : Int) then Option.bind v.2.1[0 +
  Int.toNat v.1]? fun v_3 => K (Sum.inl (IntKind.wrap IntKind.i64 (v.1 + 1), List.set v.2.1 (0 + Int.toNat v.1) (v_2.1, v_2.2.1, ()), ())) else none else K (Sum.inr (v.2.1, ()))

theorem laws_toReadMarkS_D3_nat (i : List (Int × Int × Unit) × Unit) (v : Int × List (Int × Int × Unit) × Unit) (R : Type) (K : Int × List (Int × Int × Unit) × Unit ⊕ List (Int × Int × Unit) × Unit → Option R) : laws_toReadMarkS_D3 i v R K = (laws_toReadMarkS_D3 i v _ some).bind K := nat_bif (nat_bind fun _ => nat_bind fun _ => nat_ite (nat_bind fun _ => nat_some)) (nat_some)

def laws_toReadMarkS_T3 : Tmpl := Tmpl.mk (TmL.slot (Ty.slice YReadMark) (TmL.junk (TmL.junk (TmL.own 0 (TmL.slot Ty.i (TmL.junk (TmL.junk (TmL.junk (TmL.junk (TmL.junk (TmL.junk (TmL.junk (TmL.junk
  (TmL.junk (TmL.junk (TmL.junk (TmL.junk (TmL.junk (TmL.junk (TmL.junk (TmL.junk (TmL.junk (TmL.junk TmL.nil))))))))))))))))))))))) (TmH.lst false YReadMark TmH.nil)

def laws_toReadMarkS_X3_0 (i : List (Int × Int × Unit) × Unit) (p : List (Int × Int × Unit) × Unit) : St :=
  St.mk [AV.junk, AV.junk, AV.junk, AV.own 0 none none, AV.junk, AV.junk, AV.junk, AV.junk, AV.junk, AV.junk, AV.junk, AV.junk, AV.junk, AV.junk, AV.junk, AV.junk, AV.junk, AV.junk, AV.junk, AV.junk, AV.junk, AV.junk, AV.junk] [some (Cont.lst
  false YReadMark p.1)]

noncomputable def laws_toReadMarkS_E3 (i : List (Int × Int × Unit) × Unit) (p : List (Int × Int × Unit) × Unit) (R : Type) (K : Ex → St → Option R) : Option R := K (Ex.exit 0) (laws_toReadMarkS_X3_0 i p)

noncomputable def laws_toReadMarkS_K3 (i : List (Int × Int × Unit) × Unit) (p : List (Int × Int × Unit) × Unit) : Ex × St := ((Ex.exit 0), laws_toReadMarkS_X3_0 i p)

def laws_toReadMarkS_M3 (i : List (Int × Int × Unit) × Unit) (v : Int × List (Int × Int × Unit) × Unit) : den laws_toReadMarkS_T3.ty := (i.1, v.1, v.2.1, ())

def laws_toReadMarkS_P3 (x : den laws_toReadMarkS_T3.ty) : (List (Int × Int × Unit) × Unit) × (Int × List (Int × Int × Unit) × Unit) := ((x.1, ()), (x.2.1, x.2.2.1, ()))

noncomputable def laws_toReadMarkS_F3 : LoopFn := fun s R K => Tmpl.readS laws_toReadMarkS_T3 0 s fun x => (iter (fun v => laws_toReadMarkS_D3 (laws_toReadMarkS_P3 x).1 v _ some) (laws_toReadMarkS_P3 x).2).bind fun p => laws_toReadMarkS_E3 (laws_toReadMarkS_P3 x).1 p R K

noncomputable def laws_toReadMarkS_C : Cfg := { ti := g_tis, ents := [laws_toReadMark_Ent], ann := [(3, laws_toReadMarkS_F3)], lent := 0 }

def laws_toReadMarkS_ti : Tmpl := Tmpl.mk (TmL.slot (Ty.slice YReadMark) TmL.nil) TmH.nil

def laws_toReadMarkS_to : Tmpl := Tmpl.mk (TmL.own 0 TmL.nil) (TmH.lst false YReadMark TmH.nil)

noncomputable def laws_toReadMarkS_S (x : List (Int × Int × Unit) × Unit) : Option (List (Int × Int × Unit) × Unit) :=
  if 0 ≤ (↑(List.length x.1) : Int) ∧ (↑(List.length x.1) : Int) ≤ (↑(List.length x.1) : Int) ∧ (↑(List.length x.1) : Int) ≤ (↑2199023255552 : Int) then Option.bind (iter (fun v => laws_toReadMarkS_D3 (x.1, ()) v (Int × List (Int × Int × Unit)
  × Unit ⊕ List (Int × Int × Unit) × Unit) some) (0, List.replicate (Int.toNat (↑(List.length x.1) : Int)) (0, 0, ()), ())) fun p => some (p.1, ()) else none

noncomputable def laws_toReadMarkS_Ent : Ent := ⟨63, laws_toReadMarkS_ti, laws_toReadMarkS_to, laws_toReadMarkS_S⟩

theorem laws_toReadMarkS_HC : CfgOK Go.Proofs.Try.prog laws_toReadMarkS_C := ⟨⟨info_ok g_tisOK⟩, (all_cons laws_toReadMark_OK all_nil), g_wide⟩

theorem laws_toReadMarkS_lk3 : ∀ F, ((laws_toReadMarkS_C).ann.find? fun x => x.1 == firstId ((loopsOf (codeOf Go.Proofs.Try.f63)).getD 0 .skip)).map (·.2) = some F → LoopOK Go.Proofs.Try.prog laws_toReadMarkS_C.lent ((loopsOf (codeOf Go.Proofs.Try.f63)).getD 0 .skip) F := by
  refine lookup_ok (show ((laws_toReadMarkS_C).ann.find? fun x => x.1 == firstId ((loopsOf (codeOf Go.Proofs.Try.f63)).getD 0 .skip)).map (·.2) = some laws_toReadMarkS_F3 from by kernel_rfl) ?_
  exact loop_ok laws_toReadMarkS_HC (loops_all 0 (by kernel_rfl) (fun k hk => absurd hk (Nat.not_lt_zero k))) laws_toReadMarkS_T3 [3] laws_toReadMarkS_M3 laws_toReadMarkS_P3 (fun x => rfl) laws_toReadMarkS_D3 laws_toReadMarkS_D3_nat laws_toReadMarkS_E3 laws_toReadMarkS_K3 (fun i p R K => rfl) (fun i v => by kernel_rfl)

theorem laws_toReadMarkS_VC (x : den laws_toReadMarkS_ti.ty) : vcall laws_toReadMarkS_C Go.Proofs.Try.f63 laws_toReadMarkS_ti laws_toReadMarkS_to x = laws_toReadMarkS_S x := by kernel_rfl

theorem laws_toReadMarkS_OK : EntOK Go.Proofs.Try.prog laws_toReadMarkS_Ent := EntOK.of_vcall laws_toReadMarkS_HC Go.Proofs.Try.func63 (body_loops (by kernel_rfl) (loops_all 1 (by kernel_rfl) (fun k hk => match k, hk with | 0, _ => laws_toReadMarkS_lk3))) (by kernel_rfl) (by kernel_rfl) laws_toReadMarkS_VC

/-! laws.toWrite -/

noncomputable def laws_toWrite_C : Cfg := { ti := g_tis, ents := [], ann := [], lent := 0 }

def laws_toWrite_ti : Tmpl := Tmpl.mk (TmL.slot YReadMark TmL.nil) TmH.nil

def laws_toWrite_to : Tmpl := Tmpl.mk (TmL.agg (TmL.slot Ty.i (TmL.slot Ty.i TmL.nil)) TmL.nil) TmH.nil

noncomputable def laws_toWrite_S (x : (Int × Int × Unit) × Unit) : Option (Int × Int × Unit) :=
  some (x.1.1, x.1.2.1, ())

noncomputable def laws_toWrite_Ent : Ent := ⟨102, laws_toWrite_ti, laws_toWrite_to, laws_toWrite_S⟩

theorem laws_toWrite_HC : CfgOK Go.Proofs.Try.prog laws_toWrite_C := ⟨⟨info_ok g_tisOK⟩, all_nil, g_wide⟩

theorem laws_toWrite_VC (x : den laws_toWrite_ti.ty) : vcall laws_toWrite_C Go.Proofs.Try.f102 laws_toWrite_ti laws_toWrite_to x = laws_toWrite_S x := by kernel_rfl

theorem laws_toWrite_OK : EntOK Go.Proofs.Try.prog laws_toWrite_Ent := EntOK.of_vcall laws_toWrite_HC Go.Proofs.Try.func102 (body_loops (by kernel_rfl) (loops_all 0 (by kernel_rfl) (fun k hk => absurd hk (Nat.not_lt_zero k)))) (by kernel_rfl) (by kernel_rfl) laws_toWrite_VC

/-! laws.toWriteS -/

noncomputable def laws_toWriteS_D3 (i : List (Int × Int × Unit) × Unit) (v : Int × List (Int × Int × Unit) × Unit) (R : Type) (K : Int × List (Int × Int × Unit) × Unit ⊕ List (Int × Int × Unit) × Unit → Option R) : Option R :=
  bif decide (v.1 < (↑(List.length i.1) : Int)) then Option.bind (lAt i.1 v.1) fun v_1 => Option.bind (laws_toWrite_S ((v_1.1, v_1.2.1, ()), ())) fun v_2 => if 0 ≤ v.1 ∧ v.1 < (↑(List.length v.2.1) : Int) then Option.bind v.2.1[0 + Int.toNat
  v.1]? fun v_3 => K (Sum.inl (IntKind.wrap IntKind.i64 (v.1 + 1), List.set v.2.1 (0 + Int.toNat v.1) (v_2.1, v_2.2.1, ()), ())) else none else K (Sum.inr (v.2.1, ()))

theorem laws_toWriteS_D3_nat (i : List (Int × Int × Unit) × Unit) (v : Int × List (Int × Int × Unit) × Unit) (R : Type) (K : Int × List (Int × Int × Unit) × Unit ⊕ List (Int × Int × Unit) × Unit → Option R) : laws_toWriteS_D3 i v R K = (laws_toWriteS_D3 i v _ some).bind K := nat_bif (nat_bind fun _ => nat_bind fun _ => nat_ite (nat_bind fun _ => nat_some)) (nat_some)

def laws_toWriteS_T3 : Tmpl := Tmpl.mk (TmL.slot (Ty.slice YReadMark) (TmL.junk (TmL.junk (TmL.own 0 (TmL.slot Ty.i (TmL.junk (TmL.junk (TmL.junk (TmL.junk (TmL.junk (TmL.junk (TmL.junk (TmL.junk
  (TmL.junk (TmL.junk (TmL.junk (TmL.junk (TmL.junk (TmL.junk (TmL.junk (TmL.junk (TmL.junk (TmL.junk TmL.nil))))))))))))))))))))))) (TmH.lst false YReadMark TmH.nil)

def laws_toWriteS_X3_0 (i : List (Int × Int × Unit) × Unit) (p : List (Int × Int × Unit) × Unit) : St :=
  St.mk [AV.junk, AV.junk, AV.junk, AV.own 0 none none, AV.junk, AV.junk, AV.junk, AV.junk, AV.junk, AV.junk, AV.junk, AV.junk, AV.junk, AV.junk, AV.junk, AV.junk, AV.junk, AV.junk, AV.junk, AV.junk, AV.junk, AV.junk, AV.junk] [some (Cont.lst
  false YReadMark p.1)]

noncomputable def laws_toWriteS_E3 (i : List (Int × Int × Unit) × Unit) (p : List (Int × Int × Unit) × Unit) (R : Type) (K : Ex → St → Option R) : Option R := K (Ex.exit 0) (laws_toWriteS_X3_0 i p)

noncomputable def laws_toWriteS_K3 (i : List (Int × Int × Unit) × Unit) (p : List (Int × Int × Unit) × Unit) : Ex × St := ((Ex.exit 0), laws_toWriteS_X3_0 i p)

def laws_toWriteS_M3 (i : List (Int × Int × Unit) × Unit) (v : Int × List (Int × Int × Unit) × Unit) : den laws_toWriteS_T3.ty := (i.1, v.1, v.2.1, ())

def laws_toWriteS_P3 (x : den laws_toWriteS_T3.ty) : (List (Int × Int × Unit) × Unit) × (Int × List (Int × Int × Unit) × Unit) := ((x.1, ()), (x.2.1, x.2.2.1, ()))

noncomputable def laws_toWriteS_F3 : LoopFn := fun s R K => Tmpl.readS laws_toWriteS_T3 0 s fun x => (iter (fun v => laws_toWriteS_D3 (laws_toWriteS_P3 x).1 v _ some) (laws_toWriteS_P3 x).2).bind fun p => laws_toWriteS_E3 (laws_toWriteS_P3 x).1 p R K

noncomputable def laws_toWriteS_C : Cfg := { ti := g_tis, ents := [laws_toWrite_Ent], ann := [(3, laws_toWriteS_F3)], lent := 0 }

def laws_toWriteS_ti : Tmpl := Tmpl.mk (TmL.slot (Ty.slice YReadMark) TmL.nil) TmH.nil

def laws_toWriteS_to : Tmpl := Tmpl.mk (TmL.own 0 TmL.nil) (TmH.lst false YReadMark TmH.nil)

noncomputable def laws_toWriteS_S (x : List (Int × Int × Unit) × Unit) : Option (List (Int × Int × Unit) × Unit) :=
  if 0 ≤ (↑(List.length x.1) : Int) ∧ (↑(List.length x.1) : Int) ≤ (↑(List.length x.1) : Int) ∧ (↑(List.length x.1) : Int) ≤ (↑2199023255552 : Int) then Option.bind (iter (fun v => laws_toWriteS_D3 (x.1, ()) v (Int × List (Int × Int × Unit) ×
  Unit ⊕ List (Int × Int × Unit) × Unit) some) (0, List.replicate (Int.toNat (↑(List.length x.1) : Int)) (0, 0, ()), ())) fun p => some (p.1, ()) else none

noncomputable def laws_toWriteS_Ent : Ent := ⟨64, laws_toWriteS_ti, laws_toWriteS_to, laws_toWriteS_S⟩

theorem laws_toWriteS_HC : CfgOK Go.Proofs.Try.prog laws_toWriteS_C := ⟨⟨info_ok g_tisOK⟩, (all_cons laws_toWrite_OK all_nil), g_wide⟩

theorem laws_toWriteS_lk3 : ∀ F, ((laws_toWriteS_C).ann.find? fun x => x.1 == firstId ((loopsOf (codeOf Go.Proofs.Try.f64)).getD 0 .skip)).map (·.2) = some F → LoopOK Go.Proofs.Try.prog laws_toWriteS_C.lent ((loopsOf (codeOf Go.Proofs.Try.f64)).getD 0 .skip) F := by
  refine lookup_ok (show ((laws_toWriteS_C).ann.find? fun x => x.1 == firstId ((loopsOf (codeOf Go.Proofs.Try.f64)).getD 0 .skip)).map (·.2) = some laws_toWriteS_F3 from by kernel_rfl) ?_
  exact loop_ok laws_toWriteS_HC (loops_all 0 (by kernel_rfl) (fun k hk => absurd hk (Nat.not_lt_zero k))) laws_toWriteS_T3 [3] laws_toWriteS_M3 laws_toWriteS_P3 (fun x => rfl) laws_toWriteS_D3 laws_toWriteS_D3_nat laws_toWriteS_E3 laws_toWriteS_K3 (fun i p R K => rfl) (fun i v => by kernel_rfl)

theorem laws_toWriteS_VC (x : den laws_toWriteS_ti.ty) : vcall laws_toWriteS_C Go.Proofs.Try.f64 laws_toWriteS_ti laws_toWriteS_to x = laws_toWriteS_S x := by kernel_rfl

theorem laws_toWriteS_OK : EntOK Go.Proofs.Try.prog laws_toWriteS_Ent := EntOK.of_vcall laws_toWriteS_HC Go.Proofs.Try.func64 (body_loops (by kernel_rfl) (loops_all 1 (by kernel_rfl) (fun k hk => match k, hk with | 0, _ => laws_toWriteS_lk3))) (by kernel_rfl) (by kernel_rfl) laws_toWriteS_VC

/-! spec.l5Before -/

noncomputable def spec_l5Before_C : Cfg := { ti := g_tis, ents := [], ann := [], lent := 0 }

def spec_l5Before_ti : Tmpl := Tmpl.mk (TmL.slot YReadMark (TmL.slot YReadMark TmL.nil)) TmH.nil

def spec_l5Before_to : Tmpl := Tmpl.mk (TmL.slot Ty.bool TmL.nil) TmH.nil

noncomputable def spec_l5Before_S (x : (Int × Int × Unit) × (Int × Int × Unit) × Unit) : Option (Bool × Unit) :=
  bif decide (x.1.1 < x.2.1.1) then some (true, ()) else bif x.1.1 == x.2.1.1 then some (decide (x.1.2.1 < x.2.1.2.1), ()) else some (false, ())

noncomputable def spec_l5Before_Ent : Ent := ⟨138, spec_l5Before_ti, spec_l5Before_to, spec_l5Before_S⟩

theorem spec_l5Before_HC : CfgOK Go.Proofs.Try.prog spec_l5Before_C := ⟨⟨info_ok g_tisOK⟩, all_nil, g_wide⟩

theorem spec_l5Before_VC (x : den spec_l5Before_ti.ty) : vcall spec_l5Before_C Go.Proofs.Try.f138 spec_l5Before_ti spec_l5Before_to x = spec_l5Before_S x := by kernel_rfl

theorem spec_l5Before_OK : EntOK Go.Proofs.Try.prog spec_l5Before_Ent := EntOK.of_vcall spec_l5Before_HC Go.Proofs.Try.func138 (body_loops (by kernel_rfl) (loops_all 0 (by kernel_rfl) (fun k hk => absurd hk (Nat.not_lt_zero k)))) (by kernel_rfl) (by kernel_rfl) spec_l5Before_VC

/-! spec.IsValidTransaction -/

noncomputable def spec_IsValidTransaction_D2 (i : Int × Int × Int × Int × Int × Int × Int × List (Int × Int × Unit) × List (Int × Int × Unit) × Unit) (v : Int × Unit) (R : Type) (K : Int × Unit ⊕ Int × Int × Unit ⊕ Int × Int × Unit ⊕ Int × Int × Unit ⊕ Unit → Option R) : Option R :=
  bif decide (v.1 < (↑(List.length i.2.2.2.2.2.2.2.1) : Int)) then Option.bind (lAt i.2.2.2.2.2.2.2.1 v.1) fun v_1 => Option.bind (spec_l1In_S (v_1.1, 0, 5, ())) fun v_2 => bif !v_2.1 then K (Sum.inr (Sum.inl (v_1.1, v_1.2.1, ()))) else
  Option.bind (spec_l1In_S (v_1.2.1, 0, 999, ())) fun v_3 => bif !v_3.1 then K (Sum.inr (Sum.inr (Sum.inl (v_1.1, v_1.2.1, ())))) else bif decide (v.1 > 0) then Option.bind (lAt i.2.2.2.2.2.2.2.1 (IntKind.wrap IntKind.i64 (v.1 - 1))) fun v_4
  => Option.bind (spec_l5Before_S ((v_4.1, v_4.2.1, ()), (v_1.1, v_1.2.1, ()), ())) fun v_5 => bif !v_5.1 then K (Sum.inr (Sum.inr (Sum.inr (Sum.inl (v_1.1, v_1.2.1, ()))))) else K (Sum.inl (IntKind.wrap IntKind.i64 (v.1 + 1), ())) else K
  (Sum.inl (IntKind.wrap IntKind.i64 (v.1 + 1), ())) else K (Sum.inr (Sum.inr (Sum.inr (Sum.inr ()))))

theorem spec_IsValidTransaction_D2_nat (i : Int × Int × Int × Int × Int × Int × Int × List (Int × Int × Unit) × List (Int × Int × Unit) × Unit) (v : Int × Unit) (R : Type) (K : Int × Unit ⊕ Int × Int × Unit ⊕ Int × Int × Unit ⊕ Int × Int × Unit ⊕ Unit → Option R) : spec_IsValidTransaction_D2 i v R K = (spec_IsValidTransaction_D2 i v _ some).bind K := nat_bif (nat_bind fun _ => nat_bind fun _ => nat_bif (nat_some) (nat_bind fun _ => nat_bif (nat_some) (nat_bif (nat_bind fun _ => nat_bind fun _ => nat_bif (nat_some) (nat_some)) (nat_some)))) (nat_some)

def spec_IsValidTransaction_T2 : Tmpl := Tmpl.mk (TmL.junk (TmL.ptr 0 0 0 (TmL.junk (TmL.slot Ty.i (TmL.junk (TmL.junk (TmL.junk (TmL.junk (TmL.junk (TmL.junk (TmL.junk (TmL.junk (TmL.junk (TmL.junk (TmL.junk (TmL.junk (TmL.junk (TmL.junk (TmL.junk (TmL.junk
  (TmL.junk (TmL.junk (TmL.junk (TmL.junk (TmL.junk (TmL.junk (TmL.junk (TmL.junk (TmL.junk (TmL.junk (TmL.junk (TmL.junk (TmL.junk (TmL.junk (TmL.junk (TmL.junk (TmL.junk (TmL.junk (TmL.junk (TmL.junk (TmL.junk (TmL.junk (TmL.junk (TmL.junk
  (TmL.junk (TmL.junk (TmL.junk (TmL.junk (TmL.junk (TmL.junk (TmL.junk (TmL.junk (TmL.junk (TmL.junk (TmL.junk (TmL.junk (TmL.junk (TmL.junk (TmL.junk (TmL.junk (TmL.junk (TmL.junk (TmL.junk (TmL.junk (TmL.junk (TmL.junk (TmL.junk (TmL.junk
  (TmL.junk (TmL.junk (TmL.junk (TmL.junk (TmL.junk (TmL.junk (TmL.junk (TmL.junk (TmL.junk (TmL.junk (TmL.junk (TmL.junk (TmL.junk (TmL.junk (TmL.junk (TmL.junk (TmL.junk (TmL.junk (TmL.junk (TmL.junk (TmL.junk (TmL.junk (TmL.junk (TmL.junk
  (TmL.junk (TmL.junk (TmL.junk (TmL.junk (TmL.junk (TmL.junk (TmL.junk (TmL.junk (TmL.junk (TmL.junk (TmL.junk (TmL.junk (TmL.junk (TmL.junk (TmL.junk (TmL.junk (TmL.junk (TmL.junk (TmL.junk (TmL.junk (TmL.junk (TmL.junk (TmL.junk (TmL.junk
  (TmL.junk (TmL.junk (TmL.junk (TmL.junk (TmL.junk (TmL.junk (TmL.junk (TmL.junk (TmL.junk (TmL.junk (TmL.junk (TmL.junk (TmL.junk (TmL.junk (TmL.junk
  TmL.nil))))))))))))))))))))))))))))))))))))))))))))))))))))))))))))))))))))))))))))))))))))))))))))))))))))))))))))))))))))))))))))))))))) (TmH.cells 9 (TmL.slot Ty.i (TmL.slot Ty.i (TmL.slot (Ty.int
  IntKind.i64) (TmL.slot Ty.i (TmL.slot Ty.i (TmL.slot Ty.i (TmL.slot Ty.i (TmL.slot (Ty.slice YReadMark) (TmL.slot
  (Ty.slice YReadMark) TmL.nil))))))))) TmH.nil)

def spec_IsValidTransaction_X2_0 (i : Int × Int × Int × Int × Int × Int × Int × List (Int × Int × Unit) × List (Int × Int × Unit) × Unit) (p : Int × Int × Unit) : St :=
  St.mk [AV.junk, AV.ptr 0 none 0 0, AV.pv Ty.bool false, AV.junk, AV.junk, AV.junk, AV.junk, AV.junk, AV.junk, AV.junk, AV.junk, AV.junk, AV.junk, AV.junk, AV.junk, AV.junk, AV.junk, AV.junk, AV.junk, AV.junk, AV.junk, AV.junk, AV.junk,
  AV.junk, AV.junk, AV.junk, AV.junk, AV.junk, AV.junk, AV.junk, AV.junk, AV.junk, AV.junk, AV.junk, AV.junk, AV.junk, AV.junk, AV.junk, AV.junk, AV.junk, AV.junk, AV.junk, AV.junk, AV.junk, AV.junk, AV.junk, AV.junk, AV.junk, AV.junk,
  AV.junk, AV.junk, AV.junk, AV.junk, AV.junk, AV.junk, AV.junk, AV.junk, AV.junk, AV.junk, AV.junk, AV.junk, AV.junk, AV.junk, AV.junk, AV.junk, AV.junk, AV.junk, AV.junk, AV.junk, AV.junk, AV.junk, AV.junk, AV.junk, AV.junk, AV.junk,
  AV.junk, AV.junk, AV.junk, AV.junk, AV.junk, AV.junk, AV.junk, AV.junk, AV.junk, AV.junk, AV.junk, AV.junk, AV.junk, AV.junk, AV.junk, AV.junk, AV.junk, AV.junk, AV.junk, AV.junk, AV.junk, AV.junk, AV.junk, AV.junk, AV.junk, AV.junk,
  AV.junk, AV.junk, AV.junk, AV.junk, AV.junk, AV.junk, AV.junk, AV.junk, AV.junk, AV.junk, AV.junk, AV.junk, AV.junk, AV.junk, AV.junk, AV.junk, AV.junk, AV.junk, AV.junk, AV.junk, AV.junk, AV.junk, AV.junk, AV.junk, AV.junk, AV.junk,
  AV.junk, AV.junk, AV.junk, AV.junk] [some (Cont.cells 9 [[AV.pv Ty.i i.1, AV.pv Ty.i i.2.1, AV.pv Ty.i i.2.2.1, AV.pv Ty.i i.2.2.2.1, AV.pv Ty.i i.2.2.2.2.1,
  AV.pv Ty.i i.2.2.2.2.2.1, AV.pv Ty.i i.2.2.2.2.2.2.1, AV.pv (Ty.slice YReadMark) i.2.2.2.2.2.2.2.1, AV.pv (Ty.slice (Ty.prod Ty.i
  (Ty.prod Ty.i Ty.unit))) i.2.2.2.2.2.2.2.2.1]]), some (Cont.cells 2 [[AV.pv Ty.i p.1, AV.pv Ty.i p.2.1]])]

def spec_IsValidTransaction_X2_1 (i : Int × Int × Int × Int × Int × Int × Int × List (Int × Int × Unit) × List (Int × Int × Unit) × Unit) (p : Int × Int × Unit) : St :=
  St.mk [AV.junk, AV.ptr 0 none 0 0, AV.pv Ty.bool false, AV.junk, AV.junk, AV.junk, AV.junk, AV.junk, AV.junk, AV.junk, AV.junk, AV.junk, AV.junk, AV.junk, AV.junk, AV.junk, AV.junk, AV.junk, AV.junk, AV.junk, AV.junk, AV.junk, AV.junk,
  AV.junk, AV.junk, AV.junk, AV.junk, AV.junk, AV.junk, AV.junk, AV.junk, AV.junk, AV.junk, AV.junk, AV.junk, AV.junk, AV.junk, AV.junk, AV.junk, AV.junk, AV.junk, AV.junk, AV.junk, AV.junk, AV.junk, AV.junk, AV.junk, AV.junk, AV.junk,
  AV.junk, AV.junk, AV.junk, AV.junk, AV.junk, AV.junk, AV.junk, AV.junk, AV.junk, AV.junk, AV.junk, AV.junk, AV.junk, AV.junk, AV.junk, AV.junk, AV.junk, AV.junk, AV.junk, AV.junk, AV.junk, AV.junk, AV.junk, AV.junk, AV.junk, AV.junk,
  AV.junk, AV.junk, AV.junk, AV.junk, AV.junk, AV.junk, AV.junk, AV.junk, AV.junk, AV.junk, AV.junk, AV.junk, AV.junk, AV.junk, AV.junk, AV.junk, AV.junk, AV.junk, AV.junk, AV.junk, AV.junk, AV.junk, AV.junk, AV.junk, AV.junk, AV.junk,
  AV.junk, AV.junk, AV.junk, AV.junk, AV.junk, AV.junk, AV.junk, AV.junk, AV.junk, AV.junk, AV.junk, AV.junk, AV.junk, AV.junk, AV.junk, AV.junk, AV.junk, AV.junk, AV.junk, AV.junk, AV.junk, AV.junk, AV.junk, AV.junk, AV.junk, AV.junk,
  AV.junk, AV.junk, AV.junk, AV.junk] [some (Cont.cells 9 [[AV.pv Ty.i i.1, AV.pv Ty.i i.2.1, AV.pv Ty.i i.2.2.1, AV.pv Ty.i i.2.2.2.1, AV.pv Ty.i i.2.2.2.2.1,
  AV.pv Ty.i i.2.2.2.2.2.1, AV.pv Ty.i i.2.2.2.2.2.2.1, AV.pv (Ty.slice YReadMark) i.2.2.2.2.2.2.2.1, AV.pv (Ty.slice (Ty.prod Ty.i
  (Ty.prod Ty.i Ty.unit))) i.2.2.2.2.2.2.2.2.1]]), some (Cont.cells 2 [[AV.pv Ty.i p.1, AV.pv Ty.i p.2.1]])]

def spec_IsValidTransaction_X2_2 (i : Int × Int × Int × Int × Int × Int × Int × List (Int × Int × Unit) × List (Int × Int × Unit) × Unit) (p : Int × Int × Unit) : St :=
  St.mk [AV.junk, AV.ptr 0 none 0 0, AV.pv Ty.bool false, AV.junk, AV.junk, AV.junk, AV.junk, AV.junk, AV.junk, AV.junk, AV.junk, AV.junk, AV.junk, AV.junk, AV.junk, AV.junk, AV.junk, AV.junk, AV.junk, AV.junk, AV.junk, AV.junk, AV.junk,
  AV.junk, AV.junk, AV.junk, AV.junk, AV.junk, AV.junk, AV.junk, AV.junk, AV.junk, AV.junk, AV.junk, AV.junk, AV.junk, AV.junk, AV.junk, AV.junk, AV.junk, AV.junk, AV.junk, AV.junk, AV.junk, AV.junk, AV.junk, AV.junk, AV.junk, AV.junk,
  AV.junk, AV.junk, AV.junk, AV.junk, AV.junk, AV.junk, AV.junk, AV.junk, AV.junk, AV.junk, AV.junk, AV.junk, AV.junk, AV.junk, AV.junk, AV.junk, AV.junk, AV.junk, AV.junk, AV.junk, AV.junk, AV.junk, AV.junk, AV.junk, AV.junk, AV.junk,
  AV.junk, AV.junk, AV.junk, AV.junk, AV.junk, AV.junk, AV.junk, AV.junk, AV.junk, AV.junk, AV.junk, AV.junk, AV.junk, AV.junk, AV.junk, AV.junk, AV.junk, AV.junk, AV.junk, AV.junk, AV.junk, AV.junk, AV.junk, AV.junk, AV.junk, AV.junk,
  AV.junk, AV.junk, AV.junk, AV.junk, AV.junk, AV.junk, AV.junk, AV.junk, AV.junk, AV.junk, AV.junk, AV.junk, AV.junk, AV.junk, AV.junk, AV.junk, AV.junk, AV.junk, AV.junk, AV.junk, AV.junk, AV.junk, AV.junk, AV.junk, AV.junk, AV.junk,
  AV.junk, AV.junk, AV.junk, AV.junk] [some (Cont.cells 9 [[AV.pv Ty.i i.1, AV.pv Ty.i i.2.1, AV.pv Ty.i i.2.2.1, AV.pv Ty.i i.2.2.2.1, AV.pv Ty.i i.2.2.2.2.1,
  AV.pv Ty.i i.2.2.2.2.2.1, AV.pv Ty.i i.2.2.2.2.2.2.1, AV.pv (Ty.slice YReadMark) i.2.2.2.2.2.2.2.1, AV.pv (Ty.slice (Ty.prod Ty.i
  (Ty.prod Ty.i Ty.unit))) i.2.2.2.2.2.2.2.2.1]]), some (Cont.cells 2 [[AV.pv Ty.i p.1, AV.pv Ty.i p.2.1]])]

def spec_IsValidTransaction_X2_3 (i : Int × Int × Int × Int × Int × Int × Int × List (Int × Int × Unit) × List (Int × Int × Unit) × Unit) (p : Unit) : St :=
  St.mk [AV.junk, AV.ptr 0 none 0 0, AV.junk, AV.junk, AV.junk, AV.junk, AV.junk, AV.junk, AV.junk, AV.junk, AV.junk, AV.junk, AV.junk, AV.junk, AV.junk, AV.junk, AV.junk, AV.junk, AV.junk, AV.junk, AV.junk, AV.junk, AV.junk, AV.junk, AV.junk,
  AV.junk, AV.junk, AV.junk, AV.junk, AV.junk, AV.junk, AV.junk, AV.junk, AV.junk, AV.junk, AV.junk, AV.junk, AV.junk, AV.junk, AV.junk, AV.junk, AV.junk, AV.junk, AV.junk, AV.junk, AV.junk, AV.junk, AV.junk, AV.junk, AV.junk, AV.junk,
  AV.junk, AV.junk, AV.junk, AV.junk, AV.junk, AV.junk, AV.junk, AV.junk, AV.junk, AV.junk, AV.junk, AV.junk, AV.junk, AV.junk, AV.junk, AV.junk, AV.junk, AV.junk, AV.junk, AV.junk, AV.junk, AV.junk, AV.junk, AV.junk, AV.junk, AV.junk,
  AV.junk, AV.junk, AV.junk, AV.junk, AV.junk, AV.junk, AV.junk, AV.junk, AV.junk, AV.junk, AV.junk, AV.junk, AV.junk, AV.junk, AV.junk, AV.junk, AV.junk, AV.junk, AV.junk, AV.junk, AV.junk, AV.junk, AV.junk, AV.junk, AV.junk, AV.junk,
  AV.junk, AV.junk, AV.junk, AV.junk, AV.junk, AV.junk, AV.junk, AV.junk, AV.junk, AV.junk, AV.junk, AV.junk, AV.junk, AV.junk, AV.junk, AV.junk, AV.junk, AV.junk, AV.junk, AV.junk, AV.junk, AV.junk, AV.junk, AV.junk, AV.junk, AV.junk,
  AV.junk, AV.junk] [some (Cont.cells 9 [[AV.pv Ty.i i.1, AV.pv Ty.i i.2.1, AV.pv Ty.i i.2.2.1, AV.pv Ty.i i.2.2.2.1, AV.pv Ty.i i.2.2.2.2.1, AV.pv (Ty.int
  IntKind.i64) i.2.2.2.2.2.1, AV.pv Ty.i i.2.2.2.2.2.2.1, AV.pv (Ty.slice YReadMark) i.2.2.2.2.2.2.2.1, AV.pv (Ty.slice (Ty.prod Ty.i (Ty.prod (Ty.int
  IntKind.i64) Ty.unit))) i.2.2.2.2.2.2.2.2.1]])]

noncomputable def spec_IsValidTransaction_E2 (i : Int × Int × Int × Int × Int × Int × Int × List (Int × Int × Unit) × List (Int × Int × Unit) × Unit) (p : Int × Int × Unit ⊕ Int × Int × Unit ⊕ Int × Int × Unit ⊕ Unit) (R : Type) (K : Ex → St → Option R) : Option R := sumC p (fun p => K (Ex.ret) (spec_IsValidTransaction_X2_0 i p)) (fun p => sumC p (fun p => K (Ex.ret) (spec_IsValidTransaction_X2_1 i p)) (fun p => sumC p (fun p => K (Ex.ret) (spec_IsValidTransaction_X2_2 i p)) (fun p => K (Ex.exit 0) (spec_IsValidTransaction_X2_3 i p))))

noncomputable def spec_IsValidTransaction_K2 (i : Int × Int × Int × Int × Int × Int × Int × List (Int × Int × Unit) × List (Int × Int × Unit) × Unit) (p : Int × Int × Unit ⊕ Int × Int × Unit ⊕ Int × Int × Unit ⊕ Unit) : Ex × St := sumC p (fun p => ((Ex.ret), spec_IsValidTransaction_X2_0 i p)) (fun p => sumC p (fun p => ((Ex.ret), spec_IsValidTransaction_X2_1 i p)) (fun p => sumC p (fun p => ((Ex.ret), spec_IsValidTransaction_X2_2 i p)) (fun p => ((Ex.exit 0), spec_IsValidTransaction_X2_3 i p))))

def spec_IsValidTransaction_M2 (i : Int × Int × Int × Int × Int × Int × Int × List (Int × Int × Unit) × List (Int × Int × Unit) × Unit) (v : Int × Unit) : den spec_IsValidTransaction_T2.ty := (v.1, i.1, i.2.1, i.2.2.1, i.2.2.2.1, i.2.2.2.2.1, i.2.2.2.2.2.1, i.2.2.2.2.2.2.1, i.2.2.2.2.2.2.2.1, i.2.2.2.2.2.2.2.2.1, ())

def spec_IsValidTransaction_P2 (x : den spec_IsValidTransaction_T2.ty) : (Int × Int × Int × Int × Int × Int × Int × List (Int × Int × Unit) × List (Int × Int × Unit) × Unit) × (Int × Unit) := ((x.2.1, x.2.2.1, x.2.2.2.1, x.2.2.2.2.1, x.2.2.2.2.2.1, x.2.2.2.2.2.2.1, x.2.2.2.2.2.2.2.1, x.2.2.2.2.2.2.2.2.1, x.2.2.2.2.2.2.2.2.2.1, ()), (x.1, ()))

noncomputable def spec_IsValidTransaction_F2 : LoopFn := fun s R K => Tmpl.readS spec_IsValidTransaction_T2 0 s fun x => (iter (fun v => spec_IsValidTransaction_D2 (spec_IsValidTransaction_P2 x).1 v _ some) (spec_IsValidTransaction_P2 x).2).bind fun p => spec_IsValidTransaction_E2 (spec_IsValidTransaction_P2 x).1 p R K

noncomputable def spec_IsValidTransaction_D8 (i : Int × Int × Int × Int × Int × Int × Int × List (Int × Int × Unit) × List (Int × Int × Unit) × Unit) (v : Int × Unit) (R : Type) (K : Int × Unit ⊕ Int × Int × Unit ⊕ Int × Int × Unit ⊕ Int × Int × Unit ⊕ Unit → Option R) : Option R :=
  bif decide (v.1 < (↑(List.length i.2.2.2.2.2.2.2.2.1) : Int)) then Option.bind (lAt i.2.2.2.2.2.2.2.2.1 v.1) fun v_1 => Option.bind (spec_l1In_S (v_1.1, 0, 5, ())) fun v_2 => bif !v_2.1 then K (Sum.inr (Sum.inl (v_1.1, v_1.2.1, ()))) else
  Option.bind (spec_l1In_S (v_1.2.1, -1, 99, ())) fun v_3 => bif !v_3.1 then K (Sum.inr (Sum.inr (Sum.inl (v_1.1, v_1.2.1, ())))) else bif decide (v.1 > 0) then Option.bind (lAt i.2.2.2.2.2.2.2.2.1 (IntKind.wrap IntKind.i64 (v.1 - 1))) fun v_4
  => bif decide (v_4.1 ≥ v_1.1) then K (Sum.inr (Sum.inr (Sum.inr (Sum.inl (v_1.1, v_1.2.1, ()))))) else K (Sum.inl (IntKind.wrap IntKind.i64 (v.1 + 1), ())) else K (Sum.inl (IntKind.wrap IntKind.i64 (v.1 + 1), ())) else K (Sum.inr (Sum.inr
  (Sum.inr (Sum.inr ()))))

theorem spec_IsValidTransaction_D8_nat (i : Int × Int × Int × Int × Int × Int × Int × List (Int × Int × Unit) × List (Int × Int × Unit) × Unit) (v : Int × Unit) (R : Type) (K : Int × Unit ⊕ Int × Int × Unit ⊕ Int × Int × Unit ⊕ Int × Int × Unit ⊕ Unit → Option R) : spec_IsValidTransaction_D8 i v R K = (spec_IsValidTransaction_D8 i v _ some).bind K := nat_bif (nat_bind fun _ => nat_bind fun _ => nat_bif (nat_some) (nat_bind fun _ => nat_bif (nat_some) (nat_bif (nat_bind fun _ => nat_bif (nat_some) (nat_some)) (nat_some)))) (nat_some)

def spec_IsValidTransaction_T8 : Tmpl := Tmpl.mk (TmL.junk (TmL.ptr 0 0 0 (TmL.junk (TmL.junk (TmL.junk (TmL.slot Ty.i (TmL.junk (TmL.junk (TmL.junk (TmL.junk (TmL.junk (TmL.junk (TmL.junk (TmL.junk (TmL.junk (TmL.junk (TmL.junk (TmL.junk (TmL.junk (TmL.junk
  (TmL.junk (TmL.junk (TmL.junk (TmL.junk (TmL.junk (TmL.junk (TmL.junk (TmL.junk (TmL.junk (TmL.junk (TmL.junk (TmL.junk (TmL.junk (TmL.junk (TmL.junk (TmL.junk (TmL.junk (TmL.junk (TmL.junk (TmL.junk (TmL.junk (TmL.junk (TmL.junk (TmL.junk
  (TmL.junk (TmL.junk (TmL.junk (TmL.junk (TmL.junk (TmL.junk (TmL.junk (TmL.junk (TmL.junk (TmL.junk (TmL.junk (TmL.junk (TmL.junk (TmL.junk (TmL.junk (TmL.junk (TmL.junk (TmL.junk (TmL.junk (TmL.junk (TmL.junk (TmL.junk (TmL.junk (TmL.junk
  (TmL.junk (TmL.junk (TmL.junk (TmL.junk (TmL.junk (TmL.junk (TmL.junk (TmL.junk (TmL.junk (TmL.junk (TmL.junk (TmL.junk (TmL.junk (TmL.junk (TmL.junk (TmL.junk (TmL.junk (TmL.junk (TmL.junk (TmL.junk (TmL.junk (TmL.junk (TmL.junk (TmL.junk
  (TmL.junk (TmL.junk (TmL.junk (TmL.junk (TmL.junk (TmL.junk (TmL.junk (TmL.junk (TmL.junk (TmL.junk (TmL.junk (TmL.junk (TmL.junk (TmL.junk (TmL.junk (TmL.junk (TmL.junk (TmL.junk (TmL.junk (TmL.junk (TmL.junk (TmL.junk (TmL.junk (TmL.junk
  (TmL.junk (TmL.junk (TmL.junk (TmL.junk (TmL.junk (TmL.junk (TmL.junk (TmL.junk (TmL.junk (TmL.junk (TmL.junk (TmL.junk (TmL.junk (TmL.junk (TmL.junk
  TmL.nil))))))))))))))))))))))))))))))))))))))))))))))))))))))))))))))))))))))))))))))))))))))))))))))))))))))))))))))))))))))))))))))))))) (TmH.cells 9 (TmL.slot Ty.i (TmL.slot Ty.i (TmL.slot (Ty.int
  IntKind.i64) (TmL.slot Ty.i (TmL.slot Ty.i (TmL.slot Ty.i (TmL.slot Ty.i (TmL.slot (Ty.slice YReadMark) (TmL.slot
  (Ty.slice YReadMark) TmL.nil))))))))) TmH.nil)

def spec_IsValidTransaction_X8_0 (i : Int × Int × Int × Int × Int × Int × Int × List (Int × Int × Unit) × List (Int × Int × Unit) × Unit) (p : Int × Int × Unit) : St :=
  St.mk [AV.junk, AV.ptr 0 none 0 0, AV.pv Ty.bool false, AV.junk, AV.junk, AV.junk, AV.junk, AV.junk, AV.junk, AV.junk, AV.junk, AV.junk, AV.junk, AV.junk, AV.junk, AV.junk, AV.junk, AV.junk, AV.junk, AV.junk, AV.junk, AV.junk, AV.junk,
  AV.junk, AV.junk, AV.junk, AV.junk, AV.junk, AV.junk, AV.junk, AV.junk, AV.junk, AV.junk, AV.junk, AV.junk, AV.junk, AV.junk, AV.junk, AV.junk, AV.junk, AV.junk, AV.junk, AV.junk, AV.junk, AV.junk, AV.junk, AV.junk, AV.junk, AV.junk,
  AV.junk, AV.junk, AV.junk, AV.junk, AV.junk, AV.junk, AV.junk, AV.junk, AV.junk, AV.junk, AV.junk, AV.junk, AV.junk, AV.junk, AV.junk, AV.junk, AV.junk, AV.junk, AV.junk, AV.junk, AV.junk, AV.junk, AV.junk, AV.junk, AV.junk, AV.junk,
  AV.junk, AV.junk, AV.junk, AV.junk, AV.junk, AV.junk, AV.junk, AV.junk, AV.junk, AV.junk, AV.junk, AV.junk, AV.junk, AV.junk, AV.junk, AV.junk, AV.junk, AV.junk, AV.junk, AV.junk, AV.junk, AV.junk, AV.junk, AV.junk, AV.junk, AV.junk,
  AV.junk, AV.junk, AV.junk, AV.junk, AV.junk, AV.junk, AV.junk, AV.junk, AV.junk, AV.junk, AV.junk, AV.junk, AV.junk, AV.junk, AV.junk, AV.junk, AV.junk, AV.junk, AV.junk, AV.junk, AV.junk, AV.junk, AV.junk, AV.junk, AV.junk, AV.junk,
  AV.junk, AV.junk, AV.junk, AV.junk] [some (Cont.cells 9 [[AV.pv Ty.i i.1, AV.pv Ty.i i.2.1, AV.pv Ty.i i.2.2.1, AV.pv Ty.i i.2.2.2.1, AV.pv Ty.i i.2.2.2.2.1,
  AV.pv Ty.i i.2.2.2.2.2.1, AV.pv Ty.i i.2.2.2.2.2.2.1, AV.pv (Ty.slice YReadMark) i.2.2.2.2.2.2.2.1, AV.pv (Ty.slice (Ty.prod Ty.i
  (Ty.prod Ty.i Ty.unit))) i.2.2.2.2.2.2.2.2.1]]), some (Cont.cells 2 [[AV.pv Ty.i p.1, AV.pv Ty.i p.2.1]])]

def spec_IsValidTransaction_X8_1 (i : Int × Int × Int × Int × Int × Int × Int × List (Int × Int × Unit) × List (Int × Int × Unit) × Unit) (p : Int × Int × Unit) : St :=
  St.mk [AV.junk, AV.ptr 0 none 0 0, AV.pv Ty.bool false, AV.junk, AV.junk, AV.junk, AV.junk, AV.junk, AV.junk, AV.junk, AV.junk, AV.junk, AV.junk, AV.junk, AV.junk, AV.junk, AV.junk, AV.junk, AV.junk, AV.junk, AV.junk, AV.junk, AV.junk,
  AV.junk, AV.junk, AV.junk, AV.junk, AV.junk, AV.junk, AV.junk, AV.junk, AV.junk, AV.junk, AV.junk, AV.junk, AV.junk, AV.junk, AV.junk, AV.junk, AV.junk, AV.junk, AV.junk, AV.junk, AV.junk, AV.junk, AV.junk, AV.junk, AV.junk, AV.junk,
  AV.junk, AV.junk, AV.junk, AV.junk, AV.junk, AV.junk, AV.junk, AV.junk, AV.junk, AV.junk, AV.junk, AV.junk, AV.junk, AV.junk, AV.junk, AV.junk, AV.junk, AV.junk, AV.junk, AV.junk, AV.junk, AV.junk, AV.junk, AV.junk, AV.junk, AV.junk,
  AV.junk, AV.junk, AV.junk, AV.junk, AV.junk, AV.junk, AV.junk, AV.junk, AV.junk, AV.junk, AV.junk, AV.junk, AV.junk, AV.junk, AV.junk, AV.junk, AV.junk, AV.junk, AV.junk, AV.junk, AV.junk, AV.junk, AV.junk, AV.junk, AV.junk, AV.junk,
  AV.junk, AV.junk, AV.junk, AV.junk, AV.junk, AV.junk, AV.junk, AV.junk, AV.junk, AV.junk, AV.junk, AV.junk, AV.junk, AV.junk, AV.junk, AV.junk, AV.junk, AV.junk, AV.junk, AV.junk, AV.junk, AV.junk, AV.junk, AV.junk, AV.junk, AV.junk,
  AV.junk, AV.junk, AV.junk, AV.junk] [some (Cont.cells 9 [[AV.pv Ty.i i.1, AV.pv Ty.i i.2.1, AV.pv Ty.i i.2.2.1, AV.pv Ty.i i.2.2.2.1, AV.pv Ty.i i.2.2.2.2.1,
  AV.pv Ty.i i.2.2.2.2.2.1, AV.pv Ty.i i.2.2.2.2.2.2.1, AV.pv (Ty.slice YReadMark) i.2.2.2.2.2.2.2.1, AV.pv (Ty.slice (Ty.prod Ty.i
  (Ty.prod Ty.i Ty.unit))) i.2.2.2.2.2.2.2.2.1]]), some (Cont.cells 2 [[AV.pv Ty.i p.1, AV.pv Ty.i p.2.1]])]

def spec_IsValidTransaction_X8_2 (i : Int × Int × Int × Int × Int × Int × Int × List (Int × Int × Unit) × List (Int × Int × Unit) × Unit) (p : Int × Int × Unit) : St :=
  St.mk [AV.junk, AV.ptr 0 none 0 0, AV.pv Ty.bool false, AV.junk, AV.junk, AV.junk, AV.junk, AV.junk, AV.junk, AV.junk, AV.junk, AV.junk, AV.junk, AV.junk, AV.junk, AV.junk, AV.junk, AV.junk, AV.junk, AV.junk, AV.junk, AV.junk, AV.junk,
  AV.junk, AV.junk, AV.junk, AV.junk, AV.junk, AV.junk, AV.junk, AV.junk, AV.junk, AV.junk, AV.junk, AV.junk, AV.junk, AV.junk, AV.junk, AV.junk, AV.junk, AV.junk, AV.junk, AV.junk, AV.junk, AV.junk, AV.junk, AV.junk, AV.junk, AV.junk,
  AV.junk, AV.junk, AV.junk, AV.junk, AV.junk, AV.junk, AV.junk, AV.junk, AV.junk, AV.junk, AV.junk, AV.junk, AV.junk, AV.junk, AV.junk, AV.junk, AV.junk, AV.junk, AV.junk, AV.junk, AV.junk, AV.junk, AV.junk, AV.junk, AV.junk, AV.junk,
  AV.junk, AV.junk, AV.junk, AV.junk, AV.junk, AV.junk, AV.junk, AV.junk, AV.junk, AV.junk, AV.junk, AV.junk, AV.junk, AV.junk, AV.junk, AV.junk, AV.junk, AV.junk, AV.junk, AV.junk, AV.junk, AV.junk, AV.junk, AV.junk, AV.junk, AV.junk,
  AV.junk, AV.junk, AV.junk, AV.junk, AV.junk, AV.junk, AV.junk, AV.junk, AV.junk, AV.junk, AV.junk, AV.junk, AV.junk, AV.junk, AV.junk, AV.junk, AV.junk, AV.junk, AV.junk, AV.junk, AV.junk, AV.junk, AV.junk, AV.junk, AV.junk, AV.junk,
  AV.junk, AV.junk, AV.junk, AV.junk] [some (Cont.cells 9 [[AV.pv Ty.i i.1, AV.pv Ty.i i.2.1, AV.pv Ty.i i.2.2.1, AV.pv Ty.i i.2.2.2.1, AV.pv Ty.i i.2.2.2.2.1,
  AV.pv Ty.i i.2.2.2.2.2.1, AV.pv Ty.i i.2.2.2.2.2.2.1, AV.pv (Ty.slice YReadMark) i.2.2.2.2.2.2.2.1, AV.pv (Ty.slice (Ty.prod Ty.i
  (Ty.prod Ty.i Ty.unit))) i.2.2.2.2.2.2.2.2.1]]), some (Cont.cells 2 [[AV.pv Ty.i p.1, AV.pv Ty.i p.2.1]])]

def spec_IsValidTransaction_X8_3 (i : Int × Int × Int × Int × Int × Int × Int × List (Int × Int × Unit) × List (Int × Int × Unit) × Unit) (p : Unit) : St :=
  St.mk [AV.junk, AV.ptr 0 none 0 0, AV.junk, AV.junk, AV.junk, AV.junk, AV.junk, AV.junk, AV.junk, AV.junk, AV.junk, AV.junk, AV.junk, AV.junk, AV.junk, AV.junk, AV.junk, AV.junk, AV.junk, AV.junk, AV.junk, AV.junk, AV.junk, AV.junk, AV.junk,
  AV.junk, AV.junk, AV.junk, AV.junk, AV.junk, AV.junk, AV.junk, AV.junk, AV.junk, AV.junk, AV.junk, AV.junk, AV.junk, AV.junk, AV.junk, AV.junk, AV.junk, AV.junk, AV.junk, AV.junk, AV.junk, AV.junk, AV.junk, AV.junk, AV.junk, AV.junk,
  AV.junk, AV.junk, AV.junk, AV.junk, AV.junk, AV.junk, AV.junk, AV.junk, AV.junk, AV.junk, AV.junk, AV.junk, AV.junk, AV.junk, AV.junk, AV.junk, AV.junk, AV.junk, AV.junk, AV.junk, AV.junk, AV.junk, AV.junk, AV.junk, AV.junk, AV.junk,
  AV.junk, AV.junk, AV.junk, AV.junk, AV.junk, AV.junk, AV.junk, AV.junk, AV.junk, AV.junk, AV.junk, AV.junk, AV.junk, AV.junk, AV.junk, AV.junk, AV.junk, AV.junk, AV.junk, AV.junk, AV.junk, AV.junk, AV.junk, AV.junk, AV.junk, AV.junk,
  AV.junk, AV.junk, AV.junk, AV.junk, AV.junk, AV.junk, AV.junk, AV.junk, AV.junk, AV.junk, AV.junk, AV.junk, AV.junk, AV.junk, AV.junk, AV.junk, AV.junk, AV.junk, AV.junk, AV.junk, AV.junk, AV.junk, AV.junk, AV.junk, AV.junk, AV.junk,
  AV.junk, AV.junk] [some (Cont.cells 9 [[AV.pv Ty.i i.1, AV.pv Ty.i i.2.1, AV.pv Ty.i i.2.2.1, AV.pv Ty.i i.2.2.2.1, AV.pv Ty.i i.2.2.2.2.1, AV.pv (Ty.int
  IntKind.i64) i.2.2.2.2.2.1, AV.pv Ty.i i.2.2.2.2.2.2.1, AV.pv (Ty.slice YReadMark) i.2.2.2.2.2.2.2.1, AV.pv (Ty.slice (Ty.prod Ty.i (Ty.prod (Ty.int
  IntKind.i64) Ty.unit))) i.2.2.2.2.2.2.2.2.1]])]

noncomputable def spec_IsValidTransaction_E8 (i : Int × Int × Int × Int × Int × Int × Int × List (Int × Int × Unit) × List (Int × Int × Unit) × Unit) (p : Int × Int × Unit ⊕ Int × Int × Unit ⊕ Int × Int × Unit ⊕ Unit) (R : Type) (K : Ex → St → Option R) : Option R := sumC p (fun p => K (Ex.ret) (spec_IsValidTransaction_X8_0 i p)) (fun p => sumC p (fun p => K (Ex.ret) (spec_IsValidTransaction_X8_1 i p)) (fun p => sumC p (fun p => K (Ex.ret) (spec_IsValidTransaction_X8_2 i p)) (fun p => K (Ex.exit 2) (spec_IsValidTransaction_X8_3 i p))))

noncomputable def spec_IsValidTransaction_K8 (i : Int × Int × Int × Int × Int × Int × Int × List (Int × Int × Unit) × List (Int × Int × Unit) × Unit) (p : Int × Int × Unit ⊕ Int × Int × Unit ⊕ Int × Int × Unit ⊕ Unit) : Ex × St := sumC p (fun p => ((Ex.ret), spec_IsValidTransaction_X8_0 i p)) (fun p => sumC p (fun p => ((Ex.ret), spec_IsValidTransaction_X8_1 i p)) (fun p => sumC p (fun p => ((Ex.ret), spec_IsValidTransaction_X8_2 i p)) (fun p => ((Ex.exit 2), spec_IsValidTransaction_X8_3 i p))))

def spec_IsValidTransaction_M8 (i : Int × Int × Int × Int × Int × Int × Int × List (Int × Int × Unit) × List (Int × Int × Unit) × Unit) (v : Int × Unit) : den spec_IsValidTransaction_T8.ty := (v.1, i.1, i.2.1, i.2.2.1, i.2.2.2.1, i.2.2.2.2.1, i.2.2.2.2.2.1, i.2.2.2.2.2.2.1, i.2.2.2.2.2.2.2.1, i.2.2.2.2.2.2.2.2.1, ())

def spec_IsValidTransaction_P8 (x : den spec_IsValidTransaction_T8.ty) : (Int × Int × Int × Int × Int × Int × Int × List (Int × Int × Unit) × List (Int × Int × Unit) × Unit) × (Int × Unit) := ((x.2.1, x.2.2.1, x.2.2.2.1, x.2.2.2.2.1, x.2.2.2.2.2.1, x.2.2.2.2.2.2.1, x.2.2.2.2.2.2.2.1, x.2.2.2.2.2.2.2.2.1, x.2.2.2.2.2.2.2.2.2.1, ()), (x.1, ()))

noncomputable def spec_IsValidTransaction_F8 : LoopFn := fun s R K => Tmpl.readS spec_IsValidTransaction_T8 0 s fun x => (iter (fun v => spec_IsValidTransaction_D8 (spec_IsValidTransaction_P8 x).1 v _ some) (spec_IsValidTransaction_P8 x).2).bind fun p => spec_IsValidTransaction_E8 (spec_IsValidTransaction_P8 x).1 p R K

noncomputable def spec_IsValidTransaction_C : Cfg := { ti := g_tis, ents := [spec_l1In_Ent, spec_l5Before_Ent], ann := [(2, spec_IsValidTransaction_F2), (8, spec_IsValidTransaction_F8)], lent := 0 }

def spec_IsValidTransaction_ti : Tmpl := Tmpl.mk (TmL.slot (Ty.prod Ty.i (Ty.prod Ty.i (Ty.prod Ty.i (Ty.prod Ty.i (Ty.prod Ty.i (Ty.prod Ty.i (Ty.prod Ty.i (Ty.prod
  (Ty.slice YReadMark) (Ty.prod (Ty.slice YReadMark) Ty.unit))))))))) TmL.nil) TmH.nil

def spec_IsValidTransaction_to : Tmpl := Tmpl.mk (TmL.slot Ty.bool TmL.nil) TmH.nil

noncomputable def spec_IsValidTransaction_S (x : (Int × Int × Int × Int × Int × Int × Int × List (Int × Int × Unit) × List (Int × Int × Unit) × Unit) × Unit) : Option (Bool × Unit) :=
  Option.bind (iter (fun v => spec_IsValidTransaction_D2 (x.1.1, x.1.2.1, x.1.2.2.1, x.1.2.2.2.1, x.1.2.2.2.2.1, x.1.2.2.2.2.2.1, x.1.2.2.2.2.2.2.1, x.1.2.2.2.2.2.2.2.1, x.1.2.2.2.2.2.2.2.2.1, ()) v (Int × Unit ⊕ Int × Int × Unit ⊕ Int × Int ×
  Unit ⊕ Int × Int × Unit ⊕ Unit) some) (0, ())) fun p => sumC p (fun p => some (false, ())) fun p => sumC p (fun p => some (false, ())) fun p => sumC p (fun p => some (false, ())) fun p => Option.bind (iter (fun v =>
  spec_IsValidTransaction_D8 (x.1.1, x.1.2.1, x.1.2.2.1, x.1.2.2.2.1, x.1.2.2.2.2.1, x.1.2.2.2.2.2.1, x.1.2.2.2.2.2.2.1, x.1.2.2.2.2.2.2.2.1, x.1.2.2.2.2.2.2.2.2.1, ()) v (Int × Unit ⊕ Int × Int × Unit ⊕ Int × Int × Unit ⊕ Int × Int × Unit ⊕
  Unit) some) (0, ())) fun p => sumC p (fun p => some (false, ())) fun p => sumC p (fun p => some (false, ())) fun p => sumC p (fun p => some (false, ())) fun p => Option.bind (spec_l1In_S (x.1.1, 1, 9, ())) fun v => bif !v.1 then some (false,
  ()) else Option.bind (spec_l1In_S (x.1.2.1, 1, 4, ())) fun v => bif !v.1 then some (false, ()) else Option.bind (spec_l1In_S (x.1.2.2.2.1, 0, 999, ())) fun v => bif !v.1 then some (false, ()) else Option.bind (spec_l1In_S (x.1.2.2.1, 1, 3,
  ())) fun v => bif v.1 then Option.bind (spec_l1In_S (x.1.2.2.2.2.1, 0, 999, ())) fun v => bif v.1 then Option.bind (spec_l1In_S (x.1.2.2.2.2.2.1, 1, 1000, ())) fun v => bif v.1 then bif (x.1.2.2.1 == 2) == decide (x.1.2.2.2.2.2.2.1 > 0) then
  Option.bind (spec_l1In_S (x.1.2.2.2.2.2.2.1, 0, 999, ())) fun v => bif v.1 then some (decide ((↑(List.length x.1.2.2.2.2.2.2.2.1) : Int) ≤ 60), ()) else some (false, ()) else some (false, ()) else some (false, ()) else some (false, ()) else
  some (false, ())

noncomputable def spec_IsValidTransaction_Ent : Ent := ⟨96, spec_IsValidTransaction_ti, spec_IsValidTransaction_to, spec_IsValidTransaction_S⟩

theorem spec_IsValidTransaction_HC : CfgOK Go.Proofs.Try.prog spec_IsValidTransaction_C := ⟨⟨info_ok g_tisOK⟩, (all_cons spec_l1In_OK (all_cons spec_l5Before_OK all_nil)), g_wide⟩

theorem spec_IsValidTransaction_lk8 : ∀ F, ((spec_IsValidTransaction_C).ann.find? fun x => x.1 == firstId ((loopsOf (codeOf Go.Proofs.Try.f96)).getD 1 .skip)).map (·.2) = some F → LoopOK Go.Proofs.Try.prog spec_IsValidTransaction_C.lent ((loopsOf (codeOf Go.Proofs.Try.f96)).getD 1 .skip) F := by
  refine lookup_ok (show ((spec_IsValidTransaction_C).ann.find? fun x => x.1 == firstId ((loopsOf (codeOf Go.Proofs.Try.f96)).getD 1 .skip)).map (·.2) = some spec_IsValidTransaction_F8 from by kernel_rfl) ?_
  exact loop_ok spec_IsValidTransaction_HC (loops_all 0 (by kernel_rfl) (fun k hk => absurd hk (Nat.not_lt_zero k))) spec_IsValidTransaction_T8 [1, 2] spec_IsValidTransaction_M8 spec_IsValidTransaction_P8 (fun x => rfl) spec_IsValidTransaction_D8 spec_IsValidTransaction_D8_nat spec_IsValidTransaction_E8 spec_IsValidTransaction_K8 (fun i p R K => by rcases p with p | p | p | p <;> rfl) (fun i v => by kernel_rfl)

theorem spec_IsValidTransaction_lk2 : ∀ F, ((spec_IsValidTransaction_C).ann.find? fun x => x.1 == firstId ((loopsOf (codeOf Go.Proofs.Try.f96)).getD 0 .skip)).map (·.2) = some F → LoopOK Go.Proofs.Try.prog spec_IsValidTransaction_C.lent ((loopsOf (codeOf Go.Proofs.Try.f96)).getD 0 .skip) F := by
  refine lookup_ok (show ((spec_IsValidTransaction_C).ann.find? fun x => x.1 == firstId ((loopsOf (codeOf Go.Proofs.Try.f96)).getD 0 .skip)).map (·.2) = some spec_IsValidTransaction_F2 from by kernel_rfl) ?_
  exact loop_ok spec_IsValidTransaction_HC (loops_all 0 (by kernel_rfl) (fun k hk => absurd hk (Nat.not_lt_zero k))) spec_IsValidTransaction_T2 [1, 2] spec_IsValidTransaction_M2 spec_IsValidTransaction_P2 (fun x => rfl) spec_IsValidTransaction_D2 spec_IsValidTransaction_D2_nat spec_IsValidTransaction_E2 spec_IsValidTransaction_K2 (fun i p R K => by rcases p with p | p | p | p <;> rfl) (fun i v => by kernel_rfl)

theorem spec_IsValidTransaction_VC (x : den spec_IsValidTransaction_ti.ty) : vcall spec_IsValidTransaction_C Go.Proofs.Try.f96 spec_IsValidTransaction_ti spec_IsValidTransaction_to x = spec_IsValidTransaction_S x := by kernel_rfl

theorem spec_IsValidTransaction_OK : EntOK Go.Proofs.Try.prog spec_IsValidTransaction_Ent := EntOK.of_vcall spec_IsValidTransaction_HC Go.Proofs.Try.func96 (body_loops (by kernel_rfl) (loops_all 2 (by kernel_rfl) (fun k hk => match k, hk with | 0, _ => spec_IsValidTransaction_lk2 | 1, _ => spec_IsValidTransaction_lk8))) (by kernel_rfl) (by kernel_rfl) spec_IsValidTransaction_VC

/-! spec.FindVersion -/

noncomputable def spec_FindVersion_D2 (i : List (Int × Int × Int × Int × Int × Unit) × Int × Unit) (v : Int × Unit) (R : Type) (K : Int × Unit ⊕ Int × Unit ⊕ Unit → Option R) : Option R :=
  bif decide (v.1 < (↑(List.length i.1) : Int)) then Option.bind (lAt i.1 v.1) fun v_1 => bif v_1.2.2.1 == i.2.1 then K (Sum.inr (Sum.inl (v.1, ()))) else K (Sum.inl (IntKind.wrap IntKind.i64 (v.1 + 1), ())) else K (Sum.inr (Sum.inr ()))

theorem spec_FindVersion_D2_nat (i : List (Int × Int × Int × Int × Int × Unit) × Int × Unit) (v : Int × Unit) (R : Type) (K : Int × Unit ⊕ Int × Unit ⊕ Unit → Option R) : spec_FindVersion_D2 i v R K = (spec_FindVersion_D2 i v _ some).bind K := nat_bif (nat_bind fun _ => nat_bif (nat_some) (nat_some)) (nat_some)

def spec_FindVersion_T2 : Tmpl := Tmpl.mk (TmL.slot (Ty.slice YVersion) (TmL.slot Ty.i (TmL.junk
  (TmL.junk (TmL.junk (TmL.slot Ty.i (TmL.junk (TmL.junk (TmL.junk (TmL.junk (TmL.junk (TmL.junk (TmL.junk (TmL.junk (TmL.junk (TmL.junk (TmL.junk (TmL.junk (TmL.junk (TmL.junk TmL.nil)))))))))))))))))))) TmH.nil

def spec_FindVersion_X2_0 (i : List (Int × Int × Int × Int × Int × Unit) × Int × Unit) (p : Int × Unit) : St :=
  St.mk [AV.junk, AV.junk, AV.junk, AV.junk, AV.pv Ty.i p.1, AV.junk, AV.junk, AV.junk, AV.junk, AV.junk, AV.junk, AV.junk, AV.junk, AV.junk, AV.junk, AV.junk, AV.junk, AV.junk, AV.junk, AV.junk] []

def spec_FindVersion_X2_1 (i : List (Int × Int × Int × Int × Int × Unit) × Int × Unit) (p : Unit) : St :=
  St.mk [AV.junk, AV.junk, AV.junk, AV.junk, AV.junk, AV.junk, AV.junk, AV.junk, AV.junk, AV.junk, AV.junk, AV.junk, AV.junk, AV.junk, AV.junk, AV.junk, AV.junk, AV.junk, AV.junk, AV.junk] []

noncomputable def spec_FindVersion_E2 (i : List (Int × Int × Int × Int × Int × Unit) × Int × Unit) (p : Int × Unit ⊕ Unit) (R : Type) (K : Ex → St → Option R) : Option R := sumC p (fun p => K (Ex.ret) (spec_FindVersion_X2_0 i p)) (fun p => K (Ex.exit 0) (spec_FindVersion_X2_1 i p))

noncomputable def spec_FindVersion_K2 (i : List (Int × Int × Int × Int × Int × Unit) × Int × Unit) (p : Int × Unit ⊕ Unit) : Ex × St := sumC p (fun p => ((Ex.ret), spec_FindVersion_X2_0 i p)) (fun p => ((Ex.exit 0), spec_FindVersion_X2_1 i p))

def spec_FindVersion_M2 (i : List (Int × Int × Int × Int × Int × Unit) × Int × Unit) (v : Int × Unit) : den spec_FindVersion_T2.ty := (i.1, i.2.1, v.1, ())

def spec_FindVersion_P2 (x : den spec_FindVersion_T2.ty) : (List (Int × Int × Int × Int × Int × Unit) × Int × Unit) × (Int × Unit) := ((x.1, x.2.1, ()), (x.2.2.1, ()))

noncomputable def spec_FindVersion_F2 : LoopFn := fun s R K => Tmpl.readS spec_FindVersion_T2 0 s fun x => (iter (fun v => spec_FindVersion_D2 (spec_FindVersion_P2 x).1 v _ some) (spec_FindVersion_P2 x).2).bind fun p => spec_FindVersion_E2 (spec_FindVersion_P2 x).1 p R K

noncomputable def spec_FindVersion_C : Cfg := { ti := g_tis, ents := [], ann := [(2, spec_FindVersion_F2)], lent := 0 }

def spec_FindVersion_ti : Tmpl := Tmpl.mk (TmL.slot (Ty.slice YVersion) (TmL.slot Ty.i TmL.nil)) TmH.nil

def spec_FindVersion_to : Tmpl := Tmpl.mk (TmL.slot Ty.i TmL.nil) TmH.nil

noncomputable def spec_FindVersion_S (x : List (Int × Int × Int × Int × Int × Unit) × Int × Unit) : Option (Int × Unit) :=
  Option.bind (iter (fun v => spec_FindVersion_D2 (x.1, x.2.1, ()) v (Int × Unit ⊕ Int × Unit ⊕ Unit) some) (0, ())) fun p => sumC p (fun p => some (p.1, ())) fun p => some (-1, ())

noncomputable def spec_FindVersion_Ent : Ent := ⟨98, spec_FindVersion_ti, spec_FindVersion_to, spec_FindVersion_S⟩

theorem spec_FindVersion_HC : CfgOK Go.Proofs.Try.prog spec_FindVersion_C := ⟨⟨info_ok g_tisOK⟩, all_nil, g_wide⟩

theorem spec_FindVersion_lk2 : ∀ F, ((spec_FindVersion_C).ann.find? fun x => x.1 == firstId ((loopsOf (codeOf Go.Proofs.Try.f98)).getD 0 .skip)).map (·.2) = some F → LoopOK Go.Proofs.Try.prog spec_FindVersion_C.lent ((loopsOf (codeOf Go.Proofs.Try.f98)).getD 0 .skip) F := by
  refine lookup_ok (show ((spec_FindVersion_C).ann.find? fun x => x.1 == firstId ((loopsOf (codeOf Go.Proofs.Try.f98)).getD 0 .skip)).map (·.2) = some spec_FindVersion_F2 from by kernel_rfl) ?_
  exact loop_ok spec_FindVersion_HC (loops_all 0 (by kernel_rfl) (fun k hk => absurd hk (Nat.not_lt_zero k))) spec_FindVersion_T2 [4] spec_FindVersion_M2 spec_FindVersion_P2 (fun x => rfl) spec_FindVersion_D2 spec_FindVersion_D2_nat spec_FindVersion_E2 spec_FindVersion_K2 (fun i p R K => by rcases p with p | p <;> rfl) (fun i v => by kernel_rfl)

theorem spec_FindVersion_VC (x : den spec_FindVersion_ti.ty) : vcall spec_FindVersion_C Go.Proofs.Try.f98 spec_FindVersion_ti spec_FindVersion_to x = spec_FindVersion_S x := by kernel_rfl

theorem spec_FindVersion_OK : EntOK Go.Proofs.Try.prog spec_FindVersion_Ent := EntOK.of_vcall spec_FindVersion_HC Go.Proofs.Try.func98 (body_loops (by kernel_rfl) (loops_all 1 (by kernel_rfl) (fun k hk => match k, hk with | 0, _ => spec_FindVersion_lk2))) (by kernel_rfl) (by kernel_rfl) spec_FindVersion_VC

/-! spec.ReadsExist -/

noncomputable def spec_ReadsExist_D4 (i : List (List (Int × Int × Int × Int × Int × Unit)) × Int × Int × Int × Int × Int × Int × Int × List (Int × Int × Unit) × List (Int × Int × Unit) × Unit) (v : Int × Unit) (R : Type) (K : Int × Unit ⊕ Unit ⊕ Unit → Option R) : Option R :=
  bif decide (v.1 < (↑(List.length i.2.2.2.2.2.2.2.2.1) : Int)) then Option.bind (lAt i.2.2.2.2.2.2.2.2.1 v.1) fun v_1 => Option.bind (lAt i.1 v_1.1) fun v_2 => Option.bind (lAt i.2.2.2.2.2.2.2.2.1 v.1) fun v_3 => Option.bind
  (spec_FindVersion_S (v_2, v_3.2.1, ())) fun v_4 => bif decide (v_4.1 < 0) then K (Sum.inr (Sum.inl ())) else K (Sum.inl (IntKind.wrap IntKind.i64 (v.1 + 1), ())) else K (Sum.inr (Sum.inr ()))

theorem spec_ReadsExist_D4_nat (i : List (List (Int × Int × Int × Int × Int × Unit)) × Int × Int × Int × Int × Int × Int × Int × List (Int × Int × Unit) × List (Int × Int × Unit) × Unit) (v : Int × Unit) (R : Type) (K : Int × Unit ⊕ Unit ⊕ Unit → Option R) : spec_ReadsExist_D4 i v R K = (spec_ReadsExist_D4 i v _ some).bind K := nat_bif (nat_bind fun _ => nat_bind fun _ => nat_bind fun _ => nat_bind fun _ => nat_bif (nat_some) (nat_some)) (nat_some)

def spec_ReadsExist_T4 : Tmpl := Tmpl.mk (TmL.junk (TmL.junk (TmL.ptr 0 0 0 (TmL.ptr 1 0 0 (TmL.junk (TmL.slot Ty.i (TmL.junk (TmL.junk (TmL.junk (TmL.junk (TmL.junk (TmL.junk (TmL.junk (TmL.junk (TmL.junk (TmL.junk (TmL.junk (TmL.junk (TmL.junk (TmL.junk
  (TmL.junk (TmL.junk (TmL.junk (TmL.junk (TmL.junk (TmL.junk (TmL.junk (TmL.junk (TmL.junk (TmL.junk (TmL.junk (TmL.junk (TmL.junk (TmL.junk (TmL.junk (TmL.junk (TmL.junk (TmL.junk (TmL.junk TmL.nil)))))))))))))))))))))))))))))))))))))))
  (TmH.cells 1 (TmL.slot (Ty.slice (Ty.slice YVersion)) TmL.nil) (TmH.cells 9 (TmL.slot
  Ty.i (TmL.slot Ty.i (TmL.slot Ty.i (TmL.slot Ty.i (TmL.slot Ty.i (TmL.slot Ty.i (TmL.slot Ty.i (TmL.slot (Ty.slice (Ty.prod
  Ty.i (Ty.prod Ty.i Ty.unit))) (TmL.slot (Ty.slice YReadMark) TmL.nil))))))))) TmH.nil))

def spec_ReadsExist_X4_0 (i : List (List (Int × Int × Int × Int × Int × Unit)) × Int × Int × Int × Int × Int × Int × Int × List (Int × Int × Unit) × List (Int × Int × Unit) × Unit) (p : Unit) : St :=
  St.mk [AV.junk, AV.junk, AV.junk, AV.junk, AV.pv Ty.bool false, AV.junk, AV.junk, AV.junk, AV.junk, AV.junk, AV.junk, AV.junk, AV.junk, AV.junk, AV.junk, AV.junk, AV.junk, AV.junk, AV.junk, AV.junk, AV.junk, AV.junk, AV.junk, AV.junk,
  AV.junk, AV.junk, AV.junk, AV.junk, AV.junk, AV.junk, AV.junk, AV.junk, AV.junk, AV.junk, AV.junk, AV.junk, AV.junk, AV.junk, AV.junk] [some (Cont.cells 1 [[AV.pv (Ty.slice (Ty.slice (Ty.prod Ty.i (Ty.prod (Ty.int
  IntKind.i64) (Ty.prod Ty.i YReadMark))))) i.1]]), some (Cont.cells 9 [[AV.pv Ty.i i.2.1, AV.pv Ty.i i.2.2.1, AV.pv (Ty.int
  IntKind.i64) i.2.2.2.1, AV.pv Ty.i i.2.2.2.2.1, AV.pv Ty.i i.2.2.2.2.2.1, AV.pv Ty.i i.2.2.2.2.2.2.1, AV.pv Ty.i i.2.2.2.2.2.2.2.1, AV.pv (Ty.slice (Ty.prod Ty.i
  (Ty.prod Ty.i Ty.unit))) i.2.2.2.2.2.2.2.2.1, AV.pv (Ty.slice YReadMark) i.2.2.2.2.2.2.2.2.2.1]])]

def spec_ReadsExist_X4_1 (i : List (List (Int × Int × Int × Int × Int × Unit)) × Int × Int × Int × Int × Int × Int × Int × List (Int × Int × Unit) × List (Int × Int × Unit) × Unit) (p : Unit) : St :=
  St.mk [AV.junk, AV.junk, AV.junk, AV.junk, AV.junk, AV.junk, AV.junk, AV.junk, AV.junk, AV.junk, AV.junk, AV.junk, AV.junk, AV.junk, AV.junk, AV.junk, AV.junk, AV.junk, AV.junk, AV.junk, AV.junk, AV.junk, AV.junk, AV.junk, AV.junk, AV.junk,
  AV.junk, AV.junk, AV.junk, AV.junk, AV.junk, AV.junk, AV.junk, AV.junk, AV.junk, AV.junk, AV.junk, AV.junk, AV.junk] [some (Cont.cells 1 [[AV.pv (Ty.slice (Ty.slice (Ty.prod Ty.i (Ty.prod Ty.i (Ty.prod (Ty.int
  IntKind.i64) YReadMark))))) i.1]]), some (Cont.cells 9 [[AV.pv Ty.i i.2.1, AV.pv Ty.i i.2.2.1, AV.pv Ty.i i.2.2.2.1, AV.pv (Ty.int
  IntKind.i64) i.2.2.2.2.1, AV.pv Ty.i i.2.2.2.2.2.1, AV.pv Ty.i i.2.2.2.2.2.2.1, AV.pv Ty.i i.2.2.2.2.2.2.2.1, AV.pv (Ty.slice (Ty.prod Ty.i (Ty.prod Ty.i
  Ty.unit))) i.2.2.2.2.2.2.2.2.1, AV.pv (Ty.slice YReadMark) i.2.2.2.2.2.2.2.2.2.1]])]

noncomputable def spec_ReadsExist_E4 (i : List (List (Int × Int × Int × Int × Int × Unit)) × Int × Int × Int × Int × Int × Int × Int × List (Int × Int × Unit) × List (Int × Int × Unit) × Unit) (p : Unit ⊕ Unit) (R : Type) (K : Ex → St → Option R) : Option R := sumC p (fun p => K (Ex.ret) (spec_ReadsExist_X4_0 i p)) (fun p => K (Ex.exit 0) (spec_ReadsExist_X4_1 i p))

noncomputable def spec_ReadsExist_K4 (i : List (List (Int × Int × Int × Int × Int × Unit)) × Int × Int × Int × Int × Int × Int × Int × List (Int × Int × Unit) × List (Int × Int × Unit) × Unit) (p : Unit ⊕ Unit) : Ex × St := sumC p (fun p => ((Ex.ret), spec_ReadsExist_X4_0 i p)) (fun p => ((Ex.exit 0), spec_ReadsExist_X4_1 i p))

def spec_ReadsExist_M4 (i : List (List (Int × Int × Int × Int × Int × Unit)) × Int × Int × Int × Int × Int × Int × Int × List (Int × Int × Unit) × List (Int × Int × Unit) × Unit) (v : Int × Unit) : den spec_ReadsExist_T4.ty := (v.1, i.1, i.2.1, i.2.2.1, i.2.2.2.1, i.2.2.2.2.1, i.2.2.2.2.2.1, i.2.2.2.2.2.2.1, i.2.2.2.2.2.2.2.1, i.2.2.2.2.2.2.2.2.1, i.2.2.2.2.2.2.2.2.2.1, ())

def spec_ReadsExist_P4 (x : den spec_ReadsExist_T4.ty) : (List (List (Int × Int × Int × Int × Int × Unit)) × Int × Int × Int × Int × Int × Int × Int × List (Int × Int × Unit) × List (Int × Int × Unit) × Unit) × (Int × Unit) := ((x.2.1, x.2.2.1, x.2.2.2.1, x.2.2.2.2.1, x.2.2.2.2.2.1, x.2.2.2.2.2.2.1, x.2.2.2.2.2.2.2.1, x.2.2.2.2.2.2.2.2.1, x.2.2.2.2.2.2.2.2.2.1, x.2.2.2.2.2.2.2.2.2.2.1, ()), (x.1, ()))

noncomputable def spec_ReadsExist_F4 : LoopFn := fun s R K => Tmpl.readS spec_ReadsExist_T4 0 s fun x => (iter (fun v => spec_ReadsExist_D4 (spec_ReadsExist_P4 x).1 v _ some) (spec_ReadsExist_P4 x).2).bind fun p => spec_ReadsExist_E4 (spec_ReadsExist_P4 x).1 p R K

noncomputable def spec_ReadsExist_C : Cfg := { ti := g_tis, ents := [spec_IsValidStore_Ent, spec_IsValidTransaction_Ent, spec_FindVersion_Ent], ann := [(4, spec_ReadsExist_F4)], lent := 0 }

def spec_ReadsExist_ti : Tmpl := Tmpl.mk (TmL.slot YStore (TmL.slot (Ty.prod
  Ty.i (Ty.prod Ty.i (Ty.prod Ty.i (Ty.prod Ty.i (Ty.prod Ty.i (Ty.prod Ty.i (Ty.prod Ty.i (Ty.prod (Ty.slice (Ty.prod (Ty.int
  IntKind.i64) (Ty.prod Ty.i Ty.unit))) (Ty.prod (Ty.slice YReadMark) Ty.unit))))))))) TmL.nil)) TmH.nil

def spec_ReadsExist_to : Tmpl := Tmpl.mk (TmL.slot Ty.bool TmL.nil) TmH.nil

noncomputable def spec_ReadsExist_S (x : (List (List (Int × Int × Int × Int × Int × Unit)) × Unit) × (Int × Int × Int × Int × Int × Int × Int × List (Int × Int × Unit) × List (Int × Int × Unit) × Unit) × Unit) : Option (Bool × Unit) :=
  Option.bind (spec_IsValidStore_S ((x.1.1, ()), ())) fun v => bif !v.1 then some (false, ()) else Option.bind (spec_IsValidTransaction_S ((x.2.1.1, x.2.1.2.1, x.2.1.2.2.1, x.2.1.2.2.2.1, x.2.1.2.2.2.2.1, x.2.1.2.2.2.2.2.1,
  x.2.1.2.2.2.2.2.2.1, x.2.1.2.2.2.2.2.2.2.1, x.2.1.2.2.2.2.2.2.2.2.1, ()), ())) fun v => bif !v.1 then some (false, ()) else Option.bind (iter (fun v => spec_ReadsExist_D4 (x.1.1, x.2.1.1, x.2.1.2.1, x.2.1.2.2.1, x.2.1.2.2.2.1,
  x.2.1.2.2.2.2.1, x.2.1.2.2.2.2.2.1, x.2.1.2.2.2.2.2.2.1, x.2.1.2.2.2.2.2.2.2.1, x.2.1.2.2.2.2.2.2.2.2.1, ()) v (Int × Unit ⊕ Unit ⊕ Unit) some) (0, ())) fun p => sumC p (fun p => some (false, ())) fun p => some (true, ())

noncomputable def spec_ReadsExist_Ent : Ent := ⟨59, spec_ReadsExist_ti, spec_ReadsExist_to, spec_ReadsExist_S⟩

theorem spec_ReadsExist_HC : CfgOK Go.Proofs.Try.prog spec_ReadsExist_C := ⟨⟨info_ok g_tisOK⟩, (all_cons spec_IsValidStore_OK (all_cons spec_IsValidTransaction_OK (all_cons spec_FindVersion_OK all_nil))), g_wide⟩

theorem spec_ReadsExist_lk4 : ∀ F, ((spec_ReadsExist_C).ann.find? fun x => x.1 == firstId ((loopsOf (codeOf Go.Proofs.Try.f59)).getD 0 .skip)).map (·.2) = some F → LoopOK Go.Proofs.Try.prog spec_ReadsExist_C.lent ((loopsOf (codeOf Go.Proofs.Try.f59)).getD 0 .skip) F := by
  refine lookup_ok (show ((spec_ReadsExist_C).ann.find? fun x => x.1 == firstId ((loopsOf (codeOf Go.Proofs.Try.f59)).getD 0 .skip)).map (·.2) = some spec_ReadsExist_F4 from by kernel_rfl) ?_
  exact loop_ok spec_ReadsExist_HC (loops_all 0 (by kernel_rfl) (fun k hk => absurd hk (Nat.not_lt_zero k))) spec_ReadsExist_T4 [4] spec_ReadsExist_M4 spec_ReadsExist_P4 (fun x => rfl) spec_ReadsExist_D4 spec_ReadsExist_D4_nat spec_ReadsExist_E4 spec_ReadsExist_K4 (fun i p R K => by rcases p with p | p <;> rfl) (fun i v => by kernel_rfl)

theorem spec_ReadsExist_VC (x : den spec_ReadsExist_ti.ty) : vcall spec_ReadsExist_C Go.Proofs.Try.f59 spec_ReadsExist_ti spec_ReadsExist_to x = spec_ReadsExist_S x := by kernel_rfl

theorem spec_ReadsExist_OK : EntOK Go.Proofs.Try.prog spec_ReadsExist_Ent := EntOK.of_vcall spec_ReadsExist_HC Go.Proofs.Try.func59 (body_loops (by kernel_rfl) (loops_all 1 (by kernel_rfl) (fun k hk => match k, hk with | 0, _ => spec_ReadsExist_lk4))) (by kernel_rfl) (by kernel_rfl) spec_ReadsExist_VC

/-! impl.IsStamp -/

noncomputable def impl_IsStamp_C : Cfg := { ti := g_tis, ents := [impl_in_Ent], ann := [], lent := 0 }

def impl_IsStamp_ti : Tmpl := Tmpl.mk (TmL.slot Ty.i TmL.nil) TmH.nil

def impl_IsStamp_to : Tmpl := Tmpl.mk (TmL.slot Ty.bool TmL.nil) TmH.nil

noncomputable def impl_IsStamp_S (x : Int × Unit) : Option (Bool × Unit) :=
  Option.bind (impl_in_S (x.1, 1, 999, ())) fun v => some (v.1, ())

noncomputable def impl_IsStamp_Ent : Ent := ⟨107, impl_IsStamp_ti, impl_IsStamp_to, impl_IsStamp_S⟩

theorem impl_IsStamp_HC : CfgOK Go.Proofs.Try.prog impl_IsStamp_C := ⟨⟨info_ok g_tisOK⟩, (all_cons impl_in_OK all_nil), g_wide⟩

theorem impl_IsStamp_VC (x : den impl_IsStamp_ti.ty) : vcall impl_IsStamp_C Go.Proofs.Try.f107 impl_IsStamp_ti impl_IsStamp_to x = impl_IsStamp_S x := by kernel_rfl

theorem impl_IsStamp_OK : EntOK Go.Proofs.Try.prog impl_IsStamp_Ent := EntOK.of_vcall impl_IsStamp_HC Go.Proofs.Try.func107 (body_loops (by kernel_rfl) (loops_all 0 (by kernel_rfl) (fun k hk => absurd hk (Nat.not_lt_zero k)))) (by kernel_rfl) (by kernel_rfl) impl_IsStamp_VC

/-! cmp.isNaN[int] -/

noncomputable def cmp_isNaN_int_C : Cfg := { ti := g_tis, ents := [], ann := [], lent := 0 }

def cmp_isNaN_int_ti : Tmpl := Tmpl.mk (TmL.slot Ty.i TmL.nil) TmH.nil

def cmp_isNaN_int_to : Tmpl := Tmpl.mk (TmL.slot Ty.bool TmL.nil) TmH.nil

noncomputable def cmp_isNaN_int_S (x : Int × Unit) : Option (Bool × Unit) :=
  some (x.1 != x.1, ())

noncomputable def cmp_isNaN_int_Ent : Ent := ⟨160, cmp_isNaN_int_ti, cmp_isNaN_int_to, cmp_isNaN_int_S⟩

theorem cmp_isNaN_int_HC : CfgOK Go.Proofs.Try.prog cmp_isNaN_int_C := ⟨⟨info_ok g_tisOK⟩, all_nil, g_wide⟩

theorem cmp_isNaN_int_VC (x : den cmp_isNaN_int_ti.ty) : vcall cmp_isNaN_int_C Go.Proofs.Try.f160 cmp_isNaN_int_ti cmp_isNaN_int_to x = cmp_isNaN_int_S x := by kernel_rfl

theorem cmp_isNaN_int_OK : EntOK Go.Proofs.Try.prog cmp_isNaN_int_Ent := EntOK.of_vcall cmp_isNaN_int_HC Go.Proofs.Try.func160 (body_loops (by kernel_rfl) (loops_all 0 (by kernel_rfl) (fun k hk => absurd hk (Nat.not_lt_zero k)))) (by kernel_rfl) (by kernel_rfl) cmp_isNaN_int_VC

/-! cmp.Compare[int] -/

noncomputable def cmp_Compare_int_C : Cfg := { ti := g_tis, ents := [cmp_isNaN_int_Ent], ann := [], lent := 0 }

def cmp_Compare_int_ti : Tmpl := Tmpl.mk (TmL.slot Ty.i (TmL.slot Ty.i TmL.nil)) TmH.nil

def cmp_Compare_int_to : Tmpl := Tmpl.mk (TmL.slot Ty.i TmL.nil) TmH.nil

noncomputable def cmp_Compare_int_S (x : Int × Int × Unit) : Option (Int × Unit) :=
  Option.bind (cmp_isNaN_int_S (x.1, ())) fun v => Option.bind (cmp_isNaN_int_S (x.2.1, ())) fun v_1 => bif v.1 then bif v_1.1 then some (0, ()) else some (-1, ()) else bif v_1.1 then some (1, ()) else bif decide (x.1 < x.2.1) then some (-1,
  ()) else bif decide (x.1 > x.2.1) then some (1, ()) else some (0, ())

noncomputable def cmp_Compare_int_Ent : Ent := ⟨156, cmp_Compare_int_ti, cmp_Compare_int_to, cmp_Compare_int_S⟩

theorem cmp_Compare_int_HC : CfgOK Go.Proofs.Try.prog cmp_Compare_int_C := ⟨⟨info_ok g_tisOK⟩, (all_cons cmp_isNaN_int_OK all_nil), g_wide⟩

theorem cmp_Compare_int_VC (x : den cmp_Compare_int_ti.ty) : vcall cmp_Compare_int_C Go.Proofs.Try.f156 cmp_Compare_int_ti cmp_Compare_int_to x = cmp_Compare_int_S x := by kernel_rfl

theorem cmp_Compare_int_OK : EntOK Go.Proofs.Try.prog cmp_Compare_int_Ent := EntOK.of_vcall cmp_Compare_int_HC Go.Proofs.Try.func156 (body_loops (by kernel_rfl) (loops_all 0 (by kernel_rfl) (fun k hk => absurd hk (Nat.not_lt_zero k)))) (by kernel_rfl) (by kernel_rfl) cmp_Compare_int_VC

/-! cmp.Or[int] -/

noncomputable def cmp_Or_int_D3 (i : Int × List Int × Int × Unit) (v : Int × Unit) (R : Type) (K : Int × Unit ⊕ Int × Unit ⊕ Unit → Option R) : Option R :=
  bif decide (v.1 < i.2.2.1) then Option.bind (lAt i.2.1 v.1) fun v_1 => bif v_1 != i.1 then K (Sum.inr (Sum.inl (v_1, ()))) else K (Sum.inl (IntKind.wrap IntKind.i64 (v.1 + 1), ())) else K (Sum.inr (Sum.inr ()))

theorem cmp_Or_int_D3_nat (i : Int × List Int × Int × Unit) (v : Int × Unit) (R : Type) (K : Int × Unit ⊕ Int × Unit ⊕ Unit → Option R) : cmp_Or_int_D3 i v R K = (cmp_Or_int_D3 i v _ some).bind K := nat_bif (nat_bind fun _ => nat_bif (nat_some) (nat_some)) (nat_some)

def cmp_Or_int_T3 : Tmpl := Tmpl.mk (TmL.junk (TmL.junk (TmL.junk (TmL.slot Ty.i (TmL.junk (TmL.junk (TmL.slot (Ty.slice Ty.i) (TmL.slot Ty.i (TmL.slot Ty.i (TmL.junk (TmL.junk (TmL.junk (TmL.junk
  (TmL.junk (TmL.junk (TmL.junk (TmL.junk (TmL.junk TmL.nil)))))))))))))))))) TmH.nil

def cmp_Or_int_X3_0 (i : Int × List Int × Int × Unit) (p : Int × Unit) : St :=
  St.mk [AV.junk, AV.junk, AV.pv Ty.i p.1, AV.pv Ty.i i.1, AV.junk, AV.junk, AV.junk, AV.junk, AV.junk, AV.junk, AV.junk, AV.junk, AV.junk, AV.junk, AV.junk, AV.junk, AV.junk, AV.junk] []

def cmp_Or_int_X3_1 (i : Int × List Int × Int × Unit) (p : Unit) : St :=
  St.mk [AV.junk, AV.junk, AV.junk, AV.pv Ty.i i.1, AV.junk, AV.junk, AV.junk, AV.junk, AV.junk, AV.junk, AV.junk, AV.junk, AV.junk, AV.junk, AV.junk, AV.junk, AV.junk, AV.junk] []

noncomputable def cmp_Or_int_E3 (i : Int × List Int × Int × Unit) (p : Int × Unit ⊕ Unit) (R : Type) (K : Ex → St → Option R) : Option R := sumC p (fun p => K (Ex.ret) (cmp_Or_int_X3_0 i p)) (fun p => K (Ex.exit 0) (cmp_Or_int_X3_1 i p))

noncomputable def cmp_Or_int_K3 (i : Int × List Int × Int × Unit) (p : Int × Unit ⊕ Unit) : Ex × St := sumC p (fun p => ((Ex.ret), cmp_Or_int_X3_0 i p)) (fun p => ((Ex.exit 0), cmp_Or_int_X3_1 i p))

def cmp_Or_int_M3 (i : Int × List Int × Int × Unit) (v : Int × Unit) : den cmp_Or_int_T3.ty := (i.1, i.2.1, i.2.2.1, v.1, ())

def cmp_Or_int_P3 (x : den cmp_Or_int_T3.ty) : (Int × List Int × Int × Unit) × (Int × Unit) := ((x.1, x.2.1, x.2.2.1, ()), (x.2.2.2.1, ()))

noncomputable def cmp_Or_int_F3 : LoopFn := fun s R K => Tmpl.readS cmp_Or_int_T3 0 s fun x => (iter (fun v => cmp_Or_int_D3 (cmp_Or_int_P3 x).1 v _ some) (cmp_Or_int_P3 x).2).bind fun p => cmp_Or_int_E3 (cmp_Or_int_P3 x).1 p R K

noncomputable def cmp_Or_int_C : Cfg := { ti := g_tis, ents := [], ann := [(3, cmp_Or_int_F3)], lent := 0 }

def cmp_Or_int_ti : Tmpl := Tmpl.mk (TmL.slot (Ty.slice Ty.i) TmL.nil) TmH.nil

def cmp_Or_int_to : Tmpl := Tmpl.mk (TmL.slot Ty.i TmL.nil) TmH.nil

noncomputable def cmp_Or_int_S (x : List Int × Unit) : Option (Int × Unit) :=
  Option.bind (iter (fun v => cmp_Or_int_D3 (0, x.1, (↑(List.length x.1) : Int), ()) v (Int × Unit ⊕ Int × Unit ⊕ Unit) some) (0, ())) fun p => sumC p (fun p => some (p.1, ())) fun p => some (0, ())

noncomputable def cmp_Or_int_Ent : Ent := ⟨155, cmp_Or_int_ti, cmp_Or_int_to, cmp_Or_int_S⟩

theorem cmp_Or_int_HC : CfgOK Go.Proofs.Try.prog cmp_Or_int_C := ⟨⟨info_ok g_tisOK⟩, all_nil, g_wide⟩

theorem cmp_Or_int_lk3 : ∀ F, ((cmp_Or_int_C).ann.find? fun x => x.1 == firstId ((loopsOf (codeOf Go.Proofs.Try.f155)).getD 0 .skip)).map (·.2) = some F → LoopOK Go.Proofs.Try.prog cmp_Or_int_C.lent ((loopsOf (codeOf Go.Proofs.Try.f155)).getD 0 .skip) F := by
  refine lookup_ok (show ((cmp_Or_int_C).ann.find? fun x => x.1 == firstId ((loopsOf (codeOf Go.Proofs.Try.f155)).getD 0 .skip)).map (·.2) = some cmp_Or_int_F3 from by kernel_rfl) ?_
  exact loop_ok cmp_Or_int_HC (loops_all 0 (by kernel_rfl) (fun k hk => absurd hk (Nat.not_lt_zero k))) cmp_Or_int_T3 [2, 3] cmp_Or_int_M3 cmp_Or_int_P3 (fun x => rfl) cmp_Or_int_D3 cmp_Or_int_D3_nat cmp_Or_int_E3 cmp_Or_int_K3 (fun i p R K => by rcases p with p | p <;> rfl) (fun i v => by kernel_rfl)

theorem cmp_Or_int_VC (x : den cmp_Or_int_ti.ty) : vcall cmp_Or_int_C Go.Proofs.Try.f155 cmp_Or_int_ti cmp_Or_int_to x = cmp_Or_int_S x := by kernel_rfl

theorem cmp_Or_int_OK : EntOK Go.Proofs.Try.prog cmp_Or_int_Ent := EntOK.of_vcall cmp_Or_int_HC Go.Proofs.Try.func155 (body_loops (by kernel_rfl) (loops_all 1 (by kernel_rfl) (fun k hk => match k, hk with | 0, _ => cmp_Or_int_lk3))) (by kernel_rfl) (by kernel_rfl) cmp_Or_int_VC

/-! impl.compareMarks -/

noncomputable def impl_compareMarks_C : Cfg := { ti := g_tis, ents := [cmp_Compare_int_Ent, cmp_Or_int_Ent], ann := [], lent := 0 }

def impl_compareMarks_ti : Tmpl := Tmpl.mk (TmL.slot YReadMark (TmL.slot YReadMark TmL.nil)) TmH.nil

def impl_compareMarks_to : Tmpl := Tmpl.mk (TmL.slot Ty.i TmL.nil) TmH.nil

noncomputable def impl_compareMarks_S (x : (Int × Int × Unit) × (Int × Int × Unit) × Unit) : Option (Int × Unit) :=
  Option.bind (cmp_Compare_int_S (x.1.1, x.2.1.1, ())) fun v => Option.bind (cmp_Compare_int_S (x.1.2.1, x.2.1.2.1, ())) fun v_1 => Option.bind (cmp_Or_int_S ([v.1, v_1.1], ())) fun v => some (v.1, ())

noncomputable def impl_compareMarks_Ent : Ent := ⟨143, impl_compareMarks_ti, impl_compareMarks_to, impl_compareMarks_S⟩

theorem impl_compareMarks_HC : CfgOK Go.Proofs.Try.prog impl_compareMarks_C := ⟨⟨info_ok g_tisOK⟩, (all_cons cmp_Compare_int_OK (all_cons cmp_Or_int_OK all_nil)), g_wide⟩

theorem impl_compareMarks_VC (x : den impl_compareMarks_ti.ty) : vcall impl_compareMarks_C Go.Proofs.Try.f143 impl_compareMarks_ti impl_compareMarks_to x = impl_compareMarks_S x := by kernel_rfl

theorem impl_compareMarks_OK : EntOK Go.Proofs.Try.prog impl_compareMarks_Ent := EntOK.of_vcall impl_compareMarks_HC Go.Proofs.Try.func143 (body_loops (by kernel_rfl) (loops_all 0 (by kernel_rfl) (fun k hk => absurd hk (Nat.not_lt_zero k)))) (by kernel_rfl) (by kernel_rfl) impl_compareMarks_VC

/-! impl.areReads -/

noncomputable def impl_areReads_D2 (i : List (Int × Int × Unit) × List (Int × Int × Unit) × Int × Unit) (v : Int × Unit) (R : Type) (K : Int × Unit ⊕ Int × Int × Unit ⊕ Int × Int × Unit ⊕ Int × Int × Unit ⊕ Unit → Option R) : Option R :=
  bif decide (v.1 < i.2.2.1) then Option.bind (lAt i.2.1 v.1) fun v_1 => Option.bind (impl_isKey_S (v_1.1, ())) fun v_2 => bif !v_2.1 then K (Sum.inr (Sum.inl (v_1.1, v_1.2.1, ()))) else Option.bind (impl_in_S (v_1.2.1, 0, 999, ())) fun v_3 =>
  bif !v_3.1 then K (Sum.inr (Sum.inr (Sum.inl (v_1.1, v_1.2.1, ())))) else bif decide (v.1 > 0) then Option.bind (lAt i.1 (IntKind.wrap IntKind.i64 (v.1 - 1))) fun v_4 => Option.bind (impl_compareMarks_S ((v_4.1, v_4.2.1, ()), (v_1.1,
  v_1.2.1, ()), ())) fun v_5 => bif decide (v_5.1 ≥ 0) then K (Sum.inr (Sum.inr (Sum.inr (Sum.inl (v_1.1, v_1.2.1, ()))))) else K (Sum.inl (IntKind.wrap IntKind.i64 (v.1 + 1), ())) else K (Sum.inl (IntKind.wrap IntKind.i64 (v.1 + 1), ())) else
  K (Sum.inr (Sum.inr (Sum.inr (Sum.inr ()))))

theorem impl_areReads_D2_nat (i : List (Int × Int × Unit) × List (Int × Int × Unit) × Int × Unit) (v : Int × Unit) (R : Type) (K : Int × Unit ⊕ Int × Int × Unit ⊕ Int × Int × Unit ⊕ Int × Int × Unit ⊕ Unit → Option R) : impl_areReads_D2 i v R K = (impl_areReads_D2 i v _ some).bind K := nat_bif (nat_bind fun _ => nat_bind fun _ => nat_bif (nat_some) (nat_bind fun _ => nat_bif (nat_some) (nat_bif (nat_bind fun _ => nat_bind fun _ => nat_bif (nat_some) (nat_some)) (nat_some)))) (nat_some)

def impl_areReads_T2 : Tmpl := Tmpl.mk (TmL.slot (Ty.slice YReadMark) (TmL.junk (TmL.junk (TmL.junk (TmL.junk (TmL.slot (Ty.slice YReadMark) (TmL.slot
  Ty.i (TmL.slot Ty.i (TmL.junk (TmL.junk (TmL.junk (TmL.junk (TmL.junk (TmL.junk (TmL.junk (TmL.junk (TmL.junk (TmL.junk (TmL.junk (TmL.junk (TmL.junk (TmL.junk (TmL.junk (TmL.junk (TmL.junk (TmL.junk (TmL.junk
  (TmL.junk (TmL.junk (TmL.junk (TmL.junk (TmL.junk (TmL.junk (TmL.junk (TmL.junk (TmL.junk (TmL.junk (TmL.junk (TmL.junk (TmL.junk TmL.nil)))))))))))))))))))))))))))))))))))))))) TmH.nil

def impl_areReads_X2_0 (i : List (Int × Int × Unit) × List (Int × Int × Unit) × Int × Unit) (p : Int × Int × Unit) : St :=
  St.mk [AV.pv (Ty.slice YReadMark) i.1, AV.junk, AV.pv Ty.bool false, AV.junk, AV.junk, AV.junk, AV.junk, AV.junk, AV.junk, AV.junk, AV.junk, AV.junk, AV.junk, AV.junk, AV.junk,
  AV.junk, AV.junk, AV.junk, AV.junk, AV.junk, AV.junk, AV.junk, AV.junk, AV.junk, AV.junk, AV.junk, AV.junk, AV.junk, AV.junk, AV.junk, AV.junk, AV.junk, AV.junk, AV.junk, AV.junk, AV.junk, AV.junk, AV.junk, AV.junk, AV.junk] [some
  (Cont.cells 2 [[AV.pv Ty.i p.1, AV.pv Ty.i p.2.1]])]

def impl_areReads_X2_1 (i : List (Int × Int × Unit) × List (Int × Int × Unit) × Int × Unit) (p : Int × Int × Unit) : St :=
  St.mk [AV.pv (Ty.slice YReadMark) i.1, AV.junk, AV.pv Ty.bool false, AV.junk, AV.junk, AV.junk, AV.junk, AV.junk, AV.junk, AV.junk, AV.junk, AV.junk, AV.junk, AV.junk, AV.junk,
  AV.junk, AV.junk, AV.junk, AV.junk, AV.junk, AV.junk, AV.junk, AV.junk, AV.junk, AV.junk, AV.junk, AV.junk, AV.junk, AV.junk, AV.junk, AV.junk, AV.junk, AV.junk, AV.junk, AV.junk, AV.junk, AV.junk, AV.junk, AV.junk, AV.junk] [some
  (Cont.cells 2 [[AV.pv Ty.i p.1, AV.pv Ty.i p.2.1]])]

def impl_areReads_X2_2 (i : List (Int × Int × Unit) × List (Int × Int × Unit) × Int × Unit) (p : Int × Int × Unit) : St :=
  St.mk [AV.pv (Ty.slice YReadMark) i.1, AV.junk, AV.pv Ty.bool false, AV.junk, AV.junk, AV.junk, AV.junk, AV.junk, AV.junk, AV.junk, AV.junk, AV.junk, AV.junk, AV.junk, AV.junk,
  AV.junk, AV.junk, AV.junk, AV.junk, AV.junk, AV.junk, AV.junk, AV.junk, AV.junk, AV.junk, AV.junk, AV.junk, AV.junk, AV.junk, AV.junk, AV.junk, AV.junk, AV.junk, AV.junk, AV.junk, AV.junk, AV.junk, AV.junk, AV.junk, AV.junk] [some
  (Cont.cells 2 [[AV.pv Ty.i p.1, AV.pv Ty.i p.2.1]])]

def impl_areReads_X2_3 (i : List (Int × Int × Unit) × List (Int × Int × Unit) × Int × Unit) (p : Unit) : St :=
  St.mk [AV.pv (Ty.slice YReadMark) i.1, AV.junk, AV.junk, AV.junk, AV.junk, AV.junk, AV.junk, AV.junk, AV.junk, AV.junk, AV.junk, AV.junk, AV.junk, AV.junk, AV.junk, AV.junk,
  AV.junk, AV.junk, AV.junk, AV.junk, AV.junk, AV.junk, AV.junk, AV.junk, AV.junk, AV.junk, AV.junk, AV.junk, AV.junk, AV.junk, AV.junk, AV.junk, AV.junk, AV.junk, AV.junk, AV.junk, AV.junk, AV.junk, AV.junk, AV.junk] []

noncomputable def impl_areReads_E2 (i : List (Int × Int × Unit) × List (Int × Int × Unit) × Int × Unit) (p : Int × Int × Unit ⊕ Int × Int × Unit ⊕ Int × Int × Unit ⊕ Unit) (R : Type) (K : Ex → St → Option R) : Option R := sumC p (fun p => K (Ex.ret) (impl_areReads_X2_0 i p)) (fun p => sumC p (fun p => K (Ex.ret) (impl_areReads_X2_1 i p)) (fun p => sumC p (fun p => K (Ex.ret) (impl_areReads_X2_2 i p)) (fun p => K (Ex.exit 0) (impl_areReads_X2_3 i p))))

noncomputable def impl_areReads_K2 (i : List (Int × Int × Unit) × List (Int × Int × Unit) × Int × Unit) (p : Int × Int × Unit ⊕ Int × Int × Unit ⊕ Int × Int × Unit ⊕ Unit) : Ex × St := sumC p (fun p => ((Ex.ret), impl_areReads_X2_0 i p)) (fun p => sumC p (fun p => ((Ex.ret), impl_areReads_X2_1 i p)) (fun p => sumC p (fun p => ((Ex.ret), impl_areReads_X2_2 i p)) (fun p => ((Ex.exit 0), impl_areReads_X2_3 i p))))

def impl_areReads_M2 (i : List (Int × Int × Unit) × List (Int × Int × Unit) × Int × Unit) (v : Int × Unit) : den impl_areReads_T2.ty := (i.1, i.2.1, i.2.2.1, v.1, ())

def impl_areReads_P2 (x : den impl_areReads_T2.ty) : (List (Int × Int × Unit) × List (Int × Int × Unit) × Int × Unit) × (Int × Unit) := ((x.1, x.2.1, x.2.2.1, ()), (x.2.2.2.1, ()))

noncomputable def impl_areReads_F2 : LoopFn := fun s R K => Tmpl.readS impl_areReads_T2 0 s fun x => (iter (fun v => impl_areReads_D2 (impl_areReads_P2 x).1 v _ some) (impl_areReads_P2 x).2).bind fun p => impl_areReads_E2 (impl_areReads_P2 x).1 p R K

noncomputable def impl_areReads_C : Cfg := { ti := g_tis, ents := [impl_isKey_Ent, impl_in_Ent, impl_compareMarks_Ent], ann := [(2, impl_areReads_F2)], lent := 0 }

def impl_areReads_ti : Tmpl := Tmpl.mk (TmL.slot (Ty.slice YReadMark) TmL.nil) TmH.nil

def impl_areReads_to : Tmpl := Tmpl.mk (TmL.slot Ty.bool TmL.nil) TmH.nil

noncomputable def impl_areReads_S (x : List (Int × Int × Unit) × Unit) : Option (Bool × Unit) :=
  Option.bind (iter (fun v => impl_areReads_D2 (x.1, x.1, (↑(List.length x.1) : Int), ()) v (Int × Unit ⊕ Int × Int × Unit ⊕ Int × Int × Unit ⊕ Int × Int × Unit ⊕ Unit) some) (0, ())) fun p => sumC p (fun p => some (false, ())) fun p => sumC p
  (fun p => some (false, ())) fun p => sumC p (fun p => some (false, ())) fun p => some (decide ((↑(List.length x.1) : Int) ≤ 60), ())

noncomputable def impl_areReads_Ent : Ent := ⟨108, impl_areReads_ti, impl_areReads_to, impl_areReads_S⟩

theorem impl_areReads_HC : CfgOK Go.Proofs.Try.prog impl_areReads_C := ⟨⟨info_ok g_tisOK⟩, (all_cons impl_isKey_OK (all_cons impl_in_OK (all_cons impl_compareMarks_OK all_nil))), g_wide⟩

theorem impl_areReads_lk2 : ∀ F, ((impl_areReads_C).ann.find? fun x => x.1 == firstId ((loopsOf (codeOf Go.Proofs.Try.f108)).getD 0 .skip)).map (·.2) = some F → LoopOK Go.Proofs.Try.prog impl_areReads_C.lent ((loopsOf (codeOf Go.Proofs.Try.f108)).getD 0 .skip) F := by
  refine lookup_ok (show ((impl_areReads_C).ann.find? fun x => x.1 == firstId ((loopsOf (codeOf Go.Proofs.Try.f108)).getD 0 .skip)).map (·.2) = some impl_areReads_F2 from by kernel_rfl) ?_
  exact loop_ok impl_areReads_HC (loops_all 0 (by kernel_rfl) (fun k hk => absurd hk (Nat.not_lt_zero k))) impl_areReads_T2 [0, 2] impl_areReads_M2 impl_areReads_P2 (fun x => rfl) impl_areReads_D2 impl_areReads_D2_nat impl_areReads_E2 impl_areReads_K2 (fun i p R K => by rcases p with p | p | p | p <;> rfl) (fun i v => by kernel_rfl)

theorem impl_areReads_VC (x : den impl_areReads_ti.ty) : vcall impl_areReads_C Go.Proofs.Try.f108 impl_areReads_ti impl_areReads_to x = impl_areReads_S x := by kernel_rfl

theorem impl_areReads_OK : EntOK Go.Proofs.Try.prog impl_areReads_Ent := EntOK.of_vcall impl_areReads_HC Go.Proofs.Try.func108 (body_loops (by kernel_rfl) (loops_all 1 (by kernel_rfl) (fun k hk => match k, hk with | 0, _ => impl_areReads_lk2))) (by kernel_rfl) (by kernel_rfl) impl_areReads_VC

/-! impl.areWrites -/

noncomputable def impl_areWrites_D2 (i : List (Int × Int × Unit) × List (Int × Int × Unit) × Int × Unit) (v : Int × Unit) (R : Type) (K : Int × Unit ⊕ Int × Int × Unit ⊕ Int × Int × Unit ⊕ Int × Int × Unit ⊕ Unit → Option R) : Option R :=
  bif decide (v.1 < i.2.2.1) then Option.bind (lAt i.2.1 v.1) fun v_1 => Option.bind (impl_isKey_S (v_1.1, ())) fun v_2 => bif !v_2.1 then K (Sum.inr (Sum.inl (v_1.1, v_1.2.1, ()))) else Option.bind (impl_isValue_S (v_1.2.1, ())) fun v_3 =>
  bif !v_3.1 then K (Sum.inr (Sum.inr (Sum.inl (v_1.1, v_1.2.1, ())))) else bif decide (v.1 > 0) then Option.bind (lAt i.1 (IntKind.wrap IntKind.i64 (v.1 - 1))) fun v_4 => bif decide (v_4.1 ≥ v_1.1) then K (Sum.inr (Sum.inr (Sum.inr (Sum.inl
  (v_1.1, v_1.2.1, ()))))) else K (Sum.inl (IntKind.wrap IntKind.i64 (v.1 + 1), ())) else K (Sum.inl (IntKind.wrap IntKind.i64 (v.1 + 1), ())) else K (Sum.inr (Sum.inr (Sum.inr (Sum.inr ()))))

theorem impl_areWrites_D2_nat (i : List (Int × Int × Unit) × List (Int × Int × Unit) × Int × Unit) (v : Int × Unit) (R : Type) (K : Int × Unit ⊕ Int × Int × Unit ⊕ Int × Int × Unit ⊕ Int × Int × Unit ⊕ Unit → Option R) : impl_areWrites_D2 i v R K = (impl_areWrites_D2 i v _ some).bind K := nat_bif (nat_bind fun _ => nat_bind fun _ => nat_bif (nat_some) (nat_bind fun _ => nat_bif (nat_some) (nat_bif (nat_bind fun _ => nat_bif (nat_some) (nat_some)) (nat_some)))) (nat_some)

def impl_areWrites_T2 : Tmpl := Tmpl.mk (TmL.slot (Ty.slice YReadMark) (TmL.junk (TmL.junk (TmL.junk (TmL.junk (TmL.slot (Ty.slice YReadMark) (TmL.slot
  Ty.i (TmL.slot Ty.i (TmL.junk (TmL.junk (TmL.junk (TmL.junk (TmL.junk (TmL.junk (TmL.junk (TmL.junk (TmL.junk (TmL.junk (TmL.junk (TmL.junk (TmL.junk (TmL.junk (TmL.junk (TmL.junk (TmL.junk (TmL.junk (TmL.junk
  (TmL.junk (TmL.junk (TmL.junk (TmL.junk (TmL.junk (TmL.junk (TmL.junk (TmL.junk (TmL.junk (TmL.junk (TmL.junk TmL.nil)))))))))))))))))))))))))))))))))))))) TmH.nil

def impl_areWrites_X2_0 (i : List (Int × Int × Unit) × List (Int × Int × Unit) × Int × Unit) (p : Int × Int × Unit) : St :=
  St.mk [AV.junk, AV.junk, AV.pv Ty.bool false, AV.junk, AV.junk, AV.junk, AV.junk, AV.junk, AV.junk, AV.junk, AV.junk, AV.junk, AV.junk, AV.junk, AV.junk, AV.junk, AV.junk, AV.junk, AV.junk, AV.junk, AV.junk, AV.junk, AV.junk, AV.junk,
  AV.junk, AV.junk, AV.junk, AV.junk, AV.junk, AV.junk, AV.junk, AV.junk, AV.junk, AV.junk, AV.junk, AV.junk, AV.junk, AV.junk] [some (Cont.cells 2 [[AV.pv Ty.i p.1, AV.pv Ty.i p.2.1]])]

def impl_areWrites_X2_1 (i : List (Int × Int × Unit) × List (Int × Int × Unit) × Int × Unit) (p : Int × Int × Unit) : St :=
  St.mk [AV.junk, AV.junk, AV.pv Ty.bool false, AV.junk, AV.junk, AV.junk, AV.junk, AV.junk, AV.junk, AV.junk, AV.junk, AV.junk, AV.junk, AV.junk, AV.junk, AV.junk, AV.junk, AV.junk, AV.junk, AV.junk, AV.junk, AV.junk, AV.junk, AV.junk,
  AV.junk, AV.junk, AV.junk, AV.junk, AV.junk, AV.junk, AV.junk, AV.junk, AV.junk, AV.junk, AV.junk, AV.junk, AV.junk, AV.junk] [some (Cont.cells 2 [[AV.pv Ty.i p.1, AV.pv Ty.i p.2.1]])]

def impl_areWrites_X2_2 (i : List (Int × Int × Unit) × List (Int × Int × Unit) × Int × Unit) (p : Int × Int × Unit) : St :=
  St.mk [AV.junk, AV.junk, AV.pv Ty.bool false, AV.junk, AV.junk, AV.junk, AV.junk, AV.junk, AV.junk, AV.junk, AV.junk, AV.junk, AV.junk, AV.junk, AV.junk, AV.junk, AV.junk, AV.junk, AV.junk, AV.junk, AV.junk, AV.junk, AV.junk, AV.junk,
  AV.junk, AV.junk, AV.junk, AV.junk, AV.junk, AV.junk, AV.junk, AV.junk, AV.junk, AV.junk, AV.junk, AV.junk, AV.junk, AV.junk] [some (Cont.cells 2 [[AV.pv Ty.i p.1, AV.pv Ty.i p.2.1]])]

def impl_areWrites_X2_3 (i : List (Int × Int × Unit) × List (Int × Int × Unit) × Int × Unit) (p : Unit) : St :=
  St.mk [AV.junk, AV.junk, AV.junk, AV.junk, AV.junk, AV.junk, AV.junk, AV.junk, AV.junk, AV.junk, AV.junk, AV.junk, AV.junk, AV.junk, AV.junk, AV.junk, AV.junk, AV.junk, AV.junk, AV.junk, AV.junk, AV.junk, AV.junk, AV.junk, AV.junk, AV.junk,
  AV.junk, AV.junk, AV.junk, AV.junk, AV.junk, AV.junk, AV.junk, AV.junk, AV.junk, AV.junk, AV.junk, AV.junk] []

noncomputable def impl_areWrites_E2 (i : List (Int × Int × Unit) × List (Int × Int × Unit) × Int × Unit) (p : Int × Int × Unit ⊕ Int × Int × Unit ⊕ Int × Int × Unit ⊕ Unit) (R : Type) (K : Ex → St → Option R) : Option R := sumC p (fun p => K (Ex.ret) (impl_areWrites_X2_0 i p)) (fun p => sumC p (fun p => K (Ex.ret) (impl_areWrites_X2_1 i p)) (fun p => sumC p (fun p => K (Ex.ret) (impl_areWrites_X2_2 i p)) (fun p => K (Ex.exit 0) (impl_areWrites_X2_3 i p))))

noncomputable def impl_areWrites_K2 (i : List (Int × Int × Unit) × List (Int × Int × Unit) × Int × Unit) (p : Int × Int × Unit ⊕ Int × Int × Unit ⊕ Int × Int × Unit ⊕ Unit) : Ex × St := sumC p (fun p => ((Ex.ret), impl_areWrites_X2_0 i p)) (fun p => sumC p (fun p => ((Ex.ret), impl_areWrites_X2_1 i p)) (fun p => sumC p (fun p => ((Ex.ret), impl_areWrites_X2_2 i p)) (fun p => ((Ex.exit 0), impl_areWrites_X2_3 i p))))

def impl_areWrites_M2 (i : List (Int × Int × Unit) × List (Int × Int × Unit) × Int × Unit) (v : Int × Unit) : den impl_areWrites_T2.ty := (i.1, i.2.1, i.2.2.1, v.1, ())

def impl_areWrites_P2 (x : den impl_areWrites_T2.ty) : (List (Int × Int × Unit) × List (Int × Int × Unit) × Int × Unit) × (Int × Unit) := ((x.1, x.2.1, x.2.2.1, ()), (x.2.2.2.1, ()))

noncomputable def impl_areWrites_F2 : LoopFn := fun s R K => Tmpl.readS impl_areWrites_T2 0 s fun x => (iter (fun v => impl_areWrites_D2 (impl_areWrites_P2 x).1 v _ some) (impl_areWrites_P2 x).2).bind fun p => impl_areWrites_E2 (impl_areWrites_P2 x).1 p R K

noncomputable def impl_areWrites_C : Cfg := { ti := g_tis, ents := [impl_isKey_Ent, impl_isValue_Ent], ann := [(2, impl_areWrites_F2)], lent := 0 }

def impl_areWrites_ti : Tmpl := Tmpl.mk (TmL.slot (Ty.slice YReadMark) TmL.nil) TmH.nil

def impl_areWrites_to : Tmpl := Tmpl.mk (TmL.slot Ty.bool TmL.nil) TmH.nil

noncomputable def impl_areWrites_S (x : List (Int × Int × Unit) × Unit) : Option (Bool × Unit) :=
  Option.bind (iter (fun v => impl_areWrites_D2 (x.1, x.1, (↑(List.length x.1) : Int), ()) v (Int × Unit ⊕ Int × Int × Unit ⊕ Int × Int × Unit ⊕ Int × Int × Unit ⊕ Unit) some) (0, ())) fun p => sumC p (fun p => some (false, ())) fun p => sumC
  p (fun p => some (false, ())) fun p => sumC p (fun p => some (false, ())) fun p => some (true, ())

noncomputable def impl_areWrites_Ent : Ent := ⟨109, impl_areWrites_ti, impl_areWrites_to, impl_areWrites_S⟩

theorem impl_areWrites_HC : CfgOK Go.Proofs.Try.prog impl_areWrites_C := ⟨⟨info_ok g_tisOK⟩, (all_cons impl_isKey_OK (all_cons impl_isValue_OK all_nil)), g_wide⟩

theorem impl_areWrites_lk2 : ∀ F, ((impl_areWrites_C).ann.find? fun x => x.1 == firstId ((loopsOf (codeOf Go.Proofs.Try.f109)).getD 0 .skip)).map (·.2) = some F → LoopOK Go.Proofs.Try.prog impl_areWrites_C.lent ((loopsOf (codeOf Go.Proofs.Try.f109)).getD 0 .skip) F := by
  refine lookup_ok (show ((impl_areWrites_C).ann.find? fun x => x.1 == firstId ((loopsOf (codeOf Go.Proofs.Try.f109)).getD 0 .skip)).map (·.2) = some impl_areWrites_F2 from by kernel_rfl) ?_
  exact loop_ok impl_areWrites_HC (loops_all 0 (by kernel_rfl) (fun k hk => absurd hk (Nat.not_lt_zero k))) impl_areWrites_T2 [2] impl_areWrites_M2 impl_areWrites_P2 (fun x => rfl) impl_areWrites_D2 impl_areWrites_D2_nat impl_areWrites_E2 impl_areWrites_K2 (fun i p R K => by rcases p with p | p | p | p <;> rfl) (fun i v => by kernel_rfl)

theorem impl_areWrites_VC (x : den impl_areWrites_ti.ty) : vcall impl_areWrites_C Go.Proofs.Try.f109 impl_areWrites_ti impl_areWrites_to x = impl_areWrites_S x := by kernel_rfl

theorem impl_areWrites_OK : EntOK Go.Proofs.Try.prog impl_areWrites_Ent := EntOK.of_vcall impl_areWrites_HC Go.Proofs.Try.func109 (body_loops (by kernel_rfl) (loops_all 1 (by kernel_rfl) (fun k hk => match k, hk with | 0, _ => impl_areWrites_lk2))) (by kernel_rfl) (by kernel_rfl) impl_areWrites_VC

/-! impl.FindVersion$1 -/

noncomputable def impl_FindVersion_1_C : Cfg := { ti := g_tis, ents := [], ann := [], lent := 0 }

def impl_FindVersion_1_ti : Tmpl := Tmpl.mk (TmL.slot YVersion (TmL.slot (Ty.iref Ty.i) TmL.nil)) TmH.nil

def impl_FindVersion_1_to : Tmpl := Tmpl.mk (TmL.slot Ty.bool TmL.nil) TmH.nil

noncomputable def impl_FindVersion_1_S (x : (Int × Int × Int × Int × Int × Unit) × Option Int × Unit) : Option (Bool × Unit) :=
  Option.bind x.2.1 fun v => some (x.1.2.2.1 == v, ())

noncomputable def impl_FindVersion_1_Ent : Ent := ⟨147, impl_FindVersion_1_ti, impl_FindVersion_1_to, impl_FindVersion_1_S⟩

theorem impl_FindVersion_1_HC : CfgOK Go.Proofs.Try.prog impl_FindVersion_1_C := ⟨⟨info_ok g_tisOK⟩, all_nil, g_wide⟩

theorem impl_FindVersion_1_VC (x : den impl_FindVersion_1_ti.ty) : vcall impl_FindVersion_1_C Go.Proofs.Try.f147 impl_FindVersion_1_ti impl_FindVersion_1_to x = impl_FindVersion_1_S x := by kernel_rfl

theorem impl_FindVersion_1_OK : EntOK Go.Proofs.Try.prog impl_FindVersion_1_Ent := EntOK.of_vcall impl_FindVersion_1_HC Go.Proofs.Try.func147 (body_loops (by kernel_rfl) (loops_all 0 (by kernel_rfl) (fun k hk => absurd hk (Nat.not_lt_zero k)))) (by kernel_rfl) (by kernel_rfl) impl_FindVersion_1_VC

/-! slices.IndexFunc[[]impl.Version,impl.Version] -/

noncomputable def slices_IndexFunc_impl_Version_impl_Version__impl_FindVersion_1_D2 (i : List (Int × Int × Int × Int × Int × Unit) × (Option Int × Unit) × Int × Unit) (v : Int × Unit) (R : Type) (K : Int × Unit ⊕ Int × Unit ⊕ Unit → Option R) : Option R :=
  bif decide (v.1 < i.2.2.1) then Option.bind (lAt i.1 v.1) fun v_1 => Option.bind (impl_FindVersion_1_S ((v_1.1, v_1.2.1, v_1.2.2.1, v_1.2.2.2.1, v_1.2.2.2.2.1, ()), i.2.1.1, ())) fun v_2 => bif v_2.1 then K (Sum.inr (Sum.inl (v.1, ()))) else
  K (Sum.inl (IntKind.wrap IntKind.i64 (v.1 + 1), ())) else K (Sum.inr (Sum.inr ()))

theorem slices_IndexFunc_impl_Version_impl_Version__impl_FindVersion_1_D2_nat (i : List (Int × Int × Int × Int × Int × Unit) × (Option Int × Unit) × Int × Unit) (v : Int × Unit) (R : Type) (K : Int × Unit ⊕ Int × Unit ⊕ Unit → Option R) : slices_IndexFunc_impl_Version_impl_Version__impl_FindVersion_1_D2 i v R K = (slices_IndexFunc_impl_Version_impl_Version__impl_FindVersion_1_D2 i v _ some).bind K := nat_bif (nat_bind fun _ => nat_bind fun _ => nat_bif (nat_some) (nat_some)) (nat_some)

def slices_IndexFunc_impl_Version_impl_Version__impl_FindVersion_1_T2 : Tmpl := Tmpl.mk (TmL.slot (Ty.slice YVersion) (TmL.slot (Ty.fn 147 (Ty.prod (Ty.iref (Ty.int
  IntKind.i64)) Ty.unit)) (TmL.junk (TmL.junk (TmL.junk (TmL.junk (TmL.junk (TmL.slot Ty.i (TmL.slot Ty.i (TmL.junk (TmL.junk (TmL.junk (TmL.junk (TmL.junk (TmL.junk (TmL.junk (TmL.junk (TmL.junk (TmL.junk
  TmL.nil))))))))))))))))))) TmH.nil

def slices_IndexFunc_impl_Version_impl_Version__impl_FindVersion_1_X2_0 (i : List (Int × Int × Int × Int × Int × Unit) × (Option Int × Unit) × Int × Unit) (p : Int × Unit) : St :=
  St.mk [AV.junk, AV.junk, AV.junk, AV.junk, AV.pv Ty.i p.1, AV.junk, AV.junk, AV.junk, AV.junk, AV.junk, AV.junk, AV.junk, AV.junk, AV.junk, AV.junk, AV.junk, AV.junk, AV.junk, AV.junk] []

def slices_IndexFunc_impl_Version_impl_Version__impl_FindVersion_1_X2_1 (i : List (Int × Int × Int × Int × Int × Unit) × (Option Int × Unit) × Int × Unit) (p : Unit) : St :=
  St.mk [AV.junk, AV.junk, AV.junk, AV.junk, AV.junk, AV.junk, AV.junk, AV.junk, AV.junk, AV.junk, AV.junk, AV.junk, AV.junk, AV.junk, AV.junk, AV.junk, AV.junk, AV.junk, AV.junk] []

noncomputable def slices_IndexFunc_impl_Version_impl_Version__impl_FindVersion_1_E2 (i : List (Int × Int × Int × Int × Int × Unit) × (Option Int × Unit) × Int × Unit) (p : Int × Unit ⊕ Unit) (R : Type) (K : Ex → St → Option R) : Option R := sumC p (fun p => K (Ex.ret) (slices_IndexFunc_impl_Version_impl_Version__impl_FindVersion_1_X2_0 i p)) (fun p => K (Ex.exit 0) (slices_IndexFunc_impl_Version_impl_Version__impl_FindVersion_1_X2_1 i p))

noncomputable def slices_IndexFunc_impl_Version_impl_Version__impl_FindVersion_1_K2 (i : List (Int × Int × Int × Int × Int × Unit) × (Option Int × Unit) × Int × Unit) (p : Int × Unit ⊕ Unit) : Ex × St := sumC p (fun p => ((Ex.ret), slices_IndexFunc_impl_Version_impl_Version__impl_FindVersion_1_X2_0 i p)) (fun p => ((Ex.exit 0), slices_IndexFunc_impl_Version_impl_Version__impl_FindVersion_1_X2_1 i p))

def slices_IndexFunc_impl_Version_impl_Version__impl_FindVersion_1_M2 (i : List (Int × Int × Int × Int × Int × Unit) × (Option Int × Unit) × Int × Unit) (v : Int × Unit) : den slices_IndexFunc_impl_Version_impl_Version__impl_FindVersion_1_T2.ty := (i.1, i.2.1, i.2.2.1, v.1, ())

def slices_IndexFunc_impl_Version_impl_Version__impl_FindVersion_1_P2 (x : den slices_IndexFunc_impl_Version_impl_Version__impl_FindVersion_1_T2.ty) : (List (Int × Int × Int × Int × Int × Unit) × (Option Int × Unit) × Int × Unit) × (Int × Unit) := ((x.1, x.2.1, x.2.2.1, ()), (x.2.2.2.1, ()))

noncomputable def slices_IndexFunc_impl_Version_impl_Version__impl_FindVersion_1_F2 : LoopFn := fun s R K => Tmpl.readS slices_IndexFunc_impl_Version_impl_Version__impl_FindVersion_1_T2 0 s fun x => (iter (fun v => slices_IndexFunc_impl_Version_impl_Version__impl_FindVersion_1_D2 (slices_IndexFunc_impl_Version_impl_Version__impl_FindVersion_1_P2 x).1 v _ some) (slices_IndexFunc_impl_Version_impl_Version__impl_FindVersion_1_P2 x).2).bind fun p => slices_IndexFunc_impl_Version_impl_Version__impl_FindVersion_1_E2 (slices_IndexFunc_impl_Version_impl_Version__impl_FindVersion_1_P2 x).1 p R K

noncomputable def slices_IndexFunc_impl_Version_impl_Version__impl_FindVersion_1_C : Cfg := { ti := g_tis, ents := [impl_FindVersion_1_Ent], ann := [(2, slices_IndexFunc_impl_Version_impl_Version__impl_FindVersion_1_F2)], lent := 0 }

def slices_IndexFunc_impl_Version_impl_Version__impl_FindVersion_1_ti : Tmpl := Tmpl.mk (TmL.slot (Ty.slice YVersion) (TmL.slot (Ty.fn 147 (Ty.prod (Ty.iref (Ty.int
  IntKind.i64)) Ty.unit)) TmL.nil)) TmH.nil

def slices_IndexFunc_impl_Version_impl_Version__impl_FindVersion_1_to : Tmpl := Tmpl.mk (TmL.slot Ty.i TmL.nil) TmH.nil

noncomputable def slices_IndexFunc_impl_Version_impl_Version__impl_FindVersion_1_S (x : List (Int × Int × Int × Int × Int × Unit) × (Option Int × Unit) × Unit) : Option (Int × Unit) :=
  Option.bind (iter (fun v => slices_IndexFunc_impl_Version_impl_Version__impl_FindVersion_1_D2 (x.1, x.2.1, (↑(List.length x.1) : Int), ()) v (Int × Unit ⊕ Int × Unit ⊕ Unit) some) (0, ())) fun p => sumC p (fun p => some (p.1, ())) fun p =>
  some (-1, ())

noncomputable def slices_IndexFunc_impl_Version_impl_Version__impl_FindVersion_1_Ent : Ent := ⟨146, slices_IndexFunc_impl_Version_impl_Version__impl_FindVersion_1_ti, slices_IndexFunc_impl_Version_impl_Version__impl_FindVersion_1_to, slices_IndexFunc_impl_Version_impl_Version__impl_FindVersion_1_S⟩

theorem slices_IndexFunc_impl_Version_impl_Version__impl_FindVersion_1_HC : CfgOK Go.Proofs.Try.prog slices_IndexFunc_impl_Version_impl_Version__impl_FindVersion_1_C := ⟨⟨info_ok g_tisOK⟩, (all_cons impl_FindVersion_1_OK all_nil), g_wide⟩

theorem slices_IndexFunc_impl_Version_impl_Version__impl_FindVersion_1_lk2 : ∀ F, ((slices_IndexFunc_impl_Version_impl_Version__impl_FindVersion_1_C).ann.find? fun x => x.1 == firstId ((loopsOf (codeOf Go.Proofs.Try.f146)).getD 0 .skip)).map (·.2) = some F → LoopOK Go.Proofs.Try.prog slices_IndexFunc_impl_Version_impl_Version__impl_FindVersion_1_C.lent ((loopsOf (codeOf Go.Proofs.Try.f146)).getD 0 .skip) F := by
  refine lookup_ok (show ((slices_IndexFunc_impl_Version_impl_Version__impl_FindVersion_1_C).ann.find? fun x => x.1 == firstId ((loopsOf (codeOf Go.Proofs.Try.f146)).getD 0 .skip)).map (·.2) = some slices_IndexFunc_impl_Version_impl_Version__impl_FindVersion_1_F2 from by kernel_rfl) ?_
  exact loop_ok slices_IndexFunc_impl_Version_impl_Version__impl_FindVersion_1_HC (loops_all 0 (by kernel_rfl) (fun k hk => absurd hk (Nat.not_lt_zero k))) slices_IndexFunc_impl_Version_impl_Version__impl_FindVersion_1_T2 [4] slices_IndexFunc_impl_Version_impl_Version__impl_FindVersion_1_M2 slices_IndexFunc_impl_Version_impl_Version__impl_FindVersion_1_P2 (fun x => rfl) slices_IndexFunc_impl_Version_impl_Version__impl_FindVersion_1_D2 slices_IndexFunc_impl_Version_impl_Version__impl_FindVersion_1_D2_nat slices_IndexFunc_impl_Version_impl_Version__impl_FindVersion_1_E2 slices_IndexFunc_impl_Version_impl_Version__impl_FindVersion_1_K2 (fun i p R K => by rcases p with p | p <;> rfl) (fun i v => by kernel_rfl)

theorem slices_IndexFunc_impl_Version_impl_Version__impl_FindVersion_1_VC (x : den slices_IndexFunc_impl_Version_impl_Version__impl_FindVersion_1_ti.ty) : vcall slices_IndexFunc_impl_Version_impl_Version__impl_FindVersion_1_C Go.Proofs.Try.f146 slices_IndexFunc_impl_Version_impl_Version__impl_FindVersion_1_ti slices_IndexFunc_impl_Version_impl_Version__impl_FindVersion_1_to x = slices_IndexFunc_impl_Version_impl_Version__impl_FindVersion_1_S x := by kernel_rfl

theorem slices_IndexFunc_impl_Version_impl_Version__impl_FindVersion_1_OK : EntOK Go.Proofs.Try.prog slices_IndexFunc_impl_Version_impl_Version__impl_FindVersion_1_Ent := EntOK.of_vcall slices_IndexFunc_impl_Version_impl_Version__impl_FindVersion_1_HC Go.Proofs.Try.func146 (body_loops (by kernel_rfl) (loops_all 1 (by kernel_rfl) (fun k hk => match k, hk with | 0, _ => slices_IndexFunc_impl_Version_impl_Version__impl_FindVersion_1_lk2))) (by kernel_rfl) (by kernel_rfl) slices_IndexFunc_impl_Version_impl_Version__impl_FindVersion_1_VC

/-! impl.FindVersion -/

noncomputable def impl_FindVersion_C : Cfg := { ti := g_tis, ents := [slices_IndexFunc_impl_Version_impl_Version__impl_FindVersion_1_Ent], ann := [], lent := 0 }

def impl_FindVersion_ti : Tmpl := Tmpl.mk (TmL.slot (Ty.slice YVersion) (TmL.slot Ty.i TmL.nil)) TmH.nil

def impl_FindVersion_to : Tmpl := Tmpl.mk (TmL.slot Ty.i TmL.nil) TmH.nil

noncomputable def impl_FindVersion_S (x : List (Int × Int × Int × Int × Int × Unit) × Int × Unit) : Option (Int × Unit) :=
  Option.bind (slices_IndexFunc_impl_Version_impl_Version__impl_FindVersion_1_S (x.1, (some x.2.1, ()), ())) fun v => some (v.1, ())

noncomputable def impl_FindVersion_Ent : Ent := ⟨113, impl_FindVersion_ti, impl_FindVersion_to, impl_FindVersion_S⟩

theorem impl_FindVersion_HC : CfgOK Go.Proofs.Try.prog impl_FindVersion_C := ⟨⟨info_ok g_tisOK⟩, (all_cons slices_IndexFunc_impl_Version_impl_Version__impl_FindVersion_1_OK all_nil), g_wide⟩

theorem impl_FindVersion_VC (x : den impl_FindVersion_ti.ty) : vcall impl_FindVersion_C Go.Proofs.Try.f113 impl_FindVersion_ti impl_FindVersion_to x = impl_FindVersion_S x := by kernel_rfl

theorem impl_FindVersion_OK : EntOK Go.Proofs.Try.prog impl_FindVersion_Ent := EntOK.of_vcall impl_FindVersion_HC Go.Proofs.Try.func113 (body_loops (by kernel_rfl) (loops_all 0 (by kernel_rfl) (fun k hk => absurd hk (Nat.not_lt_zero k)))) (by kernel_rfl) (by kernel_rfl) impl_FindVersion_VC

/-! (impl.Store).find -/

noncomputable def impl_Store_find_C : Cfg := { ti := g_tis, ents := [impl_FindVersion_Ent], ann := [], lent := 0 }

def impl_Store_find_ti : Tmpl := Tmpl.mk (TmL.slot YStore (TmL.slot (Ty.prod
  Ty.i (Ty.prod Ty.i Ty.unit)) TmL.nil)) TmH.nil

def impl_Store_find_to : Tmpl := Tmpl.mk (TmL.slot (Ty.iref YVersion) TmL.nil) TmH.nil

noncomputable def impl_Store_find_S (x : (List (List (Int × Int × Int × Int × Int × Unit)) × Unit) × (Int × Int × Unit) × Unit) : Option (Option (Int × Int × Int × Int × Int × Unit) × Unit) :=
  Option.bind (lAt x.1.1 x.2.1.1) fun v => Option.bind (impl_FindVersion_S (v, x.2.1.2.1, ())) fun v_1 => bif decide (v_1.1 < 0) then some (none, ()) else Option.bind (lAt v v_1.1) fun v => some (some v, ())

noncomputable def impl_Store_find_Ent : Ent := ⟨72, impl_Store_find_ti, impl_Store_find_to, impl_Store_find_S⟩

theorem impl_Store_find_HC : CfgOK Go.Proofs.Try.prog impl_Store_find_C := ⟨⟨info_ok g_tisOK⟩, (all_cons impl_FindVersion_OK all_nil), g_wide⟩

theorem impl_Store_find_VC (x : den impl_Store_find_ti.ty) : vcall impl_Store_find_C Go.Proofs.Try.f72 impl_Store_find_ti impl_Store_find_to x = impl_Store_find_S x := by kernel_rfl

theorem impl_Store_find_OK : EntOK Go.Proofs.Try.prog impl_Store_find_Ent := EntOK.of_vcall impl_Store_find_HC Go.Proofs.Try.func72 (body_loops (by kernel_rfl) (loops_all 0 (by kernel_rfl) (fun k hk => absurd hk (Nat.not_lt_zero k)))) (by kernel_rfl) (by kernel_rfl) impl_Store_find_VC

/-! (impl.Store).readsExist$1 -/

noncomputable def impl_Store_readsExist_1_C : Cfg := { ti := g_tis, ents := [impl_Store_find_Ent], ann := [], lent := 0 }

def impl_Store_readsExist_1_ti : Tmpl := Tmpl.mk (TmL.slot YReadMark (TmL.slot (Ty.iref (Ty.prod (Ty.slice (Ty.slice (Ty.prod Ty.i (Ty.prod Ty.i (Ty.prod Ty.i (Ty.prod
  Ty.i (Ty.prod Ty.i Ty.unit))))))) Ty.unit)) TmL.nil)) TmH.nil

def impl_Store_readsExist_1_to : Tmpl := Tmpl.mk (TmL.slot Ty.bool TmL.nil) TmH.nil

noncomputable def impl_Store_readsExist_1_S (x : (Int × Int × Unit) × Option (List (List (Int × Int × Int × Int × Int × Unit)) × Unit) × Unit) : Option (Bool × Unit) :=
  Option.bind x.2.1 fun v => Option.bind (impl_Store_find_S ((v.1, ()), (x.1.1, x.1.2.1, ()), ())) fun v => some (Option.isNone v.1, ())

noncomputable def impl_Store_readsExist_1_Ent : Ent := ⟨111, impl_Store_readsExist_1_ti, impl_Store_readsExist_1_to, impl_Store_readsExist_1_S⟩

theorem impl_Store_readsExist_1_HC : CfgOK Go.Proofs.Try.prog impl_Store_readsExist_1_C := ⟨⟨info_ok g_tisOK⟩, (all_cons impl_Store_find_OK all_nil), g_wide⟩

theorem impl_Store_readsExist_1_VC (x : den impl_Store_readsExist_1_ti.ty) : vcall impl_Store_readsExist_1_C Go.Proofs.Try.f111 impl_Store_readsExist_1_ti impl_Store_readsExist_1_to x = impl_Store_readsExist_1_S x := by kernel_rfl

theorem impl_Store_readsExist_1_OK : EntOK Go.Proofs.Try.prog impl_Store_readsExist_1_Ent := EntOK.of_vcall impl_Store_readsExist_1_HC Go.Proofs.Try.func111 (body_loops (by kernel_rfl) (loops_all 0 (by kernel_rfl) (fun k hk => absurd hk (Nat.not_lt_zero k)))) (by kernel_rfl) (by kernel_rfl) impl_Store_readsExist_1_VC

end Go.Ab
