import Derived.Test.YtaefbkkplgaplaaGenW1
set_option maxRecDepth 100000
set_option linter.unusedVariables false
namespace Go.Ab

/-! slices.IndexFunc[[]impl.ReadMark,impl.ReadMark] -/

noncomputable def slices_IndexFunc_impl_ReadMark_impl_ReadMark__impl_Store_readsExist_1_D2 (i : List (Int × Int × Unit) × (Option (List (List (Int × Int × Int × Int × Int × Unit)) × Unit) × Unit) × Int × Unit) (v : Int × Unit) (R : Type) (K : Int × Unit ⊕ Int × Unit ⊕ Unit → Option R) : Option R :=
  bif decide (v.1 < i.2.2.1) then Option.bind (lAt i.1 v.1) fun v_1 => Option.bind (impl_Store_readsExist_1_S ((v_1.1, v_1.2.1, ()), i.2.1.1, ())) fun v_2 => bif v_2.1 then K (Sum.inr (Sum.inl (v.1, ()))) else K (Sum.inl (IntKind.wrap
  IntKind.i64 (v.1 + 1), ())) else K (Sum.inr (Sum.inr ()))

theorem slices_IndexFunc_impl_ReadMark_impl_ReadMark__impl_Store_readsExist_1_D2_nat (i : List (Int × Int × Unit) × (Option (List (List (Int × Int × Int × Int × Int × Unit)) × Unit) × Unit) × Int × Unit) (v : Int × Unit) (R : Type) (K : Int × Unit ⊕ Int × Unit ⊕ Unit → Option R) : slices_IndexFunc_impl_ReadMark_impl_ReadMark__impl_Store_readsExist_1_D2 i v R K = (slices_IndexFunc_impl_ReadMark_impl_ReadMark__impl_Store_readsExist_1_D2 i v _ some).bind K := nat_bif (nat_bind fun _ => nat_bind fun _ => nat_bif (nat_some) (nat_some)) (nat_some)

def slices_IndexFunc_impl_ReadMark_impl_ReadMark__impl_Store_readsExist_1_T2 : Tmpl := Tmpl.mk (TmL.slot (Ty.slice YReadMark) (TmL.slot (Ty.fn 111 (Ty.prod (Ty.iref (Ty.prod (Ty.slice (Ty.slice (Ty.prod Ty.i (Ty.prod Ty.i (Ty.prod
  Ty.i YReadMark))))) Ty.unit)) Ty.unit)) (TmL.junk (TmL.junk (TmL.junk (TmL.junk (TmL.junk (TmL.slot Ty.i (TmL.slot Ty.i (TmL.junk
  (TmL.junk (TmL.junk (TmL.junk (TmL.junk (TmL.junk (TmL.junk (TmL.junk (TmL.junk (TmL.junk TmL.nil))))))))))))))))))) TmH.nil

def slices_IndexFunc_impl_ReadMark_impl_ReadMark__impl_Store_readsExist_1_X2_0 (i : List (Int × Int × Unit) × (Option (List (List (Int × Int × Int × Int × Int × Unit)) × Unit) × Unit) × Int × Unit) (p : Int × Unit) : St :=
  St.mk [AV.junk, AV.junk, AV.junk, AV.junk, AV.pv Ty.i p.1, AV.junk, AV.junk, AV.junk, AV.junk, AV.junk, AV.junk, AV.junk, AV.junk, AV.junk, AV.junk, AV.junk, AV.junk, AV.junk, AV.junk] []

def slices_IndexFunc_impl_ReadMark_impl_ReadMark__impl_Store_readsExist_1_X2_1 (i : List (Int × Int × Unit) × (Option (List (List (Int × Int × Int × Int × Int × Unit)) × Unit) × Unit) × Int × Unit) (p : Unit) : St :=
  St.mk [AV.junk, AV.junk, AV.junk, AV.junk, AV.junk, AV.junk, AV.junk, AV.junk, AV.junk, AV.junk, AV.junk, AV.junk, AV.junk, AV.junk, AV.junk, AV.junk, AV.junk, AV.junk, AV.junk] []

noncomputable def slices_IndexFunc_impl_ReadMark_impl_ReadMark__impl_Store_readsExist_1_E2 (i : List (Int × Int × Unit) × (Option (List (List (Int × Int × Int × Int × Int × Unit)) × Unit) × Unit) × Int × Unit) (p : Int × Unit ⊕ Unit) (R : Type) (K : Ex → St → Option R) : Option R := sumC p (fun p => K (Ex.ret) (slices_IndexFunc_impl_ReadMark_impl_ReadMark__impl_Store_readsExist_1_X2_0 i p)) (fun p => K (Ex.exit 0) (slices_IndexFunc_impl_ReadMark_impl_ReadMark__impl_Store_readsExist_1_X2_1 i p))

noncomputable def slices_IndexFunc_impl_ReadMark_impl_ReadMark__impl_Store_readsExist_1_K2 (i : List (Int × Int × Unit) × (Option (List (List (Int × Int × Int × Int × Int × Unit)) × Unit) × Unit) × Int × Unit) (p : Int × Unit ⊕ Unit) : Ex × St := sumC p (fun p => ((Ex.ret), slices_IndexFunc_impl_ReadMark_impl_ReadMark__impl_Store_readsExist_1_X2_0 i p)) (fun p => ((Ex.exit 0), slices_IndexFunc_impl_ReadMark_impl_ReadMark__impl_Store_readsExist_1_X2_1 i p))

def slices_IndexFunc_impl_ReadMark_impl_ReadMark__impl_Store_readsExist_1_M2 (i : List (Int × Int × Unit) × (Option (List (List (Int × Int × Int × Int × Int × Unit)) × Unit) × Unit) × Int × Unit) (v : Int × Unit) : den slices_IndexFunc_impl_ReadMark_impl_ReadMark__impl_Store_readsExist_1_T2.ty := (i.1, i.2.1, i.2.2.1, v.1, ())

def slices_IndexFunc_impl_ReadMark_impl_ReadMark__impl_Store_readsExist_1_P2 (x : den slices_IndexFunc_impl_ReadMark_impl_ReadMark__impl_Store_readsExist_1_T2.ty) : (List (Int × Int × Unit) × (Option (List (List (Int × Int × Int × Int × Int × Unit)) × Unit) × Unit) × Int × Unit) × (Int × Unit) := ((x.1, x.2.1, x.2.2.1, ()), (x.2.2.2.1, ()))

noncomputable def slices_IndexFunc_impl_ReadMark_impl_ReadMark__impl_Store_readsExist_1_F2 : LoopFn := fun s R K => Tmpl.readS slices_IndexFunc_impl_ReadMark_impl_ReadMark__impl_Store_readsExist_1_T2 0 s fun x => (iter (fun v => slices_IndexFunc_impl_ReadMark_impl_ReadMark__impl_Store_readsExist_1_D2 (slices_IndexFunc_impl_ReadMark_impl_ReadMark__impl_Store_readsExist_1_P2 x).1 v _ some) (slices_IndexFunc_impl_ReadMark_impl_ReadMark__impl_Store_readsExist_1_P2 x).2).bind fun p => slices_IndexFunc_impl_ReadMark_impl_ReadMark__impl_Store_readsExist_1_E2 (slices_IndexFunc_impl_ReadMark_impl_ReadMark__impl_Store_readsExist_1_P2 x).1 p R K

noncomputable def slices_IndexFunc_impl_ReadMark_impl_ReadMark__impl_Store_readsExist_1_C : Cfg := { ti := g_tis, ents := [impl_Store_readsExist_1_Ent], ann := [(2, slices_IndexFunc_impl_ReadMark_impl_ReadMark__impl_Store_readsExist_1_F2)], lent := 0 }

def slices_IndexFunc_impl_ReadMark_impl_ReadMark__impl_Store_readsExist_1_ti : Tmpl := Tmpl.mk (TmL.slot (Ty.slice YReadMark) (TmL.slot (Ty.fn 111 (Ty.prod (Ty.iref (Ty.prod (Ty.slice (Ty.slice (Ty.prod Ty.i (Ty.prod Ty.i (Ty.prod
  Ty.i YReadMark))))) Ty.unit)) Ty.unit)) TmL.nil)) TmH.nil

def slices_IndexFunc_impl_ReadMark_impl_ReadMark__impl_Store_readsExist_1_to : Tmpl := Tmpl.mk (TmL.slot Ty.i TmL.nil) TmH.nil

noncomputable def slices_IndexFunc_impl_ReadMark_impl_ReadMark__impl_Store_readsExist_1_S (x : List (Int × Int × Unit) × (Option (List (List (Int × Int × Int × Int × Int × Unit)) × Unit) × Unit) × Unit) : Option (Int × Unit) :=
  Option.bind (iter (fun v => slices_IndexFunc_impl_ReadMark_impl_ReadMark__impl_Store_readsExist_1_D2 (x.1, x.2.1, (↑(List.length x.1) : Int), ()) v (Int × Unit ⊕ Int × Unit ⊕ Unit) some) (0, ())) fun p => sumC p (fun p => some (p.1, ())) fun
  p => some (-1, ())

noncomputable def slices_IndexFunc_impl_ReadMark_impl_ReadMark__impl_Store_readsExist_1_Ent : Ent := ⟨145, slices_IndexFunc_impl_ReadMark_impl_ReadMark__impl_Store_readsExist_1_ti, slices_IndexFunc_impl_ReadMark_impl_ReadMark__impl_Store_readsExist_1_to, slices_IndexFunc_impl_ReadMark_impl_ReadMark__impl_Store_readsExist_1_S⟩

theorem slices_IndexFunc_impl_ReadMark_impl_ReadMark__impl_Store_readsExist_1_HC : CfgOK Go.Proofs.Try.prog slices_IndexFunc_impl_ReadMark_impl_ReadMark__impl_Store_readsExist_1_C := ⟨⟨info_ok g_tisOK⟩, (all_cons impl_Store_readsExist_1_OK all_nil), g_wide⟩

theorem slices_IndexFunc_impl_ReadMark_impl_ReadMark__impl_Store_readsExist_1_lk2 : ∀ F, ((slices_IndexFunc_impl_ReadMark_impl_ReadMark__impl_Store_readsExist_1_C).ann.find? fun x => x.1 == firstId ((loopsOf (codeOf Go.Proofs.Try.f145)).getD 0 .skip)).map (·.2) = some F → LoopOK Go.Proofs.Try.prog slices_IndexFunc_impl_ReadMark_impl_ReadMark__impl_Store_readsExist_1_C.lent ((loopsOf (codeOf Go.Proofs.Try.f145)).getD 0 .skip) F := by
  refine lookup_ok (show ((slices_IndexFunc_impl_ReadMark_impl_ReadMark__impl_Store_readsExist_1_C).ann.find? fun x => x.1 == firstId ((loopsOf (codeOf Go.Proofs.Try.f145)).getD 0 .skip)).map (·.2) = some slices_IndexFunc_impl_ReadMark_impl_ReadMark__impl_Store_readsExist_1_F2 from by kernel_rfl) ?_
  exact loop_ok slices_IndexFunc_impl_ReadMark_impl_ReadMark__impl_Store_readsExist_1_HC (loops_all 0 (by kernel_rfl) (fun k hk => absurd hk (Nat.not_lt_zero k))) slices_IndexFunc_impl_ReadMark_impl_ReadMark__impl_Store_readsExist_1_T2 [4] slices_IndexFunc_impl_ReadMark_impl_ReadMark__impl_Store_readsExist_1_M2 slices_IndexFunc_impl_ReadMark_impl_ReadMark__impl_Store_readsExist_1_P2 (fun x => rfl) slices_IndexFunc_impl_ReadMark_impl_ReadMark__impl_Store_readsExist_1_D2 slices_IndexFunc_impl_ReadMark_impl_ReadMark__impl_Store_readsExist_1_D2_nat slices_IndexFunc_impl_ReadMark_impl_ReadMark__impl_Store_readsExist_1_E2 slices_IndexFunc_impl_ReadMark_impl_ReadMark__impl_Store_readsExist_1_K2 (fun i p R K => by rcases p with p | p <;> rfl) (fun i v => by kernel_rfl)

theorem slices_IndexFunc_impl_ReadMark_impl_ReadMark__impl_Store_readsExist_1_VC (x : den slices_IndexFunc_impl_ReadMark_impl_ReadMark__impl_Store_readsExist_1_ti.ty) : vcall slices_IndexFunc_impl_ReadMark_impl_ReadMark__impl_Store_readsExist_1_C Go.Proofs.Try.f145 slices_IndexFunc_impl_ReadMark_impl_ReadMark__impl_Store_readsExist_1_ti slices_IndexFunc_impl_ReadMark_impl_ReadMark__impl_Store_readsExist_1_to x = slices_IndexFunc_impl_ReadMark_impl_ReadMark__impl_Store_readsExist_1_S x := by kernel_rfl

theorem slices_IndexFunc_impl_ReadMark_impl_ReadMark__impl_Store_readsExist_1_OK : EntOK Go.Proofs.Try.prog slices_IndexFunc_impl_ReadMark_impl_ReadMark__impl_Store_readsExist_1_Ent := EntOK.of_vcall slices_IndexFunc_impl_ReadMark_impl_ReadMark__impl_Store_readsExist_1_HC Go.Proofs.Try.func145 (body_loops (by kernel_rfl) (loops_all 1 (by kernel_rfl) (fun k hk => match k, hk with | 0, _ => slices_IndexFunc_impl_ReadMark_impl_ReadMark__impl_Store_readsExist_1_lk2))) (by kernel_rfl) (by kernel_rfl) slices_IndexFunc_impl_ReadMark_impl_ReadMark__impl_Store_readsExist_1_VC

/-! slices.ContainsFunc[[]impl.ReadMark,impl.ReadMark] -/

noncomputable def slices_ContainsFunc_impl_ReadMark_impl_ReadMark__impl_Store_readsExist_1_C : Cfg := { ti := g_tis, ents := [slices_IndexFunc_impl_ReadMark_impl_ReadMark__impl_Store_readsExist_1_Ent], ann := [], lent := 0 }

def slices_ContainsFunc_impl_ReadMark_impl_ReadMark__impl_Store_readsExist_1_ti : Tmpl := Tmpl.mk (TmL.slot (Ty.slice YReadMark) (TmL.slot (Ty.fn 111 (Ty.prod (Ty.iref (Ty.prod (Ty.slice (Ty.slice (Ty.prod Ty.i (Ty.prod Ty.i (Ty.prod
  Ty.i YReadMark))))) Ty.unit)) Ty.unit)) TmL.nil)) TmH.nil

def slices_ContainsFunc_impl_ReadMark_impl_ReadMark__impl_Store_readsExist_1_to : Tmpl := Tmpl.mk (TmL.slot Ty.bool TmL.nil) TmH.nil

noncomputable def slices_ContainsFunc_impl_ReadMark_impl_ReadMark__impl_Store_readsExist_1_S (x : List (Int × Int × Unit) × (Option (List (List (Int × Int × Int × Int × Int × Unit)) × Unit) × Unit) × Unit) : Option (Bool × Unit) :=
  Option.bind (slices_IndexFunc_impl_ReadMark_impl_ReadMark__impl_Store_readsExist_1_S (x.1, x.2.1, ())) fun v => some (decide (v.1 ≥ 0), ())

noncomputable def slices_ContainsFunc_impl_ReadMark_impl_ReadMark__impl_Store_readsExist_1_Ent : Ent := ⟨110, slices_ContainsFunc_impl_ReadMark_impl_ReadMark__impl_Store_readsExist_1_ti, slices_ContainsFunc_impl_ReadMark_impl_ReadMark__impl_Store_readsExist_1_to, slices_ContainsFunc_impl_ReadMark_impl_ReadMark__impl_Store_readsExist_1_S⟩

theorem slices_ContainsFunc_impl_ReadMark_impl_ReadMark__impl_Store_readsExist_1_HC : CfgOK Go.Proofs.Try.prog slices_ContainsFunc_impl_ReadMark_impl_ReadMark__impl_Store_readsExist_1_C := ⟨⟨info_ok g_tisOK⟩, (all_cons slices_IndexFunc_impl_ReadMark_impl_ReadMark__impl_Store_readsExist_1_OK all_nil), g_wide⟩

theorem slices_ContainsFunc_impl_ReadMark_impl_ReadMark__impl_Store_readsExist_1_VC (x : den slices_ContainsFunc_impl_ReadMark_impl_ReadMark__impl_Store_readsExist_1_ti.ty) : vcall slices_ContainsFunc_impl_ReadMark_impl_ReadMark__impl_Store_readsExist_1_C Go.Proofs.Try.f110 slices_ContainsFunc_impl_ReadMark_impl_ReadMark__impl_Store_readsExist_1_ti slices_ContainsFunc_impl_ReadMark_impl_ReadMark__impl_Store_readsExist_1_to x = slices_ContainsFunc_impl_ReadMark_impl_ReadMark__impl_Store_readsExist_1_S x := by kernel_rfl

theorem slices_ContainsFunc_impl_ReadMark_impl_ReadMark__impl_Store_readsExist_1_OK : EntOK Go.Proofs.Try.prog slices_ContainsFunc_impl_ReadMark_impl_ReadMark__impl_Store_readsExist_1_Ent := EntOK.of_vcall slices_ContainsFunc_impl_ReadMark_impl_ReadMark__impl_Store_readsExist_1_HC Go.Proofs.Try.func110 (body_loops (by kernel_rfl) (loops_all 0 (by kernel_rfl) (fun k hk => absurd hk (Nat.not_lt_zero k)))) (by kernel_rfl) (by kernel_rfl) slices_ContainsFunc_impl_ReadMark_impl_ReadMark__impl_Store_readsExist_1_VC

/-! (impl.Store).readsExist -/

noncomputable def impl_Store_readsExist_C : Cfg := { ti := g_tis, ents := [slices_ContainsFunc_impl_ReadMark_impl_ReadMark__impl_Store_readsExist_1_Ent], ann := [], lent := 0 }

def impl_Store_readsExist_ti : Tmpl := Tmpl.mk (TmL.slot YStore (TmL.slot (Ty.slice
  YReadMark) TmL.nil)) TmH.nil

def impl_Store_readsExist_to : Tmpl := Tmpl.mk (TmL.slot Ty.bool TmL.nil) TmH.nil

noncomputable def impl_Store_readsExist_S (x : (List (List (Int × Int × Int × Int × Int × Unit)) × Unit) × List (Int × Int × Unit) × Unit) : Option (Bool × Unit) :=
  Option.bind (slices_ContainsFunc_impl_ReadMark_impl_ReadMark__impl_Store_readsExist_1_S (x.2.1, (some (x.1.1, ()), ()), ())) fun v => some (!v.1, ())

noncomputable def impl_Store_readsExist_Ent : Ent := ⟨69, impl_Store_readsExist_ti, impl_Store_readsExist_to, impl_Store_readsExist_S⟩

theorem impl_Store_readsExist_HC : CfgOK Go.Proofs.Try.prog impl_Store_readsExist_C := ⟨⟨info_ok g_tisOK⟩, (all_cons slices_ContainsFunc_impl_ReadMark_impl_ReadMark__impl_Store_readsExist_1_OK all_nil), g_wide⟩

theorem impl_Store_readsExist_VC (x : den impl_Store_readsExist_ti.ty) : vcall impl_Store_readsExist_C Go.Proofs.Try.f69 impl_Store_readsExist_ti impl_Store_readsExist_to x = impl_Store_readsExist_S x := by kernel_rfl

theorem impl_Store_readsExist_OK : EntOK Go.Proofs.Try.prog impl_Store_readsExist_Ent := EntOK.of_vcall impl_Store_readsExist_HC Go.Proofs.Try.func69 (body_loops (by kernel_rfl) (loops_all 0 (by kernel_rfl) (fun k hk => absurd hk (Nat.not_lt_zero k)))) (by kernel_rfl) (by kernel_rfl) impl_Store_readsExist_VC

/-! laws.szTransaction -/

noncomputable def laws_szTransaction_C : Cfg := { ti := g_tis, ents := [laws_szReadMarkS_Ent, laws_szWriteS_Ent], ann := [], lent := 0 }

def laws_szTransaction_ti : Tmpl := Tmpl.mk (TmL.slot (Ty.prod Ty.i (Ty.prod Ty.i (Ty.prod Ty.i (Ty.prod Ty.i (Ty.prod Ty.i (Ty.prod Ty.i (Ty.prod Ty.i (Ty.prod
  (Ty.slice YReadMark) (Ty.prod (Ty.slice YReadMark) Ty.unit))))))))) (TmL.slot Ty.i TmL.nil)) TmH.nil

def laws_szTransaction_to : Tmpl := Tmpl.mk (TmL.slot Ty.i TmL.nil) TmH.nil

noncomputable def laws_szTransaction_S (x : (Int × Int × Int × Int × Int × Int × Int × List (Int × Int × Unit) × List (Int × Int × Unit) × Unit) × Int × Unit) : Option (Int × Unit) :=
  Option.bind (laws_szReadMarkS_S (x.1.2.2.2.2.2.2.2.1, x.2.1, ())) fun v => bif decide (v.1 < 0) then some (-1, ()) else Option.bind (laws_szWriteS_S (x.1.2.2.2.2.2.2.2.2.1, v.1, ())) fun v => bif decide (v.1 < 0) then some (-1, ()) else some
  (v.1, ())

noncomputable def laws_szTransaction_Ent : Ent := ⟨117, laws_szTransaction_ti, laws_szTransaction_to, laws_szTransaction_S⟩

theorem laws_szTransaction_HC : CfgOK Go.Proofs.Try.prog laws_szTransaction_C := ⟨⟨info_ok g_tisOK⟩, (all_cons laws_szReadMarkS_OK (all_cons laws_szWriteS_OK all_nil)), g_wide⟩

theorem laws_szTransaction_VC (x : den laws_szTransaction_ti.ty) : vcall laws_szTransaction_C Go.Proofs.Try.f117 laws_szTransaction_ti laws_szTransaction_to x = laws_szTransaction_S x := by kernel_rfl

theorem laws_szTransaction_OK : EntOK Go.Proofs.Try.prog laws_szTransaction_Ent := EntOK.of_vcall laws_szTransaction_HC Go.Proofs.Try.func117 (body_loops (by kernel_rfl) (loops_all 0 (by kernel_rfl) (fun k hk => absurd hk (Nat.not_lt_zero k)))) (by kernel_rfl) (by kernel_rfl) laws_szTransaction_VC

/-! laws.szTransactionS -/

noncomputable def laws_szTransactionS_D5 (i : List (Int × Int × Int × Int × Int × Int × Int × List (Int × Int × Unit) × List (Int × Int × Unit) × Unit) × Unit) (v : Int × Int × Unit) (R : Type) (K : Int × Int × Unit ⊕ Int × Unit ⊕ Int × Unit → Option R) : Option R :=
  bif decide (v.2.1 < (↑(List.length i.1) : Int)) then Option.bind (lAt i.1 v.2.1) fun v_1 => Option.bind (laws_szTransaction_S ((v_1.1, v_1.2.1, v_1.2.2.1, v_1.2.2.2.1, v_1.2.2.2.2.1, v_1.2.2.2.2.2.1, v_1.2.2.2.2.2.2.1, v_1.2.2.2.2.2.2.2.1,
  v_1.2.2.2.2.2.2.2.2.1, ()), v.1, ())) fun v_2 => bif decide (v_2.1 < 0) then K (Sum.inr (Sum.inl (v_2.1, ()))) else K (Sum.inl (v_2.1, IntKind.wrap IntKind.i64 (v.2.1 + 1), ())) else K (Sum.inr (Sum.inr (v.1, ())))

theorem laws_szTransactionS_D5_nat (i : List (Int × Int × Int × Int × Int × Int × Int × List (Int × Int × Unit) × List (Int × Int × Unit) × Unit) × Unit) (v : Int × Int × Unit) (R : Type) (K : Int × Int × Unit ⊕ Int × Unit ⊕ Int × Unit → Option R) : laws_szTransactionS_D5 i v R K = (laws_szTransactionS_D5 i v _ some).bind K := nat_bif (nat_bind fun _ => nat_bind fun _ => nat_bif (nat_some) (nat_some)) (nat_some)

def laws_szTransactionS_T5 : Tmpl := Tmpl.mk (TmL.slot (Ty.slice (Ty.prod Ty.i (Ty.prod Ty.i (Ty.prod Ty.i (Ty.prod Ty.i (Ty.prod Ty.i (Ty.prod Ty.i (Ty.prod Ty.i
  (Ty.prod (Ty.slice YReadMark) (Ty.prod (Ty.slice YReadMark) Ty.unit)))))))))) (TmL.slot Ty.i (TmL.junk
  (TmL.junk (TmL.junk (TmL.slot Ty.i (TmL.junk (TmL.junk (TmL.junk (TmL.junk (TmL.junk (TmL.junk (TmL.junk (TmL.junk (TmL.junk (TmL.junk (TmL.junk (TmL.junk (TmL.junk (TmL.junk (TmL.junk (TmL.junk (TmL.junk (TmL.junk (TmL.junk
  (TmL.junk (TmL.junk TmL.nil))))))))))))))))))))))))))) TmH.nil

def laws_szTransactionS_X5_0 (i : List (Int × Int × Int × Int × Int × Int × Int × List (Int × Int × Unit) × List (Int × Int × Unit) × Unit) × Unit) (p : Int × Unit) : St :=
  St.mk [AV.junk, AV.pv Ty.i p.1, AV.junk, AV.junk, AV.pv Ty.i (-1), AV.junk, AV.junk, AV.junk, AV.junk, AV.junk, AV.junk, AV.junk, AV.junk, AV.junk, AV.junk, AV.junk, AV.junk, AV.junk, AV.junk, AV.junk,
  AV.junk, AV.junk, AV.junk, AV.junk, AV.junk, AV.junk, AV.junk] []

def laws_szTransactionS_X5_1 (i : List (Int × Int × Int × Int × Int × Int × Int × List (Int × Int × Unit) × List (Int × Int × Unit) × Unit) × Unit) (p : Int × Unit) : St :=
  St.mk [AV.junk, AV.pv Ty.i p.1, AV.junk, AV.junk, AV.junk, AV.junk, AV.junk, AV.junk, AV.junk, AV.junk, AV.junk, AV.junk, AV.junk, AV.junk, AV.junk, AV.junk, AV.junk, AV.junk, AV.junk, AV.junk, AV.junk, AV.junk, AV.junk,
  AV.junk, AV.junk, AV.junk, AV.junk] []

noncomputable def laws_szTransactionS_E5 (i : List (Int × Int × Int × Int × Int × Int × Int × List (Int × Int × Unit) × List (Int × Int × Unit) × Unit) × Unit) (p : Int × Unit ⊕ Int × Unit) (R : Type) (K : Ex → St → Option R) : Option R := sumC p (fun p => K (Ex.ret) (laws_szTransactionS_X5_0 i p)) (fun p => K (Ex.exit 0) (laws_szTransactionS_X5_1 i p))

noncomputable def laws_szTransactionS_K5 (i : List (Int × Int × Int × Int × Int × Int × Int × List (Int × Int × Unit) × List (Int × Int × Unit) × Unit) × Unit) (p : Int × Unit ⊕ Int × Unit) : Ex × St := sumC p (fun p => ((Ex.ret), laws_szTransactionS_X5_0 i p)) (fun p => ((Ex.exit 0), laws_szTransactionS_X5_1 i p))

def laws_szTransactionS_M5 (i : List (Int × Int × Int × Int × Int × Int × Int × List (Int × Int × Unit) × List (Int × Int × Unit) × Unit) × Unit) (v : Int × Int × Unit) : den laws_szTransactionS_T5.ty := (i.1, v.1, v.2.1, ())

def laws_szTransactionS_P5 (x : den laws_szTransactionS_T5.ty) : (List (Int × Int × Int × Int × Int × Int × Int × List (Int × Int × Unit) × List (Int × Int × Unit) × Unit) × Unit) × (Int × Int × Unit) := ((x.1, ()), (x.2.1, x.2.2.1, ()))

noncomputable def laws_szTransactionS_F5 : LoopFn := fun s R K => Tmpl.readS laws_szTransactionS_T5 0 s fun x => (iter (fun v => laws_szTransactionS_D5 (laws_szTransactionS_P5 x).1 v _ some) (laws_szTransactionS_P5 x).2).bind fun p => laws_szTransactionS_E5 (laws_szTransactionS_P5 x).1 p R K

noncomputable def laws_szTransactionS_C : Cfg := { ti := g_tis, ents := [laws_szTransaction_Ent], ann := [(5, laws_szTransactionS_F5)], lent := 0 }

def laws_szTransactionS_ti : Tmpl := Tmpl.mk (TmL.slot (Ty.slice (Ty.prod Ty.i (Ty.prod Ty.i (Ty.prod Ty.i (Ty.prod Ty.i (Ty.prod Ty.i (Ty.prod Ty.i (Ty.prod Ty.i
  (Ty.prod (Ty.slice YReadMark) (Ty.prod (Ty.slice YReadMark) Ty.unit)))))))))) (TmL.slot Ty.i TmL.nil))
  TmH.nil

def laws_szTransactionS_to : Tmpl := Tmpl.mk (TmL.slot Ty.i TmL.nil) TmH.nil

noncomputable def laws_szTransactionS_S (x : List (Int × Int × Int × Int × Int × Int × Int × List (Int × Int × Unit) × List (Int × Int × Unit) × Unit) × Int × Unit) : Option (Int × Unit) :=
  bif decide (IntKind.wrap IntKind.i64 (x.2.1 - (↑(List.length x.1) : Int)) < 0) then some (-1, ()) else Option.bind (iter (fun v => laws_szTransactionS_D5 (x.1, ()) v (Int × Int × Unit ⊕ Int × Unit ⊕ Int × Unit) some) (IntKind.wrap
  IntKind.i64 (x.2.1 - (↑(List.length x.1) : Int)), 0, ())) fun p => sumC p (fun p => some (-1, ())) fun p => some (p.1, ())

noncomputable def laws_szTransactionS_Ent : Ent := ⟨77, laws_szTransactionS_ti, laws_szTransactionS_to, laws_szTransactionS_S⟩

theorem laws_szTransactionS_HC : CfgOK Go.Proofs.Try.prog laws_szTransactionS_C := ⟨⟨info_ok g_tisOK⟩, (all_cons laws_szTransaction_OK all_nil), g_wide⟩

theorem laws_szTransactionS_lk5 : ∀ F, ((laws_szTransactionS_C).ann.find? fun x => x.1 == firstId ((loopsOf (codeOf Go.Proofs.Try.f77)).getD 0 .skip)).map (·.2) = some F → LoopOK Go.Proofs.Try.prog laws_szTransactionS_C.lent ((loopsOf (codeOf Go.Proofs.Try.f77)).getD 0 .skip) F := by
  refine lookup_ok (show ((laws_szTransactionS_C).ann.find? fun x => x.1 == firstId ((loopsOf (codeOf Go.Proofs.Try.f77)).getD 0 .skip)).map (·.2) = some laws_szTransactionS_F5 from by kernel_rfl) ?_
  exact loop_ok laws_szTransactionS_HC (loops_all 0 (by kernel_rfl) (fun k hk => absurd hk (Nat.not_lt_zero k))) laws_szTransactionS_T5 [1, 4] laws_szTransactionS_M5 laws_szTransactionS_P5 (fun x => rfl) laws_szTransactionS_D5 laws_szTransactionS_D5_nat laws_szTransactionS_E5 laws_szTransactionS_K5 (fun i p R K => by rcases p with p | p <;> rfl) (fun i v => by kernel_rfl)

theorem laws_szTransactionS_VC (x : den laws_szTransactionS_ti.ty) : vcall laws_szTransactionS_C Go.Proofs.Try.f77 laws_szTransactionS_ti laws_szTransactionS_to x = laws_szTransactionS_S x := by kernel_rfl

theorem laws_szTransactionS_OK : EntOK Go.Proofs.Try.prog laws_szTransactionS_Ent := EntOK.of_vcall laws_szTransactionS_HC Go.Proofs.Try.func77 (body_loops (by kernel_rfl) (loops_all 1 (by kernel_rfl) (fun k hk => match k, hk with | 0, _ => laws_szTransactionS_lk5))) (by kernel_rfl) (by kernel_rfl) laws_szTransactionS_VC

/-! laws.szLockS -/

noncomputable def laws_szLockS_C : Cfg := { ti := g_tis, ents := [], ann := [], lent := 0 }

def laws_szLockS_ti : Tmpl := Tmpl.mk (TmL.slot (Ty.slice YReadMark) (TmL.slot Ty.i TmL.nil)) TmH.nil

def laws_szLockS_to : Tmpl := Tmpl.mk (TmL.slot Ty.i TmL.nil) TmH.nil

noncomputable def laws_szLockS_S (x : List (Int × Int × Unit) × Int × Unit) : Option (Int × Unit) :=
  bif decide (IntKind.wrap IntKind.i64 (x.2.1 - (↑(List.length x.1) : Int)) < 0) then some (-1, ()) else some (IntKind.wrap IntKind.i64 (x.2.1 - (↑(List.length x.1) : Int)), ())

noncomputable def laws_szLockS_Ent : Ent := ⟨78, laws_szLockS_ti, laws_szLockS_to, laws_szLockS_S⟩

theorem laws_szLockS_HC : CfgOK Go.Proofs.Try.prog laws_szLockS_C := ⟨⟨info_ok g_tisOK⟩, all_nil, g_wide⟩

theorem laws_szLockS_VC (x : den laws_szLockS_ti.ty) : vcall laws_szLockS_C Go.Proofs.Try.f78 laws_szLockS_ti laws_szLockS_to x = laws_szLockS_S x := by kernel_rfl

theorem laws_szLockS_OK : EntOK Go.Proofs.Try.prog laws_szLockS_Ent := EntOK.of_vcall laws_szLockS_HC Go.Proofs.Try.func78 (body_loops (by kernel_rfl) (loops_all 0 (by kernel_rfl) (fun k hk => absurd hk (Nat.not_lt_zero k)))) (by kernel_rfl) (by kernel_rfl) laws_szLockS_VC

/-! laws.szWaitS -/

noncomputable def laws_szWaitS_C : Cfg := { ti := g_tis, ents := [], ann := [], lent := 0 }

def laws_szWaitS_ti : Tmpl := Tmpl.mk (TmL.slot (Ty.slice YReadMark) (TmL.slot Ty.i TmL.nil)) TmH.nil

def laws_szWaitS_to : Tmpl := Tmpl.mk (TmL.slot Ty.i TmL.nil) TmH.nil

noncomputable def laws_szWaitS_S (x : List (Int × Int × Unit) × Int × Unit) : Option (Int × Unit) :=
  bif decide (IntKind.wrap IntKind.i64 (x.2.1 - (↑(List.length x.1) : Int)) < 0) then some (-1, ()) else some (IntKind.wrap IntKind.i64 (x.2.1 - (↑(List.length x.1) : Int)), ())

noncomputable def laws_szWaitS_Ent : Ent := ⟨79, laws_szWaitS_ti, laws_szWaitS_to, laws_szWaitS_S⟩

theorem laws_szWaitS_HC : CfgOK Go.Proofs.Try.prog laws_szWaitS_C := ⟨⟨info_ok g_tisOK⟩, all_nil, g_wide⟩

theorem laws_szWaitS_VC (x : den laws_szWaitS_ti.ty) : vcall laws_szWaitS_C Go.Proofs.Try.f79 laws_szWaitS_ti laws_szWaitS_to x = laws_szWaitS_S x := by kernel_rfl

theorem laws_szWaitS_OK : EntOK Go.Proofs.Try.prog laws_szWaitS_Ent := EntOK.of_vcall laws_szWaitS_HC Go.Proofs.Try.func79 (body_loops (by kernel_rfl) (loops_all 0 (by kernel_rfl) (fun k hk => absurd hk (Nat.not_lt_zero k)))) (by kernel_rfl) (by kernel_rfl) laws_szWaitS_VC

/-! laws.szEngine -/

noncomputable def laws_szEngine_C : Cfg := { ti := g_tis, ents := [laws_szStore_Ent, laws_szTransactionS_Ent, laws_szLockS_Ent, laws_szWaitS_Ent], ann := [], lent := 0 }

def laws_szEngine_ti : Tmpl := Tmpl.mk (TmL.slot (Ty.prod Ty.bool (Ty.prod (Ty.prod (Ty.slice (Ty.slice YVersion))
  Ty.unit) (Ty.prod (Ty.slice (Ty.prod Ty.i (Ty.prod Ty.i (Ty.prod Ty.i (Ty.prod Ty.i (Ty.prod Ty.i (Ty.prod Ty.i (Ty.prod Ty.i
  (Ty.prod (Ty.slice YReadMark) (Ty.prod (Ty.slice YReadMark) Ty.unit)))))))))) (Ty.prod (Ty.slice (Ty.prod (Ty.int
  IntKind.i64) (Ty.prod Ty.i Ty.unit))) (Ty.prod (Ty.slice YReadMark) (Ty.prod Ty.i Ty.unit)))))) (TmL.slot Ty.i TmL.nil)) TmH.nil

def laws_szEngine_to : Tmpl := Tmpl.mk (TmL.slot Ty.i TmL.nil) TmH.nil

noncomputable def laws_szEngine_S (x : (Bool × (List (List (Int × Int × Int × Int × Int × Unit)) × Unit) × List (Int × Int × Int × Int × Int × Int × Int × List (Int × Int × Unit) × List (Int × Int × Unit) × Unit) × List (Int × Int × Unit) × List (Int × Int × Unit) × Int × Unit) ×
  Int × Unit) : Option (Int × Unit) :=
  Option.bind (laws_szStore_S ((x.1.2.1.1, ()), x.2.1, ())) fun v => bif decide (v.1 < 0) then some (-1, ()) else Option.bind (laws_szTransactionS_S (x.1.2.2.1, v.1, ())) fun v => bif decide (v.1 < 0) then some (-1, ()) else Option.bind
  (laws_szLockS_S (x.1.2.2.2.1, v.1, ())) fun v => bif decide (v.1 < 0) then some (-1, ()) else Option.bind (laws_szWaitS_S (x.1.2.2.2.2.1, v.1, ())) fun v => bif decide (v.1 < 0) then some (-1, ()) else some (v.1, ())

noncomputable def laws_szEngine_Ent : Ent := ⟨33, laws_szEngine_ti, laws_szEngine_to, laws_szEngine_S⟩

theorem laws_szEngine_HC : CfgOK Go.Proofs.Try.prog laws_szEngine_C := ⟨⟨info_ok g_tisOK⟩, (all_cons laws_szStore_OK (all_cons laws_szTransactionS_OK (all_cons laws_szLockS_OK (all_cons laws_szWaitS_OK all_nil)))), g_wide⟩

theorem laws_szEngine_VC (x : den laws_szEngine_ti.ty) : vcall laws_szEngine_C Go.Proofs.Try.f33 laws_szEngine_ti laws_szEngine_to x = laws_szEngine_S x := by kernel_rfl

theorem laws_szEngine_OK : EntOK Go.Proofs.Try.prog laws_szEngine_Ent := EntOK.of_vcall laws_szEngine_HC Go.Proofs.Try.func33 (body_loops (by kernel_rfl) (loops_all 0 (by kernel_rfl) (fun k hk => absurd hk (Nat.not_lt_zero k)))) (by kernel_rfl) (by kernel_rfl) laws_szEngine_VC

/-! laws.toTransaction -/

noncomputable def laws_toTransaction_C : Cfg := { ti := g_tis, ents := [laws_toReadMarkS_Ent, laws_toWriteS_Ent], ann := [], lent := 0 }

def laws_toTransaction_ti : Tmpl := Tmpl.mk (TmL.slot (Ty.prod Ty.i (Ty.prod Ty.i (Ty.prod Ty.i (Ty.prod Ty.i (Ty.prod Ty.i (Ty.prod Ty.i (Ty.prod Ty.i (Ty.prod
  (Ty.slice YReadMark) (Ty.prod (Ty.slice YReadMark) Ty.unit))))))))) TmL.nil) TmH.nil

def laws_toTransaction_to : Tmpl := Tmpl.mk (TmL.agg (TmL.slot Ty.i (TmL.slot Ty.i (TmL.slot Ty.i (TmL.slot Ty.i (TmL.slot Ty.i (TmL.slot Ty.i (TmL.slot Ty.i
  (TmL.own 0 (TmL.own 1 TmL.nil))))))))) TmL.nil) (TmH.lst false YReadMark (TmH.lst false YReadMark TmH.nil))

noncomputable def laws_toTransaction_S (x : (Int × Int × Int × Int × Int × Int × Int × List (Int × Int × Unit) × List (Int × Int × Unit) × Unit) × Unit) : Option (Int × Int × Int × Int × Int × Int × Int × List (Int × Int × Unit) × List (Int × Int × Unit) × Unit) :=
  Option.bind (laws_toReadMarkS_S (x.1.2.2.2.2.2.2.2.1, ())) fun v => Option.bind (laws_toWriteS_S (x.1.2.2.2.2.2.2.2.2.1, ())) fun v_1 => some (x.1.1, x.1.2.1, x.1.2.2.1, x.1.2.2.2.1, x.1.2.2.2.2.1, x.1.2.2.2.2.2.1, x.1.2.2.2.2.2.2.1, v.1,
  v_1.1, ())

noncomputable def laws_toTransaction_Ent : Ent := ⟨121, laws_toTransaction_ti, laws_toTransaction_to, laws_toTransaction_S⟩

theorem laws_toTransaction_HC : CfgOK Go.Proofs.Try.prog laws_toTransaction_C := ⟨⟨info_ok g_tisOK⟩, (all_cons laws_toReadMarkS_OK (all_cons laws_toWriteS_OK all_nil)), g_wide⟩

theorem laws_toTransaction_VC (x : den laws_toTransaction_ti.ty) : vcall laws_toTransaction_C Go.Proofs.Try.f121 laws_toTransaction_ti laws_toTransaction_to x = laws_toTransaction_S x := by kernel_rfl

theorem laws_toTransaction_OK : EntOK Go.Proofs.Try.prog laws_toTransaction_Ent := EntOK.of_vcall laws_toTransaction_HC Go.Proofs.Try.func121 (body_loops (by kernel_rfl) (loops_all 0 (by kernel_rfl) (fun k hk => absurd hk (Nat.not_lt_zero k)))) (by kernel_rfl) (by kernel_rfl) laws_toTransaction_VC

/-! laws.toTransactionS -/

noncomputable def laws_toTransactionS_D3 (i : List (Int × Int × Int × Int × Int × Int × Int × List (Int × Int × Unit) × List (Int × Int × Unit) × Unit) × Unit) (v : Int × List (Int × Int × Int × Int × Int × Int × Int × List (Int × Int × Unit) × List (Int × Int × Unit) × Unit) × Unit) (R : Type) (K : Int × List (Int × Int × Int × Int × Int × Int × Int × List (Int × Int × Unit) × List (Int × Int × Unit) × Unit) × Unit ⊕ List (Int × Int × Int × Int × Int × Int × Int × List (Int × Int × Unit) × List (Int × Int × Unit) × Unit) × Unit →
  Option R) : Option R :=
  bif decide (v.1 < (↑(List.length i.1) : Int)) then Option.bind (lAt i.1 v.1) fun v_1 => Option.bind (laws_toTransaction_S ((v_1.1, v_1.2.1, v_1.2.2.1, v_1.2.2.2.1, v_1.2.2.2.2.1, v_1.2.2.2.2.2.1, v_1.2.2.2.2.2.2.1, v_1.2.2.2.2.2.2.2.1,
  v_1.2.2.2.2.2.2.2.2.1, ()), ())) fun v_2 => if 0 ≤ v.1 ∧ v.1 < (↑(List.length v.2.1) : Int) then Option.bind v.2.1[0 + Int.toNat v.1]? fun v_3 => K (Sum.inl (IntKind.wrap IntKind.i64 (v.1 + 1), List.set v.2.1 (0 + Int.toNat v.1) (v_2.1,
  v_2.2.1, v_2.2.2.1, v_2.2.2.2.1, v_2.2.2.2.2.1, v_2.2.2.2.2.2.1, v_2.2.2.2.2.2.2.1, v_2.2.2.2.2.2.2.2.1, v_2.2.2.2.2.2.2.2.2.1, ()), ())) else none else K (Sum.inr (v.2.1, ()))

theorem laws_toTransactionS_D3_nat (i : List (Int × Int × Int × Int × Int × Int × Int × List (Int × Int × Unit) × List (Int × Int × Unit) × Unit) × Unit) (v : Int × List (Int × Int × Int × Int × Int × Int × Int × List (Int × Int × Unit) × List (Int × Int × Unit) × Unit) × Unit) (R : Type) (K : Int × List (Int × Int × Int × Int × Int × Int × Int × List (Int × Int × Unit) × List (Int × Int × Unit) × Unit) × Unit ⊕ List (Int × Int × Int × Int × Int × Int × Int × List (Int × Int × Unit) × List (Int × Int × Unit) × Unit) × Unit →
  Option R) : laws_toTransactionS_D3 i v R K = (laws_toTransactionS_D3 i v _ some).bind K := nat_bif (nat_bind fun _ => nat_bind fun _ => nat_ite (nat_bind fun _ => nat_some)) (nat_some)

def laws_toTransactionS_T3 : Tmpl := Tmpl.mk (TmL.slot (Ty.slice (Ty.prod Ty.i (Ty.prod Ty.i (Ty.prod Ty.i (Ty.prod Ty.i (Ty.prod Ty.i (Ty.prod Ty.i (Ty.prod Ty.i
  (Ty.prod (Ty.slice YReadMark) (Ty.prod (Ty.slice YReadMark) Ty.unit)))))))))) (TmL.junk (TmL.junk (TmL.own 0 (TmL.slot
  Ty.i (TmL.junk (TmL.junk (TmL.junk (TmL.junk (TmL.junk (TmL.junk (TmL.junk (TmL.junk (TmL.junk (TmL.junk (TmL.junk (TmL.junk (TmL.junk (TmL.junk (TmL.junk (TmL.junk (TmL.junk (TmL.junk TmL.nil))))))))))))))))))))))) (TmH.tree
  false 1 (Ty.prod Ty.i (Ty.prod Ty.i (Ty.prod Ty.i (Ty.prod Ty.i (Ty.prod Ty.i (Ty.prod Ty.i (Ty.prod Ty.i (Ty.prod (Ty.slice
  YReadMark) (Ty.prod (Ty.slice YReadMark) Ty.unit))))))))) TmH.nil)

def laws_toTransactionS_X3_0 (i : List (Int × Int × Int × Int × Int × Int × Int × List (Int × Int × Unit) × List (Int × Int × Unit) × Unit) × Unit) (p : List (Int × Int × Int × Int × Int × Int × Int × List (Int × Int × Unit) × List (Int × Int × Unit) × Unit) × Unit) : St :=
  St.mk [AV.junk, AV.junk, AV.junk, AV.own 0 none none, AV.junk, AV.junk, AV.junk, AV.junk, AV.junk, AV.junk, AV.junk, AV.junk, AV.junk, AV.junk, AV.junk, AV.junk, AV.junk, AV.junk, AV.junk, AV.junk, AV.junk, AV.junk, AV.junk] [some (Cont.tree
  false 1 (Ty.prod Ty.i (Ty.prod Ty.i (Ty.prod Ty.i (Ty.prod Ty.i (Ty.prod Ty.i (Ty.prod Ty.i (Ty.prod Ty.i (Ty.prod (Ty.slice
  YReadMark) (Ty.prod (Ty.slice YReadMark) Ty.unit))))))))) p.1 none)]

noncomputable def laws_toTransactionS_E3 (i : List (Int × Int × Int × Int × Int × Int × Int × List (Int × Int × Unit) × List (Int × Int × Unit) × Unit) × Unit) (p : List (Int × Int × Int × Int × Int × Int × Int × List (Int × Int × Unit) × List (Int × Int × Unit) × Unit) × Unit) (R : Type) (K : Ex → St → Option R) : Option R := K (Ex.exit 0) (laws_toTransactionS_X3_0 i p)

noncomputable def laws_toTransactionS_K3 (i : List (Int × Int × Int × Int × Int × Int × Int × List (Int × Int × Unit) × List (Int × Int × Unit) × Unit) × Unit) (p : List (Int × Int × Int × Int × Int × Int × Int × List (Int × Int × Unit) × List (Int × Int × Unit) × Unit) × Unit) : Ex × St := ((Ex.exit 0), laws_toTransactionS_X3_0 i p)

def laws_toTransactionS_M3 (i : List (Int × Int × Int × Int × Int × Int × Int × List (Int × Int × Unit) × List (Int × Int × Unit) × Unit) × Unit) (v : Int × List (Int × Int × Int × Int × Int × Int × Int × List (Int × Int × Unit) × List (Int × Int × Unit) × Unit) × Unit) : den laws_toTransactionS_T3.ty := (i.1, v.1, v.2.1, ())

def laws_toTransactionS_P3 (x : den laws_toTransactionS_T3.ty) : (List (Int × Int × Int × Int × Int × Int × Int × List (Int × Int × Unit) × List (Int × Int × Unit) × Unit) × Unit) × (Int × List (Int × Int × Int × Int × Int × Int × Int × List (Int × Int × Unit) × List (Int × Int × Unit) × Unit) × Unit) := ((x.1, ()), (x.2.1, x.2.2.1, ()))

noncomputable def laws_toTransactionS_F3 : LoopFn := fun s R K => Tmpl.readS laws_toTransactionS_T3 0 s fun x => (iter (fun v => laws_toTransactionS_D3 (laws_toTransactionS_P3 x).1 v _ some) (laws_toTransactionS_P3 x).2).bind fun p => laws_toTransactionS_E3 (laws_toTransactionS_P3 x).1 p R K

noncomputable def laws_toTransactionS_C : Cfg := { ti := g_tis, ents := [laws_toTransaction_Ent], ann := [(3, laws_toTransactionS_F3)], lent := 0 }

def laws_toTransactionS_ti : Tmpl := Tmpl.mk (TmL.slot (Ty.slice (Ty.prod Ty.i (Ty.prod Ty.i (Ty.prod Ty.i (Ty.prod Ty.i (Ty.prod Ty.i (Ty.prod Ty.i (Ty.prod Ty.i
  (Ty.prod (Ty.slice YReadMark) (Ty.prod (Ty.slice YReadMark) Ty.unit)))))))))) TmL.nil) TmH.nil

def laws_toTransactionS_to : Tmpl := Tmpl.mk (TmL.own 0 TmL.nil) (TmH.tree false 1 (Ty.prod Ty.i (Ty.prod Ty.i (Ty.prod Ty.i (Ty.prod Ty.i (Ty.prod Ty.i (Ty.prod Ty.i (Ty.prod
  Ty.i (Ty.prod (Ty.slice YReadMark) (Ty.prod (Ty.slice YReadMark) Ty.unit))))))))) TmH.nil)

noncomputable def laws_toTransactionS_S (x : List (Int × Int × Int × Int × Int × Int × Int × List (Int × Int × Unit) × List (Int × Int × Unit) × Unit) × Unit) : Option (List (Int × Int × Int × Int × Int × Int × Int × List (Int × Int × Unit) × List (Int × Int × Unit) × Unit) × Unit) :=
  if 0 ≤ (↑(List.length x.1) : Int) ∧ (↑(List.length x.1) : Int) ≤ (↑(List.length x.1) : Int) ∧ (↑(List.length x.1) : Int) ≤ (↑338311270084 : Int) then Option.bind (iter (fun v => laws_toTransactionS_D3 (x.1, ()) v (Int × List (Int × Int × Int
  × Int × Int × Int × Int × List (Int × Int × Unit) × List (Int × Int × Unit) × Unit) × Unit ⊕ List (Int × Int × Int × Int × Int × Int × Int × List (Int × Int × Unit) × List (Int × Int × Unit) × Unit) × Unit) some) (0, List.replicate
  (Int.toNat (↑(List.length x.1) : Int)) (0, 0, 0, 0, 0, 0, 0, [], [], ()), ())) fun p => some (p.1, ()) else none

noncomputable def laws_toTransactionS_Ent : Ent := ⟨81, laws_toTransactionS_ti, laws_toTransactionS_to, laws_toTransactionS_S⟩

theorem laws_toTransactionS_HC : CfgOK Go.Proofs.Try.prog laws_toTransactionS_C := ⟨⟨info_ok g_tisOK⟩, (all_cons laws_toTransaction_OK all_nil), g_wide⟩

theorem laws_toTransactionS_lk3 : ∀ F, ((laws_toTransactionS_C).ann.find? fun x => x.1 == firstId ((loopsOf (codeOf Go.Proofs.Try.f81)).getD 0 .skip)).map (·.2) = some F → LoopOK Go.Proofs.Try.prog laws_toTransactionS_C.lent ((loopsOf (codeOf Go.Proofs.Try.f81)).getD 0 .skip) F := by
  refine lookup_ok (show ((laws_toTransactionS_C).ann.find? fun x => x.1 == firstId ((loopsOf (codeOf Go.Proofs.Try.f81)).getD 0 .skip)).map (·.2) = some laws_toTransactionS_F3 from by kernel_rfl) ?_
  exact loop_ok laws_toTransactionS_HC (loops_all 0 (by kernel_rfl) (fun k hk => absurd hk (Nat.not_lt_zero k))) laws_toTransactionS_T3 [3] laws_toTransactionS_M3 laws_toTransactionS_P3 (fun x => rfl) laws_toTransactionS_D3 laws_toTransactionS_D3_nat laws_toTransactionS_E3 laws_toTransactionS_K3 (fun i p R K => rfl) (fun i v => by kernel_rfl)

theorem laws_toTransactionS_VC (x : den laws_toTransactionS_ti.ty) : vcall laws_toTransactionS_C Go.Proofs.Try.f81 laws_toTransactionS_ti laws_toTransactionS_to x = laws_toTransactionS_S x := by kernel_rfl

theorem laws_toTransactionS_OK : EntOK Go.Proofs.Try.prog laws_toTransactionS_Ent := EntOK.of_vcall laws_toTransactionS_HC Go.Proofs.Try.func81 (body_loops (by kernel_rfl) (loops_all 1 (by kernel_rfl) (fun k hk => match k, hk with | 0, _ => laws_toTransactionS_lk3))) (by kernel_rfl) (by kernel_rfl) laws_toTransactionS_VC

/-! laws.toLock -/

noncomputable def laws_toLock_C : Cfg := { ti := g_tis, ents := [], ann := [], lent := 0 }

def laws_toLock_ti : Tmpl := Tmpl.mk (TmL.slot YReadMark TmL.nil) TmH.nil

def laws_toLock_to : Tmpl := Tmpl.mk (TmL.agg (TmL.slot Ty.i (TmL.slot Ty.i TmL.nil)) TmL.nil) TmH.nil

noncomputable def laws_toLock_S (x : (Int × Int × Unit) × Unit) : Option (Int × Int × Unit) :=
  some (x.1.1, x.1.2.1, ())

noncomputable def laws_toLock_Ent : Ent := ⟨122, laws_toLock_ti, laws_toLock_to, laws_toLock_S⟩

theorem laws_toLock_HC : CfgOK Go.Proofs.Try.prog laws_toLock_C := ⟨⟨info_ok g_tisOK⟩, all_nil, g_wide⟩

theorem laws_toLock_VC (x : den laws_toLock_ti.ty) : vcall laws_toLock_C Go.Proofs.Try.f122 laws_toLock_ti laws_toLock_to x = laws_toLock_S x := by kernel_rfl

theorem laws_toLock_OK : EntOK Go.Proofs.Try.prog laws_toLock_Ent := EntOK.of_vcall laws_toLock_HC Go.Proofs.Try.func122 (body_loops (by kernel_rfl) (loops_all 0 (by kernel_rfl) (fun k hk => absurd hk (Nat.not_lt_zero k)))) (by kernel_rfl) (by kernel_rfl) laws_toLock_VC

/-! laws.toLockS -/

noncomputable def laws_toLockS_D3 (i : List (Int × Int × Unit) × Unit) (v : Int × List (Int × Int × Unit) × Unit) (R : Type) (K : Int × List (Int × Int × Unit) × Unit ⊕ List (Int × Int × Unit) × Unit → Option R) : Option R :=
  bif decide (v.1 < (↑(List.length i.1) : Int)) then Option.bind (lAt i.1 v.1) fun v_1 => Option.bind (laws_toLock_S ((v_1.1, v_1.2.1, ()), ())) fun v_2 => if 0 ≤ v.1 ∧ v.1 < (↑(List.length v.2.1) : Int) then Option.bind v.2.1[0 + Int.toNat
  v.1]? fun v_3 => K (Sum.inl (IntKind.wrap IntKind.i64 (v.1 + 1), List.set v.2.1 (0 + Int.toNat v.1) (v_2.1, v_2.2.1, ()), ())) else none else K (Sum.inr (v.2.1, ()))

theorem laws_toLockS_D3_nat (i : List (Int × Int × Unit) × Unit) (v : Int × List (Int × Int × Unit) × Unit) (R : Type) (K : Int × List (Int × Int × Unit) × Unit ⊕ List (Int × Int × Unit) × Unit → Option R) : laws_toLockS_D3 i v R K = (laws_toLockS_D3 i v _ some).bind K := nat_bif (nat_bind fun _ => nat_bind fun _ => nat_ite (nat_bind fun _ => nat_some)) (nat_some)

def laws_toLockS_T3 : Tmpl := Tmpl.mk (TmL.slot (Ty.slice YReadMark) (TmL.junk (TmL.junk (TmL.own 0 (TmL.slot Ty.i (TmL.junk (TmL.junk (TmL.junk (TmL.junk (TmL.junk (TmL.junk (TmL.junk (TmL.junk
  (TmL.junk (TmL.junk (TmL.junk (TmL.junk (TmL.junk (TmL.junk (TmL.junk (TmL.junk (TmL.junk (TmL.junk TmL.nil))))))))))))))))))))))) (TmH.lst false YReadMark TmH.nil)

def laws_toLockS_X3_0 (i : List (Int × Int × Unit) × Unit) (p : List (Int × Int × Unit) × Unit) : St :=
  St.mk [AV.junk, AV.junk, AV.junk, AV.own 0 none none, AV.junk, AV.junk, AV.junk, AV.junk, AV.junk, AV.junk, AV.junk, AV.junk, AV.junk, AV.junk, AV.junk, AV.junk, AV.junk, AV.junk, AV.junk, AV.junk, AV.junk, AV.junk, AV.junk] [some (Cont.lst
  false YReadMark p.1)]

noncomputable def laws_toLockS_E3 (i : List (Int × Int × Unit) × Unit) (p : List (Int × Int × Unit) × Unit) (R : Type) (K : Ex → St → Option R) : Option R := K (Ex.exit 0) (laws_toLockS_X3_0 i p)

noncomputable def laws_toLockS_K3 (i : List (Int × Int × Unit) × Unit) (p : List (Int × Int × Unit) × Unit) : Ex × St := ((Ex.exit 0), laws_toLockS_X3_0 i p)

def laws_toLockS_M3 (i : List (Int × Int × Unit) × Unit) (v : Int × List (Int × Int × Unit) × Unit) : den laws_toLockS_T3.ty := (i.1, v.1, v.2.1, ())

def laws_toLockS_P3 (x : den laws_toLockS_T3.ty) : (List (Int × Int × Unit) × Unit) × (Int × List (Int × Int × Unit) × Unit) := ((x.1, ()), (x.2.1, x.2.2.1, ()))

noncomputable def laws_toLockS_F3 : LoopFn := fun s R K => Tmpl.readS laws_toLockS_T3 0 s fun x => (iter (fun v => laws_toLockS_D3 (laws_toLockS_P3 x).1 v _ some) (laws_toLockS_P3 x).2).bind fun p => laws_toLockS_E3 (laws_toLockS_P3 x).1 p R K

noncomputable def laws_toLockS_C : Cfg := { ti := g_tis, ents := [laws_toLock_Ent], ann := [(3, laws_toLockS_F3)], lent := 0 }

def laws_toLockS_ti : Tmpl := Tmpl.mk (TmL.slot (Ty.slice YReadMark) TmL.nil) TmH.nil

def laws_toLockS_to : Tmpl := Tmpl.mk (TmL.own 0 TmL.nil) (TmH.lst false YReadMark TmH.nil)

noncomputable def laws_toLockS_S (x : List (Int × Int × Unit) × Unit) : Option (List (Int × Int × Unit) × Unit) :=
  if 0 ≤ (↑(List.length x.1) : Int) ∧ (↑(List.length x.1) : Int) ≤ (↑(List.length x.1) : Int) ∧ (↑(List.length x.1) : Int) ≤ (↑2199023255552 : Int) then Option.bind (iter (fun v => laws_toLockS_D3 (x.1, ()) v (Int × List (Int × Int × Unit) ×
  Unit ⊕ List (Int × Int × Unit) × Unit) some) (0, List.replicate (Int.toNat (↑(List.length x.1) : Int)) (0, 0, ()), ())) fun p => some (p.1, ()) else none

noncomputable def laws_toLockS_Ent : Ent := ⟨82, laws_toLockS_ti, laws_toLockS_to, laws_toLockS_S⟩

theorem laws_toLockS_HC : CfgOK Go.Proofs.Try.prog laws_toLockS_C := ⟨⟨info_ok g_tisOK⟩, (all_cons laws_toLock_OK all_nil), g_wide⟩

theorem laws_toLockS_lk3 : ∀ F, ((laws_toLockS_C).ann.find? fun x => x.1 == firstId ((loopsOf (codeOf Go.Proofs.Try.f82)).getD 0 .skip)).map (·.2) = some F → LoopOK Go.Proofs.Try.prog laws_toLockS_C.lent ((loopsOf (codeOf Go.Proofs.Try.f82)).getD 0 .skip) F := by
  refine lookup_ok (show ((laws_toLockS_C).ann.find? fun x => x.1 == firstId ((loopsOf (codeOf Go.Proofs.Try.f82)).getD 0 .skip)).map (·.2) = some laws_toLockS_F3 from by kernel_rfl) ?_
  exact loop_ok laws_toLockS_HC (loops_all 0 (by kernel_rfl) (fun k hk => absurd hk (Nat.not_lt_zero k))) laws_toLockS_T3 [3] laws_toLockS_M3 laws_toLockS_P3 (fun x => rfl) laws_toLockS_D3 laws_toLockS_D3_nat laws_toLockS_E3 laws_toLockS_K3 (fun i p R K => rfl) (fun i v => by kernel_rfl)

theorem laws_toLockS_VC (x : den laws_toLockS_ti.ty) : vcall laws_toLockS_C Go.Proofs.Try.f82 laws_toLockS_ti laws_toLockS_to x = laws_toLockS_S x := by kernel_rfl

theorem laws_toLockS_OK : EntOK Go.Proofs.Try.prog laws_toLockS_Ent := EntOK.of_vcall laws_toLockS_HC Go.Proofs.Try.func82 (body_loops (by kernel_rfl) (loops_all 1 (by kernel_rfl) (fun k hk => match k, hk with | 0, _ => laws_toLockS_lk3))) (by kernel_rfl) (by kernel_rfl) laws_toLockS_VC

/-! laws.toWait -/

noncomputable def laws_toWait_C : Cfg := { ti := g_tis, ents := [], ann := [], lent := 0 }

def laws_toWait_ti : Tmpl := Tmpl.mk (TmL.slot YReadMark TmL.nil) TmH.nil

def laws_toWait_to : Tmpl := Tmpl.mk (TmL.agg (TmL.slot Ty.i (TmL.slot Ty.i TmL.nil)) TmL.nil) TmH.nil

noncomputable def laws_toWait_S (x : (Int × Int × Unit) × Unit) : Option (Int × Int × Unit) :=
  some (x.1.1, x.1.2.1, ())

noncomputable def laws_toWait_Ent : Ent := ⟨123, laws_toWait_ti, laws_toWait_to, laws_toWait_S⟩

theorem laws_toWait_HC : CfgOK Go.Proofs.Try.prog laws_toWait_C := ⟨⟨info_ok g_tisOK⟩, all_nil, g_wide⟩

theorem laws_toWait_VC (x : den laws_toWait_ti.ty) : vcall laws_toWait_C Go.Proofs.Try.f123 laws_toWait_ti laws_toWait_to x = laws_toWait_S x := by kernel_rfl

theorem laws_toWait_OK : EntOK Go.Proofs.Try.prog laws_toWait_Ent := EntOK.of_vcall laws_toWait_HC Go.Proofs.Try.func123 (body_loops (by kernel_rfl) (loops_all 0 (by kernel_rfl) (fun k hk => absurd hk (Nat.not_lt_zero k)))) (by kernel_rfl) (by kernel_rfl) laws_toWait_VC

/-! laws.toWaitS -/

noncomputable def laws_toWaitS_D3 (i : List (Int × Int × Unit) × Unit) (v : Int × List (Int × Int × Unit) × Unit) (R : Type) (K : Int × List (Int × Int × Unit) × Unit ⊕ List (Int × Int × Unit) × Unit → Option R) : Option R :=
  bif decide (v.1 < (↑(List.length i.1) : Int)) then Option.bind (lAt i.1 v.1) fun v_1 => Option.bind (laws_toWait_S ((v_1.1, v_1.2.1, ()), ())) fun v_2 => if 0 ≤ v.1 ∧ v.1 < (↑(List.length v.2.1) : Int) then Option.bind v.2.1[0 + Int.toNat
  v.1]? fun v_3 => K (Sum.inl (IntKind.wrap IntKind.i64 (v.1 + 1), List.set v.2.1 (0 + Int.toNat v.1) (v_2.1, v_2.2.1, ()), ())) else none else K (Sum.inr (v.2.1, ()))

theorem laws_toWaitS_D3_nat (i : List (Int × Int × Unit) × Unit) (v : Int × List (Int × Int × Unit) × Unit) (R : Type) (K : Int × List (Int × Int × Unit) × Unit ⊕ List (Int × Int × Unit) × Unit → Option R) : laws_toWaitS_D3 i v R K = (laws_toWaitS_D3 i v _ some).bind K := nat_bif (nat_bind fun _ => nat_bind fun _ => nat_ite (nat_bind fun _ => nat_some)) (nat_some)

def laws_toWaitS_T3 : Tmpl := Tmpl.mk (TmL.slot (Ty.slice YReadMark) (TmL.junk (TmL.junk (TmL.own 0 (TmL.slot Ty.i (TmL.junk (TmL.junk (TmL.junk (TmL.junk (TmL.junk (TmL.junk (TmL.junk (TmL.junk
  (TmL.junk (TmL.junk (TmL.junk (TmL.junk (TmL.junk (TmL.junk (TmL.junk (TmL.junk (TmL.junk (TmL.junk TmL.nil))))))))))))))))))))))) (TmH.lst false YReadMark TmH.nil)

def laws_toWaitS_X3_0 (i : List (Int × Int × Unit) × Unit) (p : List (Int × Int × Unit) × Unit) : St :=
  St.mk [AV.junk, AV.junk, AV.junk, AV.own 0 none none, AV.junk, AV.junk, AV.junk, AV.junk, AV.junk, AV.junk, AV.junk, AV.junk, AV.junk, AV.junk, AV.junk, AV.junk, AV.junk, AV.junk, AV.junk, AV.junk, AV.junk, AV.junk, AV.junk] [some (Cont.lst
  false YReadMark p.1)]

noncomputable def laws_toWaitS_E3 (i : List (Int × Int × Unit) × Unit) (p : List (Int × Int × Unit) × Unit) (R : Type) (K : Ex → St → Option R) : Option R := K (Ex.exit 0) (laws_toWaitS_X3_0 i p)

noncomputable def laws_toWaitS_K3 (i : List (Int × Int × Unit) × Unit) (p : List (Int × Int × Unit) × Unit) : Ex × St := ((Ex.exit 0), laws_toWaitS_X3_0 i p)

def laws_toWaitS_M3 (i : List (Int × Int × Unit) × Unit) (v : Int × List (Int × Int × Unit) × Unit) : den laws_toWaitS_T3.ty := (i.1, v.1, v.2.1, ())

def laws_toWaitS_P3 (x : den laws_toWaitS_T3.ty) : (List (Int × Int × Unit) × Unit) × (Int × List (Int × Int × Unit) × Unit) := ((x.1, ()), (x.2.1, x.2.2.1, ()))

noncomputable def laws_toWaitS_F3 : LoopFn := fun s R K => Tmpl.readS laws_toWaitS_T3 0 s fun x => (iter (fun v => laws_toWaitS_D3 (laws_toWaitS_P3 x).1 v _ some) (laws_toWaitS_P3 x).2).bind fun p => laws_toWaitS_E3 (laws_toWaitS_P3 x).1 p R K

noncomputable def laws_toWaitS_C : Cfg := { ti := g_tis, ents := [laws_toWait_Ent], ann := [(3, laws_toWaitS_F3)], lent := 0 }

def laws_toWaitS_ti : Tmpl := Tmpl.mk (TmL.slot (Ty.slice YReadMark) TmL.nil) TmH.nil

def laws_toWaitS_to : Tmpl := Tmpl.mk (TmL.own 0 TmL.nil) (TmH.lst false YReadMark TmH.nil)

noncomputable def laws_toWaitS_S (x : List (Int × Int × Unit) × Unit) : Option (List (Int × Int × Unit) × Unit) :=
  if 0 ≤ (↑(List.length x.1) : Int) ∧ (↑(List.length x.1) : Int) ≤ (↑(List.length x.1) : Int) ∧ (↑(List.length x.1) : Int) ≤ (↑2199023255552 : Int) then Option.bind (iter (fun v => laws_toWaitS_D3 (x.1, ()) v (Int × List (Int × Int × Unit) ×
  Unit ⊕ List (Int × Int × Unit) × Unit) some) (0, List.replicate (Int.toNat (↑(List.length x.1) : Int)) (0, 0, ()), ())) fun p => some (p.1, ()) else none

noncomputable def laws_toWaitS_Ent : Ent := ⟨83, laws_toWaitS_ti, laws_toWaitS_to, laws_toWaitS_S⟩

theorem laws_toWaitS_HC : CfgOK Go.Proofs.Try.prog laws_toWaitS_C := ⟨⟨info_ok g_tisOK⟩, (all_cons laws_toWait_OK all_nil), g_wide⟩

theorem laws_toWaitS_lk3 : ∀ F, ((laws_toWaitS_C).ann.find? fun x => x.1 == firstId ((loopsOf (codeOf Go.Proofs.Try.f83)).getD 0 .skip)).map (·.2) = some F → LoopOK Go.Proofs.Try.prog laws_toWaitS_C.lent ((loopsOf (codeOf Go.Proofs.Try.f83)).getD 0 .skip) F := by
  refine lookup_ok (show ((laws_toWaitS_C).ann.find? fun x => x.1 == firstId ((loopsOf (codeOf Go.Proofs.Try.f83)).getD 0 .skip)).map (·.2) = some laws_toWaitS_F3 from by kernel_rfl) ?_
  exact loop_ok laws_toWaitS_HC (loops_all 0 (by kernel_rfl) (fun k hk => absurd hk (Nat.not_lt_zero k))) laws_toWaitS_T3 [3] laws_toWaitS_M3 laws_toWaitS_P3 (fun x => rfl) laws_toWaitS_D3 laws_toWaitS_D3_nat laws_toWaitS_E3 laws_toWaitS_K3 (fun i p R K => rfl) (fun i v => by kernel_rfl)

theorem laws_toWaitS_VC (x : den laws_toWaitS_ti.ty) : vcall laws_toWaitS_C Go.Proofs.Try.f83 laws_toWaitS_ti laws_toWaitS_to x = laws_toWaitS_S x := by kernel_rfl

theorem laws_toWaitS_OK : EntOK Go.Proofs.Try.prog laws_toWaitS_Ent := EntOK.of_vcall laws_toWaitS_HC Go.Proofs.Try.func83 (body_loops (by kernel_rfl) (loops_all 1 (by kernel_rfl) (fun k hk => match k, hk with | 0, _ => laws_toWaitS_lk3))) (by kernel_rfl) (by kernel_rfl) laws_toWaitS_VC

/-! laws.toEngine -/

noncomputable def laws_toEngine_C : Cfg := { ti := g_tis, ents := [laws_toStore_Ent, laws_toTransactionS_Ent, laws_toLockS_Ent, laws_toWaitS_Ent], ann := [], lent := 0 }

def laws_toEngine_ti : Tmpl := Tmpl.mk (TmL.slot (Ty.prod Ty.bool (Ty.prod (Ty.prod (Ty.slice (Ty.slice YVersion))
  Ty.unit) (Ty.prod (Ty.slice (Ty.prod Ty.i (Ty.prod Ty.i (Ty.prod Ty.i (Ty.prod Ty.i (Ty.prod Ty.i (Ty.prod Ty.i (Ty.prod Ty.i
  (Ty.prod (Ty.slice YReadMark) (Ty.prod (Ty.slice YReadMark) Ty.unit)))))))))) (Ty.prod (Ty.slice (Ty.prod (Ty.int
  IntKind.i64) (Ty.prod Ty.i Ty.unit))) (Ty.prod (Ty.slice YReadMark) (Ty.prod Ty.i Ty.unit)))))) TmL.nil) TmH.nil

def laws_toEngine_to : Tmpl := Tmpl.mk (TmL.agg (TmL.slot Ty.bool (TmL.own 0 (TmL.own 1 (TmL.own 2 (TmL.own 3 (TmL.slot Ty.i TmL.nil)))))) TmL.nil) (TmH.tree false 1 (Ty.slice (Ty.prod Ty.i (Ty.prod Ty.i (Ty.prod (Ty.int
  IntKind.i64) YReadMark)))) (TmH.tree false 1 (Ty.prod Ty.i (Ty.prod Ty.i (Ty.prod Ty.i (Ty.prod Ty.i (Ty.prod (Ty.int
  IntKind.i64) (Ty.prod Ty.i (Ty.prod Ty.i (Ty.prod (Ty.slice YReadMark) (Ty.prod (Ty.slice (Ty.prod Ty.i (Ty.prod Ty.i
  Ty.unit))) Ty.unit))))))))) (TmH.lst false YReadMark (TmH.lst false YReadMark TmH.nil))))

noncomputable def laws_toEngine_S (x : (Bool × (List (List (Int × Int × Int × Int × Int × Unit)) × Unit) × List (Int × Int × Int × Int × Int × Int × Int × List (Int × Int × Unit) × List (Int × Int × Unit) × Unit) × List (Int × Int × Unit) × List (Int × Int × Unit) × Int × Unit) ×
  Unit) : Option (Bool × Int × List (List (Int × Int × Int × Int × Int × Unit)) × List (Int × Int × Int × Int × Int × Int × Int × List (Int × Int × Unit) × List (Int × Int × Unit) × Unit) × List (Int × Int × Unit) × List (Int × Int × Unit) × Unit) :=
  Option.bind (laws_toStore_S ((x.1.2.1.1, ()), ())) fun v => Option.bind (laws_toTransactionS_S (x.1.2.2.1, ())) fun v_1 => Option.bind (laws_toLockS_S (x.1.2.2.2.1, ())) fun v_2 => Option.bind (laws_toWaitS_S (x.1.2.2.2.2.1, ())) fun v_3 =>
  some (x.1.1, x.1.2.2.2.2.2.1, v.1, v_1.1, v_2.1, v_3.1, ())

noncomputable def laws_toEngine_Ent : Ent := ⟨35, laws_toEngine_ti, laws_toEngine_to, laws_toEngine_S⟩

theorem laws_toEngine_HC : CfgOK Go.Proofs.Try.prog laws_toEngine_C := ⟨⟨info_ok g_tisOK⟩, (all_cons laws_toStore_OK (all_cons laws_toTransactionS_OK (all_cons laws_toLockS_OK (all_cons laws_toWaitS_OK all_nil)))), g_wide⟩

theorem laws_toEngine_VC (x : den laws_toEngine_ti.ty) : vcall laws_toEngine_C Go.Proofs.Try.f35 laws_toEngine_ti laws_toEngine_to x = laws_toEngine_S x := by kernel_rfl

theorem laws_toEngine_OK : EntOK Go.Proofs.Try.prog laws_toEngine_Ent := EntOK.of_vcall laws_toEngine_HC Go.Proofs.Try.func35 (body_loops (by kernel_rfl) (loops_all 0 (by kernel_rfl) (fun k hk => absurd hk (Nat.not_lt_zero k)))) (by kernel_rfl) (by kernel_rfl) laws_toEngine_VC

/-! spec.AreLocks -/

noncomputable def spec_AreLocks_D2 (i : List (Int × Int × Unit) × Unit) (v : Int × Unit) (R : Type) (K : Int × Unit ⊕ Unit ⊕ Unit ⊕ Unit ⊕ Unit → Option R) : Option R :=
  bif decide (v.1 < (↑(List.length i.1) : Int)) then Option.bind (lAt i.1 v.1) fun v_1 => Option.bind (spec_l1In_S (v_1.1, 0, 5, ())) fun v_2 => bif !v_2.1 then K (Sum.inr (Sum.inl ())) else Option.bind (lAt i.1 v.1) fun v_3 => Option.bind
  (spec_l1In_S (v_3.2.1, 1, 9, ())) fun v_4 => bif !v_4.1 then K (Sum.inr (Sum.inr (Sum.inl ()))) else bif decide (v.1 > 0) then Option.bind (lAt i.1 (IntKind.wrap IntKind.i64 (v.1 - 1))) fun v_5 => Option.bind (lAt i.1 v.1) fun v_6 => bif
  decide (v_5.1 ≥ v_6.1) then K (Sum.inr (Sum.inr (Sum.inr (Sum.inl ())))) else K (Sum.inl (IntKind.wrap IntKind.i64 (v.1 + 1), ())) else K (Sum.inl (IntKind.wrap IntKind.i64 (v.1 + 1), ())) else K (Sum.inr (Sum.inr (Sum.inr (Sum.inr ()))))

theorem spec_AreLocks_D2_nat (i : List (Int × Int × Unit) × Unit) (v : Int × Unit) (R : Type) (K : Int × Unit ⊕ Unit ⊕ Unit ⊕ Unit ⊕ Unit → Option R) : spec_AreLocks_D2 i v R K = (spec_AreLocks_D2 i v _ some).bind K := nat_bif (nat_bind fun _ => nat_bind fun _ => nat_bif (nat_some) (nat_bind fun _ => nat_bind fun _ => nat_bif (nat_some) (nat_bif (nat_bind fun _ => nat_bind fun _ => nat_bif (nat_some) (nat_some)) (nat_some)))) (nat_some)

def spec_AreLocks_T2 : Tmpl := Tmpl.mk (TmL.slot (Ty.slice YReadMark) (TmL.junk (TmL.junk (TmL.slot Ty.i (TmL.junk (TmL.junk (TmL.junk (TmL.junk (TmL.junk (TmL.junk (TmL.junk (TmL.junk (TmL.junk
  (TmL.junk (TmL.junk (TmL.junk (TmL.junk (TmL.junk (TmL.junk (TmL.junk (TmL.junk (TmL.junk (TmL.junk (TmL.junk (TmL.junk (TmL.junk (TmL.junk (TmL.junk (TmL.junk (TmL.junk (TmL.junk (TmL.junk (TmL.junk (TmL.junk (TmL.junk (TmL.junk (TmL.junk
  (TmL.junk (TmL.junk (TmL.junk (TmL.junk (TmL.junk (TmL.junk (TmL.junk TmL.nil)))))))))))))))))))))))))))))))))))))))))))) TmH.nil

def spec_AreLocks_X2_0 (i : List (Int × Int × Unit) × Unit) (p : Unit) : St :=
  St.mk [AV.junk, AV.junk, AV.pv Ty.bool false, AV.junk, AV.junk, AV.junk, AV.junk, AV.junk, AV.junk, AV.junk, AV.junk, AV.junk, AV.junk, AV.junk, AV.junk, AV.junk, AV.junk, AV.junk, AV.junk, AV.junk, AV.junk, AV.junk, AV.junk, AV.junk,
  AV.junk, AV.junk, AV.junk, AV.junk, AV.junk, AV.junk, AV.junk, AV.junk, AV.junk, AV.junk, AV.junk, AV.junk, AV.junk, AV.junk, AV.junk, AV.junk, AV.junk, AV.junk, AV.junk, AV.junk] []

def spec_AreLocks_X2_1 (i : List (Int × Int × Unit) × Unit) (p : Unit) : St :=
  St.mk [AV.junk, AV.junk, AV.pv Ty.bool false, AV.junk, AV.junk, AV.junk, AV.junk, AV.junk, AV.junk, AV.junk, AV.junk, AV.junk, AV.junk, AV.junk, AV.junk, AV.junk, AV.junk, AV.junk, AV.junk, AV.junk, AV.junk, AV.junk, AV.junk, AV.junk,
  AV.junk, AV.junk, AV.junk, AV.junk, AV.junk, AV.junk, AV.junk, AV.junk, AV.junk, AV.junk, AV.junk, AV.junk, AV.junk, AV.junk, AV.junk, AV.junk, AV.junk, AV.junk, AV.junk, AV.junk] []

def spec_AreLocks_X2_2 (i : List (Int × Int × Unit) × Unit) (p : Unit) : St :=
  St.mk [AV.junk, AV.junk, AV.pv Ty.bool false, AV.junk, AV.junk, AV.junk, AV.junk, AV.junk, AV.junk, AV.junk, AV.junk, AV.junk, AV.junk, AV.junk, AV.junk, AV.junk, AV.junk, AV.junk, AV.junk, AV.junk, AV.junk, AV.junk, AV.junk, AV.junk,
  AV.junk, AV.junk, AV.junk, AV.junk, AV.junk, AV.junk, AV.junk, AV.junk, AV.junk, AV.junk, AV.junk, AV.junk, AV.junk, AV.junk, AV.junk, AV.junk, AV.junk, AV.junk, AV.junk, AV.junk] []

def spec_AreLocks_X2_3 (i : List (Int × Int × Unit) × Unit) (p : Unit) : St :=
  St.mk [AV.junk, AV.junk, AV.junk, AV.junk, AV.junk, AV.junk, AV.junk, AV.junk, AV.junk, AV.junk, AV.junk, AV.junk, AV.junk, AV.junk, AV.junk, AV.junk, AV.junk, AV.junk, AV.junk, AV.junk, AV.junk, AV.junk, AV.junk, AV.junk, AV.junk, AV.junk,
  AV.junk, AV.junk, AV.junk, AV.junk, AV.junk, AV.junk, AV.junk, AV.junk, AV.junk, AV.junk, AV.junk, AV.junk, AV.junk, AV.junk, AV.junk, AV.junk, AV.junk, AV.junk] []

noncomputable def spec_AreLocks_E2 (i : List (Int × Int × Unit) × Unit) (p : Unit ⊕ Unit ⊕ Unit ⊕ Unit) (R : Type) (K : Ex → St → Option R) : Option R := sumC p (fun p => K (Ex.ret) (spec_AreLocks_X2_0 i p)) (fun p => sumC p (fun p => K (Ex.ret) (spec_AreLocks_X2_1 i p)) (fun p => sumC p (fun p => K (Ex.ret) (spec_AreLocks_X2_2 i p)) (fun p => K (Ex.exit 0) (spec_AreLocks_X2_3 i p))))

noncomputable def spec_AreLocks_K2 (i : List (Int × Int × Unit) × Unit) (p : Unit ⊕ Unit ⊕ Unit ⊕ Unit) : Ex × St := sumC p (fun p => ((Ex.ret), spec_AreLocks_X2_0 i p)) (fun p => sumC p (fun p => ((Ex.ret), spec_AreLocks_X2_1 i p)) (fun p => sumC p (fun p => ((Ex.ret), spec_AreLocks_X2_2 i p)) (fun p => ((Ex.exit 0), spec_AreLocks_X2_3 i p))))

def spec_AreLocks_M2 (i : List (Int × Int × Unit) × Unit) (v : Int × Unit) : den spec_AreLocks_T2.ty := (i.1, v.1, ())

def spec_AreLocks_P2 (x : den spec_AreLocks_T2.ty) : (List (Int × Int × Unit) × Unit) × (Int × Unit) := ((x.1, ()), (x.2.1, ()))

noncomputable def spec_AreLocks_F2 : LoopFn := fun s R K => Tmpl.readS spec_AreLocks_T2 0 s fun x => (iter (fun v => spec_AreLocks_D2 (spec_AreLocks_P2 x).1 v _ some) (spec_AreLocks_P2 x).2).bind fun p => spec_AreLocks_E2 (spec_AreLocks_P2 x).1 p R K

noncomputable def spec_AreLocks_C : Cfg := { ti := g_tis, ents := [spec_l1In_Ent], ann := [(2, spec_AreLocks_F2)], lent := 0 }

def spec_AreLocks_ti : Tmpl := Tmpl.mk (TmL.slot (Ty.slice YReadMark) TmL.nil) TmH.nil

def spec_AreLocks_to : Tmpl := Tmpl.mk (TmL.slot Ty.bool TmL.nil) TmH.nil

noncomputable def spec_AreLocks_S (x : List (Int × Int × Unit) × Unit) : Option (Bool × Unit) :=
  Option.bind (iter (fun v => spec_AreLocks_D2 (x.1, ()) v (Int × Unit ⊕ Unit ⊕ Unit ⊕ Unit ⊕ Unit) some) (0, ())) fun p => sumC p (fun p => some (false, ())) fun p => sumC p (fun p => some (false, ())) fun p => sumC p (fun p => some (false,
  ())) fun p => some (true, ())

noncomputable def spec_AreLocks_Ent : Ent := ⟨118, spec_AreLocks_ti, spec_AreLocks_to, spec_AreLocks_S⟩

theorem spec_AreLocks_HC : CfgOK Go.Proofs.Try.prog spec_AreLocks_C := ⟨⟨info_ok g_tisOK⟩, (all_cons spec_l1In_OK all_nil), g_wide⟩

theorem spec_AreLocks_lk2 : ∀ F, ((spec_AreLocks_C).ann.find? fun x => x.1 == firstId ((loopsOf (codeOf Go.Proofs.Try.f118)).getD 0 .skip)).map (·.2) = some F → LoopOK Go.Proofs.Try.prog spec_AreLocks_C.lent ((loopsOf (codeOf Go.Proofs.Try.f118)).getD 0 .skip) F := by
  refine lookup_ok (show ((spec_AreLocks_C).ann.find? fun x => x.1 == firstId ((loopsOf (codeOf Go.Proofs.Try.f118)).getD 0 .skip)).map (·.2) = some spec_AreLocks_F2 from by kernel_rfl) ?_
  exact loop_ok spec_AreLocks_HC (loops_all 0 (by kernel_rfl) (fun k hk => absurd hk (Nat.not_lt_zero k))) spec_AreLocks_T2 [2] spec_AreLocks_M2 spec_AreLocks_P2 (fun x => rfl) spec_AreLocks_D2 spec_AreLocks_D2_nat spec_AreLocks_E2 spec_AreLocks_K2 (fun i p R K => by rcases p with p | p | p | p <;> rfl) (fun i v => by kernel_rfl)

theorem spec_AreLocks_VC (x : den spec_AreLocks_ti.ty) : vcall spec_AreLocks_C Go.Proofs.Try.f118 spec_AreLocks_ti spec_AreLocks_to x = spec_AreLocks_S x := by kernel_rfl

theorem spec_AreLocks_OK : EntOK Go.Proofs.Try.prog spec_AreLocks_Ent := EntOK.of_vcall spec_AreLocks_HC Go.Proofs.Try.func118 (body_loops (by kernel_rfl) (loops_all 1 (by kernel_rfl) (fun k hk => match k, hk with | 0, _ => spec_AreLocks_lk2))) (by kernel_rfl) (by kernel_rfl) spec_AreLocks_VC

/-! spec.AreWaits -/

noncomputable def spec_AreWaits_D2 (i : List (Int × Int × Unit) × Unit) (v : Int × Unit) (R : Type) (K : Int × Unit ⊕ Unit ⊕ Unit ⊕ Unit ⊕ Unit ⊕ Unit → Option R) : Option R :=
  bif decide (v.1 < (↑(List.length i.1) : Int)) then Option.bind (lAt i.1 v.1) fun v_1 => Option.bind (spec_l1In_S (v_1.1, 1, 9, ())) fun v_2 => bif !v_2.1 then K (Sum.inr (Sum.inl ())) else Option.bind (lAt i.1 v.1) fun v_3 => Option.bind
  (spec_l1In_S (v_3.2.1, 1, 9, ())) fun v_4 => bif !v_4.1 then K (Sum.inr (Sum.inr (Sum.inl ()))) else Option.bind (lAt i.1 v.1) fun v_5 => Option.bind (lAt i.1 v.1) fun v_6 => bif v_5.1 == v_6.2.1 then K (Sum.inr (Sum.inr (Sum.inr (Sum.inl
  ())))) else bif decide (v.1 > 0) then Option.bind (lAt i.1 (IntKind.wrap IntKind.i64 (v.1 - 1))) fun v_7 => Option.bind (lAt i.1 v.1) fun v_8 => bif decide (v_7.1 ≥ v_8.1) then K (Sum.inr (Sum.inr (Sum.inr (Sum.inr (Sum.inl ()))))) else K
  (Sum.inl (IntKind.wrap IntKind.i64 (v.1 + 1), ())) else K (Sum.inl (IntKind.wrap IntKind.i64 (v.1 + 1), ())) else K (Sum.inr (Sum.inr (Sum.inr (Sum.inr (Sum.inr ())))))

theorem spec_AreWaits_D2_nat (i : List (Int × Int × Unit) × Unit) (v : Int × Unit) (R : Type) (K : Int × Unit ⊕ Unit ⊕ Unit ⊕ Unit ⊕ Unit ⊕ Unit → Option R) : spec_AreWaits_D2 i v R K = (spec_AreWaits_D2 i v _ some).bind K := nat_bif (nat_bind fun _ => nat_bind fun _ => nat_bif (nat_some) (nat_bind fun _ => nat_bind fun _ => nat_bif (nat_some) (nat_bind fun _ => nat_bind fun _ => nat_bif (nat_some) (nat_bif (nat_bind fun _ => nat_bind fun _ => nat_bif (nat_some) (nat_some)) (nat_some))))) (nat_some)

def spec_AreWaits_T2 : Tmpl := Tmpl.mk (TmL.slot (Ty.slice YReadMark) (TmL.junk (TmL.junk (TmL.slot Ty.i (TmL.junk (TmL.junk (TmL.junk (TmL.junk (TmL.junk (TmL.junk (TmL.junk (TmL.junk (TmL.junk
  (TmL.junk (TmL.junk (TmL.junk (TmL.junk (TmL.junk (TmL.junk (TmL.junk (TmL.junk (TmL.junk (TmL.junk (TmL.junk (TmL.junk (TmL.junk (TmL.junk (TmL.junk (TmL.junk (TmL.junk (TmL.junk (TmL.junk (TmL.junk (TmL.junk (TmL.junk (TmL.junk (TmL.junk
  (TmL.junk (TmL.junk (TmL.junk (TmL.junk (TmL.junk (TmL.junk (TmL.junk (TmL.junk (TmL.junk (TmL.junk (TmL.junk (TmL.junk (TmL.junk (TmL.junk (TmL.junk (TmL.junk (TmL.junk (TmL.junk (TmL.junk (TmL.junk
  TmL.nil))))))))))))))))))))))))))))))))))))))))))))))))))))))))) TmH.nil

def spec_AreWaits_X2_0 (i : List (Int × Int × Unit) × Unit) (p : Unit) : St :=
  St.mk [AV.junk, AV.junk, AV.pv Ty.bool false, AV.junk, AV.junk, AV.junk, AV.junk, AV.junk, AV.junk, AV.junk, AV.junk, AV.junk, AV.junk, AV.junk, AV.junk, AV.junk, AV.junk, AV.junk, AV.junk, AV.junk, AV.junk, AV.junk, AV.junk, AV.junk,
  AV.junk, AV.junk, AV.junk, AV.junk, AV.junk, AV.junk, AV.junk, AV.junk, AV.junk, AV.junk, AV.junk, AV.junk, AV.junk, AV.junk, AV.junk, AV.junk, AV.junk, AV.junk, AV.junk, AV.junk, AV.junk, AV.junk, AV.junk, AV.junk, AV.junk, AV.junk,
  AV.junk, AV.junk, AV.junk, AV.junk, AV.junk, AV.junk, AV.junk] []

def spec_AreWaits_X2_1 (i : List (Int × Int × Unit) × Unit) (p : Unit) : St :=
  St.mk [AV.junk, AV.junk, AV.pv Ty.bool false, AV.junk, AV.junk, AV.junk, AV.junk, AV.junk, AV.junk, AV.junk, AV.junk, AV.junk, AV.junk, AV.junk, AV.junk, AV.junk, AV.junk, AV.junk, AV.junk, AV.junk, AV.junk, AV.junk, AV.junk, AV.junk,
  AV.junk, AV.junk, AV.junk, AV.junk, AV.junk, AV.junk, AV.junk, AV.junk, AV.junk, AV.junk, AV.junk, AV.junk, AV.junk, AV.junk, AV.junk, AV.junk, AV.junk, AV.junk, AV.junk, AV.junk, AV.junk, AV.junk, AV.junk, AV.junk, AV.junk, AV.junk,
  AV.junk, AV.junk, AV.junk, AV.junk, AV.junk, AV.junk, AV.junk] []

def spec_AreWaits_X2_2 (i : List (Int × Int × Unit) × Unit) (p : Unit) : St :=
  St.mk [AV.junk, AV.junk, AV.pv Ty.bool false, AV.junk, AV.junk, AV.junk, AV.junk, AV.junk, AV.junk, AV.junk, AV.junk, AV.junk, AV.junk, AV.junk, AV.junk, AV.junk, AV.junk, AV.junk, AV.junk, AV.junk, AV.junk, AV.junk, AV.junk, AV.junk,
  AV.junk, AV.junk, AV.junk, AV.junk, AV.junk, AV.junk, AV.junk, AV.junk, AV.junk, AV.junk, AV.junk, AV.junk, AV.junk, AV.junk, AV.junk, AV.junk, AV.junk, AV.junk, AV.junk, AV.junk, AV.junk, AV.junk, AV.junk, AV.junk, AV.junk, AV.junk,
  AV.junk, AV.junk, AV.junk, AV.junk, AV.junk, AV.junk, AV.junk] []

def spec_AreWaits_X2_3 (i : List (Int × Int × Unit) × Unit) (p : Unit) : St :=
  St.mk [AV.junk, AV.junk, AV.pv Ty.bool false, AV.junk, AV.junk, AV.junk, AV.junk, AV.junk, AV.junk, AV.junk, AV.junk, AV.junk, AV.junk, AV.junk, AV.junk, AV.junk, AV.junk, AV.junk, AV.junk, AV.junk, AV.junk, AV.junk, AV.junk, AV.junk,
  AV.junk, AV.junk, AV.junk, AV.junk, AV.junk, AV.junk, AV.junk, AV.junk, AV.junk, AV.junk, AV.junk, AV.junk, AV.junk, AV.junk, AV.junk, AV.junk, AV.junk, AV.junk, AV.junk, AV.junk, AV.junk, AV.junk, AV.junk, AV.junk, AV.junk, AV.junk,
  AV.junk, AV.junk, AV.junk, AV.junk, AV.junk, AV.junk, AV.junk] []

def spec_AreWaits_X2_4 (i : List (Int × Int × Unit) × Unit) (p : Unit) : St :=
  St.mk [AV.junk, AV.junk, AV.junk, AV.junk, AV.junk, AV.junk, AV.junk, AV.junk, AV.junk, AV.junk, AV.junk, AV.junk, AV.junk, AV.junk, AV.junk, AV.junk, AV.junk, AV.junk, AV.junk, AV.junk, AV.junk, AV.junk, AV.junk, AV.junk, AV.junk, AV.junk,
  AV.junk, AV.junk, AV.junk, AV.junk, AV.junk, AV.junk, AV.junk, AV.junk, AV.junk, AV.junk, AV.junk, AV.junk, AV.junk, AV.junk, AV.junk, AV.junk, AV.junk, AV.junk, AV.junk, AV.junk, AV.junk, AV.junk, AV.junk, AV.junk, AV.junk, AV.junk,
  AV.junk, AV.junk, AV.junk, AV.junk, AV.junk] []

noncomputable def spec_AreWaits_E2 (i : List (Int × Int × Unit) × Unit) (p : Unit ⊕ Unit ⊕ Unit ⊕ Unit ⊕ Unit) (R : Type) (K : Ex → St → Option R) : Option R := sumC p (fun p => K (Ex.ret) (spec_AreWaits_X2_0 i p)) (fun p => sumC p (fun p => K (Ex.ret) (spec_AreWaits_X2_1 i p)) (fun p => sumC p (fun p => K (Ex.ret) (spec_AreWaits_X2_2 i p)) (fun p => sumC p (fun p => K (Ex.ret) (spec_AreWaits_X2_3 i p)) (fun p => K (Ex.exit 0) (spec_AreWaits_X2_4 i p)))))

noncomputable def spec_AreWaits_K2 (i : List (Int × Int × Unit) × Unit) (p : Unit ⊕ Unit ⊕ Unit ⊕ Unit ⊕ Unit) : Ex × St := sumC p (fun p => ((Ex.ret), spec_AreWaits_X2_0 i p)) (fun p => sumC p (fun p => ((Ex.ret), spec_AreWaits_X2_1 i p)) (fun p => sumC p (fun p => ((Ex.ret), spec_AreWaits_X2_2 i p)) (fun p => sumC p (fun p => ((Ex.ret), spec_AreWaits_X2_3 i p)) (fun p => ((Ex.exit 0), spec_AreWaits_X2_4 i p)))))

def spec_AreWaits_M2 (i : List (Int × Int × Unit) × Unit) (v : Int × Unit) : den spec_AreWaits_T2.ty := (i.1, v.1, ())

def spec_AreWaits_P2 (x : den spec_AreWaits_T2.ty) : (List (Int × Int × Unit) × Unit) × (Int × Unit) := ((x.1, ()), (x.2.1, ()))

noncomputable def spec_AreWaits_F2 : LoopFn := fun s R K => Tmpl.readS spec_AreWaits_T2 0 s fun x => (iter (fun v => spec_AreWaits_D2 (spec_AreWaits_P2 x).1 v _ some) (spec_AreWaits_P2 x).2).bind fun p => spec_AreWaits_E2 (spec_AreWaits_P2 x).1 p R K

noncomputable def spec_AreWaits_C : Cfg := { ti := g_tis, ents := [spec_l1In_Ent], ann := [(2, spec_AreWaits_F2)], lent := 0 }

def spec_AreWaits_ti : Tmpl := Tmpl.mk (TmL.slot (Ty.slice YReadMark) TmL.nil) TmH.nil

def spec_AreWaits_to : Tmpl := Tmpl.mk (TmL.slot Ty.bool TmL.nil) TmH.nil

noncomputable def spec_AreWaits_S (x : List (Int × Int × Unit) × Unit) : Option (Bool × Unit) :=
  Option.bind (iter (fun v => spec_AreWaits_D2 (x.1, ()) v (Int × Unit ⊕ Unit ⊕ Unit ⊕ Unit ⊕ Unit ⊕ Unit) some) (0, ())) fun p => sumC p (fun p => some (false, ())) fun p => sumC p (fun p => some (false, ())) fun p => sumC p (fun p => some
  (false, ())) fun p => sumC p (fun p => some (false, ())) fun p => some (true, ())

noncomputable def spec_AreWaits_Ent : Ent := ⟨119, spec_AreWaits_ti, spec_AreWaits_to, spec_AreWaits_S⟩

theorem spec_AreWaits_HC : CfgOK Go.Proofs.Try.prog spec_AreWaits_C := ⟨⟨info_ok g_tisOK⟩, (all_cons spec_l1In_OK all_nil), g_wide⟩

theorem spec_AreWaits_lk2 : ∀ F, ((spec_AreWaits_C).ann.find? fun x => x.1 == firstId ((loopsOf (codeOf Go.Proofs.Try.f119)).getD 0 .skip)).map (·.2) = some F → LoopOK Go.Proofs.Try.prog spec_AreWaits_C.lent ((loopsOf (codeOf Go.Proofs.Try.f119)).getD 0 .skip) F := by
  refine lookup_ok (show ((spec_AreWaits_C).ann.find? fun x => x.1 == firstId ((loopsOf (codeOf Go.Proofs.Try.f119)).getD 0 .skip)).map (·.2) = some spec_AreWaits_F2 from by kernel_rfl) ?_
  exact loop_ok spec_AreWaits_HC (loops_all 0 (by kernel_rfl) (fun k hk => absurd hk (Nat.not_lt_zero k))) spec_AreWaits_T2 [2] spec_AreWaits_M2 spec_AreWaits_P2 (fun x => rfl) spec_AreWaits_D2 spec_AreWaits_D2_nat spec_AreWaits_E2 spec_AreWaits_K2 (fun i p R K => by rcases p with p | p | p | p | p <;> rfl) (fun i v => by kernel_rfl)

theorem spec_AreWaits_VC (x : den spec_AreWaits_ti.ty) : vcall spec_AreWaits_C Go.Proofs.Try.f119 spec_AreWaits_ti spec_AreWaits_to x = spec_AreWaits_S x := by kernel_rfl

theorem spec_AreWaits_OK : EntOK Go.Proofs.Try.prog spec_AreWaits_Ent := EntOK.of_vcall spec_AreWaits_HC Go.Proofs.Try.func119 (body_loops (by kernel_rfl) (loops_all 1 (by kernel_rfl) (fun k hk => match k, hk with | 0, _ => spec_AreWaits_lk2))) (by kernel_rfl) (by kernel_rfl) spec_AreWaits_VC

/-! spec.FindTransaction -/

noncomputable def spec_FindTransaction_D2 (i : Int × Bool × List (List (Int × Int × Int × Int × Int × Unit)) × List (Int × Int × Int × Int × Int × Int × Int × List (Int × Int × Unit) × List (Int × Int × Unit) × Unit) × List (Int × Int × Unit) × List (Int × Int × Unit) × Int × Unit) (v : Int × Unit) (R : Type) (K : Int × Unit ⊕ Int × Unit ⊕ Unit → Option R) : Option R :=
  bif decide (v.1 < (↑(List.length i.2.2.2.1) : Int)) then Option.bind (lAt i.2.2.2.1 v.1) fun v_1 => bif v_1.1 == i.1 then K (Sum.inr (Sum.inl (v.1, ()))) else K (Sum.inl (IntKind.wrap IntKind.i64 (v.1 + 1), ())) else K (Sum.inr (Sum.inr ()))

theorem spec_FindTransaction_D2_nat (i : Int × Bool × List (List (Int × Int × Int × Int × Int × Unit)) × List (Int × Int × Int × Int × Int × Int × Int × List (Int × Int × Unit) × List (Int × Int × Unit) × Unit) × List (Int × Int × Unit) × List (Int × Int × Unit) × Int × Unit) (v : Int × Unit) (R : Type) (K : Int × Unit ⊕ Int × Unit ⊕ Unit → Option R) : spec_FindTransaction_D2 i v R K = (spec_FindTransaction_D2 i v _ some).bind K := nat_bif (nat_bind fun _ => nat_bif (nat_some) (nat_some)) (nat_some)

def spec_FindTransaction_T2 : Tmpl := Tmpl.mk (TmL.junk (TmL.slot Ty.i (TmL.ptr 0 0 0 (TmL.junk (TmL.junk (TmL.slot Ty.i (TmL.junk (TmL.junk (TmL.junk (TmL.junk (TmL.junk (TmL.junk (TmL.junk (TmL.junk (TmL.junk (TmL.junk (TmL.junk (TmL.junk
  (TmL.junk (TmL.junk (TmL.junk (TmL.junk TmL.nil)))))))))))))))))))))) (TmH.cells 6 (TmL.slot Ty.bool (TmL.slot (Ty.slice (Ty.slice (Ty.prod Ty.i (Ty.prod Ty.i (Ty.prod Ty.i (Ty.prod (Ty.int
  IntKind.i64) (Ty.prod Ty.i Ty.unit))))))) (TmL.slot (Ty.slice (Ty.prod Ty.i (Ty.prod Ty.i (Ty.prod Ty.i (Ty.prod Ty.i (Ty.prod Ty.i (Ty.prod
  Ty.i (Ty.prod Ty.i (Ty.prod (Ty.slice YReadMark) (Ty.prod (Ty.slice YReadMark)
  Ty.unit)))))))))) (TmL.slot (Ty.slice YReadMark) (TmL.slot (Ty.slice YReadMark) (TmL.slot Ty.i
  TmL.nil)))))) TmH.nil)

def spec_FindTransaction_X2_0 (i : Int × Bool × List (List (Int × Int × Int × Int × Int × Unit)) × List (Int × Int × Int × Int × Int × Int × Int × List (Int × Int × Unit) × List (Int × Int × Unit) × Unit) × List (Int × Int × Unit) × List (Int × Int × Unit) × Int × Unit) (p : Int × Unit) : St :=
  St.mk [AV.junk, AV.junk, AV.junk, AV.junk, AV.pv Ty.i p.1, AV.junk, AV.junk, AV.junk, AV.junk, AV.junk, AV.junk, AV.junk, AV.junk, AV.junk, AV.junk, AV.junk, AV.junk, AV.junk, AV.junk, AV.junk, AV.junk, AV.junk] [some
  (Cont.cells 6 [[AV.pv Ty.bool i.2.1, AV.pv (Ty.slice (Ty.slice YVersion)) i.2.2.1,
  AV.pv (Ty.slice (Ty.prod Ty.i (Ty.prod Ty.i (Ty.prod Ty.i (Ty.prod Ty.i (Ty.prod Ty.i (Ty.prod Ty.i (Ty.prod Ty.i (Ty.prod
  (Ty.slice YReadMark) (Ty.prod (Ty.slice YReadMark) Ty.unit)))))))))) i.2.2.2.1, AV.pv (Ty.slice (Ty.prod (Ty.int
  IntKind.i64) (Ty.prod Ty.i Ty.unit))) i.2.2.2.2.1, AV.pv (Ty.slice YReadMark) i.2.2.2.2.2.1, AV.pv Ty.i i.2.2.2.2.2.2.1]])]

def spec_FindTransaction_X2_1 (i : Int × Bool × List (List (Int × Int × Int × Int × Int × Unit)) × List (Int × Int × Int × Int × Int × Int × Int × List (Int × Int × Unit) × List (Int × Int × Unit) × Unit) × List (Int × Int × Unit) × List (Int × Int × Unit) × Int × Unit) (p : Unit) : St :=
  St.mk [AV.junk, AV.junk, AV.junk, AV.junk, AV.junk, AV.junk, AV.junk, AV.junk, AV.junk, AV.junk, AV.junk, AV.junk, AV.junk, AV.junk, AV.junk, AV.junk, AV.junk, AV.junk, AV.junk, AV.junk, AV.junk, AV.junk] [some (Cont.cells 6 [[AV.pv Ty.bool
  i.2.1, AV.pv (Ty.slice (Ty.slice YVersion)) i.2.2.1, AV.pv (Ty.slice (Ty.prod (Ty.int
  IntKind.i64) (Ty.prod Ty.i (Ty.prod Ty.i (Ty.prod Ty.i (Ty.prod Ty.i (Ty.prod Ty.i (Ty.prod Ty.i (Ty.prod (Ty.slice (Ty.prod Ty.i
  (Ty.prod Ty.i Ty.unit))) (Ty.prod (Ty.slice YReadMark) Ty.unit)))))))))) i.2.2.2.1, AV.pv (Ty.slice (Ty.prod Ty.i (Ty.prod Ty.i
  Ty.unit))) i.2.2.2.2.1, AV.pv (Ty.slice YReadMark) i.2.2.2.2.2.1, AV.pv Ty.i i.2.2.2.2.2.2.1]])]

noncomputable def spec_FindTransaction_E2 (i : Int × Bool × List (List (Int × Int × Int × Int × Int × Unit)) × List (Int × Int × Int × Int × Int × Int × Int × List (Int × Int × Unit) × List (Int × Int × Unit) × Unit) × List (Int × Int × Unit) × List (Int × Int × Unit) × Int × Unit) (p : Int × Unit ⊕ Unit) (R : Type) (K : Ex → St → Option R) : Option R := sumC p (fun p => K (Ex.ret) (spec_FindTransaction_X2_0 i p)) (fun p => K (Ex.exit 0) (spec_FindTransaction_X2_1 i p))

noncomputable def spec_FindTransaction_K2 (i : Int × Bool × List (List (Int × Int × Int × Int × Int × Unit)) × List (Int × Int × Int × Int × Int × Int × Int × List (Int × Int × Unit) × List (Int × Int × Unit) × Unit) × List (Int × Int × Unit) × List (Int × Int × Unit) × Int × Unit) (p : Int × Unit ⊕ Unit) : Ex × St := sumC p (fun p => ((Ex.ret), spec_FindTransaction_X2_0 i p)) (fun p => ((Ex.exit 0), spec_FindTransaction_X2_1 i p))

def spec_FindTransaction_M2 (i : Int × Bool × List (List (Int × Int × Int × Int × Int × Unit)) × List (Int × Int × Int × Int × Int × Int × Int × List (Int × Int × Unit) × List (Int × Int × Unit) × Unit) × List (Int × Int × Unit) × List (Int × Int × Unit) × Int × Unit) (v : Int × Unit) : den spec_FindTransaction_T2.ty := (i.1, v.1, i.2.1, i.2.2.1, i.2.2.2.1, i.2.2.2.2.1, i.2.2.2.2.2.1, i.2.2.2.2.2.2.1, ())

def spec_FindTransaction_P2 (x : den spec_FindTransaction_T2.ty) : (Int × Bool × List (List (Int × Int × Int × Int × Int × Unit)) × List (Int × Int × Int × Int × Int × Int × Int × List (Int × Int × Unit) × List (Int × Int × Unit) × Unit) × List (Int × Int × Unit) × List (Int × Int × Unit) × Int × Unit) × (Int × Unit) := ((x.1, x.2.2.1, x.2.2.2.1, x.2.2.2.2.1, x.2.2.2.2.2.1, x.2.2.2.2.2.2.1, x.2.2.2.2.2.2.2.1, ()), (x.2.1, ()))

noncomputable def spec_FindTransaction_F2 : LoopFn := fun s R K => Tmpl.readS spec_FindTransaction_T2 0 s fun x => (iter (fun v => spec_FindTransaction_D2 (spec_FindTransaction_P2 x).1 v _ some) (spec_FindTransaction_P2 x).2).bind fun p => spec_FindTransaction_E2 (spec_FindTransaction_P2 x).1 p R K

noncomputable def spec_FindTransaction_C : Cfg := { ti := g_tis, ents := [], ann := [(2, spec_FindTransaction_F2)], lent := 0 }

def spec_FindTransaction_ti : Tmpl := Tmpl.mk (TmL.slot (Ty.prod Ty.bool (Ty.prod (Ty.prod (Ty.slice (Ty.slice YVersion))
  Ty.unit) (Ty.prod (Ty.slice (Ty.prod Ty.i (Ty.prod Ty.i (Ty.prod Ty.i (Ty.prod Ty.i (Ty.prod Ty.i (Ty.prod Ty.i (Ty.prod Ty.i
  (Ty.prod (Ty.slice YReadMark) (Ty.prod (Ty.slice YReadMark) Ty.unit)))))))))) (Ty.prod (Ty.slice (Ty.prod (Ty.int
  IntKind.i64) (Ty.prod Ty.i Ty.unit))) (Ty.prod (Ty.slice YReadMark) (Ty.prod Ty.i Ty.unit)))))) (TmL.slot Ty.i TmL.nil)) TmH.nil

def spec_FindTransaction_to : Tmpl := Tmpl.mk (TmL.slot Ty.i TmL.nil) TmH.nil

noncomputable def spec_FindTransaction_S (x : (Bool × (List (List (Int × Int × Int × Int × Int × Unit)) × Unit) × List (Int × Int × Int × Int × Int × Int × Int × List (Int × Int × Unit) × List (Int × Int × Unit) × Unit) × List (Int × Int × Unit) × List (Int × Int × Unit) × Int × Unit) ×
  Int × Unit) : Option (Int × Unit) :=
  Option.bind (iter (fun v => spec_FindTransaction_D2 (x.2.1, x.1.1, x.1.2.1.1, x.1.2.2.1, x.1.2.2.2.1, x.1.2.2.2.2.1, x.1.2.2.2.2.2.1, ()) v (Int × Unit ⊕ Int × Unit ⊕ Unit) some) (0, ())) fun p => sumC p (fun p => some (p.1, ())) fun p =>
  some (-1, ())

noncomputable def spec_FindTransaction_Ent : Ent := ⟨149, spec_FindTransaction_ti, spec_FindTransaction_to, spec_FindTransaction_S⟩

theorem spec_FindTransaction_HC : CfgOK Go.Proofs.Try.prog spec_FindTransaction_C := ⟨⟨info_ok g_tisOK⟩, all_nil, g_wide⟩

theorem spec_FindTransaction_lk2 : ∀ F, ((spec_FindTransaction_C).ann.find? fun x => x.1 == firstId ((loopsOf (codeOf Go.Proofs.Try.f149)).getD 0 .skip)).map (·.2) = some F → LoopOK Go.Proofs.Try.prog spec_FindTransaction_C.lent ((loopsOf (codeOf Go.Proofs.Try.f149)).getD 0 .skip) F := by
  refine lookup_ok (show ((spec_FindTransaction_C).ann.find? fun x => x.1 == firstId ((loopsOf (codeOf Go.Proofs.Try.f149)).getD 0 .skip)).map (·.2) = some spec_FindTransaction_F2 from by kernel_rfl) ?_
  exact loop_ok spec_FindTransaction_HC (loops_all 0 (by kernel_rfl) (fun k hk => absurd hk (Nat.not_lt_zero k))) spec_FindTransaction_T2 [4] spec_FindTransaction_M2 spec_FindTransaction_P2 (fun x => rfl) spec_FindTransaction_D2 spec_FindTransaction_D2_nat spec_FindTransaction_E2 spec_FindTransaction_K2 (fun i p R K => by rcases p with p | p <;> rfl) (fun i v => by kernel_rfl)

theorem spec_FindTransaction_VC (x : den spec_FindTransaction_ti.ty) : vcall spec_FindTransaction_C Go.Proofs.Try.f149 spec_FindTransaction_ti spec_FindTransaction_to x = spec_FindTransaction_S x := by kernel_rfl

theorem spec_FindTransaction_OK : EntOK Go.Proofs.Try.prog spec_FindTransaction_Ent := EntOK.of_vcall spec_FindTransaction_HC Go.Proofs.Try.func149 (body_loops (by kernel_rfl) (loops_all 1 (by kernel_rfl) (fun k hk => match k, hk with | 0, _ => spec_FindTransaction_lk2))) (by kernel_rfl) (by kernel_rfl) spec_FindTransaction_VC

/-! spec.l13Active -/

noncomputable def spec_l13Active_C : Cfg := { ti := g_tis, ents := [spec_FindTransaction_Ent], ann := [], lent := 0 }

def spec_l13Active_ti : Tmpl := Tmpl.mk (TmL.slot (Ty.prod Ty.bool (Ty.prod (Ty.prod (Ty.slice (Ty.slice YVersion))
  Ty.unit) (Ty.prod (Ty.slice (Ty.prod Ty.i (Ty.prod Ty.i (Ty.prod Ty.i (Ty.prod Ty.i (Ty.prod Ty.i (Ty.prod Ty.i (Ty.prod Ty.i
  (Ty.prod (Ty.slice YReadMark) (Ty.prod (Ty.slice YReadMark) Ty.unit)))))))))) (Ty.prod (Ty.slice (Ty.prod (Ty.int
  IntKind.i64) (Ty.prod Ty.i Ty.unit))) (Ty.prod (Ty.slice YReadMark) (Ty.prod Ty.i Ty.unit)))))) (TmL.slot Ty.i TmL.nil)) TmH.nil

def spec_l13Active_to : Tmpl := Tmpl.mk (TmL.slot Ty.bool TmL.nil) TmH.nil

noncomputable def spec_l13Active_S (x : (Bool × (List (List (Int × Int × Int × Int × Int × Unit)) × Unit) × List (Int × Int × Int × Int × Int × Int × Int × List (Int × Int × Unit) × List (Int × Int × Unit) × Unit) × List (Int × Int × Unit) × List (Int × Int × Unit) × Int × Unit) ×
  Int × Unit) : Option (Bool × Unit) :=
  Option.bind (spec_FindTransaction_S ((x.1.1, (x.1.2.1.1, ()), x.1.2.2.1, x.1.2.2.2.1, x.1.2.2.2.2.1, x.1.2.2.2.2.2.1, ()), x.2.1, ())) fun v => bif decide (v.1 ≥ 0) then Option.bind (lAt x.1.2.2.1 v.1) fun v => some (v.2.2.1 == 1, ()) else
  some (false, ())

noncomputable def spec_l13Active_Ent : Ent := ⟨120, spec_l13Active_ti, spec_l13Active_to, spec_l13Active_S⟩

theorem spec_l13Active_HC : CfgOK Go.Proofs.Try.prog spec_l13Active_C := ⟨⟨info_ok g_tisOK⟩, (all_cons spec_FindTransaction_OK all_nil), g_wide⟩

theorem spec_l13Active_VC (x : den spec_l13Active_ti.ty) : vcall spec_l13Active_C Go.Proofs.Try.f120 spec_l13Active_ti spec_l13Active_to x = spec_l13Active_S x := by kernel_rfl

theorem spec_l13Active_OK : EntOK Go.Proofs.Try.prog spec_l13Active_Ent := EntOK.of_vcall spec_l13Active_HC Go.Proofs.Try.func120 (body_loops (by kernel_rfl) (loops_all 0 (by kernel_rfl) (fun k hk => absurd hk (Nat.not_lt_zero k)))) (by kernel_rfl) (by kernel_rfl) spec_l13Active_VC

/-! spec.IsValidEngine -/

noncomputable def spec_IsValidEngine_D4 (i : Bool × List (List (Int × Int × Int × Int × Int × Unit)) × List (Int × Int × Int × Int × Int × Int × Int × List (Int × Int × Unit) × List (Int × Int × Unit) × Unit) × List (Int × Int × Unit) × List (Int × Int × Unit) × Int × Unit) (v : Int × Unit) (R : Type) (K : Int × Unit ⊕ Int × Int × Int × Int × Int × Int × Int × List (Int × Int × Unit) × List (Int × Int × Unit) × Unit ⊕ Int × Int × Int × Int × Int × Int × Int × List (Int × Int × Unit) × List (Int × Int × Unit) × Unit ⊕ Int × Int × Int × Int ×
  Int × Int × Int × List (Int × Int × Unit) × List (Int × Int × Unit) × Unit ⊕ Int × Int × Int × Int × Int × Int × Int × List (Int × Int × Unit) × List (Int × Int × Unit) × Unit ⊕ Int × Int × Int × Int × Int × Int × Int × List (Int × Int ×
  Unit) × List (Int × Int × Unit) × Unit ⊕ Int × Int × Int × Int × Int × Int × Int × List (Int × Int × Unit) × List (Int × Int × Unit) × Unit ⊕ Int × Int × Int × Int × Int × Int × Int × List (Int × Int × Unit) × List (Int × Int × Unit) × Unit
  ⊕ Int × Int × Int × Int × Int × Int × Int × List (Int × Int × Unit) × List (Int × Int × Unit) × Unit ⊕ Unit → Option R) : Option R :=
  bif decide (v.1 < (↑(List.length i.2.2.1) : Int)) then Option.bind (lAt i.2.2.1 v.1) fun v_1 => Option.bind (spec_IsValidTransaction_S ((v_1.1, v_1.2.1, v_1.2.2.1, v_1.2.2.2.1, v_1.2.2.2.2.1, v_1.2.2.2.2.2.1, v_1.2.2.2.2.2.2.1,
  v_1.2.2.2.2.2.2.2.1, v_1.2.2.2.2.2.2.2.2.1, ()), ())) fun v_2 => bif !v_2.1 then K (Sum.inr (Sum.inl (v_1.1, v_1.2.1, v_1.2.2.1, v_1.2.2.2.1, v_1.2.2.2.2.1, v_1.2.2.2.2.2.1, v_1.2.2.2.2.2.2.1, v_1.2.2.2.2.2.2.2.1, v_1.2.2.2.2.2.2.2.2.1,
  ()))) else bif decide (v.1 > 0) then Option.bind (lAt i.2.2.1 (IntKind.wrap IntKind.i64 (v.1 - 1))) fun v_3 => bif decide (v_3.1 ≥ v_1.1) then K (Sum.inr (Sum.inr (Sum.inl (v_1.1, v_1.2.1, v_1.2.2.1, v_1.2.2.2.1, v_1.2.2.2.2.1,
  v_1.2.2.2.2.2.1, v_1.2.2.2.2.2.2.1, v_1.2.2.2.2.2.2.2.1, v_1.2.2.2.2.2.2.2.2.1, ())))) else bif decide (v_1.2.2.2.1 > i.2.2.2.2.2.1) then K (Sum.inr (Sum.inr (Sum.inr (Sum.inl (v_1.1, v_1.2.1, v_1.2.2.1, v_1.2.2.2.1, v_1.2.2.2.2.1,
  v_1.2.2.2.2.2.1, v_1.2.2.2.2.2.2.1, v_1.2.2.2.2.2.2.2.1, v_1.2.2.2.2.2.2.2.2.1, ()))))) else bif decide (v_1.2.2.2.2.2.2.1 > i.2.2.2.2.2.1) then K (Sum.inr (Sum.inr (Sum.inr (Sum.inr (Sum.inl (v_1.1, v_1.2.1, v_1.2.2.1, v_1.2.2.2.1,
  v_1.2.2.2.2.1, v_1.2.2.2.2.2.1, v_1.2.2.2.2.2.2.1, v_1.2.2.2.2.2.2.2.1, v_1.2.2.2.2.2.2.2.2.1, ())))))) else bif v_1.2.2.1 == 1 then Option.bind (spec_ReadsExist_S ((i.2.1, ()), (v_1.1, v_1.2.1, v_1.2.2.1, v_1.2.2.2.1, v_1.2.2.2.2.1,
  v_1.2.2.2.2.2.1, v_1.2.2.2.2.2.2.1, v_1.2.2.2.2.2.2.2.1, v_1.2.2.2.2.2.2.2.2.1, ()), ())) fun v_4 => bif !v_4.1 then K (Sum.inr (Sum.inr (Sum.inr (Sum.inr (Sum.inr (Sum.inl (v_1.1, v_1.2.1, v_1.2.2.1, v_1.2.2.2.1, v_1.2.2.2.2.1,
  v_1.2.2.2.2.2.1, v_1.2.2.2.2.2.2.1, v_1.2.2.2.2.2.2.2.1, v_1.2.2.2.2.2.2.2.2.1, ()))))))) else K (Sum.inl (IntKind.wrap IntKind.i64 (v.1 + 1), ())) else K (Sum.inl (IntKind.wrap IntKind.i64 (v.1 + 1), ())) else bif decide (v_1.2.2.2.1 >
  i.2.2.2.2.2.1) then K (Sum.inr (Sum.inr (Sum.inr (Sum.inr (Sum.inr (Sum.inr (Sum.inl (v_1.1, v_1.2.1, v_1.2.2.1, v_1.2.2.2.1, v_1.2.2.2.2.1, v_1.2.2.2.2.2.1, v_1.2.2.2.2.2.2.1, v_1.2.2.2.2.2.2.2.1, v_1.2.2.2.2.2.2.2.2.1, ())))))))) else bif
  decide (v_1.2.2.2.2.2.2.1 > i.2.2.2.2.2.1) then K (Sum.inr (Sum.inr (Sum.inr (Sum.inr (Sum.inr (Sum.inr (Sum.inr (Sum.inl (v_1.1, v_1.2.1, v_1.2.2.1, v_1.2.2.2.1, v_1.2.2.2.2.1, v_1.2.2.2.2.2.1, v_1.2.2.2.2.2.2.1, v_1.2.2.2.2.2.2.2.1,
  v_1.2.2.2.2.2.2.2.2.1, ()))))))))) else bif v_1.2.2.1 == 1 then Option.bind (spec_ReadsExist_S ((i.2.1, ()), (v_1.1, v_1.2.1, v_1.2.2.1, v_1.2.2.2.1, v_1.2.2.2.2.1, v_1.2.2.2.2.2.1, v_1.2.2.2.2.2.2.1, v_1.2.2.2.2.2.2.2.1,
  v_1.2.2.2.2.2.2.2.2.1, ()), ())) fun v_3 => bif !v_3.1 then K (Sum.inr (Sum.inr (Sum.inr (Sum.inr (Sum.inr (Sum.inr (Sum.inr (Sum.inr (Sum.inl (v_1.1, v_1.2.1, v_1.2.2.1, v_1.2.2.2.1, v_1.2.2.2.2.1, v_1.2.2.2.2.2.1, v_1.2.2.2.2.2.2.1,
  v_1.2.2.2.2.2.2.2.1, v_1.2.2.2.2.2.2.2.2.1, ())))))))))) else K (Sum.inl (IntKind.wrap IntKind.i64 (v.1 + 1), ())) else K (Sum.inl (IntKind.wrap IntKind.i64 (v.1 + 1), ())) else K (Sum.inr (Sum.inr (Sum.inr (Sum.inr (Sum.inr (Sum.inr
  (Sum.inr (Sum.inr (Sum.inr ())))))))))

theorem spec_IsValidEngine_D4_nat (i : Bool × List (List (Int × Int × Int × Int × Int × Unit)) × List (Int × Int × Int × Int × Int × Int × Int × List (Int × Int × Unit) × List (Int × Int × Unit) × Unit) × List (Int × Int × Unit) × List (Int × Int × Unit) × Int × Unit) (v : Int × Unit) (R : Type) (K : Int × Unit ⊕ Int × Int × Int × Int × Int × Int × Int × List (Int × Int × Unit) × List (Int × Int × Unit) × Unit ⊕ Int × Int × Int × Int × Int × Int × Int × List (Int × Int × Unit) × List (Int × Int × Unit) × Unit ⊕ Int × Int × Int × Int ×
  Int × Int × Int × List (Int × Int × Unit) × List (Int × Int × Unit) × Unit ⊕ Int × Int × Int × Int × Int × Int × Int × List (Int × Int × Unit) × List (Int × Int × Unit) × Unit ⊕ Int × Int × Int × Int × Int × Int × Int × List (Int × Int ×
  Unit) × List (Int × Int × Unit) × Unit ⊕ Int × Int × Int × Int × Int × Int × Int × List (Int × Int × Unit) × List (Int × Int × Unit) × Unit ⊕ Int × Int × Int × Int × Int × Int × Int × List (Int × Int × Unit) × List (Int × Int × Unit) × Unit
  ⊕ Int × Int × Int × Int × Int × Int × Int × List (Int × Int × Unit) × List (Int × Int × Unit) × Unit ⊕ Unit → Option R) : spec_IsValidEngine_D4 i v R K = (spec_IsValidEngine_D4 i v _ some).bind K := nat_bif (nat_bind fun _ => nat_bind fun _ => nat_bif (nat_some) (nat_bif (nat_bind fun _ => nat_bif (nat_some) (nat_bif (nat_some) (nat_bif (nat_some) (nat_bif (nat_bind fun _ => nat_bif (nat_some) (nat_some)) (nat_some))))) (nat_bif (nat_some) (nat_bif (nat_some) (nat_bif (nat_bind fun _ => nat_bif (nat_some) (nat_some)) (nat_some)))))) (nat_some)

def spec_IsValidEngine_T4 : Tmpl := Tmpl.mk (TmL.junk (TmL.ptr 0 0 0 (TmL.junk (TmL.slot Ty.i (TmL.junk (TmL.junk (TmL.junk (TmL.junk (TmL.junk (TmL.junk (TmL.junk (TmL.junk (TmL.junk (TmL.junk (TmL.junk (TmL.junk (TmL.junk (TmL.junk (TmL.junk (TmL.junk
  (TmL.junk (TmL.junk (TmL.junk (TmL.junk (TmL.junk (TmL.junk (TmL.junk (TmL.junk (TmL.junk (TmL.junk (TmL.junk (TmL.junk (TmL.junk (TmL.junk (TmL.junk (TmL.junk (TmL.junk (TmL.junk (TmL.junk (TmL.junk (TmL.junk (TmL.junk (TmL.junk (TmL.junk
  (TmL.junk (TmL.junk (TmL.junk (TmL.junk (TmL.junk (TmL.junk (TmL.junk (TmL.junk (TmL.junk (TmL.junk (TmL.junk (TmL.junk (TmL.junk (TmL.junk (TmL.junk (TmL.junk (TmL.junk (TmL.junk (TmL.junk (TmL.junk (TmL.junk (TmL.junk (TmL.junk (TmL.junk
  (TmL.junk (TmL.junk (TmL.junk (TmL.junk (TmL.junk (TmL.junk (TmL.junk (TmL.junk (TmL.junk (TmL.junk (TmL.junk (TmL.junk (TmL.junk (TmL.junk (TmL.junk (TmL.junk (TmL.junk (TmL.junk (TmL.junk (TmL.junk (TmL.junk (TmL.junk (TmL.junk (TmL.junk
  (TmL.junk (TmL.junk (TmL.junk (TmL.junk (TmL.junk (TmL.junk (TmL.junk (TmL.junk (TmL.junk (TmL.junk (TmL.junk (TmL.junk (TmL.junk (TmL.junk (TmL.junk (TmL.junk (TmL.junk (TmL.junk (TmL.junk (TmL.junk (TmL.junk (TmL.junk (TmL.junk (TmL.junk
  (TmL.junk (TmL.junk (TmL.junk (TmL.junk (TmL.junk (TmL.junk (TmL.junk (TmL.junk (TmL.junk (TmL.junk (TmL.junk (TmL.junk (TmL.junk (TmL.junk (TmL.junk (TmL.junk (TmL.junk (TmL.junk (TmL.junk (TmL.junk (TmL.junk (TmL.junk
  TmL.nil)))))))))))))))))))))))))))))))))))))))))))))))))))))))))))))))))))))))))))))))))))))))))))))))))))))))))))))))))))))))))))))))))))))))))) (TmH.cells 6 (TmL.slot Ty.bool (TmL.slot (Ty.slice (Ty.slice (Ty.prod Ty.i
  (Ty.prod Ty.i (Ty.prod Ty.i YReadMark))))) (TmL.slot (Ty.slice (Ty.prod Ty.i (Ty.prod Ty.i (Ty.prod (Ty.int
  IntKind.i64) (Ty.prod Ty.i (Ty.prod Ty.i (Ty.prod Ty.i (Ty.prod Ty.i (Ty.prod (Ty.slice YReadMark) (Ty.prod (Ty.slice
  YReadMark) Ty.unit)))))))))) (TmL.slot (Ty.slice YReadMark) (TmL.slot (Ty.slice (Ty.prod Ty.i (Ty.prod
  Ty.i Ty.unit))) (TmL.slot Ty.i TmL.nil)))))) TmH.nil)

def spec_IsValidEngine_X4_0 (i : Bool × List (List (Int × Int × Int × Int × Int × Unit)) × List (Int × Int × Int × Int × Int × Int × Int × List (Int × Int × Unit) × List (Int × Int × Unit) × Unit) × List (Int × Int × Unit) × List (Int × Int × Unit) × Int × Unit) (p : Int × Int × Int × Int × Int × Int × Int × List (Int × Int × Unit) × List (Int × Int × Unit) × Unit) : St :=
  St.mk [AV.junk, AV.ptr 0 none 0 0, AV.pv Ty.bool false, AV.junk, AV.junk, AV.junk, AV.junk, AV.junk, AV.junk, AV.junk, AV.junk, AV.junk, AV.junk, AV.junk, AV.junk, AV.junk, AV.junk, AV.junk, AV.junk, AV.junk, AV.junk, AV.junk, AV.junk,
  AV.junk, AV.junk, AV.junk, AV.junk, AV.junk, AV.junk, AV.junk, AV.junk, AV.junk, AV.junk, AV.junk, AV.junk, AV.junk, AV.junk, AV.junk, AV.junk, AV.junk, AV.junk, AV.junk, AV.junk, AV.junk, AV.junk, AV.junk, AV.junk, AV.junk, AV.junk,
  AV.junk, AV.junk, AV.junk, AV.junk, AV.junk, AV.junk, AV.junk, AV.junk, AV.junk, AV.junk, AV.junk, AV.junk, AV.junk, AV.junk, AV.junk, AV.junk, AV.junk, AV.junk, AV.junk, AV.junk, AV.junk, AV.junk, AV.junk, AV.junk, AV.junk, AV.junk,
  AV.junk, AV.junk, AV.junk, AV.junk, AV.junk, AV.junk, AV.junk, AV.junk, AV.junk, AV.junk, AV.junk, AV.junk, AV.junk, AV.junk, AV.junk, AV.junk, AV.junk, AV.junk, AV.junk, AV.junk, AV.junk, AV.junk, AV.junk, AV.junk, AV.junk, AV.junk,
  AV.junk, AV.junk, AV.junk, AV.junk, AV.junk, AV.junk, AV.junk, AV.junk, AV.junk, AV.junk, AV.junk, AV.junk, AV.junk, AV.junk, AV.junk, AV.junk, AV.junk, AV.junk, AV.junk, AV.junk, AV.junk, AV.junk, AV.junk, AV.junk, AV.junk, AV.junk,
  AV.junk, AV.junk, AV.junk, AV.junk, AV.junk, AV.junk, AV.junk, AV.junk, AV.junk, AV.junk, AV.junk] [some (Cont.cells 6 [[AV.pv Ty.bool i.1, AV.pv (Ty.slice (Ty.slice (Ty.prod Ty.i (Ty.prod Ty.i (Ty.prod
  Ty.i YReadMark))))) i.2.1, AV.pv (Ty.slice (Ty.prod Ty.i (Ty.prod Ty.i (Ty.prod Ty.i (Ty.prod Ty.i
  (Ty.prod Ty.i (Ty.prod Ty.i (Ty.prod Ty.i (Ty.prod (Ty.slice YReadMark) (Ty.prod (Ty.slice (Ty.prod Ty.i (Ty.prod
  Ty.i Ty.unit))) Ty.unit)))))))))) i.2.2.1, AV.pv (Ty.slice YReadMark) i.2.2.2.1, AV.pv (Ty.slice (Ty.prod Ty.i (Ty.prod Ty.i
  Ty.unit))) i.2.2.2.2.1, AV.pv Ty.i i.2.2.2.2.2.1]]), some (Cont.cells 9 [[AV.pv Ty.i p.1, AV.pv Ty.i p.2.1, AV.pv Ty.i p.2.2.1, AV.pv Ty.i p.2.2.2.1, AV.pv
  Ty.i p.2.2.2.2.1, AV.pv Ty.i p.2.2.2.2.2.1, AV.pv Ty.i p.2.2.2.2.2.2.1, AV.pv (Ty.slice YReadMark) p.2.2.2.2.2.2.2.1, AV.pv (Ty.slice
  YReadMark) p.2.2.2.2.2.2.2.2.1]])]

def spec_IsValidEngine_X4_1 (i : Bool × List (List (Int × Int × Int × Int × Int × Unit)) × List (Int × Int × Int × Int × Int × Int × Int × List (Int × Int × Unit) × List (Int × Int × Unit) × Unit) × List (Int × Int × Unit) × List (Int × Int × Unit) × Int × Unit) (p : Int × Int × Int × Int × Int × Int × Int × List (Int × Int × Unit) × List (Int × Int × Unit) × Unit) : St :=
  St.mk [AV.junk, AV.ptr 0 none 0 0, AV.pv Ty.bool false, AV.junk, AV.junk, AV.junk, AV.junk, AV.junk, AV.junk, AV.junk, AV.junk, AV.junk, AV.junk, AV.junk, AV.junk, AV.junk, AV.junk, AV.junk, AV.junk, AV.junk, AV.junk, AV.junk, AV.junk,
  AV.junk, AV.junk, AV.junk, AV.junk, AV.junk, AV.junk, AV.junk, AV.junk, AV.junk, AV.junk, AV.junk, AV.junk, AV.junk, AV.junk, AV.junk, AV.junk, AV.junk, AV.junk, AV.junk, AV.junk, AV.junk, AV.junk, AV.junk, AV.junk, AV.junk, AV.junk,
  AV.junk, AV.junk, AV.junk, AV.junk, AV.junk, AV.junk, AV.junk, AV.junk, AV.junk, AV.junk, AV.junk, AV.junk, AV.junk, AV.junk, AV.junk, AV.junk, AV.junk, AV.junk, AV.junk, AV.junk, AV.junk, AV.junk, AV.junk, AV.junk, AV.junk, AV.junk,
  AV.junk, AV.junk, AV.junk, AV.junk, AV.junk, AV.junk, AV.junk, AV.junk, AV.junk, AV.junk, AV.junk, AV.junk, AV.junk, AV.junk, AV.junk, AV.junk, AV.junk, AV.junk, AV.junk, AV.junk, AV.junk, AV.junk, AV.junk, AV.junk, AV.junk, AV.junk,
  AV.junk, AV.junk, AV.junk, AV.junk, AV.junk, AV.junk, AV.junk, AV.junk, AV.junk, AV.junk, AV.junk, AV.junk, AV.junk, AV.junk, AV.junk, AV.junk, AV.junk, AV.junk, AV.junk, AV.junk, AV.junk, AV.junk, AV.junk, AV.junk, AV.junk, AV.junk,
  AV.junk, AV.junk, AV.junk, AV.junk, AV.junk, AV.junk, AV.junk, AV.junk, AV.junk, AV.junk, AV.junk] [some (Cont.cells 6 [[AV.pv Ty.bool i.1, AV.pv (Ty.slice (Ty.slice (Ty.prod Ty.i (Ty.prod Ty.i (Ty.prod
  Ty.i YReadMark))))) i.2.1, AV.pv (Ty.slice (Ty.prod Ty.i (Ty.prod Ty.i (Ty.prod Ty.i (Ty.prod Ty.i
  (Ty.prod Ty.i (Ty.prod Ty.i (Ty.prod Ty.i (Ty.prod (Ty.slice YReadMark) (Ty.prod (Ty.slice (Ty.prod Ty.i (Ty.prod
  Ty.i Ty.unit))) Ty.unit)))))))))) i.2.2.1, AV.pv (Ty.slice YReadMark) i.2.2.2.1, AV.pv (Ty.slice (Ty.prod Ty.i (Ty.prod Ty.i
  Ty.unit))) i.2.2.2.2.1, AV.pv Ty.i i.2.2.2.2.2.1]]), some (Cont.cells 9 [[AV.pv Ty.i p.1, AV.pv Ty.i p.2.1, AV.pv Ty.i p.2.2.1, AV.pv Ty.i p.2.2.2.1, AV.pv
  Ty.i p.2.2.2.2.1, AV.pv Ty.i p.2.2.2.2.2.1, AV.pv Ty.i p.2.2.2.2.2.2.1, AV.pv (Ty.slice YReadMark) p.2.2.2.2.2.2.2.1, AV.pv (Ty.slice
  YReadMark) p.2.2.2.2.2.2.2.2.1]])]

def spec_IsValidEngine_X4_2 (i : Bool × List (List (Int × Int × Int × Int × Int × Unit)) × List (Int × Int × Int × Int × Int × Int × Int × List (Int × Int × Unit) × List (Int × Int × Unit) × Unit) × List (Int × Int × Unit) × List (Int × Int × Unit) × Int × Unit) (p : Int × Int × Int × Int × Int × Int × Int × List (Int × Int × Unit) × List (Int × Int × Unit) × Unit) : St :=
  St.mk [AV.junk, AV.ptr 0 none 0 0, AV.pv Ty.bool false, AV.junk, AV.junk, AV.junk, AV.junk, AV.junk, AV.junk, AV.junk, AV.junk, AV.junk, AV.junk, AV.junk, AV.junk, AV.junk, AV.junk, AV.junk, AV.junk, AV.junk, AV.junk, AV.junk, AV.junk,
  AV.junk, AV.junk, AV.junk, AV.junk, AV.junk, AV.junk, AV.junk, AV.junk, AV.junk, AV.junk, AV.junk, AV.junk, AV.junk, AV.junk, AV.junk, AV.junk, AV.junk, AV.junk, AV.junk, AV.junk, AV.junk, AV.junk, AV.junk, AV.junk, AV.junk, AV.junk,
  AV.junk, AV.junk, AV.junk, AV.junk, AV.junk, AV.junk, AV.junk, AV.junk, AV.junk, AV.junk, AV.junk, AV.junk, AV.junk, AV.junk, AV.junk, AV.junk, AV.junk, AV.junk, AV.junk, AV.junk, AV.junk, AV.junk, AV.junk, AV.junk, AV.junk, AV.junk,
  AV.junk, AV.junk, AV.junk, AV.junk, AV.junk, AV.junk, AV.junk, AV.junk, AV.junk, AV.junk, AV.junk, AV.junk, AV.junk, AV.junk, AV.junk, AV.junk, AV.junk, AV.junk, AV.junk, AV.junk, AV.junk, AV.junk, AV.junk, AV.junk, AV.junk, AV.junk,
  AV.junk, AV.junk, AV.junk, AV.junk, AV.junk, AV.junk, AV.junk, AV.junk, AV.junk, AV.junk, AV.junk, AV.junk, AV.junk, AV.junk, AV.junk, AV.junk, AV.junk, AV.junk, AV.junk, AV.junk, AV.junk, AV.junk, AV.junk, AV.junk, AV.junk, AV.junk,
  AV.junk, AV.junk, AV.junk, AV.junk, AV.junk, AV.junk, AV.junk, AV.junk, AV.junk, AV.junk, AV.junk] [some (Cont.cells 6 [[AV.pv Ty.bool i.1, AV.pv (Ty.slice (Ty.slice (Ty.prod Ty.i (Ty.prod Ty.i (Ty.prod
  Ty.i YReadMark))))) i.2.1, AV.pv (Ty.slice (Ty.prod Ty.i (Ty.prod Ty.i (Ty.prod Ty.i (Ty.prod Ty.i
  (Ty.prod Ty.i (Ty.prod Ty.i (Ty.prod Ty.i (Ty.prod (Ty.slice YReadMark) (Ty.prod (Ty.slice (Ty.prod Ty.i (Ty.prod
  Ty.i Ty.unit))) Ty.unit)))))))))) i.2.2.1, AV.pv (Ty.slice YReadMark) i.2.2.2.1, AV.pv (Ty.slice (Ty.prod Ty.i (Ty.prod Ty.i
  Ty.unit))) i.2.2.2.2.1, AV.pv Ty.i i.2.2.2.2.2.1]]), some (Cont.cells 9 [[AV.pv Ty.i p.1, AV.pv Ty.i p.2.1, AV.pv Ty.i p.2.2.1, AV.pv Ty.i p.2.2.2.1, AV.pv
  Ty.i p.2.2.2.2.1, AV.pv Ty.i p.2.2.2.2.2.1, AV.pv Ty.i p.2.2.2.2.2.2.1, AV.pv (Ty.slice YReadMark) p.2.2.2.2.2.2.2.1, AV.pv (Ty.slice
  YReadMark) p.2.2.2.2.2.2.2.2.1]])]

def spec_IsValidEngine_X4_3 (i : Bool × List (List (Int × Int × Int × Int × Int × Unit)) × List (Int × Int × Int × Int × Int × Int × Int × List (Int × Int × Unit) × List (Int × Int × Unit) × Unit) × List (Int × Int × Unit) × List (Int × Int × Unit) × Int × Unit) (p : Int × Int × Int × Int × Int × Int × Int × List (Int × Int × Unit) × List (Int × Int × Unit) × Unit) : St :=
  St.mk [AV.junk, AV.ptr 0 none 0 0, AV.pv Ty.bool false, AV.junk, AV.junk, AV.junk, AV.junk, AV.junk, AV.junk, AV.junk, AV.junk, AV.junk, AV.junk, AV.junk, AV.junk, AV.junk, AV.junk, AV.junk, AV.junk, AV.junk, AV.junk, AV.junk, AV.junk,
  AV.junk, AV.junk, AV.junk, AV.junk, AV.junk, AV.junk, AV.junk, AV.junk, AV.junk, AV.junk, AV.junk, AV.junk, AV.junk, AV.junk, AV.junk, AV.junk, AV.junk, AV.junk, AV.junk, AV.junk, AV.junk, AV.junk, AV.junk, AV.junk, AV.junk, AV.junk,
  AV.junk, AV.junk, AV.junk, AV.junk, AV.junk, AV.junk, AV.junk, AV.junk, AV.junk, AV.junk, AV.junk, AV.junk, AV.junk, AV.junk, AV.junk, AV.junk, AV.junk, AV.junk, AV.junk, AV.junk, AV.junk, AV.junk, AV.junk, AV.junk, AV.junk, AV.junk,
  AV.junk, AV.junk, AV.junk, AV.junk, AV.junk, AV.junk, AV.junk, AV.junk, AV.junk, AV.junk, AV.junk, AV.junk, AV.junk, AV.junk, AV.junk, AV.junk, AV.junk, AV.junk, AV.junk, AV.junk, AV.junk, AV.junk, AV.junk, AV.junk, AV.junk, AV.junk,
  AV.junk, AV.junk, AV.junk, AV.junk, AV.junk, AV.junk, AV.junk, AV.junk, AV.junk, AV.junk, AV.junk, AV.junk, AV.junk, AV.junk, AV.junk, AV.junk, AV.junk, AV.junk, AV.junk, AV.junk, AV.junk, AV.junk, AV.junk, AV.junk, AV.junk, AV.junk,
  AV.junk, AV.junk, AV.junk, AV.junk, AV.junk, AV.junk, AV.junk, AV.junk, AV.junk, AV.junk, AV.junk] [some (Cont.cells 6 [[AV.pv Ty.bool i.1, AV.pv (Ty.slice (Ty.slice (Ty.prod Ty.i (Ty.prod Ty.i (Ty.prod
  Ty.i YReadMark))))) i.2.1, AV.pv (Ty.slice (Ty.prod Ty.i (Ty.prod Ty.i (Ty.prod Ty.i (Ty.prod Ty.i
  (Ty.prod Ty.i (Ty.prod Ty.i (Ty.prod Ty.i (Ty.prod (Ty.slice YReadMark) (Ty.prod (Ty.slice (Ty.prod Ty.i (Ty.prod
  Ty.i Ty.unit))) Ty.unit)))))))))) i.2.2.1, AV.pv (Ty.slice YReadMark) i.2.2.2.1, AV.pv (Ty.slice (Ty.prod Ty.i (Ty.prod Ty.i
  Ty.unit))) i.2.2.2.2.1, AV.pv Ty.i i.2.2.2.2.2.1]]), some (Cont.cells 9 [[AV.pv Ty.i p.1, AV.pv Ty.i p.2.1, AV.pv Ty.i p.2.2.1, AV.pv Ty.i p.2.2.2.1, AV.pv
  Ty.i p.2.2.2.2.1, AV.pv Ty.i p.2.2.2.2.2.1, AV.pv Ty.i p.2.2.2.2.2.2.1, AV.pv (Ty.slice YReadMark) p.2.2.2.2.2.2.2.1, AV.pv (Ty.slice
  YReadMark) p.2.2.2.2.2.2.2.2.1]])]

def spec_IsValidEngine_X4_4 (i : Bool × List (List (Int × Int × Int × Int × Int × Unit)) × List (Int × Int × Int × Int × Int × Int × Int × List (Int × Int × Unit) × List (Int × Int × Unit) × Unit) × List (Int × Int × Unit) × List (Int × Int × Unit) × Int × Unit) (p : Int × Int × Int × Int × Int × Int × Int × List (Int × Int × Unit) × List (Int × Int × Unit) × Unit) : St :=
  St.mk [AV.junk, AV.ptr 0 none 0 0, AV.pv Ty.bool false, AV.junk, AV.junk, AV.junk, AV.junk, AV.junk, AV.junk, AV.junk, AV.junk, AV.junk, AV.junk, AV.junk, AV.junk, AV.junk, AV.junk, AV.junk, AV.junk, AV.junk, AV.junk, AV.junk, AV.junk,
  AV.junk, AV.junk, AV.junk, AV.junk, AV.junk, AV.junk, AV.junk, AV.junk, AV.junk, AV.junk, AV.junk, AV.junk, AV.junk, AV.junk, AV.junk, AV.junk, AV.junk, AV.junk, AV.junk, AV.junk, AV.junk, AV.junk, AV.junk, AV.junk, AV.junk, AV.junk,
  AV.junk, AV.junk, AV.junk, AV.junk, AV.junk, AV.junk, AV.junk, AV.junk, AV.junk, AV.junk, AV.junk, AV.junk, AV.junk, AV.junk, AV.junk, AV.junk, AV.junk, AV.junk, AV.junk, AV.junk, AV.junk, AV.junk, AV.junk, AV.junk, AV.junk, AV.junk,
  AV.junk, AV.junk, AV.junk, AV.junk, AV.junk, AV.junk, AV.junk, AV.junk, AV.junk, AV.junk, AV.junk, AV.junk, AV.junk, AV.junk, AV.junk, AV.junk, AV.junk, AV.junk, AV.junk, AV.junk, AV.junk, AV.junk, AV.junk, AV.junk, AV.junk, AV.junk,
  AV.junk, AV.junk, AV.junk, AV.junk, AV.junk, AV.junk, AV.junk, AV.junk, AV.junk, AV.junk, AV.junk, AV.junk, AV.junk, AV.junk, AV.junk, AV.junk, AV.junk, AV.junk, AV.junk, AV.junk, AV.junk, AV.junk, AV.junk, AV.junk, AV.junk, AV.junk,
  AV.junk, AV.junk, AV.junk, AV.junk, AV.junk, AV.junk, AV.junk, AV.junk, AV.junk, AV.junk, AV.junk] [some (Cont.cells 6 [[AV.pv Ty.bool i.1, AV.pv (Ty.slice (Ty.slice (Ty.prod Ty.i (Ty.prod Ty.i (Ty.prod
  Ty.i YReadMark))))) i.2.1, AV.pv (Ty.slice (Ty.prod Ty.i (Ty.prod Ty.i (Ty.prod Ty.i (Ty.prod Ty.i
  (Ty.prod Ty.i (Ty.prod Ty.i (Ty.prod Ty.i (Ty.prod (Ty.slice YReadMark) (Ty.prod (Ty.slice (Ty.prod Ty.i (Ty.prod
  Ty.i Ty.unit))) Ty.unit)))))))))) i.2.2.1, AV.pv (Ty.slice YReadMark) i.2.2.2.1, AV.pv (Ty.slice (Ty.prod Ty.i (Ty.prod Ty.i
  Ty.unit))) i.2.2.2.2.1, AV.pv Ty.i i.2.2.2.2.2.1]]), some (Cont.cells 9 [[AV.pv Ty.i p.1, AV.pv Ty.i p.2.1, AV.pv Ty.i p.2.2.1, AV.pv Ty.i p.2.2.2.1, AV.pv
  Ty.i p.2.2.2.2.1, AV.pv Ty.i p.2.2.2.2.2.1, AV.pv Ty.i p.2.2.2.2.2.2.1, AV.pv (Ty.slice YReadMark) p.2.2.2.2.2.2.2.1, AV.pv (Ty.slice
  YReadMark) p.2.2.2.2.2.2.2.2.1]])]

def spec_IsValidEngine_X4_5 (i : Bool × List (List (Int × Int × Int × Int × Int × Unit)) × List (Int × Int × Int × Int × Int × Int × Int × List (Int × Int × Unit) × List (Int × Int × Unit) × Unit) × List (Int × Int × Unit) × List (Int × Int × Unit) × Int × Unit) (p : Int × Int × Int × Int × Int × Int × Int × List (Int × Int × Unit) × List (Int × Int × Unit) × Unit) : St :=
  St.mk [AV.junk, AV.ptr 0 none 0 0, AV.pv Ty.bool false, AV.junk, AV.junk, AV.junk, AV.junk, AV.junk, AV.junk, AV.junk, AV.junk, AV.junk, AV.junk, AV.junk, AV.junk, AV.junk, AV.junk, AV.junk, AV.junk, AV.junk, AV.junk, AV.junk, AV.junk,
  AV.junk, AV.junk, AV.junk, AV.junk, AV.junk, AV.junk, AV.junk, AV.junk, AV.junk, AV.junk, AV.junk, AV.junk, AV.junk, AV.junk, AV.junk, AV.junk, AV.junk, AV.junk, AV.junk, AV.junk, AV.junk, AV.junk, AV.junk, AV.junk, AV.junk, AV.junk,
  AV.junk, AV.junk, AV.junk, AV.junk, AV.junk, AV.junk, AV.junk, AV.junk, AV.junk, AV.junk, AV.junk, AV.junk, AV.junk, AV.junk, AV.junk, AV.junk, AV.junk, AV.junk, AV.junk, AV.junk, AV.junk, AV.junk, AV.junk, AV.junk, AV.junk, AV.junk,
  AV.junk, AV.junk, AV.junk, AV.junk, AV.junk, AV.junk, AV.junk, AV.junk, AV.junk, AV.junk, AV.junk, AV.junk, AV.junk, AV.junk, AV.junk, AV.junk, AV.junk, AV.junk, AV.junk, AV.junk, AV.junk, AV.junk, AV.junk, AV.junk, AV.junk, AV.junk,
  AV.junk, AV.junk, AV.junk, AV.junk, AV.junk, AV.junk, AV.junk, AV.junk, AV.junk, AV.junk, AV.junk, AV.junk, AV.junk, AV.junk, AV.junk, AV.junk, AV.junk, AV.junk, AV.junk, AV.junk, AV.junk, AV.junk, AV.junk, AV.junk, AV.junk, AV.junk,
  AV.junk, AV.junk, AV.junk, AV.junk, AV.junk, AV.junk, AV.junk, AV.junk, AV.junk, AV.junk, AV.junk] [some (Cont.cells 6 [[AV.pv Ty.bool i.1, AV.pv (Ty.slice (Ty.slice (Ty.prod Ty.i (Ty.prod Ty.i (Ty.prod
  Ty.i YReadMark))))) i.2.1, AV.pv (Ty.slice (Ty.prod Ty.i (Ty.prod Ty.i (Ty.prod Ty.i (Ty.prod Ty.i
  (Ty.prod Ty.i (Ty.prod Ty.i (Ty.prod Ty.i (Ty.prod (Ty.slice YReadMark) (Ty.prod (Ty.slice (Ty.prod Ty.i (Ty.prod
  Ty.i Ty.unit))) Ty.unit)))))))))) i.2.2.1, AV.pv (Ty.slice YReadMark) i.2.2.2.1, AV.pv (Ty.slice (Ty.prod Ty.i (Ty.prod Ty.i
  Ty.unit))) i.2.2.2.2.1, AV.pv Ty.i i.2.2.2.2.2.1]]), some (Cont.cells 9 [[AV.pv Ty.i p.1, AV.pv Ty.i p.2.1, AV.pv Ty.i p.2.2.1, AV.pv Ty.i p.2.2.2.1, AV.pv
  Ty.i p.2.2.2.2.1, AV.pv Ty.i p.2.2.2.2.2.1, AV.pv Ty.i p.2.2.2.2.2.2.1, AV.pv (Ty.slice YReadMark) p.2.2.2.2.2.2.2.1, AV.pv (Ty.slice
  YReadMark) p.2.2.2.2.2.2.2.2.1]])]

def spec_IsValidEngine_X4_6 (i : Bool × List (List (Int × Int × Int × Int × Int × Unit)) × List (Int × Int × Int × Int × Int × Int × Int × List (Int × Int × Unit) × List (Int × Int × Unit) × Unit) × List (Int × Int × Unit) × List (Int × Int × Unit) × Int × Unit) (p : Int × Int × Int × Int × Int × Int × Int × List (Int × Int × Unit) × List (Int × Int × Unit) × Unit) : St :=
  St.mk [AV.junk, AV.ptr 0 none 0 0, AV.pv Ty.bool false, AV.junk, AV.junk, AV.junk, AV.junk, AV.junk, AV.junk, AV.junk, AV.junk, AV.junk, AV.junk, AV.junk, AV.junk, AV.junk, AV.junk, AV.junk, AV.junk, AV.junk, AV.junk, AV.junk, AV.junk,
  AV.junk, AV.junk, AV.junk, AV.junk, AV.junk, AV.junk, AV.junk, AV.junk, AV.junk, AV.junk, AV.junk, AV.junk, AV.junk, AV.junk, AV.junk, AV.junk, AV.junk, AV.junk, AV.junk, AV.junk, AV.junk, AV.junk, AV.junk, AV.junk, AV.junk, AV.junk,
  AV.junk, AV.junk, AV.junk, AV.junk, AV.junk, AV.junk, AV.junk, AV.junk, AV.junk, AV.junk, AV.junk, AV.junk, AV.junk, AV.junk, AV.junk, AV.junk, AV.junk, AV.junk, AV.junk, AV.junk, AV.junk, AV.junk, AV.junk, AV.junk, AV.junk, AV.junk,
  AV.junk, AV.junk, AV.junk, AV.junk, AV.junk, AV.junk, AV.junk, AV.junk, AV.junk, AV.junk, AV.junk, AV.junk, AV.junk, AV.junk, AV.junk, AV.junk, AV.junk, AV.junk, AV.junk, AV.junk, AV.junk, AV.junk, AV.junk, AV.junk, AV.junk, AV.junk,
  AV.junk, AV.junk, AV.junk, AV.junk, AV.junk, AV.junk, AV.junk, AV.junk, AV.junk, AV.junk, AV.junk, AV.junk, AV.junk, AV.junk, AV.junk, AV.junk, AV.junk, AV.junk, AV.junk, AV.junk, AV.junk, AV.junk, AV.junk, AV.junk, AV.junk, AV.junk,
  AV.junk, AV.junk, AV.junk, AV.junk, AV.junk, AV.junk, AV.junk, AV.junk, AV.junk, AV.junk, AV.junk] [some (Cont.cells 6 [[AV.pv Ty.bool i.1, AV.pv (Ty.slice (Ty.slice (Ty.prod Ty.i (Ty.prod Ty.i (Ty.prod
  Ty.i YReadMark))))) i.2.1, AV.pv (Ty.slice (Ty.prod Ty.i (Ty.prod Ty.i (Ty.prod Ty.i (Ty.prod Ty.i
  (Ty.prod Ty.i (Ty.prod Ty.i (Ty.prod Ty.i (Ty.prod (Ty.slice YReadMark) (Ty.prod (Ty.slice (Ty.prod Ty.i (Ty.prod
  Ty.i Ty.unit))) Ty.unit)))))))))) i.2.2.1, AV.pv (Ty.slice YReadMark) i.2.2.2.1, AV.pv (Ty.slice (Ty.prod Ty.i (Ty.prod Ty.i
  Ty.unit))) i.2.2.2.2.1, AV.pv Ty.i i.2.2.2.2.2.1]]), some (Cont.cells 9 [[AV.pv Ty.i p.1, AV.pv Ty.i p.2.1, AV.pv Ty.i p.2.2.1, AV.pv Ty.i p.2.2.2.1, AV.pv
  Ty.i p.2.2.2.2.1, AV.pv Ty.i p.2.2.2.2.2.1, AV.pv Ty.i p.2.2.2.2.2.2.1, AV.pv (Ty.slice YReadMark) p.2.2.2.2.2.2.2.1, AV.pv (Ty.slice
  YReadMark) p.2.2.2.2.2.2.2.2.1]])]

def spec_IsValidEngine_X4_7 (i : Bool × List (List (Int × Int × Int × Int × Int × Unit)) × List (Int × Int × Int × Int × Int × Int × Int × List (Int × Int × Unit) × List (Int × Int × Unit) × Unit) × List (Int × Int × Unit) × List (Int × Int × Unit) × Int × Unit) (p : Int × Int × Int × Int × Int × Int × Int × List (Int × Int × Unit) × List (Int × Int × Unit) × Unit) : St :=
  St.mk [AV.junk, AV.ptr 0 none 0 0, AV.pv Ty.bool false, AV.junk, AV.junk, AV.junk, AV.junk, AV.junk, AV.junk, AV.junk, AV.junk, AV.junk, AV.junk, AV.junk, AV.junk, AV.junk, AV.junk, AV.junk, AV.junk, AV.junk, AV.junk, AV.junk, AV.junk,
  AV.junk, AV.junk, AV.junk, AV.junk, AV.junk, AV.junk, AV.junk, AV.junk, AV.junk, AV.junk, AV.junk, AV.junk, AV.junk, AV.junk, AV.junk, AV.junk, AV.junk, AV.junk, AV.junk, AV.junk, AV.junk, AV.junk, AV.junk, AV.junk, AV.junk, AV.junk,
  AV.junk, AV.junk, AV.junk, AV.junk, AV.junk, AV.junk, AV.junk, AV.junk, AV.junk, AV.junk, AV.junk, AV.junk, AV.junk, AV.junk, AV.junk, AV.junk, AV.junk, AV.junk, AV.junk, AV.junk, AV.junk, AV.junk, AV.junk, AV.junk, AV.junk, AV.junk,
  AV.junk, AV.junk, AV.junk, AV.junk, AV.junk, AV.junk, AV.junk, AV.junk, AV.junk, AV.junk, AV.junk, AV.junk, AV.junk, AV.junk, AV.junk, AV.junk, AV.junk, AV.junk, AV.junk, AV.junk, AV.junk, AV.junk, AV.junk, AV.junk, AV.junk, AV.junk,
  AV.junk, AV.junk, AV.junk, AV.junk, AV.junk, AV.junk, AV.junk, AV.junk, AV.junk, AV.junk, AV.junk, AV.junk, AV.junk, AV.junk, AV.junk, AV.junk, AV.junk, AV.junk, AV.junk, AV.junk, AV.junk, AV.junk, AV.junk, AV.junk, AV.junk, AV.junk,
  AV.junk, AV.junk, AV.junk, AV.junk, AV.junk, AV.junk, AV.junk, AV.junk, AV.junk, AV.junk, AV.junk] [some (Cont.cells 6 [[AV.pv Ty.bool i.1, AV.pv (Ty.slice (Ty.slice (Ty.prod Ty.i (Ty.prod Ty.i (Ty.prod
  Ty.i YReadMark))))) i.2.1, AV.pv (Ty.slice (Ty.prod Ty.i (Ty.prod Ty.i (Ty.prod Ty.i (Ty.prod Ty.i
  (Ty.prod Ty.i (Ty.prod Ty.i (Ty.prod Ty.i (Ty.prod (Ty.slice YReadMark) (Ty.prod (Ty.slice (Ty.prod Ty.i (Ty.prod
  Ty.i Ty.unit))) Ty.unit)))))))))) i.2.2.1, AV.pv (Ty.slice YReadMark) i.2.2.2.1, AV.pv (Ty.slice (Ty.prod Ty.i (Ty.prod Ty.i
  Ty.unit))) i.2.2.2.2.1, AV.pv Ty.i i.2.2.2.2.2.1]]), some (Cont.cells 9 [[AV.pv Ty.i p.1, AV.pv Ty.i p.2.1, AV.pv Ty.i p.2.2.1, AV.pv Ty.i p.2.2.2.1, AV.pv
  Ty.i p.2.2.2.2.1, AV.pv Ty.i p.2.2.2.2.2.1, AV.pv Ty.i p.2.2.2.2.2.2.1, AV.pv (Ty.slice YReadMark) p.2.2.2.2.2.2.2.1, AV.pv (Ty.slice
  YReadMark) p.2.2.2.2.2.2.2.2.1]])]

def spec_IsValidEngine_X4_8 (i : Bool × List (List (Int × Int × Int × Int × Int × Unit)) × List (Int × Int × Int × Int × Int × Int × Int × List (Int × Int × Unit) × List (Int × Int × Unit) × Unit) × List (Int × Int × Unit) × List (Int × Int × Unit) × Int × Unit) (p : Unit) : St :=
  St.mk [AV.junk, AV.ptr 0 none 0 0, AV.junk, AV.junk, AV.junk, AV.junk, AV.junk, AV.junk, AV.junk, AV.junk, AV.junk, AV.junk, AV.junk, AV.junk, AV.junk, AV.junk, AV.junk, AV.junk, AV.junk, AV.junk, AV.junk, AV.junk, AV.junk, AV.junk, AV.junk,
  AV.junk, AV.junk, AV.junk, AV.junk, AV.junk, AV.junk, AV.junk, AV.junk, AV.junk, AV.junk, AV.junk, AV.junk, AV.junk, AV.junk, AV.junk, AV.junk, AV.junk, AV.junk, AV.junk, AV.junk, AV.junk, AV.junk, AV.junk, AV.junk, AV.junk, AV.junk,
  AV.junk, AV.junk, AV.junk, AV.junk, AV.junk, AV.junk, AV.junk, AV.junk, AV.junk, AV.junk, AV.junk, AV.junk, AV.junk, AV.junk, AV.junk, AV.junk, AV.junk, AV.junk, AV.junk, AV.junk, AV.junk, AV.junk, AV.junk, AV.junk, AV.junk, AV.junk,
  AV.junk, AV.junk, AV.junk, AV.junk, AV.junk, AV.junk, AV.junk, AV.junk, AV.junk, AV.junk, AV.junk, AV.junk, AV.junk, AV.junk, AV.junk, AV.junk, AV.junk, AV.junk, AV.junk, AV.junk, AV.junk, AV.junk, AV.junk, AV.junk, AV.junk, AV.junk,
  AV.junk, AV.junk, AV.junk, AV.junk, AV.junk, AV.junk, AV.junk, AV.junk, AV.junk, AV.junk, AV.junk, AV.junk, AV.junk, AV.junk, AV.junk, AV.junk, AV.junk, AV.junk, AV.junk, AV.junk, AV.junk, AV.junk, AV.junk, AV.junk, AV.junk, AV.junk,
  AV.junk, AV.junk, AV.junk, AV.junk, AV.junk, AV.junk, AV.junk, AV.junk, AV.junk] [some (Cont.cells 6 [[AV.pv Ty.bool i.1, AV.pv (Ty.slice (Ty.slice (Ty.prod Ty.i (Ty.prod Ty.i (Ty.prod Ty.i
  YReadMark))))) i.2.1, AV.pv (Ty.slice (Ty.prod Ty.i (Ty.prod Ty.i (Ty.prod Ty.i (Ty.prod Ty.i (Ty.prod (Ty.int
  IntKind.i64) (Ty.prod Ty.i (Ty.prod Ty.i (Ty.prod (Ty.slice YReadMark) (Ty.prod (Ty.slice (Ty.prod Ty.i (Ty.prod Ty.i
  Ty.unit))) Ty.unit)))))))))) i.2.2.1, AV.pv (Ty.slice YReadMark) i.2.2.2.1, AV.pv (Ty.slice YReadMark) i.2.2.2.2.1, AV.pv
  Ty.i i.2.2.2.2.2.1]])]

noncomputable def spec_IsValidEngine_E4 (i : Bool × List (List (Int × Int × Int × Int × Int × Unit)) × List (Int × Int × Int × Int × Int × Int × Int × List (Int × Int × Unit) × List (Int × Int × Unit) × Unit) × List (Int × Int × Unit) × List (Int × Int × Unit) × Int × Unit) (p : Int × Int × Int × Int × Int × Int × Int × List (Int × Int × Unit) × List (Int × Int × Unit) × Unit ⊕ Int × Int × Int × Int × Int × Int × Int × List (Int × Int × Unit) × List (Int × Int × Unit) × Unit ⊕ Int × Int × Int × Int × Int × Int × Int
  × List (Int × Int × Unit) × List (Int × Int × Unit) × Unit ⊕ Int × Int × Int × Int × Int × Int × Int × List (Int × Int × Unit) × List (Int × Int × Unit) × Unit ⊕ Int × Int × Int × Int × Int × Int × Int × List (Int × Int × Unit) × List (Int ×
  Int × Unit) × Unit ⊕ Int × Int × Int × Int × Int × Int × Int × List (Int × Int × Unit) × List (Int × Int × Unit) × Unit ⊕ Int × Int × Int × Int × Int × Int × Int × List (Int × Int × Unit) × List (Int × Int × Unit) × Unit ⊕ Int × Int × Int ×
  Int × Int × Int × Int × List (Int × Int × Unit) × List (Int × Int × Unit) × Unit ⊕ Unit) (R : Type) (K : Ex → St → Option R) : Option R := sumC p (fun p => K (Ex.ret) (spec_IsValidEngine_X4_0 i p)) (fun p => sumC p (fun p => K (Ex.ret) (spec_IsValidEngine_X4_1 i p)) (fun p => sumC p (fun p => K (Ex.ret) (spec_IsValidEngine_X4_2 i p)) (fun p => sumC p (fun p => K (Ex.ret) (spec_IsValidEngine_X4_3 i p)) (fun p => sumC p (fun p => K (Ex.ret) (spec_IsValidEngine_X4_4 i p)) (fun p => sumC p (fun p => K (Ex.ret) (spec_IsValidEngine_X4_5 i p)) (fun p => sumC p (fun p => K (Ex.ret) (spec_IsValidEngine_X4_6 i p)) (fun p => sumC p (fun p => K (Ex.ret) (spec_IsValidEngine_X4_7 i p)) (fun p => K (Ex.exit 0) (spec_IsValidEngine_X4_8 i p)))))))))

noncomputable def spec_IsValidEngine_K4 (i : Bool × List (List (Int × Int × Int × Int × Int × Unit)) × List (Int × Int × Int × Int × Int × Int × Int × List (Int × Int × Unit) × List (Int × Int × Unit) × Unit) × List (Int × Int × Unit) × List (Int × Int × Unit) × Int × Unit) (p : Int × Int × Int × Int × Int × Int × Int × List (Int × Int × Unit) × List (Int × Int × Unit) × Unit ⊕ Int × Int × Int × Int × Int × Int × Int × List (Int × Int × Unit) × List (Int × Int × Unit) × Unit ⊕ Int × Int × Int × Int × Int × Int × Int
  × List (Int × Int × Unit) × List (Int × Int × Unit) × Unit ⊕ Int × Int × Int × Int × Int × Int × Int × List (Int × Int × Unit) × List (Int × Int × Unit) × Unit ⊕ Int × Int × Int × Int × Int × Int × Int × List (Int × Int × Unit) × List (Int ×
  Int × Unit) × Unit ⊕ Int × Int × Int × Int × Int × Int × Int × List (Int × Int × Unit) × List (Int × Int × Unit) × Unit ⊕ Int × Int × Int × Int × Int × Int × Int × List (Int × Int × Unit) × List (Int × Int × Unit) × Unit ⊕ Int × Int × Int ×
  Int × Int × Int × Int × List (Int × Int × Unit) × List (Int × Int × Unit) × Unit ⊕ Unit) : Ex × St := sumC p (fun p => ((Ex.ret), spec_IsValidEngine_X4_0 i p)) (fun p => sumC p (fun p => ((Ex.ret), spec_IsValidEngine_X4_1 i p)) (fun p => sumC p (fun p => ((Ex.ret), spec_IsValidEngine_X4_2 i p)) (fun p => sumC p (fun p => ((Ex.ret), spec_IsValidEngine_X4_3 i p)) (fun p => sumC p (fun p => ((Ex.ret), spec_IsValidEngine_X4_4 i p)) (fun p => sumC p (fun p => ((Ex.ret), spec_IsValidEngine_X4_5 i p)) (fun p => sumC p (fun p => ((Ex.ret), spec_IsValidEngine_X4_6 i p)) (fun p => sumC p (fun p => ((Ex.ret), spec_IsValidEngine_X4_7 i p)) (fun p => ((Ex.exit 0), spec_IsValidEngine_X4_8 i p)))))))))

def spec_IsValidEngine_M4 (i : Bool × List (List (Int × Int × Int × Int × Int × Unit)) × List (Int × Int × Int × Int × Int × Int × Int × List (Int × Int × Unit) × List (Int × Int × Unit) × Unit) × List (Int × Int × Unit) × List (Int × Int × Unit) × Int × Unit) (v : Int × Unit) : den spec_IsValidEngine_T4.ty := (v.1, i.1, i.2.1, i.2.2.1, i.2.2.2.1, i.2.2.2.2.1, i.2.2.2.2.2.1, ())

def spec_IsValidEngine_P4 (x : den spec_IsValidEngine_T4.ty) : (Bool × List (List (Int × Int × Int × Int × Int × Unit)) × List (Int × Int × Int × Int × Int × Int × Int × List (Int × Int × Unit) × List (Int × Int × Unit) × Unit) × List (Int × Int × Unit) × List (Int × Int × Unit) × Int × Unit) × (Int × Unit) := ((x.2.1, x.2.2.1, x.2.2.2.1, x.2.2.2.2.1, x.2.2.2.2.2.1, x.2.2.2.2.2.2.1, ()), (x.1, ()))

noncomputable def spec_IsValidEngine_F4 : LoopFn := fun s R K => Tmpl.readS spec_IsValidEngine_T4 0 s fun x => (iter (fun v => spec_IsValidEngine_D4 (spec_IsValidEngine_P4 x).1 v _ some) (spec_IsValidEngine_P4 x).2).bind fun p => spec_IsValidEngine_E4 (spec_IsValidEngine_P4 x).1 p R K

noncomputable def spec_IsValidEngine_D10 (i : Bool × List (List (Int × Int × Int × Int × Int × Unit)) × List (Int × Int × Int × Int × Int × Int × Int × List (Int × Int × Unit) × List (Int × Int × Unit) × Unit) × List (Int × Int × Unit) × List (Int × Int × Unit) × Int × Unit) (v : Int × Unit) (R : Type) (K : Int × Unit ⊕ Unit ⊕ Unit → Option R) : Option R :=
  bif decide (v.1 < (↑(List.length i.2.2.2.1) : Int)) then Option.bind (lAt i.2.2.2.1 v.1) fun v_1 => Option.bind (spec_l13Active_S ((i.1, (i.2.1, ()), i.2.2.1, i.2.2.2.1, i.2.2.2.2.1, i.2.2.2.2.2.1, ()), v_1.2.1, ())) fun v_2 => bif !v_2.1
  then K (Sum.inr (Sum.inl ())) else K (Sum.inl (IntKind.wrap IntKind.i64 (v.1 + 1), ())) else K (Sum.inr (Sum.inr ()))

theorem spec_IsValidEngine_D10_nat (i : Bool × List (List (Int × Int × Int × Int × Int × Unit)) × List (Int × Int × Int × Int × Int × Int × Int × List (Int × Int × Unit) × List (Int × Int × Unit) × Unit) × List (Int × Int × Unit) × List (Int × Int × Unit) × Int × Unit) (v : Int × Unit) (R : Type) (K : Int × Unit ⊕ Unit ⊕ Unit → Option R) : spec_IsValidEngine_D10 i v R K = (spec_IsValidEngine_D10 i v _ some).bind K := nat_bif (nat_bind fun _ => nat_bind fun _ => nat_bif (nat_some) (nat_some)) (nat_some)

def spec_IsValidEngine_T10 : Tmpl := Tmpl.mk (TmL.junk (TmL.ptr 0 0 0 (TmL.junk (TmL.junk (TmL.junk (TmL.slot Ty.i (TmL.junk (TmL.junk (TmL.junk (TmL.junk (TmL.junk (TmL.junk (TmL.junk (TmL.junk (TmL.junk (TmL.junk (TmL.junk (TmL.junk (TmL.junk (TmL.junk
  (TmL.junk (TmL.junk (TmL.junk (TmL.junk (TmL.junk (TmL.junk (TmL.junk (TmL.junk (TmL.junk (TmL.junk (TmL.junk (TmL.junk (TmL.junk (TmL.junk (TmL.junk (TmL.junk (TmL.junk (TmL.junk (TmL.junk (TmL.junk (TmL.junk (TmL.junk (TmL.junk (TmL.junk
  (TmL.junk (TmL.junk (TmL.junk (TmL.junk (TmL.junk (TmL.junk (TmL.junk (TmL.junk (TmL.junk (TmL.junk (TmL.junk (TmL.junk (TmL.junk (TmL.junk (TmL.junk (TmL.junk (TmL.junk (TmL.junk (TmL.junk (TmL.junk (TmL.junk (TmL.junk (TmL.junk (TmL.junk
  (TmL.junk (TmL.junk (TmL.junk (TmL.junk (TmL.junk (TmL.junk (TmL.junk (TmL.junk (TmL.junk (TmL.junk (TmL.junk (TmL.junk (TmL.junk (TmL.junk (TmL.junk (TmL.junk (TmL.junk (TmL.junk (TmL.junk (TmL.junk (TmL.junk (TmL.junk (TmL.junk (TmL.junk
  (TmL.junk (TmL.junk (TmL.junk (TmL.junk (TmL.junk (TmL.junk (TmL.junk (TmL.junk (TmL.junk (TmL.junk (TmL.junk (TmL.junk (TmL.junk (TmL.junk (TmL.junk (TmL.junk (TmL.junk (TmL.junk (TmL.junk (TmL.junk (TmL.junk (TmL.junk (TmL.junk (TmL.junk
  (TmL.junk (TmL.junk (TmL.junk (TmL.junk (TmL.junk (TmL.junk (TmL.junk (TmL.junk (TmL.junk (TmL.junk (TmL.junk (TmL.junk (TmL.junk (TmL.junk (TmL.junk (TmL.junk (TmL.junk (TmL.junk (TmL.junk (TmL.junk (TmL.junk (TmL.junk
  TmL.nil)))))))))))))))))))))))))))))))))))))))))))))))))))))))))))))))))))))))))))))))))))))))))))))))))))))))))))))))))))))))))))))))))))))))))) (TmH.cells 6 (TmL.slot Ty.bool (TmL.slot (Ty.slice (Ty.slice (Ty.prod Ty.i
  (Ty.prod Ty.i (Ty.prod Ty.i YReadMark))))) (TmL.slot (Ty.slice (Ty.prod Ty.i (Ty.prod Ty.i (Ty.prod (Ty.int
  IntKind.i64) (Ty.prod Ty.i (Ty.prod Ty.i (Ty.prod Ty.i (Ty.prod Ty.i (Ty.prod (Ty.slice YReadMark) (Ty.prod (Ty.slice
  YReadMark) Ty.unit)))))))))) (TmL.slot (Ty.slice YReadMark) (TmL.slot (Ty.slice (Ty.prod Ty.i (Ty.prod
  Ty.i Ty.unit))) (TmL.slot Ty.i TmL.nil)))))) TmH.nil)

def spec_IsValidEngine_X10_0 (i : Bool × List (List (Int × Int × Int × Int × Int × Unit)) × List (Int × Int × Int × Int × Int × Int × Int × List (Int × Int × Unit) × List (Int × Int × Unit) × Unit) × List (Int × Int × Unit) × List (Int × Int × Unit) × Int × Unit) (p : Unit) : St :=
  St.mk [AV.junk, AV.ptr 0 none 0 0, AV.pv Ty.bool false, AV.junk, AV.junk, AV.junk, AV.junk, AV.junk, AV.junk, AV.junk, AV.junk, AV.junk, AV.junk, AV.junk, AV.junk, AV.junk, AV.junk, AV.junk, AV.junk, AV.junk, AV.junk, AV.junk, AV.junk,
  AV.junk, AV.junk, AV.junk, AV.junk, AV.junk, AV.junk, AV.junk, AV.junk, AV.junk, AV.junk, AV.junk, AV.junk, AV.junk, AV.junk, AV.junk, AV.junk, AV.junk, AV.junk, AV.junk, AV.junk, AV.junk, AV.junk, AV.junk, AV.junk, AV.junk, AV.junk,
  AV.junk, AV.junk, AV.junk, AV.junk, AV.junk, AV.junk, AV.junk, AV.junk, AV.junk, AV.junk, AV.junk, AV.junk, AV.junk, AV.junk, AV.junk, AV.junk, AV.junk, AV.junk, AV.junk, AV.junk, AV.junk, AV.junk, AV.junk, AV.junk, AV.junk, AV.junk,
  AV.junk, AV.junk, AV.junk, AV.junk, AV.junk, AV.junk, AV.junk, AV.junk, AV.junk, AV.junk, AV.junk, AV.junk, AV.junk, AV.junk, AV.junk, AV.junk, AV.junk, AV.junk, AV.junk, AV.junk, AV.junk, AV.junk, AV.junk, AV.junk, AV.junk, AV.junk,
  AV.junk, AV.junk, AV.junk, AV.junk, AV.junk, AV.junk, AV.junk, AV.junk, AV.junk, AV.junk, AV.junk, AV.junk, AV.junk, AV.junk, AV.junk, AV.junk, AV.junk, AV.junk, AV.junk, AV.junk, AV.junk, AV.junk, AV.junk, AV.junk, AV.junk, AV.junk,
  AV.junk, AV.junk, AV.junk, AV.junk, AV.junk, AV.junk, AV.junk, AV.junk, AV.junk, AV.junk, AV.junk] [some (Cont.cells 6 [[AV.pv Ty.bool i.1, AV.pv (Ty.slice (Ty.slice (Ty.prod Ty.i (Ty.prod Ty.i (Ty.prod
  Ty.i YReadMark))))) i.2.1, AV.pv (Ty.slice (Ty.prod Ty.i (Ty.prod Ty.i (Ty.prod Ty.i (Ty.prod Ty.i
  (Ty.prod Ty.i (Ty.prod Ty.i (Ty.prod Ty.i (Ty.prod (Ty.slice YReadMark) (Ty.prod (Ty.slice (Ty.prod Ty.i (Ty.prod
  Ty.i Ty.unit))) Ty.unit)))))))))) i.2.2.1, AV.pv (Ty.slice YReadMark) i.2.2.2.1, AV.pv (Ty.slice (Ty.prod Ty.i (Ty.prod Ty.i
  Ty.unit))) i.2.2.2.2.1, AV.pv Ty.i i.2.2.2.2.2.1]])]

def spec_IsValidEngine_X10_1 (i : Bool × List (List (Int × Int × Int × Int × Int × Unit)) × List (Int × Int × Int × Int × Int × Int × Int × List (Int × Int × Unit) × List (Int × Int × Unit) × Unit) × List (Int × Int × Unit) × List (Int × Int × Unit) × Int × Unit) (p : Unit) : St :=
  St.mk [AV.junk, AV.ptr 0 none 0 0, AV.junk, AV.junk, AV.junk, AV.junk, AV.junk, AV.junk, AV.junk, AV.junk, AV.junk, AV.junk, AV.junk, AV.junk, AV.junk, AV.junk, AV.junk, AV.junk, AV.junk, AV.junk, AV.junk, AV.junk, AV.junk, AV.junk, AV.junk,
  AV.junk, AV.junk, AV.junk, AV.junk, AV.junk, AV.junk, AV.junk, AV.junk, AV.junk, AV.junk, AV.junk, AV.junk, AV.junk, AV.junk, AV.junk, AV.junk, AV.junk, AV.junk, AV.junk, AV.junk, AV.junk, AV.junk, AV.junk, AV.junk, AV.junk, AV.junk,
  AV.junk, AV.junk, AV.junk, AV.junk, AV.junk, AV.junk, AV.junk, AV.junk, AV.junk, AV.junk, AV.junk, AV.junk, AV.junk, AV.junk, AV.junk, AV.junk, AV.junk, AV.junk, AV.junk, AV.junk, AV.junk, AV.junk, AV.junk, AV.junk, AV.junk, AV.junk,
  AV.junk, AV.junk, AV.junk, AV.junk, AV.junk, AV.junk, AV.junk, AV.junk, AV.junk, AV.junk, AV.junk, AV.junk, AV.junk, AV.junk, AV.junk, AV.junk, AV.junk, AV.junk, AV.junk, AV.junk, AV.junk, AV.junk, AV.junk, AV.junk, AV.junk, AV.junk,
  AV.junk, AV.junk, AV.junk, AV.junk, AV.junk, AV.junk, AV.junk, AV.junk, AV.junk, AV.junk, AV.junk, AV.junk, AV.junk, AV.junk, AV.junk, AV.junk, AV.junk, AV.junk, AV.junk, AV.junk, AV.junk, AV.junk, AV.junk, AV.junk, AV.junk, AV.junk,
  AV.junk, AV.junk, AV.junk, AV.junk, AV.junk, AV.junk, AV.junk, AV.junk, AV.junk] [some (Cont.cells 6 [[AV.pv Ty.bool i.1, AV.pv (Ty.slice (Ty.slice (Ty.prod Ty.i (Ty.prod Ty.i (Ty.prod Ty.i
  YReadMark))))) i.2.1, AV.pv (Ty.slice (Ty.prod Ty.i (Ty.prod Ty.i (Ty.prod Ty.i (Ty.prod Ty.i (Ty.prod (Ty.int
  IntKind.i64) (Ty.prod Ty.i (Ty.prod Ty.i (Ty.prod (Ty.slice YReadMark) (Ty.prod (Ty.slice (Ty.prod Ty.i (Ty.prod Ty.i
  Ty.unit))) Ty.unit)))))))))) i.2.2.1, AV.pv (Ty.slice YReadMark) i.2.2.2.1, AV.pv (Ty.slice YReadMark) i.2.2.2.2.1, AV.pv
  Ty.i i.2.2.2.2.2.1]])]

noncomputable def spec_IsValidEngine_E10 (i : Bool × List (List (Int × Int × Int × Int × Int × Unit)) × List (Int × Int × Int × Int × Int × Int × Int × List (Int × Int × Unit) × List (Int × Int × Unit) × Unit) × List (Int × Int × Unit) × List (Int × Int × Unit) × Int × Unit) (p : Unit ⊕ Unit) (R : Type) (K : Ex → St → Option R) : Option R := sumC p (fun p => K (Ex.ret) (spec_IsValidEngine_X10_0 i p)) (fun p => K (Ex.exit 2) (spec_IsValidEngine_X10_1 i p))

noncomputable def spec_IsValidEngine_K10 (i : Bool × List (List (Int × Int × Int × Int × Int × Unit)) × List (Int × Int × Int × Int × Int × Int × Int × List (Int × Int × Unit) × List (Int × Int × Unit) × Unit) × List (Int × Int × Unit) × List (Int × Int × Unit) × Int × Unit) (p : Unit ⊕ Unit) : Ex × St := sumC p (fun p => ((Ex.ret), spec_IsValidEngine_X10_0 i p)) (fun p => ((Ex.exit 2), spec_IsValidEngine_X10_1 i p))

def spec_IsValidEngine_M10 (i : Bool × List (List (Int × Int × Int × Int × Int × Unit)) × List (Int × Int × Int × Int × Int × Int × Int × List (Int × Int × Unit) × List (Int × Int × Unit) × Unit) × List (Int × Int × Unit) × List (Int × Int × Unit) × Int × Unit) (v : Int × Unit) : den spec_IsValidEngine_T10.ty := (v.1, i.1, i.2.1, i.2.2.1, i.2.2.2.1, i.2.2.2.2.1, i.2.2.2.2.2.1, ())

def spec_IsValidEngine_P10 (x : den spec_IsValidEngine_T10.ty) : (Bool × List (List (Int × Int × Int × Int × Int × Unit)) × List (Int × Int × Int × Int × Int × Int × Int × List (Int × Int × Unit) × List (Int × Int × Unit) × Unit) × List (Int × Int × Unit) × List (Int × Int × Unit) × Int × Unit) × (Int × Unit) := ((x.2.1, x.2.2.1, x.2.2.2.1, x.2.2.2.2.1, x.2.2.2.2.2.1, x.2.2.2.2.2.2.1, ()), (x.1, ()))

noncomputable def spec_IsValidEngine_F10 : LoopFn := fun s R K => Tmpl.readS spec_IsValidEngine_T10 0 s fun x => (iter (fun v => spec_IsValidEngine_D10 (spec_IsValidEngine_P10 x).1 v _ some) (spec_IsValidEngine_P10 x).2).bind fun p => spec_IsValidEngine_E10 (spec_IsValidEngine_P10 x).1 p R K

noncomputable def spec_IsValidEngine_D15 (i : Bool × List (List (Int × Int × Int × Int × Int × Unit)) × List (Int × Int × Int × Int × Int × Int × Int × List (Int × Int × Unit) × List (Int × Int × Unit) × Unit) × List (Int × Int × Unit) × List (Int × Int × Unit) × Int × Unit) (v : Int × Unit) (R : Type) (K : Int × Unit ⊕ Unit ⊕ Unit ⊕ Unit → Option R) : Option R :=
  bif decide (v.1 < (↑(List.length i.2.2.2.2.1) : Int)) then Option.bind (lAt i.2.2.2.2.1 v.1) fun v_1 => Option.bind (spec_l13Active_S ((i.1, (i.2.1, ()), i.2.2.1, i.2.2.2.1, i.2.2.2.2.1, i.2.2.2.2.2.1, ()), v_1.1, ())) fun v_2 => bif !v_2.1
  then K (Sum.inr (Sum.inl ())) else Option.bind (lAt i.2.2.2.2.1 v.1) fun v_3 => Option.bind (spec_l13Active_S ((i.1, (i.2.1, ()), i.2.2.1, i.2.2.2.1, i.2.2.2.2.1, i.2.2.2.2.2.1, ()), v_3.2.1, ())) fun v_4 => bif !v_4.1 then K (Sum.inr
  (Sum.inr (Sum.inl ()))) else K (Sum.inl (IntKind.wrap IntKind.i64 (v.1 + 1), ())) else K (Sum.inr (Sum.inr (Sum.inr ())))

theorem spec_IsValidEngine_D15_nat (i : Bool × List (List (Int × Int × Int × Int × Int × Unit)) × List (Int × Int × Int × Int × Int × Int × Int × List (Int × Int × Unit) × List (Int × Int × Unit) × Unit) × List (Int × Int × Unit) × List (Int × Int × Unit) × Int × Unit) (v : Int × Unit) (R : Type) (K : Int × Unit ⊕ Unit ⊕ Unit ⊕ Unit → Option R) : spec_IsValidEngine_D15 i v R K = (spec_IsValidEngine_D15 i v _ some).bind K := nat_bif (nat_bind fun _ => nat_bind fun _ => nat_bif (nat_some) (nat_bind fun _ => nat_bind fun _ => nat_bif (nat_some) (nat_some))) (nat_some)

def spec_IsValidEngine_T15 : Tmpl := Tmpl.mk (TmL.junk (TmL.ptr 0 0 0 (TmL.junk (TmL.junk (TmL.junk (TmL.junk (TmL.slot Ty.i (TmL.junk (TmL.junk (TmL.junk (TmL.junk (TmL.junk (TmL.junk (TmL.junk (TmL.junk (TmL.junk (TmL.junk (TmL.junk (TmL.junk (TmL.junk
  (TmL.junk (TmL.junk (TmL.junk (TmL.junk (TmL.junk (TmL.junk (TmL.junk (TmL.junk (TmL.junk (TmL.junk (TmL.junk (TmL.junk (TmL.junk (TmL.junk (TmL.junk (TmL.junk (TmL.junk (TmL.junk (TmL.junk (TmL.junk (TmL.junk (TmL.junk (TmL.junk (TmL.junk
  (TmL.junk (TmL.junk (TmL.junk (TmL.junk (TmL.junk (TmL.junk (TmL.junk (TmL.junk (TmL.junk (TmL.junk (TmL.junk (TmL.junk (TmL.junk (TmL.junk (TmL.junk (TmL.junk (TmL.junk (TmL.junk (TmL.junk (TmL.junk (TmL.junk (TmL.junk (TmL.junk (TmL.junk
  (TmL.junk (TmL.junk (TmL.junk (TmL.junk (TmL.junk (TmL.junk (TmL.junk (TmL.junk (TmL.junk (TmL.junk (TmL.junk (TmL.junk (TmL.junk (TmL.junk (TmL.junk (TmL.junk (TmL.junk (TmL.junk (TmL.junk (TmL.junk (TmL.junk (TmL.junk (TmL.junk (TmL.junk
  (TmL.junk (TmL.junk (TmL.junk (TmL.junk (TmL.junk (TmL.junk (TmL.junk (TmL.junk (TmL.junk (TmL.junk (TmL.junk (TmL.junk (TmL.junk (TmL.junk (TmL.junk (TmL.junk (TmL.junk (TmL.junk (TmL.junk (TmL.junk (TmL.junk (TmL.junk (TmL.junk (TmL.junk
  (TmL.junk (TmL.junk (TmL.junk (TmL.junk (TmL.junk (TmL.junk (TmL.junk (TmL.junk (TmL.junk (TmL.junk (TmL.junk (TmL.junk (TmL.junk (TmL.junk (TmL.junk (TmL.junk (TmL.junk (TmL.junk (TmL.junk (TmL.junk (TmL.junk (TmL.junk
  TmL.nil)))))))))))))))))))))))))))))))))))))))))))))))))))))))))))))))))))))))))))))))))))))))))))))))))))))))))))))))))))))))))))))))))))))))))) (TmH.cells 6 (TmL.slot Ty.bool (TmL.slot (Ty.slice (Ty.slice (Ty.prod Ty.i
  (Ty.prod Ty.i (Ty.prod Ty.i YReadMark))))) (TmL.slot (Ty.slice (Ty.prod Ty.i (Ty.prod Ty.i (Ty.prod (Ty.int
  IntKind.i64) (Ty.prod Ty.i (Ty.prod Ty.i (Ty.prod Ty.i (Ty.prod Ty.i (Ty.prod (Ty.slice YReadMark) (Ty.prod (Ty.slice
  YReadMark) Ty.unit)))))))))) (TmL.slot (Ty.slice YReadMark) (TmL.slot (Ty.slice (Ty.prod Ty.i (Ty.prod
  Ty.i Ty.unit))) (TmL.slot Ty.i TmL.nil)))))) TmH.nil)

def spec_IsValidEngine_X15_0 (i : Bool × List (List (Int × Int × Int × Int × Int × Unit)) × List (Int × Int × Int × Int × Int × Int × Int × List (Int × Int × Unit) × List (Int × Int × Unit) × Unit) × List (Int × Int × Unit) × List (Int × Int × Unit) × Int × Unit) (p : Unit) : St :=
  St.mk [AV.junk, AV.junk, AV.pv Ty.bool false, AV.junk, AV.junk, AV.junk, AV.junk, AV.junk, AV.junk, AV.junk, AV.junk, AV.junk, AV.junk, AV.junk, AV.junk, AV.junk, AV.junk, AV.junk, AV.junk, AV.junk, AV.junk, AV.junk, AV.junk, AV.junk,
  AV.junk, AV.junk, AV.junk, AV.junk, AV.junk, AV.junk, AV.junk, AV.junk, AV.junk, AV.junk, AV.junk, AV.junk, AV.junk, AV.junk, AV.junk, AV.junk, AV.junk, AV.junk, AV.junk, AV.junk, AV.junk, AV.junk, AV.junk, AV.junk, AV.junk, AV.junk,
  AV.junk, AV.junk, AV.junk, AV.junk, AV.junk, AV.junk, AV.junk, AV.junk, AV.junk, AV.junk, AV.junk, AV.junk, AV.junk, AV.junk, AV.junk, AV.junk, AV.junk, AV.junk, AV.junk, AV.junk, AV.junk, AV.junk, AV.junk, AV.junk, AV.junk, AV.junk,
  AV.junk, AV.junk, AV.junk, AV.junk, AV.junk, AV.junk, AV.junk, AV.junk, AV.junk, AV.junk, AV.junk, AV.junk, AV.junk, AV.junk, AV.junk, AV.junk, AV.junk, AV.junk, AV.junk, AV.junk, AV.junk, AV.junk, AV.junk, AV.junk, AV.junk, AV.junk,
  AV.junk, AV.junk, AV.junk, AV.junk, AV.junk, AV.junk, AV.junk, AV.junk, AV.junk, AV.junk, AV.junk, AV.junk, AV.junk, AV.junk, AV.junk, AV.junk, AV.junk, AV.junk, AV.junk, AV.junk, AV.junk, AV.junk, AV.junk, AV.junk, AV.junk, AV.junk,
  AV.junk, AV.junk, AV.junk, AV.junk, AV.junk, AV.junk, AV.junk, AV.junk, AV.junk, AV.junk] [some (Cont.cells 6 [[AV.pv Ty.bool i.1, AV.pv (Ty.slice (Ty.slice (Ty.prod Ty.i (Ty.prod Ty.i (Ty.prod (Ty.int
  IntKind.i64) YReadMark))))) i.2.1, AV.pv (Ty.slice (Ty.prod Ty.i (Ty.prod Ty.i (Ty.prod Ty.i (Ty.prod Ty.i (Ty.prod
  Ty.i (Ty.prod Ty.i (Ty.prod Ty.i (Ty.prod (Ty.slice YReadMark) (Ty.prod (Ty.slice (Ty.prod Ty.i (Ty.prod (Ty.int
  IntKind.i64) Ty.unit))) Ty.unit)))))))))) i.2.2.1, AV.pv (Ty.slice YReadMark) i.2.2.2.1, AV.pv (Ty.slice YReadMark)
  i.2.2.2.2.1, AV.pv Ty.i i.2.2.2.2.2.1]])]

def spec_IsValidEngine_X15_1 (i : Bool × List (List (Int × Int × Int × Int × Int × Unit)) × List (Int × Int × Int × Int × Int × Int × Int × List (Int × Int × Unit) × List (Int × Int × Unit) × Unit) × List (Int × Int × Unit) × List (Int × Int × Unit) × Int × Unit) (p : Unit) : St :=
  St.mk [AV.junk, AV.junk, AV.pv Ty.bool false, AV.junk, AV.junk, AV.junk, AV.junk, AV.junk, AV.junk, AV.junk, AV.junk, AV.junk, AV.junk, AV.junk, AV.junk, AV.junk, AV.junk, AV.junk, AV.junk, AV.junk, AV.junk, AV.junk, AV.junk, AV.junk,
  AV.junk, AV.junk, AV.junk, AV.junk, AV.junk, AV.junk, AV.junk, AV.junk, AV.junk, AV.junk, AV.junk, AV.junk, AV.junk, AV.junk, AV.junk, AV.junk, AV.junk, AV.junk, AV.junk, AV.junk, AV.junk, AV.junk, AV.junk, AV.junk, AV.junk, AV.junk,
  AV.junk, AV.junk, AV.junk, AV.junk, AV.junk, AV.junk, AV.junk, AV.junk, AV.junk, AV.junk, AV.junk, AV.junk, AV.junk, AV.junk, AV.junk, AV.junk, AV.junk, AV.junk, AV.junk, AV.junk, AV.junk, AV.junk, AV.junk, AV.junk, AV.junk, AV.junk,
  AV.junk, AV.junk, AV.junk, AV.junk, AV.junk, AV.junk, AV.junk, AV.junk, AV.junk, AV.junk, AV.junk, AV.junk, AV.junk, AV.junk, AV.junk, AV.junk, AV.junk, AV.junk, AV.junk, AV.junk, AV.junk, AV.junk, AV.junk, AV.junk, AV.junk, AV.junk,
  AV.junk, AV.junk, AV.junk, AV.junk, AV.junk, AV.junk, AV.junk, AV.junk, AV.junk, AV.junk, AV.junk, AV.junk, AV.junk, AV.junk, AV.junk, AV.junk, AV.junk, AV.junk, AV.junk, AV.junk, AV.junk, AV.junk, AV.junk, AV.junk, AV.junk, AV.junk,
  AV.junk, AV.junk, AV.junk, AV.junk, AV.junk, AV.junk, AV.junk, AV.junk, AV.junk, AV.junk] [some (Cont.cells 6 [[AV.pv Ty.bool i.1, AV.pv (Ty.slice (Ty.slice (Ty.prod Ty.i (Ty.prod Ty.i (Ty.prod (Ty.int
  IntKind.i64) YReadMark))))) i.2.1, AV.pv (Ty.slice (Ty.prod Ty.i (Ty.prod Ty.i (Ty.prod Ty.i (Ty.prod Ty.i (Ty.prod
  Ty.i (Ty.prod Ty.i (Ty.prod Ty.i (Ty.prod (Ty.slice YReadMark) (Ty.prod (Ty.slice (Ty.prod Ty.i (Ty.prod (Ty.int
  IntKind.i64) Ty.unit))) Ty.unit)))))))))) i.2.2.1, AV.pv (Ty.slice YReadMark) i.2.2.2.1, AV.pv (Ty.slice YReadMark)
  i.2.2.2.2.1, AV.pv Ty.i i.2.2.2.2.2.1]])]

def spec_IsValidEngine_X15_2 (i : Bool × List (List (Int × Int × Int × Int × Int × Unit)) × List (Int × Int × Int × Int × Int × Int × Int × List (Int × Int × Unit) × List (Int × Int × Unit) × Unit) × List (Int × Int × Unit) × List (Int × Int × Unit) × Int × Unit) (p : Unit) : St :=
  St.mk [AV.junk, AV.junk, AV.junk, AV.junk, AV.junk, AV.junk, AV.junk, AV.junk, AV.junk, AV.junk, AV.junk, AV.junk, AV.junk, AV.junk, AV.junk, AV.junk, AV.junk, AV.junk, AV.junk, AV.junk, AV.junk, AV.junk, AV.junk, AV.junk, AV.junk, AV.junk,
  AV.junk, AV.junk, AV.junk, AV.junk, AV.junk, AV.junk, AV.junk, AV.junk, AV.junk, AV.junk, AV.junk, AV.junk, AV.junk, AV.junk, AV.junk, AV.junk, AV.junk, AV.junk, AV.junk, AV.junk, AV.junk, AV.junk, AV.junk, AV.junk, AV.junk, AV.junk,
  AV.junk, AV.junk, AV.junk, AV.junk, AV.junk, AV.junk, AV.junk, AV.junk, AV.junk, AV.junk, AV.junk, AV.junk, AV.junk, AV.junk, AV.junk, AV.junk, AV.junk, AV.junk, AV.junk, AV.junk, AV.junk, AV.junk, AV.junk, AV.junk, AV.junk, AV.junk,
  AV.junk, AV.junk, AV.junk, AV.junk, AV.junk, AV.junk, AV.junk, AV.junk, AV.junk, AV.junk, AV.junk, AV.junk, AV.junk, AV.junk, AV.junk, AV.junk, AV.junk, AV.junk, AV.junk, AV.junk, AV.junk, AV.junk, AV.junk, AV.junk, AV.junk, AV.junk,
  AV.junk, AV.junk, AV.junk, AV.junk, AV.junk, AV.junk, AV.junk, AV.junk, AV.junk, AV.junk, AV.junk, AV.junk, AV.junk, AV.junk, AV.junk, AV.junk, AV.junk, AV.junk, AV.junk, AV.junk, AV.junk, AV.junk, AV.junk, AV.junk, AV.junk, AV.junk,
  AV.junk, AV.junk, AV.junk, AV.junk, AV.junk, AV.junk, AV.junk, AV.junk] [some (Cont.cells 6 [[AV.pv Ty.bool i.1, AV.pv (Ty.slice (Ty.slice (Ty.prod Ty.i (Ty.prod Ty.i (Ty.prod Ty.i (Ty.prod
  Ty.i (Ty.prod Ty.i Ty.unit))))))) i.2.1, AV.pv (Ty.slice (Ty.prod Ty.i (Ty.prod Ty.i (Ty.prod Ty.i (Ty.prod Ty.i (Ty.prod Ty.i
  (Ty.prod Ty.i (Ty.prod Ty.i (Ty.prod (Ty.slice YReadMark) (Ty.prod (Ty.slice YReadMark)
  Ty.unit)))))))))) i.2.2.1, AV.pv (Ty.slice YReadMark) i.2.2.2.1, AV.pv (Ty.slice YReadMark) i.2.2.2.2.1, AV.pv (Ty.int
  IntKind.i64) i.2.2.2.2.2.1]])]

noncomputable def spec_IsValidEngine_E15 (i : Bool × List (List (Int × Int × Int × Int × Int × Unit)) × List (Int × Int × Int × Int × Int × Int × Int × List (Int × Int × Unit) × List (Int × Int × Unit) × Unit) × List (Int × Int × Unit) × List (Int × Int × Unit) × Int × Unit) (p : Unit ⊕ Unit ⊕ Unit) (R : Type) (K : Ex → St → Option R) : Option R := sumC p (fun p => K (Ex.ret) (spec_IsValidEngine_X15_0 i p)) (fun p => sumC p (fun p => K (Ex.ret) (spec_IsValidEngine_X15_1 i p)) (fun p => K (Ex.exit 4) (spec_IsValidEngine_X15_2 i p)))

noncomputable def spec_IsValidEngine_K15 (i : Bool × List (List (Int × Int × Int × Int × Int × Unit)) × List (Int × Int × Int × Int × Int × Int × Int × List (Int × Int × Unit) × List (Int × Int × Unit) × Unit) × List (Int × Int × Unit) × List (Int × Int × Unit) × Int × Unit) (p : Unit ⊕ Unit ⊕ Unit) : Ex × St := sumC p (fun p => ((Ex.ret), spec_IsValidEngine_X15_0 i p)) (fun p => sumC p (fun p => ((Ex.ret), spec_IsValidEngine_X15_1 i p)) (fun p => ((Ex.exit 4), spec_IsValidEngine_X15_2 i p)))

def spec_IsValidEngine_M15 (i : Bool × List (List (Int × Int × Int × Int × Int × Unit)) × List (Int × Int × Int × Int × Int × Int × Int × List (Int × Int × Unit) × List (Int × Int × Unit) × Unit) × List (Int × Int × Unit) × List (Int × Int × Unit) × Int × Unit) (v : Int × Unit) : den spec_IsValidEngine_T15.ty := (v.1, i.1, i.2.1, i.2.2.1, i.2.2.2.1, i.2.2.2.2.1, i.2.2.2.2.2.1, ())

def spec_IsValidEngine_P15 (x : den spec_IsValidEngine_T15.ty) : (Bool × List (List (Int × Int × Int × Int × Int × Unit)) × List (Int × Int × Int × Int × Int × Int × Int × List (Int × Int × Unit) × List (Int × Int × Unit) × Unit) × List (Int × Int × Unit) × List (Int × Int × Unit) × Int × Unit) × (Int × Unit) := ((x.2.1, x.2.2.1, x.2.2.2.1, x.2.2.2.2.1, x.2.2.2.2.2.1, x.2.2.2.2.2.2.1, ()), (x.1, ()))

noncomputable def spec_IsValidEngine_F15 : LoopFn := fun s R K => Tmpl.readS spec_IsValidEngine_T15 0 s fun x => (iter (fun v => spec_IsValidEngine_D15 (spec_IsValidEngine_P15 x).1 v _ some) (spec_IsValidEngine_P15 x).2).bind fun p => spec_IsValidEngine_E15 (spec_IsValidEngine_P15 x).1 p R K

noncomputable def spec_IsValidEngine_C : Cfg := { ti := g_tis, ents := [spec_IsValidStore_Ent, spec_AreLocks_Ent, spec_AreWaits_Ent, spec_LastStamp_Ent, spec_l1In_Ent, spec_IsValidTransaction_Ent, spec_ReadsExist_Ent, spec_l13Active_Ent], ann := [(4, spec_IsValidEngine_F4), (10, spec_IsValidEngine_F10), (15, spec_IsValidEngine_F15)], lent := 0 }

def spec_IsValidEngine_ti : Tmpl := Tmpl.mk (TmL.slot (Ty.prod Ty.bool (Ty.prod (Ty.prod (Ty.slice (Ty.slice YVersion))
  Ty.unit) (Ty.prod (Ty.slice (Ty.prod Ty.i (Ty.prod Ty.i (Ty.prod Ty.i (Ty.prod Ty.i (Ty.prod Ty.i (Ty.prod Ty.i (Ty.prod Ty.i
  (Ty.prod (Ty.slice YReadMark) (Ty.prod (Ty.slice YReadMark) Ty.unit)))))))))) (Ty.prod (Ty.slice (Ty.prod (Ty.int
  IntKind.i64) (Ty.prod Ty.i Ty.unit))) (Ty.prod (Ty.slice YReadMark) (Ty.prod Ty.i Ty.unit)))))) TmL.nil) TmH.nil

def spec_IsValidEngine_to : Tmpl := Tmpl.mk (TmL.slot Ty.bool TmL.nil) TmH.nil

noncomputable def spec_IsValidEngine_S (x : (Bool × (List (List (Int × Int × Int × Int × Int × Unit)) × Unit) × List (Int × Int × Int × Int × Int × Int × Int × List (Int × Int × Unit) × List (Int × Int × Unit) × Unit) × List (Int × Int × Unit) × List (Int × Int × Unit) × Int × Unit) ×
  Unit) : Option (Bool × Unit) :=
  Option.bind (spec_IsValidStore_S ((x.1.2.1.1, ()), ())) fun v => bif !v.1 then some (false, ()) else Option.bind (spec_AreLocks_S (x.1.2.2.2.1, ())) fun v => bif !v.1 then some (false, ()) else Option.bind (spec_AreWaits_S (x.1.2.2.2.2.1,
  ())) fun v => bif !v.1 then some (false, ()) else Option.bind (spec_LastStamp_S ((x.1.2.1.1, ()), ())) fun v => Option.bind (spec_l1In_S (x.1.2.2.2.2.2.1, v.1, 999, ())) fun v => bif !v.1 then some (false, ()) else bif decide ((↑(List.length
  x.1.2.2.1) : Int) > 6) then some (false, ()) else Option.bind (iter (fun v => spec_IsValidEngine_D4 (x.1.1, x.1.2.1.1, x.1.2.2.1, x.1.2.2.2.1, x.1.2.2.2.2.1, x.1.2.2.2.2.2.1, ()) v (Int × Unit ⊕ Int × Int × Int × Int × Int × Int × Int × List
  (Int × Int × Unit) × List (Int × Int × Unit) × Unit ⊕ Int × Int × Int × Int × Int × Int × Int × List (Int × Int × Unit) × List (Int × Int × Unit) × Unit ⊕ Int × Int × Int × Int × Int × Int × Int × List (Int × Int × Unit) × List (Int × Int ×
  Unit) × Unit ⊕ Int × Int × Int × Int × Int × Int × Int × List (Int × Int × Unit) × List (Int × Int × Unit) × Unit ⊕ Int × Int × Int × Int × Int × Int × Int × List (Int × Int × Unit) × List (Int × Int × Unit) × Unit ⊕ Int × Int × Int × Int ×
  Int × Int × Int × List (Int × Int × Unit) × List (Int × Int × Unit) × Unit ⊕ Int × Int × Int × Int × Int × Int × Int × List (Int × Int × Unit) × List (Int × Int × Unit) × Unit ⊕ Int × Int × Int × Int × Int × Int × Int × List (Int × Int ×
  Unit) × List (Int × Int × Unit) × Unit ⊕ Unit) some) (0, ())) fun p => sumC p (fun p => some (false, ())) fun p => sumC p (fun p => some (false, ())) fun p => sumC p (fun p => some (false, ())) fun p => sumC p (fun p => some (false, ())) fun
  p => sumC p (fun p => some (false, ())) fun p => sumC p (fun p => some (false, ())) fun p => sumC p (fun p => some (false, ())) fun p => sumC p (fun p => some (false, ())) fun p => Option.bind (iter (fun v => spec_IsValidEngine_D10 (x.1.1,
  x.1.2.1.1, x.1.2.2.1, x.1.2.2.2.1, x.1.2.2.2.2.1, x.1.2.2.2.2.2.1, ()) v (Int × Unit ⊕ Unit ⊕ Unit) some) (0, ())) fun p => sumC p (fun p => some (false, ())) fun p => Option.bind (iter (fun v => spec_IsValidEngine_D15 (x.1.1, x.1.2.1.1,
  x.1.2.2.1, x.1.2.2.2.1, x.1.2.2.2.2.1, x.1.2.2.2.2.2.1, ()) v (Int × Unit ⊕ Unit ⊕ Unit ⊕ Unit) some) (0, ())) fun p => sumC p (fun p => some (false, ())) fun p => sumC p (fun p => some (false, ())) fun p => some (true, ())

noncomputable def spec_IsValidEngine_Ent : Ent := ⟨80, spec_IsValidEngine_ti, spec_IsValidEngine_to, spec_IsValidEngine_S⟩

theorem spec_IsValidEngine_HC : CfgOK Go.Proofs.Try.prog spec_IsValidEngine_C := ⟨⟨info_ok g_tisOK⟩, (all_cons spec_IsValidStore_OK (all_cons spec_AreLocks_OK (all_cons spec_AreWaits_OK (all_cons spec_LastStamp_OK (all_cons spec_l1In_OK (all_cons spec_IsValidTransaction_OK (all_cons spec_ReadsExist_OK (all_cons spec_l13Active_OK all_nil)))))))), g_wide⟩

theorem spec_IsValidEngine_lk15 : ∀ F, ((spec_IsValidEngine_C).ann.find? fun x => x.1 == firstId ((loopsOf (codeOf Go.Proofs.Try.f80)).getD 2 .skip)).map (·.2) = some F → LoopOK Go.Proofs.Try.prog spec_IsValidEngine_C.lent ((loopsOf (codeOf Go.Proofs.Try.f80)).getD 2 .skip) F := by
  refine lookup_ok (show ((spec_IsValidEngine_C).ann.find? fun x => x.1 == firstId ((loopsOf (codeOf Go.Proofs.Try.f80)).getD 2 .skip)).map (·.2) = some spec_IsValidEngine_F15 from by kernel_rfl) ?_
  exact loop_ok spec_IsValidEngine_HC (loops_all 0 (by kernel_rfl) (fun k hk => absurd hk (Nat.not_lt_zero k))) spec_IsValidEngine_T15 [2] spec_IsValidEngine_M15 spec_IsValidEngine_P15 (fun x => rfl) spec_IsValidEngine_D15 spec_IsValidEngine_D15_nat spec_IsValidEngine_E15 spec_IsValidEngine_K15 (fun i p R K => by rcases p with p | p | p <;> rfl) (fun i v => by kernel_rfl)

theorem spec_IsValidEngine_lk10 : ∀ F, ((spec_IsValidEngine_C).ann.find? fun x => x.1 == firstId ((loopsOf (codeOf Go.Proofs.Try.f80)).getD 1 .skip)).map (·.2) = some F → LoopOK Go.Proofs.Try.prog spec_IsValidEngine_C.lent ((loopsOf (codeOf Go.Proofs.Try.f80)).getD 1 .skip) F := by
  refine lookup_ok (show ((spec_IsValidEngine_C).ann.find? fun x => x.1 == firstId ((loopsOf (codeOf Go.Proofs.Try.f80)).getD 1 .skip)).map (·.2) = some spec_IsValidEngine_F10 from by kernel_rfl) ?_
  exact loop_ok spec_IsValidEngine_HC (loops_all 0 (by kernel_rfl) (fun k hk => absurd hk (Nat.not_lt_zero k))) spec_IsValidEngine_T10 [1, 2] spec_IsValidEngine_M10 spec_IsValidEngine_P10 (fun x => rfl) spec_IsValidEngine_D10 spec_IsValidEngine_D10_nat spec_IsValidEngine_E10 spec_IsValidEngine_K10 (fun i p R K => by rcases p with p | p <;> rfl) (fun i v => by kernel_rfl)

theorem spec_IsValidEngine_lk4 : ∀ F, ((spec_IsValidEngine_C).ann.find? fun x => x.1 == firstId ((loopsOf (codeOf Go.Proofs.Try.f80)).getD 0 .skip)).map (·.2) = some F → LoopOK Go.Proofs.Try.prog spec_IsValidEngine_C.lent ((loopsOf (codeOf Go.Proofs.Try.f80)).getD 0 .skip) F := by
  refine lookup_ok (show ((spec_IsValidEngine_C).ann.find? fun x => x.1 == firstId ((loopsOf (codeOf Go.Proofs.Try.f80)).getD 0 .skip)).map (·.2) = some spec_IsValidEngine_F4 from by kernel_rfl) ?_
  exact loop_ok spec_IsValidEngine_HC (loops_all 0 (by kernel_rfl) (fun k hk => absurd hk (Nat.not_lt_zero k))) spec_IsValidEngine_T4 [1, 2] spec_IsValidEngine_M4 spec_IsValidEngine_P4 (fun x => rfl) spec_IsValidEngine_D4 spec_IsValidEngine_D4_nat spec_IsValidEngine_E4 spec_IsValidEngine_K4 (fun i p R K => by rcases p with p | p | p | p | p | p | p | p | p <;> rfl) (fun i v => by kernel_rfl)

theorem spec_IsValidEngine_VC (x : den spec_IsValidEngine_ti.ty) : vcall spec_IsValidEngine_C Go.Proofs.Try.f80 spec_IsValidEngine_ti spec_IsValidEngine_to x = spec_IsValidEngine_S x := by kernel_rfl

theorem spec_IsValidEngine_OK : EntOK Go.Proofs.Try.prog spec_IsValidEngine_Ent := EntOK.of_vcall spec_IsValidEngine_HC Go.Proofs.Try.func80 (body_loops (by kernel_rfl) (loops_all 3 (by kernel_rfl) (fun k hk => match k, hk with | 0, _ => spec_IsValidEngine_lk4 | 1, _ => spec_IsValidEngine_lk10 | 2, _ => spec_IsValidEngine_lk15))) (by kernel_rfl) (by kernel_rfl) spec_IsValidEngine_VC

/-! spec.WindowSum -/

noncomputable def spec_WindowSum_D3 (i : Bool × List (List (Int × Int × Int × Int × Int × Unit)) × List (Int × Int × Int × Int × Int × Int × Int × List (Int × Int × Unit) × List (Int × Int × Unit) × Unit) × List (Int × Int × Unit) × List (Int × Int × Unit) × Int × Unit) (v : Int × Int × Unit) (R : Type) (K : Int × Int × Unit ⊕ Int × Unit ⊕ Int × Unit → Option R) : Option R :=
  bif decide (v.2.1 < (↑(List.length i.2.2.1) : Int)) then Option.bind (spec_IsValidEngine_S ((i.1, (i.2.1, ()), i.2.2.1, i.2.2.2.1, i.2.2.2.2.1, i.2.2.2.2.2.1, ()), ())) fun v_1 => bif v_1.1 then Option.bind (lAt i.2.2.1 v.2.1) fun v_2 => bif
  v_2.2.2.1 == 2 then Option.bind (lAt i.2.2.1 v.2.1) fun v_3 => Option.bind (lAt i.2.2.1 v.2.1) fun v_4 => K (Sum.inl (IntKind.wrap IntKind.i64 (IntKind.wrap IntKind.i64 (v.1 + v_3.2.2.2.2.2.1) - v_4.2.2.2.2.1), IntKind.wrap IntKind.i64
  (v.2.1 + 1), ())) else K (Sum.inl (v.1, IntKind.wrap IntKind.i64 (v.2.1 + 1), ())) else K (Sum.inr (Sum.inl (v.1, ()))) else K (Sum.inr (Sum.inr (v.1, ())))

theorem spec_WindowSum_D3_nat (i : Bool × List (List (Int × Int × Int × Int × Int × Unit)) × List (Int × Int × Int × Int × Int × Int × Int × List (Int × Int × Unit) × List (Int × Int × Unit) × Unit) × List (Int × Int × Unit) × List (Int × Int × Unit) × Int × Unit) (v : Int × Int × Unit) (R : Type) (K : Int × Int × Unit ⊕ Int × Unit ⊕ Int × Unit → Option R) : spec_WindowSum_D3 i v R K = (spec_WindowSum_D3 i v _ some).bind K := nat_bif (nat_bind fun _ => nat_bif (nat_bind fun _ => nat_bif (nat_bind fun _ => nat_bind fun _ => nat_some) (nat_some)) (nat_some)) (nat_some)

def spec_WindowSum_T3 : Tmpl := Tmpl.mk (TmL.junk (TmL.ptr 0 0 0 (TmL.junk (TmL.slot Ty.i (TmL.slot Ty.i (TmL.junk (TmL.junk (TmL.junk (TmL.junk (TmL.junk (TmL.junk (TmL.junk (TmL.junk (TmL.junk (TmL.junk (TmL.junk (TmL.junk (TmL.junk
  (TmL.junk (TmL.junk (TmL.junk (TmL.junk (TmL.junk (TmL.junk (TmL.junk (TmL.junk (TmL.junk (TmL.junk (TmL.junk (TmL.junk (TmL.junk (TmL.junk (TmL.junk (TmL.junk (TmL.junk (TmL.junk (TmL.junk (TmL.junk (TmL.junk
  TmL.nil))))))))))))))))))))))))))))))))))))))) (TmH.cells 6 (TmL.slot Ty.bool (TmL.slot (Ty.slice (Ty.slice (Ty.prod Ty.i (Ty.prod Ty.i (Ty.prod Ty.i (Ty.prod Ty.i (Ty.prod
  Ty.i Ty.unit))))))) (TmL.slot (Ty.slice (Ty.prod Ty.i (Ty.prod Ty.i (Ty.prod Ty.i (Ty.prod Ty.i (Ty.prod Ty.i (Ty.prod Ty.i
  (Ty.prod Ty.i (Ty.prod (Ty.slice YReadMark) (Ty.prod (Ty.slice YReadMark) Ty.unit)))))))))) (TmL.slot
  (Ty.slice YReadMark) (TmL.slot (Ty.slice YReadMark) (TmL.slot Ty.i TmL.nil)))))) TmH.nil)

def spec_WindowSum_X3_0 (i : Bool × List (List (Int × Int × Int × Int × Int × Unit)) × List (Int × Int × Int × Int × Int × Int × Int × List (Int × Int × Unit) × List (Int × Int × Unit) × Unit) × List (Int × Int × Unit) × List (Int × Int × Unit) × Int × Unit) (p : Int × Unit) : St :=
  St.mk [AV.junk, AV.junk, AV.junk, AV.pv Ty.i p.1, AV.junk, AV.junk, AV.junk, AV.junk, AV.junk, AV.junk, AV.junk, AV.junk, AV.junk, AV.junk, AV.junk, AV.junk, AV.junk, AV.junk, AV.junk, AV.junk, AV.junk, AV.junk, AV.junk,
  AV.junk, AV.junk, AV.junk, AV.junk, AV.junk, AV.junk, AV.junk, AV.junk, AV.junk, AV.junk, AV.junk, AV.junk, AV.junk, AV.junk, AV.junk, AV.junk] [some (Cont.cells 6 [[AV.pv Ty.bool i.1, AV.pv (Ty.slice (Ty.slice (Ty.prod Ty.i
  (Ty.prod Ty.i (Ty.prod Ty.i YReadMark))))) i.2.1, AV.pv (Ty.slice (Ty.prod Ty.i (Ty.prod Ty.i (Ty.prod (Ty.int
  IntKind.i64) (Ty.prod Ty.i (Ty.prod Ty.i (Ty.prod Ty.i (Ty.prod Ty.i (Ty.prod (Ty.slice YReadMark) (Ty.prod (Ty.slice
  YReadMark) Ty.unit)))))))))) i.2.2.1, AV.pv (Ty.slice YReadMark) i.2.2.2.1, AV.pv (Ty.slice (Ty.prod Ty.i
  (Ty.prod Ty.i Ty.unit))) i.2.2.2.2.1, AV.pv Ty.i i.2.2.2.2.2.1]])]

def spec_WindowSum_X3_1 (i : Bool × List (List (Int × Int × Int × Int × Int × Unit)) × List (Int × Int × Int × Int × Int × Int × Int × List (Int × Int × Unit) × List (Int × Int × Unit) × Unit) × List (Int × Int × Unit) × List (Int × Int × Unit) × Int × Unit) (p : Int × Unit) : St :=
  St.mk [AV.junk, AV.junk, AV.junk, AV.pv Ty.i p.1, AV.junk, AV.junk, AV.junk, AV.junk, AV.junk, AV.junk, AV.junk, AV.junk, AV.junk, AV.junk, AV.junk, AV.junk, AV.junk, AV.junk, AV.junk, AV.junk, AV.junk, AV.junk, AV.junk,
  AV.junk, AV.junk, AV.junk, AV.junk, AV.junk, AV.junk, AV.junk, AV.junk, AV.junk, AV.junk, AV.junk, AV.junk, AV.junk, AV.junk, AV.junk, AV.junk] [some (Cont.cells 6 [[AV.pv Ty.bool i.1, AV.pv (Ty.slice (Ty.slice (Ty.prod Ty.i
  (Ty.prod Ty.i (Ty.prod Ty.i YReadMark))))) i.2.1, AV.pv (Ty.slice (Ty.prod Ty.i (Ty.prod Ty.i (Ty.prod (Ty.int
  IntKind.i64) (Ty.prod Ty.i (Ty.prod Ty.i (Ty.prod Ty.i (Ty.prod Ty.i (Ty.prod (Ty.slice YReadMark) (Ty.prod (Ty.slice
  YReadMark) Ty.unit)))))))))) i.2.2.1, AV.pv (Ty.slice YReadMark) i.2.2.2.1, AV.pv (Ty.slice (Ty.prod Ty.i
  (Ty.prod Ty.i Ty.unit))) i.2.2.2.2.1, AV.pv Ty.i i.2.2.2.2.2.1]])]

noncomputable def spec_WindowSum_E3 (i : Bool × List (List (Int × Int × Int × Int × Int × Unit)) × List (Int × Int × Int × Int × Int × Int × Int × List (Int × Int × Unit) × List (Int × Int × Unit) × Unit) × List (Int × Int × Unit) × List (Int × Int × Unit) × Int × Unit) (p : Int × Unit ⊕ Int × Unit) (R : Type) (K : Ex → St → Option R) : Option R := sumC p (fun p => K (Ex.exit 0) (spec_WindowSum_X3_0 i p)) (fun p => K (Ex.exit 0) (spec_WindowSum_X3_1 i p))

noncomputable def spec_WindowSum_K3 (i : Bool × List (List (Int × Int × Int × Int × Int × Unit)) × List (Int × Int × Int × Int × Int × Int × Int × List (Int × Int × Unit) × List (Int × Int × Unit) × Unit) × List (Int × Int × Unit) × List (Int × Int × Unit) × Int × Unit) (p : Int × Unit ⊕ Int × Unit) : Ex × St := sumC p (fun p => ((Ex.exit 0), spec_WindowSum_X3_0 i p)) (fun p => ((Ex.exit 0), spec_WindowSum_X3_1 i p))

def spec_WindowSum_M3 (i : Bool × List (List (Int × Int × Int × Int × Int × Unit)) × List (Int × Int × Int × Int × Int × Int × Int × List (Int × Int × Unit) × List (Int × Int × Unit) × Unit) × List (Int × Int × Unit) × List (Int × Int × Unit) × Int × Unit) (v : Int × Int × Unit) : den spec_WindowSum_T3.ty := (v.1, v.2.1, i.1, i.2.1, i.2.2.1, i.2.2.2.1, i.2.2.2.2.1, i.2.2.2.2.2.1, ())

def spec_WindowSum_P3 (x : den spec_WindowSum_T3.ty) : (Bool × List (List (Int × Int × Int × Int × Int × Unit)) × List (Int × Int × Int × Int × Int × Int × Int × List (Int × Int × Unit) × List (Int × Int × Unit) × Unit) × List (Int × Int × Unit) × List (Int × Int × Unit) × Int × Unit) × (Int × Int × Unit) := ((x.2.2.1, x.2.2.2.1, x.2.2.2.2.1, x.2.2.2.2.2.1, x.2.2.2.2.2.2.1, x.2.2.2.2.2.2.2.1, ()), (x.1, x.2.1, ()))

noncomputable def spec_WindowSum_F3 : LoopFn := fun s R K => Tmpl.readS spec_WindowSum_T3 0 s fun x => (iter (fun v => spec_WindowSum_D3 (spec_WindowSum_P3 x).1 v _ some) (spec_WindowSum_P3 x).2).bind fun p => spec_WindowSum_E3 (spec_WindowSum_P3 x).1 p R K

noncomputable def spec_WindowSum_C : Cfg := { ti := g_tis, ents := [spec_IsValidEngine_Ent], ann := [(3, spec_WindowSum_F3)], lent := 0 }

def spec_WindowSum_ti : Tmpl := Tmpl.mk (TmL.slot (Ty.prod Ty.bool (Ty.prod (Ty.prod (Ty.slice (Ty.slice YVersion))
  Ty.unit) (Ty.prod (Ty.slice (Ty.prod Ty.i (Ty.prod Ty.i (Ty.prod Ty.i (Ty.prod Ty.i (Ty.prod Ty.i (Ty.prod Ty.i (Ty.prod Ty.i
  (Ty.prod (Ty.slice YReadMark) (Ty.prod (Ty.slice YReadMark) Ty.unit)))))))))) (Ty.prod (Ty.slice (Ty.prod (Ty.int
  IntKind.i64) (Ty.prod Ty.i Ty.unit))) (Ty.prod (Ty.slice YReadMark) (Ty.prod Ty.i Ty.unit)))))) TmL.nil) TmH.nil

def spec_WindowSum_to : Tmpl := Tmpl.mk (TmL.slot Ty.i TmL.nil) TmH.nil

noncomputable def spec_WindowSum_S (x : (Bool × (List (List (Int × Int × Int × Int × Int × Unit)) × Unit) × List (Int × Int × Int × Int × Int × Int × Int × List (Int × Int × Unit) × List (Int × Int × Unit) × Unit) × List (Int × Int × Unit) × List (Int × Int × Unit) × Int × Unit) ×
  Unit) : Option (Int × Unit) :=
  Option.bind (iter (fun v => spec_WindowSum_D3 (x.1.1, x.1.2.1.1, x.1.2.2.1, x.1.2.2.2.1, x.1.2.2.2.2.1, x.1.2.2.2.2.2.1, ()) v (Int × Int × Unit ⊕ Int × Unit ⊕ Int × Unit) some) (0, 0, ())) fun p => sumC p (fun p => some (p.1, ())) fun p =>
  some (p.1, ())

noncomputable def spec_WindowSum_Ent : Ent := ⟨34, spec_WindowSum_ti, spec_WindowSum_to, spec_WindowSum_S⟩

theorem spec_WindowSum_HC : CfgOK Go.Proofs.Try.prog spec_WindowSum_C := ⟨⟨info_ok g_tisOK⟩, (all_cons spec_IsValidEngine_OK all_nil), g_wide⟩

theorem spec_WindowSum_lk3 : ∀ F, ((spec_WindowSum_C).ann.find? fun x => x.1 == firstId ((loopsOf (codeOf Go.Proofs.Try.f34)).getD 0 .skip)).map (·.2) = some F → LoopOK Go.Proofs.Try.prog spec_WindowSum_C.lent ((loopsOf (codeOf Go.Proofs.Try.f34)).getD 0 .skip) F := by
  refine lookup_ok (show ((spec_WindowSum_C).ann.find? fun x => x.1 == firstId ((loopsOf (codeOf Go.Proofs.Try.f34)).getD 0 .skip)).map (·.2) = some spec_WindowSum_F3 from by kernel_rfl) ?_
  exact loop_ok spec_WindowSum_HC (loops_all 0 (by kernel_rfl) (fun k hk => absurd hk (Nat.not_lt_zero k))) spec_WindowSum_T3 [3] spec_WindowSum_M3 spec_WindowSum_P3 (fun x => rfl) spec_WindowSum_D3 spec_WindowSum_D3_nat spec_WindowSum_E3 spec_WindowSum_K3 (fun i p R K => by rcases p with p | p <;> rfl) (fun i v => by kernel_rfl)

theorem spec_WindowSum_VC (x : den spec_WindowSum_ti.ty) : vcall spec_WindowSum_C Go.Proofs.Try.f34 spec_WindowSum_ti spec_WindowSum_to x = spec_WindowSum_S x := by kernel_rfl

theorem spec_WindowSum_OK : EntOK Go.Proofs.Try.prog spec_WindowSum_Ent := EntOK.of_vcall spec_WindowSum_HC Go.Proofs.Try.func34 (body_loops (by kernel_rfl) (loops_all 1 (by kernel_rfl) (fun k hk => match k, hk with | 0, _ => spec_WindowSum_lk3))) (by kernel_rfl) (by kernel_rfl) spec_WindowSum_VC

/-! impl.AreLocks -/

noncomputable def impl_AreLocks_D2 (i : List (Int × Int × Unit) × List (Int × Int × Unit) × Int × Unit) (v : Int × Unit) (R : Type) (K : Int × Unit ⊕ Int × Int × Unit ⊕ Int × Int × Unit ⊕ Int × Int × Unit ⊕ Unit → Option R) : Option R :=
  bif decide (v.1 < i.2.2.1) then Option.bind (lAt i.2.1 v.1) fun v_1 => Option.bind (impl_isKey_S (v_1.1, ())) fun v_2 => bif !v_2.1 then K (Sum.inr (Sum.inl (v_1.1, v_1.2.1, ()))) else Option.bind (impl_isID_S (v_1.2.1, ())) fun v_3 => bif
  !v_3.1 then K (Sum.inr (Sum.inr (Sum.inl (v_1.1, v_1.2.1, ())))) else bif decide (v.1 > 0) then Option.bind (lAt i.1 (IntKind.wrap IntKind.i64 (v.1 - 1))) fun v_4 => bif decide (v_4.1 ≥ v_1.1) then K (Sum.inr (Sum.inr (Sum.inr (Sum.inl
  (v_1.1, v_1.2.1, ()))))) else K (Sum.inl (IntKind.wrap IntKind.i64 (v.1 + 1), ())) else K (Sum.inl (IntKind.wrap IntKind.i64 (v.1 + 1), ())) else K (Sum.inr (Sum.inr (Sum.inr (Sum.inr ()))))

theorem impl_AreLocks_D2_nat (i : List (Int × Int × Unit) × List (Int × Int × Unit) × Int × Unit) (v : Int × Unit) (R : Type) (K : Int × Unit ⊕ Int × Int × Unit ⊕ Int × Int × Unit ⊕ Int × Int × Unit ⊕ Unit → Option R) : impl_AreLocks_D2 i v R K = (impl_AreLocks_D2 i v _ some).bind K := nat_bif (nat_bind fun _ => nat_bind fun _ => nat_bif (nat_some) (nat_bind fun _ => nat_bif (nat_some) (nat_bif (nat_bind fun _ => nat_bif (nat_some) (nat_some)) (nat_some)))) (nat_some)

def impl_AreLocks_T2 : Tmpl := Tmpl.mk (TmL.slot (Ty.slice YReadMark) (TmL.junk (TmL.junk (TmL.junk (TmL.junk (TmL.slot (Ty.slice YReadMark) (TmL.slot
  Ty.i (TmL.slot Ty.i (TmL.junk (TmL.junk (TmL.junk (TmL.junk (TmL.junk (TmL.junk (TmL.junk (TmL.junk (TmL.junk (TmL.junk (TmL.junk (TmL.junk (TmL.junk (TmL.junk (TmL.junk (TmL.junk (TmL.junk (TmL.junk (TmL.junk
  (TmL.junk (TmL.junk (TmL.junk (TmL.junk (TmL.junk (TmL.junk (TmL.junk (TmL.junk (TmL.junk (TmL.junk (TmL.junk TmL.nil)))))))))))))))))))))))))))))))))))))) TmH.nil

def impl_AreLocks_X2_0 (i : List (Int × Int × Unit) × List (Int × Int × Unit) × Int × Unit) (p : Int × Int × Unit) : St :=
  St.mk [AV.junk, AV.junk, AV.pv Ty.bool false, AV.junk, AV.junk, AV.junk, AV.junk, AV.junk, AV.junk, AV.junk, AV.junk, AV.junk, AV.junk, AV.junk, AV.junk, AV.junk, AV.junk, AV.junk, AV.junk, AV.junk, AV.junk, AV.junk, AV.junk, AV.junk,
  AV.junk, AV.junk, AV.junk, AV.junk, AV.junk, AV.junk, AV.junk, AV.junk, AV.junk, AV.junk, AV.junk, AV.junk, AV.junk, AV.junk] [some (Cont.cells 2 [[AV.pv Ty.i p.1, AV.pv Ty.i p.2.1]])]

def impl_AreLocks_X2_1 (i : List (Int × Int × Unit) × List (Int × Int × Unit) × Int × Unit) (p : Int × Int × Unit) : St :=
  St.mk [AV.junk, AV.junk, AV.pv Ty.bool false, AV.junk, AV.junk, AV.junk, AV.junk, AV.junk, AV.junk, AV.junk, AV.junk, AV.junk, AV.junk, AV.junk, AV.junk, AV.junk, AV.junk, AV.junk, AV.junk, AV.junk, AV.junk, AV.junk, AV.junk, AV.junk,
  AV.junk, AV.junk, AV.junk, AV.junk, AV.junk, AV.junk, AV.junk, AV.junk, AV.junk, AV.junk, AV.junk, AV.junk, AV.junk, AV.junk] [some (Cont.cells 2 [[AV.pv Ty.i p.1, AV.pv Ty.i p.2.1]])]

def impl_AreLocks_X2_2 (i : List (Int × Int × Unit) × List (Int × Int × Unit) × Int × Unit) (p : Int × Int × Unit) : St :=
  St.mk [AV.junk, AV.junk, AV.pv Ty.bool false, AV.junk, AV.junk, AV.junk, AV.junk, AV.junk, AV.junk, AV.junk, AV.junk, AV.junk, AV.junk, AV.junk, AV.junk, AV.junk, AV.junk, AV.junk, AV.junk, AV.junk, AV.junk, AV.junk, AV.junk, AV.junk,
  AV.junk, AV.junk, AV.junk, AV.junk, AV.junk, AV.junk, AV.junk, AV.junk, AV.junk, AV.junk, AV.junk, AV.junk, AV.junk, AV.junk] [some (Cont.cells 2 [[AV.pv Ty.i p.1, AV.pv Ty.i p.2.1]])]

def impl_AreLocks_X2_3 (i : List (Int × Int × Unit) × List (Int × Int × Unit) × Int × Unit) (p : Unit) : St :=
  St.mk [AV.junk, AV.junk, AV.junk, AV.junk, AV.junk, AV.junk, AV.junk, AV.junk, AV.junk, AV.junk, AV.junk, AV.junk, AV.junk, AV.junk, AV.junk, AV.junk, AV.junk, AV.junk, AV.junk, AV.junk, AV.junk, AV.junk, AV.junk, AV.junk, AV.junk, AV.junk,
  AV.junk, AV.junk, AV.junk, AV.junk, AV.junk, AV.junk, AV.junk, AV.junk, AV.junk, AV.junk, AV.junk, AV.junk] []

noncomputable def impl_AreLocks_E2 (i : List (Int × Int × Unit) × List (Int × Int × Unit) × Int × Unit) (p : Int × Int × Unit ⊕ Int × Int × Unit ⊕ Int × Int × Unit ⊕ Unit) (R : Type) (K : Ex → St → Option R) : Option R := sumC p (fun p => K (Ex.ret) (impl_AreLocks_X2_0 i p)) (fun p => sumC p (fun p => K (Ex.ret) (impl_AreLocks_X2_1 i p)) (fun p => sumC p (fun p => K (Ex.ret) (impl_AreLocks_X2_2 i p)) (fun p => K (Ex.exit 0) (impl_AreLocks_X2_3 i p))))

noncomputable def impl_AreLocks_K2 (i : List (Int × Int × Unit) × List (Int × Int × Unit) × Int × Unit) (p : Int × Int × Unit ⊕ Int × Int × Unit ⊕ Int × Int × Unit ⊕ Unit) : Ex × St := sumC p (fun p => ((Ex.ret), impl_AreLocks_X2_0 i p)) (fun p => sumC p (fun p => ((Ex.ret), impl_AreLocks_X2_1 i p)) (fun p => sumC p (fun p => ((Ex.ret), impl_AreLocks_X2_2 i p)) (fun p => ((Ex.exit 0), impl_AreLocks_X2_3 i p))))

def impl_AreLocks_M2 (i : List (Int × Int × Unit) × List (Int × Int × Unit) × Int × Unit) (v : Int × Unit) : den impl_AreLocks_T2.ty := (i.1, i.2.1, i.2.2.1, v.1, ())

def impl_AreLocks_P2 (x : den impl_AreLocks_T2.ty) : (List (Int × Int × Unit) × List (Int × Int × Unit) × Int × Unit) × (Int × Unit) := ((x.1, x.2.1, x.2.2.1, ()), (x.2.2.2.1, ()))

noncomputable def impl_AreLocks_F2 : LoopFn := fun s R K => Tmpl.readS impl_AreLocks_T2 0 s fun x => (iter (fun v => impl_AreLocks_D2 (impl_AreLocks_P2 x).1 v _ some) (impl_AreLocks_P2 x).2).bind fun p => impl_AreLocks_E2 (impl_AreLocks_P2 x).1 p R K

noncomputable def impl_AreLocks_C : Cfg := { ti := g_tis, ents := [impl_isKey_Ent, impl_isID_Ent], ann := [(2, impl_AreLocks_F2)], lent := 0 }

def impl_AreLocks_ti : Tmpl := Tmpl.mk (TmL.slot (Ty.slice YReadMark) TmL.nil) TmH.nil

def impl_AreLocks_to : Tmpl := Tmpl.mk (TmL.slot Ty.bool TmL.nil) TmH.nil

noncomputable def impl_AreLocks_S (x : List (Int × Int × Unit) × Unit) : Option (Bool × Unit) :=
  Option.bind (iter (fun v => impl_AreLocks_D2 (x.1, x.1, (↑(List.length x.1) : Int), ()) v (Int × Unit ⊕ Int × Int × Unit ⊕ Int × Int × Unit ⊕ Int × Int × Unit ⊕ Unit) some) (0, ())) fun p => sumC p (fun p => some (false, ())) fun p => sumC p
  (fun p => some (false, ())) fun p => sumC p (fun p => some (false, ())) fun p => some (true, ())

noncomputable def impl_AreLocks_Ent : Ent := ⟨124, impl_AreLocks_ti, impl_AreLocks_to, impl_AreLocks_S⟩

theorem impl_AreLocks_HC : CfgOK Go.Proofs.Try.prog impl_AreLocks_C := ⟨⟨info_ok g_tisOK⟩, (all_cons impl_isKey_OK (all_cons impl_isID_OK all_nil)), g_wide⟩

theorem impl_AreLocks_lk2 : ∀ F, ((impl_AreLocks_C).ann.find? fun x => x.1 == firstId ((loopsOf (codeOf Go.Proofs.Try.f124)).getD 0 .skip)).map (·.2) = some F → LoopOK Go.Proofs.Try.prog impl_AreLocks_C.lent ((loopsOf (codeOf Go.Proofs.Try.f124)).getD 0 .skip) F := by
  refine lookup_ok (show ((impl_AreLocks_C).ann.find? fun x => x.1 == firstId ((loopsOf (codeOf Go.Proofs.Try.f124)).getD 0 .skip)).map (·.2) = some impl_AreLocks_F2 from by kernel_rfl) ?_
  exact loop_ok impl_AreLocks_HC (loops_all 0 (by kernel_rfl) (fun k hk => absurd hk (Nat.not_lt_zero k))) impl_AreLocks_T2 [2] impl_AreLocks_M2 impl_AreLocks_P2 (fun x => rfl) impl_AreLocks_D2 impl_AreLocks_D2_nat impl_AreLocks_E2 impl_AreLocks_K2 (fun i p R K => by rcases p with p | p | p | p <;> rfl) (fun i v => by kernel_rfl)

theorem impl_AreLocks_VC (x : den impl_AreLocks_ti.ty) : vcall impl_AreLocks_C Go.Proofs.Try.f124 impl_AreLocks_ti impl_AreLocks_to x = impl_AreLocks_S x := by kernel_rfl

theorem impl_AreLocks_OK : EntOK Go.Proofs.Try.prog impl_AreLocks_Ent := EntOK.of_vcall impl_AreLocks_HC Go.Proofs.Try.func124 (body_loops (by kernel_rfl) (loops_all 1 (by kernel_rfl) (fun k hk => match k, hk with | 0, _ => impl_AreLocks_lk2))) (by kernel_rfl) (by kernel_rfl) impl_AreLocks_VC

/-! impl.AreWaits -/

noncomputable def impl_AreWaits_D2 (i : List (Int × Int × Unit) × List (Int × Int × Unit) × Int × Unit) (v : Int × Unit) (R : Type) (K : Int × Unit ⊕ Int × Int × Unit ⊕ Int × Int × Unit ⊕ Int × Int × Unit ⊕ Int × Int × Unit ⊕ Unit → Option R) : Option R :=
  bif decide (v.1 < i.2.2.1) then Option.bind (lAt i.2.1 v.1) fun v_1 => Option.bind (impl_isID_S (v_1.1, ())) fun v_2 => bif !v_2.1 then K (Sum.inr (Sum.inl (v_1.1, v_1.2.1, ()))) else Option.bind (impl_isID_S (v_1.2.1, ())) fun v_3 => bif
  !v_3.1 then K (Sum.inr (Sum.inr (Sum.inl (v_1.1, v_1.2.1, ())))) else bif v_1.1 == v_1.2.1 then K (Sum.inr (Sum.inr (Sum.inr (Sum.inl (v_1.1, v_1.2.1, ()))))) else bif decide (v.1 > 0) then Option.bind (lAt i.1 (IntKind.wrap IntKind.i64 (v.1
  - 1))) fun v_4 => bif decide (v_4.1 ≥ v_1.1) then K (Sum.inr (Sum.inr (Sum.inr (Sum.inr (Sum.inl (v_1.1, v_1.2.1, ())))))) else K (Sum.inl (IntKind.wrap IntKind.i64 (v.1 + 1), ())) else K (Sum.inl (IntKind.wrap IntKind.i64 (v.1 + 1), ()))
  else K (Sum.inr (Sum.inr (Sum.inr (Sum.inr (Sum.inr ())))))

theorem impl_AreWaits_D2_nat (i : List (Int × Int × Unit) × List (Int × Int × Unit) × Int × Unit) (v : Int × Unit) (R : Type) (K : Int × Unit ⊕ Int × Int × Unit ⊕ Int × Int × Unit ⊕ Int × Int × Unit ⊕ Int × Int × Unit ⊕ Unit → Option R) : impl_AreWaits_D2 i v R K = (impl_AreWaits_D2 i v _ some).bind K := nat_bif (nat_bind fun _ => nat_bind fun _ => nat_bif (nat_some) (nat_bind fun _ => nat_bif (nat_some) (nat_bif (nat_some) (nat_bif (nat_bind fun _ => nat_bif (nat_some) (nat_some)) (nat_some))))) (nat_some)

def impl_AreWaits_T2 : Tmpl := Tmpl.mk (TmL.slot (Ty.slice YReadMark) (TmL.junk (TmL.junk (TmL.junk (TmL.junk (TmL.slot (Ty.slice YReadMark) (TmL.slot
  Ty.i (TmL.slot Ty.i (TmL.junk (TmL.junk (TmL.junk (TmL.junk (TmL.junk (TmL.junk (TmL.junk (TmL.junk (TmL.junk (TmL.junk (TmL.junk (TmL.junk (TmL.junk (TmL.junk (TmL.junk (TmL.junk (TmL.junk (TmL.junk (TmL.junk
  (TmL.junk (TmL.junk (TmL.junk (TmL.junk (TmL.junk (TmL.junk (TmL.junk (TmL.junk (TmL.junk (TmL.junk (TmL.junk (TmL.junk (TmL.junk (TmL.junk (TmL.junk (TmL.junk (TmL.junk (TmL.junk TmL.nil))))))))))))))))))))))))))))))))))))))))))))) TmH.nil

def impl_AreWaits_X2_0 (i : List (Int × Int × Unit) × List (Int × Int × Unit) × Int × Unit) (p : Int × Int × Unit) : St :=
  St.mk [AV.junk, AV.junk, AV.pv Ty.bool false, AV.junk, AV.junk, AV.junk, AV.junk, AV.junk, AV.junk, AV.junk, AV.junk, AV.junk, AV.junk, AV.junk, AV.junk, AV.junk, AV.junk, AV.junk, AV.junk, AV.junk, AV.junk, AV.junk, AV.junk, AV.junk,
  AV.junk, AV.junk, AV.junk, AV.junk, AV.junk, AV.junk, AV.junk, AV.junk, AV.junk, AV.junk, AV.junk, AV.junk, AV.junk, AV.junk, AV.junk, AV.junk, AV.junk, AV.junk, AV.junk, AV.junk, AV.junk] [some (Cont.cells 2 [[AV.pv Ty.i
  p.1, AV.pv Ty.i p.2.1]])]

def impl_AreWaits_X2_1 (i : List (Int × Int × Unit) × List (Int × Int × Unit) × Int × Unit) (p : Int × Int × Unit) : St :=
  St.mk [AV.junk, AV.junk, AV.pv Ty.bool false, AV.junk, AV.junk, AV.junk, AV.junk, AV.junk, AV.junk, AV.junk, AV.junk, AV.junk, AV.junk, AV.junk, AV.junk, AV.junk, AV.junk, AV.junk, AV.junk, AV.junk, AV.junk, AV.junk, AV.junk, AV.junk,
  AV.junk, AV.junk, AV.junk, AV.junk, AV.junk, AV.junk, AV.junk, AV.junk, AV.junk, AV.junk, AV.junk, AV.junk, AV.junk, AV.junk, AV.junk, AV.junk, AV.junk, AV.junk, AV.junk, AV.junk, AV.junk] [some (Cont.cells 2 [[AV.pv Ty.i
  p.1, AV.pv Ty.i p.2.1]])]

def impl_AreWaits_X2_2 (i : List (Int × Int × Unit) × List (Int × Int × Unit) × Int × Unit) (p : Int × Int × Unit) : St :=
  St.mk [AV.junk, AV.junk, AV.pv Ty.bool false, AV.junk, AV.junk, AV.junk, AV.junk, AV.junk, AV.junk, AV.junk, AV.junk, AV.junk, AV.junk, AV.junk, AV.junk, AV.junk, AV.junk, AV.junk, AV.junk, AV.junk, AV.junk, AV.junk, AV.junk, AV.junk,
  AV.junk, AV.junk, AV.junk, AV.junk, AV.junk, AV.junk, AV.junk, AV.junk, AV.junk, AV.junk, AV.junk, AV.junk, AV.junk, AV.junk, AV.junk, AV.junk, AV.junk, AV.junk, AV.junk, AV.junk, AV.junk] [some (Cont.cells 2 [[AV.pv Ty.i
  p.1, AV.pv Ty.i p.2.1]])]

def impl_AreWaits_X2_3 (i : List (Int × Int × Unit) × List (Int × Int × Unit) × Int × Unit) (p : Int × Int × Unit) : St :=
  St.mk [AV.junk, AV.junk, AV.pv Ty.bool false, AV.junk, AV.junk, AV.junk, AV.junk, AV.junk, AV.junk, AV.junk, AV.junk, AV.junk, AV.junk, AV.junk, AV.junk, AV.junk, AV.junk, AV.junk, AV.junk, AV.junk, AV.junk, AV.junk, AV.junk, AV.junk,
  AV.junk, AV.junk, AV.junk, AV.junk, AV.junk, AV.junk, AV.junk, AV.junk, AV.junk, AV.junk, AV.junk, AV.junk, AV.junk, AV.junk, AV.junk, AV.junk, AV.junk, AV.junk, AV.junk, AV.junk, AV.junk] [some (Cont.cells 2 [[AV.pv Ty.i
  p.1, AV.pv Ty.i p.2.1]])]

def impl_AreWaits_X2_4 (i : List (Int × Int × Unit) × List (Int × Int × Unit) × Int × Unit) (p : Unit) : St :=
  St.mk [AV.junk, AV.junk, AV.junk, AV.junk, AV.junk, AV.junk, AV.junk, AV.junk, AV.junk, AV.junk, AV.junk, AV.junk, AV.junk, AV.junk, AV.junk, AV.junk, AV.junk, AV.junk, AV.junk, AV.junk, AV.junk, AV.junk, AV.junk, AV.junk, AV.junk, AV.junk,
  AV.junk, AV.junk, AV.junk, AV.junk, AV.junk, AV.junk, AV.junk, AV.junk, AV.junk, AV.junk, AV.junk, AV.junk, AV.junk, AV.junk, AV.junk, AV.junk, AV.junk, AV.junk, AV.junk] []

noncomputable def impl_AreWaits_E2 (i : List (Int × Int × Unit) × List (Int × Int × Unit) × Int × Unit) (p : Int × Int × Unit ⊕ Int × Int × Unit ⊕ Int × Int × Unit ⊕ Int × Int × Unit ⊕ Unit) (R : Type) (K : Ex → St → Option R) : Option R := sumC p (fun p => K (Ex.ret) (impl_AreWaits_X2_0 i p)) (fun p => sumC p (fun p => K (Ex.ret) (impl_AreWaits_X2_1 i p)) (fun p => sumC p (fun p => K (Ex.ret) (impl_AreWaits_X2_2 i p)) (fun p => sumC p (fun p => K (Ex.ret) (impl_AreWaits_X2_3 i p)) (fun p => K (Ex.exit 0) (impl_AreWaits_X2_4 i p)))))

noncomputable def impl_AreWaits_K2 (i : List (Int × Int × Unit) × List (Int × Int × Unit) × Int × Unit) (p : Int × Int × Unit ⊕ Int × Int × Unit ⊕ Int × Int × Unit ⊕ Int × Int × Unit ⊕ Unit) : Ex × St := sumC p (fun p => ((Ex.ret), impl_AreWaits_X2_0 i p)) (fun p => sumC p (fun p => ((Ex.ret), impl_AreWaits_X2_1 i p)) (fun p => sumC p (fun p => ((Ex.ret), impl_AreWaits_X2_2 i p)) (fun p => sumC p (fun p => ((Ex.ret), impl_AreWaits_X2_3 i p)) (fun p => ((Ex.exit 0), impl_AreWaits_X2_4 i p)))))

def impl_AreWaits_M2 (i : List (Int × Int × Unit) × List (Int × Int × Unit) × Int × Unit) (v : Int × Unit) : den impl_AreWaits_T2.ty := (i.1, i.2.1, i.2.2.1, v.1, ())

def impl_AreWaits_P2 (x : den impl_AreWaits_T2.ty) : (List (Int × Int × Unit) × List (Int × Int × Unit) × Int × Unit) × (Int × Unit) := ((x.1, x.2.1, x.2.2.1, ()), (x.2.2.2.1, ()))

noncomputable def impl_AreWaits_F2 : LoopFn := fun s R K => Tmpl.readS impl_AreWaits_T2 0 s fun x => (iter (fun v => impl_AreWaits_D2 (impl_AreWaits_P2 x).1 v _ some) (impl_AreWaits_P2 x).2).bind fun p => impl_AreWaits_E2 (impl_AreWaits_P2 x).1 p R K

noncomputable def impl_AreWaits_C : Cfg := { ti := g_tis, ents := [impl_isID_Ent], ann := [(2, impl_AreWaits_F2)], lent := 0 }

def impl_AreWaits_ti : Tmpl := Tmpl.mk (TmL.slot (Ty.slice YReadMark) TmL.nil) TmH.nil

def impl_AreWaits_to : Tmpl := Tmpl.mk (TmL.slot Ty.bool TmL.nil) TmH.nil

noncomputable def impl_AreWaits_S (x : List (Int × Int × Unit) × Unit) : Option (Bool × Unit) :=
  Option.bind (iter (fun v => impl_AreWaits_D2 (x.1, x.1, (↑(List.length x.1) : Int), ()) v (Int × Unit ⊕ Int × Int × Unit ⊕ Int × Int × Unit ⊕ Int × Int × Unit ⊕ Int × Int × Unit ⊕ Unit) some) (0, ())) fun p => sumC p (fun p => some (false,
  ())) fun p => sumC p (fun p => some (false, ())) fun p => sumC p (fun p => some (false, ())) fun p => sumC p (fun p => some (false, ())) fun p => some (true, ())

noncomputable def impl_AreWaits_Ent : Ent := ⟨125, impl_AreWaits_ti, impl_AreWaits_to, impl_AreWaits_S⟩

theorem impl_AreWaits_HC : CfgOK Go.Proofs.Try.prog impl_AreWaits_C := ⟨⟨info_ok g_tisOK⟩, (all_cons impl_isID_OK all_nil), g_wide⟩

theorem impl_AreWaits_lk2 : ∀ F, ((impl_AreWaits_C).ann.find? fun x => x.1 == firstId ((loopsOf (codeOf Go.Proofs.Try.f125)).getD 0 .skip)).map (·.2) = some F → LoopOK Go.Proofs.Try.prog impl_AreWaits_C.lent ((loopsOf (codeOf Go.Proofs.Try.f125)).getD 0 .skip) F := by
  refine lookup_ok (show ((impl_AreWaits_C).ann.find? fun x => x.1 == firstId ((loopsOf (codeOf Go.Proofs.Try.f125)).getD 0 .skip)).map (·.2) = some impl_AreWaits_F2 from by kernel_rfl) ?_
  exact loop_ok impl_AreWaits_HC (loops_all 0 (by kernel_rfl) (fun k hk => absurd hk (Nat.not_lt_zero k))) impl_AreWaits_T2 [2] impl_AreWaits_M2 impl_AreWaits_P2 (fun x => rfl) impl_AreWaits_D2 impl_AreWaits_D2_nat impl_AreWaits_E2 impl_AreWaits_K2 (fun i p R K => by rcases p with p | p | p | p | p <;> rfl) (fun i v => by kernel_rfl)

theorem impl_AreWaits_VC (x : den impl_AreWaits_ti.ty) : vcall impl_AreWaits_C Go.Proofs.Try.f125 impl_AreWaits_ti impl_AreWaits_to x = impl_AreWaits_S x := by kernel_rfl

theorem impl_AreWaits_OK : EntOK Go.Proofs.Try.prog impl_AreWaits_Ent := EntOK.of_vcall impl_AreWaits_HC Go.Proofs.Try.func125 (body_loops (by kernel_rfl) (loops_all 1 (by kernel_rfl) (fun k hk => match k, hk with | 0, _ => impl_AreWaits_lk2))) (by kernel_rfl) (by kernel_rfl) impl_AreWaits_VC

/-! impl.isScheme -/

noncomputable def impl_isScheme_C : Cfg := { ti := g_tis, ents := [impl_in_Ent], ann := [], lent := 0 }

def impl_isScheme_ti : Tmpl := Tmpl.mk (TmL.slot Ty.i TmL.nil) TmH.nil

def impl_isScheme_to : Tmpl := Tmpl.mk (TmL.slot Ty.bool TmL.nil) TmH.nil

noncomputable def impl_isScheme_S (x : Int × Unit) : Option (Bool × Unit) :=
  Option.bind (impl_in_S (x.1, 1, 4, ())) fun v => some (v.1, ())

noncomputable def impl_isScheme_Ent : Ent := ⟨157, impl_isScheme_ti, impl_isScheme_to, impl_isScheme_S⟩

theorem impl_isScheme_HC : CfgOK Go.Proofs.Try.prog impl_isScheme_C := ⟨⟨info_ok g_tisOK⟩, (all_cons impl_in_OK all_nil), g_wide⟩

theorem impl_isScheme_VC (x : den impl_isScheme_ti.ty) : vcall impl_isScheme_C Go.Proofs.Try.f157 impl_isScheme_ti impl_isScheme_to x = impl_isScheme_S x := by kernel_rfl

theorem impl_isScheme_OK : EntOK Go.Proofs.Try.prog impl_isScheme_Ent := EntOK.of_vcall impl_isScheme_HC Go.Proofs.Try.func157 (body_loops (by kernel_rfl) (loops_all 0 (by kernel_rfl) (fun k hk => absurd hk (Nat.not_lt_zero k)))) (by kernel_rfl) (by kernel_rfl) impl_isScheme_VC

/-! impl.IsValidTransaction -/

noncomputable def impl_IsValidTransaction_C : Cfg := { ti := g_tis, ents := [impl_isID_Ent, impl_isScheme_Ent, impl_in_Ent, impl_IsStamp_Ent, impl_areReads_Ent, impl_areWrites_Ent], ann := [], lent := 0 }

def impl_IsValidTransaction_ti : Tmpl := Tmpl.mk (TmL.slot (Ty.prod Ty.i (Ty.prod Ty.i (Ty.prod Ty.i (Ty.prod Ty.i (Ty.prod Ty.i (Ty.prod Ty.i (Ty.prod Ty.i (Ty.prod
  (Ty.slice YReadMark) (Ty.prod (Ty.slice YReadMark) Ty.unit))))))))) TmL.nil) TmH.nil

def impl_IsValidTransaction_to : Tmpl := Tmpl.mk (TmL.slot Ty.bool TmL.nil) TmH.nil

noncomputable def impl_IsValidTransaction_S (x : (Int × Int × Int × Int × Int × Int × Int × List (Int × Int × Unit) × List (Int × Int × Unit) × Unit) × Unit) : Option (Bool × Unit) :=
  Option.bind (impl_isID_S (x.1.1, ())) fun v => bif !v.1 then some (false, ()) else Option.bind (impl_isScheme_S (x.1.2.1, ())) fun v => bif !v.1 then some (false, ()) else Option.bind (impl_in_S (x.1.2.2.1, 1, 3, ())) fun v => bif !v.1 then
  some (false, ()) else Option.bind (impl_in_S (x.1.2.2.2.1, 0, 999, ())) fun v => bif !v.1 then some (false, ()) else Option.bind (impl_in_S (x.1.2.2.2.2.1, 0, 999, ())) fun v => bif !v.1 then some (false, ()) else Option.bind (impl_in_S
  (x.1.2.2.2.2.2.1, 1, 1000, ())) fun v => bif !v.1 then some (false, ()) else bif x.1.2.2.1 == 2 then Option.bind (impl_IsStamp_S (x.1.2.2.2.2.2.2.1, ())) fun v => bif !v.1 then some (false, ()) else bif x.1.2.2.1 != 2 then bif
  x.1.2.2.2.2.2.2.1 != 0 then some (false, ()) else Option.bind (impl_areReads_S (x.1.2.2.2.2.2.2.2.1, ())) fun v => bif v.1 then Option.bind (impl_areWrites_S (x.1.2.2.2.2.2.2.2.2.1, ())) fun v => some (v.1, ()) else some (false, ()) else
  Option.bind (impl_areReads_S (x.1.2.2.2.2.2.2.2.1, ())) fun v => bif v.1 then Option.bind (impl_areWrites_S (x.1.2.2.2.2.2.2.2.2.1, ())) fun v => some (v.1, ()) else some (false, ()) else bif x.1.2.2.1 != 2 then bif x.1.2.2.2.2.2.2.1 != 0
  then some (false, ()) else Option.bind (impl_areReads_S (x.1.2.2.2.2.2.2.2.1, ())) fun v => bif v.1 then Option.bind (impl_areWrites_S (x.1.2.2.2.2.2.2.2.2.1, ())) fun v => some (v.1, ()) else some (false, ()) else Option.bind
  (impl_areReads_S (x.1.2.2.2.2.2.2.2.1, ())) fun v => bif v.1 then Option.bind (impl_areWrites_S (x.1.2.2.2.2.2.2.2.2.1, ())) fun v => some (v.1, ()) else some (false, ())

noncomputable def impl_IsValidTransaction_Ent : Ent := ⟨150, impl_IsValidTransaction_ti, impl_IsValidTransaction_to, impl_IsValidTransaction_S⟩

theorem impl_IsValidTransaction_HC : CfgOK Go.Proofs.Try.prog impl_IsValidTransaction_C := ⟨⟨info_ok g_tisOK⟩, (all_cons impl_isID_OK (all_cons impl_isScheme_OK (all_cons impl_in_OK (all_cons impl_IsStamp_OK (all_cons impl_areReads_OK (all_cons impl_areWrites_OK all_nil)))))), g_wide⟩

theorem impl_IsValidTransaction_VC (x : den impl_IsValidTransaction_ti.ty) : vcall impl_IsValidTransaction_C Go.Proofs.Try.f150 impl_IsValidTransaction_ti impl_IsValidTransaction_to x = impl_IsValidTransaction_S x := by kernel_rfl

theorem impl_IsValidTransaction_OK : EntOK Go.Proofs.Try.prog impl_IsValidTransaction_Ent := EntOK.of_vcall impl_IsValidTransaction_HC Go.Proofs.Try.func150 (body_loops (by kernel_rfl) (loops_all 0 (by kernel_rfl) (fun k hk => absurd hk (Nat.not_lt_zero k)))) (by kernel_rfl) (by kernel_rfl) impl_IsValidTransaction_VC

/-! (impl.Engine).areTransactions -/

noncomputable def impl_Engine_areTransactions_D2 (i : List (Int × Int × Int × Int × Int × Int × Int × List (Int × Int × Unit) × List (Int × Int × Unit) × Unit) × Int × Bool × List (List (Int × Int × Int × Int × Int × Unit)) × List (Int × Int × Int × Int × Int × Int × Int × List (Int × Int ×
  Unit) × List (Int × Int × Unit) × Unit) × List (Int × Int × Unit) × List (Int × Int × Unit) × Int × Unit) (v : Int × Unit) (R : Type) (K : Int × Unit ⊕ Int × Int × Int × Int × Int × Int × Int × List (Int × Int × Unit) × List (Int × Int × Unit) × Unit ⊕ Int × Int × Int × Int × Int × Int × Int × List (Int × Int × Unit) × List (Int × Int × Unit) × Unit ⊕ Int × Int × Int × Int ×
  Int × Int × Int × List (Int × Int × Unit) × List (Int × Int × Unit) × Unit ⊕ Int × Int × Int × Int × Int × Int × Int × List (Int × Int × Unit) × List (Int × Int × Unit) × Unit ⊕ Int × Int × Int × Int × Int × Int × Int × List (Int × Int ×
  Unit) × List (Int × Int × Unit) × Unit ⊕ Int × Int × Int × Int × Int × Int × Int × List (Int × Int × Unit) × List (Int × Int × Unit) × Unit ⊕ Int × Int × Int × Int × Int × Int × Int × List (Int × Int × Unit) × List (Int × Int × Unit) × Unit
  ⊕ Int × Int × Int × Int × Int × Int × Int × List (Int × Int × Unit) × List (Int × Int × Unit) × Unit ⊕ Unit → Option R) : Option R :=
  bif decide (v.1 < i.2.1) then Option.bind (lAt i.1 v.1) fun v_1 => Option.bind (impl_IsValidTransaction_S ((v_1.1, v_1.2.1, v_1.2.2.1, v_1.2.2.2.1, v_1.2.2.2.2.1, v_1.2.2.2.2.2.1, v_1.2.2.2.2.2.2.1, v_1.2.2.2.2.2.2.2.1,
  v_1.2.2.2.2.2.2.2.2.1, ()), ())) fun v_2 => bif !v_2.1 then K (Sum.inr (Sum.inl (v_1.1, v_1.2.1, v_1.2.2.1, v_1.2.2.2.1, v_1.2.2.2.2.1, v_1.2.2.2.2.2.1, v_1.2.2.2.2.2.2.1, v_1.2.2.2.2.2.2.2.1, v_1.2.2.2.2.2.2.2.2.1, ()))) else bif decide
  (v.1 > 0) then Option.bind (lAt i.2.2.2.2.1 (IntKind.wrap IntKind.i64 (v.1 - 1))) fun v_3 => bif decide (v_3.1 ≥ v_1.1) then K (Sum.inr (Sum.inr (Sum.inl (v_1.1, v_1.2.1, v_1.2.2.1, v_1.2.2.2.1, v_1.2.2.2.2.1, v_1.2.2.2.2.2.1,
  v_1.2.2.2.2.2.2.1, v_1.2.2.2.2.2.2.2.1, v_1.2.2.2.2.2.2.2.2.1, ())))) else bif decide (v_1.2.2.2.1 > i.2.2.2.2.2.2.2.1) then K (Sum.inr (Sum.inr (Sum.inr (Sum.inl (v_1.1, v_1.2.1, v_1.2.2.1, v_1.2.2.2.1, v_1.2.2.2.2.1, v_1.2.2.2.2.2.1,
  v_1.2.2.2.2.2.2.1, v_1.2.2.2.2.2.2.2.1, v_1.2.2.2.2.2.2.2.2.1, ()))))) else bif decide (v_1.2.2.2.2.2.2.1 > i.2.2.2.2.2.2.2.1) then K (Sum.inr (Sum.inr (Sum.inr (Sum.inr (Sum.inl (v_1.1, v_1.2.1, v_1.2.2.1, v_1.2.2.2.1, v_1.2.2.2.2.1,
  v_1.2.2.2.2.2.1, v_1.2.2.2.2.2.2.1, v_1.2.2.2.2.2.2.2.1, v_1.2.2.2.2.2.2.2.2.1, ())))))) else bif v_1.2.2.1 == 1 then Option.bind (impl_Store_readsExist_S ((i.2.2.2.1, ()), v_1.2.2.2.2.2.2.2.1, ())) fun v_4 => bif !v_4.1 then K (Sum.inr
  (Sum.inr (Sum.inr (Sum.inr (Sum.inr (Sum.inl (v_1.1, v_1.2.1, v_1.2.2.1, v_1.2.2.2.1, v_1.2.2.2.2.1, v_1.2.2.2.2.2.1, v_1.2.2.2.2.2.2.1, v_1.2.2.2.2.2.2.2.1, v_1.2.2.2.2.2.2.2.2.1, ()))))))) else K (Sum.inl (IntKind.wrap IntKind.i64 (v.1 +
  1), ())) else K (Sum.inl (IntKind.wrap IntKind.i64 (v.1 + 1), ())) else bif decide (v_1.2.2.2.1 > i.2.2.2.2.2.2.2.1) then K (Sum.inr (Sum.inr (Sum.inr (Sum.inr (Sum.inr (Sum.inr (Sum.inl (v_1.1, v_1.2.1, v_1.2.2.1, v_1.2.2.2.1,
  v_1.2.2.2.2.1, v_1.2.2.2.2.2.1, v_1.2.2.2.2.2.2.1, v_1.2.2.2.2.2.2.2.1, v_1.2.2.2.2.2.2.2.2.1, ())))))))) else bif decide (v_1.2.2.2.2.2.2.1 > i.2.2.2.2.2.2.2.1) then K (Sum.inr (Sum.inr (Sum.inr (Sum.inr (Sum.inr (Sum.inr (Sum.inr (Sum.inl
  (v_1.1, v_1.2.1, v_1.2.2.1, v_1.2.2.2.1, v_1.2.2.2.2.1, v_1.2.2.2.2.2.1, v_1.2.2.2.2.2.2.1, v_1.2.2.2.2.2.2.2.1, v_1.2.2.2.2.2.2.2.2.1, ()))))))))) else bif v_1.2.2.1 == 1 then Option.bind (impl_Store_readsExist_S ((i.2.2.2.1, ()),
  v_1.2.2.2.2.2.2.2.1, ())) fun v_3 => bif !v_3.1 then K (Sum.inr (Sum.inr (Sum.inr (Sum.inr (Sum.inr (Sum.inr (Sum.inr (Sum.inr (Sum.inl (v_1.1, v_1.2.1, v_1.2.2.1, v_1.2.2.2.1, v_1.2.2.2.2.1, v_1.2.2.2.2.2.1, v_1.2.2.2.2.2.2.1,
  v_1.2.2.2.2.2.2.2.1, v_1.2.2.2.2.2.2.2.2.1, ())))))))))) else K (Sum.inl (IntKind.wrap IntKind.i64 (v.1 + 1), ())) else K (Sum.inl (IntKind.wrap IntKind.i64 (v.1 + 1), ())) else K (Sum.inr (Sum.inr (Sum.inr (Sum.inr (Sum.inr (Sum.inr
  (Sum.inr (Sum.inr (Sum.inr ())))))))))

theorem impl_Engine_areTransactions_D2_nat (i : List (Int × Int × Int × Int × Int × Int × Int × List (Int × Int × Unit) × List (Int × Int × Unit) × Unit) × Int × Bool × List (List (Int × Int × Int × Int × Int × Unit)) × List (Int × Int × Int × Int × Int × Int × Int × List (Int × Int ×
  Unit) × List (Int × Int × Unit) × Unit) × List (Int × Int × Unit) × List (Int × Int × Unit) × Int × Unit) (v : Int × Unit) (R : Type) (K : Int × Unit ⊕ Int × Int × Int × Int × Int × Int × Int × List (Int × Int × Unit) × List (Int × Int × Unit) × Unit ⊕ Int × Int × Int × Int × Int × Int × Int × List (Int × Int × Unit) × List (Int × Int × Unit) × Unit ⊕ Int × Int × Int × Int ×
  Int × Int × Int × List (Int × Int × Unit) × List (Int × Int × Unit) × Unit ⊕ Int × Int × Int × Int × Int × Int × Int × List (Int × Int × Unit) × List (Int × Int × Unit) × Unit ⊕ Int × Int × Int × Int × Int × Int × Int × List (Int × Int ×
  Unit) × List (Int × Int × Unit) × Unit ⊕ Int × Int × Int × Int × Int × Int × Int × List (Int × Int × Unit) × List (Int × Int × Unit) × Unit ⊕ Int × Int × Int × Int × Int × Int × Int × List (Int × Int × Unit) × List (Int × Int × Unit) × Unit
  ⊕ Int × Int × Int × Int × Int × Int × Int × List (Int × Int × Unit) × List (Int × Int × Unit) × Unit ⊕ Unit → Option R) : impl_Engine_areTransactions_D2 i v R K = (impl_Engine_areTransactions_D2 i v _ some).bind K := nat_bif (nat_bind fun _ => nat_bind fun _ => nat_bif (nat_some) (nat_bif (nat_bind fun _ => nat_bif (nat_some) (nat_bif (nat_some) (nat_bif (nat_some) (nat_bif (nat_bind fun _ => nat_bif (nat_some) (nat_some)) (nat_some))))) (nat_bif (nat_some) (nat_bif (nat_some) (nat_bif (nat_bind fun _ => nat_bif (nat_some) (nat_some)) (nat_some)))))) (nat_some)

def impl_Engine_areTransactions_T2 : Tmpl := Tmpl.mk (TmL.junk (TmL.ptr 0 0 0 (TmL.junk (TmL.junk (TmL.junk (TmL.junk (TmL.slot (Ty.slice (Ty.prod Ty.i (Ty.prod Ty.i (Ty.prod Ty.i (Ty.prod Ty.i (Ty.prod (Ty.int
  IntKind.i64) (Ty.prod Ty.i (Ty.prod Ty.i (Ty.prod (Ty.slice YReadMark) (Ty.prod (Ty.slice (Ty.prod Ty.i (Ty.prod Ty.i
  Ty.unit))) Ty.unit)))))))))) (TmL.slot Ty.i (TmL.slot Ty.i (TmL.junk (TmL.junk (TmL.junk (TmL.junk (TmL.junk (TmL.junk (TmL.junk (TmL.junk (TmL.junk (TmL.junk (TmL.junk (TmL.junk (TmL.junk (TmL.junk (TmL.junk
  (TmL.junk (TmL.junk (TmL.junk (TmL.junk (TmL.junk (TmL.junk (TmL.junk (TmL.junk (TmL.junk (TmL.junk (TmL.junk (TmL.junk (TmL.junk (TmL.junk (TmL.junk (TmL.junk (TmL.junk (TmL.junk (TmL.junk (TmL.junk (TmL.junk (TmL.junk (TmL.junk (TmL.junk
  (TmL.junk (TmL.junk (TmL.junk (TmL.junk (TmL.junk (TmL.junk (TmL.junk (TmL.junk (TmL.junk (TmL.junk (TmL.junk (TmL.junk (TmL.junk (TmL.junk TmL.nil)))))))))))))))))))))))))))))))))))))))))))))))))))))))))))))) (TmH.cells 6 (TmL.slot Ty.bool
  (TmL.slot (Ty.slice (Ty.slice YVersion)) (TmL.slot (Ty.slice (Ty.prod (Ty.int
  IntKind.i64) (Ty.prod Ty.i (Ty.prod Ty.i (Ty.prod Ty.i (Ty.prod Ty.i (Ty.prod Ty.i (Ty.prod Ty.i (Ty.prod (Ty.slice (Ty.prod Ty.i
  (Ty.prod Ty.i Ty.unit))) (Ty.prod (Ty.slice YReadMark) Ty.unit)))))))))) (TmL.slot (Ty.slice YReadMark)
  (TmL.slot (Ty.slice YReadMark) (TmL.slot Ty.i TmL.nil)))))) TmH.nil)

def impl_Engine_areTransactions_X2_0 (i : List (Int × Int × Int × Int × Int × Int × Int × List (Int × Int × Unit) × List (Int × Int × Unit) × Unit) × Int × Bool × List (List (Int × Int × Int × Int × Int × Unit)) × List (Int × Int × Int × Int × Int × Int × Int × List (Int × Int ×
  Unit) × List (Int × Int × Unit) × Unit) × List (Int × Int × Unit) × List (Int × Int × Unit) × Int × Unit) (p : Int × Int × Int × Int × Int × Int × Int × List (Int × Int × Unit) × List (Int × Int × Unit) × Unit) : St :=
  St.mk [AV.junk, AV.ptr 0 none 0 0, AV.pv Ty.bool false, AV.junk, AV.junk, AV.junk, AV.junk, AV.junk, AV.junk, AV.junk, AV.junk, AV.junk, AV.junk, AV.junk, AV.junk, AV.junk, AV.junk, AV.junk, AV.junk, AV.junk, AV.junk, AV.junk, AV.junk,
  AV.junk, AV.junk, AV.junk, AV.junk, AV.junk, AV.junk, AV.junk, AV.junk, AV.junk, AV.junk, AV.junk, AV.junk, AV.junk, AV.junk, AV.junk, AV.junk, AV.junk, AV.junk, AV.junk, AV.junk, AV.junk, AV.junk, AV.junk, AV.junk, AV.junk, AV.junk,
  AV.junk, AV.junk, AV.junk, AV.junk, AV.junk, AV.junk, AV.junk, AV.junk, AV.junk, AV.junk, AV.junk, AV.junk, AV.junk] [some (Cont.cells 6 [[AV.pv Ty.bool i.2.2.1, AV.pv (Ty.slice (Ty.slice (Ty.prod Ty.i (Ty.prod (Ty.int
  IntKind.i64) (Ty.prod Ty.i YReadMark))))) i.2.2.2.1, AV.pv (Ty.slice (Ty.prod Ty.i (Ty.prod Ty.i (Ty.prod Ty.i
  (Ty.prod Ty.i (Ty.prod Ty.i (Ty.prod Ty.i (Ty.prod Ty.i (Ty.prod (Ty.slice YReadMark) (Ty.prod (Ty.slice (Ty.prod
  Ty.i (Ty.prod Ty.i Ty.unit))) Ty.unit)))))))))) i.2.2.2.2.1, AV.pv (Ty.slice YReadMark) i.2.2.2.2.2.1, AV.pv (Ty.slice (Ty.prod Ty.i
  (Ty.prod Ty.i Ty.unit))) i.2.2.2.2.2.2.1, AV.pv Ty.i i.2.2.2.2.2.2.2.1]]), some (Cont.cells 9 [[AV.pv Ty.i p.1, AV.pv Ty.i p.2.1, AV.pv Ty.i p.2.2.1, AV.pv
  Ty.i p.2.2.2.1, AV.pv Ty.i p.2.2.2.2.1, AV.pv Ty.i p.2.2.2.2.2.1, AV.pv Ty.i p.2.2.2.2.2.2.1, AV.pv (Ty.slice (Ty.prod Ty.i (Ty.prod Ty.i
  Ty.unit))) p.2.2.2.2.2.2.2.1, AV.pv (Ty.slice YReadMark) p.2.2.2.2.2.2.2.2.1]])]

def impl_Engine_areTransactions_X2_1 (i : List (Int × Int × Int × Int × Int × Int × Int × List (Int × Int × Unit) × List (Int × Int × Unit) × Unit) × Int × Bool × List (List (Int × Int × Int × Int × Int × Unit)) × List (Int × Int × Int × Int × Int × Int × Int × List (Int × Int ×
  Unit) × List (Int × Int × Unit) × Unit) × List (Int × Int × Unit) × List (Int × Int × Unit) × Int × Unit) (p : Int × Int × Int × Int × Int × Int × Int × List (Int × Int × Unit) × List (Int × Int × Unit) × Unit) : St :=
  St.mk [AV.junk, AV.ptr 0 none 0 0, AV.pv Ty.bool false, AV.junk, AV.junk, AV.junk, AV.junk, AV.junk, AV.junk, AV.junk, AV.junk, AV.junk, AV.junk, AV.junk, AV.junk, AV.junk, AV.junk, AV.junk, AV.junk, AV.junk, AV.junk, AV.junk, AV.junk,
  AV.junk, AV.junk, AV.junk, AV.junk, AV.junk, AV.junk, AV.junk, AV.junk, AV.junk, AV.junk, AV.junk, AV.junk, AV.junk, AV.junk, AV.junk, AV.junk, AV.junk, AV.junk, AV.junk, AV.junk, AV.junk, AV.junk, AV.junk, AV.junk, AV.junk, AV.junk,
  AV.junk, AV.junk, AV.junk, AV.junk, AV.junk, AV.junk, AV.junk, AV.junk, AV.junk, AV.junk, AV.junk, AV.junk, AV.junk] [some (Cont.cells 6 [[AV.pv Ty.bool i.2.2.1, AV.pv (Ty.slice (Ty.slice (Ty.prod Ty.i (Ty.prod (Ty.int
  IntKind.i64) (Ty.prod Ty.i YReadMark))))) i.2.2.2.1, AV.pv (Ty.slice (Ty.prod Ty.i (Ty.prod Ty.i (Ty.prod Ty.i
  (Ty.prod Ty.i (Ty.prod Ty.i (Ty.prod Ty.i (Ty.prod Ty.i (Ty.prod (Ty.slice YReadMark) (Ty.prod (Ty.slice (Ty.prod
  Ty.i (Ty.prod Ty.i Ty.unit))) Ty.unit)))))))))) i.2.2.2.2.1, AV.pv (Ty.slice YReadMark) i.2.2.2.2.2.1, AV.pv (Ty.slice (Ty.prod Ty.i
  (Ty.prod Ty.i Ty.unit))) i.2.2.2.2.2.2.1, AV.pv Ty.i i.2.2.2.2.2.2.2.1]]), some (Cont.cells 9 [[AV.pv Ty.i p.1, AV.pv Ty.i p.2.1, AV.pv Ty.i p.2.2.1, AV.pv
  Ty.i p.2.2.2.1, AV.pv Ty.i p.2.2.2.2.1, AV.pv Ty.i p.2.2.2.2.2.1, AV.pv Ty.i p.2.2.2.2.2.2.1, AV.pv (Ty.slice (Ty.prod Ty.i (Ty.prod Ty.i
  Ty.unit))) p.2.2.2.2.2.2.2.1, AV.pv (Ty.slice YReadMark) p.2.2.2.2.2.2.2.2.1]])]

def impl_Engine_areTransactions_X2_2 (i : List (Int × Int × Int × Int × Int × Int × Int × List (Int × Int × Unit) × List (Int × Int × Unit) × Unit) × Int × Bool × List (List (Int × Int × Int × Int × Int × Unit)) × List (Int × Int × Int × Int × Int × Int × Int × List (Int × Int ×
  Unit) × List (Int × Int × Unit) × Unit) × List (Int × Int × Unit) × List (Int × Int × Unit) × Int × Unit) (p : Int × Int × Int × Int × Int × Int × Int × List (Int × Int × Unit) × List (Int × Int × Unit) × Unit) : St :=
  St.mk [AV.junk, AV.ptr 0 none 0 0, AV.pv Ty.bool false, AV.junk, AV.junk, AV.junk, AV.junk, AV.junk, AV.junk, AV.junk, AV.junk, AV.junk, AV.junk, AV.junk, AV.junk, AV.junk, AV.junk, AV.junk, AV.junk, AV.junk, AV.junk, AV.junk, AV.junk,
  AV.junk, AV.junk, AV.junk, AV.junk, AV.junk, AV.junk, AV.junk, AV.junk, AV.junk, AV.junk, AV.junk, AV.junk, AV.junk, AV.junk, AV.junk, AV.junk, AV.junk, AV.junk, AV.junk, AV.junk, AV.junk, AV.junk, AV.junk, AV.junk, AV.junk, AV.junk,
  AV.junk, AV.junk, AV.junk, AV.junk, AV.junk, AV.junk, AV.junk, AV.junk, AV.junk, AV.junk, AV.junk, AV.junk, AV.junk] [some (Cont.cells 6 [[AV.pv Ty.bool i.2.2.1, AV.pv (Ty.slice (Ty.slice (Ty.prod Ty.i (Ty.prod (Ty.int
  IntKind.i64) (Ty.prod Ty.i YReadMark))))) i.2.2.2.1, AV.pv (Ty.slice (Ty.prod Ty.i (Ty.prod Ty.i (Ty.prod Ty.i
  (Ty.prod Ty.i (Ty.prod Ty.i (Ty.prod Ty.i (Ty.prod Ty.i (Ty.prod (Ty.slice YReadMark) (Ty.prod (Ty.slice (Ty.prod
  Ty.i (Ty.prod Ty.i Ty.unit))) Ty.unit)))))))))) i.2.2.2.2.1, AV.pv (Ty.slice YReadMark) i.2.2.2.2.2.1, AV.pv (Ty.slice (Ty.prod Ty.i
  (Ty.prod Ty.i Ty.unit))) i.2.2.2.2.2.2.1, AV.pv Ty.i i.2.2.2.2.2.2.2.1]]), some (Cont.cells 9 [[AV.pv Ty.i p.1, AV.pv Ty.i p.2.1, AV.pv Ty.i p.2.2.1, AV.pv
  Ty.i p.2.2.2.1, AV.pv Ty.i p.2.2.2.2.1, AV.pv Ty.i p.2.2.2.2.2.1, AV.pv Ty.i p.2.2.2.2.2.2.1, AV.pv (Ty.slice (Ty.prod Ty.i (Ty.prod Ty.i
  Ty.unit))) p.2.2.2.2.2.2.2.1, AV.pv (Ty.slice YReadMark) p.2.2.2.2.2.2.2.2.1]])]

def impl_Engine_areTransactions_X2_3 (i : List (Int × Int × Int × Int × Int × Int × Int × List (Int × Int × Unit) × List (Int × Int × Unit) × Unit) × Int × Bool × List (List (Int × Int × Int × Int × Int × Unit)) × List (Int × Int × Int × Int × Int × Int × Int × List (Int × Int ×
  Unit) × List (Int × Int × Unit) × Unit) × List (Int × Int × Unit) × List (Int × Int × Unit) × Int × Unit) (p : Int × Int × Int × Int × Int × Int × Int × List (Int × Int × Unit) × List (Int × Int × Unit) × Unit) : St :=
  St.mk [AV.junk, AV.ptr 0 none 0 0, AV.pv Ty.bool false, AV.junk, AV.junk, AV.junk, AV.junk, AV.junk, AV.junk, AV.junk, AV.junk, AV.junk, AV.junk, AV.junk, AV.junk, AV.junk, AV.junk, AV.junk, AV.junk, AV.junk, AV.junk, AV.junk, AV.junk,
  AV.junk, AV.junk, AV.junk, AV.junk, AV.junk, AV.junk, AV.junk, AV.junk, AV.junk, AV.junk, AV.junk, AV.junk, AV.junk, AV.junk, AV.junk, AV.junk, AV.junk, AV.junk, AV.junk, AV.junk, AV.junk, AV.junk, AV.junk, AV.junk, AV.junk, AV.junk,
  AV.junk, AV.junk, AV.junk, AV.junk, AV.junk, AV.junk, AV.junk, AV.junk, AV.junk, AV.junk, AV.junk, AV.junk, AV.junk] [some (Cont.cells 6 [[AV.pv Ty.bool i.2.2.1, AV.pv (Ty.slice (Ty.slice (Ty.prod Ty.i (Ty.prod (Ty.int
  IntKind.i64) (Ty.prod Ty.i YReadMark))))) i.2.2.2.1, AV.pv (Ty.slice (Ty.prod Ty.i (Ty.prod Ty.i (Ty.prod Ty.i
  (Ty.prod Ty.i (Ty.prod Ty.i (Ty.prod Ty.i (Ty.prod Ty.i (Ty.prod (Ty.slice YReadMark) (Ty.prod (Ty.slice (Ty.prod
  Ty.i (Ty.prod Ty.i Ty.unit))) Ty.unit)))))))))) i.2.2.2.2.1, AV.pv (Ty.slice YReadMark) i.2.2.2.2.2.1, AV.pv (Ty.slice (Ty.prod Ty.i
  (Ty.prod Ty.i Ty.unit))) i.2.2.2.2.2.2.1, AV.pv Ty.i i.2.2.2.2.2.2.2.1]]), some (Cont.cells 9 [[AV.pv Ty.i p.1, AV.pv Ty.i p.2.1, AV.pv Ty.i p.2.2.1, AV.pv
  Ty.i p.2.2.2.1, AV.pv Ty.i p.2.2.2.2.1, AV.pv Ty.i p.2.2.2.2.2.1, AV.pv Ty.i p.2.2.2.2.2.2.1, AV.pv (Ty.slice (Ty.prod Ty.i (Ty.prod Ty.i
  Ty.unit))) p.2.2.2.2.2.2.2.1, AV.pv (Ty.slice YReadMark) p.2.2.2.2.2.2.2.2.1]])]

def impl_Engine_areTransactions_X2_4 (i : List (Int × Int × Int × Int × Int × Int × Int × List (Int × Int × Unit) × List (Int × Int × Unit) × Unit) × Int × Bool × List (List (Int × Int × Int × Int × Int × Unit)) × List (Int × Int × Int × Int × Int × Int × Int × List (Int × Int ×
  Unit) × List (Int × Int × Unit) × Unit) × List (Int × Int × Unit) × List (Int × Int × Unit) × Int × Unit) (p : Int × Int × Int × Int × Int × Int × Int × List (Int × Int × Unit) × List (Int × Int × Unit) × Unit) : St :=
  St.mk [AV.junk, AV.ptr 0 none 0 0, AV.pv Ty.bool false, AV.junk, AV.junk, AV.junk, AV.junk, AV.junk, AV.junk, AV.junk, AV.junk, AV.junk, AV.junk, AV.junk, AV.junk, AV.junk, AV.junk, AV.junk, AV.junk, AV.junk, AV.junk, AV.junk, AV.junk,
  AV.junk, AV.junk, AV.junk, AV.junk, AV.junk, AV.junk, AV.junk, AV.junk, AV.junk, AV.junk, AV.junk, AV.junk, AV.junk, AV.junk, AV.junk, AV.junk, AV.junk, AV.junk, AV.junk, AV.junk, AV.junk, AV.junk, AV.junk, AV.junk, AV.junk, AV.junk,
  AV.junk, AV.junk, AV.junk, AV.junk, AV.junk, AV.junk, AV.junk, AV.junk, AV.junk, AV.junk, AV.junk, AV.junk, AV.junk] [some (Cont.cells 6 [[AV.pv Ty.bool i.2.2.1, AV.pv (Ty.slice (Ty.slice (Ty.prod Ty.i (Ty.prod (Ty.int
  IntKind.i64) (Ty.prod Ty.i YReadMark))))) i.2.2.2.1, AV.pv (Ty.slice (Ty.prod Ty.i (Ty.prod Ty.i (Ty.prod Ty.i
  (Ty.prod Ty.i (Ty.prod Ty.i (Ty.prod Ty.i (Ty.prod Ty.i (Ty.prod (Ty.slice YReadMark) (Ty.prod (Ty.slice (Ty.prod
  Ty.i (Ty.prod Ty.i Ty.unit))) Ty.unit)))))))))) i.2.2.2.2.1, AV.pv (Ty.slice YReadMark) i.2.2.2.2.2.1, AV.pv (Ty.slice (Ty.prod Ty.i
  (Ty.prod Ty.i Ty.unit))) i.2.2.2.2.2.2.1, AV.pv Ty.i i.2.2.2.2.2.2.2.1]]), some (Cont.cells 9 [[AV.pv Ty.i p.1, AV.pv Ty.i p.2.1, AV.pv Ty.i p.2.2.1, AV.pv
  Ty.i p.2.2.2.1, AV.pv Ty.i p.2.2.2.2.1, AV.pv Ty.i p.2.2.2.2.2.1, AV.pv Ty.i p.2.2.2.2.2.2.1, AV.pv (Ty.slice (Ty.prod Ty.i (Ty.prod Ty.i
  Ty.unit))) p.2.2.2.2.2.2.2.1, AV.pv (Ty.slice YReadMark) p.2.2.2.2.2.2.2.2.1]])]

def impl_Engine_areTransactions_X2_5 (i : List (Int × Int × Int × Int × Int × Int × Int × List (Int × Int × Unit) × List (Int × Int × Unit) × Unit) × Int × Bool × List (List (Int × Int × Int × Int × Int × Unit)) × List (Int × Int × Int × Int × Int × Int × Int × List (Int × Int ×
  Unit) × List (Int × Int × Unit) × Unit) × List (Int × Int × Unit) × List (Int × Int × Unit) × Int × Unit) (p : Int × Int × Int × Int × Int × Int × Int × List (Int × Int × Unit) × List (Int × Int × Unit) × Unit) : St :=
  St.mk [AV.junk, AV.ptr 0 none 0 0, AV.pv Ty.bool false, AV.junk, AV.junk, AV.junk, AV.junk, AV.junk, AV.junk, AV.junk, AV.junk, AV.junk, AV.junk, AV.junk, AV.junk, AV.junk, AV.junk, AV.junk, AV.junk, AV.junk, AV.junk, AV.junk, AV.junk,
  AV.junk, AV.junk, AV.junk, AV.junk, AV.junk, AV.junk, AV.junk, AV.junk, AV.junk, AV.junk, AV.junk, AV.junk, AV.junk, AV.junk, AV.junk, AV.junk, AV.junk, AV.junk, AV.junk, AV.junk, AV.junk, AV.junk, AV.junk, AV.junk, AV.junk, AV.junk,
  AV.junk, AV.junk, AV.junk, AV.junk, AV.junk, AV.junk, AV.junk, AV.junk, AV.junk, AV.junk, AV.junk, AV.junk, AV.junk] [some (Cont.cells 6 [[AV.pv Ty.bool i.2.2.1, AV.pv (Ty.slice (Ty.slice (Ty.prod Ty.i (Ty.prod (Ty.int
  IntKind.i64) (Ty.prod Ty.i YReadMark))))) i.2.2.2.1, AV.pv (Ty.slice (Ty.prod Ty.i (Ty.prod Ty.i (Ty.prod Ty.i
  (Ty.prod Ty.i (Ty.prod Ty.i (Ty.prod Ty.i (Ty.prod Ty.i (Ty.prod (Ty.slice YReadMark) (Ty.prod (Ty.slice (Ty.prod
  Ty.i (Ty.prod Ty.i Ty.unit))) Ty.unit)))))))))) i.2.2.2.2.1, AV.pv (Ty.slice YReadMark) i.2.2.2.2.2.1, AV.pv (Ty.slice (Ty.prod Ty.i
  (Ty.prod Ty.i Ty.unit))) i.2.2.2.2.2.2.1, AV.pv Ty.i i.2.2.2.2.2.2.2.1]]), some (Cont.cells 9 [[AV.pv Ty.i p.1, AV.pv Ty.i p.2.1, AV.pv Ty.i p.2.2.1, AV.pv
  Ty.i p.2.2.2.1, AV.pv Ty.i p.2.2.2.2.1, AV.pv Ty.i p.2.2.2.2.2.1, AV.pv Ty.i p.2.2.2.2.2.2.1, AV.pv (Ty.slice (Ty.prod Ty.i (Ty.prod Ty.i
  Ty.unit))) p.2.2.2.2.2.2.2.1, AV.pv (Ty.slice YReadMark) p.2.2.2.2.2.2.2.2.1]])]

def impl_Engine_areTransactions_X2_6 (i : List (Int × Int × Int × Int × Int × Int × Int × List (Int × Int × Unit) × List (Int × Int × Unit) × Unit) × Int × Bool × List (List (Int × Int × Int × Int × Int × Unit)) × List (Int × Int × Int × Int × Int × Int × Int × List (Int × Int ×
  Unit) × List (Int × Int × Unit) × Unit) × List (Int × Int × Unit) × List (Int × Int × Unit) × Int × Unit) (p : Int × Int × Int × Int × Int × Int × Int × List (Int × Int × Unit) × List (Int × Int × Unit) × Unit) : St :=
  St.mk [AV.junk, AV.ptr 0 none 0 0, AV.pv Ty.bool false, AV.junk, AV.junk, AV.junk, AV.junk, AV.junk, AV.junk, AV.junk, AV.junk, AV.junk, AV.junk, AV.junk, AV.junk, AV.junk, AV.junk, AV.junk, AV.junk, AV.junk, AV.junk, AV.junk, AV.junk,
  AV.junk, AV.junk, AV.junk, AV.junk, AV.junk, AV.junk, AV.junk, AV.junk, AV.junk, AV.junk, AV.junk, AV.junk, AV.junk, AV.junk, AV.junk, AV.junk, AV.junk, AV.junk, AV.junk, AV.junk, AV.junk, AV.junk, AV.junk, AV.junk, AV.junk, AV.junk,
  AV.junk, AV.junk, AV.junk, AV.junk, AV.junk, AV.junk, AV.junk, AV.junk, AV.junk, AV.junk, AV.junk, AV.junk, AV.junk] [some (Cont.cells 6 [[AV.pv Ty.bool i.2.2.1, AV.pv (Ty.slice (Ty.slice (Ty.prod Ty.i (Ty.prod (Ty.int
  IntKind.i64) (Ty.prod Ty.i YReadMark))))) i.2.2.2.1, AV.pv (Ty.slice (Ty.prod Ty.i (Ty.prod Ty.i (Ty.prod Ty.i
  (Ty.prod Ty.i (Ty.prod Ty.i (Ty.prod Ty.i (Ty.prod Ty.i (Ty.prod (Ty.slice YReadMark) (Ty.prod (Ty.slice (Ty.prod
  Ty.i (Ty.prod Ty.i Ty.unit))) Ty.unit)))))))))) i.2.2.2.2.1, AV.pv (Ty.slice YReadMark) i.2.2.2.2.2.1, AV.pv (Ty.slice (Ty.prod Ty.i
  (Ty.prod Ty.i Ty.unit))) i.2.2.2.2.2.2.1, AV.pv Ty.i i.2.2.2.2.2.2.2.1]]), some (Cont.cells 9 [[AV.pv Ty.i p.1, AV.pv Ty.i p.2.1, AV.pv Ty.i p.2.2.1, AV.pv
  Ty.i p.2.2.2.1, AV.pv Ty.i p.2.2.2.2.1, AV.pv Ty.i p.2.2.2.2.2.1, AV.pv Ty.i p.2.2.2.2.2.2.1, AV.pv (Ty.slice (Ty.prod Ty.i (Ty.prod Ty.i
  Ty.unit))) p.2.2.2.2.2.2.2.1, AV.pv (Ty.slice YReadMark) p.2.2.2.2.2.2.2.2.1]])]

def impl_Engine_areTransactions_X2_7 (i : List (Int × Int × Int × Int × Int × Int × Int × List (Int × Int × Unit) × List (Int × Int × Unit) × Unit) × Int × Bool × List (List (Int × Int × Int × Int × Int × Unit)) × List (Int × Int × Int × Int × Int × Int × Int × List (Int × Int ×
  Unit) × List (Int × Int × Unit) × Unit) × List (Int × Int × Unit) × List (Int × Int × Unit) × Int × Unit) (p : Int × Int × Int × Int × Int × Int × Int × List (Int × Int × Unit) × List (Int × Int × Unit) × Unit) : St :=
  St.mk [AV.junk, AV.ptr 0 none 0 0, AV.pv Ty.bool false, AV.junk, AV.junk, AV.junk, AV.junk, AV.junk, AV.junk, AV.junk, AV.junk, AV.junk, AV.junk, AV.junk, AV.junk, AV.junk, AV.junk, AV.junk, AV.junk, AV.junk, AV.junk, AV.junk, AV.junk,
  AV.junk, AV.junk, AV.junk, AV.junk, AV.junk, AV.junk, AV.junk, AV.junk, AV.junk, AV.junk, AV.junk, AV.junk, AV.junk, AV.junk, AV.junk, AV.junk, AV.junk, AV.junk, AV.junk, AV.junk, AV.junk, AV.junk, AV.junk, AV.junk, AV.junk, AV.junk,
  AV.junk, AV.junk, AV.junk, AV.junk, AV.junk, AV.junk, AV.junk, AV.junk, AV.junk, AV.junk, AV.junk, AV.junk, AV.junk] [some (Cont.cells 6 [[AV.pv Ty.bool i.2.2.1, AV.pv (Ty.slice (Ty.slice (Ty.prod Ty.i (Ty.prod (Ty.int
  IntKind.i64) (Ty.prod Ty.i YReadMark))))) i.2.2.2.1, AV.pv (Ty.slice (Ty.prod Ty.i (Ty.prod Ty.i (Ty.prod Ty.i
  (Ty.prod Ty.i (Ty.prod Ty.i (Ty.prod Ty.i (Ty.prod Ty.i (Ty.prod (Ty.slice YReadMark) (Ty.prod (Ty.slice (Ty.prod
  Ty.i (Ty.prod Ty.i Ty.unit))) Ty.unit)))))))))) i.2.2.2.2.1, AV.pv (Ty.slice YReadMark) i.2.2.2.2.2.1, AV.pv (Ty.slice (Ty.prod Ty.i
  (Ty.prod Ty.i Ty.unit))) i.2.2.2.2.2.2.1, AV.pv Ty.i i.2.2.2.2.2.2.2.1]]), some (Cont.cells 9 [[AV.pv Ty.i p.1, AV.pv Ty.i p.2.1, AV.pv Ty.i p.2.2.1, AV.pv
  Ty.i p.2.2.2.1, AV.pv Ty.i p.2.2.2.2.1, AV.pv Ty.i p.2.2.2.2.2.1, AV.pv Ty.i p.2.2.2.2.2.2.1, AV.pv (Ty.slice (Ty.prod Ty.i (Ty.prod Ty.i
  Ty.unit))) p.2.2.2.2.2.2.2.1, AV.pv (Ty.slice YReadMark) p.2.2.2.2.2.2.2.2.1]])]

def impl_Engine_areTransactions_X2_8 (i : List (Int × Int × Int × Int × Int × Int × Int × List (Int × Int × Unit) × List (Int × Int × Unit) × Unit) × Int × Bool × List (List (Int × Int × Int × Int × Int × Unit)) × List (Int × Int × Int × Int × Int × Int × Int × List (Int × Int ×
  Unit) × List (Int × Int × Unit) × Unit) × List (Int × Int × Unit) × List (Int × Int × Unit) × Int × Unit) (p : Unit) : St :=
  St.mk [AV.junk, AV.ptr 0 none 0 0, AV.junk, AV.junk, AV.junk, AV.junk, AV.junk, AV.junk, AV.junk, AV.junk, AV.junk, AV.junk, AV.junk, AV.junk, AV.junk, AV.junk, AV.junk, AV.junk, AV.junk, AV.junk, AV.junk, AV.junk, AV.junk, AV.junk, AV.junk,
  AV.junk, AV.junk, AV.junk, AV.junk, AV.junk, AV.junk, AV.junk, AV.junk, AV.junk, AV.junk, AV.junk, AV.junk, AV.junk, AV.junk, AV.junk, AV.junk, AV.junk, AV.junk, AV.junk, AV.junk, AV.junk, AV.junk, AV.junk, AV.junk, AV.junk, AV.junk,
  AV.junk, AV.junk, AV.junk, AV.junk, AV.junk, AV.junk, AV.junk, AV.junk, AV.junk, AV.junk, AV.junk] [some (Cont.cells 6 [[AV.pv Ty.bool i.2.2.1, AV.pv (Ty.slice (Ty.slice (Ty.prod Ty.i (Ty.prod Ty.i (Ty.prod
  Ty.i YReadMark))))) i.2.2.2.1, AV.pv (Ty.slice (Ty.prod Ty.i (Ty.prod Ty.i (Ty.prod Ty.i (Ty.prod (Ty.int
  IntKind.i64) (Ty.prod Ty.i (Ty.prod Ty.i (Ty.prod Ty.i (Ty.prod (Ty.slice YReadMark) (Ty.prod (Ty.slice (Ty.prod Ty.i
  (Ty.prod Ty.i Ty.unit))) Ty.unit)))))))))) i.2.2.2.2.1, AV.pv (Ty.slice YReadMark) i.2.2.2.2.2.1, AV.pv (Ty.slice (Ty.prod Ty.i (Ty.prod (Ty.int
  IntKind.i64) Ty.unit))) i.2.2.2.2.2.2.1, AV.pv Ty.i i.2.2.2.2.2.2.2.1]])]

noncomputable def impl_Engine_areTransactions_E2 (i : List (Int × Int × Int × Int × Int × Int × Int × List (Int × Int × Unit) × List (Int × Int × Unit) × Unit) × Int × Bool × List (List (Int × Int × Int × Int × Int × Unit)) × List (Int × Int × Int × Int × Int × Int × Int × List (Int × Int ×
  Unit) × List (Int × Int × Unit) × Unit) × List (Int × Int × Unit) × List (Int × Int × Unit) × Int × Unit) (p : Int × Int × Int × Int × Int × Int × Int × List (Int × Int × Unit) × List (Int × Int × Unit) × Unit ⊕ Int × Int × Int × Int × Int × Int × Int × List (Int × Int × Unit) × List (Int × Int × Unit) × Unit ⊕ Int × Int × Int × Int × Int × Int × Int
  × List (Int × Int × Unit) × List (Int × Int × Unit) × Unit ⊕ Int × Int × Int × Int × Int × Int × Int × List (Int × Int × Unit) × List (Int × Int × Unit) × Unit ⊕ Int × Int × Int × Int × Int × Int × Int × List (Int × Int × Unit) × List (Int ×
  Int × Unit) × Unit ⊕ Int × Int × Int × Int × Int × Int × Int × List (Int × Int × Unit) × List (Int × Int × Unit) × Unit ⊕ Int × Int × Int × Int × Int × Int × Int × List (Int × Int × Unit) × List (Int × Int × Unit) × Unit ⊕ Int × Int × Int ×
  Int × Int × Int × Int × List (Int × Int × Unit) × List (Int × Int × Unit) × Unit ⊕ Unit) (R : Type) (K : Ex → St → Option R) : Option R := sumC p (fun p => K (Ex.ret) (impl_Engine_areTransactions_X2_0 i p)) (fun p => sumC p (fun p => K (Ex.ret) (impl_Engine_areTransactions_X2_1 i p)) (fun p => sumC p (fun p => K (Ex.ret) (impl_Engine_areTransactions_X2_2 i p)) (fun p => sumC p (fun p => K (Ex.ret) (impl_Engine_areTransactions_X2_3 i p)) (fun p => sumC p (fun p => K (Ex.ret) (impl_Engine_areTransactions_X2_4 i p)) (fun p => sumC p (fun p => K (Ex.ret) (impl_Engine_areTransactions_X2_5 i p)) (fun p => sumC p (fun p => K (Ex.ret) (impl_Engine_areTransactions_X2_6 i p)) (fun p => sumC p (fun p => K (Ex.ret) (impl_Engine_areTransactions_X2_7 i p)) (fun p => K (Ex.exit 0) (impl_Engine_areTransactions_X2_8 i p)))))))))

noncomputable def impl_Engine_areTransactions_K2 (i : List (Int × Int × Int × Int × Int × Int × Int × List (Int × Int × Unit) × List (Int × Int × Unit) × Unit) × Int × Bool × List (List (Int × Int × Int × Int × Int × Unit)) × List (Int × Int × Int × Int × Int × Int × Int × List (Int × Int ×
  Unit) × List (Int × Int × Unit) × Unit) × List (Int × Int × Unit) × List (Int × Int × Unit) × Int × Unit) (p : Int × Int × Int × Int × Int × Int × Int × List (Int × Int × Unit) × List (Int × Int × Unit) × Unit ⊕ Int × Int × Int × Int × Int × Int × Int × List (Int × Int × Unit) × List (Int × Int × Unit) × Unit ⊕ Int × Int × Int × Int × Int × Int × Int
  × List (Int × Int × Unit) × List (Int × Int × Unit) × Unit ⊕ Int × Int × Int × Int × Int × Int × Int × List (Int × Int × Unit) × List (Int × Int × Unit) × Unit ⊕ Int × Int × Int × Int × Int × Int × Int × List (Int × Int × Unit) × List (Int ×
  Int × Unit) × Unit ⊕ Int × Int × Int × Int × Int × Int × Int × List (Int × Int × Unit) × List (Int × Int × Unit) × Unit ⊕ Int × Int × Int × Int × Int × Int × Int × List (Int × Int × Unit) × List (Int × Int × Unit) × Unit ⊕ Int × Int × Int ×
  Int × Int × Int × Int × List (Int × Int × Unit) × List (Int × Int × Unit) × Unit ⊕ Unit) : Ex × St := sumC p (fun p => ((Ex.ret), impl_Engine_areTransactions_X2_0 i p)) (fun p => sumC p (fun p => ((Ex.ret), impl_Engine_areTransactions_X2_1 i p)) (fun p => sumC p (fun p => ((Ex.ret), impl_Engine_areTransactions_X2_2 i p)) (fun p => sumC p (fun p => ((Ex.ret), impl_Engine_areTransactions_X2_3 i p)) (fun p => sumC p (fun p => ((Ex.ret), impl_Engine_areTransactions_X2_4 i p)) (fun p => sumC p (fun p => ((Ex.ret), impl_Engine_areTransactions_X2_5 i p)) (fun p => sumC p (fun p => ((Ex.ret), impl_Engine_areTransactions_X2_6 i p)) (fun p => sumC p (fun p => ((Ex.ret), impl_Engine_areTransactions_X2_7 i p)) (fun p => ((Ex.exit 0), impl_Engine_areTransactions_X2_8 i p)))))))))

def impl_Engine_areTransactions_M2 (i : List (Int × Int × Int × Int × Int × Int × Int × List (Int × Int × Unit) × List (Int × Int × Unit) × Unit) × Int × Bool × List (List (Int × Int × Int × Int × Int × Unit)) × List (Int × Int × Int × Int × Int × Int × Int × List (Int × Int ×
  Unit) × List (Int × Int × Unit) × Unit) × List (Int × Int × Unit) × List (Int × Int × Unit) × Int × Unit) (v : Int × Unit) : den impl_Engine_areTransactions_T2.ty := (i.1, i.2.1, v.1, i.2.2.1, i.2.2.2.1, i.2.2.2.2.1, i.2.2.2.2.2.1, i.2.2.2.2.2.2.1, i.2.2.2.2.2.2.2.1, ())

def impl_Engine_areTransactions_P2 (x : den impl_Engine_areTransactions_T2.ty) : (List (Int × Int × Int × Int × Int × Int × Int × List (Int × Int × Unit) × List (Int × Int × Unit) × Unit) × Int × Bool × List (List (Int × Int × Int × Int × Int × Unit)) × List (Int × Int × Int × Int × Int × Int × Int × List (Int × Int ×
  Unit) × List (Int × Int × Unit) × Unit) × List (Int × Int × Unit) × List (Int × Int × Unit) × Int × Unit) × (Int × Unit) := ((x.1, x.2.1, x.2.2.2.1, x.2.2.2.2.1, x.2.2.2.2.2.1, x.2.2.2.2.2.2.1, x.2.2.2.2.2.2.2.1, x.2.2.2.2.2.2.2.2.1, ()), (x.2.2.1, ()))

noncomputable def impl_Engine_areTransactions_F2 : LoopFn := fun s R K => Tmpl.readS impl_Engine_areTransactions_T2 0 s fun x => (iter (fun v => impl_Engine_areTransactions_D2 (impl_Engine_areTransactions_P2 x).1 v _ some) (impl_Engine_areTransactions_P2 x).2).bind fun p => impl_Engine_areTransactions_E2 (impl_Engine_areTransactions_P2 x).1 p R K

noncomputable def impl_Engine_areTransactions_C : Cfg := { ti := g_tis, ents := [impl_IsValidTransaction_Ent, impl_Store_readsExist_Ent], ann := [(2, impl_Engine_areTransactions_F2)], lent := 0 }

def impl_Engine_areTransactions_ti : Tmpl := Tmpl.mk (TmL.slot (Ty.prod Ty.bool (Ty.prod (Ty.prod (Ty.slice (Ty.slice YVersion))
  Ty.unit) (Ty.prod (Ty.slice (Ty.prod Ty.i (Ty.prod Ty.i (Ty.prod Ty.i (Ty.prod Ty.i (Ty.prod Ty.i (Ty.prod Ty.i (Ty.prod Ty.i
  (Ty.prod (Ty.slice YReadMark) (Ty.prod (Ty.slice YReadMark) Ty.unit)))))))))) (Ty.prod (Ty.slice (Ty.prod (Ty.int
  IntKind.i64) (Ty.prod Ty.i Ty.unit))) (Ty.prod (Ty.slice YReadMark) (Ty.prod Ty.i Ty.unit)))))) TmL.nil) TmH.nil

def impl_Engine_areTransactions_to : Tmpl := Tmpl.mk (TmL.slot Ty.bool TmL.nil) TmH.nil

noncomputable def impl_Engine_areTransactions_S (x : (Bool × (List (List (Int × Int × Int × Int × Int × Unit)) × Unit) × List (Int × Int × Int × Int × Int × Int × Int × List (Int × Int × Unit) × List (Int × Int × Unit) × Unit) × List (Int × Int × Unit) × List (Int × Int × Unit) × Int × Unit) ×
  Unit) : Option (Bool × Unit) :=
  Option.bind (iter (fun v => impl_Engine_areTransactions_D2 (x.1.2.2.1, (↑(List.length x.1.2.2.1) : Int), x.1.1, x.1.2.1.1, x.1.2.2.1, x.1.2.2.2.1, x.1.2.2.2.2.1, x.1.2.2.2.2.2.1, ()) v (Int × Unit ⊕ Int × Int × Int × Int × Int × Int × Int ×
  List (Int × Int × Unit) × List (Int × Int × Unit) × Unit ⊕ Int × Int × Int × Int × Int × Int × Int × List (Int × Int × Unit) × List (Int × Int × Unit) × Unit ⊕ Int × Int × Int × Int × Int × Int × Int × List (Int × Int × Unit) × List (Int ×
  Int × Unit) × Unit ⊕ Int × Int × Int × Int × Int × Int × Int × List (Int × Int × Unit) × List (Int × Int × Unit) × Unit ⊕ Int × Int × Int × Int × Int × Int × Int × List (Int × Int × Unit) × List (Int × Int × Unit) × Unit ⊕ Int × Int × Int ×
  Int × Int × Int × Int × List (Int × Int × Unit) × List (Int × Int × Unit) × Unit ⊕ Int × Int × Int × Int × Int × Int × Int × List (Int × Int × Unit) × List (Int × Int × Unit) × Unit ⊕ Int × Int × Int × Int × Int × Int × Int × List (Int × Int
  × Unit) × List (Int × Int × Unit) × Unit ⊕ Unit) some) (0, ())) fun p => sumC p (fun p => some (false, ())) fun p => sumC p (fun p => some (false, ())) fun p => sumC p (fun p => some (false, ())) fun p => sumC p (fun p => some (false, ()))
  fun p => sumC p (fun p => some (false, ())) fun p => sumC p (fun p => some (false, ())) fun p => sumC p (fun p => some (false, ())) fun p => sumC p (fun p => some (false, ())) fun p => some (decide ((↑(List.length x.1.2.2.1) : Int) ≤ 6), ())

noncomputable def impl_Engine_areTransactions_Ent : Ent := ⟨126, impl_Engine_areTransactions_ti, impl_Engine_areTransactions_to, impl_Engine_areTransactions_S⟩

theorem impl_Engine_areTransactions_HC : CfgOK Go.Proofs.Try.prog impl_Engine_areTransactions_C := ⟨⟨info_ok g_tisOK⟩, (all_cons impl_IsValidTransaction_OK (all_cons impl_Store_readsExist_OK all_nil)), g_wide⟩

theorem impl_Engine_areTransactions_lk2 : ∀ F, ((impl_Engine_areTransactions_C).ann.find? fun x => x.1 == firstId ((loopsOf (codeOf Go.Proofs.Try.f126)).getD 0 .skip)).map (·.2) = some F → LoopOK Go.Proofs.Try.prog impl_Engine_areTransactions_C.lent ((loopsOf (codeOf Go.Proofs.Try.f126)).getD 0 .skip) F := by
  refine lookup_ok (show ((impl_Engine_areTransactions_C).ann.find? fun x => x.1 == firstId ((loopsOf (codeOf Go.Proofs.Try.f126)).getD 0 .skip)).map (·.2) = some impl_Engine_areTransactions_F2 from by kernel_rfl) ?_
  exact loop_ok impl_Engine_areTransactions_HC (loops_all 0 (by kernel_rfl) (fun k hk => absurd hk (Nat.not_lt_zero k))) impl_Engine_areTransactions_T2 [1, 2] impl_Engine_areTransactions_M2 impl_Engine_areTransactions_P2 (fun x => rfl) impl_Engine_areTransactions_D2 impl_Engine_areTransactions_D2_nat impl_Engine_areTransactions_E2 impl_Engine_areTransactions_K2 (fun i p R K => by rcases p with p | p | p | p | p | p | p | p | p <;> rfl) (fun i v => by kernel_rfl)

theorem impl_Engine_areTransactions_VC (x : den impl_Engine_areTransactions_ti.ty) : vcall impl_Engine_areTransactions_C Go.Proofs.Try.f126 impl_Engine_areTransactions_ti impl_Engine_areTransactions_to x = impl_Engine_areTransactions_S x := by kernel_rfl

theorem impl_Engine_areTransactions_OK : EntOK Go.Proofs.Try.prog impl_Engine_areTransactions_Ent := EntOK.of_vcall impl_Engine_areTransactions_HC Go.Proofs.Try.func126 (body_loops (by kernel_rfl) (loops_all 1 (by kernel_rfl) (fun k hk => match k, hk with | 0, _ => impl_Engine_areTransactions_lk2))) (by kernel_rfl) (by kernel_rfl) impl_Engine_areTransactions_VC

/-! impl.FindTransaction$1 -/

noncomputable def impl_FindTransaction_1_C : Cfg := { ti := g_tis, ents := [], ann := [], lent := 0 }

def impl_FindTransaction_1_ti : Tmpl := Tmpl.mk (TmL.slot (Ty.prod Ty.i (Ty.prod Ty.i (Ty.prod Ty.i (Ty.prod Ty.i (Ty.prod Ty.i (Ty.prod Ty.i (Ty.prod Ty.i (Ty.prod
  (Ty.slice YReadMark) (Ty.prod (Ty.slice YReadMark) Ty.unit))))))))) (TmL.slot (Ty.iref Ty.i) TmL.nil))
  TmH.nil

def impl_FindTransaction_1_to : Tmpl := Tmpl.mk (TmL.slot Ty.bool TmL.nil) TmH.nil

noncomputable def impl_FindTransaction_1_S (x : (Int × Int × Int × Int × Int × Int × Int × List (Int × Int × Unit) × List (Int × Int × Unit) × Unit) × Option Int × Unit) : Option (Bool × Unit) :=
  Option.bind x.2.1 fun v => some (x.1.1 == v, ())

noncomputable def impl_FindTransaction_1_Ent : Ent := ⟨159, impl_FindTransaction_1_ti, impl_FindTransaction_1_to, impl_FindTransaction_1_S⟩

theorem impl_FindTransaction_1_HC : CfgOK Go.Proofs.Try.prog impl_FindTransaction_1_C := ⟨⟨info_ok g_tisOK⟩, all_nil, g_wide⟩

theorem impl_FindTransaction_1_VC (x : den impl_FindTransaction_1_ti.ty) : vcall impl_FindTransaction_1_C Go.Proofs.Try.f159 impl_FindTransaction_1_ti impl_FindTransaction_1_to x = impl_FindTransaction_1_S x := by kernel_rfl

theorem impl_FindTransaction_1_OK : EntOK Go.Proofs.Try.prog impl_FindTransaction_1_Ent := EntOK.of_vcall impl_FindTransaction_1_HC Go.Proofs.Try.func159 (body_loops (by kernel_rfl) (loops_all 0 (by kernel_rfl) (fun k hk => absurd hk (Nat.not_lt_zero k)))) (by kernel_rfl) (by kernel_rfl) impl_FindTransaction_1_VC

/-! slices.IndexFunc[[]impl.Transaction,impl.Transaction] -/

noncomputable def slices_IndexFunc_impl_Transaction_impl_Transaction__impl_FindTransaction_1_D2 (i : List (Int × Int × Int × Int × Int × Int × Int × List (Int × Int × Unit) × List (Int × Int × Unit) × Unit) × (Option Int × Unit) × Int × Unit) (v : Int × Unit) (R : Type) (K : Int × Unit ⊕ Int × Unit ⊕ Unit → Option R) : Option R :=
  bif decide (v.1 < i.2.2.1) then Option.bind (lAt i.1 v.1) fun v_1 => Option.bind (impl_FindTransaction_1_S ((v_1.1, v_1.2.1, v_1.2.2.1, v_1.2.2.2.1, v_1.2.2.2.2.1, v_1.2.2.2.2.2.1, v_1.2.2.2.2.2.2.1, v_1.2.2.2.2.2.2.2.1,
  v_1.2.2.2.2.2.2.2.2.1, ()), i.2.1.1, ())) fun v_2 => bif v_2.1 then K (Sum.inr (Sum.inl (v.1, ()))) else K (Sum.inl (IntKind.wrap IntKind.i64 (v.1 + 1), ())) else K (Sum.inr (Sum.inr ()))

theorem slices_IndexFunc_impl_Transaction_impl_Transaction__impl_FindTransaction_1_D2_nat (i : List (Int × Int × Int × Int × Int × Int × Int × List (Int × Int × Unit) × List (Int × Int × Unit) × Unit) × (Option Int × Unit) × Int × Unit) (v : Int × Unit) (R : Type) (K : Int × Unit ⊕ Int × Unit ⊕ Unit → Option R) : slices_IndexFunc_impl_Transaction_impl_Transaction__impl_FindTransaction_1_D2 i v R K = (slices_IndexFunc_impl_Transaction_impl_Transaction__impl_FindTransaction_1_D2 i v _ some).bind K := nat_bif (nat_bind fun _ => nat_bind fun _ => nat_bif (nat_some) (nat_some)) (nat_some)

def slices_IndexFunc_impl_Transaction_impl_Transaction__impl_FindTransaction_1_T2 : Tmpl := Tmpl.mk (TmL.slot (Ty.slice (Ty.prod Ty.i (Ty.prod Ty.i (Ty.prod Ty.i (Ty.prod Ty.i (Ty.prod Ty.i (Ty.prod Ty.i (Ty.prod Ty.i
  (Ty.prod (Ty.slice YReadMark) (Ty.prod (Ty.slice YReadMark) Ty.unit)))))))))) (TmL.slot (Ty.fn 159 (Ty.prod (Ty.iref
  Ty.i) Ty.unit)) (TmL.junk (TmL.junk (TmL.junk (TmL.junk (TmL.junk (TmL.slot Ty.i (TmL.slot Ty.i (TmL.junk (TmL.junk (TmL.junk (TmL.junk (TmL.junk (TmL.junk (TmL.junk (TmL.junk (TmL.junk
  (TmL.junk TmL.nil))))))))))))))))))) TmH.nil

def slices_IndexFunc_impl_Transaction_impl_Transaction__impl_FindTransaction_1_X2_0 (i : List (Int × Int × Int × Int × Int × Int × Int × List (Int × Int × Unit) × List (Int × Int × Unit) × Unit) × (Option Int × Unit) × Int × Unit) (p : Int × Unit) : St :=
  St.mk [AV.junk, AV.junk, AV.junk, AV.junk, AV.pv Ty.i p.1, AV.junk, AV.junk, AV.junk, AV.junk, AV.junk, AV.junk, AV.junk, AV.junk, AV.junk, AV.junk, AV.junk, AV.junk, AV.junk, AV.junk] []

def slices_IndexFunc_impl_Transaction_impl_Transaction__impl_FindTransaction_1_X2_1 (i : List (Int × Int × Int × Int × Int × Int × Int × List (Int × Int × Unit) × List (Int × Int × Unit) × Unit) × (Option Int × Unit) × Int × Unit) (p : Unit) : St :=
  St.mk [AV.junk, AV.junk, AV.junk, AV.junk, AV.junk, AV.junk, AV.junk, AV.junk, AV.junk, AV.junk, AV.junk, AV.junk, AV.junk, AV.junk, AV.junk, AV.junk, AV.junk, AV.junk, AV.junk] []

noncomputable def slices_IndexFunc_impl_Transaction_impl_Transaction__impl_FindTransaction_1_E2 (i : List (Int × Int × Int × Int × Int × Int × Int × List (Int × Int × Unit) × List (Int × Int × Unit) × Unit) × (Option Int × Unit) × Int × Unit) (p : Int × Unit ⊕ Unit) (R : Type) (K : Ex → St → Option R) : Option R := sumC p (fun p => K (Ex.ret) (slices_IndexFunc_impl_Transaction_impl_Transaction__impl_FindTransaction_1_X2_0 i p)) (fun p => K (Ex.exit 0) (slices_IndexFunc_impl_Transaction_impl_Transaction__impl_FindTransaction_1_X2_1 i p))

noncomputable def slices_IndexFunc_impl_Transaction_impl_Transaction__impl_FindTransaction_1_K2 (i : List (Int × Int × Int × Int × Int × Int × Int × List (Int × Int × Unit) × List (Int × Int × Unit) × Unit) × (Option Int × Unit) × Int × Unit) (p : Int × Unit ⊕ Unit) : Ex × St := sumC p (fun p => ((Ex.ret), slices_IndexFunc_impl_Transaction_impl_Transaction__impl_FindTransaction_1_X2_0 i p)) (fun p => ((Ex.exit 0), slices_IndexFunc_impl_Transaction_impl_Transaction__impl_FindTransaction_1_X2_1 i p))

def slices_IndexFunc_impl_Transaction_impl_Transaction__impl_FindTransaction_1_M2 (i : List (Int × Int × Int × Int × Int × Int × Int × List (Int × Int × Unit) × List (Int × Int × Unit) × Unit) × (Option Int × Unit) × Int × Unit) (v : Int × Unit) : den slices_IndexFunc_impl_Transaction_impl_Transaction__impl_FindTransaction_1_T2.ty := (i.1, i.2.1, i.2.2.1, v.1, ())

def slices_IndexFunc_impl_Transaction_impl_Transaction__impl_FindTransaction_1_P2 (x : den slices_IndexFunc_impl_Transaction_impl_Transaction__impl_FindTransaction_1_T2.ty) : (List (Int × Int × Int × Int × Int × Int × Int × List (Int × Int × Unit) × List (Int × Int × Unit) × Unit) × (Option Int × Unit) × Int × Unit) × (Int × Unit) := ((x.1, x.2.1, x.2.2.1, ()), (x.2.2.2.1, ()))

noncomputable def slices_IndexFunc_impl_Transaction_impl_Transaction__impl_FindTransaction_1_F2 : LoopFn := fun s R K => Tmpl.readS slices_IndexFunc_impl_Transaction_impl_Transaction__impl_FindTransaction_1_T2 0 s fun x => (iter (fun v => slices_IndexFunc_impl_Transaction_impl_Transaction__impl_FindTransaction_1_D2 (slices_IndexFunc_impl_Transaction_impl_Transaction__impl_FindTransaction_1_P2 x).1 v _ some) (slices_IndexFunc_impl_Transaction_impl_Transaction__impl_FindTransaction_1_P2 x).2).bind fun p => slices_IndexFunc_impl_Transaction_impl_Transaction__impl_FindTransaction_1_E2 (slices_IndexFunc_impl_Transaction_impl_Transaction__impl_FindTransaction_1_P2 x).1 p R K

noncomputable def slices_IndexFunc_impl_Transaction_impl_Transaction__impl_FindTransaction_1_C : Cfg := { ti := g_tis, ents := [impl_FindTransaction_1_Ent], ann := [(2, slices_IndexFunc_impl_Transaction_impl_Transaction__impl_FindTransaction_1_F2)], lent := 0 }

def slices_IndexFunc_impl_Transaction_impl_Transaction__impl_FindTransaction_1_ti : Tmpl := Tmpl.mk (TmL.slot (Ty.slice (Ty.prod Ty.i (Ty.prod Ty.i (Ty.prod Ty.i (Ty.prod Ty.i (Ty.prod Ty.i (Ty.prod Ty.i (Ty.prod Ty.i
  (Ty.prod (Ty.slice YReadMark) (Ty.prod (Ty.slice YReadMark) Ty.unit)))))))))) (TmL.slot (Ty.fn 159 (Ty.prod (Ty.iref
  Ty.i) Ty.unit)) TmL.nil)) TmH.nil

def slices_IndexFunc_impl_Transaction_impl_Transaction__impl_FindTransaction_1_to : Tmpl := Tmpl.mk (TmL.slot Ty.i TmL.nil) TmH.nil

noncomputable def slices_IndexFunc_impl_Transaction_impl_Transaction__impl_FindTransaction_1_S (x : List (Int × Int × Int × Int × Int × Int × Int × List (Int × Int × Unit) × List (Int × Int × Unit) × Unit) × (Option Int × Unit) × Unit) : Option (Int × Unit) :=
  Option.bind (iter (fun v => slices_IndexFunc_impl_Transaction_impl_Transaction__impl_FindTransaction_1_D2 (x.1, x.2.1, (↑(List.length x.1) : Int), ()) v (Int × Unit ⊕ Int × Unit ⊕ Unit) some) (0, ())) fun p => sumC p (fun p => some (p.1,
  ())) fun p => some (-1, ())

noncomputable def slices_IndexFunc_impl_Transaction_impl_Transaction__impl_FindTransaction_1_Ent : Ent := ⟨158, slices_IndexFunc_impl_Transaction_impl_Transaction__impl_FindTransaction_1_ti, slices_IndexFunc_impl_Transaction_impl_Transaction__impl_FindTransaction_1_to, slices_IndexFunc_impl_Transaction_impl_Transaction__impl_FindTransaction_1_S⟩

theorem slices_IndexFunc_impl_Transaction_impl_Transaction__impl_FindTransaction_1_HC : CfgOK Go.Proofs.Try.prog slices_IndexFunc_impl_Transaction_impl_Transaction__impl_FindTransaction_1_C := ⟨⟨info_ok g_tisOK⟩, (all_cons impl_FindTransaction_1_OK all_nil), g_wide⟩

theorem slices_IndexFunc_impl_Transaction_impl_Transaction__impl_FindTransaction_1_lk2 : ∀ F, ((slices_IndexFunc_impl_Transaction_impl_Transaction__impl_FindTransaction_1_C).ann.find? fun x => x.1 == firstId ((loopsOf (codeOf Go.Proofs.Try.f158)).getD 0 .skip)).map (·.2) = some F → LoopOK Go.Proofs.Try.prog slices_IndexFunc_impl_Transaction_impl_Transaction__impl_FindTransaction_1_C.lent ((loopsOf (codeOf Go.Proofs.Try.f158)).getD 0 .skip) F := by
  refine lookup_ok (show ((slices_IndexFunc_impl_Transaction_impl_Transaction__impl_FindTransaction_1_C).ann.find? fun x => x.1 == firstId ((loopsOf (codeOf Go.Proofs.Try.f158)).getD 0 .skip)).map (·.2) = some slices_IndexFunc_impl_Transaction_impl_Transaction__impl_FindTransaction_1_F2 from by kernel_rfl) ?_
  exact loop_ok slices_IndexFunc_impl_Transaction_impl_Transaction__impl_FindTransaction_1_HC (loops_all 0 (by kernel_rfl) (fun k hk => absurd hk (Nat.not_lt_zero k))) slices_IndexFunc_impl_Transaction_impl_Transaction__impl_FindTransaction_1_T2 [4] slices_IndexFunc_impl_Transaction_impl_Transaction__impl_FindTransaction_1_M2 slices_IndexFunc_impl_Transaction_impl_Transaction__impl_FindTransaction_1_P2 (fun x => rfl) slices_IndexFunc_impl_Transaction_impl_Transaction__impl_FindTransaction_1_D2 slices_IndexFunc_impl_Transaction_impl_Transaction__impl_FindTransaction_1_D2_nat slices_IndexFunc_impl_Transaction_impl_Transaction__impl_FindTransaction_1_E2 slices_IndexFunc_impl_Transaction_impl_Transaction__impl_FindTransaction_1_K2 (fun i p R K => by rcases p with p | p <;> rfl) (fun i v => by kernel_rfl)

theorem slices_IndexFunc_impl_Transaction_impl_Transaction__impl_FindTransaction_1_VC (x : den slices_IndexFunc_impl_Transaction_impl_Transaction__impl_FindTransaction_1_ti.ty) : vcall slices_IndexFunc_impl_Transaction_impl_Transaction__impl_FindTransaction_1_C Go.Proofs.Try.f158 slices_IndexFunc_impl_Transaction_impl_Transaction__impl_FindTransaction_1_ti slices_IndexFunc_impl_Transaction_impl_Transaction__impl_FindTransaction_1_to x = slices_IndexFunc_impl_Transaction_impl_Transaction__impl_FindTransaction_1_S x := by kernel_rfl

theorem slices_IndexFunc_impl_Transaction_impl_Transaction__impl_FindTransaction_1_OK : EntOK Go.Proofs.Try.prog slices_IndexFunc_impl_Transaction_impl_Transaction__impl_FindTransaction_1_Ent := EntOK.of_vcall slices_IndexFunc_impl_Transaction_impl_Transaction__impl_FindTransaction_1_HC Go.Proofs.Try.func158 (body_loops (by kernel_rfl) (loops_all 1 (by kernel_rfl) (fun k hk => match k, hk with | 0, _ => slices_IndexFunc_impl_Transaction_impl_Transaction__impl_FindTransaction_1_lk2))) (by kernel_rfl) (by kernel_rfl) slices_IndexFunc_impl_Transaction_impl_Transaction__impl_FindTransaction_1_VC

/-! impl.FindTransaction -/

noncomputable def impl_FindTransaction_C : Cfg := { ti := g_tis, ents := [slices_IndexFunc_impl_Transaction_impl_Transaction__impl_FindTransaction_1_Ent], ann := [], lent := 0 }

def impl_FindTransaction_ti : Tmpl := Tmpl.mk (TmL.slot (Ty.prod Ty.bool (Ty.prod (Ty.prod (Ty.slice (Ty.slice YVersion))
  Ty.unit) (Ty.prod (Ty.slice (Ty.prod Ty.i (Ty.prod Ty.i (Ty.prod Ty.i (Ty.prod Ty.i (Ty.prod Ty.i (Ty.prod Ty.i (Ty.prod Ty.i
  (Ty.prod (Ty.slice YReadMark) (Ty.prod (Ty.slice YReadMark) Ty.unit)))))))))) (Ty.prod (Ty.slice (Ty.prod (Ty.int
  IntKind.i64) (Ty.prod Ty.i Ty.unit))) (Ty.prod (Ty.slice YReadMark) (Ty.prod Ty.i Ty.unit)))))) (TmL.slot Ty.i TmL.nil)) TmH.nil

def impl_FindTransaction_to : Tmpl := Tmpl.mk (TmL.slot Ty.i TmL.nil) TmH.nil

noncomputable def impl_FindTransaction_S (x : (Bool × (List (List (Int × Int × Int × Int × Int × Unit)) × Unit) × List (Int × Int × Int × Int × Int × Int × Int × List (Int × Int × Unit) × List (Int × Int × Unit) × Unit) × List (Int × Int × Unit) × List (Int × Int × Unit) × Int × Unit) ×
  Int × Unit) : Option (Int × Unit) :=
  Option.bind (slices_IndexFunc_impl_Transaction_impl_Transaction__impl_FindTransaction_1_S (x.1.2.2.1, (some x.2.1, ()), ())) fun v => some (v.1, ())

noncomputable def impl_FindTransaction_Ent : Ent := ⟨152, impl_FindTransaction_ti, impl_FindTransaction_to, impl_FindTransaction_S⟩

theorem impl_FindTransaction_HC : CfgOK Go.Proofs.Try.prog impl_FindTransaction_C := ⟨⟨info_ok g_tisOK⟩, (all_cons slices_IndexFunc_impl_Transaction_impl_Transaction__impl_FindTransaction_1_OK all_nil), g_wide⟩

theorem impl_FindTransaction_VC (x : den impl_FindTransaction_ti.ty) : vcall impl_FindTransaction_C Go.Proofs.Try.f152 impl_FindTransaction_ti impl_FindTransaction_to x = impl_FindTransaction_S x := by kernel_rfl

theorem impl_FindTransaction_OK : EntOK Go.Proofs.Try.prog impl_FindTransaction_Ent := EntOK.of_vcall impl_FindTransaction_HC Go.Proofs.Try.func152 (body_loops (by kernel_rfl) (loops_all 0 (by kernel_rfl) (fun k hk => absurd hk (Nat.not_lt_zero k)))) (by kernel_rfl) (by kernel_rfl) impl_FindTransaction_VC

/-! (impl.Engine).isActive -/

noncomputable def impl_Engine_isActive_C : Cfg := { ti := g_tis, ents := [impl_FindTransaction_Ent], ann := [], lent := 0 }

def impl_Engine_isActive_ti : Tmpl := Tmpl.mk (TmL.slot (Ty.prod Ty.bool (Ty.prod (Ty.prod (Ty.slice (Ty.slice YVersion))
  Ty.unit) (Ty.prod (Ty.slice (Ty.prod Ty.i (Ty.prod Ty.i (Ty.prod Ty.i (Ty.prod Ty.i (Ty.prod Ty.i (Ty.prod Ty.i (Ty.prod Ty.i
  (Ty.prod (Ty.slice YReadMark) (Ty.prod (Ty.slice YReadMark) Ty.unit)))))))))) (Ty.prod (Ty.slice (Ty.prod (Ty.int
  IntKind.i64) (Ty.prod Ty.i Ty.unit))) (Ty.prod (Ty.slice YReadMark) (Ty.prod Ty.i Ty.unit)))))) (TmL.slot Ty.i TmL.nil)) TmH.nil

def impl_Engine_isActive_to : Tmpl := Tmpl.mk (TmL.slot Ty.bool TmL.nil) TmH.nil

noncomputable def impl_Engine_isActive_S (x : (Bool × (List (List (Int × Int × Int × Int × Int × Unit)) × Unit) × List (Int × Int × Int × Int × Int × Int × Int × List (Int × Int × Unit) × List (Int × Int × Unit) × Unit) × List (Int × Int × Unit) × List (Int × Int × Unit) × Int × Unit) ×
  Int × Unit) : Option (Bool × Unit) :=
  Option.bind (impl_FindTransaction_S ((x.1.1, (x.1.2.1.1, ()), x.1.2.2.1, x.1.2.2.2.1, x.1.2.2.2.2.1, x.1.2.2.2.2.2.1, ()), x.2.1, ())) fun v => bif decide (v.1 ≥ 0) then Option.bind (lAt x.1.2.2.1 v.1) fun v => some (v.2.2.1 == 1, ()) else
  some (false, ())

noncomputable def impl_Engine_isActive_Ent : Ent := ⟨129, impl_Engine_isActive_ti, impl_Engine_isActive_to, impl_Engine_isActive_S⟩

theorem impl_Engine_isActive_HC : CfgOK Go.Proofs.Try.prog impl_Engine_isActive_C := ⟨⟨info_ok g_tisOK⟩, (all_cons impl_FindTransaction_OK all_nil), g_wide⟩

theorem impl_Engine_isActive_VC (x : den impl_Engine_isActive_ti.ty) : vcall impl_Engine_isActive_C Go.Proofs.Try.f129 impl_Engine_isActive_ti impl_Engine_isActive_to x = impl_Engine_isActive_S x := by kernel_rfl

theorem impl_Engine_isActive_OK : EntOK Go.Proofs.Try.prog impl_Engine_isActive_Ent := EntOK.of_vcall impl_Engine_isActive_HC Go.Proofs.Try.func129 (body_loops (by kernel_rfl) (loops_all 0 (by kernel_rfl) (fun k hk => absurd hk (Nat.not_lt_zero k)))) (by kernel_rfl) (by kernel_rfl) impl_Engine_isActive_VC

end Go.Ab
