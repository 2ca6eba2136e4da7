import Derived.Test.YtaefbkkplgaplaaGenW2
set_option maxRecDepth 100000
set_option linter.unusedVariables false
namespace Go.Ab

/-! impl.IsValidEngine$1 -/

noncomputable def impl_IsValidEngine_1_C : Cfg := { ti := g_tis, ents := [impl_Engine_isActive_Ent], ann := [], lent := 0 }

def impl_IsValidEngine_1_ti : Tmpl := Tmpl.mk (TmL.slot YReadMark (TmL.slot (Ty.iref (Ty.prod Ty.bool (Ty.prod (Ty.prod (Ty.slice (Ty.slice (Ty.prod Ty.i (Ty.prod Ty.i (Ty.prod (Ty.int
  IntKind.i64) YReadMark))))) Ty.unit) (Ty.prod (Ty.slice (Ty.prod Ty.i (Ty.prod Ty.i (Ty.prod Ty.i (Ty.prod Ty.i
  (Ty.prod Ty.i (Ty.prod Ty.i (Ty.prod Ty.i (Ty.prod (Ty.slice YReadMark) (Ty.prod (Ty.slice (Ty.prod Ty.i (Ty.prod
  Ty.i Ty.unit))) Ty.unit)))))))))) (Ty.prod (Ty.slice YReadMark) (Ty.prod (Ty.slice YReadMark) (Ty.prod
  Ty.i Ty.unit))))))) TmL.nil)) TmH.nil

def impl_IsValidEngine_1_to : Tmpl := Tmpl.mk (TmL.slot Ty.bool TmL.nil) TmH.nil

noncomputable def impl_IsValidEngine_1_S (x : (Int × Int × Unit) × Option (Bool × (List (List (Int × Int × Int × Int × Int × Unit)) × Unit) × List (Int × Int × Int × Int × Int × Int × Int × List (Int × Int × Unit) × List (Int × Int × Unit) × Unit) × List (Int × Int × Unit) × List (Int ×
  Int × Unit) × Int × Unit) × Unit) : Option (Bool × Unit) :=
  Option.bind x.2.1 fun v => Option.bind (impl_Engine_isActive_S ((v.1, (v.2.1.1, ()), v.2.2.1, v.2.2.2.1, v.2.2.2.2.1, v.2.2.2.2.2.1, ()), x.1.2.1, ())) fun v => some (!v.1, ())

noncomputable def impl_IsValidEngine_1_Ent : Ent := ⟨128, impl_IsValidEngine_1_ti, impl_IsValidEngine_1_to, impl_IsValidEngine_1_S⟩

theorem impl_IsValidEngine_1_HC : CfgOK Go.Proofs.Try.prog impl_IsValidEngine_1_C := ⟨⟨info_ok g_tisOK⟩, (all_cons impl_Engine_isActive_OK all_nil), g_wide⟩

theorem impl_IsValidEngine_1_VC (x : den impl_IsValidEngine_1_ti.ty) : vcall impl_IsValidEngine_1_C Go.Proofs.Try.f128 impl_IsValidEngine_1_ti impl_IsValidEngine_1_to x = impl_IsValidEngine_1_S x := by kernel_rfl

theorem impl_IsValidEngine_1_OK : EntOK Go.Proofs.Try.prog impl_IsValidEngine_1_Ent := EntOK.of_vcall impl_IsValidEngine_1_HC Go.Proofs.Try.func128 (body_loops (by kernel_rfl) (loops_all 0 (by kernel_rfl) (fun k hk => absurd hk (Nat.not_lt_zero k)))) (by kernel_rfl) (by kernel_rfl) impl_IsValidEngine_1_VC

/-! slices.IndexFunc[[]impl.Lock,impl.Lock] -/

noncomputable def slices_IndexFunc_impl_Lock_impl_Lock__impl_IsValidEngine_1_D2 (i : List (Int × Int × Unit) × (Option (Bool × (List (List (Int × Int × Int × Int × Int × Unit)) × Unit) × List (Int × Int × Int × Int × Int × Int × Int × List (Int × Int × Unit) × List (Int × Int × Unit) × Unit) × List (Int × Int × Unit) × List
  (Int × Int × Unit) × Int × Unit) × Unit) × Int × Unit) (v : Int × Unit) (R : Type) (K : Int × Unit ⊕ Int × Unit ⊕ Unit → Option R) : Option R :=
  bif decide (v.1 < i.2.2.1) then Option.bind (lAt i.1 v.1) fun v_1 => Option.bind (impl_IsValidEngine_1_S ((v_1.1, v_1.2.1, ()), i.2.1.1, ())) fun v_2 => bif v_2.1 then K (Sum.inr (Sum.inl (v.1, ()))) else K (Sum.inl (IntKind.wrap IntKind.i64
  (v.1 + 1), ())) else K (Sum.inr (Sum.inr ()))

theorem slices_IndexFunc_impl_Lock_impl_Lock__impl_IsValidEngine_1_D2_nat (i : List (Int × Int × Unit) × (Option (Bool × (List (List (Int × Int × Int × Int × Int × Unit)) × Unit) × List (Int × Int × Int × Int × Int × Int × Int × List (Int × Int × Unit) × List (Int × Int × Unit) × Unit) × List (Int × Int × Unit) × List
  (Int × Int × Unit) × Int × Unit) × Unit) × Int × Unit) (v : Int × Unit) (R : Type) (K : Int × Unit ⊕ Int × Unit ⊕ Unit → Option R) : slices_IndexFunc_impl_Lock_impl_Lock__impl_IsValidEngine_1_D2 i v R K = (slices_IndexFunc_impl_Lock_impl_Lock__impl_IsValidEngine_1_D2 i v _ some).bind K := nat_bif (nat_bind fun _ => nat_bind fun _ => nat_bif (nat_some) (nat_some)) (nat_some)

def slices_IndexFunc_impl_Lock_impl_Lock__impl_IsValidEngine_1_T2 : Tmpl := Tmpl.mk (TmL.slot (Ty.slice YReadMark) (TmL.slot (Ty.fn 128 (Ty.prod (Ty.iref (Ty.prod Ty.bool (Ty.prod (Ty.prod (Ty.slice (Ty.slice (Ty.prod Ty.i (Ty.prod (Ty.int
  IntKind.i64) (Ty.prod Ty.i YReadMark))))) Ty.unit) (Ty.prod (Ty.slice (Ty.prod Ty.i (Ty.prod Ty.i (Ty.prod Ty.i
  (Ty.prod Ty.i (Ty.prod Ty.i (Ty.prod Ty.i (Ty.prod Ty.i (Ty.prod (Ty.slice YReadMark) (Ty.prod (Ty.slice (Ty.prod
  Ty.i (Ty.prod Ty.i Ty.unit))) Ty.unit)))))))))) (Ty.prod (Ty.slice YReadMark) (Ty.prod (Ty.slice (Ty.prod Ty.i (Ty.prod (Ty.int
  IntKind.i64) Ty.unit))) (Ty.prod Ty.i Ty.unit))))))) Ty.unit)) (TmL.junk (TmL.junk (TmL.junk (TmL.junk (TmL.junk (TmL.slot Ty.i (TmL.slot Ty.i (TmL.junk (TmL.junk (TmL.junk (TmL.junk (TmL.junk
  (TmL.junk (TmL.junk (TmL.junk (TmL.junk (TmL.junk TmL.nil))))))))))))))))))) TmH.nil

def slices_IndexFunc_impl_Lock_impl_Lock__impl_IsValidEngine_1_X2_0 (i : List (Int × Int × Unit) × (Option (Bool × (List (List (Int × Int × Int × Int × Int × Unit)) × Unit) × List (Int × Int × Int × Int × Int × Int × Int × List (Int × Int × Unit) × List (Int × Int × Unit) × Unit) × List (Int × Int × Unit) × List
  (Int × Int × Unit) × Int × Unit) × Unit) × Int × Unit) (p : Int × Unit) : St :=
  St.mk [AV.junk, AV.junk, AV.junk, AV.junk, AV.pv Ty.i p.1, AV.junk, AV.junk, AV.junk, AV.junk, AV.junk, AV.junk, AV.junk, AV.junk, AV.junk, AV.junk, AV.junk, AV.junk, AV.junk, AV.junk] []

def slices_IndexFunc_impl_Lock_impl_Lock__impl_IsValidEngine_1_X2_1 (i : List (Int × Int × Unit) × (Option (Bool × (List (List (Int × Int × Int × Int × Int × Unit)) × Unit) × List (Int × Int × Int × Int × Int × Int × Int × List (Int × Int × Unit) × List (Int × Int × Unit) × Unit) × List (Int × Int × Unit) × List
  (Int × Int × Unit) × Int × Unit) × Unit) × Int × Unit) (p : Unit) : St :=
  St.mk [AV.junk, AV.junk, AV.junk, AV.junk, AV.junk, AV.junk, AV.junk, AV.junk, AV.junk, AV.junk, AV.junk, AV.junk, AV.junk, AV.junk, AV.junk, AV.junk, AV.junk, AV.junk, AV.junk] []

noncomputable def slices_IndexFunc_impl_Lock_impl_Lock__impl_IsValidEngine_1_E2 (i : List (Int × Int × Unit) × (Option (Bool × (List (List (Int × Int × Int × Int × Int × Unit)) × Unit) × List (Int × Int × Int × Int × Int × Int × Int × List (Int × Int × Unit) × List (Int × Int × Unit) × Unit) × List (Int × Int × Unit) × List
  (Int × Int × Unit) × Int × Unit) × Unit) × Int × Unit) (p : Int × Unit ⊕ Unit) (R : Type) (K : Ex → St → Option R) : Option R := sumC p (fun p => K (Ex.ret) (slices_IndexFunc_impl_Lock_impl_Lock__impl_IsValidEngine_1_X2_0 i p)) (fun p => K (Ex.exit 0) (slices_IndexFunc_impl_Lock_impl_Lock__impl_IsValidEngine_1_X2_1 i p))

noncomputable def slices_IndexFunc_impl_Lock_impl_Lock__impl_IsValidEngine_1_K2 (i : List (Int × Int × Unit) × (Option (Bool × (List (List (Int × Int × Int × Int × Int × Unit)) × Unit) × List (Int × Int × Int × Int × Int × Int × Int × List (Int × Int × Unit) × List (Int × Int × Unit) × Unit) × List (Int × Int × Unit) × List
  (Int × Int × Unit) × Int × Unit) × Unit) × Int × Unit) (p : Int × Unit ⊕ Unit) : Ex × St := sumC p (fun p => ((Ex.ret), slices_IndexFunc_impl_Lock_impl_Lock__impl_IsValidEngine_1_X2_0 i p)) (fun p => ((Ex.exit 0), slices_IndexFunc_impl_Lock_impl_Lock__impl_IsValidEngine_1_X2_1 i p))

def slices_IndexFunc_impl_Lock_impl_Lock__impl_IsValidEngine_1_M2 (i : List (Int × Int × Unit) × (Option (Bool × (List (List (Int × Int × Int × Int × Int × Unit)) × Unit) × List (Int × Int × Int × Int × Int × Int × Int × List (Int × Int × Unit) × List (Int × Int × Unit) × Unit) × List (Int × Int × Unit) × List
  (Int × Int × Unit) × Int × Unit) × Unit) × Int × Unit) (v : Int × Unit) : den slices_IndexFunc_impl_Lock_impl_Lock__impl_IsValidEngine_1_T2.ty := (i.1, i.2.1, i.2.2.1, v.1, ())

def slices_IndexFunc_impl_Lock_impl_Lock__impl_IsValidEngine_1_P2 (x : den slices_IndexFunc_impl_Lock_impl_Lock__impl_IsValidEngine_1_T2.ty) : (List (Int × Int × Unit) × (Option (Bool × (List (List (Int × Int × Int × Int × Int × Unit)) × Unit) × List (Int × Int × Int × Int × Int × Int × Int × List (Int × Int × Unit) × List (Int × Int × Unit) × Unit) × List (Int × Int × Unit) × List
  (Int × Int × Unit) × Int × Unit) × Unit) × Int × Unit) × (Int × Unit) := ((x.1, x.2.1, x.2.2.1, ()), (x.2.2.2.1, ()))

noncomputable def slices_IndexFunc_impl_Lock_impl_Lock__impl_IsValidEngine_1_F2 : LoopFn := fun s R K => Tmpl.readS slices_IndexFunc_impl_Lock_impl_Lock__impl_IsValidEngine_1_T2 0 s fun x => (iter (fun v => slices_IndexFunc_impl_Lock_impl_Lock__impl_IsValidEngine_1_D2 (slices_IndexFunc_impl_Lock_impl_Lock__impl_IsValidEngine_1_P2 x).1 v _ some) (slices_IndexFunc_impl_Lock_impl_Lock__impl_IsValidEngine_1_P2 x).2).bind fun p => slices_IndexFunc_impl_Lock_impl_Lock__impl_IsValidEngine_1_E2 (slices_IndexFunc_impl_Lock_impl_Lock__impl_IsValidEngine_1_P2 x).1 p R K

noncomputable def slices_IndexFunc_impl_Lock_impl_Lock__impl_IsValidEngine_1_C : Cfg := { ti := g_tis, ents := [impl_IsValidEngine_1_Ent], ann := [(2, slices_IndexFunc_impl_Lock_impl_Lock__impl_IsValidEngine_1_F2)], lent := 0 }

def slices_IndexFunc_impl_Lock_impl_Lock__impl_IsValidEngine_1_ti : Tmpl := Tmpl.mk (TmL.slot (Ty.slice YReadMark) (TmL.slot (Ty.fn 128 (Ty.prod (Ty.iref (Ty.prod Ty.bool (Ty.prod (Ty.prod (Ty.slice (Ty.slice (Ty.prod Ty.i (Ty.prod (Ty.int
  IntKind.i64) (Ty.prod Ty.i YReadMark))))) Ty.unit) (Ty.prod (Ty.slice (Ty.prod Ty.i (Ty.prod Ty.i (Ty.prod Ty.i
  (Ty.prod Ty.i (Ty.prod Ty.i (Ty.prod Ty.i (Ty.prod Ty.i (Ty.prod (Ty.slice YReadMark) (Ty.prod (Ty.slice (Ty.prod
  Ty.i (Ty.prod Ty.i Ty.unit))) Ty.unit)))))))))) (Ty.prod (Ty.slice YReadMark) (Ty.prod (Ty.slice (Ty.prod Ty.i (Ty.prod (Ty.int
  IntKind.i64) Ty.unit))) (Ty.prod Ty.i Ty.unit))))))) Ty.unit)) TmL.nil)) TmH.nil

def slices_IndexFunc_impl_Lock_impl_Lock__impl_IsValidEngine_1_to : Tmpl := Tmpl.mk (TmL.slot Ty.i TmL.nil) TmH.nil

noncomputable def slices_IndexFunc_impl_Lock_impl_Lock__impl_IsValidEngine_1_S (x : List (Int × Int × Unit) × (Option (Bool × (List (List (Int × Int × Int × Int × Int × Unit)) × Unit) × List (Int × Int × Int × Int × Int × Int × Int × List (Int × Int × Unit) × List (Int × Int × Unit) × Unit) × List (Int × Int × Unit) × List
  (Int × Int × Unit) × Int × Unit) × Unit) × Unit) : Option (Int × Unit) :=
  Option.bind (iter (fun v => slices_IndexFunc_impl_Lock_impl_Lock__impl_IsValidEngine_1_D2 (x.1, x.2.1, (↑(List.length x.1) : Int), ()) v (Int × Unit ⊕ Int × Unit ⊕ Unit) some) (0, ())) fun p => sumC p (fun p => some (p.1, ())) fun p => some
  (-1, ())

noncomputable def slices_IndexFunc_impl_Lock_impl_Lock__impl_IsValidEngine_1_Ent : Ent := ⟨151, slices_IndexFunc_impl_Lock_impl_Lock__impl_IsValidEngine_1_ti, slices_IndexFunc_impl_Lock_impl_Lock__impl_IsValidEngine_1_to, slices_IndexFunc_impl_Lock_impl_Lock__impl_IsValidEngine_1_S⟩

theorem slices_IndexFunc_impl_Lock_impl_Lock__impl_IsValidEngine_1_HC : CfgOK Go.Proofs.Try.prog slices_IndexFunc_impl_Lock_impl_Lock__impl_IsValidEngine_1_C := ⟨⟨info_ok g_tisOK⟩, (all_cons impl_IsValidEngine_1_OK all_nil), g_wide⟩

theorem slices_IndexFunc_impl_Lock_impl_Lock__impl_IsValidEngine_1_lk2 : ∀ F, ((slices_IndexFunc_impl_Lock_impl_Lock__impl_IsValidEngine_1_C).ann.find? fun x => x.1 == firstId ((loopsOf (codeOf Go.Proofs.Try.f151)).getD 0 .skip)).map (·.2) = some F → LoopOK Go.Proofs.Try.prog slices_IndexFunc_impl_Lock_impl_Lock__impl_IsValidEngine_1_C.lent ((loopsOf (codeOf Go.Proofs.Try.f151)).getD 0 .skip) F := by
  refine lookup_ok (show ((slices_IndexFunc_impl_Lock_impl_Lock__impl_IsValidEngine_1_C).ann.find? fun x => x.1 == firstId ((loopsOf (codeOf Go.Proofs.Try.f151)).getD 0 .skip)).map (·.2) = some slices_IndexFunc_impl_Lock_impl_Lock__impl_IsValidEngine_1_F2 from by kernel_rfl) ?_
  exact loop_ok slices_IndexFunc_impl_Lock_impl_Lock__impl_IsValidEngine_1_HC (loops_all 0 (by kernel_rfl) (fun k hk => absurd hk (Nat.not_lt_zero k))) slices_IndexFunc_impl_Lock_impl_Lock__impl_IsValidEngine_1_T2 [4] slices_IndexFunc_impl_Lock_impl_Lock__impl_IsValidEngine_1_M2 slices_IndexFunc_impl_Lock_impl_Lock__impl_IsValidEngine_1_P2 (fun x => rfl) slices_IndexFunc_impl_Lock_impl_Lock__impl_IsValidEngine_1_D2 slices_IndexFunc_impl_Lock_impl_Lock__impl_IsValidEngine_1_D2_nat slices_IndexFunc_impl_Lock_impl_Lock__impl_IsValidEngine_1_E2 slices_IndexFunc_impl_Lock_impl_Lock__impl_IsValidEngine_1_K2 (fun i p R K => by rcases p with p | p <;> rfl) (fun i v => by kernel_rfl)

theorem slices_IndexFunc_impl_Lock_impl_Lock__impl_IsValidEngine_1_VC (x : den slices_IndexFunc_impl_Lock_impl_Lock__impl_IsValidEngine_1_ti.ty) : vcall slices_IndexFunc_impl_Lock_impl_Lock__impl_IsValidEngine_1_C Go.Proofs.Try.f151 slices_IndexFunc_impl_Lock_impl_Lock__impl_IsValidEngine_1_ti slices_IndexFunc_impl_Lock_impl_Lock__impl_IsValidEngine_1_to x = slices_IndexFunc_impl_Lock_impl_Lock__impl_IsValidEngine_1_S x := by kernel_rfl

theorem slices_IndexFunc_impl_Lock_impl_Lock__impl_IsValidEngine_1_OK : EntOK Go.Proofs.Try.prog slices_IndexFunc_impl_Lock_impl_Lock__impl_IsValidEngine_1_Ent := EntOK.of_vcall slices_IndexFunc_impl_Lock_impl_Lock__impl_IsValidEngine_1_HC Go.Proofs.Try.func151 (body_loops (by kernel_rfl) (loops_all 1 (by kernel_rfl) (fun k hk => match k, hk with | 0, _ => slices_IndexFunc_impl_Lock_impl_Lock__impl_IsValidEngine_1_lk2))) (by kernel_rfl) (by kernel_rfl) slices_IndexFunc_impl_Lock_impl_Lock__impl_IsValidEngine_1_VC

/-! slices.ContainsFunc[[]impl.Lock,impl.Lock] -/

noncomputable def slices_ContainsFunc_impl_Lock_impl_Lock__impl_IsValidEngine_1_C : Cfg := { ti := g_tis, ents := [slices_IndexFunc_impl_Lock_impl_Lock__impl_IsValidEngine_1_Ent], ann := [], lent := 0 }

def slices_ContainsFunc_impl_Lock_impl_Lock__impl_IsValidEngine_1_ti : Tmpl := Tmpl.mk (TmL.slot (Ty.slice YReadMark) (TmL.slot (Ty.fn 128 (Ty.prod (Ty.iref (Ty.prod Ty.bool (Ty.prod (Ty.prod (Ty.slice (Ty.slice (Ty.prod Ty.i (Ty.prod (Ty.int
  IntKind.i64) (Ty.prod Ty.i YReadMark))))) Ty.unit) (Ty.prod (Ty.slice (Ty.prod Ty.i (Ty.prod Ty.i (Ty.prod Ty.i
  (Ty.prod Ty.i (Ty.prod Ty.i (Ty.prod Ty.i (Ty.prod Ty.i (Ty.prod (Ty.slice YReadMark) (Ty.prod (Ty.slice (Ty.prod
  Ty.i (Ty.prod Ty.i Ty.unit))) Ty.unit)))))))))) (Ty.prod (Ty.slice YReadMark) (Ty.prod (Ty.slice (Ty.prod Ty.i (Ty.prod (Ty.int
  IntKind.i64) Ty.unit))) (Ty.prod Ty.i Ty.unit))))))) Ty.unit)) TmL.nil)) TmH.nil

def slices_ContainsFunc_impl_Lock_impl_Lock__impl_IsValidEngine_1_to : Tmpl := Tmpl.mk (TmL.slot Ty.bool TmL.nil) TmH.nil

noncomputable def slices_ContainsFunc_impl_Lock_impl_Lock__impl_IsValidEngine_1_S (x : List (Int × Int × Unit) × (Option (Bool × (List (List (Int × Int × Int × Int × Int × Unit)) × Unit) × List (Int × Int × Int × Int × Int × Int × Int × List (Int × Int × Unit) × List (Int × Int × Unit) × Unit) × List (Int × Int × Unit) × List
  (Int × Int × Unit) × Int × Unit) × Unit) × Unit) : Option (Bool × Unit) :=
  Option.bind (slices_IndexFunc_impl_Lock_impl_Lock__impl_IsValidEngine_1_S (x.1, x.2.1, ())) fun v => some (decide (v.1 ≥ 0), ())

noncomputable def slices_ContainsFunc_impl_Lock_impl_Lock__impl_IsValidEngine_1_Ent : Ent := ⟨127, slices_ContainsFunc_impl_Lock_impl_Lock__impl_IsValidEngine_1_ti, slices_ContainsFunc_impl_Lock_impl_Lock__impl_IsValidEngine_1_to, slices_ContainsFunc_impl_Lock_impl_Lock__impl_IsValidEngine_1_S⟩

theorem slices_ContainsFunc_impl_Lock_impl_Lock__impl_IsValidEngine_1_HC : CfgOK Go.Proofs.Try.prog slices_ContainsFunc_impl_Lock_impl_Lock__impl_IsValidEngine_1_C := ⟨⟨info_ok g_tisOK⟩, (all_cons slices_IndexFunc_impl_Lock_impl_Lock__impl_IsValidEngine_1_OK all_nil), g_wide⟩

theorem slices_ContainsFunc_impl_Lock_impl_Lock__impl_IsValidEngine_1_VC (x : den slices_ContainsFunc_impl_Lock_impl_Lock__impl_IsValidEngine_1_ti.ty) : vcall slices_ContainsFunc_impl_Lock_impl_Lock__impl_IsValidEngine_1_C Go.Proofs.Try.f127 slices_ContainsFunc_impl_Lock_impl_Lock__impl_IsValidEngine_1_ti slices_ContainsFunc_impl_Lock_impl_Lock__impl_IsValidEngine_1_to x = slices_ContainsFunc_impl_Lock_impl_Lock__impl_IsValidEngine_1_S x := by kernel_rfl

theorem slices_ContainsFunc_impl_Lock_impl_Lock__impl_IsValidEngine_1_OK : EntOK Go.Proofs.Try.prog slices_ContainsFunc_impl_Lock_impl_Lock__impl_IsValidEngine_1_Ent := EntOK.of_vcall slices_ContainsFunc_impl_Lock_impl_Lock__impl_IsValidEngine_1_HC Go.Proofs.Try.func127 (body_loops (by kernel_rfl) (loops_all 0 (by kernel_rfl) (fun k hk => absurd hk (Nat.not_lt_zero k)))) (by kernel_rfl) (by kernel_rfl) slices_ContainsFunc_impl_Lock_impl_Lock__impl_IsValidEngine_1_VC

/-! impl.IsValidEngine$2 -/

noncomputable def impl_IsValidEngine_2_C : Cfg := { ti := g_tis, ents := [impl_Engine_isActive_Ent], ann := [], lent := 0 }

def impl_IsValidEngine_2_ti : Tmpl := Tmpl.mk (TmL.slot YReadMark (TmL.slot (Ty.iref (Ty.prod Ty.bool (Ty.prod (Ty.prod (Ty.slice (Ty.slice (Ty.prod Ty.i (Ty.prod Ty.i (Ty.prod (Ty.int
  IntKind.i64) YReadMark))))) Ty.unit) (Ty.prod (Ty.slice (Ty.prod Ty.i (Ty.prod Ty.i (Ty.prod Ty.i (Ty.prod Ty.i
  (Ty.prod Ty.i (Ty.prod Ty.i (Ty.prod Ty.i (Ty.prod (Ty.slice YReadMark) (Ty.prod (Ty.slice (Ty.prod Ty.i (Ty.prod
  Ty.i Ty.unit))) Ty.unit)))))))))) (Ty.prod (Ty.slice YReadMark) (Ty.prod (Ty.slice YReadMark) (Ty.prod
  Ty.i Ty.unit))))))) TmL.nil)) TmH.nil

def impl_IsValidEngine_2_to : Tmpl := Tmpl.mk (TmL.slot Ty.bool TmL.nil) TmH.nil

noncomputable def impl_IsValidEngine_2_S (x : (Int × Int × Unit) × Option (Bool × (List (List (Int × Int × Int × Int × Int × Unit)) × Unit) × List (Int × Int × Int × Int × Int × Int × Int × List (Int × Int × Unit) × List (Int × Int × Unit) × Unit) × List (Int × Int × Unit) × List (Int ×
  Int × Unit) × Int × Unit) × Unit) : Option (Bool × Unit) :=
  Option.bind x.2.1 fun v => Option.bind (impl_Engine_isActive_S ((v.1, (v.2.1.1, ()), v.2.2.1, v.2.2.2.1, v.2.2.2.2.1, v.2.2.2.2.2.1, ()), x.1.1, ())) fun v => bif !v.1 then some (true, ()) else Option.bind x.2.1 fun v => Option.bind
  (impl_Engine_isActive_S ((v.1, (v.2.1.1, ()), v.2.2.1, v.2.2.2.1, v.2.2.2.2.1, v.2.2.2.2.2.1, ()), x.1.2.1, ())) fun v => some (!v.1, ())

noncomputable def impl_IsValidEngine_2_Ent : Ent := ⟨131, impl_IsValidEngine_2_ti, impl_IsValidEngine_2_to, impl_IsValidEngine_2_S⟩

theorem impl_IsValidEngine_2_HC : CfgOK Go.Proofs.Try.prog impl_IsValidEngine_2_C := ⟨⟨info_ok g_tisOK⟩, (all_cons impl_Engine_isActive_OK all_nil), g_wide⟩

theorem impl_IsValidEngine_2_VC (x : den impl_IsValidEngine_2_ti.ty) : vcall impl_IsValidEngine_2_C Go.Proofs.Try.f131 impl_IsValidEngine_2_ti impl_IsValidEngine_2_to x = impl_IsValidEngine_2_S x := by kernel_rfl

theorem impl_IsValidEngine_2_OK : EntOK Go.Proofs.Try.prog impl_IsValidEngine_2_Ent := EntOK.of_vcall impl_IsValidEngine_2_HC Go.Proofs.Try.func131 (body_loops (by kernel_rfl) (loops_all 0 (by kernel_rfl) (fun k hk => absurd hk (Nat.not_lt_zero k)))) (by kernel_rfl) (by kernel_rfl) impl_IsValidEngine_2_VC

/-! slices.IndexFunc[[]impl.Wait,impl.Wait] -/

noncomputable def slices_IndexFunc_impl_Wait_impl_Wait__impl_IsValidEngine_2_D2 (i : List (Int × Int × Unit) × (Option (Bool × (List (List (Int × Int × Int × Int × Int × Unit)) × Unit) × List (Int × Int × Int × Int × Int × Int × Int × List (Int × Int × Unit) × List (Int × Int × Unit) × Unit) × List (Int × Int × Unit) × List
  (Int × Int × Unit) × Int × Unit) × Unit) × Int × Unit) (v : Int × Unit) (R : Type) (K : Int × Unit ⊕ Int × Unit ⊕ Unit → Option R) : Option R :=
  bif decide (v.1 < i.2.2.1) then Option.bind (lAt i.1 v.1) fun v_1 => Option.bind (impl_IsValidEngine_2_S ((v_1.1, v_1.2.1, ()), i.2.1.1, ())) fun v_2 => bif v_2.1 then K (Sum.inr (Sum.inl (v.1, ()))) else K (Sum.inl (IntKind.wrap IntKind.i64
  (v.1 + 1), ())) else K (Sum.inr (Sum.inr ()))

theorem slices_IndexFunc_impl_Wait_impl_Wait__impl_IsValidEngine_2_D2_nat (i : List (Int × Int × Unit) × (Option (Bool × (List (List (Int × Int × Int × Int × Int × Unit)) × Unit) × List (Int × Int × Int × Int × Int × Int × Int × List (Int × Int × Unit) × List (Int × Int × Unit) × Unit) × List (Int × Int × Unit) × List
  (Int × Int × Unit) × Int × Unit) × Unit) × Int × Unit) (v : Int × Unit) (R : Type) (K : Int × Unit ⊕ Int × Unit ⊕ Unit → Option R) : slices_IndexFunc_impl_Wait_impl_Wait__impl_IsValidEngine_2_D2 i v R K = (slices_IndexFunc_impl_Wait_impl_Wait__impl_IsValidEngine_2_D2 i v _ some).bind K := nat_bif (nat_bind fun _ => nat_bind fun _ => nat_bif (nat_some) (nat_some)) (nat_some)

def slices_IndexFunc_impl_Wait_impl_Wait__impl_IsValidEngine_2_T2 : Tmpl := Tmpl.mk (TmL.slot (Ty.slice YReadMark) (TmL.slot (Ty.fn 131 (Ty.prod (Ty.iref (Ty.prod Ty.bool (Ty.prod (Ty.prod (Ty.slice (Ty.slice (Ty.prod Ty.i (Ty.prod (Ty.int
  IntKind.i64) (Ty.prod Ty.i YReadMark))))) Ty.unit) (Ty.prod (Ty.slice (Ty.prod Ty.i (Ty.prod Ty.i (Ty.prod Ty.i
  (Ty.prod Ty.i (Ty.prod Ty.i (Ty.prod Ty.i (Ty.prod Ty.i (Ty.prod (Ty.slice YReadMark) (Ty.prod (Ty.slice (Ty.prod
  Ty.i (Ty.prod Ty.i Ty.unit))) Ty.unit)))))))))) (Ty.prod (Ty.slice YReadMark) (Ty.prod (Ty.slice (Ty.prod Ty.i (Ty.prod (Ty.int
  IntKind.i64) Ty.unit))) (Ty.prod Ty.i Ty.unit))))))) Ty.unit)) (TmL.junk (TmL.junk (TmL.junk (TmL.junk (TmL.junk (TmL.slot Ty.i (TmL.slot Ty.i (TmL.junk (TmL.junk (TmL.junk (TmL.junk (TmL.junk
  (TmL.junk (TmL.junk (TmL.junk (TmL.junk (TmL.junk TmL.nil))))))))))))))))))) TmH.nil

def slices_IndexFunc_impl_Wait_impl_Wait__impl_IsValidEngine_2_X2_0 (i : List (Int × Int × Unit) × (Option (Bool × (List (List (Int × Int × Int × Int × Int × Unit)) × Unit) × List (Int × Int × Int × Int × Int × Int × Int × List (Int × Int × Unit) × List (Int × Int × Unit) × Unit) × List (Int × Int × Unit) × List
  (Int × Int × Unit) × Int × Unit) × Unit) × Int × Unit) (p : Int × Unit) : St :=
  St.mk [AV.junk, AV.junk, AV.junk, AV.junk, AV.pv Ty.i p.1, AV.junk, AV.junk, AV.junk, AV.junk, AV.junk, AV.junk, AV.junk, AV.junk, AV.junk, AV.junk, AV.junk, AV.junk, AV.junk, AV.junk] []

def slices_IndexFunc_impl_Wait_impl_Wait__impl_IsValidEngine_2_X2_1 (i : List (Int × Int × Unit) × (Option (Bool × (List (List (Int × Int × Int × Int × Int × Unit)) × Unit) × List (Int × Int × Int × Int × Int × Int × Int × List (Int × Int × Unit) × List (Int × Int × Unit) × Unit) × List (Int × Int × Unit) × List
  (Int × Int × Unit) × Int × Unit) × Unit) × Int × Unit) (p : Unit) : St :=
  St.mk [AV.junk, AV.junk, AV.junk, AV.junk, AV.junk, AV.junk, AV.junk, AV.junk, AV.junk, AV.junk, AV.junk, AV.junk, AV.junk, AV.junk, AV.junk, AV.junk, AV.junk, AV.junk, AV.junk] []

noncomputable def slices_IndexFunc_impl_Wait_impl_Wait__impl_IsValidEngine_2_E2 (i : List (Int × Int × Unit) × (Option (Bool × (List (List (Int × Int × Int × Int × Int × Unit)) × Unit) × List (Int × Int × Int × Int × Int × Int × Int × List (Int × Int × Unit) × List (Int × Int × Unit) × Unit) × List (Int × Int × Unit) × List
  (Int × Int × Unit) × Int × Unit) × Unit) × Int × Unit) (p : Int × Unit ⊕ Unit) (R : Type) (K : Ex → St → Option R) : Option R := sumC p (fun p => K (Ex.ret) (slices_IndexFunc_impl_Wait_impl_Wait__impl_IsValidEngine_2_X2_0 i p)) (fun p => K (Ex.exit 0) (slices_IndexFunc_impl_Wait_impl_Wait__impl_IsValidEngine_2_X2_1 i p))

noncomputable def slices_IndexFunc_impl_Wait_impl_Wait__impl_IsValidEngine_2_K2 (i : List (Int × Int × Unit) × (Option (Bool × (List (List (Int × Int × Int × Int × Int × Unit)) × Unit) × List (Int × Int × Int × Int × Int × Int × Int × List (Int × Int × Unit) × List (Int × Int × Unit) × Unit) × List (Int × Int × Unit) × List
  (Int × Int × Unit) × Int × Unit) × Unit) × Int × Unit) (p : Int × Unit ⊕ Unit) : Ex × St := sumC p (fun p => ((Ex.ret), slices_IndexFunc_impl_Wait_impl_Wait__impl_IsValidEngine_2_X2_0 i p)) (fun p => ((Ex.exit 0), slices_IndexFunc_impl_Wait_impl_Wait__impl_IsValidEngine_2_X2_1 i p))

def slices_IndexFunc_impl_Wait_impl_Wait__impl_IsValidEngine_2_M2 (i : List (Int × Int × Unit) × (Option (Bool × (List (List (Int × Int × Int × Int × Int × Unit)) × Unit) × List (Int × Int × Int × Int × Int × Int × Int × List (Int × Int × Unit) × List (Int × Int × Unit) × Unit) × List (Int × Int × Unit) × List
  (Int × Int × Unit) × Int × Unit) × Unit) × Int × Unit) (v : Int × Unit) : den slices_IndexFunc_impl_Wait_impl_Wait__impl_IsValidEngine_2_T2.ty := (i.1, i.2.1, i.2.2.1, v.1, ())

def slices_IndexFunc_impl_Wait_impl_Wait__impl_IsValidEngine_2_P2 (x : den slices_IndexFunc_impl_Wait_impl_Wait__impl_IsValidEngine_2_T2.ty) : (List (Int × Int × Unit) × (Option (Bool × (List (List (Int × Int × Int × Int × Int × Unit)) × Unit) × List (Int × Int × Int × Int × Int × Int × Int × List (Int × Int × Unit) × List (Int × Int × Unit) × Unit) × List (Int × Int × Unit) × List
  (Int × Int × Unit) × Int × Unit) × Unit) × Int × Unit) × (Int × Unit) := ((x.1, x.2.1, x.2.2.1, ()), (x.2.2.2.1, ()))

noncomputable def slices_IndexFunc_impl_Wait_impl_Wait__impl_IsValidEngine_2_F2 : LoopFn := fun s R K => Tmpl.readS slices_IndexFunc_impl_Wait_impl_Wait__impl_IsValidEngine_2_T2 0 s fun x => (iter (fun v => slices_IndexFunc_impl_Wait_impl_Wait__impl_IsValidEngine_2_D2 (slices_IndexFunc_impl_Wait_impl_Wait__impl_IsValidEngine_2_P2 x).1 v _ some) (slices_IndexFunc_impl_Wait_impl_Wait__impl_IsValidEngine_2_P2 x).2).bind fun p => slices_IndexFunc_impl_Wait_impl_Wait__impl_IsValidEngine_2_E2 (slices_IndexFunc_impl_Wait_impl_Wait__impl_IsValidEngine_2_P2 x).1 p R K

noncomputable def slices_IndexFunc_impl_Wait_impl_Wait__impl_IsValidEngine_2_C : Cfg := { ti := g_tis, ents := [impl_IsValidEngine_2_Ent], ann := [(2, slices_IndexFunc_impl_Wait_impl_Wait__impl_IsValidEngine_2_F2)], lent := 0 }

def slices_IndexFunc_impl_Wait_impl_Wait__impl_IsValidEngine_2_ti : Tmpl := Tmpl.mk (TmL.slot (Ty.slice YReadMark) (TmL.slot (Ty.fn 131 (Ty.prod (Ty.iref (Ty.prod Ty.bool (Ty.prod (Ty.prod (Ty.slice (Ty.slice (Ty.prod Ty.i (Ty.prod (Ty.int
  IntKind.i64) (Ty.prod Ty.i YReadMark))))) Ty.unit) (Ty.prod (Ty.slice (Ty.prod Ty.i (Ty.prod Ty.i (Ty.prod Ty.i
  (Ty.prod Ty.i (Ty.prod Ty.i (Ty.prod Ty.i (Ty.prod Ty.i (Ty.prod (Ty.slice YReadMark) (Ty.prod (Ty.slice (Ty.prod
  Ty.i (Ty.prod Ty.i Ty.unit))) Ty.unit)))))))))) (Ty.prod (Ty.slice YReadMark) (Ty.prod (Ty.slice (Ty.prod Ty.i (Ty.prod (Ty.int
  IntKind.i64) Ty.unit))) (Ty.prod Ty.i Ty.unit))))))) Ty.unit)) TmL.nil)) TmH.nil

def slices_IndexFunc_impl_Wait_impl_Wait__impl_IsValidEngine_2_to : Tmpl := Tmpl.mk (TmL.slot Ty.i TmL.nil) TmH.nil

noncomputable def slices_IndexFunc_impl_Wait_impl_Wait__impl_IsValidEngine_2_S (x : List (Int × Int × Unit) × (Option (Bool × (List (List (Int × Int × Int × Int × Int × Unit)) × Unit) × List (Int × Int × Int × Int × Int × Int × Int × List (Int × Int × Unit) × List (Int × Int × Unit) × Unit) × List (Int × Int × Unit) × List
  (Int × Int × Unit) × Int × Unit) × Unit) × Unit) : Option (Int × Unit) :=
  Option.bind (iter (fun v => slices_IndexFunc_impl_Wait_impl_Wait__impl_IsValidEngine_2_D2 (x.1, x.2.1, (↑(List.length x.1) : Int), ()) v (Int × Unit ⊕ Int × Unit ⊕ Unit) some) (0, ())) fun p => sumC p (fun p => some (p.1, ())) fun p => some
  (-1, ())

noncomputable def slices_IndexFunc_impl_Wait_impl_Wait__impl_IsValidEngine_2_Ent : Ent := ⟨153, slices_IndexFunc_impl_Wait_impl_Wait__impl_IsValidEngine_2_ti, slices_IndexFunc_impl_Wait_impl_Wait__impl_IsValidEngine_2_to, slices_IndexFunc_impl_Wait_impl_Wait__impl_IsValidEngine_2_S⟩

theorem slices_IndexFunc_impl_Wait_impl_Wait__impl_IsValidEngine_2_HC : CfgOK Go.Proofs.Try.prog slices_IndexFunc_impl_Wait_impl_Wait__impl_IsValidEngine_2_C := ⟨⟨info_ok g_tisOK⟩, (all_cons impl_IsValidEngine_2_OK all_nil), g_wide⟩

theorem slices_IndexFunc_impl_Wait_impl_Wait__impl_IsValidEngine_2_lk2 : ∀ F, ((slices_IndexFunc_impl_Wait_impl_Wait__impl_IsValidEngine_2_C).ann.find? fun x => x.1 == firstId ((loopsOf (codeOf Go.Proofs.Try.f153)).getD 0 .skip)).map (·.2) = some F → LoopOK Go.Proofs.Try.prog slices_IndexFunc_impl_Wait_impl_Wait__impl_IsValidEngine_2_C.lent ((loopsOf (codeOf Go.Proofs.Try.f153)).getD 0 .skip) F := by
  refine lookup_ok (show ((slices_IndexFunc_impl_Wait_impl_Wait__impl_IsValidEngine_2_C).ann.find? fun x => x.1 == firstId ((loopsOf (codeOf Go.Proofs.Try.f153)).getD 0 .skip)).map (·.2) = some slices_IndexFunc_impl_Wait_impl_Wait__impl_IsValidEngine_2_F2 from by kernel_rfl) ?_
  exact loop_ok slices_IndexFunc_impl_Wait_impl_Wait__impl_IsValidEngine_2_HC (loops_all 0 (by kernel_rfl) (fun k hk => absurd hk (Nat.not_lt_zero k))) slices_IndexFunc_impl_Wait_impl_Wait__impl_IsValidEngine_2_T2 [4] slices_IndexFunc_impl_Wait_impl_Wait__impl_IsValidEngine_2_M2 slices_IndexFunc_impl_Wait_impl_Wait__impl_IsValidEngine_2_P2 (fun x => rfl) slices_IndexFunc_impl_Wait_impl_Wait__impl_IsValidEngine_2_D2 slices_IndexFunc_impl_Wait_impl_Wait__impl_IsValidEngine_2_D2_nat slices_IndexFunc_impl_Wait_impl_Wait__impl_IsValidEngine_2_E2 slices_IndexFunc_impl_Wait_impl_Wait__impl_IsValidEngine_2_K2 (fun i p R K => by rcases p with p | p <;> rfl) (fun i v => by kernel_rfl)

theorem slices_IndexFunc_impl_Wait_impl_Wait__impl_IsValidEngine_2_VC (x : den slices_IndexFunc_impl_Wait_impl_Wait__impl_IsValidEngine_2_ti.ty) : vcall slices_IndexFunc_impl_Wait_impl_Wait__impl_IsValidEngine_2_C Go.Proofs.Try.f153 slices_IndexFunc_impl_Wait_impl_Wait__impl_IsValidEngine_2_ti slices_IndexFunc_impl_Wait_impl_Wait__impl_IsValidEngine_2_to x = slices_IndexFunc_impl_Wait_impl_Wait__impl_IsValidEngine_2_S x := by kernel_rfl

theorem slices_IndexFunc_impl_Wait_impl_Wait__impl_IsValidEngine_2_OK : EntOK Go.Proofs.Try.prog slices_IndexFunc_impl_Wait_impl_Wait__impl_IsValidEngine_2_Ent := EntOK.of_vcall slices_IndexFunc_impl_Wait_impl_Wait__impl_IsValidEngine_2_HC Go.Proofs.Try.func153 (body_loops (by kernel_rfl) (loops_all 1 (by kernel_rfl) (fun k hk => match k, hk with | 0, _ => slices_IndexFunc_impl_Wait_impl_Wait__impl_IsValidEngine_2_lk2))) (by kernel_rfl) (by kernel_rfl) slices_IndexFunc_impl_Wait_impl_Wait__impl_IsValidEngine_2_VC

/-! slices.ContainsFunc[[]impl.Wait,impl.Wait] -/

noncomputable def slices_ContainsFunc_impl_Wait_impl_Wait__impl_IsValidEngine_2_C : Cfg := { ti := g_tis, ents := [slices_IndexFunc_impl_Wait_impl_Wait__impl_IsValidEngine_2_Ent], ann := [], lent := 0 }

def slices_ContainsFunc_impl_Wait_impl_Wait__impl_IsValidEngine_2_ti : Tmpl := Tmpl.mk (TmL.slot (Ty.slice YReadMark) (TmL.slot (Ty.fn 131 (Ty.prod (Ty.iref (Ty.prod Ty.bool (Ty.prod (Ty.prod (Ty.slice (Ty.slice (Ty.prod Ty.i (Ty.prod (Ty.int
  IntKind.i64) (Ty.prod Ty.i YReadMark))))) Ty.unit) (Ty.prod (Ty.slice (Ty.prod Ty.i (Ty.prod Ty.i (Ty.prod Ty.i
  (Ty.prod Ty.i (Ty.prod Ty.i (Ty.prod Ty.i (Ty.prod Ty.i (Ty.prod (Ty.slice YReadMark) (Ty.prod (Ty.slice (Ty.prod
  Ty.i (Ty.prod Ty.i Ty.unit))) Ty.unit)))))))))) (Ty.prod (Ty.slice YReadMark) (Ty.prod (Ty.slice (Ty.prod Ty.i (Ty.prod (Ty.int
  IntKind.i64) Ty.unit))) (Ty.prod Ty.i Ty.unit))))))) Ty.unit)) TmL.nil)) TmH.nil

def slices_ContainsFunc_impl_Wait_impl_Wait__impl_IsValidEngine_2_to : Tmpl := Tmpl.mk (TmL.slot Ty.bool TmL.nil) TmH.nil

noncomputable def slices_ContainsFunc_impl_Wait_impl_Wait__impl_IsValidEngine_2_S (x : List (Int × Int × Unit) × (Option (Bool × (List (List (Int × Int × Int × Int × Int × Unit)) × Unit) × List (Int × Int × Int × Int × Int × Int × Int × List (Int × Int × Unit) × List (Int × Int × Unit) × Unit) × List (Int × Int × Unit) × List
  (Int × Int × Unit) × Int × Unit) × Unit) × Unit) : Option (Bool × Unit) :=
  Option.bind (slices_IndexFunc_impl_Wait_impl_Wait__impl_IsValidEngine_2_S (x.1, x.2.1, ())) fun v => some (decide (v.1 ≥ 0), ())

noncomputable def slices_ContainsFunc_impl_Wait_impl_Wait__impl_IsValidEngine_2_Ent : Ent := ⟨130, slices_ContainsFunc_impl_Wait_impl_Wait__impl_IsValidEngine_2_ti, slices_ContainsFunc_impl_Wait_impl_Wait__impl_IsValidEngine_2_to, slices_ContainsFunc_impl_Wait_impl_Wait__impl_IsValidEngine_2_S⟩

theorem slices_ContainsFunc_impl_Wait_impl_Wait__impl_IsValidEngine_2_HC : CfgOK Go.Proofs.Try.prog slices_ContainsFunc_impl_Wait_impl_Wait__impl_IsValidEngine_2_C := ⟨⟨info_ok g_tisOK⟩, (all_cons slices_IndexFunc_impl_Wait_impl_Wait__impl_IsValidEngine_2_OK all_nil), g_wide⟩

theorem slices_ContainsFunc_impl_Wait_impl_Wait__impl_IsValidEngine_2_VC (x : den slices_ContainsFunc_impl_Wait_impl_Wait__impl_IsValidEngine_2_ti.ty) : vcall slices_ContainsFunc_impl_Wait_impl_Wait__impl_IsValidEngine_2_C Go.Proofs.Try.f130 slices_ContainsFunc_impl_Wait_impl_Wait__impl_IsValidEngine_2_ti slices_ContainsFunc_impl_Wait_impl_Wait__impl_IsValidEngine_2_to x = slices_ContainsFunc_impl_Wait_impl_Wait__impl_IsValidEngine_2_S x := by kernel_rfl

theorem slices_ContainsFunc_impl_Wait_impl_Wait__impl_IsValidEngine_2_OK : EntOK Go.Proofs.Try.prog slices_ContainsFunc_impl_Wait_impl_Wait__impl_IsValidEngine_2_Ent := EntOK.of_vcall slices_ContainsFunc_impl_Wait_impl_Wait__impl_IsValidEngine_2_HC Go.Proofs.Try.func130 (body_loops (by kernel_rfl) (loops_all 0 (by kernel_rfl) (fun k hk => absurd hk (Nat.not_lt_zero k)))) (by kernel_rfl) (by kernel_rfl) slices_ContainsFunc_impl_Wait_impl_Wait__impl_IsValidEngine_2_VC

/-! impl.IsValidEngine -/

noncomputable def impl_IsValidEngine_C : Cfg := { ti := g_tis, ents := [impl_IsValidStore_Ent, impl_AreLocks_Ent, impl_AreWaits_Ent, impl_Store_lastStamp_Ent, impl_in_Ent, impl_Engine_areTransactions_Ent, slices_ContainsFunc_impl_Lock_impl_Lock__impl_IsValidEngine_1_Ent, slices_ContainsFunc_impl_Wait_impl_Wait__impl_IsValidEngine_2_Ent], ann := [], lent := 0 }

def impl_IsValidEngine_ti : Tmpl := Tmpl.mk (TmL.slot (Ty.prod Ty.bool (Ty.prod (Ty.prod (Ty.slice (Ty.slice YVersion))
  Ty.unit) (Ty.prod (Ty.slice (Ty.prod Ty.i (Ty.prod Ty.i (Ty.prod Ty.i (Ty.prod Ty.i (Ty.prod Ty.i (Ty.prod Ty.i (Ty.prod Ty.i
  (Ty.prod (Ty.slice YReadMark) (Ty.prod (Ty.slice YReadMark) Ty.unit)))))))))) (Ty.prod (Ty.slice (Ty.prod (Ty.int
  IntKind.i64) (Ty.prod Ty.i Ty.unit))) (Ty.prod (Ty.slice YReadMark) (Ty.prod Ty.i Ty.unit)))))) TmL.nil) TmH.nil

def impl_IsValidEngine_to : Tmpl := Tmpl.mk (TmL.slot Ty.bool TmL.nil) TmH.nil

noncomputable def impl_IsValidEngine_S (x : (Bool × (List (List (Int × Int × Int × Int × Int × Unit)) × Unit) × List (Int × Int × Int × Int × Int × Int × Int × List (Int × Int × Unit) × List (Int × Int × Unit) × Unit) × List (Int × Int × Unit) × List (Int × Int × Unit) × Int × Unit) ×
  Unit) : Option (Bool × Unit) :=
  Option.bind (impl_IsValidStore_S ((x.1.2.1.1, ()), ())) fun v => bif v.1 then Option.bind (impl_AreLocks_S (x.1.2.2.2.1, ())) fun v => bif v.1 then Option.bind (impl_AreWaits_S (x.1.2.2.2.2.1, ())) fun v => bif v.1 then Option.bind
  (impl_Store_lastStamp_S ((x.1.2.1.1, ()), ())) fun v => Option.bind (impl_in_S (x.1.2.2.2.2.2.1, v.1, 999, ())) fun v => bif v.1 then Option.bind (impl_Engine_areTransactions_S ((x.1.1, (x.1.2.1.1, ()), x.1.2.2.1, x.1.2.2.2.1, x.1.2.2.2.2.1,
  x.1.2.2.2.2.2.1, ()), ())) fun v => bif v.1 then Option.bind (slices_ContainsFunc_impl_Lock_impl_Lock__impl_IsValidEngine_1_S (x.1.2.2.2.1, (some (x.1.1, (x.1.2.1.1, ()), x.1.2.2.1, x.1.2.2.2.1, x.1.2.2.2.2.1, x.1.2.2.2.2.2.1, ()), ()), ()))
  fun v => bif !v.1 then Option.bind (slices_ContainsFunc_impl_Wait_impl_Wait__impl_IsValidEngine_2_S (x.1.2.2.2.2.1, (some (x.1.1, (x.1.2.1.1, ()), x.1.2.2.1, x.1.2.2.2.1, x.1.2.2.2.2.1, x.1.2.2.2.2.2.1, ()), ()), ())) fun v => some (!v.1,
  ()) else some (false, ()) else some (false, ()) else some (false, ()) else some (false, ()) else some (false, ()) else some (false, ())

noncomputable def impl_IsValidEngine_Ent : Ent := ⟨84, impl_IsValidEngine_ti, impl_IsValidEngine_to, impl_IsValidEngine_S⟩

theorem impl_IsValidEngine_HC : CfgOK Go.Proofs.Try.prog impl_IsValidEngine_C := ⟨⟨info_ok g_tisOK⟩, (all_cons impl_IsValidStore_OK (all_cons impl_AreLocks_OK (all_cons impl_AreWaits_OK (all_cons impl_Store_lastStamp_OK (all_cons impl_in_OK (all_cons impl_Engine_areTransactions_OK (all_cons slices_ContainsFunc_impl_Lock_impl_Lock__impl_IsValidEngine_1_OK (all_cons slices_ContainsFunc_impl_Wait_impl_Wait__impl_IsValidEngine_2_OK all_nil)))))))), g_wide⟩

theorem impl_IsValidEngine_VC (x : den impl_IsValidEngine_ti.ty) : vcall impl_IsValidEngine_C Go.Proofs.Try.f84 impl_IsValidEngine_ti impl_IsValidEngine_to x = impl_IsValidEngine_S x := by kernel_rfl

theorem impl_IsValidEngine_OK : EntOK Go.Proofs.Try.prog impl_IsValidEngine_Ent := EntOK.of_vcall impl_IsValidEngine_HC Go.Proofs.Try.func84 (body_loops (by kernel_rfl) (loops_all 0 (by kernel_rfl) (fun k hk => absurd hk (Nat.not_lt_zero k)))) (by kernel_rfl) (by kernel_rfl) impl_IsValidEngine_VC

/-! impl.WindowSum -/

noncomputable def impl_WindowSum_D5 (i : List (Int × Int × Int × Int × Int × Int × Int × List (Int × Int × Unit) × List (Int × Int × Unit) × Unit) × Int × Unit) (v : Int × Int × Unit) (R : Type) (K : Int × Int × Unit ⊕ Int × Unit → Option R) : Option R :=
  bif decide (v.2.1 < i.2.1) then Option.bind (lAt i.1 v.2.1) fun v_1 => bif v_1.2.2.1 == 2 then K (Sum.inl (IntKind.wrap IntKind.i64 (v.1 + IntKind.wrap IntKind.i64 (v_1.2.2.2.2.2.1 - v_1.2.2.2.2.1)), IntKind.wrap IntKind.i64 (v.2.1 + 1),
  ())) else K (Sum.inl (v.1, IntKind.wrap IntKind.i64 (v.2.1 + 1), ())) else K (Sum.inr (v.1, ()))

theorem impl_WindowSum_D5_nat (i : List (Int × Int × Int × Int × Int × Int × Int × List (Int × Int × Unit) × List (Int × Int × Unit) × Unit) × Int × Unit) (v : Int × Int × Unit) (R : Type) (K : Int × Int × Unit ⊕ Int × Unit → Option R) : impl_WindowSum_D5 i v R K = (impl_WindowSum_D5 i v _ some).bind K := nat_bif (nat_bind fun _ => nat_bif (nat_some) (nat_some)) (nat_some)

def impl_WindowSum_T5 : Tmpl := Tmpl.mk (TmL.junk (TmL.junk (TmL.junk (TmL.slot Ty.i (TmL.junk (TmL.junk (TmL.junk (TmL.junk (TmL.junk (TmL.junk (TmL.slot (Ty.slice (Ty.prod Ty.i (Ty.prod Ty.i (Ty.prod Ty.i
  (Ty.prod Ty.i (Ty.prod Ty.i (Ty.prod Ty.i (Ty.prod Ty.i (Ty.prod (Ty.slice YReadMark) (Ty.prod (Ty.slice (Ty.prod
  Ty.i (Ty.prod Ty.i Ty.unit))) Ty.unit)))))))))) (TmL.slot Ty.i (TmL.slot Ty.i (TmL.junk (TmL.junk (TmL.junk (TmL.junk (TmL.junk (TmL.junk (TmL.junk (TmL.junk (TmL.junk (TmL.junk
  (TmL.junk (TmL.junk (TmL.junk (TmL.junk (TmL.junk TmL.nil)))))))))))))))))))))))))))) TmH.nil

def impl_WindowSum_X5_0 (i : List (Int × Int × Int × Int × Int × Int × Int × List (Int × Int × Unit) × List (Int × Int × Unit) × Unit) × Int × Unit) (p : Int × Unit) : St :=
  St.mk [AV.junk, AV.junk, AV.junk, AV.pv Ty.i p.1, AV.junk, AV.junk, AV.junk, AV.junk, AV.junk, AV.junk, AV.junk, AV.junk, AV.junk, AV.junk, AV.junk, AV.junk, AV.junk, AV.junk, AV.junk, AV.junk, AV.junk, AV.junk, AV.junk,
  AV.junk, AV.junk, AV.junk, AV.junk, AV.junk] []

noncomputable def impl_WindowSum_E5 (i : List (Int × Int × Int × Int × Int × Int × Int × List (Int × Int × Unit) × List (Int × Int × Unit) × Unit) × Int × Unit) (p : Int × Unit) (R : Type) (K : Ex → St → Option R) : Option R := K (Ex.exit 0) (impl_WindowSum_X5_0 i p)

noncomputable def impl_WindowSum_K5 (i : List (Int × Int × Int × Int × Int × Int × Int × List (Int × Int × Unit) × List (Int × Int × Unit) × Unit) × Int × Unit) (p : Int × Unit) : Ex × St := ((Ex.exit 0), impl_WindowSum_X5_0 i p)

def impl_WindowSum_M5 (i : List (Int × Int × Int × Int × Int × Int × Int × List (Int × Int × Unit) × List (Int × Int × Unit) × Unit) × Int × Unit) (v : Int × Int × Unit) : den impl_WindowSum_T5.ty := (v.1, i.1, i.2.1, v.2.1, ())

def impl_WindowSum_P5 (x : den impl_WindowSum_T5.ty) : (List (Int × Int × Int × Int × Int × Int × Int × List (Int × Int × Unit) × List (Int × Int × Unit) × Unit) × Int × Unit) × (Int × Int × Unit) := ((x.2.1, x.2.2.1, ()), (x.1, x.2.2.2.1, ()))

noncomputable def impl_WindowSum_F5 : LoopFn := fun s R K => Tmpl.readS impl_WindowSum_T5 0 s fun x => (iter (fun v => impl_WindowSum_D5 (impl_WindowSum_P5 x).1 v _ some) (impl_WindowSum_P5 x).2).bind fun p => impl_WindowSum_E5 (impl_WindowSum_P5 x).1 p R K

noncomputable def impl_WindowSum_C : Cfg := { ti := g_tis, ents := [impl_IsValidEngine_Ent], ann := [(5, impl_WindowSum_F5)], lent := 0 }

def impl_WindowSum_ti : Tmpl := Tmpl.mk (TmL.slot (Ty.prod Ty.bool (Ty.prod (Ty.prod (Ty.slice (Ty.slice YVersion))
  Ty.unit) (Ty.prod (Ty.slice (Ty.prod Ty.i (Ty.prod Ty.i (Ty.prod Ty.i (Ty.prod Ty.i (Ty.prod Ty.i (Ty.prod Ty.i (Ty.prod Ty.i
  (Ty.prod (Ty.slice YReadMark) (Ty.prod (Ty.slice YReadMark) Ty.unit)))))))))) (Ty.prod (Ty.slice (Ty.prod (Ty.int
  IntKind.i64) (Ty.prod Ty.i Ty.unit))) (Ty.prod (Ty.slice YReadMark) (Ty.prod Ty.i Ty.unit)))))) TmL.nil) TmH.nil

def impl_WindowSum_to : Tmpl := Tmpl.mk (TmL.slot Ty.i TmL.nil) TmH.nil

noncomputable def impl_WindowSum_S (x : (Bool × (List (List (Int × Int × Int × Int × Int × Unit)) × Unit) × List (Int × Int × Int × Int × Int × Int × Int × List (Int × Int × Unit) × List (Int × Int × Unit) × Unit) × List (Int × Int × Unit) × List (Int × Int × Unit) × Int × Unit) ×
  Unit) : Option (Int × Unit) :=
  Option.bind (impl_IsValidEngine_S ((x.1.1, (x.1.2.1.1, ()), x.1.2.2.1, x.1.2.2.2.1, x.1.2.2.2.2.1, x.1.2.2.2.2.2.1, ()), ())) fun v => bif !v.1 then some (0, ()) else Option.bind (iter (fun v => impl_WindowSum_D5 (x.1.2.2.1, (↑(List.length
  x.1.2.2.1) : Int), ()) v (Int × Int × Unit ⊕ Int × Unit) some) (0, 0, ())) fun p => some (p.1, ())

noncomputable def impl_WindowSum_Ent : Ent := ⟨36, impl_WindowSum_ti, impl_WindowSum_to, impl_WindowSum_S⟩

theorem impl_WindowSum_HC : CfgOK Go.Proofs.Try.prog impl_WindowSum_C := ⟨⟨info_ok g_tisOK⟩, (all_cons impl_IsValidEngine_OK all_nil), g_wide⟩

theorem impl_WindowSum_lk5 : ∀ F, ((impl_WindowSum_C).ann.find? fun x => x.1 == firstId ((loopsOf (codeOf Go.Proofs.Try.f36)).getD 0 .skip)).map (·.2) = some F → LoopOK Go.Proofs.Try.prog impl_WindowSum_C.lent ((loopsOf (codeOf Go.Proofs.Try.f36)).getD 0 .skip) F := by
  refine lookup_ok (show ((impl_WindowSum_C).ann.find? fun x => x.1 == firstId ((loopsOf (codeOf Go.Proofs.Try.f36)).getD 0 .skip)).map (·.2) = some impl_WindowSum_F5 from by kernel_rfl) ?_
  exact loop_ok impl_WindowSum_HC (loops_all 0 (by kernel_rfl) (fun k hk => absurd hk (Nat.not_lt_zero k))) impl_WindowSum_T5 [3] impl_WindowSum_M5 impl_WindowSum_P5 (fun x => rfl) impl_WindowSum_D5 impl_WindowSum_D5_nat impl_WindowSum_E5 impl_WindowSum_K5 (fun i p R K => rfl) (fun i v => by kernel_rfl)

theorem impl_WindowSum_VC (x : den impl_WindowSum_ti.ty) : vcall impl_WindowSum_C Go.Proofs.Try.f36 impl_WindowSum_ti impl_WindowSum_to x = impl_WindowSum_S x := by kernel_rfl

theorem impl_WindowSum_OK : EntOK Go.Proofs.Try.prog impl_WindowSum_Ent := EntOK.of_vcall impl_WindowSum_HC Go.Proofs.Try.func36 (body_loops (by kernel_rfl) (loops_all 1 (by kernel_rfl) (fun k hk => match k, hk with | 0, _ => impl_WindowSum_lk5))) (by kernel_rfl) (by kernel_rfl) impl_WindowSum_VC

/-! laws.eqTransaction -/

noncomputable def laws_eqTransaction_C : Cfg := { ti := g_tis, ents := [laws_eqReadMarkS_Ent, laws_eqWriteS_Ent], ann := [], lent := 0 }

def laws_eqTransaction_ti : Tmpl := Tmpl.mk (TmL.slot (Ty.prod Ty.i (Ty.prod Ty.i (Ty.prod Ty.i (Ty.prod Ty.i (Ty.prod Ty.i (Ty.prod Ty.i (Ty.prod Ty.i (Ty.prod
  (Ty.slice YReadMark) (Ty.prod (Ty.slice YReadMark) Ty.unit))))))))) (TmL.slot (Ty.prod Ty.i (Ty.prod
  Ty.i (Ty.prod Ty.i (Ty.prod Ty.i (Ty.prod Ty.i (Ty.prod Ty.i (Ty.prod Ty.i (Ty.prod (Ty.slice (Ty.prod Ty.i (Ty.prod (Ty.int
  IntKind.i64) Ty.unit))) (Ty.prod (Ty.slice YReadMark) Ty.unit))))))))) TmL.nil)) TmH.nil

def laws_eqTransaction_to : Tmpl := Tmpl.mk (TmL.slot Ty.bool TmL.nil) TmH.nil

noncomputable def laws_eqTransaction_S (x : (Int × Int × Int × Int × Int × Int × Int × List (Int × Int × Unit) × List (Int × Int × Unit) × Unit) × (Int × Int × Int × Int × Int × Int × Int × List (Int × Int × Unit) × List (Int × Int × Unit) × Unit) × Unit) : Option (Bool × Unit) :=
  bif x.1.1 != x.2.1.1 then some (false, ()) else bif x.1.2.1 != x.2.1.2.1 then some (false, ()) else bif x.1.2.2.1 != x.2.1.2.2.1 then some (false, ()) else bif x.1.2.2.2.1 != x.2.1.2.2.2.1 then some (false, ()) else bif x.1.2.2.2.2.1 !=
  x.2.1.2.2.2.2.1 then some (false, ()) else bif x.1.2.2.2.2.2.1 != x.2.1.2.2.2.2.2.1 then some (false, ()) else bif x.1.2.2.2.2.2.2.1 != x.2.1.2.2.2.2.2.2.1 then some (false, ()) else Option.bind (laws_eqReadMarkS_S (x.1.2.2.2.2.2.2.2.1,
  x.2.1.2.2.2.2.2.2.2.1, ())) fun v => bif !v.1 then some (false, ()) else Option.bind (laws_eqWriteS_S (x.1.2.2.2.2.2.2.2.2.1, x.2.1.2.2.2.2.2.2.2.2.1, ())) fun v => bif !v.1 then some (false, ()) else some (true, ())

noncomputable def laws_eqTransaction_Ent : Ent := ⟨132, laws_eqTransaction_ti, laws_eqTransaction_to, laws_eqTransaction_S⟩

theorem laws_eqTransaction_HC : CfgOK Go.Proofs.Try.prog laws_eqTransaction_C := ⟨⟨info_ok g_tisOK⟩, (all_cons laws_eqReadMarkS_OK (all_cons laws_eqWriteS_OK all_nil)), g_wide⟩

theorem laws_eqTransaction_VC (x : den laws_eqTransaction_ti.ty) : vcall laws_eqTransaction_C Go.Proofs.Try.f132 laws_eqTransaction_ti laws_eqTransaction_to x = laws_eqTransaction_S x := by kernel_rfl

theorem laws_eqTransaction_OK : EntOK Go.Proofs.Try.prog laws_eqTransaction_Ent := EntOK.of_vcall laws_eqTransaction_HC Go.Proofs.Try.func132 (body_loops (by kernel_rfl) (loops_all 0 (by kernel_rfl) (fun k hk => absurd hk (Nat.not_lt_zero k)))) (by kernel_rfl) (by kernel_rfl) laws_eqTransaction_VC

/-! laws.eqTransactionS -/

noncomputable def laws_eqTransactionS_D4 (i : List (Int × Int × Int × Int × Int × Int × Int × List (Int × Int × Unit) × List (Int × Int × Unit) × Unit) × List (Int × Int × Int × Int × Int × Int × Int × List (Int × Int × Unit) × List (Int × Int × Unit) × Unit) × Unit) (v : Int × Unit) (R : Type) (K : Int × Unit ⊕ Unit ⊕ Unit → Option R) : Option R :=
  bif decide (v.1 < (↑(List.length i.1) : Int)) then Option.bind (lAt i.1 v.1) fun v_1 => Option.bind (lAt i.2.1 v.1) fun v_2 => Option.bind (laws_eqTransaction_S ((v_1.1, v_1.2.1, v_1.2.2.1, v_1.2.2.2.1, v_1.2.2.2.2.1, v_1.2.2.2.2.2.1,
  v_1.2.2.2.2.2.2.1, v_1.2.2.2.2.2.2.2.1, v_1.2.2.2.2.2.2.2.2.1, ()), (v_2.1, v_2.2.1, v_2.2.2.1, v_2.2.2.2.1, v_2.2.2.2.2.1, v_2.2.2.2.2.2.1, v_2.2.2.2.2.2.2.1, v_2.2.2.2.2.2.2.2.1, v_2.2.2.2.2.2.2.2.2.1, ()), ())) fun v_3 => bif !v_3.1 then
  K (Sum.inr (Sum.inl ())) else K (Sum.inl (IntKind.wrap IntKind.i64 (v.1 + 1), ())) else K (Sum.inr (Sum.inr ()))

theorem laws_eqTransactionS_D4_nat (i : List (Int × Int × Int × Int × Int × Int × Int × List (Int × Int × Unit) × List (Int × Int × Unit) × Unit) × List (Int × Int × Int × Int × Int × Int × Int × List (Int × Int × Unit) × List (Int × Int × Unit) × Unit) × Unit) (v : Int × Unit) (R : Type) (K : Int × Unit ⊕ Unit ⊕ Unit → Option R) : laws_eqTransactionS_D4 i v R K = (laws_eqTransactionS_D4 i v _ some).bind K := nat_bif (nat_bind fun _ => nat_bind fun _ => nat_bind fun _ => nat_bif (nat_some) (nat_some)) (nat_some)

def laws_eqTransactionS_T4 : Tmpl := Tmpl.mk (TmL.slot (Ty.slice (Ty.prod Ty.i (Ty.prod Ty.i (Ty.prod Ty.i (Ty.prod Ty.i (Ty.prod Ty.i (Ty.prod Ty.i (Ty.prod Ty.i
  (Ty.prod (Ty.slice YReadMark) (Ty.prod (Ty.slice YReadMark) Ty.unit)))))))))) (TmL.slot (Ty.slice (Ty.prod (Ty.int
  IntKind.i64) (Ty.prod Ty.i (Ty.prod Ty.i (Ty.prod Ty.i (Ty.prod Ty.i (Ty.prod Ty.i (Ty.prod Ty.i (Ty.prod (Ty.slice (Ty.prod Ty.i
  (Ty.prod Ty.i Ty.unit))) (Ty.prod (Ty.slice YReadMark) Ty.unit)))))))))) (TmL.junk (TmL.junk (TmL.junk (TmL.slot Ty.i (TmL.junk (TmL.junk (TmL.junk
  (TmL.junk (TmL.junk (TmL.junk (TmL.junk (TmL.junk (TmL.junk (TmL.junk (TmL.junk (TmL.junk (TmL.junk (TmL.junk (TmL.junk (TmL.junk (TmL.junk (TmL.junk (TmL.junk (TmL.junk (TmL.junk TmL.nil))))))))))))))))))))))))))) TmH.nil

def laws_eqTransactionS_X4_0 (i : List (Int × Int × Int × Int × Int × Int × Int × List (Int × Int × Unit) × List (Int × Int × Unit) × Unit) × List (Int × Int × Int × Int × Int × Int × Int × List (Int × Int × Unit) × List (Int × Int × Unit) × Unit) × Unit) (p : Unit) : St :=
  St.mk [AV.junk, AV.junk, AV.junk, AV.junk, AV.pv Ty.bool false, AV.junk, AV.junk, AV.junk, AV.junk, AV.junk, AV.junk, AV.junk, AV.junk, AV.junk, AV.junk, AV.junk, AV.junk, AV.junk, AV.junk, AV.junk, AV.junk, AV.junk, AV.junk, AV.junk,
  AV.junk, AV.junk, AV.junk] []

def laws_eqTransactionS_X4_1 (i : List (Int × Int × Int × Int × Int × Int × Int × List (Int × Int × Unit) × List (Int × Int × Unit) × Unit) × List (Int × Int × Int × Int × Int × Int × Int × List (Int × Int × Unit) × List (Int × Int × Unit) × Unit) × Unit) (p : Unit) : St :=
  St.mk [AV.junk, AV.junk, AV.junk, AV.junk, AV.junk, AV.junk, AV.junk, AV.junk, AV.junk, AV.junk, AV.junk, AV.junk, AV.junk, AV.junk, AV.junk, AV.junk, AV.junk, AV.junk, AV.junk, AV.junk, AV.junk, AV.junk, AV.junk, AV.junk, AV.junk, AV.junk,
  AV.junk] []

noncomputable def laws_eqTransactionS_E4 (i : List (Int × Int × Int × Int × Int × Int × Int × List (Int × Int × Unit) × List (Int × Int × Unit) × Unit) × List (Int × Int × Int × Int × Int × Int × Int × List (Int × Int × Unit) × List (Int × Int × Unit) × Unit) × Unit) (p : Unit ⊕ Unit) (R : Type) (K : Ex → St → Option R) : Option R := sumC p (fun p => K (Ex.ret) (laws_eqTransactionS_X4_0 i p)) (fun p => K (Ex.exit 0) (laws_eqTransactionS_X4_1 i p))

noncomputable def laws_eqTransactionS_K4 (i : List (Int × Int × Int × Int × Int × Int × Int × List (Int × Int × Unit) × List (Int × Int × Unit) × Unit) × List (Int × Int × Int × Int × Int × Int × Int × List (Int × Int × Unit) × List (Int × Int × Unit) × Unit) × Unit) (p : Unit ⊕ Unit) : Ex × St := sumC p (fun p => ((Ex.ret), laws_eqTransactionS_X4_0 i p)) (fun p => ((Ex.exit 0), laws_eqTransactionS_X4_1 i p))

def laws_eqTransactionS_M4 (i : List (Int × Int × Int × Int × Int × Int × Int × List (Int × Int × Unit) × List (Int × Int × Unit) × Unit) × List (Int × Int × Int × Int × Int × Int × Int × List (Int × Int × Unit) × List (Int × Int × Unit) × Unit) × Unit) (v : Int × Unit) : den laws_eqTransactionS_T4.ty := (i.1, i.2.1, v.1, ())

def laws_eqTransactionS_P4 (x : den laws_eqTransactionS_T4.ty) : (List (Int × Int × Int × Int × Int × Int × Int × List (Int × Int × Unit) × List (Int × Int × Unit) × Unit) × List (Int × Int × Int × Int × Int × Int × Int × List (Int × Int × Unit) × List (Int × Int × Unit) × Unit) × Unit) × (Int × Unit) := ((x.1, x.2.1, ()), (x.2.2.1, ()))

noncomputable def laws_eqTransactionS_F4 : LoopFn := fun s R K => Tmpl.readS laws_eqTransactionS_T4 0 s fun x => (iter (fun v => laws_eqTransactionS_D4 (laws_eqTransactionS_P4 x).1 v _ some) (laws_eqTransactionS_P4 x).2).bind fun p => laws_eqTransactionS_E4 (laws_eqTransactionS_P4 x).1 p R K

noncomputable def laws_eqTransactionS_C : Cfg := { ti := g_tis, ents := [laws_eqTransaction_Ent], ann := [(4, laws_eqTransactionS_F4)], lent := 0 }

def laws_eqTransactionS_ti : Tmpl := Tmpl.mk (TmL.slot (Ty.slice (Ty.prod Ty.i (Ty.prod Ty.i (Ty.prod Ty.i (Ty.prod Ty.i (Ty.prod Ty.i (Ty.prod Ty.i (Ty.prod Ty.i
  (Ty.prod (Ty.slice YReadMark) (Ty.prod (Ty.slice YReadMark) Ty.unit)))))))))) (TmL.slot (Ty.slice (Ty.prod (Ty.int
  IntKind.i64) (Ty.prod Ty.i (Ty.prod Ty.i (Ty.prod Ty.i (Ty.prod Ty.i (Ty.prod Ty.i (Ty.prod Ty.i (Ty.prod (Ty.slice (Ty.prod Ty.i
  (Ty.prod Ty.i Ty.unit))) (Ty.prod (Ty.slice YReadMark) Ty.unit)))))))))) TmL.nil)) TmH.nil

def laws_eqTransactionS_to : Tmpl := Tmpl.mk (TmL.slot Ty.bool TmL.nil) TmH.nil

noncomputable def laws_eqTransactionS_S (x : List (Int × Int × Int × Int × Int × Int × Int × List (Int × Int × Unit) × List (Int × Int × Unit) × Unit) × List (Int × Int × Int × Int × Int × Int × Int × List (Int × Int × Unit) × List (Int × Int × Unit) × Unit) × Unit) : Option (Bool × Unit) :=
  bif (↑(List.length x.1) : Int) != (↑(List.length x.2.1) : Int) then some (false, ()) else Option.bind (iter (fun v => laws_eqTransactionS_D4 (x.1, x.2.1, ()) v (Int × Unit ⊕ Unit ⊕ Unit) some) (0, ())) fun p => sumC p (fun p => some (false,
  ())) fun p => some (true, ())

noncomputable def laws_eqTransactionS_Ent : Ent := ⟨85, laws_eqTransactionS_ti, laws_eqTransactionS_to, laws_eqTransactionS_S⟩

theorem laws_eqTransactionS_HC : CfgOK Go.Proofs.Try.prog laws_eqTransactionS_C := ⟨⟨info_ok g_tisOK⟩, (all_cons laws_eqTransaction_OK all_nil), g_wide⟩

theorem laws_eqTransactionS_lk4 : ∀ F, ((laws_eqTransactionS_C).ann.find? fun x => x.1 == firstId ((loopsOf (codeOf Go.Proofs.Try.f85)).getD 0 .skip)).map (·.2) = some F → LoopOK Go.Proofs.Try.prog laws_eqTransactionS_C.lent ((loopsOf (codeOf Go.Proofs.Try.f85)).getD 0 .skip) F := by
  refine lookup_ok (show ((laws_eqTransactionS_C).ann.find? fun x => x.1 == firstId ((loopsOf (codeOf Go.Proofs.Try.f85)).getD 0 .skip)).map (·.2) = some laws_eqTransactionS_F4 from by kernel_rfl) ?_
  exact loop_ok laws_eqTransactionS_HC (loops_all 0 (by kernel_rfl) (fun k hk => absurd hk (Nat.not_lt_zero k))) laws_eqTransactionS_T4 [4] laws_eqTransactionS_M4 laws_eqTransactionS_P4 (fun x => rfl) laws_eqTransactionS_D4 laws_eqTransactionS_D4_nat laws_eqTransactionS_E4 laws_eqTransactionS_K4 (fun i p R K => by rcases p with p | p <;> rfl) (fun i v => by kernel_rfl)

theorem laws_eqTransactionS_VC (x : den laws_eqTransactionS_ti.ty) : vcall laws_eqTransactionS_C Go.Proofs.Try.f85 laws_eqTransactionS_ti laws_eqTransactionS_to x = laws_eqTransactionS_S x := by kernel_rfl

theorem laws_eqTransactionS_OK : EntOK Go.Proofs.Try.prog laws_eqTransactionS_Ent := EntOK.of_vcall laws_eqTransactionS_HC Go.Proofs.Try.func85 (body_loops (by kernel_rfl) (loops_all 1 (by kernel_rfl) (fun k hk => match k, hk with | 0, _ => laws_eqTransactionS_lk4))) (by kernel_rfl) (by kernel_rfl) laws_eqTransactionS_VC

/-! laws.eqLock -/

noncomputable def laws_eqLock_C : Cfg := { ti := g_tis, ents := [], ann := [], lent := 0 }

def laws_eqLock_ti : Tmpl := Tmpl.mk (TmL.slot YReadMark (TmL.slot YReadMark TmL.nil)) TmH.nil

def laws_eqLock_to : Tmpl := Tmpl.mk (TmL.slot Ty.bool TmL.nil) TmH.nil

noncomputable def laws_eqLock_S (x : (Int × Int × Unit) × (Int × Int × Unit) × Unit) : Option (Bool × Unit) :=
  bif x.1.1 != x.2.1.1 then some (false, ()) else bif x.1.2.1 != x.2.1.2.1 then some (false, ()) else some (true, ())

noncomputable def laws_eqLock_Ent : Ent := ⟨133, laws_eqLock_ti, laws_eqLock_to, laws_eqLock_S⟩

theorem laws_eqLock_HC : CfgOK Go.Proofs.Try.prog laws_eqLock_C := ⟨⟨info_ok g_tisOK⟩, all_nil, g_wide⟩

theorem laws_eqLock_VC (x : den laws_eqLock_ti.ty) : vcall laws_eqLock_C Go.Proofs.Try.f133 laws_eqLock_ti laws_eqLock_to x = laws_eqLock_S x := by kernel_rfl

theorem laws_eqLock_OK : EntOK Go.Proofs.Try.prog laws_eqLock_Ent := EntOK.of_vcall laws_eqLock_HC Go.Proofs.Try.func133 (body_loops (by kernel_rfl) (loops_all 0 (by kernel_rfl) (fun k hk => absurd hk (Nat.not_lt_zero k)))) (by kernel_rfl) (by kernel_rfl) laws_eqLock_VC

/-! laws.eqLockS -/

noncomputable def laws_eqLockS_D4 (i : List (Int × Int × Unit) × List (Int × Int × Unit) × Unit) (v : Int × Unit) (R : Type) (K : Int × Unit ⊕ Unit ⊕ Unit → Option R) : Option R :=
  bif decide (v.1 < (↑(List.length i.1) : Int)) then Option.bind (lAt i.1 v.1) fun v_1 => Option.bind (lAt i.2.1 v.1) fun v_2 => Option.bind (laws_eqLock_S ((v_1.1, v_1.2.1, ()), (v_2.1, v_2.2.1, ()), ())) fun v_3 => bif !v_3.1 then K (Sum.inr
  (Sum.inl ())) else K (Sum.inl (IntKind.wrap IntKind.i64 (v.1 + 1), ())) else K (Sum.inr (Sum.inr ()))

theorem laws_eqLockS_D4_nat (i : List (Int × Int × Unit) × List (Int × Int × Unit) × Unit) (v : Int × Unit) (R : Type) (K : Int × Unit ⊕ Unit ⊕ Unit → Option R) : laws_eqLockS_D4 i v R K = (laws_eqLockS_D4 i v _ some).bind K := nat_bif (nat_bind fun _ => nat_bind fun _ => nat_bind fun _ => nat_bif (nat_some) (nat_some)) (nat_some)

def laws_eqLockS_T4 : Tmpl := Tmpl.mk (TmL.slot (Ty.slice YReadMark) (TmL.slot (Ty.slice YReadMark) (TmL.junk (TmL.junk (TmL.junk (TmL.slot (Ty.int
  IntKind.i64) (TmL.junk (TmL.junk (TmL.junk (TmL.junk (TmL.junk (TmL.junk (TmL.junk (TmL.junk (TmL.junk (TmL.junk (TmL.junk (TmL.junk (TmL.junk (TmL.junk (TmL.junk (TmL.junk (TmL.junk (TmL.junk (TmL.junk (TmL.junk (TmL.junk
  TmL.nil))))))))))))))))))))))))))) TmH.nil

def laws_eqLockS_X4_0 (i : List (Int × Int × Unit) × List (Int × Int × Unit) × Unit) (p : Unit) : St :=
  St.mk [AV.junk, AV.junk, AV.junk, AV.junk, AV.pv Ty.bool false, AV.junk, AV.junk, AV.junk, AV.junk, AV.junk, AV.junk, AV.junk, AV.junk, AV.junk, AV.junk, AV.junk, AV.junk, AV.junk, AV.junk, AV.junk, AV.junk, AV.junk, AV.junk, AV.junk,
  AV.junk, AV.junk, AV.junk] []

def laws_eqLockS_X4_1 (i : List (Int × Int × Unit) × List (Int × Int × Unit) × Unit) (p : Unit) : St :=
  St.mk [AV.junk, AV.junk, AV.junk, AV.junk, AV.junk, AV.junk, AV.junk, AV.junk, AV.junk, AV.junk, AV.junk, AV.junk, AV.junk, AV.junk, AV.junk, AV.junk, AV.junk, AV.junk, AV.junk, AV.junk, AV.junk, AV.junk, AV.junk, AV.junk, AV.junk, AV.junk,
  AV.junk] []

noncomputable def laws_eqLockS_E4 (i : List (Int × Int × Unit) × List (Int × Int × Unit) × Unit) (p : Unit ⊕ Unit) (R : Type) (K : Ex → St → Option R) : Option R := sumC p (fun p => K (Ex.ret) (laws_eqLockS_X4_0 i p)) (fun p => K (Ex.exit 0) (laws_eqLockS_X4_1 i p))

noncomputable def laws_eqLockS_K4 (i : List (Int × Int × Unit) × List (Int × Int × Unit) × Unit) (p : Unit ⊕ Unit) : Ex × St := sumC p (fun p => ((Ex.ret), laws_eqLockS_X4_0 i p)) (fun p => ((Ex.exit 0), laws_eqLockS_X4_1 i p))

def laws_eqLockS_M4 (i : List (Int × Int × Unit) × List (Int × Int × Unit) × Unit) (v : Int × Unit) : den laws_eqLockS_T4.ty := (i.1, i.2.1, v.1, ())

def laws_eqLockS_P4 (x : den laws_eqLockS_T4.ty) : (List (Int × Int × Unit) × List (Int × Int × Unit) × Unit) × (Int × Unit) := ((x.1, x.2.1, ()), (x.2.2.1, ()))

noncomputable def laws_eqLockS_F4 : LoopFn := fun s R K => Tmpl.readS laws_eqLockS_T4 0 s fun x => (iter (fun v => laws_eqLockS_D4 (laws_eqLockS_P4 x).1 v _ some) (laws_eqLockS_P4 x).2).bind fun p => laws_eqLockS_E4 (laws_eqLockS_P4 x).1 p R K

noncomputable def laws_eqLockS_C : Cfg := { ti := g_tis, ents := [laws_eqLock_Ent], ann := [(4, laws_eqLockS_F4)], lent := 0 }

def laws_eqLockS_ti : Tmpl := Tmpl.mk (TmL.slot (Ty.slice YReadMark) (TmL.slot (Ty.slice YReadMark) TmL.nil)) TmH.nil

def laws_eqLockS_to : Tmpl := Tmpl.mk (TmL.slot Ty.bool TmL.nil) TmH.nil

noncomputable def laws_eqLockS_S (x : List (Int × Int × Unit) × List (Int × Int × Unit) × Unit) : Option (Bool × Unit) :=
  bif (↑(List.length x.1) : Int) != (↑(List.length x.2.1) : Int) then some (false, ()) else Option.bind (iter (fun v => laws_eqLockS_D4 (x.1, x.2.1, ()) v (Int × Unit ⊕ Unit ⊕ Unit) some) (0, ())) fun p => sumC p (fun p => some (false, ()))
  fun p => some (true, ())

noncomputable def laws_eqLockS_Ent : Ent := ⟨86, laws_eqLockS_ti, laws_eqLockS_to, laws_eqLockS_S⟩

theorem laws_eqLockS_HC : CfgOK Go.Proofs.Try.prog laws_eqLockS_C := ⟨⟨info_ok g_tisOK⟩, (all_cons laws_eqLock_OK all_nil), g_wide⟩

theorem laws_eqLockS_lk4 : ∀ F, ((laws_eqLockS_C).ann.find? fun x => x.1 == firstId ((loopsOf (codeOf Go.Proofs.Try.f86)).getD 0 .skip)).map (·.2) = some F → LoopOK Go.Proofs.Try.prog laws_eqLockS_C.lent ((loopsOf (codeOf Go.Proofs.Try.f86)).getD 0 .skip) F := by
  refine lookup_ok (show ((laws_eqLockS_C).ann.find? fun x => x.1 == firstId ((loopsOf (codeOf Go.Proofs.Try.f86)).getD 0 .skip)).map (·.2) = some laws_eqLockS_F4 from by kernel_rfl) ?_
  exact loop_ok laws_eqLockS_HC (loops_all 0 (by kernel_rfl) (fun k hk => absurd hk (Nat.not_lt_zero k))) laws_eqLockS_T4 [4] laws_eqLockS_M4 laws_eqLockS_P4 (fun x => rfl) laws_eqLockS_D4 laws_eqLockS_D4_nat laws_eqLockS_E4 laws_eqLockS_K4 (fun i p R K => by rcases p with p | p <;> rfl) (fun i v => by kernel_rfl)

theorem laws_eqLockS_VC (x : den laws_eqLockS_ti.ty) : vcall laws_eqLockS_C Go.Proofs.Try.f86 laws_eqLockS_ti laws_eqLockS_to x = laws_eqLockS_S x := by kernel_rfl

theorem laws_eqLockS_OK : EntOK Go.Proofs.Try.prog laws_eqLockS_Ent := EntOK.of_vcall laws_eqLockS_HC Go.Proofs.Try.func86 (body_loops (by kernel_rfl) (loops_all 1 (by kernel_rfl) (fun k hk => match k, hk with | 0, _ => laws_eqLockS_lk4))) (by kernel_rfl) (by kernel_rfl) laws_eqLockS_VC

/-! laws.eqWait -/

noncomputable def laws_eqWait_C : Cfg := { ti := g_tis, ents := [], ann := [], lent := 0 }

def laws_eqWait_ti : Tmpl := Tmpl.mk (TmL.slot YReadMark (TmL.slot YReadMark TmL.nil)) TmH.nil

def laws_eqWait_to : Tmpl := Tmpl.mk (TmL.slot Ty.bool TmL.nil) TmH.nil

noncomputable def laws_eqWait_S (x : (Int × Int × Unit) × (Int × Int × Unit) × Unit) : Option (Bool × Unit) :=
  bif x.1.1 != x.2.1.1 then some (false, ()) else bif x.1.2.1 != x.2.1.2.1 then some (false, ()) else some (true, ())

noncomputable def laws_eqWait_Ent : Ent := ⟨134, laws_eqWait_ti, laws_eqWait_to, laws_eqWait_S⟩

theorem laws_eqWait_HC : CfgOK Go.Proofs.Try.prog laws_eqWait_C := ⟨⟨info_ok g_tisOK⟩, all_nil, g_wide⟩

theorem laws_eqWait_VC (x : den laws_eqWait_ti.ty) : vcall laws_eqWait_C Go.Proofs.Try.f134 laws_eqWait_ti laws_eqWait_to x = laws_eqWait_S x := by kernel_rfl

theorem laws_eqWait_OK : EntOK Go.Proofs.Try.prog laws_eqWait_Ent := EntOK.of_vcall laws_eqWait_HC Go.Proofs.Try.func134 (body_loops (by kernel_rfl) (loops_all 0 (by kernel_rfl) (fun k hk => absurd hk (Nat.not_lt_zero k)))) (by kernel_rfl) (by kernel_rfl) laws_eqWait_VC

/-! laws.eqWaitS -/

noncomputable def laws_eqWaitS_D4 (i : List (Int × Int × Unit) × List (Int × Int × Unit) × Unit) (v : Int × Unit) (R : Type) (K : Int × Unit ⊕ Unit ⊕ Unit → Option R) : Option R :=
  bif decide (v.1 < (↑(List.length i.1) : Int)) then Option.bind (lAt i.1 v.1) fun v_1 => Option.bind (lAt i.2.1 v.1) fun v_2 => Option.bind (laws_eqWait_S ((v_1.1, v_1.2.1, ()), (v_2.1, v_2.2.1, ()), ())) fun v_3 => bif !v_3.1 then K (Sum.inr
  (Sum.inl ())) else K (Sum.inl (IntKind.wrap IntKind.i64 (v.1 + 1), ())) else K (Sum.inr (Sum.inr ()))

theorem laws_eqWaitS_D4_nat (i : List (Int × Int × Unit) × List (Int × Int × Unit) × Unit) (v : Int × Unit) (R : Type) (K : Int × Unit ⊕ Unit ⊕ Unit → Option R) : laws_eqWaitS_D4 i v R K = (laws_eqWaitS_D4 i v _ some).bind K := nat_bif (nat_bind fun _ => nat_bind fun _ => nat_bind fun _ => nat_bif (nat_some) (nat_some)) (nat_some)

def laws_eqWaitS_T4 : Tmpl := Tmpl.mk (TmL.slot (Ty.slice YReadMark) (TmL.slot (Ty.slice YReadMark) (TmL.junk (TmL.junk (TmL.junk (TmL.slot (Ty.int
  IntKind.i64) (TmL.junk (TmL.junk (TmL.junk (TmL.junk (TmL.junk (TmL.junk (TmL.junk (TmL.junk (TmL.junk (TmL.junk (TmL.junk (TmL.junk (TmL.junk (TmL.junk (TmL.junk (TmL.junk (TmL.junk (TmL.junk (TmL.junk (TmL.junk (TmL.junk
  TmL.nil))))))))))))))))))))))))))) TmH.nil

def laws_eqWaitS_X4_0 (i : List (Int × Int × Unit) × List (Int × Int × Unit) × Unit) (p : Unit) : St :=
  St.mk [AV.junk, AV.junk, AV.junk, AV.junk, AV.pv Ty.bool false, AV.junk, AV.junk, AV.junk, AV.junk, AV.junk, AV.junk, AV.junk, AV.junk, AV.junk, AV.junk, AV.junk, AV.junk, AV.junk, AV.junk, AV.junk, AV.junk, AV.junk, AV.junk, AV.junk,
  AV.junk, AV.junk, AV.junk] []

def laws_eqWaitS_X4_1 (i : List (Int × Int × Unit) × List (Int × Int × Unit) × Unit) (p : Unit) : St :=
  St.mk [AV.junk, AV.junk, AV.junk, AV.junk, AV.junk, AV.junk, AV.junk, AV.junk, AV.junk, AV.junk, AV.junk, AV.junk, AV.junk, AV.junk, AV.junk, AV.junk, AV.junk, AV.junk, AV.junk, AV.junk, AV.junk, AV.junk, AV.junk, AV.junk, AV.junk, AV.junk,
  AV.junk] []

noncomputable def laws_eqWaitS_E4 (i : List (Int × Int × Unit) × List (Int × Int × Unit) × Unit) (p : Unit ⊕ Unit) (R : Type) (K : Ex → St → Option R) : Option R := sumC p (fun p => K (Ex.ret) (laws_eqWaitS_X4_0 i p)) (fun p => K (Ex.exit 0) (laws_eqWaitS_X4_1 i p))

noncomputable def laws_eqWaitS_K4 (i : List (Int × Int × Unit) × List (Int × Int × Unit) × Unit) (p : Unit ⊕ Unit) : Ex × St := sumC p (fun p => ((Ex.ret), laws_eqWaitS_X4_0 i p)) (fun p => ((Ex.exit 0), laws_eqWaitS_X4_1 i p))

def laws_eqWaitS_M4 (i : List (Int × Int × Unit) × List (Int × Int × Unit) × Unit) (v : Int × Unit) : den laws_eqWaitS_T4.ty := (i.1, i.2.1, v.1, ())

def laws_eqWaitS_P4 (x : den laws_eqWaitS_T4.ty) : (List (Int × Int × Unit) × List (Int × Int × Unit) × Unit) × (Int × Unit) := ((x.1, x.2.1, ()), (x.2.2.1, ()))

noncomputable def laws_eqWaitS_F4 : LoopFn := fun s R K => Tmpl.readS laws_eqWaitS_T4 0 s fun x => (iter (fun v => laws_eqWaitS_D4 (laws_eqWaitS_P4 x).1 v _ some) (laws_eqWaitS_P4 x).2).bind fun p => laws_eqWaitS_E4 (laws_eqWaitS_P4 x).1 p R K

noncomputable def laws_eqWaitS_C : Cfg := { ti := g_tis, ents := [laws_eqWait_Ent], ann := [(4, laws_eqWaitS_F4)], lent := 0 }

def laws_eqWaitS_ti : Tmpl := Tmpl.mk (TmL.slot (Ty.slice YReadMark) (TmL.slot (Ty.slice YReadMark) TmL.nil)) TmH.nil

def laws_eqWaitS_to : Tmpl := Tmpl.mk (TmL.slot Ty.bool TmL.nil) TmH.nil

noncomputable def laws_eqWaitS_S (x : List (Int × Int × Unit) × List (Int × Int × Unit) × Unit) : Option (Bool × Unit) :=
  bif (↑(List.length x.1) : Int) != (↑(List.length x.2.1) : Int) then some (false, ()) else Option.bind (iter (fun v => laws_eqWaitS_D4 (x.1, x.2.1, ()) v (Int × Unit ⊕ Unit ⊕ Unit) some) (0, ())) fun p => sumC p (fun p => some (false, ()))
  fun p => some (true, ())

noncomputable def laws_eqWaitS_Ent : Ent := ⟨87, laws_eqWaitS_ti, laws_eqWaitS_to, laws_eqWaitS_S⟩

theorem laws_eqWaitS_HC : CfgOK Go.Proofs.Try.prog laws_eqWaitS_C := ⟨⟨info_ok g_tisOK⟩, (all_cons laws_eqWait_OK all_nil), g_wide⟩

theorem laws_eqWaitS_lk4 : ∀ F, ((laws_eqWaitS_C).ann.find? fun x => x.1 == firstId ((loopsOf (codeOf Go.Proofs.Try.f87)).getD 0 .skip)).map (·.2) = some F → LoopOK Go.Proofs.Try.prog laws_eqWaitS_C.lent ((loopsOf (codeOf Go.Proofs.Try.f87)).getD 0 .skip) F := by
  refine lookup_ok (show ((laws_eqWaitS_C).ann.find? fun x => x.1 == firstId ((loopsOf (codeOf Go.Proofs.Try.f87)).getD 0 .skip)).map (·.2) = some laws_eqWaitS_F4 from by kernel_rfl) ?_
  exact loop_ok laws_eqWaitS_HC (loops_all 0 (by kernel_rfl) (fun k hk => absurd hk (Nat.not_lt_zero k))) laws_eqWaitS_T4 [4] laws_eqWaitS_M4 laws_eqWaitS_P4 (fun x => rfl) laws_eqWaitS_D4 laws_eqWaitS_D4_nat laws_eqWaitS_E4 laws_eqWaitS_K4 (fun i p R K => by rcases p with p | p <;> rfl) (fun i v => by kernel_rfl)

theorem laws_eqWaitS_VC (x : den laws_eqWaitS_ti.ty) : vcall laws_eqWaitS_C Go.Proofs.Try.f87 laws_eqWaitS_ti laws_eqWaitS_to x = laws_eqWaitS_S x := by kernel_rfl

theorem laws_eqWaitS_OK : EntOK Go.Proofs.Try.prog laws_eqWaitS_Ent := EntOK.of_vcall laws_eqWaitS_HC Go.Proofs.Try.func87 (body_loops (by kernel_rfl) (loops_all 1 (by kernel_rfl) (fun k hk => match k, hk with | 0, _ => laws_eqWaitS_lk4))) (by kernel_rfl) (by kernel_rfl) laws_eqWaitS_VC

/-! laws.eqEngine -/

noncomputable def laws_eqEngine_C : Cfg := { ti := g_tis, ents := [laws_eqStore_Ent, laws_eqTransactionS_Ent, laws_eqLockS_Ent, laws_eqWaitS_Ent], ann := [], lent := 0 }

def laws_eqEngine_ti : Tmpl := Tmpl.mk (TmL.slot (Ty.prod Ty.bool (Ty.prod (Ty.prod (Ty.slice (Ty.slice YVersion))
  Ty.unit) (Ty.prod (Ty.slice (Ty.prod Ty.i (Ty.prod Ty.i (Ty.prod Ty.i (Ty.prod Ty.i (Ty.prod Ty.i (Ty.prod Ty.i (Ty.prod Ty.i
  (Ty.prod (Ty.slice YReadMark) (Ty.prod (Ty.slice YReadMark) Ty.unit)))))))))) (Ty.prod (Ty.slice (Ty.prod (Ty.int
  IntKind.i64) (Ty.prod Ty.i Ty.unit))) (Ty.prod (Ty.slice YReadMark) (Ty.prod Ty.i Ty.unit)))))) (TmL.slot (Ty.prod Ty.bool (Ty.prod (Ty.prod
  (Ty.slice (Ty.slice YVersion)) Ty.unit) (Ty.prod (Ty.slice (Ty.prod (Ty.int
  IntKind.i64) (Ty.prod Ty.i (Ty.prod Ty.i (Ty.prod Ty.i (Ty.prod Ty.i (Ty.prod Ty.i (Ty.prod Ty.i (Ty.prod (Ty.slice (Ty.prod Ty.i
  (Ty.prod Ty.i Ty.unit))) (Ty.prod (Ty.slice YReadMark) Ty.unit)))))))))) (Ty.prod (Ty.slice YReadMark)
  (Ty.prod (Ty.slice YReadMark) (Ty.prod Ty.i Ty.unit)))))) TmL.nil)) TmH.nil

def laws_eqEngine_to : Tmpl := Tmpl.mk (TmL.slot Ty.bool TmL.nil) TmH.nil

noncomputable def laws_eqEngine_S (x : (Bool × (List (List (Int × Int × Int × Int × Int × Unit)) × Unit) × List (Int × Int × Int × Int × Int × Int × Int × List (Int × Int × Unit) × List (Int × Int × Unit) × Unit) × List (Int × Int × Unit) × List (Int × Int × Unit) × Int × Unit) ×
  (Bool × (List (List (Int × Int × Int × Int × Int × Unit)) × Unit) × List (Int × Int × Int × Int × Int × Int × Int × List (Int × Int × Unit) × List (Int × Int × Unit) × Unit) × List (Int × Int × Unit) × List (Int × Int × Unit) × Int × Unit) ×
  Unit) : Option (Bool × Unit) :=
  bif !x.1.1 == x.2.1.1 then some (false, ()) else Option.bind (laws_eqStore_S ((x.1.2.1.1, ()), (x.2.1.2.1.1, ()), ())) fun v => bif !v.1 then some (false, ()) else Option.bind (laws_eqTransactionS_S (x.1.2.2.1, x.2.1.2.2.1, ())) fun v => bif
  !v.1 then some (false, ()) else Option.bind (laws_eqLockS_S (x.1.2.2.2.1, x.2.1.2.2.2.1, ())) fun v => bif !v.1 then some (false, ()) else Option.bind (laws_eqWaitS_S (x.1.2.2.2.2.1, x.2.1.2.2.2.2.1, ())) fun v => bif !v.1 then some (false,
  ()) else bif x.1.2.2.2.2.2.1 != x.2.1.2.2.2.2.2.1 then some (false, ()) else some (true, ())

noncomputable def laws_eqEngine_Ent : Ent := ⟨37, laws_eqEngine_ti, laws_eqEngine_to, laws_eqEngine_S⟩

theorem laws_eqEngine_HC : CfgOK Go.Proofs.Try.prog laws_eqEngine_C := ⟨⟨info_ok g_tisOK⟩, (all_cons laws_eqStore_OK (all_cons laws_eqTransactionS_OK (all_cons laws_eqLockS_OK (all_cons laws_eqWaitS_OK all_nil)))), g_wide⟩

theorem laws_eqEngine_VC (x : den laws_eqEngine_ti.ty) : vcall laws_eqEngine_C Go.Proofs.Try.f37 laws_eqEngine_ti laws_eqEngine_to x = laws_eqEngine_S x := by kernel_rfl

theorem laws_eqEngine_OK : EntOK Go.Proofs.Try.prog laws_eqEngine_Ent := EntOK.of_vcall laws_eqEngine_HC Go.Proofs.Try.func37 (body_loops (by kernel_rfl) (loops_all 0 (by kernel_rfl) (fun k hk => absurd hk (Nat.not_lt_zero k)))) (by kernel_rfl) (by kernel_rfl) laws_eqEngine_VC

/-! laws.FnExactWindowSum -/

noncomputable def laws_FnExactWindowSum_C : Cfg := { ti := g_tis, ents := [laws_szEngine_Ent, laws_toEngine_Ent, spec_WindowSum_Ent, impl_WindowSum_Ent, laws_eqEngine_Ent], ann := [], lent := 0 }

def laws_FnExactWindowSum_ti : Tmpl := Tmpl.mk (TmL.slot (Ty.prod Ty.bool (Ty.prod (Ty.prod (Ty.slice (Ty.slice YVersion))
  Ty.unit) (Ty.prod (Ty.slice (Ty.prod Ty.i (Ty.prod Ty.i (Ty.prod Ty.i (Ty.prod Ty.i (Ty.prod Ty.i (Ty.prod Ty.i (Ty.prod Ty.i
  (Ty.prod (Ty.slice YReadMark) (Ty.prod (Ty.slice YReadMark) Ty.unit)))))))))) (Ty.prod (Ty.slice (Ty.prod (Ty.int
  IntKind.i64) (Ty.prod Ty.i Ty.unit))) (Ty.prod (Ty.slice YReadMark) (Ty.prod Ty.i Ty.unit)))))) TmL.nil) TmH.nil

def laws_FnExactWindowSum_to : Tmpl := Tmpl.mk (TmL.slot Ty.bool TmL.nil) TmH.nil

noncomputable def laws_FnExactWindowSum_S (x : (Bool × (List (List (Int × Int × Int × Int × Int × Unit)) × Unit) × List (Int × Int × Int × Int × Int × Int × Int × List (Int × Int × Unit) × List (Int × Int × Unit) × Unit) × List (Int × Int × Unit) × List (Int × Int × Unit) × Int × Unit) ×
  Unit) : Option (Bool × Unit) :=
  Option.bind (laws_szEngine_S ((x.1.1, (x.1.2.1.1, ()), x.1.2.2.1, x.1.2.2.2.1, x.1.2.2.2.2.1, x.1.2.2.2.2.2.1, ()), 1048576, ())) fun v => bif decide (v.1 < 0) then some (true, ()) else Option.bind (laws_toEngine_S ((x.1.1, (x.1.2.1.1, ()),
  x.1.2.2.1, x.1.2.2.2.1, x.1.2.2.2.2.1, x.1.2.2.2.2.2.1, ()), ())) fun v => Option.bind (spec_WindowSum_S ((v.1, (v.2.2.1, ()), v.2.2.2.1, v.2.2.2.2.1, v.2.2.2.2.2.1, v.2.1, ()), ())) fun v => Option.bind (laws_toEngine_S ((x.1.1, (x.1.2.1.1,
  ()), x.1.2.2.1, x.1.2.2.2.1, x.1.2.2.2.2.1, x.1.2.2.2.2.2.1, ()), ())) fun v_1 => Option.bind (impl_WindowSum_S ((v_1.1, (v_1.2.2.1, ()), v_1.2.2.2.1, v_1.2.2.2.2.1, v_1.2.2.2.2.2.1, v_1.2.1, ()), ())) fun v_2 => bif v_2.1 != v.1 then some
  (false, ()) else Option.bind (laws_toEngine_S ((x.1.1, (x.1.2.1.1, ()), x.1.2.2.1, x.1.2.2.2.1, x.1.2.2.2.2.1, x.1.2.2.2.2.2.1, ()), ())) fun v => Option.bind (laws_eqEngine_S ((v_1.1, (v_1.2.2.1, ()), v_1.2.2.2.1, v_1.2.2.2.2.1,
  v_1.2.2.2.2.2.1, v_1.2.1, ()), (v.1, (v.2.2.1, ()), v.2.2.2.1, v.2.2.2.2.1, v.2.2.2.2.2.1, v.2.1, ()), ())) fun v => bif !v.1 then some (false, ()) else some (true, ())

noncomputable def laws_FnExactWindowSum_Ent : Ent := ⟨7, laws_FnExactWindowSum_ti, laws_FnExactWindowSum_to, laws_FnExactWindowSum_S⟩

theorem laws_FnExactWindowSum_HC : CfgOK Go.Proofs.Try.prog laws_FnExactWindowSum_C := ⟨⟨info_ok g_tisOK⟩, (all_cons laws_szEngine_OK (all_cons laws_toEngine_OK (all_cons spec_WindowSum_OK (all_cons impl_WindowSum_OK (all_cons laws_eqEngine_OK all_nil))))), g_wide⟩

theorem laws_FnExactWindowSum_VC (x : den laws_FnExactWindowSum_ti.ty) : vcall laws_FnExactWindowSum_C Go.Proofs.Try.f7 laws_FnExactWindowSum_ti laws_FnExactWindowSum_to x = laws_FnExactWindowSum_S x := by kernel_rfl

theorem laws_FnExactWindowSum_OK : EntOK Go.Proofs.Try.prog laws_FnExactWindowSum_Ent := EntOK.of_vcall laws_FnExactWindowSum_HC Go.Proofs.Try.func7 (body_loops (by kernel_rfl) (loops_all 0 (by kernel_rfl) (fun k hk => absurd hk (Nat.not_lt_zero k)))) (by kernel_rfl) (by kernel_rfl) laws_FnExactWindowSum_VC

end Go.Ab
