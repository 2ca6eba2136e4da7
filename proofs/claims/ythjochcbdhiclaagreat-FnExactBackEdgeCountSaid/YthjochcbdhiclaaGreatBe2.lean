import Derived.Test.YthjochcbdhiclaaGreatBe1
set_option maxRecDepth 100000
set_option linter.unusedVariables false
namespace Go.Ab
open Go.Proofs
abbrev q164_I4 : Type := List (List (Int × Int × Int × Int × Int × Unit)) × Int × Int × Int × Int × Int × Int × Int × List (Int × Int × Unit) × List (Int × Int × Unit) × Unit
abbrev q164_V4 : Type := Int × Unit
abbrev q164_Q4 : Type := Unit ⊕ Unit
noncomputable def spec_ReadsExist_D4 (i : q164_I4) (v : q164_V4) (R : Type) (K : q164_V4 ⊕ q164_Q4 → Option R) : Option R :=
  bif decide (v.1 < (↑(List.length i.2.2.2.2.2.2.2.2.1) : Int)) then Option.bind (lAt i.2.2.2.2.2.2.2.2.1 v.1) fun v_1 => Option.bind (lAt i.1 v_1.1) fun v_2 => Option.bind (lAt i.2.2.2.2.2.2.2.2.1 v.1) fun v_3 => Option.bind
  (spec_FindVersion_S (v_2, v_3.2.1, ())) fun v_4 => bif decide (v_4.1 < 0) then K (Sum.inr (Sum.inl ())) else K (Sum.inl (IntKind.wrap IntKind.i64 (v.1 + 1), ())) else K (Sum.inr (Sum.inr ()))
theorem spec_ReadsExist_D4_nat : NatD spec_ReadsExist_D4 := fun i v R K => nat_bif (nat_bind fun _ => nat_bind fun _ => nat_bind fun _ => nat_bind fun _ => nat_bif (nat_some) (nat_some)) (nat_some)
def q164_T4 : Tmpl := ⟨(jk 2 (.ptr 0 0 0 (.ptr 1 0 0 (.junk (.slot Ty.i (jk 33 .nil)))))), (.cells 1 (.slot (Ty.slice (Ty.slice YVersion)) .nil) (.cells 9 (.slot Ty.i (.slot Ty.i (.slot Ty.i (.slot Ty.i (.slot Ty.i (.slot Ty.i (.slot Ty.i (.slot (Ty.slice YReadMark) (.slot (Ty.slice YReadMark) .nil))))))))) .nil))⟩
def q164_X4_0 (i : q164_I4) (p : Unit) : St := ⟨jn 4 (.b (false) :: jn 34 ([])), [some (Cont.cells 1 [[AV.pv (Ty.slice (Ty.slice (Ty.prod Ty.i (Ty.prod Ty.i (Ty.prod Ty.i (Ty.prod Ty.i (Ty.prod Ty.i
  Ty.unit))))))) i.1]]), some (Cont.cells 9 [[AV.pv Ty.i i.2.1, AV.pv Ty.i i.2.2.1, AV.pv Ty.i i.2.2.2.1, AV.pv Ty.i i.2.2.2.2.1, AV.pv Ty.i i.2.2.2.2.2.1, AV.pv
  Ty.i i.2.2.2.2.2.2.1, AV.pv Ty.i i.2.2.2.2.2.2.2.1, AV.pv (Ty.slice YReadMark) i.2.2.2.2.2.2.2.2.1, AV.pv (Ty.slice (Ty.prod Ty.i
  (Ty.prod Ty.i Ty.unit))) i.2.2.2.2.2.2.2.2.2.1]])]⟩
def q164_X4_1 (i : q164_I4) (p : Unit) : St := ⟨jn 39 ([]), [some (Cont.cells 1 [[AV.pv (Ty.slice (Ty.slice YVersion)) i.1]]), some
  (Cont.cells 9 [[AV.pv Ty.i i.2.1, AV.pv Ty.i i.2.2.1, AV.pv Ty.i i.2.2.2.1, AV.pv Ty.i i.2.2.2.2.1, AV.pv Ty.i i.2.2.2.2.2.1, AV.pv Ty.i
  i.2.2.2.2.2.2.1, AV.pv Ty.i i.2.2.2.2.2.2.2.1, AV.pv (Ty.slice YReadMark) i.2.2.2.2.2.2.2.2.1, AV.pv (Ty.slice (Ty.prod Ty.i (Ty.prod (Ty.int
  IntKind.i64) Ty.unit))) i.2.2.2.2.2.2.2.2.2.1]])]⟩
noncomputable def q164_E4 (i : q164_I4) (p : q164_Q4) (R : Type) (K : Ex → St → Option R) : Option R := sumC p (fun p => K (Ex.ret) (q164_X4_0 i p)) fun p => K (Ex.exit 0) (q164_X4_1 i p)
noncomputable def q164_K4 (i : q164_I4) (p : q164_Q4) : Ex × St := sumC p (fun p => (Ex.ret, q164_X4_0 i p)) fun p => (Ex.exit 0, q164_X4_1 i p)
def q164_M4 (i : q164_I4) (v : q164_V4) : den q164_T4.ty := (v.1, i.1, i.2.1, i.2.2.1, i.2.2.2.1, i.2.2.2.2.1, i.2.2.2.2.2.1, i.2.2.2.2.2.2.1, i.2.2.2.2.2.2.2.1, i.2.2.2.2.2.2.2.2.1, i.2.2.2.2.2.2.2.2.2.1, ())
def q164_P4 (x : den q164_T4.ty) : q164_I4 × q164_V4 := ((x.2.1, x.2.2.1, x.2.2.2.1, x.2.2.2.2.1, x.2.2.2.2.2.1, x.2.2.2.2.2.2.1, x.2.2.2.2.2.2.2.1, x.2.2.2.2.2.2.2.2.1, x.2.2.2.2.2.2.2.2.2.1, x.2.2.2.2.2.2.2.2.2.2.1, ()), (x.1, ()))
noncomputable def q164_C : Cfg := { ti := g_tis, ents := [q159_Ent, q13_Ent, q163_Ent], ann := [(4, loopFn q164_T4 0 q164_P4 spec_ReadsExist_D4 q164_E4)], lent := 0 }
def q164_ti : Tmpl := ⟨(.slot YStore (.slot (Ty.prod Ty.i (Ty.prod Ty.i (Ty.prod Ty.i (Ty.prod Ty.i (Ty.prod Ty.i (Ty.prod Ty.i (Ty.prod Ty.i (Ty.prod (Ty.slice (Ty.prod
  Ty.i (Ty.prod Ty.i Ty.unit))) (Ty.prod (Ty.slice YReadMark) Ty.unit))))))))) .nil)), .nil⟩
def q164_to : Tmpl := ⟨(.slot (Ty.bool) .nil), .nil⟩
noncomputable def spec_ReadsExist_S (x : (List (List (Int × Int × Int × Int × Int × Unit)) × Unit) × (Int × Int × Int × Int × Int × Int × Int × List (Int × Int × Unit) × List (Int × Int × Unit) × Unit) × Unit) : Option (Bool × Unit) :=
  Option.bind (spec_IsValidStore_S ((x.1.1, ()), ())) fun v => bif !v.1 then some (false, ()) else Option.bind (spec_IsValidTransaction_S ((x.2.1.1, x.2.1.2.1, x.2.1.2.2.1, x.2.1.2.2.2.1, x.2.1.2.2.2.2.1, x.2.1.2.2.2.2.2.1,
  x.2.1.2.2.2.2.2.2.1, x.2.1.2.2.2.2.2.2.2.1, x.2.1.2.2.2.2.2.2.2.2.1, ()), ())) fun v => bif !v.1 then some (false, ()) else Option.bind (iter (fun v => spec_ReadsExist_D4 (x.1.1, x.2.1.1, x.2.1.2.1, x.2.1.2.2.1, x.2.1.2.2.2.1,
  x.2.1.2.2.2.2.1, x.2.1.2.2.2.2.2.1, x.2.1.2.2.2.2.2.2.1, x.2.1.2.2.2.2.2.2.2.1, x.2.1.2.2.2.2.2.2.2.2.1, ()) v _ some) (0, ())) fun p => sumC p (fun p => some (false, ())) fun p => some (true, ())
noncomputable def q164_Ent : Ent := ⟨228, q164_ti, q164_to, spec_ReadsExist_S⟩
theorem q164_HC : CfgOK Tryz.prog q164_C := hc_of g_tisOK g_wide (all_cons q159_OK (all_cons q13_OK (all_cons q163_OK all_nil)))
theorem q164_lk4 : LkOK Tryz.prog q164_C (lpc Tryz.f228 0) :=
  lk_of q164_HC (m := 0) (T := q164_T4) (sp := q164_P4) (D := spec_ReadsExist_D4) (E := q164_E4) (by kernel_rfl) (by kernel_rfl) (fun k hk => absurd hk (Nat.not_lt_zero k)) [4] q164_M4 (fun x => rfl) spec_ReadsExist_D4_nat q164_K4 (fun i p R K => by rcases p with p | p <;> rfl) (fun i v => by kernel_rfl)
theorem q164_OK : EntOK Tryz.prog q164_Ent := ok_of q164_HC Tryz.func228 1 (by kernel_rfl) (fun k hk => match k, hk with | 0, _ => q164_lk4) (by kernel_rfl) (by kernel_rfl) (fun x => by kernel_rfl)
abbrev q165_I2 : Type := Int × Bool × List (List (Int × Int × Int × Int × Int × Unit)) × List (Int × Int × Int × Int × Int × Int × Int × List (Int × Int × Unit) × List (Int × Int × Unit) × Unit) × List (Int × Int × Unit) × List (Int × Int × Unit) × Int × Unit
abbrev q165_V2 : Type := Int × Unit
abbrev q165_Q2 : Type := Int × Unit ⊕ Unit
noncomputable def spec_FindTransaction_D2 (i : q165_I2) (v : q165_V2) (R : Type) (K : q165_V2 ⊕ q165_Q2 → Option R) : Option R :=
  bif decide (v.1 < (↑(List.length i.2.2.2.1) : Int)) then Option.bind (lAt i.2.2.2.1 v.1) fun v_1 => bif v_1.1 == i.1 then K (Sum.inr (Sum.inl (v.1, ()))) else K (Sum.inl (IntKind.wrap IntKind.i64 (v.1 + 1), ())) else K (Sum.inr (Sum.inr ()))
theorem spec_FindTransaction_D2_nat : NatD spec_FindTransaction_D2 := fun i v R K => nat_bif (nat_bind fun _ => nat_bif (nat_some) (nat_some)) (nat_some)
def q165_T2 : Tmpl := ⟨(.junk (.slot Ty.i (.ptr 0 0 0 (jk 2 (.slot Ty.i (jk 16 .nil)))))), (.cells 6 (.slot (Ty.bool) (.slot (Ty.slice (Ty.slice YVersion)) (.slot (Ty.slice (Ty.prod Ty.i (Ty.prod Ty.i (Ty.prod Ty.i (Ty.prod Ty.i (Ty.prod Ty.i (Ty.prod Ty.i (Ty.prod Ty.i (Ty.prod (Ty.slice
  YReadMark) (Ty.prod (Ty.slice YReadMark) Ty.unit)))))))))) (.slot (Ty.slice YReadMark) (.slot (Ty.slice YReadMark) (.slot Ty.i .nil)))))) .nil)⟩
def q165_X2_0 (i : q165_I2) (p : Int × Unit) : St := ⟨jn 4 (.n (p.1) :: jn 17 ([])), [some (Cont.cells 6 [[AV.pv Ty.bool i.2.1, AV.pv (Ty.slice (Ty.slice (Ty.prod Ty.i (Ty.prod Ty.i (Ty.prod Ty.i (Ty.prod Ty.i (Ty.prod (Ty.int
  IntKind.i64) Ty.unit))))))) i.2.2.1, AV.pv (Ty.slice (Ty.prod Ty.i (Ty.prod Ty.i (Ty.prod Ty.i (Ty.prod Ty.i (Ty.prod Ty.i (Ty.prod Ty.i (Ty.prod
  Ty.i (Ty.prod (Ty.slice YReadMark) (Ty.prod (Ty.slice YReadMark) Ty.unit)))))))))) i.2.2.2.1, AV.pv
  (Ty.slice YReadMark) i.2.2.2.2.1, AV.pv (Ty.slice YReadMark) i.2.2.2.2.2.1, AV.pv Ty.i
  i.2.2.2.2.2.2.1]])]⟩
def q165_X2_1 (i : q165_I2) (p : Unit) : St := ⟨jn 22 ([]), [some (Cont.cells 6 [[AV.pv Ty.bool i.2.1, AV.pv (Ty.slice (Ty.slice (Ty.prod Ty.i (Ty.prod Ty.i (Ty.prod Ty.i (Ty.prod Ty.i (Ty.prod Ty.i
  Ty.unit))))))) i.2.2.1, AV.pv (Ty.slice (Ty.prod Ty.i (Ty.prod Ty.i (Ty.prod Ty.i (Ty.prod Ty.i (Ty.prod Ty.i (Ty.prod Ty.i (Ty.prod (Ty.int
  IntKind.i64) (Ty.prod (Ty.slice YReadMark) (Ty.prod (Ty.slice YReadMark) Ty.unit)))))))))) i.2.2.2.1, AV.pv (Ty.slice
  YReadMark) i.2.2.2.2.1, AV.pv (Ty.slice YReadMark) i.2.2.2.2.2.1, AV.pv Ty.i i.2.2.2.2.2.2.1]])]⟩
noncomputable def q165_E2 (i : q165_I2) (p : q165_Q2) (R : Type) (K : Ex → St → Option R) : Option R := sumC p (fun p => K (Ex.ret) (q165_X2_0 i p)) fun p => K (Ex.exit 0) (q165_X2_1 i p)
noncomputable def q165_K2 (i : q165_I2) (p : q165_Q2) : Ex × St := sumC p (fun p => (Ex.ret, q165_X2_0 i p)) fun p => (Ex.exit 0, q165_X2_1 i p)
def q165_M2 (i : q165_I2) (v : q165_V2) : den q165_T2.ty := (i.1, v.1, i.2.1, i.2.2.1, i.2.2.2.1, i.2.2.2.2.1, i.2.2.2.2.2.1, i.2.2.2.2.2.2.1, ())
def q165_P2 (x : den q165_T2.ty) : q165_I2 × q165_V2 := ((x.1, x.2.2.1, x.2.2.2.1, x.2.2.2.2.1, x.2.2.2.2.2.1, x.2.2.2.2.2.2.1, x.2.2.2.2.2.2.2.1, ()), (x.2.1, ()))
noncomputable def q165_C : Cfg := { ti := g_tis, ents := [], ann := [(2, loopFn q165_T2 0 q165_P2 spec_FindTransaction_D2 q165_E2)], lent := 0 }
def q165_ti : Tmpl := ⟨(.slot (Ty.prod Ty.bool (Ty.prod YStore (Ty.prod
  (Ty.slice (Ty.prod Ty.i (Ty.prod Ty.i (Ty.prod Ty.i (Ty.prod Ty.i (Ty.prod Ty.i (Ty.prod Ty.i (Ty.prod Ty.i (Ty.prod (Ty.slice
  YReadMark) (Ty.prod (Ty.slice YReadMark) Ty.unit)))))))))) (Ty.prod (Ty.slice (Ty.prod Ty.i (Ty.prod
  Ty.i Ty.unit))) (Ty.prod (Ty.slice YReadMark) (Ty.prod Ty.i Ty.unit)))))) (.slot Ty.i .nil)), .nil⟩
def q165_to : Tmpl := ⟨(.slot Ty.i .nil), .nil⟩
noncomputable def spec_FindTransaction_S (x : (Bool × (List (List (Int × Int × Int × Int × Int × Unit)) × Unit) × List (Int × Int × Int × Int × Int × Int × Int × List (Int × Int × Unit) × List (Int × Int × Unit) × Unit) × List (Int × Int × Unit) × List (Int × Int × Unit) × Int × Unit) ×
  Int × Unit) : Option (Int × Unit) :=
  Option.bind (iter (fun v => spec_FindTransaction_D2 (x.2.1, x.1.1, x.1.2.1.1, x.1.2.2.1, x.1.2.2.2.1, x.1.2.2.2.2.1, x.1.2.2.2.2.2.1, ()) v _ some) (0, ())) fun p => sumC p (fun p => some (p.1, ())) fun p => some (-1, ())
noncomputable def q165_Ent : Ent := ⟨100, q165_ti, q165_to, spec_FindTransaction_S⟩
theorem q165_HC : CfgOK Tryz.prog q165_C := hc_of g_tisOK g_wide all_nil
theorem q165_lk2 : LkOK Tryz.prog q165_C (lpc Tryz.f100 0) :=
  lk_of q165_HC (m := 0) (T := q165_T2) (sp := q165_P2) (D := spec_FindTransaction_D2) (E := q165_E2) (by kernel_rfl) (by kernel_rfl) (fun k hk => absurd hk (Nat.not_lt_zero k)) [4] q165_M2 (fun x => rfl) spec_FindTransaction_D2_nat q165_K2 (fun i p R K => by rcases p with p | p <;> rfl) (fun i v => by kernel_rfl)
theorem q165_OK : EntOK Tryz.prog q165_Ent := ok_of q165_HC Tryz.func100 1 (by kernel_rfl) (fun k hk => match k, hk with | 0, _ => q165_lk2) (by kernel_rfl) (by kernel_rfl) (fun x => by kernel_rfl)
noncomputable def q166_C : Cfg := { ti := g_tis, ents := [q165_Ent], ann := [], lent := 0 }
def q166_ti : Tmpl := ⟨(.slot (Ty.prod Ty.bool (Ty.prod YStore (Ty.prod
  (Ty.slice (Ty.prod Ty.i (Ty.prod Ty.i (Ty.prod Ty.i (Ty.prod Ty.i (Ty.prod Ty.i (Ty.prod Ty.i (Ty.prod Ty.i (Ty.prod (Ty.slice
  YReadMark) (Ty.prod (Ty.slice YReadMark) Ty.unit)))))))))) (Ty.prod (Ty.slice (Ty.prod Ty.i (Ty.prod
  Ty.i Ty.unit))) (Ty.prod (Ty.slice YReadMark) (Ty.prod Ty.i Ty.unit)))))) (.slot Ty.i .nil)), .nil⟩
def q166_to : Tmpl := ⟨(.slot (Ty.bool) .nil), .nil⟩
noncomputable def spec_l13Active_S (x : (Bool × (List (List (Int × Int × Int × Int × Int × Unit)) × Unit) × List (Int × Int × Int × Int × Int × Int × Int × List (Int × Int × Unit) × List (Int × Int × Unit) × Unit) × List (Int × Int × Unit) × List (Int × Int × Unit) × Int × Unit) ×
  Int × Unit) : Option (Bool × Unit) :=
  Option.bind (spec_FindTransaction_S ((x.1.1, (x.1.2.1.1, ()), x.1.2.2.1, x.1.2.2.2.1, x.1.2.2.2.2.1, x.1.2.2.2.2.2.1, ()), x.2.1, ())) fun v => bif decide (v.1 ≥ 0) then Option.bind (lAt x.1.2.2.1 v.1) fun v => some (v.2.2.1 == 1, ()) else
  some (false, ())
noncomputable def q166_Ent : Ent := ⟨229, q166_ti, q166_to, spec_l13Active_S⟩
theorem q166_HC : CfgOK Tryz.prog q166_C := hc_of g_tisOK g_wide (all_cons q165_OK all_nil)
theorem q166_OK : EntOK Tryz.prog q166_Ent := ok_of q166_HC Tryz.func229 0 (by kernel_rfl) (fun k hk => absurd hk (Nat.not_lt_zero k)) (by kernel_rfl) (by kernel_rfl) (fun x => by kernel_rfl)
abbrev q167_I4 : Type := Bool × List (List (Int × Int × Int × Int × Int × Unit)) × List (Int × Int × Int × Int × Int × Int × Int × List (Int × Int × Unit) × List (Int × Int × Unit) × Unit) × List (Int × Int × Unit) × List (Int × Int × Unit) × Int × Unit
abbrev q167_V4 : Type := Int × Unit
abbrev q167_Q4 : Type := Int × Int × Int × Int × Int × Int × Int × List (Int × Int × Unit) × List (Int × Int × Unit) × Unit ⊕ Int × Int × Int × Int × Int × Int × Int × List (Int × Int × Unit) × List (Int × Int × Unit) × Unit ⊕ Int × Int × Int × Int × Int × Int × Int
  × List (Int × Int × Unit) × List (Int × Int × Unit) × Unit ⊕ Int × Int × Int × Int × Int × Int × Int × List (Int × Int × Unit) × List (Int × Int × Unit) × Unit ⊕ Int × Int × Int × Int × Int × Int × Int × List (Int × Int × Unit) × List (Int ×
  Int × Unit) × Unit ⊕ Int × Int × Int × Int × Int × Int × Int × List (Int × Int × Unit) × List (Int × Int × Unit) × Unit ⊕ Int × Int × Int × Int × Int × Int × Int × List (Int × Int × Unit) × List (Int × Int × Unit) × Unit ⊕ Int × Int × Int ×
  Int × Int × Int × Int × List (Int × Int × Unit) × List (Int × Int × Unit) × Unit ⊕ Unit
noncomputable def spec_IsValidEngine_D4 (i : q167_I4) (v : q167_V4) (R : Type) (K : q167_V4 ⊕ q167_Q4 → Option R) : Option R :=
  bif decide (v.1 < (↑(List.length i.2.2.1) : Int)) then Option.bind (lAt i.2.2.1 v.1) fun v_1 => Option.bind (spec_IsValidTransaction_S ((v_1.1, v_1.2.1, v_1.2.2.1, v_1.2.2.2.1, v_1.2.2.2.2.1, v_1.2.2.2.2.2.1, v_1.2.2.2.2.2.2.1,
  v_1.2.2.2.2.2.2.2.1, v_1.2.2.2.2.2.2.2.2.1, ()), ())) fun v_2 => bif !v_2.1 then K (Sum.inr (Sum.inl (v_1.1, v_1.2.1, v_1.2.2.1, v_1.2.2.2.1, v_1.2.2.2.2.1, v_1.2.2.2.2.2.1, v_1.2.2.2.2.2.2.1, v_1.2.2.2.2.2.2.2.1, v_1.2.2.2.2.2.2.2.2.1,
  ()))) else bif decide (v.1 > 0) then Option.bind (lAt i.2.2.1 (IntKind.wrap IntKind.i64 (v.1 - 1))) fun v_3 => bif decide (v_3.1 ≥ v_1.1) then K (Sum.inr (Sum.inr (Sum.inl (v_1.1, v_1.2.1, v_1.2.2.1, v_1.2.2.2.1, v_1.2.2.2.2.1,
  v_1.2.2.2.2.2.1, v_1.2.2.2.2.2.2.1, v_1.2.2.2.2.2.2.2.1, v_1.2.2.2.2.2.2.2.2.1, ())))) else bif decide (v_1.2.2.2.1 > i.2.2.2.2.2.1) then K (Sum.inr (Sum.inr (Sum.inr (Sum.inl (v_1.1, v_1.2.1, v_1.2.2.1, v_1.2.2.2.1, v_1.2.2.2.2.1,
  v_1.2.2.2.2.2.1, v_1.2.2.2.2.2.2.1, v_1.2.2.2.2.2.2.2.1, v_1.2.2.2.2.2.2.2.2.1, ()))))) else bif decide (v_1.2.2.2.2.2.2.1 > i.2.2.2.2.2.1) then K (Sum.inr (Sum.inr (Sum.inr (Sum.inr (Sum.inl (v_1.1, v_1.2.1, v_1.2.2.1, v_1.2.2.2.1,
  v_1.2.2.2.2.1, v_1.2.2.2.2.2.1, v_1.2.2.2.2.2.2.1, v_1.2.2.2.2.2.2.2.1, v_1.2.2.2.2.2.2.2.2.1, ())))))) else bif v_1.2.2.1 == 1 then Option.bind (spec_ReadsExist_S ((i.2.1, ()), (v_1.1, v_1.2.1, v_1.2.2.1, v_1.2.2.2.1, v_1.2.2.2.2.1,
  v_1.2.2.2.2.2.1, v_1.2.2.2.2.2.2.1, v_1.2.2.2.2.2.2.2.1, v_1.2.2.2.2.2.2.2.2.1, ()), ())) fun v_4 => bif !v_4.1 then K (Sum.inr (Sum.inr (Sum.inr (Sum.inr (Sum.inr (Sum.inl (v_1.1, v_1.2.1, v_1.2.2.1, v_1.2.2.2.1, v_1.2.2.2.2.1,
  v_1.2.2.2.2.2.1, v_1.2.2.2.2.2.2.1, v_1.2.2.2.2.2.2.2.1, v_1.2.2.2.2.2.2.2.2.1, ()))))))) else K (Sum.inl (IntKind.wrap IntKind.i64 (v.1 + 1), ())) else K (Sum.inl (IntKind.wrap IntKind.i64 (v.1 + 1), ())) else bif decide (v_1.2.2.2.1 >
  i.2.2.2.2.2.1) then K (Sum.inr (Sum.inr (Sum.inr (Sum.inr (Sum.inr (Sum.inr (Sum.inl (v_1.1, v_1.2.1, v_1.2.2.1, v_1.2.2.2.1, v_1.2.2.2.2.1, v_1.2.2.2.2.2.1, v_1.2.2.2.2.2.2.1, v_1.2.2.2.2.2.2.2.1, v_1.2.2.2.2.2.2.2.2.1, ())))))))) else bif
  decide (v_1.2.2.2.2.2.2.1 > i.2.2.2.2.2.1) then K (Sum.inr (Sum.inr (Sum.inr (Sum.inr (Sum.inr (Sum.inr (Sum.inr (Sum.inl (v_1.1, v_1.2.1, v_1.2.2.1, v_1.2.2.2.1, v_1.2.2.2.2.1, v_1.2.2.2.2.2.1, v_1.2.2.2.2.2.2.1, v_1.2.2.2.2.2.2.2.1,
  v_1.2.2.2.2.2.2.2.2.1, ()))))))))) else bif v_1.2.2.1 == 1 then Option.bind (spec_ReadsExist_S ((i.2.1, ()), (v_1.1, v_1.2.1, v_1.2.2.1, v_1.2.2.2.1, v_1.2.2.2.2.1, v_1.2.2.2.2.2.1, v_1.2.2.2.2.2.2.1, v_1.2.2.2.2.2.2.2.1,
  v_1.2.2.2.2.2.2.2.2.1, ()), ())) fun v_3 => bif !v_3.1 then K (Sum.inr (Sum.inr (Sum.inr (Sum.inr (Sum.inr (Sum.inr (Sum.inr (Sum.inr (Sum.inl (v_1.1, v_1.2.1, v_1.2.2.1, v_1.2.2.2.1, v_1.2.2.2.2.1, v_1.2.2.2.2.2.1, v_1.2.2.2.2.2.2.1,
  v_1.2.2.2.2.2.2.2.1, v_1.2.2.2.2.2.2.2.2.1, ())))))))))) else K (Sum.inl (IntKind.wrap IntKind.i64 (v.1 + 1), ())) else K (Sum.inl (IntKind.wrap IntKind.i64 (v.1 + 1), ())) else K (Sum.inr (Sum.inr (Sum.inr (Sum.inr (Sum.inr (Sum.inr
  (Sum.inr (Sum.inr (Sum.inr ())))))))))
theorem spec_IsValidEngine_D4_nat : NatD spec_IsValidEngine_D4 := fun i v R K => nat_bif (nat_bind fun _ => nat_bind fun _ => nat_bif (nat_some) (nat_bif (nat_bind fun _ => nat_bif (nat_some) (nat_bif (nat_some) (nat_bif (nat_some) (nat_bif (nat_bind fun _ => nat_bif (nat_some) (nat_some)) (nat_some))))) (nat_bif (nat_some) (nat_bif (nat_some) (nat_bif (nat_bind fun _ => nat_bif (nat_some) (nat_some)) (nat_some)))))) (nat_some)
def q167_T4 : Tmpl := ⟨(.junk (.ptr 0 0 0 (.junk (.slot Ty.i (jk 134 .nil))))), (.cells 6 (.slot (Ty.bool) (.slot (Ty.slice (Ty.slice YVersion)) (.slot (Ty.slice (Ty.prod Ty.i (Ty.prod Ty.i (Ty.prod Ty.i (Ty.prod Ty.i (Ty.prod Ty.i (Ty.prod Ty.i (Ty.prod Ty.i (Ty.prod (Ty.slice
  YReadMark) (Ty.prod (Ty.slice YReadMark) Ty.unit)))))))))) (.slot (Ty.slice YReadMark) (.slot (Ty.slice YReadMark) (.slot Ty.i .nil)))))) .nil)⟩
def q167_X4_0 (i : q167_I4) (p : Int × Int × Int × Int × Int × Int × Int × List (Int × Int × Unit) × List (Int × Int × Unit) × Unit) : St := ⟨jn 1 (AV.ptr 0 none 0 0 :: .b (false) :: jn 135 ([])), [some (Cont.cells 6 [[AV.pv Ty.bool i.1, AV.pv (Ty.slice (Ty.slice (Ty.prod Ty.i (Ty.prod Ty.i (Ty.prod Ty.i (Ty.prod (Ty.int
  IntKind.i64) (Ty.prod Ty.i Ty.unit))))))) i.2.1, AV.pv (Ty.slice (Ty.prod Ty.i (Ty.prod Ty.i (Ty.prod Ty.i (Ty.prod Ty.i (Ty.prod Ty.i (Ty.prod
  Ty.i (Ty.prod Ty.i (Ty.prod (Ty.slice YReadMark) (Ty.prod (Ty.slice YReadMark)
  Ty.unit)))))))))) i.2.2.1, AV.pv (Ty.slice YReadMark) i.2.2.2.1, AV.pv (Ty.slice YReadMark) i.2.2.2.2.1, AV.pv (Ty.int
  IntKind.i64) i.2.2.2.2.2.1]]), some (Cont.cells 9 [[AV.pv Ty.i p.1, AV.pv Ty.i p.2.1, AV.pv Ty.i p.2.2.1, AV.pv Ty.i p.2.2.2.1, AV.pv Ty.i p.2.2.2.2.1, AV.pv
  Ty.i p.2.2.2.2.2.1, AV.pv Ty.i p.2.2.2.2.2.2.1, AV.pv (Ty.slice YReadMark) p.2.2.2.2.2.2.2.1, AV.pv (Ty.slice (Ty.prod Ty.i (Ty.prod
  Ty.i Ty.unit))) p.2.2.2.2.2.2.2.2.1]])]⟩
def q167_X4_1 (i : q167_I4) (p : Int × Int × Int × Int × Int × Int × Int × List (Int × Int × Unit) × List (Int × Int × Unit) × Unit) : St := ⟨jn 1 (AV.ptr 0 none 0 0 :: .b (false) :: jn 135 ([])), [some (Cont.cells 6 [[AV.pv Ty.bool i.1, AV.pv (Ty.slice (Ty.slice (Ty.prod Ty.i (Ty.prod Ty.i (Ty.prod Ty.i (Ty.prod (Ty.int
  IntKind.i64) (Ty.prod Ty.i Ty.unit))))))) i.2.1, AV.pv (Ty.slice (Ty.prod Ty.i (Ty.prod Ty.i (Ty.prod Ty.i (Ty.prod Ty.i (Ty.prod Ty.i (Ty.prod
  Ty.i (Ty.prod Ty.i (Ty.prod (Ty.slice YReadMark) (Ty.prod (Ty.slice YReadMark)
  Ty.unit)))))))))) i.2.2.1, AV.pv (Ty.slice YReadMark) i.2.2.2.1, AV.pv (Ty.slice YReadMark) i.2.2.2.2.1, AV.pv (Ty.int
  IntKind.i64) i.2.2.2.2.2.1]]), some (Cont.cells 9 [[AV.pv Ty.i p.1, AV.pv Ty.i p.2.1, AV.pv Ty.i p.2.2.1, AV.pv Ty.i p.2.2.2.1, AV.pv Ty.i p.2.2.2.2.1, AV.pv
  Ty.i p.2.2.2.2.2.1, AV.pv Ty.i p.2.2.2.2.2.2.1, AV.pv (Ty.slice YReadMark) p.2.2.2.2.2.2.2.1, AV.pv (Ty.slice (Ty.prod Ty.i (Ty.prod
  Ty.i Ty.unit))) p.2.2.2.2.2.2.2.2.1]])]⟩
def q167_X4_2 (i : q167_I4) (p : Int × Int × Int × Int × Int × Int × Int × List (Int × Int × Unit) × List (Int × Int × Unit) × Unit) : St := ⟨jn 1 (AV.ptr 0 none 0 0 :: .b (false) :: jn 135 ([])), [some (Cont.cells 6 [[AV.pv Ty.bool i.1, AV.pv (Ty.slice (Ty.slice (Ty.prod Ty.i (Ty.prod Ty.i (Ty.prod Ty.i (Ty.prod (Ty.int
  IntKind.i64) (Ty.prod Ty.i Ty.unit))))))) i.2.1, AV.pv (Ty.slice (Ty.prod Ty.i (Ty.prod Ty.i (Ty.prod Ty.i (Ty.prod Ty.i (Ty.prod Ty.i (Ty.prod
  Ty.i (Ty.prod Ty.i (Ty.prod (Ty.slice YReadMark) (Ty.prod (Ty.slice YReadMark)
  Ty.unit)))))))))) i.2.2.1, AV.pv (Ty.slice YReadMark) i.2.2.2.1, AV.pv (Ty.slice YReadMark) i.2.2.2.2.1, AV.pv (Ty.int
  IntKind.i64) i.2.2.2.2.2.1]]), some (Cont.cells 9 [[AV.pv Ty.i p.1, AV.pv Ty.i p.2.1, AV.pv Ty.i p.2.2.1, AV.pv Ty.i p.2.2.2.1, AV.pv Ty.i p.2.2.2.2.1, AV.pv
  Ty.i p.2.2.2.2.2.1, AV.pv Ty.i p.2.2.2.2.2.2.1, AV.pv (Ty.slice YReadMark) p.2.2.2.2.2.2.2.1, AV.pv (Ty.slice (Ty.prod Ty.i (Ty.prod
  Ty.i Ty.unit))) p.2.2.2.2.2.2.2.2.1]])]⟩
def q167_X4_3 (i : q167_I4) (p : Int × Int × Int × Int × Int × Int × Int × List (Int × Int × Unit) × List (Int × Int × Unit) × Unit) : St := ⟨jn 1 (AV.ptr 0 none 0 0 :: .b (false) :: jn 135 ([])), [some (Cont.cells 6 [[AV.pv Ty.bool i.1, AV.pv (Ty.slice (Ty.slice (Ty.prod Ty.i (Ty.prod Ty.i (Ty.prod Ty.i (Ty.prod (Ty.int
  IntKind.i64) (Ty.prod Ty.i Ty.unit))))))) i.2.1, AV.pv (Ty.slice (Ty.prod Ty.i (Ty.prod Ty.i (Ty.prod Ty.i (Ty.prod Ty.i (Ty.prod Ty.i (Ty.prod
  Ty.i (Ty.prod Ty.i (Ty.prod (Ty.slice YReadMark) (Ty.prod (Ty.slice YReadMark)
  Ty.unit)))))))))) i.2.2.1, AV.pv (Ty.slice YReadMark) i.2.2.2.1, AV.pv (Ty.slice YReadMark) i.2.2.2.2.1, AV.pv (Ty.int
  IntKind.i64) i.2.2.2.2.2.1]]), some (Cont.cells 9 [[AV.pv Ty.i p.1, AV.pv Ty.i p.2.1, AV.pv Ty.i p.2.2.1, AV.pv Ty.i p.2.2.2.1, AV.pv Ty.i p.2.2.2.2.1, AV.pv
  Ty.i p.2.2.2.2.2.1, AV.pv Ty.i p.2.2.2.2.2.2.1, AV.pv (Ty.slice YReadMark) p.2.2.2.2.2.2.2.1, AV.pv (Ty.slice (Ty.prod Ty.i (Ty.prod
  Ty.i Ty.unit))) p.2.2.2.2.2.2.2.2.1]])]⟩
def q167_X4_4 (i : q167_I4) (p : Int × Int × Int × Int × Int × Int × Int × List (Int × Int × Unit) × List (Int × Int × Unit) × Unit) : St := ⟨jn 1 (AV.ptr 0 none 0 0 :: .b (false) :: jn 135 ([])), [some (Cont.cells 6 [[AV.pv Ty.bool i.1, AV.pv (Ty.slice (Ty.slice (Ty.prod Ty.i (Ty.prod Ty.i (Ty.prod Ty.i (Ty.prod (Ty.int
  IntKind.i64) (Ty.prod Ty.i Ty.unit))))))) i.2.1, AV.pv (Ty.slice (Ty.prod Ty.i (Ty.prod Ty.i (Ty.prod Ty.i (Ty.prod Ty.i (Ty.prod Ty.i (Ty.prod
  Ty.i (Ty.prod Ty.i (Ty.prod (Ty.slice YReadMark) (Ty.prod (Ty.slice YReadMark)
  Ty.unit)))))))))) i.2.2.1, AV.pv (Ty.slice YReadMark) i.2.2.2.1, AV.pv (Ty.slice YReadMark) i.2.2.2.2.1, AV.pv (Ty.int
  IntKind.i64) i.2.2.2.2.2.1]]), some (Cont.cells 9 [[AV.pv Ty.i p.1, AV.pv Ty.i p.2.1, AV.pv Ty.i p.2.2.1, AV.pv Ty.i p.2.2.2.1, AV.pv Ty.i p.2.2.2.2.1, AV.pv
  Ty.i p.2.2.2.2.2.1, AV.pv Ty.i p.2.2.2.2.2.2.1, AV.pv (Ty.slice YReadMark) p.2.2.2.2.2.2.2.1, AV.pv (Ty.slice (Ty.prod Ty.i (Ty.prod
  Ty.i Ty.unit))) p.2.2.2.2.2.2.2.2.1]])]⟩
def q167_X4_5 (i : q167_I4) (p : Int × Int × Int × Int × Int × Int × Int × List (Int × Int × Unit) × List (Int × Int × Unit) × Unit) : St := ⟨jn 1 (AV.ptr 0 none 0 0 :: .b (false) :: jn 135 ([])), [some (Cont.cells 6 [[AV.pv Ty.bool i.1, AV.pv (Ty.slice (Ty.slice (Ty.prod Ty.i (Ty.prod Ty.i (Ty.prod Ty.i (Ty.prod (Ty.int
  IntKind.i64) (Ty.prod Ty.i Ty.unit))))))) i.2.1, AV.pv (Ty.slice (Ty.prod Ty.i (Ty.prod Ty.i (Ty.prod Ty.i (Ty.prod Ty.i (Ty.prod Ty.i (Ty.prod
  Ty.i (Ty.prod Ty.i (Ty.prod (Ty.slice YReadMark) (Ty.prod (Ty.slice YReadMark)
  Ty.unit)))))))))) i.2.2.1, AV.pv (Ty.slice YReadMark) i.2.2.2.1, AV.pv (Ty.slice YReadMark) i.2.2.2.2.1, AV.pv (Ty.int
  IntKind.i64) i.2.2.2.2.2.1]]), some (Cont.cells 9 [[AV.pv Ty.i p.1, AV.pv Ty.i p.2.1, AV.pv Ty.i p.2.2.1, AV.pv Ty.i p.2.2.2.1, AV.pv Ty.i p.2.2.2.2.1, AV.pv
  Ty.i p.2.2.2.2.2.1, AV.pv Ty.i p.2.2.2.2.2.2.1, AV.pv (Ty.slice YReadMark) p.2.2.2.2.2.2.2.1, AV.pv (Ty.slice (Ty.prod Ty.i (Ty.prod
  Ty.i Ty.unit))) p.2.2.2.2.2.2.2.2.1]])]⟩
def q167_X4_6 (i : q167_I4) (p : Int × Int × Int × Int × Int × Int × Int × List (Int × Int × Unit) × List (Int × Int × Unit) × Unit) : St := ⟨jn 1 (AV.ptr 0 none 0 0 :: .b (false) :: jn 135 ([])), [some (Cont.cells 6 [[AV.pv Ty.bool i.1, AV.pv (Ty.slice (Ty.slice (Ty.prod Ty.i (Ty.prod Ty.i (Ty.prod Ty.i (Ty.prod (Ty.int
  IntKind.i64) (Ty.prod Ty.i Ty.unit))))))) i.2.1, AV.pv (Ty.slice (Ty.prod Ty.i (Ty.prod Ty.i (Ty.prod Ty.i (Ty.prod Ty.i (Ty.prod Ty.i (Ty.prod
  Ty.i (Ty.prod Ty.i (Ty.prod (Ty.slice YReadMark) (Ty.prod (Ty.slice YReadMark)
  Ty.unit)))))))))) i.2.2.1, AV.pv (Ty.slice YReadMark) i.2.2.2.1, AV.pv (Ty.slice YReadMark) i.2.2.2.2.1, AV.pv (Ty.int
  IntKind.i64) i.2.2.2.2.2.1]]), some (Cont.cells 9 [[AV.pv Ty.i p.1, AV.pv Ty.i p.2.1, AV.pv Ty.i p.2.2.1, AV.pv Ty.i p.2.2.2.1, AV.pv Ty.i p.2.2.2.2.1, AV.pv
  Ty.i p.2.2.2.2.2.1, AV.pv Ty.i p.2.2.2.2.2.2.1, AV.pv (Ty.slice YReadMark) p.2.2.2.2.2.2.2.1, AV.pv (Ty.slice (Ty.prod Ty.i (Ty.prod
  Ty.i Ty.unit))) p.2.2.2.2.2.2.2.2.1]])]⟩
def q167_X4_7 (i : q167_I4) (p : Int × Int × Int × Int × Int × Int × Int × List (Int × Int × Unit) × List (Int × Int × Unit) × Unit) : St := ⟨jn 1 (AV.ptr 0 none 0 0 :: .b (false) :: jn 135 ([])), [some (Cont.cells 6 [[AV.pv Ty.bool i.1, AV.pv (Ty.slice (Ty.slice (Ty.prod Ty.i (Ty.prod Ty.i (Ty.prod Ty.i (Ty.prod (Ty.int
  IntKind.i64) (Ty.prod Ty.i Ty.unit))))))) i.2.1, AV.pv (Ty.slice (Ty.prod Ty.i (Ty.prod Ty.i (Ty.prod Ty.i (Ty.prod Ty.i (Ty.prod Ty.i (Ty.prod
  Ty.i (Ty.prod Ty.i (Ty.prod (Ty.slice YReadMark) (Ty.prod (Ty.slice YReadMark)
  Ty.unit)))))))))) i.2.2.1, AV.pv (Ty.slice YReadMark) i.2.2.2.1, AV.pv (Ty.slice YReadMark) i.2.2.2.2.1, AV.pv (Ty.int
  IntKind.i64) i.2.2.2.2.2.1]]), some (Cont.cells 9 [[AV.pv Ty.i p.1, AV.pv Ty.i p.2.1, AV.pv Ty.i p.2.2.1, AV.pv Ty.i p.2.2.2.1, AV.pv Ty.i p.2.2.2.2.1, AV.pv
  Ty.i p.2.2.2.2.2.1, AV.pv Ty.i p.2.2.2.2.2.2.1, AV.pv (Ty.slice YReadMark) p.2.2.2.2.2.2.2.1, AV.pv (Ty.slice (Ty.prod Ty.i (Ty.prod
  Ty.i Ty.unit))) p.2.2.2.2.2.2.2.2.1]])]⟩
def q167_X4_8 (i : q167_I4) (p : Unit) : St := ⟨jn 1 (AV.ptr 0 none 0 0 :: jn 136 ([])), [some (Cont.cells 6 [[AV.pv Ty.bool i.1, AV.pv (Ty.slice (Ty.slice (Ty.prod Ty.i (Ty.prod Ty.i (Ty.prod Ty.i (Ty.prod Ty.i (Ty.prod
  Ty.i Ty.unit))))))) i.2.1, AV.pv (Ty.slice (Ty.prod Ty.i (Ty.prod Ty.i (Ty.prod Ty.i (Ty.prod Ty.i (Ty.prod Ty.i (Ty.prod Ty.i
  (Ty.prod Ty.i (Ty.prod (Ty.slice YReadMark) (Ty.prod (Ty.slice YReadMark) Ty.unit)))))))))) i.2.2.1,
  AV.pv (Ty.slice YReadMark) i.2.2.2.1, AV.pv (Ty.slice YReadMark) i.2.2.2.2.1, AV.pv Ty.i
  i.2.2.2.2.2.1]])]⟩
noncomputable def q167_E4 (i : q167_I4) (p : q167_Q4) (R : Type) (K : Ex → St → Option R) : Option R := sumC p (fun p => K (Ex.ret) (q167_X4_0 i p)) fun p => sumC p (fun p => K (Ex.ret) (q167_X4_1 i p)) fun p => sumC p (fun p => K (Ex.ret) (q167_X4_2 i p)) fun p => sumC p (fun p => K (Ex.ret) (q167_X4_3 i p)) fun p => sumC p (fun p => K (Ex.ret) (q167_X4_4 i p)) fun p => sumC p (fun p => K (Ex.ret) (q167_X4_5 i p)) fun p => sumC p (fun p => K (Ex.ret) (q167_X4_6 i p)) fun p => sumC p (fun p => K (Ex.ret) (q167_X4_7 i p)) fun p => K (Ex.exit 0) (q167_X4_8 i p)
noncomputable def q167_K4 (i : q167_I4) (p : q167_Q4) : Ex × St := sumC p (fun p => (Ex.ret, q167_X4_0 i p)) fun p => sumC p (fun p => (Ex.ret, q167_X4_1 i p)) fun p => sumC p (fun p => (Ex.ret, q167_X4_2 i p)) fun p => sumC p (fun p => (Ex.ret, q167_X4_3 i p)) fun p => sumC p (fun p => (Ex.ret, q167_X4_4 i p)) fun p => sumC p (fun p => (Ex.ret, q167_X4_5 i p)) fun p => sumC p (fun p => (Ex.ret, q167_X4_6 i p)) fun p => sumC p (fun p => (Ex.ret, q167_X4_7 i p)) fun p => (Ex.exit 0, q167_X4_8 i p)
def q167_M4 (i : q167_I4) (v : q167_V4) : den q167_T4.ty := (v.1, i.1, i.2.1, i.2.2.1, i.2.2.2.1, i.2.2.2.2.1, i.2.2.2.2.2.1, ())
def q167_P4 (x : den q167_T4.ty) : q167_I4 × q167_V4 := ((x.2.1, x.2.2.1, x.2.2.2.1, x.2.2.2.2.1, x.2.2.2.2.2.1, x.2.2.2.2.2.2.1, ()), (x.1, ()))
abbrev q167_I10 : Type := Bool × List (List (Int × Int × Int × Int × Int × Unit)) × List (Int × Int × Int × Int × Int × Int × Int × List (Int × Int × Unit) × List (Int × Int × Unit) × Unit) × List (Int × Int × Unit) × List (Int × Int × Unit) × Int × Unit
abbrev q167_V10 : Type := Int × Unit
abbrev q167_Q10 : Type := Unit ⊕ Unit
noncomputable def spec_IsValidEngine_D10 (i : q167_I10) (v : q167_V10) (R : Type) (K : q167_V10 ⊕ q167_Q10 → Option R) : Option R :=
  bif decide (v.1 < (↑(List.length i.2.2.2.1) : Int)) then Option.bind (lAt i.2.2.2.1 v.1) fun v_1 => Option.bind (spec_l13Active_S ((i.1, (i.2.1, ()), i.2.2.1, i.2.2.2.1, i.2.2.2.2.1, i.2.2.2.2.2.1, ()), v_1.2.1, ())) fun v_2 => bif !v_2.1
  then K (Sum.inr (Sum.inl ())) else K (Sum.inl (IntKind.wrap IntKind.i64 (v.1 + 1), ())) else K (Sum.inr (Sum.inr ()))
theorem spec_IsValidEngine_D10_nat : NatD spec_IsValidEngine_D10 := fun i v R K => nat_bif (nat_bind fun _ => nat_bind fun _ => nat_bif (nat_some) (nat_some)) (nat_some)
def q167_T10 : Tmpl := ⟨(.junk (.ptr 0 0 0 (jk 3 (.slot Ty.i (jk 132 .nil))))), (.cells 6 (.slot (Ty.bool) (.slot (Ty.slice (Ty.slice YVersion)) (.slot (Ty.slice (Ty.prod Ty.i (Ty.prod Ty.i (Ty.prod Ty.i (Ty.prod Ty.i (Ty.prod Ty.i (Ty.prod Ty.i (Ty.prod Ty.i (Ty.prod (Ty.slice
  YReadMark) (Ty.prod (Ty.slice YReadMark) Ty.unit)))))))))) (.slot (Ty.slice YReadMark) (.slot (Ty.slice YReadMark) (.slot Ty.i .nil)))))) .nil)⟩
def q167_X10_0 (i : q167_I10) (p : Unit) : St := ⟨jn 1 (AV.ptr 0 none 0 0 :: .b (false) :: jn 135 ([])), [some (Cont.cells 6 [[AV.pv Ty.bool i.1, AV.pv (Ty.slice (Ty.slice (Ty.prod Ty.i (Ty.prod Ty.i (Ty.prod Ty.i (Ty.prod (Ty.int
  IntKind.i64) (Ty.prod Ty.i Ty.unit))))))) i.2.1, AV.pv (Ty.slice (Ty.prod Ty.i (Ty.prod Ty.i (Ty.prod Ty.i (Ty.prod Ty.i (Ty.prod Ty.i (Ty.prod
  Ty.i (Ty.prod Ty.i (Ty.prod (Ty.slice YReadMark) (Ty.prod (Ty.slice YReadMark)
  Ty.unit)))))))))) i.2.2.1, AV.pv (Ty.slice YReadMark) i.2.2.2.1, AV.pv (Ty.slice YReadMark) i.2.2.2.2.1, AV.pv (Ty.int
  IntKind.i64) i.2.2.2.2.2.1]])]⟩
def q167_X10_1 (i : q167_I10) (p : Unit) : St := ⟨jn 1 (AV.ptr 0 none 0 0 :: jn 136 ([])), [some (Cont.cells 6 [[AV.pv Ty.bool i.1, AV.pv (Ty.slice (Ty.slice (Ty.prod Ty.i (Ty.prod Ty.i (Ty.prod Ty.i (Ty.prod Ty.i (Ty.prod
  Ty.i Ty.unit))))))) i.2.1, AV.pv (Ty.slice (Ty.prod Ty.i (Ty.prod Ty.i (Ty.prod Ty.i (Ty.prod Ty.i (Ty.prod Ty.i (Ty.prod Ty.i
  (Ty.prod Ty.i (Ty.prod (Ty.slice YReadMark) (Ty.prod (Ty.slice YReadMark) Ty.unit)))))))))) i.2.2.1,
  AV.pv (Ty.slice YReadMark) i.2.2.2.1, AV.pv (Ty.slice YReadMark) i.2.2.2.2.1, AV.pv Ty.i
  i.2.2.2.2.2.1]])]⟩
noncomputable def q167_E10 (i : q167_I10) (p : q167_Q10) (R : Type) (K : Ex → St → Option R) : Option R := sumC p (fun p => K (Ex.ret) (q167_X10_0 i p)) fun p => K (Ex.exit 2) (q167_X10_1 i p)
noncomputable def q167_K10 (i : q167_I10) (p : q167_Q10) : Ex × St := sumC p (fun p => (Ex.ret, q167_X10_0 i p)) fun p => (Ex.exit 2, q167_X10_1 i p)
def q167_M10 (i : q167_I10) (v : q167_V10) : den q167_T10.ty := (v.1, i.1, i.2.1, i.2.2.1, i.2.2.2.1, i.2.2.2.2.1, i.2.2.2.2.2.1, ())
def q167_P10 (x : den q167_T10.ty) : q167_I10 × q167_V10 := ((x.2.1, x.2.2.1, x.2.2.2.1, x.2.2.2.2.1, x.2.2.2.2.2.1, x.2.2.2.2.2.2.1, ()), (x.1, ()))
abbrev q167_I15 : Type := Bool × List (List (Int × Int × Int × Int × Int × Unit)) × List (Int × Int × Int × Int × Int × Int × Int × List (Int × Int × Unit) × List (Int × Int × Unit) × Unit) × List (Int × Int × Unit) × List (Int × Int × Unit) × Int × Unit
abbrev q167_V15 : Type := Int × Unit
abbrev q167_Q15 : Type := Unit ⊕ Unit ⊕ Unit
noncomputable def spec_IsValidEngine_D15 (i : q167_I15) (v : q167_V15) (R : Type) (K : q167_V15 ⊕ q167_Q15 → Option R) : Option R :=
  bif decide (v.1 < (↑(List.length i.2.2.2.2.1) : Int)) then Option.bind (lAt i.2.2.2.2.1 v.1) fun v_1 => Option.bind (spec_l13Active_S ((i.1, (i.2.1, ()), i.2.2.1, i.2.2.2.1, i.2.2.2.2.1, i.2.2.2.2.2.1, ()), v_1.1, ())) fun v_2 => bif !v_2.1
  then K (Sum.inr (Sum.inl ())) else Option.bind (lAt i.2.2.2.2.1 v.1) fun v_3 => Option.bind (spec_l13Active_S ((i.1, (i.2.1, ()), i.2.2.1, i.2.2.2.1, i.2.2.2.2.1, i.2.2.2.2.2.1, ()), v_3.2.1, ())) fun v_4 => bif !v_4.1 then K (Sum.inr
  (Sum.inr (Sum.inl ()))) else K (Sum.inl (IntKind.wrap IntKind.i64 (v.1 + 1), ())) else K (Sum.inr (Sum.inr (Sum.inr ())))
theorem spec_IsValidEngine_D15_nat : NatD spec_IsValidEngine_D15 := fun i v R K => nat_bif (nat_bind fun _ => nat_bind fun _ => nat_bif (nat_some) (nat_bind fun _ => nat_bind fun _ => nat_bif (nat_some) (nat_some))) (nat_some)
def q167_T15 : Tmpl := ⟨(.junk (.ptr 0 0 0 (jk 4 (.slot Ty.i (jk 131 .nil))))), (.cells 6 (.slot (Ty.bool) (.slot (Ty.slice (Ty.slice YVersion)) (.slot (Ty.slice (Ty.prod Ty.i (Ty.prod Ty.i (Ty.prod Ty.i (Ty.prod Ty.i (Ty.prod Ty.i (Ty.prod Ty.i (Ty.prod Ty.i (Ty.prod (Ty.slice
  YReadMark) (Ty.prod (Ty.slice YReadMark) Ty.unit)))))))))) (.slot (Ty.slice YReadMark) (.slot (Ty.slice YReadMark) (.slot Ty.i .nil)))))) .nil)⟩
def q167_X15_0 (i : q167_I15) (p : Unit) : St := ⟨jn 2 (.b (false) :: jn 135 ([])), [some (Cont.cells 6 [[AV.pv Ty.bool i.1, AV.pv (Ty.slice (Ty.slice (Ty.prod Ty.i (Ty.prod Ty.i (Ty.prod Ty.i (Ty.prod Ty.i (Ty.prod (Ty.int
  IntKind.i64) Ty.unit))))))) i.2.1, AV.pv (Ty.slice (Ty.prod Ty.i (Ty.prod Ty.i (Ty.prod Ty.i (Ty.prod Ty.i (Ty.prod Ty.i (Ty.prod Ty.i (Ty.prod
  Ty.i (Ty.prod (Ty.slice YReadMark) (Ty.prod (Ty.slice YReadMark) Ty.unit)))))))))) i.2.2.1, AV.pv
  (Ty.slice YReadMark) i.2.2.2.1, AV.pv (Ty.slice YReadMark) i.2.2.2.2.1, AV.pv Ty.i i.2.2.2.2.2.1]])]⟩
def q167_X15_1 (i : q167_I15) (p : Unit) : St := ⟨jn 2 (.b (false) :: jn 135 ([])), [some (Cont.cells 6 [[AV.pv Ty.bool i.1, AV.pv (Ty.slice (Ty.slice (Ty.prod Ty.i (Ty.prod Ty.i (Ty.prod Ty.i (Ty.prod Ty.i (Ty.prod (Ty.int
  IntKind.i64) Ty.unit))))))) i.2.1, AV.pv (Ty.slice (Ty.prod Ty.i (Ty.prod Ty.i (Ty.prod Ty.i (Ty.prod Ty.i (Ty.prod Ty.i (Ty.prod Ty.i (Ty.prod
  Ty.i (Ty.prod (Ty.slice YReadMark) (Ty.prod (Ty.slice YReadMark) Ty.unit)))))))))) i.2.2.1, AV.pv
  (Ty.slice YReadMark) i.2.2.2.1, AV.pv (Ty.slice YReadMark) i.2.2.2.2.1, AV.pv Ty.i i.2.2.2.2.2.1]])]⟩
def q167_X15_2 (i : q167_I15) (p : Unit) : St := ⟨jn 138 ([]), [some (Cont.cells 6 [[AV.pv Ty.bool i.1, AV.pv (Ty.slice (Ty.slice (Ty.prod Ty.i (Ty.prod Ty.i (Ty.prod Ty.i (Ty.prod Ty.i (Ty.prod Ty.i
  Ty.unit))))))) i.2.1, AV.pv (Ty.slice (Ty.prod Ty.i (Ty.prod Ty.i (Ty.prod Ty.i (Ty.prod Ty.i (Ty.prod Ty.i (Ty.prod Ty.i (Ty.prod (Ty.int
  IntKind.i64) (Ty.prod (Ty.slice YReadMark) (Ty.prod (Ty.slice YReadMark) Ty.unit)))))))))) i.2.2.1, AV.pv (Ty.slice
  YReadMark) i.2.2.2.1, AV.pv (Ty.slice YReadMark) i.2.2.2.2.1, AV.pv Ty.i i.2.2.2.2.2.1]])]⟩
noncomputable def q167_E15 (i : q167_I15) (p : q167_Q15) (R : Type) (K : Ex → St → Option R) : Option R := sumC p (fun p => K (Ex.ret) (q167_X15_0 i p)) fun p => sumC p (fun p => K (Ex.ret) (q167_X15_1 i p)) fun p => K (Ex.exit 4) (q167_X15_2 i p)
noncomputable def q167_K15 (i : q167_I15) (p : q167_Q15) : Ex × St := sumC p (fun p => (Ex.ret, q167_X15_0 i p)) fun p => sumC p (fun p => (Ex.ret, q167_X15_1 i p)) fun p => (Ex.exit 4, q167_X15_2 i p)
def q167_M15 (i : q167_I15) (v : q167_V15) : den q167_T15.ty := (v.1, i.1, i.2.1, i.2.2.1, i.2.2.2.1, i.2.2.2.2.1, i.2.2.2.2.2.1, ())
def q167_P15 (x : den q167_T15.ty) : q167_I15 × q167_V15 := ((x.2.1, x.2.2.1, x.2.2.2.1, x.2.2.2.2.1, x.2.2.2.2.2.1, x.2.2.2.2.2.2.1, ()), (x.1, ()))
noncomputable def q167_C : Cfg := { ti := g_tis, ents := [q159_Ent, q160_Ent, q161_Ent, q162_Ent, q11_Ent, q13_Ent, q164_Ent, q166_Ent], ann := [(4, loopFn q167_T4 0 q167_P4 spec_IsValidEngine_D4 q167_E4), (10, loopFn q167_T10 0 q167_P10 spec_IsValidEngine_D10 q167_E10), (15, loopFn q167_T15 0 q167_P15 spec_IsValidEngine_D15 q167_E15)], lent := 0 }
def q167_ti : Tmpl := ⟨(.slot (Ty.prod Ty.bool (Ty.prod YStore (Ty.prod
  (Ty.slice (Ty.prod Ty.i (Ty.prod Ty.i (Ty.prod Ty.i (Ty.prod Ty.i (Ty.prod Ty.i (Ty.prod Ty.i (Ty.prod Ty.i (Ty.prod (Ty.slice
  YReadMark) (Ty.prod (Ty.slice YReadMark) Ty.unit)))))))))) (Ty.prod (Ty.slice (Ty.prod Ty.i (Ty.prod
  Ty.i Ty.unit))) (Ty.prod (Ty.slice YReadMark) (Ty.prod Ty.i Ty.unit)))))) .nil), .nil⟩
def q167_to : Tmpl := ⟨(.slot (Ty.bool) .nil), .nil⟩
noncomputable def spec_IsValidEngine_S (x : (Bool × (List (List (Int × Int × Int × Int × Int × Unit)) × Unit) × List (Int × Int × Int × Int × Int × Int × Int × List (Int × Int × Unit) × List (Int × Int × Unit) × Unit) × List (Int × Int × Unit) × List (Int × Int × Unit) × Int × Unit) ×
  Unit) : Option (Bool × Unit) :=
  Option.bind (spec_IsValidStore_S ((x.1.2.1.1, ()), ())) fun v => bif !v.1 then some (false, ()) else Option.bind (spec_AreLocks_S (x.1.2.2.2.1, ())) fun v => bif !v.1 then some (false, ()) else Option.bind (spec_AreWaits_S (x.1.2.2.2.2.1,
  ())) fun v => bif !v.1 then some (false, ()) else Option.bind (spec_LastStamp_S ((x.1.2.1.1, ()), ())) fun v => Option.bind (spec_l1In_S (x.1.2.2.2.2.2.1, v.1, 999, ())) fun v => bif !v.1 then some (false, ()) else bif decide ((↑(List.length
  x.1.2.2.1) : Int) > 6) then some (false, ()) else Option.bind (iter (fun v => spec_IsValidEngine_D4 (x.1.1, x.1.2.1.1, x.1.2.2.1, x.1.2.2.2.1, x.1.2.2.2.2.1, x.1.2.2.2.2.2.1, ()) v _ some) (0, ())) fun p => sumC p (fun p => some
  (false, ())) fun p => sumC p (fun p => some (false, ())) fun p => sumC p (fun p => some (false, ())) fun p => sumC p (fun p => some (false, ())) fun p => sumC p (fun p => some (false, ())) fun p => sumC p (fun p => some (false, ())) fun p =>
  sumC p (fun p => some (false, ())) fun p => sumC p (fun p => some (false, ())) fun p => Option.bind (iter (fun v => spec_IsValidEngine_D10 (x.1.1, x.1.2.1.1, x.1.2.2.1, x.1.2.2.2.1, x.1.2.2.2.2.1, x.1.2.2.2.2.2.1, ()) v _ some) (0,
  ())) fun p => sumC p (fun p => some (false, ())) fun p => Option.bind (iter (fun v => spec_IsValidEngine_D15 (x.1.1, x.1.2.1.1, x.1.2.2.1, x.1.2.2.2.1, x.1.2.2.2.2.1, x.1.2.2.2.2.2.1, ()) v _ some) (0, ())) fun p => sumC p (fun p
  => some (false, ())) fun p => sumC p (fun p => some (false, ())) fun p => some (true, ())
noncomputable def q167_Ent : Ent := ⟨118, q167_ti, q167_to, spec_IsValidEngine_S⟩
theorem q167_HC : CfgOK Tryz.prog q167_C := hc_of g_tisOK g_wide (all_cons q159_OK (all_cons q160_OK (all_cons q161_OK (all_cons q162_OK (all_cons q11_OK (all_cons q13_OK (all_cons q164_OK (all_cons q166_OK all_nil))))))))
theorem q167_lk15 : LkOK Tryz.prog q167_C (lpc Tryz.f118 2) :=
  lk_of q167_HC (m := 0) (T := q167_T15) (sp := q167_P15) (D := spec_IsValidEngine_D15) (E := q167_E15) (by kernel_rfl) (by kernel_rfl) (fun k hk => absurd hk (Nat.not_lt_zero k)) [2] q167_M15 (fun x => rfl) spec_IsValidEngine_D15_nat q167_K15 (fun i p R K => by rcases p with p | p | p <;> rfl) (fun i v => by kernel_rfl)
theorem q167_lk10 : LkOK Tryz.prog q167_C (lpc Tryz.f118 1) :=
  lk_of q167_HC (m := 0) (T := q167_T10) (sp := q167_P10) (D := spec_IsValidEngine_D10) (E := q167_E10) (by kernel_rfl) (by kernel_rfl) (fun k hk => absurd hk (Nat.not_lt_zero k)) [1, 2] q167_M10 (fun x => rfl) spec_IsValidEngine_D10_nat q167_K10 (fun i p R K => by rcases p with p | p <;> rfl) (fun i v => by kernel_rfl)
theorem q167_lk4 : LkOK Tryz.prog q167_C (lpc Tryz.f118 0) :=
  lk_of q167_HC (m := 0) (T := q167_T4) (sp := q167_P4) (D := spec_IsValidEngine_D4) (E := q167_E4) (by kernel_rfl) (by kernel_rfl) (fun k hk => absurd hk (Nat.not_lt_zero k)) [1, 2] q167_M4 (fun x => rfl) spec_IsValidEngine_D4_nat q167_K4 (fun i p R K => by rcases p with p | p | p | p | p | p | p | p | p <;> rfl) (fun i v => by kernel_rfl)
theorem q167_OK : EntOK Tryz.prog q167_Ent := ok_of q167_HC Tryz.func118 3 (by kernel_rfl) (fun k hk => match k, hk with | 0, _ => q167_lk4 | 1, _ => q167_lk10 | 2, _ => q167_lk15) (by kernel_rfl) (by kernel_rfl) (fun x => by kernel_rfl)
noncomputable def q168_C : Cfg := { ti := g_tis, ents := [], ann := [], lent := 0 }
def q168_ti : Tmpl := ⟨(.slot (Ty.prod Ty.i (Ty.prod Ty.i (Ty.prod (Ty.slice YReadMark) (Ty.prod (Ty.slice YReadMark)
  Ty.unit)))) .nil), .nil⟩
def q168_to : Tmpl := ⟨(.agg (.slot Ty.i (.slot Ty.i (.own 0 (.own 1 .nil)))) .nil), (.lst false YReadMark (.lst false YReadMark .nil))⟩
noncomputable def spec_l18Copy_S (x : (Int × Int × List (Int × Int × Unit) × List (Int × Int × Unit) × Unit) × Unit) : Option (Int × Int × List (Int × Int × Unit) × List (Int × Int × Unit) × Unit) :=
  if List.length x.1.2.2.1 ≤ 2199023255552 then if List.length x.1.2.2.2.1 ≤ 2199023255552 then some (x.1.1, x.1.2.1, x.1.2.2.1, x.1.2.2.2.1, ()) else none else none
noncomputable def q168_Ent : Ent := ⟨180, q168_ti, q168_to, spec_l18Copy_S⟩
theorem q168_HC : CfgOK Tryz.prog q168_C := hc_of g_tisOK g_wide all_nil
theorem q168_OK : EntOK Tryz.prog q168_Ent := ok_of q168_HC Tryz.func180 0 (by kernel_rfl) (fun k hk => absurd hk (Nat.not_lt_zero k)) (by kernel_rfl) (by kernel_rfl) (fun x => by kernel_rfl)
abbrev q169_I8 : Type := Int × Bool × List (List (Int × Int × Int × Int × Int × Unit)) × List (Int × Int × Int × Int × Int × Int × Int × List (Int × Int × Unit) × List (Int × Int × Unit) × Unit) × List (Int × Int × Unit) × List (Int × Int × Unit) × Int × Unit
abbrev q169_V8 : Type := Int × List (Int × Int × List (Int × Int × Unit) × List (Int × Int × Unit) × Unit) × Unit
abbrev q169_Q8 : Type := List (Int × Int × List (Int × Int × Unit) × List (Int × Int × Unit) × Unit) × Unit
noncomputable def spec_HistoryOf_D8 (i : q169_I8) (v : q169_V8) (R : Type) (K : q169_V8 ⊕ q169_Q8 → Option R) : Option R :=
  bif decide (v.1 < (↑(List.length i.2.2.2.1) : Int)) then Option.bind (lAt i.2.2.2.1 v.1) fun v_1 => bif v_1.2.2.1 == 2 then bif v_1.2.2.2.2.2.2.1 == i.1 then Option.bind (spec_l18Copy_S ((v_1.1, i.1, v_1.2.2.2.2.2.2.2.1,
  v_1.2.2.2.2.2.2.2.2.1, ()), ())) fun v_2 => if List.length (v.2.1 ++ [(v_2.1, v_2.2.1, v_2.2.2.1, v_2.2.2.2.1, ())]) ≤ 549755813888 then K (Sum.inl (IntKind.wrap IntKind.i64 (v.1 + 1), v.2.1 ++ [(v_2.1, v_2.2.1, v_2.2.2.1, v_2.2.2.2.1, ())],
  ())) else none else K (Sum.inl (IntKind.wrap IntKind.i64 (v.1 + 1), v.2.1, ())) else K (Sum.inl (IntKind.wrap IntKind.i64 (v.1 + 1), v.2.1, ())) else K (Sum.inr (v.2.1, ()))
theorem spec_HistoryOf_D8_nat : NatD spec_HistoryOf_D8 := fun i v R K => nat_bif (nat_bind fun _ => nat_bif (nat_bif (nat_bind fun _ => nat_ite (nat_some)) (nat_some)) (nat_some)) (nat_some)
def q169_T8 : Tmpl := ⟨(.junk (.ptr 0 0 0 (.junk (.own 1 (.slot Ty.i (.slot Ty.i (jk 46 .nil))))))), (.cells 6 (.slot (Ty.bool) (.slot (Ty.slice (Ty.slice YVersion)) (.slot (Ty.slice (Ty.prod Ty.i (Ty.prod Ty.i (Ty.prod Ty.i (Ty.prod Ty.i (Ty.prod Ty.i (Ty.prod Ty.i (Ty.prod Ty.i (Ty.prod (Ty.slice
  YReadMark) (Ty.prod (Ty.slice YReadMark) Ty.unit)))))))))) (.slot (Ty.slice YReadMark) (.slot (Ty.slice YReadMark) (.slot Ty.i .nil)))))) (.tree false 0 (Ty.prod Ty.i (Ty.prod Ty.i (Ty.prod (Ty.slice YReadMark) (Ty.prod (Ty.slice YReadMark)
  Ty.unit)))) .nil))⟩
def q169_X8_0 (i : q169_I8) (p : List (Int × Int × List (Int × Int × Unit) × List (Int × Int × Unit) × Unit) × Unit) : St := ⟨jn 1 (AV.ptr 0 none 0 0 :: jn 1 (AV.own 1 none none :: .n (i.1) :: jn 47 ([]))), [some (Cont.cells 6 [[AV.pv Ty.bool i.2.1, AV.pv (Ty.slice (Ty.slice (Ty.prod Ty.i (Ty.prod Ty.i (Ty.prod Ty.i
  YReadMark))))) i.2.2.1, AV.pv (Ty.slice (Ty.prod Ty.i (Ty.prod Ty.i (Ty.prod Ty.i (Ty.prod Ty.i (Ty.prod (Ty.int
  IntKind.i64) (Ty.prod Ty.i (Ty.prod Ty.i (Ty.prod (Ty.slice YReadMark) (Ty.prod (Ty.slice (Ty.prod Ty.i (Ty.prod Ty.i
  Ty.unit))) Ty.unit)))))))))) i.2.2.2.1, AV.pv (Ty.slice YReadMark) i.2.2.2.2.1, AV.pv (Ty.slice YReadMark) i.2.2.2.2.2.1,
  AV.pv Ty.i i.2.2.2.2.2.2.1]]), some (Cont.tree false 0 (Ty.prod Ty.i (Ty.prod Ty.i (Ty.prod (Ty.slice YReadMark) (Ty.prod (Ty.slice
  YReadMark) Ty.unit)))) p.1 none)]⟩
noncomputable def q169_E8 (i : q169_I8) (p : q169_Q8) (R : Type) (K : Ex → St → Option R) : Option R := K (Ex.exit 2) (q169_X8_0 i p)
noncomputable def q169_K8 (i : q169_I8) (p : q169_Q8) : Ex × St := (Ex.exit 2, q169_X8_0 i p)
def q169_M8 (i : q169_I8) (v : q169_V8) : den q169_T8.ty := (i.1, v.1, i.2.1, i.2.2.1, i.2.2.2.1, i.2.2.2.2.1, i.2.2.2.2.2.1, i.2.2.2.2.2.2.1, v.2.1, ())
def q169_P8 (x : den q169_T8.ty) : q169_I8 × q169_V8 := ((x.1, x.2.2.1, x.2.2.2.1, x.2.2.2.2.1, x.2.2.2.2.2.1, x.2.2.2.2.2.2.1, x.2.2.2.2.2.2.2.1, ()), (x.2.1, x.2.2.2.2.2.2.2.2.1, ()))
abbrev q169_I5 : Type := Bool × List (List (Int × Int × Int × Int × Int × Unit)) × List (Int × Int × Int × Int × Int × Int × Int × List (Int × Int × Unit) × List (Int × Int × Unit) × Unit) × List (Int × Int × Unit) × List (Int × Int × Unit) × Int × Unit
abbrev q169_V5 : Type := Int × List (Int × Int × List (Int × Int × Unit) × List (Int × Int × Unit) × Unit) × Unit
abbrev q169_Q5 : Type := List (Int × Int × List (Int × Int × Unit) × List (Int × Int × Unit) × Unit) × Unit
noncomputable def spec_HistoryOf_D5 (i : q169_I5) (v : q169_V5) (R : Type) (K : q169_V5 ⊕ q169_Q5 → Option R) : Option R :=
  bif decide (v.1 ≤ i.2.2.2.2.2.1) then Option.bind (iter (fun v_1 => spec_HistoryOf_D8 (v.1, i.1, i.2.1, i.2.2.1, i.2.2.2.1, i.2.2.2.2.1, i.2.2.2.2.2.1, ()) v_1 _ some) (0, v.2.1, ())) fun p => K (Sum.inl (IntKind.wrap IntKind.i64
  (v.1 + 1), p.1, ())) else K (Sum.inr (v.2.1, ()))
theorem spec_HistoryOf_D5_nat : NatD spec_HistoryOf_D5 := fun i v R K => nat_bif (nat_bind fun _ => nat_some) (nat_some)
def q169_T5 : Tmpl := ⟨(.junk (.ptr 0 0 0 (.junk (.own 1 (.slot Ty.i (jk 47 .nil)))))), (.cells 6 (.slot (Ty.bool) (.slot (Ty.slice (Ty.slice YVersion)) (.slot (Ty.slice (Ty.prod Ty.i (Ty.prod Ty.i (Ty.prod Ty.i (Ty.prod Ty.i (Ty.prod Ty.i (Ty.prod Ty.i (Ty.prod Ty.i (Ty.prod (Ty.slice
  YReadMark) (Ty.prod (Ty.slice YReadMark) Ty.unit)))))))))) (.slot (Ty.slice YReadMark) (.slot (Ty.slice YReadMark) (.slot Ty.i .nil)))))) (.tree false 0 (Ty.prod Ty.i (Ty.prod Ty.i (Ty.prod (Ty.slice YReadMark) (Ty.prod (Ty.slice YReadMark)
  Ty.unit)))) .nil))⟩
def q169_X5_0 (i : q169_I5) (p : List (Int × Int × List (Int × Int × Unit) × List (Int × Int × Unit) × Unit) × Unit) : St := ⟨jn 3 (AV.own 1 none none :: jn 48 ([])), [some (Cont.cells 6 [[AV.pv Ty.bool i.1, AV.pv (Ty.slice (Ty.slice (Ty.prod Ty.i (Ty.prod Ty.i (Ty.prod Ty.i (Ty.prod Ty.i (Ty.prod
  Ty.i Ty.unit))))))) i.2.1, AV.pv (Ty.slice (Ty.prod Ty.i (Ty.prod Ty.i (Ty.prod Ty.i (Ty.prod Ty.i (Ty.prod Ty.i (Ty.prod Ty.i
  (Ty.prod Ty.i (Ty.prod (Ty.slice YReadMark) (Ty.prod (Ty.slice YReadMark) Ty.unit)))))))))) i.2.2.1,
  AV.pv (Ty.slice YReadMark) i.2.2.2.1, AV.pv (Ty.slice YReadMark) i.2.2.2.2.1, AV.pv Ty.i
  i.2.2.2.2.2.1]]), some (Cont.tree false 0 (Ty.prod Ty.i (Ty.prod Ty.i (Ty.prod (Ty.slice YReadMark) (Ty.prod (Ty.slice (Ty.prod Ty.i
  (Ty.prod Ty.i Ty.unit))) Ty.unit)))) p.1 none)]⟩
noncomputable def q169_E5 (i : q169_I5) (p : q169_Q5) (R : Type) (K : Ex → St → Option R) : Option R := K (Ex.exit 0) (q169_X5_0 i p)
noncomputable def q169_K5 (i : q169_I5) (p : q169_Q5) : Ex × St := (Ex.exit 0, q169_X5_0 i p)
def q169_M5 (i : q169_I5) (v : q169_V5) : den q169_T5.ty := (v.1, i.1, i.2.1, i.2.2.1, i.2.2.2.1, i.2.2.2.2.1, i.2.2.2.2.2.1, v.2.1, ())
def q169_P5 (x : den q169_T5.ty) : q169_I5 × q169_V5 := ((x.2.1, x.2.2.1, x.2.2.2.1, x.2.2.2.2.1, x.2.2.2.2.2.1, x.2.2.2.2.2.2.1, ()), (x.1, x.2.2.2.2.2.2.2.1, ()))
noncomputable def q169_C : Cfg := { ti := g_tis, ents := [q167_Ent, q168_Ent], ann := [(8, loopFn q169_T8 0 q169_P8 spec_HistoryOf_D8 q169_E8), (5, loopFn q169_T5 0 q169_P5 spec_HistoryOf_D5 q169_E5)], lent := 0 }
def q169_ti : Tmpl := ⟨(.slot (Ty.prod Ty.bool (Ty.prod YStore (Ty.prod
  (Ty.slice (Ty.prod Ty.i (Ty.prod Ty.i (Ty.prod Ty.i (Ty.prod Ty.i (Ty.prod Ty.i (Ty.prod Ty.i (Ty.prod Ty.i (Ty.prod (Ty.slice
  YReadMark) (Ty.prod (Ty.slice YReadMark) Ty.unit)))))))))) (Ty.prod (Ty.slice (Ty.prod Ty.i (Ty.prod
  Ty.i Ty.unit))) (Ty.prod (Ty.slice YReadMark) (Ty.prod Ty.i Ty.unit)))))) .nil), .nil⟩
def q169_to : Tmpl := ⟨(.own 0 .nil), (.tree false 0 (Ty.prod Ty.i (Ty.prod Ty.i (Ty.prod (Ty.slice YReadMark) (Ty.prod (Ty.slice YReadMark)
  Ty.unit)))) .nil)⟩
noncomputable def spec_HistoryOf_S (x : (Bool × (List (List (Int × Int × Int × Int × Int × Unit)) × Unit) × List (Int × Int × Int × Int × Int × Int × Int × List (Int × Int × Unit) × List (Int × Int × Unit) × Unit) × List (Int × Int × Unit) × List (Int × Int × Unit) × Int × Unit) ×
  Unit) : Option (List (Int × Int × List (Int × Int × Unit) × List (Int × Int × Unit) × Unit) × Unit) :=
  Option.bind (spec_IsValidEngine_S ((x.1.1, (x.1.2.1.1, ()), x.1.2.2.1, x.1.2.2.2.1, x.1.2.2.2.2.1, x.1.2.2.2.2.2.1, ()), ())) fun v => bif !v.1 then some ([], ()) else Option.bind (iter (fun v => spec_HistoryOf_D5 (x.1.1, x.1.2.1.1,
  x.1.2.2.1, x.1.2.2.2.1, x.1.2.2.2.2.1, x.1.2.2.2.2.2.1, ()) v _ some) (1, [], ())) fun p => some (p.1, ())
noncomputable def q169_Ent : Ent := ⟨88, q169_ti, q169_to, spec_HistoryOf_S⟩
theorem q169_HC : CfgOK Tryz.prog q169_C := hc_of g_tisOK g_wide (all_cons q167_OK (all_cons q168_OK all_nil))
theorem q169_lk8 : LkOK Tryz.prog q169_C (lpc Tryz.f88 1) :=
  lk_of q169_HC (m := 0) (T := q169_T8) (sp := q169_P8) (D := spec_HistoryOf_D8) (E := q169_E8) (by kernel_rfl) (by kernel_rfl) (fun k hk => absurd hk (Nat.not_lt_zero k)) [1, 3, 4] q169_M8 (fun x => rfl) spec_HistoryOf_D8_nat q169_K8 (fun i p R K => rfl) (fun i v => by kernel_rfl)
theorem q169_lk5 : LkOK Tryz.prog q169_C (lpc Tryz.f88 0) :=
  lk_of q169_HC (m := 1) (T := q169_T5) (sp := q169_P5) (D := spec_HistoryOf_D5) (E := q169_E5) (by kernel_rfl) (by kernel_rfl) (fun k hk => match k, hk with | 0, _ => lk_at (by kernel_rfl) q169_lk8) [3] q169_M5 (fun x => rfl) spec_HistoryOf_D5_nat q169_K5 (fun i p R K => rfl) (fun i v => by kernel_rfl)
theorem q169_OK : EntOK Tryz.prog q169_Ent := ok_of q169_HC Tryz.func88 2 (by kernel_rfl) (fun k hk => match k, hk with | 0, _ => q169_lk5 | 1, _ => q169_lk8) (by kernel_rfl) (by kernel_rfl) (fun x => by kernel_rfl)
abbrev q170_I4 : Type := List (Int × Int × List (Int × Int × Unit) × List (Int × Int × Unit) × Unit) × List (Int × Int × Int × Int × Unit) × Unit
abbrev q170_V4 : Type := Int × List (Int × Int × Int × Int × Unit) × Unit
abbrev q170_Q4 : Type := List (Int × Int × Int × Int × Unit) × Unit
noncomputable def spec_BackEdges_D4 (i : q170_I4) (v : q170_V4) (R : Type) (K : q170_V4 ⊕ q170_Q4 → Option R) : Option R :=
  bif decide (v.1 < (↑(List.length i.2.1) : Int)) then Option.bind (lAt i.2.1 v.1) fun v_1 => Option.bind (spec_FindEntry_S (i.1, v_1.2.1, ())) fun v_2 => Option.bind (lAt i.1 v_2.1) fun v_3 => Option.bind (lAt i.2.1 v.1) fun v_4 =>
  Option.bind (spec_FindEntry_S (i.1, v_4.1, ())) fun v_5 => Option.bind (lAt i.1 v_5.1) fun v_6 => bif decide (v_3.2.1 < v_6.2.1) then Option.bind (lAt i.2.1 v.1) fun v_7 => if List.length (v.2.1 ++ [(v_7.1, v_7.2.1, v_7.2.2.1, v_7.2.2.2.1,
  ())]) ≤ 1099511627776 then K (Sum.inl (IntKind.wrap IntKind.i64 (v.1 + 1), v.2.1 ++ [(v_7.1, v_7.2.1, v_7.2.2.1, v_7.2.2.2.1, ())], ())) else none else K (Sum.inl (IntKind.wrap IntKind.i64 (v.1 + 1), v.2.1, ())) else K (Sum.inr (v.2.1, ()))
theorem spec_BackEdges_D4_nat : NatD spec_BackEdges_D4 := fun i v R K => nat_bif (nat_bind fun _ => nat_bind fun _ => nat_bind fun _ => nat_bind fun _ => nat_bind fun _ => nat_bind fun _ => nat_bif (nat_bind fun _ => nat_ite (nat_some)) (nat_some)) (nat_some)
def q170_T4 : Tmpl := ⟨(.slot (Ty.slice (Ty.prod Ty.i (Ty.prod Ty.i (Ty.prod (Ty.slice YReadMark) (Ty.prod (Ty.slice (Ty.prod Ty.i (Ty.prod Ty.i
  Ty.unit))) Ty.unit))))) (jk 2 (.own 0 (.slot (Ty.slice YEdge) (.slot Ty.i (jk 40 .nil)))))), (.lst false YEdge .nil)⟩
def q170_X4_0 (i : q170_I4) (p : List (Int × Int × Int × Int × Unit) × Unit) : St := ⟨jn 3 (AV.own 0 none none :: jn 42 ([])), [some (Cont.lst false YEdge p.1)]⟩
noncomputable def q170_E4 (i : q170_I4) (p : q170_Q4) (R : Type) (K : Ex → St → Option R) : Option R := K (Ex.exit 0) (q170_X4_0 i p)
noncomputable def q170_K4 (i : q170_I4) (p : q170_Q4) : Ex × St := (Ex.exit 0, q170_X4_0 i p)
def q170_M4 (i : q170_I4) (v : q170_V4) : den q170_T4.ty := (i.1, i.2.1, v.1, v.2.1, ())
def q170_P4 (x : den q170_T4.ty) : q170_I4 × q170_V4 := ((x.1, x.2.1, ()), (x.2.2.1, x.2.2.2.1, ()))
noncomputable def q170_C : Cfg := { ti := g_tis, ents := [q20_Ent, q14_Ent], ann := [(4, loopFn q170_T4 0 q170_P4 spec_BackEdges_D4 q170_E4)], lent := 0 }
def q170_ti : Tmpl := ⟨(.slot (Ty.slice (Ty.prod Ty.i (Ty.prod Ty.i (Ty.prod (Ty.slice YReadMark) (Ty.prod (Ty.slice (Ty.prod Ty.i (Ty.prod Ty.i
  Ty.unit))) Ty.unit))))) .nil), .nil⟩
def q170_to : Tmpl := ⟨(.own 0 .nil), (.lst false YEdge .nil)⟩
noncomputable def spec_BackEdges_S (x : List (Int × Int × List (Int × Int × Unit) × List (Int × Int × Unit) × Unit) × Unit) : Option (List (Int × Int × Int × Int × Unit) × Unit) :=
  Option.bind (spec_BuildGraph_S (x.1, ())) fun v => Option.bind (iter (fun v_1 => spec_BackEdges_D4 (x.1, v.1, ()) v_1 _ some) (0, [], ())) fun p => some (p.1, ())
noncomputable def q170_Ent : Ent := ⟨87, q170_ti, q170_to, spec_BackEdges_S⟩
theorem q170_HC : CfgOK Tryz.prog q170_C := hc_of g_tisOK g_wide (all_cons q20_OK (all_cons q14_OK all_nil))
theorem q170_lk4 : LkOK Tryz.prog q170_C (lpc Tryz.f87 0) :=
  lk_of q170_HC (m := 0) (T := q170_T4) (sp := q170_P4) (D := spec_BackEdges_D4) (E := q170_E4) (by kernel_rfl) (by kernel_rfl) (fun k hk => absurd hk (Nat.not_lt_zero k)) [3] q170_M4 (fun x => rfl) spec_BackEdges_D4_nat q170_K4 (fun i p R K => rfl) (fun i v => by kernel_rfl)
theorem q170_OK : EntOK Tryz.prog q170_Ent := ok_of q170_HC Tryz.func87 1 (by kernel_rfl) (fun k hk => match k, hk with | 0, _ => q170_lk4) (by kernel_rfl) (by kernel_rfl) (fun x => by kernel_rfl)
noncomputable def q171_C : Cfg := { ti := g_tis, ents := [q169_Ent, q170_Ent], ann := [], lent := 0 }
def q171_ti : Tmpl := ⟨(.slot (Ty.prod Ty.bool (Ty.prod YStore (Ty.prod
  (Ty.slice (Ty.prod Ty.i (Ty.prod Ty.i (Ty.prod Ty.i (Ty.prod Ty.i (Ty.prod Ty.i (Ty.prod Ty.i (Ty.prod Ty.i (Ty.prod (Ty.slice
  YReadMark) (Ty.prod (Ty.slice YReadMark) Ty.unit)))))))))) (Ty.prod (Ty.slice (Ty.prod Ty.i (Ty.prod
  Ty.i Ty.unit))) (Ty.prod (Ty.slice YReadMark) (Ty.prod Ty.i Ty.unit)))))) .nil), .nil⟩
def q171_to : Tmpl := ⟨(.slot Ty.i .nil), .nil⟩
noncomputable def spec_BackEdgeCount_S (x : (Bool × (List (List (Int × Int × Int × Int × Int × Unit)) × Unit) × List (Int × Int × Int × Int × Int × Int × Int × List (Int × Int × Unit) × List (Int × Int × Unit) × Unit) × List (Int × Int × Unit) × List (Int × Int × Unit) × Int × Unit) ×
  Unit) : Option (Int × Unit) :=
  Option.bind (spec_HistoryOf_S ((x.1.1, (x.1.2.1.1, ()), x.1.2.2.1, x.1.2.2.2.1, x.1.2.2.2.2.1, x.1.2.2.2.2.2.1, ()), ())) fun v => Option.bind (spec_BackEdges_S (v.1, ())) fun v => some ((↑(List.length v.1) : Int), ())
noncomputable def q171_Ent : Ent := ⟨25, q171_ti, q171_to, spec_BackEdgeCount_S⟩
theorem q171_HC : CfgOK Tryz.prog q171_C := hc_of g_tisOK g_wide (all_cons q169_OK (all_cons q170_OK all_nil))
theorem q171_OK : EntOK Tryz.prog q171_Ent := ok_of q171_HC Tryz.func25 0 (by kernel_rfl) (fun k hk => absurd hk (Nat.not_lt_zero k)) (by kernel_rfl) (by kernel_rfl) (fun x => by kernel_rfl)
noncomputable def q172_C : Cfg := { ti := g_tis, ents := [q43_Ent, q34_Ent, q35_Ent], ann := [], lent := 0 }
def q172_ti : Tmpl := ⟨(.slot YVersion .nil), .nil⟩
def q172_to : Tmpl := ⟨(.slot (Ty.bool) .nil), .nil⟩
noncomputable def impl_IsValidVersion_S (x : (Int × Int × Int × Int × Int × Unit) × Unit) : Option (Bool × Unit) :=
  Option.bind (impl_isValue_S (x.1.2.1, ())) fun v => bif !v.1 then some (false, ()) else Option.bind (impl_in_S (x.1.2.2.1, 0, 999, ())) fun v => bif !v.1 then some (false, ()) else Option.bind (impl_in_S (x.1.2.2.2.1, x.1.2.2.1, 999, ()))
  fun v => bif !v.1 then some (false, ()) else Option.bind (impl_in_S (x.1.2.2.2.2.1, 1, 1000, ())) fun v => bif !v.1 then some (false, ()) else bif x.1.2.2.1 == 0 then bif x.1.1 == 0 then some (x.1.2.1 == -1, ()) else some (false, ()) else
  Option.bind (impl_isID_S (x.1.1, ())) fun v => some (v.1, ())
noncomputable def q172_Ent : Ent := ⟨380, q172_ti, q172_to, impl_IsValidVersion_S⟩
theorem q172_HC : CfgOK Tryz.prog q172_C := hc_of g_tisOK g_wide (all_cons q43_OK (all_cons q34_OK (all_cons q35_OK all_nil)))
theorem q172_OK : EntOK Tryz.prog q172_Ent := ok_of q172_HC Tryz.func380 0 (by kernel_rfl) (fun k hk => absurd hk (Nat.not_lt_zero k)) (by kernel_rfl) (by kernel_rfl) (fun x => by kernel_rfl)
abbrev q173_I2 : Type := List (Int × Int × Int × Int × Int × Unit) × List (Int × Int × Int × Int × Int × Unit) × Int × Unit
abbrev q173_V2 : Type := Int × Unit
abbrev q173_Q2 : Type := Int × Int × Int × Int × Int × Unit ⊕ Int × Int × Int × Int × Int × Unit ⊕ Int × Int × Int × Int × Int × Unit ⊕ Unit
noncomputable def impl_IsValidChain_D2 (i : q173_I2) (v : q173_V2) (R : Type) (K : q173_V2 ⊕ q173_Q2 → Option R) : Option R :=
  bif decide (v.1 < i.2.2.1) then Option.bind (lAt i.2.1 v.1) fun v_1 => Option.bind (impl_IsValidVersion_S ((v_1.1, v_1.2.1, v_1.2.2.1, v_1.2.2.2.1, v_1.2.2.2.2.1, ()), ())) fun v_2 => bif !v_2.1 then K (Sum.inr (Sum.inl (v_1.1, v_1.2.1,
  v_1.2.2.1, v_1.2.2.2.1, v_1.2.2.2.2.1, ()))) else bif decide (v.1 > 0) then Option.bind (lAt i.1 (IntKind.wrap IntKind.i64 (v.1 - 1))) fun v_3 => bif decide (v_3.2.2.1 ≥ v_1.2.2.1) then K (Sum.inr (Sum.inr (Sum.inl (v_1.1, v_1.2.1,
  v_1.2.2.1, v_1.2.2.2.1, v_1.2.2.2.2.1, ())))) else Option.bind (lAt i.1 (IntKind.wrap IntKind.i64 (v.1 - 1))) fun v_4 => bif decide (v_4.2.2.2.2.1 > v_1.2.2.1) then K (Sum.inr (Sum.inr (Sum.inr (Sum.inl (v_1.1, v_1.2.1, v_1.2.2.1,
  v_1.2.2.2.1, v_1.2.2.2.2.1, ()))))) else K (Sum.inl (IntKind.wrap IntKind.i64 (v.1 + 1), ())) else K (Sum.inl (IntKind.wrap IntKind.i64 (v.1 + 1), ())) else K (Sum.inr (Sum.inr (Sum.inr (Sum.inr ()))))
theorem impl_IsValidChain_D2_nat : NatD impl_IsValidChain_D2 := fun i v R K => nat_bif (nat_bind fun _ => nat_bind fun _ => nat_bif (nat_some) (nat_bif (nat_bind fun _ => nat_bif (nat_some) (nat_bind fun _ => nat_bif (nat_some) (nat_some))) (nat_some))) (nat_some)
def q173_T2 : Tmpl := ⟨(.slot (Ty.slice YVersion) (jk 4 (.slot (Ty.slice YVersion) (.slot Ty.i (.slot Ty.i (jk 47 .nil)))))), .nil⟩
def q173_X2_0 (i : q173_I2) (p : Int × Int × Int × Int × Int × Unit) : St := ⟨AV.pv (Ty.slice YVersion) i.1 :: jn 1 (.b (false) :: jn 52 ([])), [some (Cont.cells 5
  [[AV.pv Ty.i p.1, AV.pv Ty.i p.2.1, AV.pv Ty.i p.2.2.1, AV.pv Ty.i p.2.2.2.1, AV.pv Ty.i p.2.2.2.2.1]])]⟩
def q173_X2_1 (i : q173_I2) (p : Int × Int × Int × Int × Int × Unit) : St := ⟨AV.pv (Ty.slice YVersion) i.1 :: jn 1 (.b (false) :: jn 52 ([])), [some (Cont.cells 5
  [[AV.pv Ty.i p.1, AV.pv Ty.i p.2.1, AV.pv Ty.i p.2.2.1, AV.pv Ty.i p.2.2.2.1, AV.pv Ty.i p.2.2.2.2.1]])]⟩
def q173_X2_2 (i : q173_I2) (p : Int × Int × Int × Int × Int × Unit) : St := ⟨AV.pv (Ty.slice YVersion) i.1 :: jn 1 (.b (false) :: jn 52 ([])), [some (Cont.cells 5
  [[AV.pv Ty.i p.1, AV.pv Ty.i p.2.1, AV.pv Ty.i p.2.2.1, AV.pv Ty.i p.2.2.2.1, AV.pv Ty.i p.2.2.2.2.1]])]⟩
def q173_X2_3 (i : q173_I2) (p : Unit) : St := ⟨AV.pv (Ty.slice YVersion) i.1 :: jn 54 ([]), []⟩
noncomputable def q173_E2 (i : q173_I2) (p : q173_Q2) (R : Type) (K : Ex → St → Option R) : Option R := sumC p (fun p => K (Ex.ret) (q173_X2_0 i p)) fun p => sumC p (fun p => K (Ex.ret) (q173_X2_1 i p)) fun p => sumC p (fun p => K (Ex.ret) (q173_X2_2 i p)) fun p => K (Ex.exit 0) (q173_X2_3 i p)
noncomputable def q173_K2 (i : q173_I2) (p : q173_Q2) : Ex × St := sumC p (fun p => (Ex.ret, q173_X2_0 i p)) fun p => sumC p (fun p => (Ex.ret, q173_X2_1 i p)) fun p => sumC p (fun p => (Ex.ret, q173_X2_2 i p)) fun p => (Ex.exit 0, q173_X2_3 i p)
def q173_M2 (i : q173_I2) (v : q173_V2) : den q173_T2.ty := (i.1, i.2.1, i.2.2.1, v.1, ())
def q173_P2 (x : den q173_T2.ty) : q173_I2 × q173_V2 := ((x.1, x.2.1, x.2.2.1, ()), (x.2.2.2.1, ()))
noncomputable def q173_C : Cfg := { ti := g_tis, ents := [q172_Ent], ann := [(2, loopFn q173_T2 0 q173_P2 impl_IsValidChain_D2 q173_E2)], lent := 0 }
def q173_ti : Tmpl := ⟨(.slot (Ty.slice YVersion) .nil), .nil⟩
def q173_to : Tmpl := ⟨(.slot (Ty.bool) .nil), .nil⟩
noncomputable def impl_IsValidChain_S (x : List (Int × Int × Int × Int × Int × Unit) × Unit) : Option (Bool × Unit) :=
  Option.bind (iter (fun v => impl_IsValidChain_D2 (x.1, x.1, (↑(List.length x.1) : Int), ()) v _ some) (0, ())) fun p => sumC p (fun p => some (false, ())) fun p => sumC p (fun p => some (false, ())) fun p => sumC p (fun p => some
  (false, ())) fun p => bif decide ((↑(List.length x.1) : Int) > 0) then Option.bind (lAt x.1 (IntKind.wrap IntKind.i64 ((↑(List.length x.1) : Int) - 1))) fun v => some (v.2.2.2.2.1 == 1000, ()) else some (false, ())
noncomputable def q173_Ent : Ent := ⟨329, q173_ti, q173_to, impl_IsValidChain_S⟩
theorem q173_HC : CfgOK Tryz.prog q173_C := hc_of g_tisOK g_wide (all_cons q172_OK all_nil)
theorem q173_lk2 : LkOK Tryz.prog q173_C (lpc Tryz.f329 0) :=
  lk_of q173_HC (m := 0) (T := q173_T2) (sp := q173_P2) (D := impl_IsValidChain_D2) (E := q173_E2) (by kernel_rfl) (by kernel_rfl) (fun k hk => absurd hk (Nat.not_lt_zero k)) [0, 2] q173_M2 (fun x => rfl) impl_IsValidChain_D2_nat q173_K2 (fun i p R K => by rcases p with p | p | p | p <;> rfl) (fun i v => by kernel_rfl)
theorem q173_OK : EntOK Tryz.prog q173_Ent := ok_of q173_HC Tryz.func329 1 (by kernel_rfl) (fun k hk => match k, hk with | 0, _ => q173_lk2) (by kernel_rfl) (by kernel_rfl) (fun x => by kernel_rfl)
noncomputable def q174_C : Cfg := { ti := g_tis, ents := [q173_Ent], ann := [], lent := 0 }
def q174_ti : Tmpl := ⟨(.slot (Ty.slice YVersion) .nil), .nil⟩
def q174_to : Tmpl := ⟨(.slot (Ty.bool) .nil), .nil⟩
noncomputable def impl_IsValidStore_1_S (x : List (Int × Int × Int × Int × Int × Unit) × Unit) : Option (Bool × Unit) :=
  Option.bind (impl_IsValidChain_S (x.1, ())) fun v => bif !v.1 then some (true, ()) else some (decide ((↑(List.length x.1) : Int) > 50), ())
noncomputable def q174_Ent : Ent := ⟨328, q174_ti, q174_to, impl_IsValidStore_1_S⟩
theorem q174_HC : CfgOK Tryz.prog q174_C := hc_of g_tisOK g_wide (all_cons q173_OK all_nil)
theorem q174_OK : EntOK Tryz.prog q174_Ent := ok_of q174_HC Tryz.func328 0 (by kernel_rfl) (fun k hk => absurd hk (Nat.not_lt_zero k)) (by kernel_rfl) (by kernel_rfl) (fun x => by kernel_rfl)
abbrev q175_I2 : Type := List (List (Int × Int × Int × Int × Int × Unit)) × Unit × Int × Unit
abbrev q175_V2 : Type := Int × Unit
abbrev q175_Q2 : Type := Int × Unit ⊕ Unit
noncomputable def slices_IndexFunc__impl_IsValidStore_1_D2 (i : q175_I2) (v : q175_V2) (R : Type) (K : q175_V2 ⊕ q175_Q2 → Option R) : Option R :=
  bif decide (v.1 < i.2.2.1) then Option.bind (lAt i.1 v.1) fun v_1 => Option.bind (impl_IsValidStore_1_S (v_1, ())) fun v_2 => bif v_2.1 then K (Sum.inr (Sum.inl (v.1, ()))) else K (Sum.inl (IntKind.wrap IntKind.i64 (v.1 + 1), ())) else K
  (Sum.inr (Sum.inr ()))
theorem slices_IndexFunc__impl_IsValidStore_1_D2_nat : NatD slices_IndexFunc__impl_IsValidStore_1_D2 := fun i v R K => nat_bif (nat_bind fun _ => nat_bind fun _ => nat_bif (nat_some) (nat_some)) (nat_some)
def q175_T2 : Tmpl := ⟨(.slot (Ty.slice (Ty.slice YVersion)) (.slot (Ty.fn 328 Ty.unit) (jk 5 (.slot Ty.i (.slot Ty.i (jk 10 .nil)))))), .nil⟩
def q175_X2_0 (i : q175_I2) (p : Int × Unit) : St := ⟨jn 4 (.n (p.1) :: jn 14 ([])), []⟩
def q175_X2_1 (i : q175_I2) (p : Unit) : St := ⟨jn 19 ([]), []⟩
noncomputable def q175_E2 (i : q175_I2) (p : q175_Q2) (R : Type) (K : Ex → St → Option R) : Option R := sumC p (fun p => K (Ex.ret) (q175_X2_0 i p)) fun p => K (Ex.exit 0) (q175_X2_1 i p)
noncomputable def q175_K2 (i : q175_I2) (p : q175_Q2) : Ex × St := sumC p (fun p => (Ex.ret, q175_X2_0 i p)) fun p => (Ex.exit 0, q175_X2_1 i p)
def q175_M2 (i : q175_I2) (v : q175_V2) : den q175_T2.ty := (i.1, i.2.1, i.2.2.1, v.1, ())
def q175_P2 (x : den q175_T2.ty) : q175_I2 × q175_V2 := ((x.1, x.2.1, x.2.2.1, ()), (x.2.2.2.1, ()))
noncomputable def q175_C : Cfg := { ti := g_tis, ents := [q174_Ent], ann := [(2, loopFn q175_T2 0 q175_P2 slices_IndexFunc__impl_IsValidStore_1_D2 q175_E2)], lent := 0 }
def q175_ti : Tmpl := ⟨(.slot (Ty.slice (Ty.slice YVersion)) (.slot (Ty.fn 328 Ty.unit) .nil)), .nil⟩
def q175_to : Tmpl := ⟨(.slot Ty.i .nil), .nil⟩
noncomputable def slices_IndexFunc__impl_IsValidStore_1_S (x : List (List (Int × Int × Int × Int × Int × Unit)) × Unit × Unit) : Option (Int × Unit) :=
  Option.bind (iter (fun v => slices_IndexFunc__impl_IsValidStore_1_D2 (x.1, x.2.1, (↑(List.length x.1) : Int), ()) v _ some) (0, ())) fun p => sumC p (fun p => some (p.1, ())) fun p => some (-1, ())
noncomputable def q175_Ent : Ent := ⟨379, q175_ti, q175_to, slices_IndexFunc__impl_IsValidStore_1_S⟩
theorem q175_HC : CfgOK Tryz.prog q175_C := hc_of g_tisOK g_wide (all_cons q174_OK all_nil)
theorem q175_lk2 : LkOK Tryz.prog q175_C (lpc Tryz.f379 0) :=
  lk_of q175_HC (m := 0) (T := q175_T2) (sp := q175_P2) (D := slices_IndexFunc__impl_IsValidStore_1_D2) (E := q175_E2) (by kernel_rfl) (by kernel_rfl) (fun k hk => absurd hk (Nat.not_lt_zero k)) [4] q175_M2 (fun x => rfl) slices_IndexFunc__impl_IsValidStore_1_D2_nat q175_K2 (fun i p R K => by rcases p with p | p <;> rfl) (fun i v => by kernel_rfl)
theorem q175_OK : EntOK Tryz.prog q175_Ent := ok_of q175_HC Tryz.func379 1 (by kernel_rfl) (fun k hk => match k, hk with | 0, _ => q175_lk2) (by kernel_rfl) (by kernel_rfl) (fun x => by kernel_rfl)
noncomputable def q176_C : Cfg := { ti := g_tis, ents := [q175_Ent], ann := [], lent := 0 }
def q176_ti : Tmpl := ⟨(.slot (Ty.slice (Ty.slice YVersion)) (.slot (Ty.fn 328 Ty.unit) .nil)), .nil⟩
def q176_to : Tmpl := ⟨(.slot (Ty.bool) .nil), .nil⟩
noncomputable def slices_ContainsFunc__impl_IsValidStore_1_S (x : List (List (Int × Int × Int × Int × Int × Unit)) × Unit × Unit) : Option (Bool × Unit) :=
  Option.bind (slices_IndexFunc__impl_IsValidStore_1_S (x.1, x.2.1, ())) fun v => some (decide (v.1 ≥ 0), ())
noncomputable def q176_Ent : Ent := ⟨327, q176_ti, q176_to, slices_ContainsFunc__impl_IsValidStore_1_S⟩
theorem q176_HC : CfgOK Tryz.prog q176_C := hc_of g_tisOK g_wide (all_cons q175_OK all_nil)
theorem q176_OK : EntOK Tryz.prog q176_Ent := ok_of q176_HC Tryz.func327 0 (by kernel_rfl) (fun k hk => absurd hk (Nat.not_lt_zero k)) (by kernel_rfl) (by kernel_rfl) (fun x => by kernel_rfl)
noncomputable def q177_C : Cfg := { ti := g_tis, ents := [q176_Ent], ann := [], lent := 0 }
def q177_ti : Tmpl := ⟨(.slot YStore .nil), .nil⟩
def q177_to : Tmpl := ⟨(.slot (Ty.bool) .nil), .nil⟩
noncomputable def impl_IsValidStore_S (x : (List (List (Int × Int × Int × Int × Int × Unit)) × Unit) × Unit) : Option (Bool × Unit) :=
  bif (↑(List.length x.1.1) : Int) == 6 then Option.bind (slices_ContainsFunc__impl_IsValidStore_1_S (x.1.1, (), ())) fun v => some (!v.1, ()) else some (false, ())
noncomputable def q177_Ent : Ent := ⟨246, q177_ti, q177_to, impl_IsValidStore_S⟩
theorem q177_HC : CfgOK Tryz.prog q177_C := hc_of g_tisOK g_wide (all_cons q176_OK all_nil)
theorem q177_OK : EntOK Tryz.prog q177_Ent := ok_of q177_HC Tryz.func246 0 (by kernel_rfl) (fun k hk => absurd hk (Nat.not_lt_zero k)) (by kernel_rfl) (by kernel_rfl) (fun x => by kernel_rfl)
abbrev q178_I2 : Type := List (Int × Int × Unit) × List (Int × Int × Unit) × Int × Unit
abbrev q178_V2 : Type := Int × Unit
abbrev q178_Q2 : Type := Int × Int × Unit ⊕ Int × Int × Unit ⊕ Int × Int × Unit ⊕ Unit
noncomputable def impl_AreLocks_D2 (i : q178_I2) (v : q178_V2) (R : Type) (K : q178_V2 ⊕ q178_Q2 → Option R) : Option R :=
  bif decide (v.1 < i.2.2.1) then Option.bind (lAt i.2.1 v.1) fun v_1 => Option.bind (impl_isKey_S (v_1.1, ())) fun v_2 => bif !v_2.1 then K (Sum.inr (Sum.inl (v_1.1, v_1.2.1, ()))) else Option.bind (impl_isID_S (v_1.2.1, ())) fun v_3 => bif
  !v_3.1 then K (Sum.inr (Sum.inr (Sum.inl (v_1.1, v_1.2.1, ())))) else bif decide (v.1 > 0) then Option.bind (lAt i.1 (IntKind.wrap IntKind.i64 (v.1 - 1))) fun v_4 => bif decide (v_4.1 ≥ v_1.1) then K (Sum.inr (Sum.inr (Sum.inr (Sum.inl
  (v_1.1, v_1.2.1, ()))))) else K (Sum.inl (IntKind.wrap IntKind.i64 (v.1 + 1), ())) else K (Sum.inl (IntKind.wrap IntKind.i64 (v.1 + 1), ())) else K (Sum.inr (Sum.inr (Sum.inr (Sum.inr ()))))
theorem impl_AreLocks_D2_nat : NatD impl_AreLocks_D2 := fun i v R K => nat_bif (nat_bind fun _ => nat_bind fun _ => nat_bif (nat_some) (nat_bind fun _ => nat_bif (nat_some) (nat_bif (nat_bind fun _ => nat_bif (nat_some) (nat_some)) (nat_some)))) (nat_some)
def q178_T2 : Tmpl := ⟨(.slot (Ty.slice YReadMark) (jk 4 (.slot (Ty.slice YReadMark) (.slot Ty.i (.slot Ty.i (jk 30 .nil)))))), .nil⟩
def q178_X2_0 (i : q178_I2) (p : Int × Int × Unit) : St := ⟨jn 2 (.b (false) :: jn 35 ([])), [some (Cont.cells 2 [[AV.pv Ty.i p.1, AV.pv Ty.i p.2.1]])]⟩
def q178_X2_1 (i : q178_I2) (p : Int × Int × Unit) : St := ⟨jn 2 (.b (false) :: jn 35 ([])), [some (Cont.cells 2 [[AV.pv Ty.i p.1, AV.pv Ty.i p.2.1]])]⟩
def q178_X2_2 (i : q178_I2) (p : Int × Int × Unit) : St := ⟨jn 2 (.b (false) :: jn 35 ([])), [some (Cont.cells 2 [[AV.pv Ty.i p.1, AV.pv Ty.i p.2.1]])]⟩
def q178_X2_3 (i : q178_I2) (p : Unit) : St := ⟨jn 38 ([]), []⟩
noncomputable def q178_E2 (i : q178_I2) (p : q178_Q2) (R : Type) (K : Ex → St → Option R) : Option R := sumC p (fun p => K (Ex.ret) (q178_X2_0 i p)) fun p => sumC p (fun p => K (Ex.ret) (q178_X2_1 i p)) fun p => sumC p (fun p => K (Ex.ret) (q178_X2_2 i p)) fun p => K (Ex.exit 0) (q178_X2_3 i p)
noncomputable def q178_K2 (i : q178_I2) (p : q178_Q2) : Ex × St := sumC p (fun p => (Ex.ret, q178_X2_0 i p)) fun p => sumC p (fun p => (Ex.ret, q178_X2_1 i p)) fun p => sumC p (fun p => (Ex.ret, q178_X2_2 i p)) fun p => (Ex.exit 0, q178_X2_3 i p)
def q178_M2 (i : q178_I2) (v : q178_V2) : den q178_T2.ty := (i.1, i.2.1, i.2.2.1, v.1, ())
def q178_P2 (x : den q178_T2.ty) : q178_I2 × q178_V2 := ((x.1, x.2.1, x.2.2.1, ()), (x.2.2.2.1, ()))
noncomputable def q178_C : Cfg := { ti := g_tis, ents := [q37_Ent, q35_Ent], ann := [(2, loopFn q178_T2 0 q178_P2 impl_AreLocks_D2 q178_E2)], lent := 0 }
def q178_ti : Tmpl := ⟨(.slot (Ty.slice YReadMark) .nil), .nil⟩
def q178_to : Tmpl := ⟨(.slot (Ty.bool) .nil), .nil⟩
noncomputable def impl_AreLocks_S (x : List (Int × Int × Unit) × Unit) : Option (Bool × Unit) :=
  Option.bind (iter (fun v => impl_AreLocks_D2 (x.1, x.1, (↑(List.length x.1) : Int), ()) v _ some) (0, ())) fun p => sumC p (fun p => some (false, ())) fun p => sumC p (fun p => some (false, ())) fun p => sumC p (fun p => some
  (false, ())) fun p => some (true, ())
noncomputable def q178_Ent : Ent := ⟨247, q178_ti, q178_to, impl_AreLocks_S⟩
theorem q178_HC : CfgOK Tryz.prog q178_C := hc_of g_tisOK g_wide (all_cons q37_OK (all_cons q35_OK all_nil))
theorem q178_lk2 : LkOK Tryz.prog q178_C (lpc Tryz.f247 0) :=
  lk_of q178_HC (m := 0) (T := q178_T2) (sp := q178_P2) (D := impl_AreLocks_D2) (E := q178_E2) (by kernel_rfl) (by kernel_rfl) (fun k hk => absurd hk (Nat.not_lt_zero k)) [2] q178_M2 (fun x => rfl) impl_AreLocks_D2_nat q178_K2 (fun i p R K => by rcases p with p | p | p | p <;> rfl) (fun i v => by kernel_rfl)
theorem q178_OK : EntOK Tryz.prog q178_Ent := ok_of q178_HC Tryz.func247 1 (by kernel_rfl) (fun k hk => match k, hk with | 0, _ => q178_lk2) (by kernel_rfl) (by kernel_rfl) (fun x => by kernel_rfl)
abbrev q179_I2 : Type := List (Int × Int × Unit) × List (Int × Int × Unit) × Int × Unit
abbrev q179_V2 : Type := Int × Unit
abbrev q179_Q2 : Type := Int × Int × Unit ⊕ Int × Int × Unit ⊕ Int × Int × Unit ⊕ Int × Int × Unit ⊕ Unit
noncomputable def impl_AreWaits_D2 (i : q179_I2) (v : q179_V2) (R : Type) (K : q179_V2 ⊕ q179_Q2 → Option R) : Option R :=
  bif decide (v.1 < i.2.2.1) then Option.bind (lAt i.2.1 v.1) fun v_1 => Option.bind (impl_isID_S (v_1.1, ())) fun v_2 => bif !v_2.1 then K (Sum.inr (Sum.inl (v_1.1, v_1.2.1, ()))) else Option.bind (impl_isID_S (v_1.2.1, ())) fun v_3 => bif
  !v_3.1 then K (Sum.inr (Sum.inr (Sum.inl (v_1.1, v_1.2.1, ())))) else bif v_1.1 == v_1.2.1 then K (Sum.inr (Sum.inr (Sum.inr (Sum.inl (v_1.1, v_1.2.1, ()))))) else bif decide (v.1 > 0) then Option.bind (lAt i.1 (IntKind.wrap IntKind.i64 (v.1
  - 1))) fun v_4 => bif decide (v_4.1 ≥ v_1.1) then K (Sum.inr (Sum.inr (Sum.inr (Sum.inr (Sum.inl (v_1.1, v_1.2.1, ())))))) else K (Sum.inl (IntKind.wrap IntKind.i64 (v.1 + 1), ())) else K (Sum.inl (IntKind.wrap IntKind.i64 (v.1 + 1), ()))
  else K (Sum.inr (Sum.inr (Sum.inr (Sum.inr (Sum.inr ())))))
theorem impl_AreWaits_D2_nat : NatD impl_AreWaits_D2 := fun i v R K => nat_bif (nat_bind fun _ => nat_bind fun _ => nat_bif (nat_some) (nat_bind fun _ => nat_bif (nat_some) (nat_bif (nat_some) (nat_bif (nat_bind fun _ => nat_bif (nat_some) (nat_some)) (nat_some))))) (nat_some)
def q179_T2 : Tmpl := ⟨(.slot (Ty.slice YReadMark) (jk 4 (.slot (Ty.slice YReadMark) (.slot Ty.i (.slot Ty.i (jk 37 .nil)))))), .nil⟩
def q179_X2_0 (i : q179_I2) (p : Int × Int × Unit) : St := ⟨jn 2 (.b (false) :: jn 42 ([])), [some (Cont.cells 2 [[AV.pv Ty.i p.1, AV.pv Ty.i p.2.1]])]⟩
def q179_X2_1 (i : q179_I2) (p : Int × Int × Unit) : St := ⟨jn 2 (.b (false) :: jn 42 ([])), [some (Cont.cells 2 [[AV.pv Ty.i p.1, AV.pv Ty.i p.2.1]])]⟩
def q179_X2_2 (i : q179_I2) (p : Int × Int × Unit) : St := ⟨jn 2 (.b (false) :: jn 42 ([])), [some (Cont.cells 2 [[AV.pv Ty.i p.1, AV.pv Ty.i p.2.1]])]⟩
def q179_X2_3 (i : q179_I2) (p : Int × Int × Unit) : St := ⟨jn 2 (.b (false) :: jn 42 ([])), [some (Cont.cells 2 [[AV.pv Ty.i p.1, AV.pv Ty.i p.2.1]])]⟩
def q179_X2_4 (i : q179_I2) (p : Unit) : St := ⟨jn 45 ([]), []⟩
noncomputable def q179_E2 (i : q179_I2) (p : q179_Q2) (R : Type) (K : Ex → St → Option R) : Option R := sumC p (fun p => K (Ex.ret) (q179_X2_0 i p)) fun p => sumC p (fun p => K (Ex.ret) (q179_X2_1 i p)) fun p => sumC p (fun p => K (Ex.ret) (q179_X2_2 i p)) fun p => sumC p (fun p => K (Ex.ret) (q179_X2_3 i p)) fun p => K (Ex.exit 0) (q179_X2_4 i p)
noncomputable def q179_K2 (i : q179_I2) (p : q179_Q2) : Ex × St := sumC p (fun p => (Ex.ret, q179_X2_0 i p)) fun p => sumC p (fun p => (Ex.ret, q179_X2_1 i p)) fun p => sumC p (fun p => (Ex.ret, q179_X2_2 i p)) fun p => sumC p (fun p => (Ex.ret, q179_X2_3 i p)) fun p => (Ex.exit 0, q179_X2_4 i p)
def q179_M2 (i : q179_I2) (v : q179_V2) : den q179_T2.ty := (i.1, i.2.1, i.2.2.1, v.1, ())
def q179_P2 (x : den q179_T2.ty) : q179_I2 × q179_V2 := ((x.1, x.2.1, x.2.2.1, ()), (x.2.2.2.1, ()))
noncomputable def q179_C : Cfg := { ti := g_tis, ents := [q35_Ent], ann := [(2, loopFn q179_T2 0 q179_P2 impl_AreWaits_D2 q179_E2)], lent := 0 }
def q179_ti : Tmpl := ⟨(.slot (Ty.slice YReadMark) .nil), .nil⟩
def q179_to : Tmpl := ⟨(.slot (Ty.bool) .nil), .nil⟩
noncomputable def impl_AreWaits_S (x : List (Int × Int × Unit) × Unit) : Option (Bool × Unit) :=
  Option.bind (iter (fun v => impl_AreWaits_D2 (x.1, x.1, (↑(List.length x.1) : Int), ()) v _ some) (0, ())) fun p => sumC p (fun p => some (false, ())) fun p => sumC p (fun p => some (false, ())) fun p => sumC p (fun p => some
  (false, ())) fun p => sumC p (fun p => some (false, ())) fun p => some (true, ())
noncomputable def q179_Ent : Ent := ⟨248, q179_ti, q179_to, impl_AreWaits_S⟩
theorem q179_HC : CfgOK Tryz.prog q179_C := hc_of g_tisOK g_wide (all_cons q35_OK all_nil)
theorem q179_lk2 : LkOK Tryz.prog q179_C (lpc Tryz.f248 0) :=
  lk_of q179_HC (m := 0) (T := q179_T2) (sp := q179_P2) (D := impl_AreWaits_D2) (E := q179_E2) (by kernel_rfl) (by kernel_rfl) (fun k hk => absurd hk (Nat.not_lt_zero k)) [2] q179_M2 (fun x => rfl) impl_AreWaits_D2_nat q179_K2 (fun i p R K => by rcases p with p | p | p | p | p <;> rfl) (fun i v => by kernel_rfl)
theorem q179_OK : EntOK Tryz.prog q179_Ent := ok_of q179_HC Tryz.func248 1 (by kernel_rfl) (fun k hk => match k, hk with | 0, _ => q179_lk2) (by kernel_rfl) (by kernel_rfl) (fun x => by kernel_rfl)
abbrev q180_I6 : Type := List (List (Int × Int × Int × Int × Int × Unit)) × Int × Int × List (Int × Int × Int × Int × Int × Unit) × Int × Unit
abbrev q180_V6 : Type := Int × Int × Unit
abbrev q180_Q6 : Type := Int × Unit
noncomputable def impl_Store_lastStamp_D6 (i : q180_I6) (v : q180_V6) (R : Type) (K : q180_V6 ⊕ q180_Q6 → Option R) : Option R :=
  bif decide (v.2.1 < i.2.2.2.2.1) then Option.bind (lAt i.2.2.2.1 v.2.1) fun v_1 => K (Sum.inl (mx v.1 v_1.2.2.2.1, IntKind.wrap IntKind.i64 (v.2.1 + 1), ())) else K (Sum.inr (v.1, ()))
theorem impl_Store_lastStamp_D6_nat : NatD impl_Store_lastStamp_D6 := fun i v R K => nat_bif (nat_bind fun _ => nat_some) (nat_some)
def q180_T6 : Tmpl := ⟨(jk 3 (.slot Ty.i (jk 5 (.slot (Ty.slice (Ty.slice YVersion)) (.slot Ty.i (.slot Ty.i (jk 3 (.slot (Ty.slice YVersion) (.slot Ty.i (.slot Ty.i (jk 10 .nil))))))))))), .nil⟩
def q180_X6_0 (i : q180_I6) (p : Int × Unit) : St := ⟨jn 3 (.n (p.1) :: jn 5 (AV.pv (Ty.slice (Ty.slice YVersion)) i.1 :: .n (i.2.1) :: .n
  (i.2.2.1) :: jn 16 ([]))), []⟩
noncomputable def q180_E6 (i : q180_I6) (p : q180_Q6) (R : Type) (K : Ex → St → Option R) : Option R := K (Ex.exit 2) (q180_X6_0 i p)
noncomputable def q180_K6 (i : q180_I6) (p : q180_Q6) : Ex × St := (Ex.exit 2, q180_X6_0 i p)
def q180_M6 (i : q180_I6) (v : q180_V6) : den q180_T6.ty := (v.1, i.1, i.2.1, i.2.2.1, i.2.2.2.1, i.2.2.2.2.1, v.2.1, ())
def q180_P6 (x : den q180_T6.ty) : q180_I6 × q180_V6 := ((x.2.1, x.2.2.1, x.2.2.2.1, x.2.2.2.2.1, x.2.2.2.2.2.1, ()), (x.1, x.2.2.2.2.2.2.1, ()))
abbrev q180_I3 : Type := List (List (Int × Int × Int × Int × Int × Unit)) × Int × Unit
abbrev q180_V3 : Type := Int × Int × Unit
abbrev q180_Q3 : Type := Int × Unit
noncomputable def impl_Store_lastStamp_D3 (i : q180_I3) (v : q180_V3) (R : Type) (K : q180_V3 ⊕ q180_Q3 → Option R) : Option R :=
  bif decide (v.2.1 < i.2.1) then Option.bind (lAt i.1 v.2.1) fun v_1 => Option.bind (iter (fun v_2 => impl_Store_lastStamp_D6 (i.1, i.2.1, v.2.1, v_1, (↑(List.length v_1) : Int), ()) v_2 _ some) (v.1, 0, ())) fun p => K (Sum.inl
  (p.1, IntKind.wrap IntKind.i64 (v.2.1 + 1), ())) else K (Sum.inr (v.1, ()))
theorem impl_Store_lastStamp_D3_nat : NatD impl_Store_lastStamp_D3 := fun i v R K => nat_bif (nat_bind fun _ => nat_bind fun _ => nat_some) (nat_some)
def q180_T3 : Tmpl := ⟨(jk 3 (.slot Ty.i (jk 5 (.slot (Ty.slice (Ty.slice YVersion)) (.slot Ty.i (.slot Ty.i (jk 16 .nil))))))), .nil⟩
def q180_X3_0 (i : q180_I3) (p : Int × Unit) : St := ⟨jn 3 (.n (p.1) :: jn 24 ([])), []⟩
noncomputable def q180_E3 (i : q180_I3) (p : q180_Q3) (R : Type) (K : Ex → St → Option R) : Option R := K (Ex.exit 0) (q180_X3_0 i p)
noncomputable def q180_K3 (i : q180_I3) (p : q180_Q3) : Ex × St := (Ex.exit 0, q180_X3_0 i p)
def q180_M3 (i : q180_I3) (v : q180_V3) : den q180_T3.ty := (v.1, i.1, i.2.1, v.2.1, ())
def q180_P3 (x : den q180_T3.ty) : q180_I3 × q180_V3 := ((x.2.1, x.2.2.1, ()), (x.1, x.2.2.2.1, ()))
noncomputable def q180_C : Cfg := { ti := g_tis, ents := [], ann := [(6, loopFn q180_T6 0 q180_P6 impl_Store_lastStamp_D6 q180_E6), (3, loopFn q180_T3 0 q180_P3 impl_Store_lastStamp_D3 q180_E3)], lent := 0 }
def q180_ti : Tmpl := ⟨(.slot YStore .nil), .nil⟩
def q180_to : Tmpl := ⟨(.slot Ty.i .nil), .nil⟩
noncomputable def impl_Store_lastStamp_S (x : (List (List (Int × Int × Int × Int × Int × Unit)) × Unit) × Unit) : Option (Int × Unit) :=
  Option.bind (iter (fun v => impl_Store_lastStamp_D3 (x.1.1, (↑(List.length x.1.1) : Int), ()) v _ some) (0, 0, ())) fun p => some (p.1, ())
noncomputable def q180_Ent : Ent := ⟨249, q180_ti, q180_to, impl_Store_lastStamp_S⟩
theorem q180_HC : CfgOK Tryz.prog q180_C := hc_of g_tisOK g_wide all_nil
theorem q180_lk6 : LkOK Tryz.prog q180_C (lpc Tryz.f249 1) :=
  lk_of q180_HC (m := 0) (T := q180_T6) (sp := q180_P6) (D := impl_Store_lastStamp_D6) (E := q180_E6) (by kernel_rfl) (by kernel_rfl) (fun k hk => absurd hk (Nat.not_lt_zero k)) [3, 9, 10, 11] q180_M6 (fun x => rfl) impl_Store_lastStamp_D6_nat q180_K6 (fun i p R K => rfl) (fun i v => by kernel_rfl)
theorem q180_lk3 : LkOK Tryz.prog q180_C (lpc Tryz.f249 0) :=
  lk_of q180_HC (m := 1) (T := q180_T3) (sp := q180_P3) (D := impl_Store_lastStamp_D3) (E := q180_E3) (by kernel_rfl) (by kernel_rfl) (fun k hk => match k, hk with | 0, _ => lk_at (by kernel_rfl) q180_lk6) [3] q180_M3 (fun x => rfl) impl_Store_lastStamp_D3_nat q180_K3 (fun i p R K => rfl) (fun i v => by kernel_rfl)
theorem q180_OK : EntOK Tryz.prog q180_Ent := ok_of q180_HC Tryz.func249 2 (by kernel_rfl) (fun k hk => match k, hk with | 0, _ => q180_lk3 | 1, _ => q180_lk6) (by kernel_rfl) (by kernel_rfl) (fun x => by kernel_rfl)
noncomputable def q181_C : Cfg := { ti := g_tis, ents := [q34_Ent], ann := [], lent := 0 }
def q181_ti : Tmpl := ⟨(.slot Ty.i .nil), .nil⟩
def q181_to : Tmpl := ⟨(.slot (Ty.bool) .nil), .nil⟩
noncomputable def impl_isScheme_S (x : Int × Unit) : Option (Bool × Unit) :=
  Option.bind (impl_in_S (x.1, 1, 4, ())) fun v => some (v.1, ())
noncomputable def q181_Ent : Ent := ⟨199, q181_ti, q181_to, impl_isScheme_S⟩
theorem q181_HC : CfgOK Tryz.prog q181_C := hc_of g_tisOK g_wide (all_cons q34_OK all_nil)
theorem q181_OK : EntOK Tryz.prog q181_Ent := ok_of q181_HC Tryz.func199 0 (by kernel_rfl) (fun k hk => absurd hk (Nat.not_lt_zero k)) (by kernel_rfl) (by kernel_rfl) (fun x => by kernel_rfl)
noncomputable def q182_C : Cfg := { ti := g_tis, ents := [q35_Ent, q181_Ent, q34_Ent, q36_Ent, q42_Ent, q44_Ent], ann := [], lent := 0 }
def q182_ti : Tmpl := ⟨(.slot (Ty.prod Ty.i (Ty.prod Ty.i (Ty.prod Ty.i (Ty.prod Ty.i (Ty.prod Ty.i (Ty.prod Ty.i (Ty.prod Ty.i (Ty.prod (Ty.slice (Ty.prod
  Ty.i (Ty.prod Ty.i Ty.unit))) (Ty.prod (Ty.slice YReadMark) Ty.unit))))))))) .nil), .nil⟩
def q182_to : Tmpl := ⟨(.slot (Ty.bool) .nil), .nil⟩
noncomputable def impl_IsValidTransaction_S (x : (Int × Int × Int × Int × Int × Int × Int × List (Int × Int × Unit) × List (Int × Int × Unit) × Unit) × Unit) : Option (Bool × Unit) :=
  Option.bind (impl_isID_S (x.1.1, ())) fun v => bif !v.1 then some (false, ()) else Option.bind (impl_isScheme_S (x.1.2.1, ())) fun v => bif !v.1 then some (false, ()) else Option.bind (impl_in_S (x.1.2.2.1, 1, 3, ())) fun v => bif !v.1 then
  some (false, ()) else Option.bind (impl_in_S (x.1.2.2.2.1, 0, 999, ())) fun v => bif !v.1 then some (false, ()) else Option.bind (impl_in_S (x.1.2.2.2.2.1, 0, 999, ())) fun v => bif !v.1 then some (false, ()) else Option.bind (impl_in_S
  (x.1.2.2.2.2.2.1, 1, 1000, ())) fun v => bif !v.1 then some (false, ()) else bif x.1.2.2.1 == 2 then Option.bind (impl_IsStamp_S (x.1.2.2.2.2.2.2.1, ())) fun v => bif !v.1 then some (false, ()) else bif x.1.2.2.1 != 2 then bif
  x.1.2.2.2.2.2.2.1 != 0 then some (false, ()) else Option.bind (impl_areReads_S (x.1.2.2.2.2.2.2.2.1, ())) fun v => bif v.1 then Option.bind (impl_areWrites_S (x.1.2.2.2.2.2.2.2.2.1, ())) fun v => some (v.1, ()) else some (false, ()) else
  Option.bind (impl_areReads_S (x.1.2.2.2.2.2.2.2.1, ())) fun v => bif v.1 then Option.bind (impl_areWrites_S (x.1.2.2.2.2.2.2.2.2.1, ())) fun v => some (v.1, ()) else some (false, ()) else bif x.1.2.2.1 != 2 then bif x.1.2.2.2.2.2.2.1 != 0
  then some (false, ()) else Option.bind (impl_areReads_S (x.1.2.2.2.2.2.2.2.1, ())) fun v => bif v.1 then Option.bind (impl_areWrites_S (x.1.2.2.2.2.2.2.2.2.1, ())) fun v => some (v.1, ()) else some (false, ()) else Option.bind
  (impl_areReads_S (x.1.2.2.2.2.2.2.2.1, ())) fun v => bif v.1 then Option.bind (impl_areWrites_S (x.1.2.2.2.2.2.2.2.2.1, ())) fun v => some (v.1, ()) else some (false, ())
noncomputable def q182_Ent : Ent := ⟨330, q182_ti, q182_to, impl_IsValidTransaction_S⟩
theorem q182_HC : CfgOK Tryz.prog q182_C := hc_of g_tisOK g_wide (all_cons q35_OK (all_cons q181_OK (all_cons q34_OK (all_cons q36_OK (all_cons q42_OK (all_cons q44_OK all_nil))))))
theorem q182_OK : EntOK Tryz.prog q182_Ent := ok_of q182_HC Tryz.func330 0 (by kernel_rfl) (fun k hk => absurd hk (Nat.not_lt_zero k)) (by kernel_rfl) (by kernel_rfl) (fun x => by kernel_rfl)
noncomputable def q183_C : Cfg := { ti := g_tis, ents := [], ann := [], lent := 0 }
def q183_ti : Tmpl := ⟨(.slot YVersion (.slot (Ty.iref Ty.i) .nil)), .nil⟩
def q183_to : Tmpl := ⟨(.slot (Ty.bool) .nil), .nil⟩
noncomputable def impl_FindVersion_1_S (x : (Int × Int × Int × Int × Int × Unit) × Option Int × Unit) : Option (Bool × Unit) :=
  Option.bind x.2.1 fun v => some (x.1.2.2.1 == v, ())
noncomputable def q183_Ent : Ent := ⟨416, q183_ti, q183_to, impl_FindVersion_1_S⟩
theorem q183_HC : CfgOK Tryz.prog q183_C := hc_of g_tisOK g_wide all_nil
theorem q183_OK : EntOK Tryz.prog q183_Ent := ok_of q183_HC Tryz.func416 0 (by kernel_rfl) (fun k hk => absurd hk (Nat.not_lt_zero k)) (by kernel_rfl) (by kernel_rfl) (fun x => by kernel_rfl)
abbrev q184_I2 : Type := List (Int × Int × Int × Int × Int × Unit) × (Option Int × Unit) × Int × Unit
abbrev q184_V2 : Type := Int × Unit
abbrev q184_Q2 : Type := Int × Unit ⊕ Unit
noncomputable def slices_IndexFunc__impl_FindVersion_1_D2 (i : q184_I2) (v : q184_V2) (R : Type) (K : q184_V2 ⊕ q184_Q2 → Option R) : Option R :=
  bif decide (v.1 < i.2.2.1) then Option.bind (lAt i.1 v.1) fun v_1 => Option.bind (impl_FindVersion_1_S ((v_1.1, v_1.2.1, v_1.2.2.1, v_1.2.2.2.1, v_1.2.2.2.2.1, ()), i.2.1.1, ())) fun v_2 => bif v_2.1 then K (Sum.inr (Sum.inl (v.1, ()))) else
  K (Sum.inl (IntKind.wrap IntKind.i64 (v.1 + 1), ())) else K (Sum.inr (Sum.inr ()))
theorem slices_IndexFunc__impl_FindVersion_1_D2_nat : NatD slices_IndexFunc__impl_FindVersion_1_D2 := fun i v R K => nat_bif (nat_bind fun _ => nat_bind fun _ => nat_bif (nat_some) (nat_some)) (nat_some)
def q184_T2 : Tmpl := ⟨(.slot (Ty.slice YVersion) (.slot (Ty.fn 416 (Ty.prod (Ty.iref Ty.i) Ty.unit)) (jk 5 (.slot Ty.i (.slot Ty.i (jk 10 .nil)))))), .nil⟩
def q184_X2_0 (i : q184_I2) (p : Int × Unit) : St := ⟨jn 4 (.n (p.1) :: jn 14 ([])), []⟩
def q184_X2_1 (i : q184_I2) (p : Unit) : St := ⟨jn 19 ([]), []⟩
noncomputable def q184_E2 (i : q184_I2) (p : q184_Q2) (R : Type) (K : Ex → St → Option R) : Option R := sumC p (fun p => K (Ex.ret) (q184_X2_0 i p)) fun p => K (Ex.exit 0) (q184_X2_1 i p)
noncomputable def q184_K2 (i : q184_I2) (p : q184_Q2) : Ex × St := sumC p (fun p => (Ex.ret, q184_X2_0 i p)) fun p => (Ex.exit 0, q184_X2_1 i p)
def q184_M2 (i : q184_I2) (v : q184_V2) : den q184_T2.ty := (i.1, i.2.1, i.2.2.1, v.1, ())
def q184_P2 (x : den q184_T2.ty) : q184_I2 × q184_V2 := ((x.1, x.2.1, x.2.2.1, ()), (x.2.2.2.1, ()))
noncomputable def q184_C : Cfg := { ti := g_tis, ents := [q183_Ent], ann := [(2, loopFn q184_T2 0 q184_P2 slices_IndexFunc__impl_FindVersion_1_D2 q184_E2)], lent := 0 }
def q184_ti : Tmpl := ⟨(.slot (Ty.slice YVersion) (.slot (Ty.fn 416 (Ty.prod (Ty.iref Ty.i) Ty.unit)) .nil)), .nil⟩
def q184_to : Tmpl := ⟨(.slot Ty.i .nil), .nil⟩
noncomputable def slices_IndexFunc__impl_FindVersion_1_S (x : List (Int × Int × Int × Int × Int × Unit) × (Option Int × Unit) × Unit) : Option (Int × Unit) :=
  Option.bind (iter (fun v => slices_IndexFunc__impl_FindVersion_1_D2 (x.1, x.2.1, (↑(List.length x.1) : Int), ()) v _ some) (0, ())) fun p => sumC p (fun p => some (p.1, ())) fun p => some (-1, ())
noncomputable def q184_Ent : Ent := ⟨415, q184_ti, q184_to, slices_IndexFunc__impl_FindVersion_1_S⟩
theorem q184_HC : CfgOK Tryz.prog q184_C := hc_of g_tisOK g_wide (all_cons q183_OK all_nil)
theorem q184_lk2 : LkOK Tryz.prog q184_C (lpc Tryz.f415 0) :=
  lk_of q184_HC (m := 0) (T := q184_T2) (sp := q184_P2) (D := slices_IndexFunc__impl_FindVersion_1_D2) (E := q184_E2) (by kernel_rfl) (by kernel_rfl) (fun k hk => absurd hk (Nat.not_lt_zero k)) [4] q184_M2 (fun x => rfl) slices_IndexFunc__impl_FindVersion_1_D2_nat q184_K2 (fun i p R K => by rcases p with p | p <;> rfl) (fun i v => by kernel_rfl)
theorem q184_OK : EntOK Tryz.prog q184_Ent := ok_of q184_HC Tryz.func415 1 (by kernel_rfl) (fun k hk => match k, hk with | 0, _ => q184_lk2) (by kernel_rfl) (by kernel_rfl) (fun x => by kernel_rfl)
noncomputable def q185_C : Cfg := { ti := g_tis, ents := [q184_Ent], ann := [], lent := 0 }
def q185_ti : Tmpl := ⟨(.slot (Ty.slice YVersion) (.slot Ty.i .nil)), .nil⟩
def q185_to : Tmpl := ⟨(.slot Ty.i .nil), .nil⟩
noncomputable def impl_FindVersion_S (x : List (Int × Int × Int × Int × Int × Unit) × Int × Unit) : Option (Int × Unit) :=
  Option.bind (slices_IndexFunc__impl_FindVersion_1_S (x.1, (some x.2.1, ()), ())) fun v => some (v.1, ())
noncomputable def q185_Ent : Ent := ⟨403, q185_ti, q185_to, impl_FindVersion_S⟩
theorem q185_HC : CfgOK Tryz.prog q185_C := hc_of g_tisOK g_wide (all_cons q184_OK all_nil)
theorem q185_OK : EntOK Tryz.prog q185_Ent := ok_of q185_HC Tryz.func403 0 (by kernel_rfl) (fun k hk => absurd hk (Nat.not_lt_zero k)) (by kernel_rfl) (by kernel_rfl) (fun x => by kernel_rfl)
noncomputable def q186_C : Cfg := { ti := g_tis, ents := [q185_Ent], ann := [], lent := 0 }
def q186_ti : Tmpl := ⟨(.slot YStore (.slot YReadMark .nil)), .nil⟩
def q186_to : Tmpl := ⟨(.slot (Ty.iref YVersion) .nil), .nil⟩
noncomputable def impl_Store_find_S (x : (List (List (Int × Int × Int × Int × Int × Unit)) × Unit) × (Int × Int × Unit) × Unit) : Option (Option (Int × Int × Int × Int × Int × Unit) × Unit) :=
  Option.bind (lAt x.1.1 x.2.1.1) fun v => Option.bind (impl_FindVersion_S (v, x.2.1.2.1, ())) fun v_1 => bif decide (v_1.1 < 0) then some (none, ()) else Option.bind (lAt v v_1.1) fun v => some (some v, ())
noncomputable def q186_Ent : Ent := ⟨372, q186_ti, q186_to, impl_Store_find_S⟩
theorem q186_HC : CfgOK Tryz.prog q186_C := hc_of g_tisOK g_wide (all_cons q185_OK all_nil)
theorem q186_OK : EntOK Tryz.prog q186_Ent := ok_of q186_HC Tryz.func372 0 (by kernel_rfl) (fun k hk => absurd hk (Nat.not_lt_zero k)) (by kernel_rfl) (by kernel_rfl) (fun x => by kernel_rfl)
noncomputable def q187_C : Cfg := { ti := g_tis, ents := [q186_Ent], ann := [], lent := 0 }
def q187_ti : Tmpl := ⟨(.slot YReadMark (.slot (Ty.iref YStore) .nil)), .nil⟩
def q187_to : Tmpl := ⟨(.slot (Ty.bool) .nil), .nil⟩
noncomputable def impl_Store_readsExist_1_S (x : (Int × Int × Unit) × Option (List (List (Int × Int × Int × Int × Int × Unit)) × Unit) × Unit) : Option (Bool × Unit) :=
  Option.bind x.2.1 fun v => Option.bind (impl_Store_find_S ((v.1, ()), (x.1.1, x.1.2.1, ()), ())) fun v => some (Option.isNone v.1, ())
noncomputable def q187_Ent : Ent := ⟨381, q187_ti, q187_to, impl_Store_readsExist_1_S⟩
theorem q187_HC : CfgOK Tryz.prog q187_C := hc_of g_tisOK g_wide (all_cons q186_OK all_nil)
theorem q187_OK : EntOK Tryz.prog q187_Ent := ok_of q187_HC Tryz.func381 0 (by kernel_rfl) (fun k hk => absurd hk (Nat.not_lt_zero k)) (by kernel_rfl) (by kernel_rfl) (fun x => by kernel_rfl)
abbrev q188_I2 : Type := List (Int × Int × Unit) × (Option (List (List (Int × Int × Int × Int × Int × Unit)) × Unit) × Unit) × Int × Unit
abbrev q188_V2 : Type := Int × Unit
abbrev q188_Q2 : Type := Int × Unit ⊕ Unit
noncomputable def slices_IndexFunc__impl_Store_readsExist_1_D2 (i : q188_I2) (v : q188_V2) (R : Type) (K : q188_V2 ⊕ q188_Q2 → Option R) : Option R :=
  bif decide (v.1 < i.2.2.1) then Option.bind (lAt i.1 v.1) fun v_1 => Option.bind (impl_Store_readsExist_1_S ((v_1.1, v_1.2.1, ()), i.2.1.1, ())) fun v_2 => bif v_2.1 then K (Sum.inr (Sum.inl (v.1, ()))) else K (Sum.inl (IntKind.wrap
  IntKind.i64 (v.1 + 1), ())) else K (Sum.inr (Sum.inr ()))
theorem slices_IndexFunc__impl_Store_readsExist_1_D2_nat : NatD slices_IndexFunc__impl_Store_readsExist_1_D2 := fun i v R K => nat_bif (nat_bind fun _ => nat_bind fun _ => nat_bif (nat_some) (nat_some)) (nat_some)
def q188_T2 : Tmpl := ⟨(.slot (Ty.slice YReadMark) (.slot (Ty.fn 381 (Ty.prod (Ty.iref YStore) Ty.unit)) (jk 5 (.slot Ty.i (.slot Ty.i (jk 10 .nil)))))), .nil⟩
def q188_X2_0 (i : q188_I2) (p : Int × Unit) : St := ⟨jn 4 (.n (p.1) :: jn 14 ([])), []⟩
def q188_X2_1 (i : q188_I2) (p : Unit) : St := ⟨jn 19 ([]), []⟩
noncomputable def q188_E2 (i : q188_I2) (p : q188_Q2) (R : Type) (K : Ex → St → Option R) : Option R := sumC p (fun p => K (Ex.ret) (q188_X2_0 i p)) fun p => K (Ex.exit 0) (q188_X2_1 i p)
noncomputable def q188_K2 (i : q188_I2) (p : q188_Q2) : Ex × St := sumC p (fun p => (Ex.ret, q188_X2_0 i p)) fun p => (Ex.exit 0, q188_X2_1 i p)
def q188_M2 (i : q188_I2) (v : q188_V2) : den q188_T2.ty := (i.1, i.2.1, i.2.2.1, v.1, ())
def q188_P2 (x : den q188_T2.ty) : q188_I2 × q188_V2 := ((x.1, x.2.1, x.2.2.1, ()), (x.2.2.2.1, ()))
noncomputable def q188_C : Cfg := { ti := g_tis, ents := [q187_Ent], ann := [(2, loopFn q188_T2 0 q188_P2 slices_IndexFunc__impl_Store_readsExist_1_D2 q188_E2)], lent := 0 }
def q188_ti : Tmpl := ⟨(.slot (Ty.slice YReadMark) (.slot (Ty.fn 381 (Ty.prod (Ty.iref YStore) Ty.unit)) .nil)), .nil⟩
def q188_to : Tmpl := ⟨(.slot Ty.i .nil), .nil⟩
noncomputable def slices_IndexFunc__impl_Store_readsExist_1_S (x : List (Int × Int × Unit) × (Option (List (List (Int × Int × Int × Int × Int × Unit)) × Unit) × Unit) × Unit) : Option (Int × Unit) :=
  Option.bind (iter (fun v => slices_IndexFunc__impl_Store_readsExist_1_D2 (x.1, x.2.1, (↑(List.length x.1) : Int), ()) v _ some) (0, ())) fun p => sumC p (fun p => some (p.1, ())) fun p => some (-1, ())
noncomputable def q188_Ent : Ent := ⟨387, q188_ti, q188_to, slices_IndexFunc__impl_Store_readsExist_1_S⟩
theorem q188_HC : CfgOK Tryz.prog q188_C := hc_of g_tisOK g_wide (all_cons q187_OK all_nil)
theorem q188_lk2 : LkOK Tryz.prog q188_C (lpc Tryz.f387 0) :=
  lk_of q188_HC (m := 0) (T := q188_T2) (sp := q188_P2) (D := slices_IndexFunc__impl_Store_readsExist_1_D2) (E := q188_E2) (by kernel_rfl) (by kernel_rfl) (fun k hk => absurd hk (Nat.not_lt_zero k)) [4] q188_M2 (fun x => rfl) slices_IndexFunc__impl_Store_readsExist_1_D2_nat q188_K2 (fun i p R K => by rcases p with p | p <;> rfl) (fun i v => by kernel_rfl)
theorem q188_OK : EntOK Tryz.prog q188_Ent := ok_of q188_HC Tryz.func387 1 (by kernel_rfl) (fun k hk => match k, hk with | 0, _ => q188_lk2) (by kernel_rfl) (by kernel_rfl) (fun x => by kernel_rfl)
noncomputable def q189_C : Cfg := { ti := g_tis, ents := [q188_Ent], ann := [], lent := 0 }
def q189_ti : Tmpl := ⟨(.slot (Ty.slice YReadMark) (.slot (Ty.fn 381 (Ty.prod (Ty.iref YStore) Ty.unit)) .nil)), .nil⟩
def q189_to : Tmpl := ⟨(.slot (Ty.bool) .nil), .nil⟩
noncomputable def slices_ContainsFunc__impl_Store_readsExist_1_S (x : List (Int × Int × Unit) × (Option (List (List (Int × Int × Int × Int × Int × Unit)) × Unit) × Unit) × Unit) : Option (Bool × Unit) :=
  Option.bind (slices_IndexFunc__impl_Store_readsExist_1_S (x.1, x.2.1, ())) fun v => some (decide (v.1 ≥ 0), ())
noncomputable def q189_Ent : Ent := ⟨344, q189_ti, q189_to, slices_ContainsFunc__impl_Store_readsExist_1_S⟩
theorem q189_HC : CfgOK Tryz.prog q189_C := hc_of g_tisOK g_wide (all_cons q188_OK all_nil)
theorem q189_OK : EntOK Tryz.prog q189_Ent := ok_of q189_HC Tryz.func344 0 (by kernel_rfl) (fun k hk => absurd hk (Nat.not_lt_zero k)) (by kernel_rfl) (by kernel_rfl) (fun x => by kernel_rfl)
noncomputable def q190_C : Cfg := { ti := g_tis, ents := [q189_Ent], ann := [], lent := 0 }
def q190_ti : Tmpl := ⟨(.slot YStore (.slot (Ty.slice YReadMark) .nil)), .nil⟩
def q190_to : Tmpl := ⟨(.slot (Ty.bool) .nil), .nil⟩
noncomputable def impl_Store_readsExist_S (x : (List (List (Int × Int × Int × Int × Int × Unit)) × Unit) × List (Int × Int × Unit) × Unit) : Option (Bool × Unit) :=
  Option.bind (slices_ContainsFunc__impl_Store_readsExist_1_S (x.2.1, (some (x.1.1, ()), ()), ())) fun v => some (!v.1, ())
noncomputable def q190_Ent : Ent := ⟨331, q190_ti, q190_to, impl_Store_readsExist_S⟩
theorem q190_HC : CfgOK Tryz.prog q190_C := hc_of g_tisOK g_wide (all_cons q189_OK all_nil)
theorem q190_OK : EntOK Tryz.prog q190_Ent := ok_of q190_HC Tryz.func331 0 (by kernel_rfl) (fun k hk => absurd hk (Nat.not_lt_zero k)) (by kernel_rfl) (by kernel_rfl) (fun x => by kernel_rfl)
abbrev q191_I2 : Type := List (Int × Int × Int × Int × Int × Int × Int × List (Int × Int × Unit) × List (Int × Int × Unit) × Unit) × Int × Bool × List (List (Int × Int × Int × Int × Int × Unit)) × List (Int × Int × Int × Int × Int × Int × Int × List (Int × Int ×
  Unit) × List (Int × Int × Unit) × Unit) × List (Int × Int × Unit) × List (Int × Int × Unit) × Int × Unit
abbrev q191_V2 : Type := Int × Unit
abbrev q191_Q2 : Type := Int × Int × Int × Int × Int × Int × Int × List (Int × Int × Unit) × List (Int × Int × Unit) × Unit ⊕ Int × Int × Int × Int × Int × Int × Int × List (Int × Int × Unit) × List (Int × Int × Unit) × Unit ⊕ Int × Int × Int × Int × Int × Int × Int
  × List (Int × Int × Unit) × List (Int × Int × Unit) × Unit ⊕ Int × Int × Int × Int × Int × Int × Int × List (Int × Int × Unit) × List (Int × Int × Unit) × Unit ⊕ Int × Int × Int × Int × Int × Int × Int × List (Int × Int × Unit) × List (Int ×
  Int × Unit) × Unit ⊕ Int × Int × Int × Int × Int × Int × Int × List (Int × Int × Unit) × List (Int × Int × Unit) × Unit ⊕ Int × Int × Int × Int × Int × Int × Int × List (Int × Int × Unit) × List (Int × Int × Unit) × Unit ⊕ Int × Int × Int ×
  Int × Int × Int × Int × List (Int × Int × Unit) × List (Int × Int × Unit) × Unit ⊕ Unit
noncomputable def impl_Engine_areTransactions_D2 (i : q191_I2) (v : q191_V2) (R : Type) (K : q191_V2 ⊕ q191_Q2 → Option R) : Option R :=
  bif decide (v.1 < i.2.1) then Option.bind (lAt i.1 v.1) fun v_1 => Option.bind (impl_IsValidTransaction_S ((v_1.1, v_1.2.1, v_1.2.2.1, v_1.2.2.2.1, v_1.2.2.2.2.1, v_1.2.2.2.2.2.1, v_1.2.2.2.2.2.2.1, v_1.2.2.2.2.2.2.2.1,
  v_1.2.2.2.2.2.2.2.2.1, ()), ())) fun v_2 => bif !v_2.1 then K (Sum.inr (Sum.inl (v_1.1, v_1.2.1, v_1.2.2.1, v_1.2.2.2.1, v_1.2.2.2.2.1, v_1.2.2.2.2.2.1, v_1.2.2.2.2.2.2.1, v_1.2.2.2.2.2.2.2.1, v_1.2.2.2.2.2.2.2.2.1, ()))) else bif decide
  (v.1 > 0) then Option.bind (lAt i.2.2.2.2.1 (IntKind.wrap IntKind.i64 (v.1 - 1))) fun v_3 => bif decide (v_3.1 ≥ v_1.1) then K (Sum.inr (Sum.inr (Sum.inl (v_1.1, v_1.2.1, v_1.2.2.1, v_1.2.2.2.1, v_1.2.2.2.2.1, v_1.2.2.2.2.2.1,
  v_1.2.2.2.2.2.2.1, v_1.2.2.2.2.2.2.2.1, v_1.2.2.2.2.2.2.2.2.1, ())))) else bif decide (v_1.2.2.2.1 > i.2.2.2.2.2.2.2.1) then K (Sum.inr (Sum.inr (Sum.inr (Sum.inl (v_1.1, v_1.2.1, v_1.2.2.1, v_1.2.2.2.1, v_1.2.2.2.2.1, v_1.2.2.2.2.2.1,
  v_1.2.2.2.2.2.2.1, v_1.2.2.2.2.2.2.2.1, v_1.2.2.2.2.2.2.2.2.1, ()))))) else bif decide (v_1.2.2.2.2.2.2.1 > i.2.2.2.2.2.2.2.1) then K (Sum.inr (Sum.inr (Sum.inr (Sum.inr (Sum.inl (v_1.1, v_1.2.1, v_1.2.2.1, v_1.2.2.2.1, v_1.2.2.2.2.1,
  v_1.2.2.2.2.2.1, v_1.2.2.2.2.2.2.1, v_1.2.2.2.2.2.2.2.1, v_1.2.2.2.2.2.2.2.2.1, ())))))) else bif v_1.2.2.1 == 1 then Option.bind (impl_Store_readsExist_S ((i.2.2.2.1, ()), v_1.2.2.2.2.2.2.2.1, ())) fun v_4 => bif !v_4.1 then K (Sum.inr
  (Sum.inr (Sum.inr (Sum.inr (Sum.inr (Sum.inl (v_1.1, v_1.2.1, v_1.2.2.1, v_1.2.2.2.1, v_1.2.2.2.2.1, v_1.2.2.2.2.2.1, v_1.2.2.2.2.2.2.1, v_1.2.2.2.2.2.2.2.1, v_1.2.2.2.2.2.2.2.2.1, ()))))))) else K (Sum.inl (IntKind.wrap IntKind.i64 (v.1 +
  1), ())) else K (Sum.inl (IntKind.wrap IntKind.i64 (v.1 + 1), ())) else bif decide (v_1.2.2.2.1 > i.2.2.2.2.2.2.2.1) then K (Sum.inr (Sum.inr (Sum.inr (Sum.inr (Sum.inr (Sum.inr (Sum.inl (v_1.1, v_1.2.1, v_1.2.2.1, v_1.2.2.2.1,
  v_1.2.2.2.2.1, v_1.2.2.2.2.2.1, v_1.2.2.2.2.2.2.1, v_1.2.2.2.2.2.2.2.1, v_1.2.2.2.2.2.2.2.2.1, ())))))))) else bif decide (v_1.2.2.2.2.2.2.1 > i.2.2.2.2.2.2.2.1) then K (Sum.inr (Sum.inr (Sum.inr (Sum.inr (Sum.inr (Sum.inr (Sum.inr (Sum.inl
  (v_1.1, v_1.2.1, v_1.2.2.1, v_1.2.2.2.1, v_1.2.2.2.2.1, v_1.2.2.2.2.2.1, v_1.2.2.2.2.2.2.1, v_1.2.2.2.2.2.2.2.1, v_1.2.2.2.2.2.2.2.2.1, ()))))))))) else bif v_1.2.2.1 == 1 then Option.bind (impl_Store_readsExist_S ((i.2.2.2.1, ()),
  v_1.2.2.2.2.2.2.2.1, ())) fun v_3 => bif !v_3.1 then K (Sum.inr (Sum.inr (Sum.inr (Sum.inr (Sum.inr (Sum.inr (Sum.inr (Sum.inr (Sum.inl (v_1.1, v_1.2.1, v_1.2.2.1, v_1.2.2.2.1, v_1.2.2.2.2.1, v_1.2.2.2.2.2.1, v_1.2.2.2.2.2.2.1,
  v_1.2.2.2.2.2.2.2.1, v_1.2.2.2.2.2.2.2.2.1, ())))))))))) else K (Sum.inl (IntKind.wrap IntKind.i64 (v.1 + 1), ())) else K (Sum.inl (IntKind.wrap IntKind.i64 (v.1 + 1), ())) else K (Sum.inr (Sum.inr (Sum.inr (Sum.inr (Sum.inr (Sum.inr
  (Sum.inr (Sum.inr (Sum.inr ())))))))))
theorem impl_Engine_areTransactions_D2_nat : NatD impl_Engine_areTransactions_D2 := fun i v R K => nat_bif (nat_bind fun _ => nat_bind fun _ => nat_bif (nat_some) (nat_bif (nat_bind fun _ => nat_bif (nat_some) (nat_bif (nat_some) (nat_bif (nat_some) (nat_bif (nat_bind fun _ => nat_bif (nat_some) (nat_some)) (nat_some))))) (nat_bif (nat_some) (nat_bif (nat_some) (nat_bif (nat_bind fun _ => nat_bif (nat_some) (nat_some)) (nat_some)))))) (nat_some)
def q191_T2 : Tmpl := ⟨(.junk (.ptr 0 0 0 (jk 4 (.slot (Ty.slice (Ty.prod Ty.i (Ty.prod Ty.i (Ty.prod Ty.i (Ty.prod Ty.i (Ty.prod Ty.i (Ty.prod Ty.i (Ty.prod Ty.i (Ty.prod (Ty.slice
  YReadMark) (Ty.prod (Ty.slice YReadMark) Ty.unit)))))))))) (.slot Ty.i (.slot Ty.i (jk 53 .nil))))))), (.cells 6 (.slot (Ty.bool) (.slot (Ty.slice (Ty.slice YVersion)) (.slot (Ty.slice (Ty.prod Ty.i (Ty.prod Ty.i (Ty.prod Ty.i (Ty.prod Ty.i (Ty.prod Ty.i (Ty.prod Ty.i (Ty.prod Ty.i (Ty.prod (Ty.slice
  YReadMark) (Ty.prod (Ty.slice YReadMark) Ty.unit)))))))))) (.slot (Ty.slice YReadMark) (.slot (Ty.slice YReadMark) (.slot Ty.i .nil)))))) .nil)⟩
def q191_X2_0 (i : q191_I2) (p : Int × Int × Int × Int × Int × Int × Int × List (Int × Int × Unit) × List (Int × Int × Unit) × Unit) : St := ⟨jn 1 (AV.ptr 0 none 0 0 :: .b (false) :: jn 59 ([])), [some (Cont.cells 6 [[AV.pv Ty.bool i.2.2.1, AV.pv (Ty.slice (Ty.slice (Ty.prod Ty.i (Ty.prod Ty.i (Ty.prod Ty.i (Ty.prod (Ty.int
  IntKind.i64) (Ty.prod Ty.i Ty.unit))))))) i.2.2.2.1, AV.pv (Ty.slice (Ty.prod Ty.i (Ty.prod Ty.i (Ty.prod Ty.i (Ty.prod Ty.i (Ty.prod Ty.i
  (Ty.prod Ty.i (Ty.prod Ty.i (Ty.prod (Ty.slice YReadMark) (Ty.prod (Ty.slice YReadMark)
  Ty.unit)))))))))) i.2.2.2.2.1, AV.pv (Ty.slice YReadMark) i.2.2.2.2.2.1, AV.pv (Ty.slice YReadMark) i.2.2.2.2.2.2.1,
  AV.pv Ty.i i.2.2.2.2.2.2.2.1]]), some (Cont.cells 9 [[AV.pv Ty.i p.1, AV.pv Ty.i p.2.1, AV.pv Ty.i p.2.2.1, AV.pv Ty.i p.2.2.2.1, AV.pv Ty.i
  p.2.2.2.2.1, AV.pv Ty.i p.2.2.2.2.2.1, AV.pv Ty.i p.2.2.2.2.2.2.1, AV.pv (Ty.slice YReadMark) p.2.2.2.2.2.2.2.1, AV.pv (Ty.slice (Ty.prod (Ty.int
  IntKind.i64) (Ty.prod Ty.i Ty.unit))) p.2.2.2.2.2.2.2.2.1]])]⟩
def q191_X2_1 (i : q191_I2) (p : Int × Int × Int × Int × Int × Int × Int × List (Int × Int × Unit) × List (Int × Int × Unit) × Unit) : St := ⟨jn 1 (AV.ptr 0 none 0 0 :: .b (false) :: jn 59 ([])), [some (Cont.cells 6 [[AV.pv Ty.bool i.2.2.1, AV.pv (Ty.slice (Ty.slice (Ty.prod Ty.i (Ty.prod Ty.i (Ty.prod Ty.i (Ty.prod (Ty.int
  IntKind.i64) (Ty.prod Ty.i Ty.unit))))))) i.2.2.2.1, AV.pv (Ty.slice (Ty.prod Ty.i (Ty.prod Ty.i (Ty.prod Ty.i (Ty.prod Ty.i (Ty.prod Ty.i
  (Ty.prod Ty.i (Ty.prod Ty.i (Ty.prod (Ty.slice YReadMark) (Ty.prod (Ty.slice YReadMark)
  Ty.unit)))))))))) i.2.2.2.2.1, AV.pv (Ty.slice YReadMark) i.2.2.2.2.2.1, AV.pv (Ty.slice YReadMark) i.2.2.2.2.2.2.1,
  AV.pv Ty.i i.2.2.2.2.2.2.2.1]]), some (Cont.cells 9 [[AV.pv Ty.i p.1, AV.pv Ty.i p.2.1, AV.pv Ty.i p.2.2.1, AV.pv Ty.i p.2.2.2.1, AV.pv Ty.i
  p.2.2.2.2.1, AV.pv Ty.i p.2.2.2.2.2.1, AV.pv Ty.i p.2.2.2.2.2.2.1, AV.pv (Ty.slice YReadMark) p.2.2.2.2.2.2.2.1, AV.pv (Ty.slice (Ty.prod (Ty.int
  IntKind.i64) (Ty.prod Ty.i Ty.unit))) p.2.2.2.2.2.2.2.2.1]])]⟩
def q191_X2_2 (i : q191_I2) (p : Int × Int × Int × Int × Int × Int × Int × List (Int × Int × Unit) × List (Int × Int × Unit) × Unit) : St := ⟨jn 1 (AV.ptr 0 none 0 0 :: .b (false) :: jn 59 ([])), [some (Cont.cells 6 [[AV.pv Ty.bool i.2.2.1, AV.pv (Ty.slice (Ty.slice (Ty.prod Ty.i (Ty.prod Ty.i (Ty.prod Ty.i (Ty.prod (Ty.int
  IntKind.i64) (Ty.prod Ty.i Ty.unit))))))) i.2.2.2.1, AV.pv (Ty.slice (Ty.prod Ty.i (Ty.prod Ty.i (Ty.prod Ty.i (Ty.prod Ty.i (Ty.prod Ty.i
  (Ty.prod Ty.i (Ty.prod Ty.i (Ty.prod (Ty.slice YReadMark) (Ty.prod (Ty.slice YReadMark)
  Ty.unit)))))))))) i.2.2.2.2.1, AV.pv (Ty.slice YReadMark) i.2.2.2.2.2.1, AV.pv (Ty.slice YReadMark) i.2.2.2.2.2.2.1,
  AV.pv Ty.i i.2.2.2.2.2.2.2.1]]), some (Cont.cells 9 [[AV.pv Ty.i p.1, AV.pv Ty.i p.2.1, AV.pv Ty.i p.2.2.1, AV.pv Ty.i p.2.2.2.1, AV.pv Ty.i
  p.2.2.2.2.1, AV.pv Ty.i p.2.2.2.2.2.1, AV.pv Ty.i p.2.2.2.2.2.2.1, AV.pv (Ty.slice YReadMark) p.2.2.2.2.2.2.2.1, AV.pv (Ty.slice (Ty.prod (Ty.int
  IntKind.i64) (Ty.prod Ty.i Ty.unit))) p.2.2.2.2.2.2.2.2.1]])]⟩
def q191_X2_3 (i : q191_I2) (p : Int × Int × Int × Int × Int × Int × Int × List (Int × Int × Unit) × List (Int × Int × Unit) × Unit) : St := ⟨jn 1 (AV.ptr 0 none 0 0 :: .b (false) :: jn 59 ([])), [some (Cont.cells 6 [[AV.pv Ty.bool i.2.2.1, AV.pv (Ty.slice (Ty.slice (Ty.prod Ty.i (Ty.prod Ty.i (Ty.prod Ty.i (Ty.prod (Ty.int
  IntKind.i64) (Ty.prod Ty.i Ty.unit))))))) i.2.2.2.1, AV.pv (Ty.slice (Ty.prod Ty.i (Ty.prod Ty.i (Ty.prod Ty.i (Ty.prod Ty.i (Ty.prod Ty.i
  (Ty.prod Ty.i (Ty.prod Ty.i (Ty.prod (Ty.slice YReadMark) (Ty.prod (Ty.slice YReadMark)
  Ty.unit)))))))))) i.2.2.2.2.1, AV.pv (Ty.slice YReadMark) i.2.2.2.2.2.1, AV.pv (Ty.slice YReadMark) i.2.2.2.2.2.2.1,
  AV.pv Ty.i i.2.2.2.2.2.2.2.1]]), some (Cont.cells 9 [[AV.pv Ty.i p.1, AV.pv Ty.i p.2.1, AV.pv Ty.i p.2.2.1, AV.pv Ty.i p.2.2.2.1, AV.pv Ty.i
  p.2.2.2.2.1, AV.pv Ty.i p.2.2.2.2.2.1, AV.pv Ty.i p.2.2.2.2.2.2.1, AV.pv (Ty.slice YReadMark) p.2.2.2.2.2.2.2.1, AV.pv (Ty.slice (Ty.prod (Ty.int
  IntKind.i64) (Ty.prod Ty.i Ty.unit))) p.2.2.2.2.2.2.2.2.1]])]⟩
def q191_X2_4 (i : q191_I2) (p : Int × Int × Int × Int × Int × Int × Int × List (Int × Int × Unit) × List (Int × Int × Unit) × Unit) : St := ⟨jn 1 (AV.ptr 0 none 0 0 :: .b (false) :: jn 59 ([])), [some (Cont.cells 6 [[AV.pv Ty.bool i.2.2.1, AV.pv (Ty.slice (Ty.slice (Ty.prod Ty.i (Ty.prod Ty.i (Ty.prod Ty.i (Ty.prod (Ty.int
  IntKind.i64) (Ty.prod Ty.i Ty.unit))))))) i.2.2.2.1, AV.pv (Ty.slice (Ty.prod Ty.i (Ty.prod Ty.i (Ty.prod Ty.i (Ty.prod Ty.i (Ty.prod Ty.i
  (Ty.prod Ty.i (Ty.prod Ty.i (Ty.prod (Ty.slice YReadMark) (Ty.prod (Ty.slice YReadMark)
  Ty.unit)))))))))) i.2.2.2.2.1, AV.pv (Ty.slice YReadMark) i.2.2.2.2.2.1, AV.pv (Ty.slice YReadMark) i.2.2.2.2.2.2.1,
  AV.pv Ty.i i.2.2.2.2.2.2.2.1]]), some (Cont.cells 9 [[AV.pv Ty.i p.1, AV.pv Ty.i p.2.1, AV.pv Ty.i p.2.2.1, AV.pv Ty.i p.2.2.2.1, AV.pv Ty.i
  p.2.2.2.2.1, AV.pv Ty.i p.2.2.2.2.2.1, AV.pv Ty.i p.2.2.2.2.2.2.1, AV.pv (Ty.slice YReadMark) p.2.2.2.2.2.2.2.1, AV.pv (Ty.slice (Ty.prod (Ty.int
  IntKind.i64) (Ty.prod Ty.i Ty.unit))) p.2.2.2.2.2.2.2.2.1]])]⟩
def q191_X2_5 (i : q191_I2) (p : Int × Int × Int × Int × Int × Int × Int × List (Int × Int × Unit) × List (Int × Int × Unit) × Unit) : St := ⟨jn 1 (AV.ptr 0 none 0 0 :: .b (false) :: jn 59 ([])), [some (Cont.cells 6 [[AV.pv Ty.bool i.2.2.1, AV.pv (Ty.slice (Ty.slice (Ty.prod Ty.i (Ty.prod Ty.i (Ty.prod Ty.i (Ty.prod (Ty.int
  IntKind.i64) (Ty.prod Ty.i Ty.unit))))))) i.2.2.2.1, AV.pv (Ty.slice (Ty.prod Ty.i (Ty.prod Ty.i (Ty.prod Ty.i (Ty.prod Ty.i (Ty.prod Ty.i
  (Ty.prod Ty.i (Ty.prod Ty.i (Ty.prod (Ty.slice YReadMark) (Ty.prod (Ty.slice YReadMark)
  Ty.unit)))))))))) i.2.2.2.2.1, AV.pv (Ty.slice YReadMark) i.2.2.2.2.2.1, AV.pv (Ty.slice YReadMark) i.2.2.2.2.2.2.1,
  AV.pv Ty.i i.2.2.2.2.2.2.2.1]]), some (Cont.cells 9 [[AV.pv Ty.i p.1, AV.pv Ty.i p.2.1, AV.pv Ty.i p.2.2.1, AV.pv Ty.i p.2.2.2.1, AV.pv Ty.i
  p.2.2.2.2.1, AV.pv Ty.i p.2.2.2.2.2.1, AV.pv Ty.i p.2.2.2.2.2.2.1, AV.pv (Ty.slice YReadMark) p.2.2.2.2.2.2.2.1, AV.pv (Ty.slice (Ty.prod (Ty.int
  IntKind.i64) (Ty.prod Ty.i Ty.unit))) p.2.2.2.2.2.2.2.2.1]])]⟩
def q191_X2_6 (i : q191_I2) (p : Int × Int × Int × Int × Int × Int × Int × List (Int × Int × Unit) × List (Int × Int × Unit) × Unit) : St := ⟨jn 1 (AV.ptr 0 none 0 0 :: .b (false) :: jn 59 ([])), [some (Cont.cells 6 [[AV.pv Ty.bool i.2.2.1, AV.pv (Ty.slice (Ty.slice (Ty.prod Ty.i (Ty.prod Ty.i (Ty.prod Ty.i (Ty.prod (Ty.int
  IntKind.i64) (Ty.prod Ty.i Ty.unit))))))) i.2.2.2.1, AV.pv (Ty.slice (Ty.prod Ty.i (Ty.prod Ty.i (Ty.prod Ty.i (Ty.prod Ty.i (Ty.prod Ty.i
  (Ty.prod Ty.i (Ty.prod Ty.i (Ty.prod (Ty.slice YReadMark) (Ty.prod (Ty.slice YReadMark)
  Ty.unit)))))))))) i.2.2.2.2.1, AV.pv (Ty.slice YReadMark) i.2.2.2.2.2.1, AV.pv (Ty.slice YReadMark) i.2.2.2.2.2.2.1,
  AV.pv Ty.i i.2.2.2.2.2.2.2.1]]), some (Cont.cells 9 [[AV.pv Ty.i p.1, AV.pv Ty.i p.2.1, AV.pv Ty.i p.2.2.1, AV.pv Ty.i p.2.2.2.1, AV.pv Ty.i
  p.2.2.2.2.1, AV.pv Ty.i p.2.2.2.2.2.1, AV.pv Ty.i p.2.2.2.2.2.2.1, AV.pv (Ty.slice YReadMark) p.2.2.2.2.2.2.2.1, AV.pv (Ty.slice (Ty.prod (Ty.int
  IntKind.i64) (Ty.prod Ty.i Ty.unit))) p.2.2.2.2.2.2.2.2.1]])]⟩
def q191_X2_7 (i : q191_I2) (p : Int × Int × Int × Int × Int × Int × Int × List (Int × Int × Unit) × List (Int × Int × Unit) × Unit) : St := ⟨jn 1 (AV.ptr 0 none 0 0 :: .b (false) :: jn 59 ([])), [some (Cont.cells 6 [[AV.pv Ty.bool i.2.2.1, AV.pv (Ty.slice (Ty.slice (Ty.prod Ty.i (Ty.prod Ty.i (Ty.prod Ty.i (Ty.prod (Ty.int
  IntKind.i64) (Ty.prod Ty.i Ty.unit))))))) i.2.2.2.1, AV.pv (Ty.slice (Ty.prod Ty.i (Ty.prod Ty.i (Ty.prod Ty.i (Ty.prod Ty.i (Ty.prod Ty.i
  (Ty.prod Ty.i (Ty.prod Ty.i (Ty.prod (Ty.slice YReadMark) (Ty.prod (Ty.slice YReadMark)
  Ty.unit)))))))))) i.2.2.2.2.1, AV.pv (Ty.slice YReadMark) i.2.2.2.2.2.1, AV.pv (Ty.slice YReadMark) i.2.2.2.2.2.2.1,
  AV.pv Ty.i i.2.2.2.2.2.2.2.1]]), some (Cont.cells 9 [[AV.pv Ty.i p.1, AV.pv Ty.i p.2.1, AV.pv Ty.i p.2.2.1, AV.pv Ty.i p.2.2.2.1, AV.pv Ty.i
  p.2.2.2.2.1, AV.pv Ty.i p.2.2.2.2.2.1, AV.pv Ty.i p.2.2.2.2.2.2.1, AV.pv (Ty.slice YReadMark) p.2.2.2.2.2.2.2.1, AV.pv (Ty.slice (Ty.prod (Ty.int
  IntKind.i64) (Ty.prod Ty.i Ty.unit))) p.2.2.2.2.2.2.2.2.1]])]⟩
def q191_X2_8 (i : q191_I2) (p : Unit) : St := ⟨jn 1 (AV.ptr 0 none 0 0 :: jn 60 ([])), [some (Cont.cells 6 [[AV.pv Ty.bool i.2.2.1, AV.pv (Ty.slice (Ty.slice (Ty.prod Ty.i (Ty.prod Ty.i (Ty.prod Ty.i (Ty.prod Ty.i (Ty.prod
  Ty.i Ty.unit))))))) i.2.2.2.1, AV.pv (Ty.slice (Ty.prod Ty.i (Ty.prod Ty.i (Ty.prod Ty.i (Ty.prod Ty.i (Ty.prod Ty.i (Ty.prod (Ty.int
  IntKind.i64) (Ty.prod Ty.i (Ty.prod (Ty.slice YReadMark) (Ty.prod (Ty.slice YReadMark) Ty.unit))))))))))
  i.2.2.2.2.1, AV.pv (Ty.slice YReadMark) i.2.2.2.2.2.1, AV.pv (Ty.slice YReadMark) i.2.2.2.2.2.2.1, AV.pv (Ty.int
  IntKind.i64) i.2.2.2.2.2.2.2.1]])]⟩
noncomputable def q191_E2 (i : q191_I2) (p : q191_Q2) (R : Type) (K : Ex → St → Option R) : Option R := sumC p (fun p => K (Ex.ret) (q191_X2_0 i p)) fun p => sumC p (fun p => K (Ex.ret) (q191_X2_1 i p)) fun p => sumC p (fun p => K (Ex.ret) (q191_X2_2 i p)) fun p => sumC p (fun p => K (Ex.ret) (q191_X2_3 i p)) fun p => sumC p (fun p => K (Ex.ret) (q191_X2_4 i p)) fun p => sumC p (fun p => K (Ex.ret) (q191_X2_5 i p)) fun p => sumC p (fun p => K (Ex.ret) (q191_X2_6 i p)) fun p => sumC p (fun p => K (Ex.ret) (q191_X2_7 i p)) fun p => K (Ex.exit 0) (q191_X2_8 i p)
noncomputable def q191_K2 (i : q191_I2) (p : q191_Q2) : Ex × St := sumC p (fun p => (Ex.ret, q191_X2_0 i p)) fun p => sumC p (fun p => (Ex.ret, q191_X2_1 i p)) fun p => sumC p (fun p => (Ex.ret, q191_X2_2 i p)) fun p => sumC p (fun p => (Ex.ret, q191_X2_3 i p)) fun p => sumC p (fun p => (Ex.ret, q191_X2_4 i p)) fun p => sumC p (fun p => (Ex.ret, q191_X2_5 i p)) fun p => sumC p (fun p => (Ex.ret, q191_X2_6 i p)) fun p => sumC p (fun p => (Ex.ret, q191_X2_7 i p)) fun p => (Ex.exit 0, q191_X2_8 i p)
def q191_M2 (i : q191_I2) (v : q191_V2) : den q191_T2.ty := (i.1, i.2.1, v.1, i.2.2.1, i.2.2.2.1, i.2.2.2.2.1, i.2.2.2.2.2.1, i.2.2.2.2.2.2.1, i.2.2.2.2.2.2.2.1, ())
def q191_P2 (x : den q191_T2.ty) : q191_I2 × q191_V2 := ((x.1, x.2.1, x.2.2.2.1, x.2.2.2.2.1, x.2.2.2.2.2.1, x.2.2.2.2.2.2.1, x.2.2.2.2.2.2.2.1, x.2.2.2.2.2.2.2.2.1, ()), (x.2.2.1, ()))
noncomputable def q191_C : Cfg := { ti := g_tis, ents := [q182_Ent, q190_Ent], ann := [(2, loopFn q191_T2 0 q191_P2 impl_Engine_areTransactions_D2 q191_E2)], lent := 0 }
def q191_ti : Tmpl := ⟨(.slot (Ty.prod Ty.bool (Ty.prod YStore (Ty.prod
  (Ty.slice (Ty.prod Ty.i (Ty.prod Ty.i (Ty.prod Ty.i (Ty.prod Ty.i (Ty.prod Ty.i (Ty.prod Ty.i (Ty.prod Ty.i (Ty.prod (Ty.slice
  YReadMark) (Ty.prod (Ty.slice YReadMark) Ty.unit)))))))))) (Ty.prod (Ty.slice (Ty.prod Ty.i (Ty.prod
  Ty.i Ty.unit))) (Ty.prod (Ty.slice YReadMark) (Ty.prod Ty.i Ty.unit)))))) .nil), .nil⟩
def q191_to : Tmpl := ⟨(.slot (Ty.bool) .nil), .nil⟩
noncomputable def impl_Engine_areTransactions_S (x : (Bool × (List (List (Int × Int × Int × Int × Int × Unit)) × Unit) × List (Int × Int × Int × Int × Int × Int × Int × List (Int × Int × Unit) × List (Int × Int × Unit) × Unit) × List (Int × Int × Unit) × List (Int × Int × Unit) × Int × Unit) ×
  Unit) : Option (Bool × Unit) :=
  Option.bind (iter (fun v => impl_Engine_areTransactions_D2 (x.1.2.2.1, (↑(List.length x.1.2.2.1) : Int), x.1.1, x.1.2.1.1, x.1.2.2.1, x.1.2.2.2.1, x.1.2.2.2.2.1, x.1.2.2.2.2.2.1, ()) v _ some) (0, ())) fun p => sumC p (fun p =>
  some (false, ())) fun p => sumC p (fun p => some (false, ())) fun p => sumC p (fun p => some (false, ())) fun p => sumC p (fun p => some (false, ())) fun p => sumC p (fun p => some (false, ())) fun p => sumC p (fun p => some (false, ())) fun
  p => sumC p (fun p => some (false, ())) fun p => sumC p (fun p => some (false, ())) fun p => some (decide ((↑(List.length x.1.2.2.1) : Int) ≤ 6), ())
noncomputable def q191_Ent : Ent := ⟨250, q191_ti, q191_to, impl_Engine_areTransactions_S⟩
theorem q191_HC : CfgOK Tryz.prog q191_C := hc_of g_tisOK g_wide (all_cons q182_OK (all_cons q190_OK all_nil))
theorem q191_lk2 : LkOK Tryz.prog q191_C (lpc Tryz.f250 0) :=
  lk_of q191_HC (m := 0) (T := q191_T2) (sp := q191_P2) (D := impl_Engine_areTransactions_D2) (E := q191_E2) (by kernel_rfl) (by kernel_rfl) (fun k hk => absurd hk (Nat.not_lt_zero k)) [1, 2] q191_M2 (fun x => rfl) impl_Engine_areTransactions_D2_nat q191_K2 (fun i p R K => by rcases p with p | p | p | p | p | p | p | p | p <;> rfl) (fun i v => by kernel_rfl)
theorem q191_OK : EntOK Tryz.prog q191_Ent := ok_of q191_HC Tryz.func250 1 (by kernel_rfl) (fun k hk => match k, hk with | 0, _ => q191_lk2) (by kernel_rfl) (by kernel_rfl) (fun x => by kernel_rfl)
noncomputable def q192_C : Cfg := { ti := g_tis, ents := [], ann := [], lent := 0 }
def q192_ti : Tmpl := ⟨(.slot (Ty.prod Ty.i (Ty.prod Ty.i (Ty.prod Ty.i (Ty.prod Ty.i (Ty.prod Ty.i (Ty.prod Ty.i (Ty.prod Ty.i (Ty.prod (Ty.slice (Ty.prod
  Ty.i (Ty.prod Ty.i Ty.unit))) (Ty.prod (Ty.slice YReadMark) Ty.unit))))))))) (.slot (Ty.iref Ty.i) .nil)), .nil⟩
def q192_to : Tmpl := ⟨(.slot (Ty.bool) .nil), .nil⟩
noncomputable def impl_FindTransaction_1_S (x : (Int × Int × Int × Int × Int × Int × Int × List (Int × Int × Unit) × List (Int × Int × Unit) × Unit) × Option Int × Unit) : Option (Bool × Unit) :=
  Option.bind x.2.1 fun v => some (x.1.1 == v, ())
noncomputable def q192_Ent : Ent := ⟨296, q192_ti, q192_to, impl_FindTransaction_1_S⟩
theorem q192_HC : CfgOK Tryz.prog q192_C := hc_of g_tisOK g_wide all_nil
theorem q192_OK : EntOK Tryz.prog q192_Ent := ok_of q192_HC Tryz.func296 0 (by kernel_rfl) (fun k hk => absurd hk (Nat.not_lt_zero k)) (by kernel_rfl) (by kernel_rfl) (fun x => by kernel_rfl)
abbrev q193_I2 : Type := List (Int × Int × Int × Int × Int × Int × Int × List (Int × Int × Unit) × List (Int × Int × Unit) × Unit) × (Option Int × Unit) × Int × Unit
abbrev q193_V2 : Type := Int × Unit
abbrev q193_Q2 : Type := Int × Unit ⊕ Unit
noncomputable def slices_IndexFunc__impl_FindTransaction_1_D2 (i : q193_I2) (v : q193_V2) (R : Type) (K : q193_V2 ⊕ q193_Q2 → Option R) : Option R :=
  bif decide (v.1 < i.2.2.1) then Option.bind (lAt i.1 v.1) fun v_1 => Option.bind (impl_FindTransaction_1_S ((v_1.1, v_1.2.1, v_1.2.2.1, v_1.2.2.2.1, v_1.2.2.2.2.1, v_1.2.2.2.2.2.1, v_1.2.2.2.2.2.2.1, v_1.2.2.2.2.2.2.2.1,
  v_1.2.2.2.2.2.2.2.2.1, ()), i.2.1.1, ())) fun v_2 => bif v_2.1 then K (Sum.inr (Sum.inl (v.1, ()))) else K (Sum.inl (IntKind.wrap IntKind.i64 (v.1 + 1), ())) else K (Sum.inr (Sum.inr ()))
theorem slices_IndexFunc__impl_FindTransaction_1_D2_nat : NatD slices_IndexFunc__impl_FindTransaction_1_D2 := fun i v R K => nat_bif (nat_bind fun _ => nat_bind fun _ => nat_bif (nat_some) (nat_some)) (nat_some)
def q193_T2 : Tmpl := ⟨(.slot (Ty.slice (Ty.prod Ty.i (Ty.prod Ty.i (Ty.prod Ty.i (Ty.prod Ty.i (Ty.prod Ty.i (Ty.prod Ty.i (Ty.prod Ty.i (Ty.prod (Ty.slice
  YReadMark) (Ty.prod (Ty.slice YReadMark) Ty.unit)))))))))) (.slot (Ty.fn 296 (Ty.prod (Ty.iref Ty.i) Ty.unit)) (jk 5 (.slot Ty.i (.slot Ty.i (jk 10 .nil)))))), .nil⟩
def q193_X2_0 (i : q193_I2) (p : Int × Unit) : St := ⟨jn 4 (.n (p.1) :: jn 14 ([])), []⟩
def q193_X2_1 (i : q193_I2) (p : Unit) : St := ⟨jn 19 ([]), []⟩
noncomputable def q193_E2 (i : q193_I2) (p : q193_Q2) (R : Type) (K : Ex → St → Option R) : Option R := sumC p (fun p => K (Ex.ret) (q193_X2_0 i p)) fun p => K (Ex.exit 0) (q193_X2_1 i p)
noncomputable def q193_K2 (i : q193_I2) (p : q193_Q2) : Ex × St := sumC p (fun p => (Ex.ret, q193_X2_0 i p)) fun p => (Ex.exit 0, q193_X2_1 i p)
def q193_M2 (i : q193_I2) (v : q193_V2) : den q193_T2.ty := (i.1, i.2.1, i.2.2.1, v.1, ())
def q193_P2 (x : den q193_T2.ty) : q193_I2 × q193_V2 := ((x.1, x.2.1, x.2.2.1, ()), (x.2.2.2.1, ()))
noncomputable def q193_C : Cfg := { ti := g_tis, ents := [q192_Ent], ann := [(2, loopFn q193_T2 0 q193_P2 slices_IndexFunc__impl_FindTransaction_1_D2 q193_E2)], lent := 0 }
def q193_ti : Tmpl := ⟨(.slot (Ty.slice (Ty.prod Ty.i (Ty.prod Ty.i (Ty.prod Ty.i (Ty.prod Ty.i (Ty.prod Ty.i (Ty.prod Ty.i (Ty.prod Ty.i (Ty.prod (Ty.slice
  YReadMark) (Ty.prod (Ty.slice YReadMark) Ty.unit)))))))))) (.slot (Ty.fn 296 (Ty.prod (Ty.iref Ty.i) Ty.unit)) .nil)), .nil⟩
def q193_to : Tmpl := ⟨(.slot Ty.i .nil), .nil⟩
noncomputable def slices_IndexFunc__impl_FindTransaction_1_S (x : List (Int × Int × Int × Int × Int × Int × Int × List (Int × Int × Unit) × List (Int × Int × Unit) × Unit) × (Option Int × Unit) × Unit) : Option (Int × Unit) :=
  Option.bind (iter (fun v => slices_IndexFunc__impl_FindTransaction_1_D2 (x.1, x.2.1, (↑(List.length x.1) : Int), ()) v _ some) (0, ())) fun p => sumC p (fun p => some (p.1, ())) fun p => some (-1, ())
noncomputable def q193_Ent : Ent := ⟨295, q193_ti, q193_to, slices_IndexFunc__impl_FindTransaction_1_S⟩
theorem q193_HC : CfgOK Tryz.prog q193_C := hc_of g_tisOK g_wide (all_cons q192_OK all_nil)
theorem q193_lk2 : LkOK Tryz.prog q193_C (lpc Tryz.f295 0) :=
  lk_of q193_HC (m := 0) (T := q193_T2) (sp := q193_P2) (D := slices_IndexFunc__impl_FindTransaction_1_D2) (E := q193_E2) (by kernel_rfl) (by kernel_rfl) (fun k hk => absurd hk (Nat.not_lt_zero k)) [4] q193_M2 (fun x => rfl) slices_IndexFunc__impl_FindTransaction_1_D2_nat q193_K2 (fun i p R K => by rcases p with p | p <;> rfl) (fun i v => by kernel_rfl)
theorem q193_OK : EntOK Tryz.prog q193_Ent := ok_of q193_HC Tryz.func295 1 (by kernel_rfl) (fun k hk => match k, hk with | 0, _ => q193_lk2) (by kernel_rfl) (by kernel_rfl) (fun x => by kernel_rfl)
noncomputable def q194_C : Cfg := { ti := g_tis, ents := [q193_Ent], ann := [], lent := 0 }
def q194_ti : Tmpl := ⟨(.slot (Ty.prod Ty.bool (Ty.prod YStore (Ty.prod
  (Ty.slice (Ty.prod Ty.i (Ty.prod Ty.i (Ty.prod Ty.i (Ty.prod Ty.i (Ty.prod Ty.i (Ty.prod Ty.i (Ty.prod Ty.i (Ty.prod (Ty.slice
  YReadMark) (Ty.prod (Ty.slice YReadMark) Ty.unit)))))))))) (Ty.prod (Ty.slice (Ty.prod Ty.i (Ty.prod
  Ty.i Ty.unit))) (Ty.prod (Ty.slice YReadMark) (Ty.prod Ty.i Ty.unit)))))) (.slot Ty.i .nil)), .nil⟩
def q194_to : Tmpl := ⟨(.slot Ty.i .nil), .nil⟩
noncomputable def impl_FindTransaction_S (x : (Bool × (List (List (Int × Int × Int × Int × Int × Unit)) × Unit) × List (Int × Int × Int × Int × Int × Int × Int × List (Int × Int × Unit) × List (Int × Int × Unit) × Unit) × List (Int × Int × Unit) × List (Int × Int × Unit) × Int × Unit) ×
  Int × Unit) : Option (Int × Unit) :=
  Option.bind (slices_IndexFunc__impl_FindTransaction_1_S (x.1.2.2.1, (some x.2.1, ()), ())) fun v => some (v.1, ())
noncomputable def q194_Ent : Ent := ⟨206, q194_ti, q194_to, impl_FindTransaction_S⟩
theorem q194_HC : CfgOK Tryz.prog q194_C := hc_of g_tisOK g_wide (all_cons q193_OK all_nil)
theorem q194_OK : EntOK Tryz.prog q194_Ent := ok_of q194_HC Tryz.func206 0 (by kernel_rfl) (fun k hk => absurd hk (Nat.not_lt_zero k)) (by kernel_rfl) (by kernel_rfl) (fun x => by kernel_rfl)
noncomputable def q195_C : Cfg := { ti := g_tis, ents := [q194_Ent], ann := [], lent := 0 }
def q195_ti : Tmpl := ⟨(.slot (Ty.prod Ty.bool (Ty.prod YStore (Ty.prod
  (Ty.slice (Ty.prod Ty.i (Ty.prod Ty.i (Ty.prod Ty.i (Ty.prod Ty.i (Ty.prod Ty.i (Ty.prod Ty.i (Ty.prod Ty.i (Ty.prod (Ty.slice
  YReadMark) (Ty.prod (Ty.slice YReadMark) Ty.unit)))))))))) (Ty.prod (Ty.slice (Ty.prod Ty.i (Ty.prod
  Ty.i Ty.unit))) (Ty.prod (Ty.slice YReadMark) (Ty.prod Ty.i Ty.unit)))))) (.slot Ty.i .nil)), .nil⟩
def q195_to : Tmpl := ⟨(.slot (Ty.bool) .nil), .nil⟩
noncomputable def impl_Engine_isActive_S (x : (Bool × (List (List (Int × Int × Int × Int × Int × Unit)) × Unit) × List (Int × Int × Int × Int × Int × Int × Int × List (Int × Int × Unit) × List (Int × Int × Unit) × Unit) × List (Int × Int × Unit) × List (Int × Int × Unit) × Int × Unit) ×
  Int × Unit) : Option (Bool × Unit) :=
  Option.bind (impl_FindTransaction_S ((x.1.1, (x.1.2.1.1, ()), x.1.2.2.1, x.1.2.2.2.1, x.1.2.2.2.2.1, x.1.2.2.2.2.2.1, ()), x.2.1, ())) fun v => bif decide (v.1 ≥ 0) then Option.bind (lAt x.1.2.2.1 v.1) fun v => some (v.2.2.1 == 1, ()) else
  some (false, ())
noncomputable def q195_Ent : Ent := ⟨205, q195_ti, q195_to, impl_Engine_isActive_S⟩
theorem q195_HC : CfgOK Tryz.prog q195_C := hc_of g_tisOK g_wide (all_cons q194_OK all_nil)
theorem q195_OK : EntOK Tryz.prog q195_Ent := ok_of q195_HC Tryz.func205 0 (by kernel_rfl) (fun k hk => absurd hk (Nat.not_lt_zero k)) (by kernel_rfl) (by kernel_rfl) (fun x => by kernel_rfl)
noncomputable def q196_C : Cfg := { ti := g_tis, ents := [q195_Ent], ann := [], lent := 0 }
def q196_ti : Tmpl := ⟨(.slot YReadMark (.slot (Ty.iref (Ty.prod Ty.bool (Ty.prod YStore
  (Ty.prod (Ty.slice (Ty.prod Ty.i (Ty.prod Ty.i (Ty.prod Ty.i (Ty.prod Ty.i (Ty.prod Ty.i (Ty.prod Ty.i (Ty.prod Ty.i (Ty.prod
  (Ty.slice YReadMark) (Ty.prod (Ty.slice YReadMark) Ty.unit)))))))))) (Ty.prod (Ty.slice (Ty.prod Ty.i
  (Ty.prod Ty.i Ty.unit))) (Ty.prod (Ty.slice YReadMark) (Ty.prod Ty.i Ty.unit))))))) .nil)), .nil⟩
def q196_to : Tmpl := ⟨(.slot (Ty.bool) .nil), .nil⟩
noncomputable def impl_IsValidEngine_1_S (x : (Int × Int × Unit) × Option (Bool × (List (List (Int × Int × Int × Int × Int × Unit)) × Unit) × List (Int × Int × Int × Int × Int × Int × Int × List (Int × Int × Unit) × List (Int × Int × Unit) × Unit) × List (Int × Int × Unit) × List (Int ×
  Int × Unit) × Int × Unit) × Unit) : Option (Bool × Unit) :=
  Option.bind x.2.1 fun v => Option.bind (impl_Engine_isActive_S ((v.1, (v.2.1.1, ()), v.2.2.1, v.2.2.2.1, v.2.2.2.2.1, v.2.2.2.2.2.1, ()), x.1.2.1, ())) fun v => some (!v.1, ())
noncomputable def q196_Ent : Ent := ⟨252, q196_ti, q196_to, impl_IsValidEngine_1_S⟩
theorem q196_HC : CfgOK Tryz.prog q196_C := hc_of g_tisOK g_wide (all_cons q195_OK all_nil)
theorem q196_OK : EntOK Tryz.prog q196_Ent := ok_of q196_HC Tryz.func252 0 (by kernel_rfl) (fun k hk => absurd hk (Nat.not_lt_zero k)) (by kernel_rfl) (by kernel_rfl) (fun x => by kernel_rfl)
abbrev q197_I2 : Type := List (Int × Int × Unit) × (Option (Bool × (List (List (Int × Int × Int × Int × Int × Unit)) × Unit) × List (Int × Int × Int × Int × Int × Int × Int × List (Int × Int × Unit) × List (Int × Int × Unit) × Unit) × List (Int × Int × Unit) × List
  (Int × Int × Unit) × Int × Unit) × Unit) × Int × Unit
abbrev q197_V2 : Type := Int × Unit
abbrev q197_Q2 : Type := Int × Unit ⊕ Unit
noncomputable def slices_IndexFunc__impl_IsValidEngine_1_D2 (i : q197_I2) (v : q197_V2) (R : Type) (K : q197_V2 ⊕ q197_Q2 → Option R) : Option R :=
  bif decide (v.1 < i.2.2.1) then Option.bind (lAt i.1 v.1) fun v_1 => Option.bind (impl_IsValidEngine_1_S ((v_1.1, v_1.2.1, ()), i.2.1.1, ())) fun v_2 => bif v_2.1 then K (Sum.inr (Sum.inl (v.1, ()))) else K (Sum.inl (IntKind.wrap IntKind.i64
  (v.1 + 1), ())) else K (Sum.inr (Sum.inr ()))
theorem slices_IndexFunc__impl_IsValidEngine_1_D2_nat : NatD slices_IndexFunc__impl_IsValidEngine_1_D2 := fun i v R K => nat_bif (nat_bind fun _ => nat_bind fun _ => nat_bif (nat_some) (nat_some)) (nat_some)
def q197_T2 : Tmpl := ⟨(.slot (Ty.slice YReadMark) (.slot (Ty.fn 252 (Ty.prod (Ty.iref (Ty.prod Ty.bool (Ty.prod (Ty.prod (Ty.slice (Ty.slice (Ty.prod Ty.i (Ty.prod Ty.i (Ty.prod Ty.i (Ty.prod Ty.i (Ty.prod Ty.i
  Ty.unit))))))) Ty.unit) (Ty.prod (Ty.slice (Ty.prod Ty.i (Ty.prod Ty.i (Ty.prod Ty.i (Ty.prod Ty.i (Ty.prod Ty.i (Ty.prod Ty.i (Ty.prod (Ty.int
  IntKind.i64) (Ty.prod (Ty.slice YReadMark) (Ty.prod (Ty.slice YReadMark) Ty.unit)))))))))) (Ty.prod (Ty.slice (Ty.prod
  Ty.i (Ty.prod Ty.i Ty.unit))) (Ty.prod (Ty.slice YReadMark) (Ty.prod Ty.i Ty.unit))))))) Ty.unit)) (jk 5 (.slot Ty.i (.slot Ty.i (jk 10 .nil)))))), .nil⟩
def q197_X2_0 (i : q197_I2) (p : Int × Unit) : St := ⟨jn 4 (.n (p.1) :: jn 14 ([])), []⟩
def q197_X2_1 (i : q197_I2) (p : Unit) : St := ⟨jn 19 ([]), []⟩
noncomputable def q197_E2 (i : q197_I2) (p : q197_Q2) (R : Type) (K : Ex → St → Option R) : Option R := sumC p (fun p => K (Ex.ret) (q197_X2_0 i p)) fun p => K (Ex.exit 0) (q197_X2_1 i p)
noncomputable def q197_K2 (i : q197_I2) (p : q197_Q2) : Ex × St := sumC p (fun p => (Ex.ret, q197_X2_0 i p)) fun p => (Ex.exit 0, q197_X2_1 i p)
def q197_M2 (i : q197_I2) (v : q197_V2) : den q197_T2.ty := (i.1, i.2.1, i.2.2.1, v.1, ())
def q197_P2 (x : den q197_T2.ty) : q197_I2 × q197_V2 := ((x.1, x.2.1, x.2.2.1, ()), (x.2.2.2.1, ()))
noncomputable def q197_C : Cfg := { ti := g_tis, ents := [q196_Ent], ann := [(2, loopFn q197_T2 0 q197_P2 slices_IndexFunc__impl_IsValidEngine_1_D2 q197_E2)], lent := 0 }
def q197_ti : Tmpl := ⟨(.slot (Ty.slice YReadMark) (.slot (Ty.fn 252 (Ty.prod (Ty.iref (Ty.prod Ty.bool (Ty.prod (Ty.prod (Ty.slice (Ty.slice (Ty.prod Ty.i (Ty.prod Ty.i (Ty.prod Ty.i (Ty.prod Ty.i (Ty.prod Ty.i
  Ty.unit))))))) Ty.unit) (Ty.prod (Ty.slice (Ty.prod Ty.i (Ty.prod Ty.i (Ty.prod Ty.i (Ty.prod Ty.i (Ty.prod Ty.i (Ty.prod Ty.i (Ty.prod (Ty.int
  IntKind.i64) (Ty.prod (Ty.slice YReadMark) (Ty.prod (Ty.slice YReadMark) Ty.unit)))))))))) (Ty.prod (Ty.slice (Ty.prod
  Ty.i (Ty.prod Ty.i Ty.unit))) (Ty.prod (Ty.slice YReadMark) (Ty.prod Ty.i Ty.unit))))))) Ty.unit)) .nil)), .nil⟩
def q197_to : Tmpl := ⟨(.slot Ty.i .nil), .nil⟩
noncomputable def slices_IndexFunc__impl_IsValidEngine_1_S (x : List (Int × Int × Unit) × (Option (Bool × (List (List (Int × Int × Int × Int × Int × Unit)) × Unit) × List (Int × Int × Int × Int × Int × Int × Int × List (Int × Int × Unit) × List (Int × Int × Unit) × Unit) × List (Int × Int × Unit) × List
  (Int × Int × Unit) × Int × Unit) × Unit) × Unit) : Option (Int × Unit) :=
  Option.bind (iter (fun v => slices_IndexFunc__impl_IsValidEngine_1_D2 (x.1, x.2.1, (↑(List.length x.1) : Int), ()) v _ some) (0, ())) fun p => sumC p (fun p => some (p.1, ())) fun p => some (-1, ())
noncomputable def q197_Ent : Ent := ⟨332, q197_ti, q197_to, slices_IndexFunc__impl_IsValidEngine_1_S⟩
theorem q197_HC : CfgOK Tryz.prog q197_C := hc_of g_tisOK g_wide (all_cons q196_OK all_nil)
theorem q197_lk2 : LkOK Tryz.prog q197_C (lpc Tryz.f332 0) :=
  lk_of q197_HC (m := 0) (T := q197_T2) (sp := q197_P2) (D := slices_IndexFunc__impl_IsValidEngine_1_D2) (E := q197_E2) (by kernel_rfl) (by kernel_rfl) (fun k hk => absurd hk (Nat.not_lt_zero k)) [4] q197_M2 (fun x => rfl) slices_IndexFunc__impl_IsValidEngine_1_D2_nat q197_K2 (fun i p R K => by rcases p with p | p <;> rfl) (fun i v => by kernel_rfl)
theorem q197_OK : EntOK Tryz.prog q197_Ent := ok_of q197_HC Tryz.func332 1 (by kernel_rfl) (fun k hk => match k, hk with | 0, _ => q197_lk2) (by kernel_rfl) (by kernel_rfl) (fun x => by kernel_rfl)
noncomputable def q198_C : Cfg := { ti := g_tis, ents := [q197_Ent], ann := [], lent := 0 }
def q198_ti : Tmpl := ⟨(.slot (Ty.slice YReadMark) (.slot (Ty.fn 252 (Ty.prod (Ty.iref (Ty.prod Ty.bool (Ty.prod (Ty.prod (Ty.slice (Ty.slice (Ty.prod Ty.i (Ty.prod Ty.i (Ty.prod Ty.i (Ty.prod Ty.i (Ty.prod Ty.i
  Ty.unit))))))) Ty.unit) (Ty.prod (Ty.slice (Ty.prod Ty.i (Ty.prod Ty.i (Ty.prod Ty.i (Ty.prod Ty.i (Ty.prod Ty.i (Ty.prod Ty.i (Ty.prod (Ty.int
  IntKind.i64) (Ty.prod (Ty.slice YReadMark) (Ty.prod (Ty.slice YReadMark) Ty.unit)))))))))) (Ty.prod (Ty.slice (Ty.prod
  Ty.i (Ty.prod Ty.i Ty.unit))) (Ty.prod (Ty.slice YReadMark) (Ty.prod Ty.i Ty.unit))))))) Ty.unit)) .nil)), .nil⟩
def q198_to : Tmpl := ⟨(.slot (Ty.bool) .nil), .nil⟩
noncomputable def slices_ContainsFunc__impl_IsValidEngine_1_S (x : List (Int × Int × Unit) × (Option (Bool × (List (List (Int × Int × Int × Int × Int × Unit)) × Unit) × List (Int × Int × Int × Int × Int × Int × Int × List (Int × Int × Unit) × List (Int × Int × Unit) × Unit) × List (Int × Int × Unit) × List
  (Int × Int × Unit) × Int × Unit) × Unit) × Unit) : Option (Bool × Unit) :=
  Option.bind (slices_IndexFunc__impl_IsValidEngine_1_S (x.1, x.2.1, ())) fun v => some (decide (v.1 ≥ 0), ())
noncomputable def q198_Ent : Ent := ⟨251, q198_ti, q198_to, slices_ContainsFunc__impl_IsValidEngine_1_S⟩
theorem q198_HC : CfgOK Tryz.prog q198_C := hc_of g_tisOK g_wide (all_cons q197_OK all_nil)
theorem q198_OK : EntOK Tryz.prog q198_Ent := ok_of q198_HC Tryz.func251 0 (by kernel_rfl) (fun k hk => absurd hk (Nat.not_lt_zero k)) (by kernel_rfl) (by kernel_rfl) (fun x => by kernel_rfl)
noncomputable def q199_C : Cfg := { ti := g_tis, ents := [q195_Ent], ann := [], lent := 0 }
def q199_ti : Tmpl := ⟨(.slot YReadMark (.slot (Ty.iref (Ty.prod Ty.bool (Ty.prod YStore
  (Ty.prod (Ty.slice (Ty.prod Ty.i (Ty.prod Ty.i (Ty.prod Ty.i (Ty.prod Ty.i (Ty.prod Ty.i (Ty.prod Ty.i (Ty.prod Ty.i (Ty.prod
  (Ty.slice YReadMark) (Ty.prod (Ty.slice YReadMark) Ty.unit)))))))))) (Ty.prod (Ty.slice (Ty.prod Ty.i
  (Ty.prod Ty.i Ty.unit))) (Ty.prod (Ty.slice YReadMark) (Ty.prod Ty.i Ty.unit))))))) .nil)), .nil⟩
def q199_to : Tmpl := ⟨(.slot (Ty.bool) .nil), .nil⟩
noncomputable def impl_IsValidEngine_2_S (x : (Int × Int × Unit) × Option (Bool × (List (List (Int × Int × Int × Int × Int × Unit)) × Unit) × List (Int × Int × Int × Int × Int × Int × Int × List (Int × Int × Unit) × List (Int × Int × Unit) × Unit) × List (Int × Int × Unit) × List (Int ×
  Int × Unit) × Int × Unit) × Unit) : Option (Bool × Unit) :=
  Option.bind x.2.1 fun v => Option.bind (impl_Engine_isActive_S ((v.1, (v.2.1.1, ()), v.2.2.1, v.2.2.2.1, v.2.2.2.2.1, v.2.2.2.2.2.1, ()), x.1.1, ())) fun v => bif !v.1 then some (true, ()) else Option.bind x.2.1 fun v => Option.bind
  (impl_Engine_isActive_S ((v.1, (v.2.1.1, ()), v.2.2.1, v.2.2.2.1, v.2.2.2.2.1, v.2.2.2.2.2.1, ()), x.1.2.1, ())) fun v => some (!v.1, ())
noncomputable def q199_Ent : Ent := ⟨254, q199_ti, q199_to, impl_IsValidEngine_2_S⟩
theorem q199_HC : CfgOK Tryz.prog q199_C := hc_of g_tisOK g_wide (all_cons q195_OK all_nil)
theorem q199_OK : EntOK Tryz.prog q199_Ent := ok_of q199_HC Tryz.func254 0 (by kernel_rfl) (fun k hk => absurd hk (Nat.not_lt_zero k)) (by kernel_rfl) (by kernel_rfl) (fun x => by kernel_rfl)
abbrev q200_I2 : Type := List (Int × Int × Unit) × (Option (Bool × (List (List (Int × Int × Int × Int × Int × Unit)) × Unit) × List (Int × Int × Int × Int × Int × Int × Int × List (Int × Int × Unit) × List (Int × Int × Unit) × Unit) × List (Int × Int × Unit) × List
  (Int × Int × Unit) × Int × Unit) × Unit) × Int × Unit
abbrev q200_V2 : Type := Int × Unit
abbrev q200_Q2 : Type := Int × Unit ⊕ Unit
noncomputable def slices_IndexFunc__impl_IsValidEngine_2_D2 (i : q200_I2) (v : q200_V2) (R : Type) (K : q200_V2 ⊕ q200_Q2 → Option R) : Option R :=
  bif decide (v.1 < i.2.2.1) then Option.bind (lAt i.1 v.1) fun v_1 => Option.bind (impl_IsValidEngine_2_S ((v_1.1, v_1.2.1, ()), i.2.1.1, ())) fun v_2 => bif v_2.1 then K (Sum.inr (Sum.inl (v.1, ()))) else K (Sum.inl (IntKind.wrap IntKind.i64
  (v.1 + 1), ())) else K (Sum.inr (Sum.inr ()))
theorem slices_IndexFunc__impl_IsValidEngine_2_D2_nat : NatD slices_IndexFunc__impl_IsValidEngine_2_D2 := fun i v R K => nat_bif (nat_bind fun _ => nat_bind fun _ => nat_bif (nat_some) (nat_some)) (nat_some)
def q200_T2 : Tmpl := ⟨(.slot (Ty.slice YReadMark) (.slot (Ty.fn 254 (Ty.prod (Ty.iref (Ty.prod Ty.bool (Ty.prod (Ty.prod (Ty.slice (Ty.slice (Ty.prod Ty.i (Ty.prod Ty.i (Ty.prod Ty.i (Ty.prod Ty.i (Ty.prod Ty.i
  Ty.unit))))))) Ty.unit) (Ty.prod (Ty.slice (Ty.prod Ty.i (Ty.prod Ty.i (Ty.prod Ty.i (Ty.prod Ty.i (Ty.prod Ty.i (Ty.prod Ty.i (Ty.prod (Ty.int
  IntKind.i64) (Ty.prod (Ty.slice YReadMark) (Ty.prod (Ty.slice YReadMark) Ty.unit)))))))))) (Ty.prod (Ty.slice (Ty.prod
  Ty.i (Ty.prod Ty.i Ty.unit))) (Ty.prod (Ty.slice YReadMark) (Ty.prod Ty.i Ty.unit))))))) Ty.unit)) (jk 5 (.slot Ty.i (.slot Ty.i (jk 10 .nil)))))), .nil⟩
def q200_X2_0 (i : q200_I2) (p : Int × Unit) : St := ⟨jn 4 (.n (p.1) :: jn 14 ([])), []⟩
def q200_X2_1 (i : q200_I2) (p : Unit) : St := ⟨jn 19 ([]), []⟩
noncomputable def q200_E2 (i : q200_I2) (p : q200_Q2) (R : Type) (K : Ex → St → Option R) : Option R := sumC p (fun p => K (Ex.ret) (q200_X2_0 i p)) fun p => K (Ex.exit 0) (q200_X2_1 i p)
noncomputable def q200_K2 (i : q200_I2) (p : q200_Q2) : Ex × St := sumC p (fun p => (Ex.ret, q200_X2_0 i p)) fun p => (Ex.exit 0, q200_X2_1 i p)
def q200_M2 (i : q200_I2) (v : q200_V2) : den q200_T2.ty := (i.1, i.2.1, i.2.2.1, v.1, ())
def q200_P2 (x : den q200_T2.ty) : q200_I2 × q200_V2 := ((x.1, x.2.1, x.2.2.1, ()), (x.2.2.2.1, ()))
noncomputable def q200_C : Cfg := { ti := g_tis, ents := [q199_Ent], ann := [(2, loopFn q200_T2 0 q200_P2 slices_IndexFunc__impl_IsValidEngine_2_D2 q200_E2)], lent := 0 }
def q200_ti : Tmpl := ⟨(.slot (Ty.slice YReadMark) (.slot (Ty.fn 254 (Ty.prod (Ty.iref (Ty.prod Ty.bool (Ty.prod (Ty.prod (Ty.slice (Ty.slice (Ty.prod Ty.i (Ty.prod Ty.i (Ty.prod Ty.i (Ty.prod Ty.i (Ty.prod Ty.i
  Ty.unit))))))) Ty.unit) (Ty.prod (Ty.slice (Ty.prod Ty.i (Ty.prod Ty.i (Ty.prod Ty.i (Ty.prod Ty.i (Ty.prod Ty.i (Ty.prod Ty.i (Ty.prod (Ty.int
  IntKind.i64) (Ty.prod (Ty.slice YReadMark) (Ty.prod (Ty.slice YReadMark) Ty.unit)))))))))) (Ty.prod (Ty.slice (Ty.prod
  Ty.i (Ty.prod Ty.i Ty.unit))) (Ty.prod (Ty.slice YReadMark) (Ty.prod Ty.i Ty.unit))))))) Ty.unit)) .nil)), .nil⟩
def q200_to : Tmpl := ⟨(.slot Ty.i .nil), .nil⟩
noncomputable def slices_IndexFunc__impl_IsValidEngine_2_S (x : List (Int × Int × Unit) × (Option (Bool × (List (List (Int × Int × Int × Int × Int × Unit)) × Unit) × List (Int × Int × Int × Int × Int × Int × Int × List (Int × Int × Unit) × List (Int × Int × Unit) × Unit) × List (Int × Int × Unit) × List
  (Int × Int × Unit) × Int × Unit) × Unit) × Unit) : Option (Int × Unit) :=
  Option.bind (iter (fun v => slices_IndexFunc__impl_IsValidEngine_2_D2 (x.1, x.2.1, (↑(List.length x.1) : Int), ()) v _ some) (0, ())) fun p => sumC p (fun p => some (p.1, ())) fun p => some (-1, ())
noncomputable def q200_Ent : Ent := ⟨297, q200_ti, q200_to, slices_IndexFunc__impl_IsValidEngine_2_S⟩
theorem q200_HC : CfgOK Tryz.prog q200_C := hc_of g_tisOK g_wide (all_cons q199_OK all_nil)
theorem q200_lk2 : LkOK Tryz.prog q200_C (lpc Tryz.f297 0) :=
  lk_of q200_HC (m := 0) (T := q200_T2) (sp := q200_P2) (D := slices_IndexFunc__impl_IsValidEngine_2_D2) (E := q200_E2) (by kernel_rfl) (by kernel_rfl) (fun k hk => absurd hk (Nat.not_lt_zero k)) [4] q200_M2 (fun x => rfl) slices_IndexFunc__impl_IsValidEngine_2_D2_nat q200_K2 (fun i p R K => by rcases p with p | p <;> rfl) (fun i v => by kernel_rfl)
theorem q200_OK : EntOK Tryz.prog q200_Ent := ok_of q200_HC Tryz.func297 1 (by kernel_rfl) (fun k hk => match k, hk with | 0, _ => q200_lk2) (by kernel_rfl) (by kernel_rfl) (fun x => by kernel_rfl)
noncomputable def q201_C : Cfg := { ti := g_tis, ents := [q200_Ent], ann := [], lent := 0 }
def q201_ti : Tmpl := ⟨(.slot (Ty.slice YReadMark) (.slot (Ty.fn 254 (Ty.prod (Ty.iref (Ty.prod Ty.bool (Ty.prod (Ty.prod (Ty.slice (Ty.slice (Ty.prod Ty.i (Ty.prod Ty.i (Ty.prod Ty.i (Ty.prod Ty.i (Ty.prod Ty.i
  Ty.unit))))))) Ty.unit) (Ty.prod (Ty.slice (Ty.prod Ty.i (Ty.prod Ty.i (Ty.prod Ty.i (Ty.prod Ty.i (Ty.prod Ty.i (Ty.prod Ty.i (Ty.prod (Ty.int
  IntKind.i64) (Ty.prod (Ty.slice YReadMark) (Ty.prod (Ty.slice YReadMark) Ty.unit)))))))))) (Ty.prod (Ty.slice (Ty.prod
  Ty.i (Ty.prod Ty.i Ty.unit))) (Ty.prod (Ty.slice YReadMark) (Ty.prod Ty.i Ty.unit))))))) Ty.unit)) .nil)), .nil⟩
def q201_to : Tmpl := ⟨(.slot (Ty.bool) .nil), .nil⟩
noncomputable def slices_ContainsFunc__impl_IsValidEngine_2_S (x : List (Int × Int × Unit) × (Option (Bool × (List (List (Int × Int × Int × Int × Int × Unit)) × Unit) × List (Int × Int × Int × Int × Int × Int × Int × List (Int × Int × Unit) × List (Int × Int × Unit) × Unit) × List (Int × Int × Unit) × List
  (Int × Int × Unit) × Int × Unit) × Unit) × Unit) : Option (Bool × Unit) :=
  Option.bind (slices_IndexFunc__impl_IsValidEngine_2_S (x.1, x.2.1, ())) fun v => some (decide (v.1 ≥ 0), ())
noncomputable def q201_Ent : Ent := ⟨253, q201_ti, q201_to, slices_ContainsFunc__impl_IsValidEngine_2_S⟩
theorem q201_HC : CfgOK Tryz.prog q201_C := hc_of g_tisOK g_wide (all_cons q200_OK all_nil)
theorem q201_OK : EntOK Tryz.prog q201_Ent := ok_of q201_HC Tryz.func253 0 (by kernel_rfl) (fun k hk => absurd hk (Nat.not_lt_zero k)) (by kernel_rfl) (by kernel_rfl) (fun x => by kernel_rfl)
noncomputable def q202_C : Cfg := { ti := g_tis, ents := [q177_Ent, q178_Ent, q179_Ent, q180_Ent, q34_Ent, q191_Ent, q198_Ent, q201_Ent], ann := [], lent := 0 }
def q202_ti : Tmpl := ⟨(.slot (Ty.prod Ty.bool (Ty.prod YStore (Ty.prod
  (Ty.slice (Ty.prod Ty.i (Ty.prod Ty.i (Ty.prod Ty.i (Ty.prod Ty.i (Ty.prod Ty.i (Ty.prod Ty.i (Ty.prod Ty.i (Ty.prod (Ty.slice
  YReadMark) (Ty.prod (Ty.slice YReadMark) Ty.unit)))))))))) (Ty.prod (Ty.slice (Ty.prod Ty.i (Ty.prod
  Ty.i Ty.unit))) (Ty.prod (Ty.slice YReadMark) (Ty.prod Ty.i Ty.unit)))))) .nil), .nil⟩
def q202_to : Tmpl := ⟨(.slot (Ty.bool) .nil), .nil⟩
noncomputable def impl_IsValidEngine_S (x : (Bool × (List (List (Int × Int × Int × Int × Int × Unit)) × Unit) × List (Int × Int × Int × Int × Int × Int × Int × List (Int × Int × Unit) × List (Int × Int × Unit) × Unit) × List (Int × Int × Unit) × List (Int × Int × Unit) × Int × Unit) ×
  Unit) : Option (Bool × Unit) :=
  Option.bind (impl_IsValidStore_S ((x.1.2.1.1, ()), ())) fun v => bif v.1 then Option.bind (impl_AreLocks_S (x.1.2.2.2.1, ())) fun v => bif v.1 then Option.bind (impl_AreWaits_S (x.1.2.2.2.2.1, ())) fun v => bif v.1 then Option.bind
  (impl_Store_lastStamp_S ((x.1.2.1.1, ()), ())) fun v => Option.bind (impl_in_S (x.1.2.2.2.2.2.1, v.1, 999, ())) fun v => bif v.1 then Option.bind (impl_Engine_areTransactions_S ((x.1.1, (x.1.2.1.1, ()), x.1.2.2.1, x.1.2.2.2.1, x.1.2.2.2.2.1,
  x.1.2.2.2.2.2.1, ()), ())) fun v => bif v.1 then Option.bind (slices_ContainsFunc__impl_IsValidEngine_1_S (x.1.2.2.2.1, (some (x.1.1, (x.1.2.1.1, ()), x.1.2.2.1, x.1.2.2.2.1, x.1.2.2.2.2.1, x.1.2.2.2.2.2.1, ()), ()), ())) fun v => bif !v.1
  then Option.bind (slices_ContainsFunc__impl_IsValidEngine_2_S (x.1.2.2.2.2.1, (some (x.1.1, (x.1.2.1.1, ()), x.1.2.2.1, x.1.2.2.2.1, x.1.2.2.2.2.1, x.1.2.2.2.2.2.1, ()), ()), ())) fun v => some (!v.1, ()) else some (false, ()) else some
  (false, ()) else some (false, ()) else some (false, ()) else some (false, ()) else some (false, ())
noncomputable def q202_Ent : Ent := ⟨128, q202_ti, q202_to, impl_IsValidEngine_S⟩
theorem q202_HC : CfgOK Tryz.prog q202_C := hc_of g_tisOK g_wide (all_cons q177_OK (all_cons q178_OK (all_cons q179_OK (all_cons q180_OK (all_cons q34_OK (all_cons q191_OK (all_cons q198_OK (all_cons q201_OK all_nil))))))))
theorem q202_OK : EntOK Tryz.prog q202_Ent := ok_of q202_HC Tryz.func128 0 (by kernel_rfl) (fun k hk => absurd hk (Nat.not_lt_zero k)) (by kernel_rfl) (by kernel_rfl) (fun x => by kernel_rfl)
noncomputable def q203_C : Cfg := { ti := g_tis, ents := [], ann := [], lent := 0 }
def q203_ti : Tmpl := ⟨(.slot (Ty.slice YReadMark) .nil), .nil⟩
def q203_to : Tmpl := ⟨(.own 0 .nil), (.lst false YReadMark .nil)⟩
noncomputable def slices_Clone_impl_ReadMark_S (x : List (Int × Int × Unit) × Unit) : Option (List (Int × Int × Unit) × Unit) :=
  bif List.length x.1 == 0 then both (some ([], ())) (if List.length x.1 ≤ 2199023255552 then some (x.1, ()) else none) else if List.length x.1 ≤ 2199023255552 then some (x.1, ()) else none
noncomputable def q203_Ent : Ent := ⟨286, q203_ti, q203_to, slices_Clone_impl_ReadMark_S⟩
theorem q203_HC : CfgOK Tryz.prog q203_C := hc_of g_tisOK g_wide all_nil
theorem q203_OK : EntOK Tryz.prog q203_Ent := ok_of q203_HC Tryz.func286 0 (by kernel_rfl) (fun k hk => absurd hk (Nat.not_lt_zero k)) (by kernel_rfl) (by kernel_rfl) (fun x => by kernel_rfl)
noncomputable def q204_C : Cfg := { ti := g_tis, ents := [], ann := [], lent := 0 }
def q204_ti : Tmpl := ⟨(.slot (Ty.slice YReadMark) .nil), .nil⟩
def q204_to : Tmpl := ⟨(.own 0 .nil), (.lst false YReadMark .nil)⟩
noncomputable def slices_Clone_impl_Write_S (x : List (Int × Int × Unit) × Unit) : Option (List (Int × Int × Unit) × Unit) :=
  bif List.length x.1 == 0 then both (some ([], ())) (if List.length x.1 ≤ 2199023255552 then some (x.1, ()) else none) else if List.length x.1 ≤ 2199023255552 then some (x.1, ()) else none
noncomputable def q204_Ent : Ent := ⟨287, q204_ti, q204_to, slices_Clone_impl_Write_S⟩
theorem q204_HC : CfgOK Tryz.prog q204_C := hc_of g_tisOK g_wide all_nil
theorem q204_OK : EntOK Tryz.prog q204_Ent := ok_of q204_HC Tryz.func287 0 (by kernel_rfl) (fun k hk => absurd hk (Nat.not_lt_zero k)) (by kernel_rfl) (by kernel_rfl) (fun x => by kernel_rfl)
noncomputable def q205_C : Cfg := { ti := g_tis, ents := [q203_Ent, q204_Ent], ann := [], lent := 0 }
def q205_ti : Tmpl := ⟨(.slot (Ty.prod Ty.i (Ty.prod Ty.i (Ty.prod Ty.i (Ty.prod Ty.i (Ty.prod Ty.i (Ty.prod Ty.i (Ty.prod Ty.i (Ty.prod (Ty.slice (Ty.prod
  Ty.i (Ty.prod Ty.i Ty.unit))) (Ty.prod (Ty.slice YReadMark) Ty.unit))))))))) .nil), .nil⟩
def q205_to : Tmpl := ⟨(.agg (.slot Ty.i (.slot Ty.i (.slot Ty.i (.slot Ty.i (.slot Ty.i (.slot Ty.i (.slot Ty.i (.own 0 (.own 1 .nil))))))))) .nil), (.lst false YReadMark (.lst false YReadMark .nil))⟩
noncomputable def impl_Transaction_copied_S (x : (Int × Int × Int × Int × Int × Int × Int × List (Int × Int × Unit) × List (Int × Int × Unit) × Unit) × Unit) : Option (Int × Int × Int × Int × Int × Int × Int × List (Int × Int × Unit) × List (Int × Int × Unit) × Unit) :=
  Option.bind (slices_Clone_impl_ReadMark_S (x.1.2.2.2.2.2.2.2.1, ())) fun v => Option.bind (slices_Clone_impl_Write_S (x.1.2.2.2.2.2.2.2.2.1, ())) fun v_1 => some (x.1.1, x.1.2.1, x.1.2.2.1, x.1.2.2.2.1, x.1.2.2.2.2.1, x.1.2.2.2.2.2.1,
  x.1.2.2.2.2.2.2.1, v.1, v_1.1, ())
noncomputable def q205_Ent : Ent := ⟨187, q205_ti, q205_to, impl_Transaction_copied_S⟩
theorem q205_HC : CfgOK Tryz.prog q205_C := hc_of g_tisOK g_wide (all_cons q203_OK (all_cons q204_OK all_nil))
theorem q205_OK : EntOK Tryz.prog q205_Ent := ok_of q205_HC Tryz.func187 0 (by kernel_rfl) (fun k hk => absurd hk (Nat.not_lt_zero k)) (by kernel_rfl) (by kernel_rfl) (fun x => by kernel_rfl)
noncomputable def q206_C : Cfg := { ti := g_tis, ents := [q39_Ent], ann := [], lent := 0 }
def q206_ti : Tmpl := ⟨(.slot (Ty.prod Ty.i (Ty.prod Ty.i (Ty.prod (Ty.slice YReadMark) (Ty.prod (Ty.slice YReadMark)
  Ty.unit)))) (.slot (Ty.prod Ty.i (Ty.prod Ty.i (Ty.prod (Ty.slice YReadMark) (Ty.prod (Ty.slice YReadMark)
  Ty.unit)))) .nil)), .nil⟩
def q206_to : Tmpl := ⟨(.slot Ty.i .nil), .nil⟩
noncomputable def impl_HistoryOf_1_S (x : (Int × Int × List (Int × Int × Unit) × List (Int × Int × Unit) × Unit) × (Int × Int × List (Int × Int × Unit) × List (Int × Int × Unit) × Unit) × Unit) : Option (Int × Unit) :=
  Option.bind (cmp_Compare_int_S (x.1.2.1, x.2.1.2.1, ())) fun v => some (v.1, ())
noncomputable def q206_Ent : Ent := ⟨189, q206_ti, q206_to, impl_HistoryOf_1_S⟩
theorem q206_HC : CfgOK Tryz.prog q206_C := hc_of g_tisOK g_wide (all_cons q39_OK all_nil)
theorem q206_OK : EntOK Tryz.prog q206_Ent := ok_of q206_HC Tryz.func189 0 (by kernel_rfl) (fun k hk => absurd hk (Nat.not_lt_zero k)) (by kernel_rfl) (by kernel_rfl) (fun x => by kernel_rfl)
abbrev q207_I4 : Type := Int × Int × Int × Unit
abbrev q207_V4 : Type := Int × List (Int × Int × List (Int × Int × Unit) × List (Int × Int × Unit) × Unit) × Unit
abbrev q207_Q4 : Type := List (Int × Int × List (Int × Int × Unit) × List (Int × Int × Unit) × Unit) × Unit ⊕ List (Int × Int × List (Int × Int × Unit) × List (Int × Int × Unit) × Unit) × Unit
noncomputable def slices_insertionSortCmpFunc_impl_Entry_l_D4 (i : q207_I4) (v : q207_V4) (R : Type) (K : q207_V4 ⊕ q207_Q4 → Option R) : Option R :=
  bif decide (v.1 > i.1) then if 0 ≤ v.1 ∧ v.1 < (↑(List.length v.2.1) : Int) then Option.bind v.2.1[0 + Int.toNat v.1]? fun v_1 => if 0 ≤ IntKind.wrap IntKind.i64 (v.1 - 1) ∧ IntKind.wrap IntKind.i64 (v.1 - 1) < (↑(List.length v.2.1) : Int)
  then Option.bind v.2.1[0 + Int.toNat (IntKind.wrap IntKind.i64 (v.1 - 1))]? fun v_2 => Option.bind (impl_HistoryOf_1_S ((v_1.1, v_1.2.1, v_1.2.2.1, v_1.2.2.2.1, ()), (v_2.1, v_2.2.1, v_2.2.2.1, v_2.2.2.2.1, ()), ())) fun v_3 => bif decide
  (v_3.1 < 0) then if 0 ≤ IntKind.wrap IntKind.i64 (v.1 - 1) ∧ IntKind.wrap IntKind.i64 (v.1 - 1) < (↑(List.length v.2.1) : Int) then Option.bind v.2.1[0 + Int.toNat (IntKind.wrap IntKind.i64 (v.1 - 1))]? fun v_4 => if 0 ≤ v.1 ∧ v.1 <
  (↑(List.length v.2.1) : Int) then Option.bind v.2.1[0 + Int.toNat v.1]? fun v_5 => if 0 ≤ v.1 ∧ v.1 < (↑(List.length v.2.1) : Int) then Option.bind v.2.1[0 + Int.toNat v.1]? fun v_6 => if 0 ≤ IntKind.wrap IntKind.i64 (v.1 - 1) ∧ IntKind.wrap
  IntKind.i64 (v.1 - 1) < (↑(List.length (List.set v.2.1 (0 + Int.toNat v.1) (v_4.1, v_4.2.1, v_4.2.2.1, v_4.2.2.2.1, ()))) : Int) then Option.bind (List.set v.2.1 (0 + Int.toNat v.1) (v_4.1, v_4.2.1, v_4.2.2.1, v_4.2.2.2.1, ()))[0 + Int.toNat
  (IntKind.wrap IntKind.i64 (v.1 - 1))]? fun v_7 => K (Sum.inl (IntKind.wrap IntKind.i64 (v.1 - 1), List.set (List.set v.2.1 (0 + Int.toNat v.1) (v_4.1, v_4.2.1, v_4.2.2.1, v_4.2.2.2.1, ())) (0 + Int.toNat (IntKind.wrap IntKind.i64 (v.1 - 1)))
  (v_5.1, v_5.2.1, v_5.2.2.1, v_5.2.2.2.1, ()), ())) else none else none else none else none else K (Sum.inr (Sum.inl (v.2.1, ()))) else none else none else K (Sum.inr (Sum.inr (v.2.1, ())))
theorem slices_insertionSortCmpFunc_impl_Entry_l_D4_nat : NatD slices_insertionSortCmpFunc_impl_Entry_l_D4 := fun i v R K => nat_bif (nat_ite (nat_bind fun _ => nat_ite (nat_bind fun _ => nat_bind fun _ => nat_bif (nat_ite (nat_bind fun _ => nat_ite (nat_bind fun _ => nat_ite (nat_bind fun _ => nat_ite (nat_bind fun _ => nat_some))))) (nat_some)))) (nat_some)
def q207_T4 : Tmpl := ⟨(.own 0 (.slot Ty.i (.slot Ty.i (.fn 189 .nil (jk 4 (.slot Ty.i (.slot Ty.i (jk 43 .nil)))))))), (.lst false (Ty.prod Ty.i (Ty.prod Ty.i (Ty.prod (Ty.slice YReadMark) (Ty.prod (Ty.slice YReadMark)
  Ty.unit)))) .nil)⟩
def q207_X4_0 (i : q207_I4) (p : List (Int × Int × List (Int × Int × Unit) × List (Int × Int × Unit) × Unit) × Unit) : St := ⟨AV.own 0 none none :: .n (i.1) :: .n (i.2.1) :: AV.fn 189 [] :: jn 4 (.n (i.2.2.1) :: jn 44 ([])), [some (Cont.lst false (Ty.prod Ty.i (Ty.prod Ty.i (Ty.prod (Ty.slice (Ty.prod Ty.i (Ty.prod
  Ty.i Ty.unit))) (Ty.prod (Ty.slice YReadMark) Ty.unit)))) p.1)]⟩
def q207_X4_1 (i : q207_I4) (p : List (Int × Int × List (Int × Int × Unit) × List (Int × Int × Unit) × Unit) × Unit) : St := ⟨AV.own 0 none none :: .n (i.1) :: .n (i.2.1) :: AV.fn 189 [] :: jn 4 (.n (i.2.2.1) :: jn 44 ([])), [some (Cont.lst false (Ty.prod Ty.i (Ty.prod Ty.i (Ty.prod (Ty.slice (Ty.prod Ty.i (Ty.prod
  Ty.i Ty.unit))) (Ty.prod (Ty.slice YReadMark) Ty.unit)))) p.1)]⟩
noncomputable def q207_E4 (i : q207_I4) (p : q207_Q4) (R : Type) (K : Ex → St → Option R) : Option R := sumC p (fun p => K (Ex.exit 2) (q207_X4_0 i p)) fun p => K (Ex.exit 2) (q207_X4_1 i p)
noncomputable def q207_K4 (i : q207_I4) (p : q207_Q4) : Ex × St := sumC p (fun p => (Ex.exit 2, q207_X4_0 i p)) fun p => (Ex.exit 2, q207_X4_1 i p)
def q207_M4 (i : q207_I4) (v : q207_V4) : den q207_T4.ty := (i.1, i.2.1, i.2.2.1, v.1, v.2.1, ())
def q207_P4 (x : den q207_T4.ty) : q207_I4 × q207_V4 := ((x.1, x.2.1, x.2.2.1, ()), (x.2.2.2.1, x.2.2.2.2.1, ()))
abbrev q207_I1 : Type := Int × Int × Unit
abbrev q207_V1 : Type := Int × List (Int × Int × List (Int × Int × Unit) × List (Int × Int × Unit) × Unit) × Unit
abbrev q207_Q1 : Type := List (Int × Int × List (Int × Int × Unit) × List (Int × Int × Unit) × Unit) × Unit
noncomputable def slices_insertionSortCmpFunc_impl_Entry_l_D1 (i : q207_I1) (v : q207_V1) (R : Type) (K : q207_V1 ⊕ q207_Q1 → Option R) : Option R :=
  bif decide (v.1 < i.2.1) then Option.bind (iter (fun v_1 => slices_insertionSortCmpFunc_impl_Entry_l_D4 (i.1, i.2.1, v.1, ()) v_1 _ some) (v.1, v.2.1, ())) fun p => sumC p (fun p => K (Sum.inl (IntKind.wrap IntKind.i64 (v.1 + 1),
  p.1, ()))) fun p => K (Sum.inl (IntKind.wrap IntKind.i64 (v.1 + 1), p.1, ())) else K (Sum.inr (v.2.1, ()))
theorem slices_insertionSortCmpFunc_impl_Entry_l_D1_nat : NatD slices_insertionSortCmpFunc_impl_Entry_l_D1 := fun i v R K => nat_bif (nat_bind fun _ => nat_sum (fun _ => nat_some) (fun _ => nat_some)) (nat_some)
def q207_T1 : Tmpl := ⟨(.own 0 (.slot Ty.i (.slot Ty.i (.fn 189 .nil (jk 4 (.slot Ty.i (jk 44 .nil))))))), (.lst false (Ty.prod Ty.i (Ty.prod Ty.i (Ty.prod (Ty.slice YReadMark) (Ty.prod (Ty.slice YReadMark)
  Ty.unit)))) .nil)⟩
def q207_X1_0 (i : q207_I1) (p : List (Int × Int × List (Int × Int × Unit) × List (Int × Int × Unit) × Unit) × Unit) : St := ⟨jn 53 ([]), [some (Cont.lst false (Ty.prod Ty.i (Ty.prod Ty.i (Ty.prod (Ty.slice YReadMark) (Ty.prod (Ty.slice (Ty.prod Ty.i
  (Ty.prod Ty.i Ty.unit))) Ty.unit)))) p.1)]⟩
noncomputable def q207_E1 (i : q207_I1) (p : q207_Q1) (R : Type) (K : Ex → St → Option R) : Option R := K (Ex.exit 0) (q207_X1_0 i p)
noncomputable def q207_K1 (i : q207_I1) (p : q207_Q1) : Ex × St := (Ex.exit 0, q207_X1_0 i p)
def q207_M1 (i : q207_I1) (v : q207_V1) : den q207_T1.ty := (i.1, i.2.1, v.1, v.2.1, ())
def q207_P1 (x : den q207_T1.ty) : q207_I1 × q207_V1 := ((x.1, x.2.1, ()), (x.2.2.1, x.2.2.2.1, ()))
noncomputable def q207_C : Cfg := { ti := g_tis, ents := [q206_Ent], ann := [(4, loopFn q207_T4 1 q207_P4 slices_insertionSortCmpFunc_impl_Entry_l_D4 q207_E4), (1, loopFn q207_T1 1 q207_P1 slices_insertionSortCmpFunc_impl_Entry_l_D1 q207_E1)], lent := 1, hid := [((6, 2), [0]), ((6, 3), [0]), ((6, 4), [0])] }
def q207_ti : Tmpl := ⟨(.own 0 (.slot Ty.i (.slot Ty.i (.fn 189 .nil .nil)))), (.lst false (Ty.prod Ty.i (Ty.prod Ty.i (Ty.prod (Ty.slice YReadMark) (Ty.prod (Ty.slice YReadMark)
  Ty.unit)))) .nil)⟩
def q207_to : Tmpl := ⟨.nil, (.lst false (Ty.prod Ty.i (Ty.prod Ty.i (Ty.prod (Ty.slice YReadMark) (Ty.prod (Ty.slice YReadMark)
  Ty.unit)))) .nil)⟩
noncomputable def slices_insertionSortCmpFunc_impl_Entry_l_S (x : Int × Int × List (Int × Int × List (Int × Int × Unit) × List (Int × Int × Unit) × Unit) × Unit) : Option (List (Int × Int × List (Int × Int × Unit) × List (Int × Int × Unit) × Unit) × Unit) :=
  Option.bind (iter (fun v => slices_insertionSortCmpFunc_impl_Entry_l_D1 (x.1, x.2.1, ()) v _ some) (IntKind.wrap IntKind.i64 (x.1 + 1), x.2.2.1, ())) fun p => some (p.1, ())
noncomputable def q207_Ent : Ent := ⟨348, q207_ti, q207_to, slices_insertionSortCmpFunc_impl_Entry_l_S⟩
theorem q207_HC : CfgOK Tryz.prog q207_C := hc_of g_tisOK g_wide (all_cons q206_OK all_nil)
theorem q207_lk4 : LkOK Tryz.prog q207_C (lpc Tryz.f348 1) :=
  lk_of q207_HC (m := 0) (T := q207_T4) (sp := q207_P4) (D := slices_insertionSortCmpFunc_impl_Entry_l_D4) (E := q207_E4) (by kernel_rfl) (by kernel_rfl) (fun k hk => absurd hk (Nat.not_lt_zero k)) [0, 1, 2, 3, 8] q207_M4 (fun x => rfl) slices_insertionSortCmpFunc_impl_Entry_l_D4_nat q207_K4 (fun i p R K => by rcases p with p | p <;> rfl) (fun i v => by kernel_rfl)
theorem q207_lk1 : LkOK Tryz.prog q207_C (lpc Tryz.f348 0) :=
  lk_of q207_HC (m := 1) (T := q207_T1) (sp := q207_P1) (D := slices_insertionSortCmpFunc_impl_Entry_l_D1) (E := q207_E1) (by kernel_rfl) (by kernel_rfl) (fun k hk => match k, hk with | 0, _ => lk_at (by kernel_rfl) q207_lk4) [] q207_M1 (fun x => rfl) slices_insertionSortCmpFunc_impl_Entry_l_D1_nat q207_K1 (fun i p R K => rfl) (fun i v => by kernel_rfl)
theorem q207_OK : EntOK Tryz.prog q207_Ent := ok_of q207_HC Tryz.func348 2 (by kernel_rfl) (fun k hk => match k, hk with | 0, _ => q207_lk1 | 1, _ => q207_lk4) (by kernel_rfl) (by kernel_rfl) (fun x => by kernel_rfl)
abbrev q208_I2 : Type := Int × Int × Unit
abbrev q208_V2 : Type := Int × Int × List (Int × Int × List (Int × Int × Unit) × List (Int × Int × Unit) × Unit) × Unit
abbrev q208_Q2 : Type := Int × List (Int × Int × List (Int × Int × Unit) × List (Int × Int × Unit) × Unit) × Unit
noncomputable def slices_stableCmpFunc_impl_Entry_l_D2 (i : q208_I2) (v : q208_V2) (R : Type) (K : q208_V2 ⊕ q208_Q2 → Option R) : Option R :=
  bif decide (v.2.1 ≤ i.1) then Option.bind (slices_insertionSortCmpFunc_impl_Entry_l_S (v.1, v.2.1, v.2.2.1, ())) fun v_1 => K (Sum.inl (v.2.1, IntKind.wrap IntKind.i64 (v.2.1 + i.2.1), v_1.1, ())) else K (Sum.inr (v.1, v.2.2.1, ()))
theorem slices_stableCmpFunc_impl_Entry_l_D2_nat : NatD slices_stableCmpFunc_impl_Entry_l_D2 := fun i v R K => nat_bif (nat_bind fun _ => nat_some) (nat_some)
def q208_T2 : Tmpl := ⟨(.own 0 (.slot Ty.i (.fn 189 .nil (jk 3 (.slot Ty.i (.slot Ty.i (.slot Ty.i (jk 54 .nil)))))))), (.lst false (Ty.prod Ty.i (Ty.prod Ty.i (Ty.prod (Ty.slice YReadMark) (Ty.prod (Ty.slice YReadMark)
  Ty.unit)))) .nil)⟩
def q208_X2_0 (i : q208_I2) (p : Int × List (Int × Int × List (Int × Int × Unit) × List (Int × Int × Unit) × Unit) × Unit) : St := ⟨AV.own 0 none none :: .n (i.1) :: AV.fn 189 [] :: jn 3 (.n (i.2.1) :: .n (p.1) :: jn 55 ([])), [some (Cont.lst false (Ty.prod Ty.i (Ty.prod Ty.i (Ty.prod (Ty.slice (Ty.prod Ty.i (Ty.prod
  Ty.i Ty.unit))) (Ty.prod (Ty.slice YReadMark) Ty.unit)))) p.2.1)]⟩
noncomputable def q208_E2 (i : q208_I2) (p : q208_Q2) (R : Type) (K : Ex → St → Option R) : Option R := K (Ex.exit 0) (q208_X2_0 i p)
noncomputable def q208_K2 (i : q208_I2) (p : q208_Q2) : Ex × St := (Ex.exit 0, q208_X2_0 i p)
def q208_M2 (i : q208_I2) (v : q208_V2) : den q208_T2.ty := (i.1, i.2.1, v.1, v.2.1, v.2.2.1, ())
def q208_P2 (x : den q208_T2.ty) : q208_I2 × q208_V2 := ((x.1, x.2.1, ()), (x.2.2.1, x.2.2.2.1, x.2.2.2.2.1, ()))
abbrev q208_I9 : Type := Int × Int × Int × Int × List (Int × Int × List (Int × Int × Unit) × List (Int × Int × Unit) × Unit) × Unit
abbrev q208_V9 : Type := Unit
abbrev q208_Q9 : Type := Unit
noncomputable def slices_stableCmpFunc_impl_Entry_l_D9 (i : q208_I9) (v : q208_V9) (R : Type) (K : q208_V9 ⊕ q208_Q9 → Option R) : Option R :=
  bif decide (i.2.2.2.1 ≤ i.1) then none else K (Sum.inr ())
theorem slices_stableCmpFunc_impl_Entry_l_D9_nat : NatD slices_stableCmpFunc_impl_Entry_l_D9 := fun i v R K => nat_bif (nat_none) (nat_some)
def q208_T9 : Tmpl := ⟨(.own 0 (.slot Ty.i (.fn 189 .nil (jk 3 (.slot Ty.i (.slot Ty.i (.slot Ty.i (jk 54 .nil)))))))), (.lst false (Ty.prod Ty.i (Ty.prod Ty.i (Ty.prod (Ty.slice YReadMark) (Ty.prod (Ty.slice YReadMark)
  Ty.unit)))) .nil)⟩
def q208_X9_0 (i : q208_I9) (p : Unit) : St := ⟨AV.own 0 none none :: .n (i.1) :: AV.fn 189 [] :: jn 3 (.n (i.2.1) :: .n (i.2.2.1) :: jn 55 ([])), [some (Cont.lst false (Ty.prod Ty.i (Ty.prod Ty.i (Ty.prod (Ty.slice (Ty.prod Ty.i (Ty.prod
  Ty.i Ty.unit))) (Ty.prod (Ty.slice YReadMark) Ty.unit)))) i.2.2.2.2.1)]⟩
noncomputable def q208_E9 (i : q208_I9) (p : q208_Q9) (R : Type) (K : Ex → St → Option R) : Option R := K (Ex.exit 4) (q208_X9_0 i p)
noncomputable def q208_K9 (i : q208_I9) (p : q208_Q9) : Ex × St := (Ex.exit 4, q208_X9_0 i p)
def q208_M9 (i : q208_I9) (v : q208_V9) : den q208_T9.ty := (i.1, i.2.1, i.2.2.1, i.2.2.2.1, i.2.2.2.2.1, ())
def q208_P9 (x : den q208_T9.ty) : q208_I9 × q208_V9 := ((x.1, x.2.1, x.2.2.1, x.2.2.2.1, x.2.2.2.2.1, ()), (()))
abbrev q208_I7 : Type := Int × List (Int × Int × List (Int × Int × Unit) × List (Int × Int × Unit) × Unit) × Unit
abbrev q208_V7 : Type := Int × Unit
abbrev q208_Q7 : Type := Unit
noncomputable def slices_stableCmpFunc_impl_Entry_l_D7 (i : q208_I7) (v : q208_V7) (R : Type) (K : q208_V7 ⊕ q208_Q7 → Option R) : Option R :=
  bif decide (v.1 < i.1) then Option.bind (iter (fun v_1 => slices_stableCmpFunc_impl_Entry_l_D9 (i.1, v.1, 0, IntKind.wrap IntKind.i64 (2 * v.1), i.2.1, ()) v_1 _ some) ()) fun p => bif decide (IntKind.wrap IntKind.i64 (0 + v.1) <
  i.1) then none else K (Sum.inl (IntKind.wrap IntKind.i64 (v.1 * 2), ())) else K (Sum.inr ())
theorem slices_stableCmpFunc_impl_Entry_l_D7_nat : NatD slices_stableCmpFunc_impl_Entry_l_D7 := fun i v R K => nat_bif (nat_bind fun _ => nat_bif (nat_none) (nat_some)) (nat_some)
def q208_T7 : Tmpl := ⟨(.own 0 (.slot Ty.i (.fn 189 .nil (jk 3 (.slot Ty.i (jk 56 .nil)))))), (.lst false (Ty.prod Ty.i (Ty.prod Ty.i (Ty.prod (Ty.slice YReadMark) (Ty.prod (Ty.slice YReadMark)
  Ty.unit)))) .nil)⟩
def q208_X7_0 (i : q208_I7) (p : Unit) : St := ⟨jn 63 ([]), [some (Cont.lst false (Ty.prod Ty.i (Ty.prod Ty.i (Ty.prod (Ty.slice YReadMark) (Ty.prod (Ty.slice (Ty.prod Ty.i
  (Ty.prod Ty.i Ty.unit))) Ty.unit)))) i.2.1)]⟩
noncomputable def q208_E7 (i : q208_I7) (p : q208_Q7) (R : Type) (K : Ex → St → Option R) : Option R := K (Ex.exit 2) (q208_X7_0 i p)
noncomputable def q208_K7 (i : q208_I7) (p : q208_Q7) : Ex × St := (Ex.exit 2, q208_X7_0 i p)
def q208_M7 (i : q208_I7) (v : q208_V7) : den q208_T7.ty := (i.1, v.1, i.2.1, ())
def q208_P7 (x : den q208_T7.ty) : q208_I7 × q208_V7 := ((x.1, x.2.2.1, ()), (x.2.1, ()))
noncomputable def q208_C : Cfg := { ti := g_tis, ents := [q207_Ent], ann := [(2, loopFn q208_T2 1 q208_P2 slices_stableCmpFunc_impl_Entry_l_D2 q208_E2), (9, loopFn q208_T9 1 q208_P9 slices_stableCmpFunc_impl_Entry_l_D9 q208_E9), (7, loopFn q208_T7 1 q208_P7 slices_stableCmpFunc_impl_Entry_l_D7 q208_E7)], lent := 1 }
def q208_ti : Tmpl := ⟨(.own 0 (.slot Ty.i (.fn 189 .nil .nil))), (.tree false 0 (Ty.prod Ty.i (Ty.prod Ty.i (Ty.prod (Ty.slice YReadMark) (Ty.prod (Ty.slice YReadMark)
  Ty.unit)))) .nil)⟩
def q208_to : Tmpl := ⟨.nil, (.lst false (Ty.prod Ty.i (Ty.prod Ty.i (Ty.prod (Ty.slice YReadMark) (Ty.prod (Ty.slice YReadMark)
  Ty.unit)))) .nil)⟩
noncomputable def slices_stableCmpFunc_impl_Entry_l_S (x : Int × List (Int × Int × List (Int × Int × Unit) × List (Int × Int × Unit) × Unit) × Unit) : Option (List (Int × Int × List (Int × Int × Unit) × List (Int × Int × Unit) × Unit) × Unit) :=
  Option.bind (iter (fun v => slices_stableCmpFunc_impl_Entry_l_D2 (x.1, 20, ()) v _ some) (0, 20, x.2.1, ())) fun p => Option.bind (slices_insertionSortCmpFunc_impl_Entry_l_S (p.1, x.1, p.2.1, ())) fun v => Option.bind (iter (fun
  v_1 => slices_stableCmpFunc_impl_Entry_l_D7 (x.1, v.1, ()) v_1 _ some) (20, ())) fun p => some (v.1, ())
noncomputable def q208_Ent : Ent := ⟨288, q208_ti, q208_to, slices_stableCmpFunc_impl_Entry_l_S⟩
theorem q208_HC : CfgOK Tryz.prog q208_C := hc_of g_tisOK g_wide (all_cons q207_OK all_nil)
theorem q208_lk9 : LkOK Tryz.prog q208_C (lpc Tryz.f288 2) :=
  lk_of q208_HC (m := 0) (T := q208_T9) (sp := q208_P9) (D := slices_stableCmpFunc_impl_Entry_l_D9) (E := q208_E9) (by kernel_rfl) (by kernel_rfl) (fun k hk => absurd hk (Nat.not_lt_zero k)) [0, 1, 2, 6, 7] q208_M9 (fun x => rfl) slices_stableCmpFunc_impl_Entry_l_D9_nat q208_K9 (fun i p R K => rfl) (fun i v => by kernel_rfl)
theorem q208_lk7 : LkOK Tryz.prog q208_C (lpc Tryz.f288 1) :=
  lk_of q208_HC (m := 1) (T := q208_T7) (sp := q208_P7) (D := slices_stableCmpFunc_impl_Entry_l_D7) (E := q208_E7) (by kernel_rfl) (by kernel_rfl) (fun k hk => match k, hk with | 0, _ => lk_at (by kernel_rfl) q208_lk9) [] q208_M7 (fun x => rfl) slices_stableCmpFunc_impl_Entry_l_D7_nat q208_K7 (fun i p R K => rfl) (fun i v => by kernel_rfl)
theorem q208_lk2 : LkOK Tryz.prog q208_C (lpc Tryz.f288 0) :=
  lk_of q208_HC (m := 0) (T := q208_T2) (sp := q208_P2) (D := slices_stableCmpFunc_impl_Entry_l_D2) (E := q208_E2) (by kernel_rfl) (by kernel_rfl) (fun k hk => absurd hk (Nat.not_lt_zero k)) [0, 1, 2, 6, 7] q208_M2 (fun x => rfl) slices_stableCmpFunc_impl_Entry_l_D2_nat q208_K2 (fun i p R K => rfl) (fun i v => by kernel_rfl)
theorem q208_OK : EntOK Tryz.prog q208_Ent := ok_of q208_HC Tryz.func288 3 (by kernel_rfl) (fun k hk => match k, hk with | 0, _ => q208_lk2 | 1, _ => q208_lk7 | 2, _ => q208_lk9) (by kernel_rfl) (by kernel_rfl) (fun x => by kernel_rfl)
noncomputable def q209_C : Cfg := { ti := g_tis, ents := [q208_Ent], ann := [], lent := 1 }
def q209_ti : Tmpl := ⟨(.own 0 (.fn 189 .nil .nil)), (.tree false 0 (Ty.prod Ty.i (Ty.prod Ty.i (Ty.prod (Ty.slice YReadMark) (Ty.prod (Ty.slice YReadMark)
  Ty.unit)))) .nil)⟩
def q209_to : Tmpl := ⟨.nil, (.lst false (Ty.prod Ty.i (Ty.prod Ty.i (Ty.prod (Ty.slice YReadMark) (Ty.prod (Ty.slice YReadMark)
  Ty.unit)))) .nil)⟩
noncomputable def slices_SortStableFunc_impl_Entry_l_S (x : List (Int × Int × List (Int × Int × Unit) × List (Int × Int × Unit) × Unit) × Unit) : Option (List (Int × Int × List (Int × Int × Unit) × List (Int × Int × Unit) × Unit) × Unit) :=
  Option.bind (slices_stableCmpFunc_impl_Entry_l_S ((↑(List.length x.1) : Int), x.1, ())) fun v => some (v.1, ())
noncomputable def q209_Ent : Ent := ⟨188, q209_ti, q209_to, slices_SortStableFunc_impl_Entry_l_S⟩
theorem q209_HC : CfgOK Tryz.prog q209_C := hc_of g_tisOK g_wide (all_cons q208_OK all_nil)
theorem q209_OK : EntOK Tryz.prog q209_Ent := ok_of q209_HC Tryz.func188 0 (by kernel_rfl) (fun k hk => absurd hk (Nat.not_lt_zero k)) (by kernel_rfl) (by kernel_rfl) (fun x => by kernel_rfl)
abbrev q210_I5 : Type := List (Int × Int × Int × Int × Int × Int × Int × List (Int × Int × Unit) × List (Int × Int × Unit) × Unit) × Int × Unit
abbrev q210_V5 : Type := Int × List (Int × Int × List (Int × Int × Unit) × List (Int × Int × Unit) × Unit) × Unit
abbrev q210_Q5 : Type := List (Int × Int × List (Int × Int × Unit) × List (Int × Int × Unit) × Unit) × Unit
noncomputable def impl_HistoryOf_D5 (i : q210_I5) (v : q210_V5) (R : Type) (K : q210_V5 ⊕ q210_Q5 → Option R) : Option R :=
  bif decide (v.1 < i.2.1) then Option.bind (lAt i.1 v.1) fun v_1 => bif v_1.2.2.1 == 2 then Option.bind (impl_Transaction_copied_S ((v_1.1, v_1.2.1, v_1.2.2.1, v_1.2.2.2.1, v_1.2.2.2.2.1, v_1.2.2.2.2.2.1, v_1.2.2.2.2.2.2.1,
  v_1.2.2.2.2.2.2.2.1, v_1.2.2.2.2.2.2.2.2.1, ()), ())) fun v_2 => if List.length (v.2.1 ++ [(v_2.1, v_2.2.2.2.2.2.2.1, v_2.2.2.2.2.2.2.2.1, v_2.2.2.2.2.2.2.2.2.1, ())]) ≤ 549755813888 then K (Sum.inl (IntKind.wrap IntKind.i64 (v.1 + 1), v.2.1
  ++ [(v_2.1, v_2.2.2.2.2.2.2.1, v_2.2.2.2.2.2.2.2.1, v_2.2.2.2.2.2.2.2.2.1, ())], ())) else none else K (Sum.inl (IntKind.wrap IntKind.i64 (v.1 + 1), v.2.1, ())) else K (Sum.inr (v.2.1, ()))
theorem impl_HistoryOf_D5_nat : NatD impl_HistoryOf_D5 := fun i v R K => nat_bif (nat_bind fun _ => nat_bif (nat_bind fun _ => nat_ite (nat_some)) (nat_some)) (nat_some)
def q210_T5 : Tmpl := ⟨(jk 3 (.own 0 (jk 8 (.slot (Ty.slice (Ty.prod Ty.i (Ty.prod Ty.i (Ty.prod Ty.i (Ty.prod Ty.i (Ty.prod Ty.i (Ty.prod Ty.i (Ty.prod Ty.i (Ty.prod (Ty.slice
  YReadMark) (Ty.prod (Ty.slice YReadMark) Ty.unit)))))))))) (.slot Ty.i (.slot Ty.i (jk 24 .nil))))))), (.tree false 0 (Ty.prod Ty.i (Ty.prod Ty.i (Ty.prod (Ty.slice YReadMark) (Ty.prod (Ty.slice YReadMark)
  Ty.unit)))) .nil)⟩
def q210_X5_0 (i : q210_I5) (p : List (Int × Int × List (Int × Int × Unit) × List (Int × Int × Unit) × Unit) × Unit) : St := ⟨jn 3 (AV.own 0 none none :: jn 35 ([])), [some (Cont.tree false 0 (Ty.prod Ty.i (Ty.prod Ty.i (Ty.prod (Ty.slice YReadMark) (Ty.prod (Ty.slice
  YReadMark) Ty.unit)))) p.1 none)]⟩
noncomputable def q210_E5 (i : q210_I5) (p : q210_Q5) (R : Type) (K : Ex → St → Option R) : Option R := K (Ex.exit 0) (q210_X5_0 i p)
noncomputable def q210_K5 (i : q210_I5) (p : q210_Q5) : Ex × St := (Ex.exit 0, q210_X5_0 i p)
def q210_M5 (i : q210_I5) (v : q210_V5) : den q210_T5.ty := (i.1, i.2.1, v.1, v.2.1, ())
def q210_P5 (x : den q210_T5.ty) : q210_I5 × q210_V5 := ((x.1, x.2.1, ()), (x.2.2.1, x.2.2.2.1, ()))
noncomputable def q210_C : Cfg := { ti := g_tis, ents := [q209_Ent, q202_Ent, q205_Ent], ann := [(5, loopFn q210_T5 0 q210_P5 impl_HistoryOf_D5 q210_E5)], lent := 0 }
def q210_ti : Tmpl := ⟨(.slot (Ty.prod Ty.bool (Ty.prod YStore (Ty.prod
  (Ty.slice (Ty.prod Ty.i (Ty.prod Ty.i (Ty.prod Ty.i (Ty.prod Ty.i (Ty.prod Ty.i (Ty.prod Ty.i (Ty.prod Ty.i (Ty.prod (Ty.slice
  YReadMark) (Ty.prod (Ty.slice YReadMark) Ty.unit)))))))))) (Ty.prod (Ty.slice (Ty.prod Ty.i (Ty.prod
  Ty.i Ty.unit))) (Ty.prod (Ty.slice YReadMark) (Ty.prod Ty.i Ty.unit)))))) .nil), .nil⟩
def q210_to : Tmpl := ⟨(.own 0 .nil), (.lst false (Ty.prod Ty.i (Ty.prod Ty.i (Ty.prod (Ty.slice YReadMark) (Ty.prod (Ty.slice YReadMark)
  Ty.unit)))) .nil)⟩
noncomputable def impl_HistoryOf_S (x : (Bool × (List (List (Int × Int × Int × Int × Int × Unit)) × Unit) × List (Int × Int × Int × Int × Int × Int × Int × List (Int × Int × Unit) × List (Int × Int × Unit) × Unit) × List (Int × Int × Unit) × List (Int × Int × Unit) × Int × Unit) ×
  Unit) : Option (List (Int × Int × List (Int × Int × Unit) × List (Int × Int × Unit) × Unit) × Unit) :=
  Option.bind (impl_IsValidEngine_S ((x.1.1, (x.1.2.1.1, ()), x.1.2.2.1, x.1.2.2.2.1, x.1.2.2.2.2.1, x.1.2.2.2.2.2.1, ()), ())) fun v => bif !v.1 then some ([], ()) else Option.bind (iter (fun v => impl_HistoryOf_D5 (x.1.2.2.1, (↑(List.length
  x.1.2.2.1) : Int), ()) v _ some) (0, [], ())) fun p => Option.bind (slices_SortStableFunc_impl_Entry_l_S (p.1, ())) fun v => some (v.1, ())
noncomputable def q210_Ent : Ent := ⟨94, q210_ti, q210_to, impl_HistoryOf_S⟩
theorem q210_HC : CfgOK Tryz.prog q210_C := hc_of g_tisOK g_wide (all_cons q209_OK (all_cons q202_OK (all_cons q205_OK all_nil)))
theorem q210_lk5 : LkOK Tryz.prog q210_C (lpc Tryz.f94 0) :=
  lk_of q210_HC (m := 0) (T := q210_T5) (sp := q210_P5) (D := impl_HistoryOf_D5) (E := q210_E5) (by kernel_rfl) (by kernel_rfl) (fun k hk => absurd hk (Nat.not_lt_zero k)) [3] q210_M5 (fun x => rfl) impl_HistoryOf_D5_nat q210_K5 (fun i p R K => rfl) (fun i v => by kernel_rfl)
theorem q210_OK : EntOK Tryz.prog q210_Ent := ok_of q210_HC Tryz.func94 1 (by kernel_rfl) (fun k hk => match k, hk with | 0, _ => q210_lk5) (by kernel_rfl) (by kernel_rfl) (fun x => by kernel_rfl)
noncomputable def q211_C : Cfg := { ti := g_tis, ents := [q48_Ent], ann := [], lent := 0 }
def q211_ti : Tmpl := ⟨(.slot YEdge (.slot (Ty.iref (Ty.slice (Ty.prod Ty.i (Ty.prod Ty.i (Ty.prod (Ty.slice YReadMark) (Ty.prod (Ty.slice (Ty.prod Ty.i (Ty.prod (Ty.int
  IntKind.i64) Ty.unit))) Ty.unit)))))) .nil)), .nil⟩
def q211_to : Tmpl := ⟨(.slot (Ty.bool) .nil), .nil⟩
noncomputable def impl_BackEdges_1_S (x : (Int × Int × Int × Int × Unit) × Option (List (Int × Int × List (Int × Int × Unit) × List (Int × Int × Unit) × Unit)) × Unit) : Option (Bool × Unit) :=
  Option.bind x.2.1 fun v => Option.bind x.2.1 fun v_1 => Option.bind (impl_FindEntry_S (v_1, x.1.2.1, ())) fun v_2 => Option.bind (lAt v v_2.1) fun v => Option.bind x.2.1 fun v_3 => Option.bind x.2.1 fun v_4 => Option.bind (impl_FindEntry_S
  (v_4, x.1.1, ())) fun v_5 => Option.bind (lAt v_3 v_5.1) fun v_6 => some (decide (v.2.1 ≥ v_6.2.1), ())
noncomputable def q211_Ent : Ent := ⟨186, q211_ti, q211_to, impl_BackEdges_1_S⟩
theorem q211_HC : CfgOK Tryz.prog q211_C := hc_of g_tisOK g_wide (all_cons q48_OK all_nil)
theorem q211_OK : EntOK Tryz.prog q211_Ent := ok_of q211_HC Tryz.func186 0 (by kernel_rfl) (fun k hk => absurd hk (Nat.not_lt_zero k)) (by kernel_rfl) (by kernel_rfl) (fun x => by kernel_rfl)
abbrev q212_I2 : Type := List (Int × Int × Int × Int × Unit) × (Option (List (Int × Int × List (Int × Int × Unit) × List (Int × Int × Unit) × Unit)) × Unit) × Int × Unit
abbrev q212_V2 : Type := Int × Unit
abbrev q212_Q2 : Type := Int × Unit ⊕ Unit
noncomputable def slices_IndexFunc__impl_BackEdges_1_D2 (i : q212_I2) (v : q212_V2) (R : Type) (K : q212_V2 ⊕ q212_Q2 → Option R) : Option R :=
  bif decide (v.1 < i.2.2.1) then Option.bind (lAt i.1 v.1) fun v_1 => Option.bind (impl_BackEdges_1_S ((v_1.1, v_1.2.1, v_1.2.2.1, v_1.2.2.2.1, ()), i.2.1.1, ())) fun v_2 => bif v_2.1 then K (Sum.inr (Sum.inl (v.1, ()))) else K (Sum.inl
  (IntKind.wrap IntKind.i64 (v.1 + 1), ())) else K (Sum.inr (Sum.inr ()))
theorem slices_IndexFunc__impl_BackEdges_1_D2_nat : NatD slices_IndexFunc__impl_BackEdges_1_D2 := fun i v R K => nat_bif (nat_bind fun _ => nat_bind fun _ => nat_bif (nat_some) (nat_some)) (nat_some)
def q212_T2 : Tmpl := ⟨(.slot (Ty.slice YEdge) (.slot (Ty.fn 186 (Ty.prod (Ty.iref (Ty.slice (Ty.prod Ty.i (Ty.prod Ty.i (Ty.prod (Ty.slice YReadMark) (Ty.prod (Ty.slice (Ty.prod Ty.i
  (Ty.prod Ty.i Ty.unit))) Ty.unit)))))) Ty.unit)) (jk 5 (.slot Ty.i (.slot Ty.i (jk 10 .nil)))))), .nil⟩
def q212_X2_0 (i : q212_I2) (p : Int × Unit) : St := ⟨jn 4 (.n (p.1) :: jn 14 ([])), []⟩
def q212_X2_1 (i : q212_I2) (p : Unit) : St := ⟨jn 19 ([]), []⟩
noncomputable def q212_E2 (i : q212_I2) (p : q212_Q2) (R : Type) (K : Ex → St → Option R) : Option R := sumC p (fun p => K (Ex.ret) (q212_X2_0 i p)) fun p => K (Ex.exit 0) (q212_X2_1 i p)
noncomputable def q212_K2 (i : q212_I2) (p : q212_Q2) : Ex × St := sumC p (fun p => (Ex.ret, q212_X2_0 i p)) fun p => (Ex.exit 0, q212_X2_1 i p)
def q212_M2 (i : q212_I2) (v : q212_V2) : den q212_T2.ty := (i.1, i.2.1, i.2.2.1, v.1, ())
def q212_P2 (x : den q212_T2.ty) : q212_I2 × q212_V2 := ((x.1, x.2.1, x.2.2.1, ()), (x.2.2.2.1, ()))
noncomputable def q212_C : Cfg := { ti := g_tis, ents := [q211_Ent], ann := [(2, loopFn q212_T2 0 q212_P2 slices_IndexFunc__impl_BackEdges_1_D2 q212_E2)], lent := 0 }
def q212_ti : Tmpl := ⟨(.slot (Ty.slice YEdge) (.slot (Ty.fn 186 (Ty.prod (Ty.iref (Ty.slice (Ty.prod Ty.i (Ty.prod Ty.i (Ty.prod (Ty.slice YReadMark) (Ty.prod (Ty.slice (Ty.prod Ty.i
  (Ty.prod Ty.i Ty.unit))) Ty.unit)))))) Ty.unit)) .nil)), .nil⟩
def q212_to : Tmpl := ⟨(.slot Ty.i .nil), .nil⟩
noncomputable def slices_IndexFunc__impl_BackEdges_1_S (x : List (Int × Int × Int × Int × Unit) × (Option (List (Int × Int × List (Int × Int × Unit) × List (Int × Int × Unit) × Unit)) × Unit) × Unit) : Option (Int × Unit) :=
  Option.bind (iter (fun v => slices_IndexFunc__impl_BackEdges_1_D2 (x.1, x.2.1, (↑(List.length x.1) : Int), ()) v _ some) (0, ())) fun p => sumC p (fun p => some (p.1, ())) fun p => some (-1, ())
noncomputable def q212_Ent : Ent := ⟨279, q212_ti, q212_to, slices_IndexFunc__impl_BackEdges_1_S⟩
theorem q212_HC : CfgOK Tryz.prog q212_C := hc_of g_tisOK g_wide (all_cons q211_OK all_nil)
theorem q212_lk2 : LkOK Tryz.prog q212_C (lpc Tryz.f279 0) :=
  lk_of q212_HC (m := 0) (T := q212_T2) (sp := q212_P2) (D := slices_IndexFunc__impl_BackEdges_1_D2) (E := q212_E2) (by kernel_rfl) (by kernel_rfl) (fun k hk => absurd hk (Nat.not_lt_zero k)) [4] q212_M2 (fun x => rfl) slices_IndexFunc__impl_BackEdges_1_D2_nat q212_K2 (fun i p R K => by rcases p with p | p <;> rfl) (fun i v => by kernel_rfl)
theorem q212_OK : EntOK Tryz.prog q212_Ent := ok_of q212_HC Tryz.func279 1 (by kernel_rfl) (fun k hk => match k, hk with | 0, _ => q212_lk2) (by kernel_rfl) (by kernel_rfl) (fun x => by kernel_rfl)
abbrev q213_I5 : Type := List (Int × Int × List (Int × Int × Unit) × List (Int × Int × Unit) × Unit) × Unit
abbrev q213_V5 : Type := Int × Int × List (Int × Int × Int × Int × Unit) × Unit
abbrev q213_Q5 : Type := Int × List (Int × Int × Int × Int × Unit) × Unit
noncomputable def slices_DeleteFunc_impl_Edge_l_D5 (i : q213_I5) (v : q213_V5) (R : Type) (K : q213_V5 ⊕ q213_Q5 → Option R) : Option R :=
  bif decide (v.2.1 < (↑(List.length v.2.2.1) : Int)) then if 0 ≤ v.2.1 ∧ v.2.1 < (↑(List.length v.2.2.1) : Int) then Option.bind v.2.2.1[0 + Int.toNat v.2.1]? fun v_1 => Option.bind (impl_BackEdges_1_S ((v_1.1, v_1.2.1, v_1.2.2.1,
  v_1.2.2.2.1, ()), some i.1, ())) fun v_2 => bif !v_2.1 then if 0 ≤ v.1 ∧ v.1 < (↑(List.length v.2.2.1) : Int) then Option.bind v.2.2.1[0 + Int.toNat v.1]? fun v_3 => K (Sum.inl (IntKind.wrap IntKind.i64 (v.1 + 1), IntKind.wrap IntKind.i64
  (v.2.1 + 1), List.set v.2.2.1 (0 + Int.toNat v.1) (v_1.1, v_1.2.1, v_1.2.2.1, v_1.2.2.2.1, ()), ())) else none else K (Sum.inl (v.1, IntKind.wrap IntKind.i64 (v.2.1 + 1), v.2.2.1, ())) else none else K (Sum.inr (v.1, v.2.2.1, ()))
theorem slices_DeleteFunc_impl_Edge_l_D5_nat : NatD slices_DeleteFunc_impl_Edge_l_D5 := fun i v R K => nat_bif (nat_ite (nat_bind fun _ => nat_bind fun _ => nat_bif (nat_ite (nat_bind fun _ => nat_some)) (nat_some))) (nat_some)
def q213_T5 : Tmpl := ⟨(.own 0 (.fn 186 (.ptr 1 0 0 .nil) (jk 3 (.slot Ty.i (.slot Ty.i (jk 35 .nil)))))), (.lst false YEdge (.cells 1 (.slot (Ty.slice (Ty.prod Ty.i (Ty.prod Ty.i (Ty.prod (Ty.slice YReadMark) (Ty.prod (Ty.slice (Ty.prod Ty.i (Ty.prod Ty.i
  Ty.unit))) Ty.unit))))) .nil) .nil))⟩
def q213_X5_0 (i : q213_I5) (p : Int × List (Int × Int × Int × Int × Unit) × Unit) : St := ⟨AV.own 0 none none :: jn 4 (.n (p.1) :: jn 36 ([])), [some (Cont.lst false YEdge p.2.1), some (Cont.cells 1
  [[AV.pv (Ty.slice (Ty.prod Ty.i (Ty.prod Ty.i (Ty.prod (Ty.slice YReadMark) (Ty.prod (Ty.slice (Ty.prod Ty.i (Ty.prod (Ty.int
  IntKind.i64) Ty.unit))) Ty.unit))))) i.1]])]⟩
noncomputable def q213_E5 (i : q213_I5) (p : q213_Q5) (R : Type) (K : Ex → St → Option R) : Option R := K (Ex.exit 0) (q213_X5_0 i p)
noncomputable def q213_K5 (i : q213_I5) (p : q213_Q5) : Ex × St := (Ex.exit 0, q213_X5_0 i p)
def q213_M5 (i : q213_I5) (v : q213_V5) : den q213_T5.ty := (v.1, v.2.1, v.2.2.1, i.1, ())
def q213_P5 (x : den q213_T5.ty) : q213_I5 × q213_V5 := ((x.2.2.2.1, ()), (x.1, x.2.1, x.2.2.1, ()))
noncomputable def q213_C : Cfg := { ti := g_tis, ents := [q212_Ent, q211_Ent], ann := [(5, loopFn q213_T5 2 q213_P5 slices_DeleteFunc_impl_Edge_l_D5 q213_E5)], lent := 2, cut := [none] }
def q213_ti : Tmpl := ⟨(.own 0 (.fn 186 (.ptr 1 0 0 .nil) .nil)), (.lst false YEdge (.cells 1 (.slot (Ty.slice (Ty.prod Ty.i (Ty.prod Ty.i (Ty.prod (Ty.slice YReadMark) (Ty.prod (Ty.slice (Ty.prod Ty.i (Ty.prod Ty.i
  Ty.unit))) Ty.unit))))) .nil) .nil))⟩
def q213_to : Tmpl := ⟨(.own 2 .nil), (.gone (.cells 1 (.slot (Ty.slice (Ty.prod Ty.i (Ty.prod Ty.i (Ty.prod (Ty.slice YReadMark) (Ty.prod (Ty.slice (Ty.prod Ty.i (Ty.prod Ty.i
  Ty.unit))) Ty.unit))))) .nil) (.lst false YEdge .nil)))⟩
noncomputable def slices_DeleteFunc_impl_Edge_l_S (x : List (Int × Int × Int × Int × Unit) × List (Int × Int × List (Int × Int × Unit) × List (Int × Int × Unit) × Unit) × Unit) : Option (List (Int × Int × List (Int × Int × Unit) × List (Int × Int × Unit) × Unit) × List (Int × Int × Int × Int × Unit) × Unit) :=
  Option.bind (slices_IndexFunc__impl_BackEdges_1_S (x.1, (some x.2.1, ()), ())) fun v => bif v.1 == -1 then some (x.2.1, x.1, ()) else Option.bind (iter (fun v => slices_DeleteFunc_impl_Edge_l_D5 (x.2.1, ()) v _ some) (v.1,
  IntKind.wrap IntKind.i64 (v.1 + 1), x.1, ())) fun p => if 0 ≤ p.1 ∧ p.1 ≤ (↑(List.length p.2.1) : Int) ∧ (↑(List.length p.2.1) : Int) ≤ (↑(List.length p.2.1) : Int) then if (0 : Int) ≤ 0 ∧ 0 ≤ p.1 ∧ p.1 ≤ (↑(List.length (List.take (0 + Int.toNat
  p.1) p.2.1 ++ List.replicate (Int.toNat (↑(List.length p.2.1) : Int) - Int.toNat p.1) (0, 0, 0, 0, ()) ++ List.drop (0 + Int.toNat p.1 + (Int.toNat (↑(List.length p.2.1) : Int) - Int.toNat p.1)) p.2.1)) : Int) then some (x.2.1, List.take
  (Int.toNat p.1 - Int.toNat 0) (List.take (0 + Int.toNat p.1) p.2.1 ++ List.replicate (Int.toNat (↑(List.length p.2.1) : Int) - Int.toNat p.1) (0, 0, 0, 0, ()) ++ List.drop (0 + Int.toNat p.1 + (Int.toNat (↑(List.length p.2.1) : Int) -
  Int.toNat p.1)) p.2.1), ()) else none else none
noncomputable def q213_Ent : Ent := ⟨185, q213_ti, q213_to, slices_DeleteFunc_impl_Edge_l_S⟩
theorem q213_HC : CfgOK Tryz.prog q213_C := hc_of g_tisOK g_wide (all_cons q212_OK (all_cons q211_OK all_nil))
theorem q213_lk5 : LkOK Tryz.prog q213_C (lpc Tryz.f185 0) :=
  lk_of q213_HC (m := 0) (T := q213_T5) (sp := q213_P5) (D := slices_DeleteFunc_impl_Edge_l_D5) (E := q213_E5) (by kernel_rfl) (by kernel_rfl) (fun k hk => absurd hk (Nat.not_lt_zero k)) [0, 5] q213_M5 (fun x => rfl) slices_DeleteFunc_impl_Edge_l_D5_nat q213_K5 (fun i p R K => rfl) (fun i v => by kernel_rfl)
theorem q213_OK : EntOK Tryz.prog q213_Ent := ok_of q213_HC Tryz.func185 1 (by kernel_rfl) (fun k hk => match k, hk with | 0, _ => q213_lk5) (by kernel_rfl) (by kernel_rfl) (fun x => by kernel_rfl)
noncomputable def q214_C : Cfg := { ti := g_tis, ents := [q213_Ent, q70_Ent], ann := [], lent := 0 }
def q214_ti : Tmpl := ⟨(.slot (Ty.slice (Ty.prod Ty.i (Ty.prod Ty.i (Ty.prod (Ty.slice YReadMark) (Ty.prod (Ty.slice (Ty.prod Ty.i (Ty.prod Ty.i
  Ty.unit))) Ty.unit))))) .nil), .nil⟩
def q214_to : Tmpl := ⟨(.own 0 .nil), (.lst false YEdge .nil)⟩
noncomputable def impl_BackEdges_S (x : List (Int × Int × List (Int × Int × Unit) × List (Int × Int × Unit) × Unit) × Unit) : Option (List (Int × Int × Int × Int × Unit) × Unit) :=
  Option.bind (impl_BuildGraph_S (x.1, ())) fun v => Option.bind (slices_DeleteFunc_impl_Edge_l_S (v.1, x.1, ())) fun v => some (v.2.1, ())
noncomputable def q214_Ent : Ent := ⟨93, q214_ti, q214_to, impl_BackEdges_S⟩
theorem q214_HC : CfgOK Tryz.prog q214_C := hc_of g_tisOK g_wide (all_cons q213_OK (all_cons q70_OK all_nil))
theorem q214_OK : EntOK Tryz.prog q214_Ent := ok_of q214_HC Tryz.func93 0 (by kernel_rfl) (fun k hk => absurd hk (Nat.not_lt_zero k)) (by kernel_rfl) (by kernel_rfl) (fun x => by kernel_rfl)
noncomputable def q215_C : Cfg := { ti := g_tis, ents := [q210_Ent, q214_Ent], ann := [], lent := 0 }
def q215_ti : Tmpl := ⟨(.slot (Ty.prod Ty.bool (Ty.prod YStore (Ty.prod
  (Ty.slice (Ty.prod Ty.i (Ty.prod Ty.i (Ty.prod Ty.i (Ty.prod Ty.i (Ty.prod Ty.i (Ty.prod Ty.i (Ty.prod Ty.i (Ty.prod (Ty.slice
  YReadMark) (Ty.prod (Ty.slice YReadMark) Ty.unit)))))))))) (Ty.prod (Ty.slice (Ty.prod Ty.i (Ty.prod
  Ty.i Ty.unit))) (Ty.prod (Ty.slice YReadMark) (Ty.prod Ty.i Ty.unit)))))) .nil), .nil⟩
def q215_to : Tmpl := ⟨(.slot Ty.i .nil), .nil⟩
noncomputable def impl_BackEdgeCount_S (x : (Bool × (List (List (Int × Int × Int × Int × Int × Unit)) × Unit) × List (Int × Int × Int × Int × Int × Int × Int × List (Int × Int × Unit) × List (Int × Int × Unit) × Unit) × List (Int × Int × Unit) × List (Int × Int × Unit) × Int × Unit) ×
  Unit) : Option (Int × Unit) :=
  Option.bind (impl_HistoryOf_S ((x.1.1, (x.1.2.1.1, ()), x.1.2.2.1, x.1.2.2.2.1, x.1.2.2.2.2.1, x.1.2.2.2.2.2.1, ()), ())) fun v => Option.bind (impl_BackEdges_S (v.1, ())) fun v => some ((↑(List.length v.1) : Int), ())
noncomputable def q215_Ent : Ent := ⟨27, q215_ti, q215_to, impl_BackEdgeCount_S⟩
theorem q215_HC : CfgOK Tryz.prog q215_C := hc_of g_tisOK g_wide (all_cons q210_OK (all_cons q214_OK all_nil))
theorem q215_OK : EntOK Tryz.prog q215_Ent := ok_of q215_HC Tryz.func27 0 (by kernel_rfl) (fun k hk => absurd hk (Nat.not_lt_zero k)) (by kernel_rfl) (by kernel_rfl) (fun x => by kernel_rfl)
noncomputable def q216_C : Cfg := { ti := g_tis, ents := [], ann := [], lent := 0 }
def q216_ti : Tmpl := ⟨(.slot YVersion (.slot YVersion .nil)), .nil⟩
def q216_to : Tmpl := ⟨(.slot (Ty.bool) .nil), .nil⟩
noncomputable def laws_eqVersion_S (x : (Int × Int × Int × Int × Int × Unit) × (Int × Int × Int × Int × Int × Unit) × Unit) : Option (Bool × Unit) :=
  bif x.1.1 != x.2.1.1 then some (false, ()) else bif x.1.2.1 != x.2.1.2.1 then some (false, ()) else bif x.1.2.2.1 != x.2.1.2.2.1 then some (false, ()) else bif x.1.2.2.2.1 != x.2.1.2.2.2.1 then some (false, ()) else bif x.1.2.2.2.2.1 !=
  x.2.1.2.2.2.2.1 then some (false, ()) else some (true, ())
noncomputable def q216_Ent : Ent := ⟨350, q216_ti, q216_to, laws_eqVersion_S⟩
theorem q216_HC : CfgOK Tryz.prog q216_C := hc_of g_tisOK g_wide all_nil
theorem q216_OK : EntOK Tryz.prog q216_Ent := ok_of q216_HC Tryz.func350 0 (by kernel_rfl) (fun k hk => absurd hk (Nat.not_lt_zero k)) (by kernel_rfl) (by kernel_rfl) (fun x => by kernel_rfl)
abbrev q217_I4 : Type := List (Int × Int × Int × Int × Int × Unit) × List (Int × Int × Int × Int × Int × Unit) × Unit
abbrev q217_V4 : Type := Int × Unit
abbrev q217_Q4 : Type := Unit ⊕ Unit
noncomputable def laws_eqVersionS_D4 (i : q217_I4) (v : q217_V4) (R : Type) (K : q217_V4 ⊕ q217_Q4 → Option R) : Option R :=
  bif decide (v.1 < (↑(List.length i.1) : Int)) then Option.bind (lAt i.1 v.1) fun v_1 => Option.bind (lAt i.2.1 v.1) fun v_2 => Option.bind (laws_eqVersion_S ((v_1.1, v_1.2.1, v_1.2.2.1, v_1.2.2.2.1, v_1.2.2.2.2.1, ()), (v_2.1, v_2.2.1,
  v_2.2.2.1, v_2.2.2.2.1, v_2.2.2.2.2.1, ()), ())) fun v_3 => bif !v_3.1 then K (Sum.inr (Sum.inl ())) else K (Sum.inl (IntKind.wrap IntKind.i64 (v.1 + 1), ())) else K (Sum.inr (Sum.inr ()))
theorem laws_eqVersionS_D4_nat : NatD laws_eqVersionS_D4 := fun i v R K => nat_bif (nat_bind fun _ => nat_bind fun _ => nat_bind fun _ => nat_bif (nat_some) (nat_some)) (nat_some)
def q217_T4 : Tmpl := ⟨(.slot (Ty.slice YVersion) (.slot (Ty.slice YVersion) (jk 3 (.slot Ty.i (jk 21 .nil))))), .nil⟩
def q217_X4_0 (i : q217_I4) (p : Unit) : St := ⟨jn 4 (.b (false) :: jn 22 ([])), []⟩
def q217_X4_1 (i : q217_I4) (p : Unit) : St := ⟨jn 27 ([]), []⟩
noncomputable def q217_E4 (i : q217_I4) (p : q217_Q4) (R : Type) (K : Ex → St → Option R) : Option R := sumC p (fun p => K (Ex.ret) (q217_X4_0 i p)) fun p => K (Ex.exit 0) (q217_X4_1 i p)
noncomputable def q217_K4 (i : q217_I4) (p : q217_Q4) : Ex × St := sumC p (fun p => (Ex.ret, q217_X4_0 i p)) fun p => (Ex.exit 0, q217_X4_1 i p)
def q217_M4 (i : q217_I4) (v : q217_V4) : den q217_T4.ty := (i.1, i.2.1, v.1, ())
def q217_P4 (x : den q217_T4.ty) : q217_I4 × q217_V4 := ((x.1, x.2.1, ()), (x.2.2.1, ()))
noncomputable def q217_C : Cfg := { ti := g_tis, ents := [q216_Ent], ann := [(4, loopFn q217_T4 0 q217_P4 laws_eqVersionS_D4 q217_E4)], lent := 0 }
def q217_ti : Tmpl := ⟨(.slot (Ty.slice YVersion) (.slot (Ty.slice YVersion) .nil)), .nil⟩
def q217_to : Tmpl := ⟨(.slot (Ty.bool) .nil), .nil⟩
noncomputable def laws_eqVersionS_S (x : List (Int × Int × Int × Int × Int × Unit) × List (Int × Int × Int × Int × Int × Unit) × Unit) : Option (Bool × Unit) :=
  bif (↑(List.length x.1) : Int) != (↑(List.length x.2.1) : Int) then some (false, ()) else Option.bind (iter (fun v => laws_eqVersionS_D4 (x.1, x.2.1, ()) v _ some) (0, ())) fun p => sumC p (fun p => some (false, ())) fun p => some
  (true, ())
noncomputable def q217_Ent : Ent := ⟨290, q217_ti, q217_to, laws_eqVersionS_S⟩
theorem q217_HC : CfgOK Tryz.prog q217_C := hc_of g_tisOK g_wide (all_cons q216_OK all_nil)
theorem q217_lk4 : LkOK Tryz.prog q217_C (lpc Tryz.f290 0) :=
  lk_of q217_HC (m := 0) (T := q217_T4) (sp := q217_P4) (D := laws_eqVersionS_D4) (E := q217_E4) (by kernel_rfl) (by kernel_rfl) (fun k hk => absurd hk (Nat.not_lt_zero k)) [4] q217_M4 (fun x => rfl) laws_eqVersionS_D4_nat q217_K4 (fun i p R K => by rcases p with p | p <;> rfl) (fun i v => by kernel_rfl)
theorem q217_OK : EntOK Tryz.prog q217_Ent := ok_of q217_HC Tryz.func290 1 (by kernel_rfl) (fun k hk => match k, hk with | 0, _ => q217_lk4) (by kernel_rfl) (by kernel_rfl) (fun x => by kernel_rfl)
abbrev q218_I4 : Type := List (List (Int × Int × Int × Int × Int × Unit)) × List (List (Int × Int × Int × Int × Int × Unit)) × Unit
abbrev q218_V4 : Type := Int × Unit
abbrev q218_Q4 : Type := Unit ⊕ Unit
noncomputable def laws_eqVersionSS_D4 (i : q218_I4) (v : q218_V4) (R : Type) (K : q218_V4 ⊕ q218_Q4 → Option R) : Option R :=
  bif decide (v.1 < (↑(List.length i.1) : Int)) then Option.bind (lAt i.1 v.1) fun v_1 => Option.bind (lAt i.2.1 v.1) fun v_2 => Option.bind (laws_eqVersionS_S (v_1, v_2, ())) fun v_3 => bif !v_3.1 then K (Sum.inr (Sum.inl ())) else K (Sum.inl
  (IntKind.wrap IntKind.i64 (v.1 + 1), ())) else K (Sum.inr (Sum.inr ()))
theorem laws_eqVersionSS_D4_nat : NatD laws_eqVersionSS_D4 := fun i v R K => nat_bif (nat_bind fun _ => nat_bind fun _ => nat_bind fun _ => nat_bif (nat_some) (nat_some)) (nat_some)
def q218_T4 : Tmpl := ⟨(.slot (Ty.slice (Ty.slice YVersion)) (.slot (Ty.slice (Ty.slice YVersion)) (jk 3 (.slot Ty.i (jk 21 .nil))))), .nil⟩
def q218_X4_0 (i : q218_I4) (p : Unit) : St := ⟨jn 4 (.b (false) :: jn 22 ([])), []⟩
def q218_X4_1 (i : q218_I4) (p : Unit) : St := ⟨jn 27 ([]), []⟩
noncomputable def q218_E4 (i : q218_I4) (p : q218_Q4) (R : Type) (K : Ex → St → Option R) : Option R := sumC p (fun p => K (Ex.ret) (q218_X4_0 i p)) fun p => K (Ex.exit 0) (q218_X4_1 i p)
noncomputable def q218_K4 (i : q218_I4) (p : q218_Q4) : Ex × St := sumC p (fun p => (Ex.ret, q218_X4_0 i p)) fun p => (Ex.exit 0, q218_X4_1 i p)
def q218_M4 (i : q218_I4) (v : q218_V4) : den q218_T4.ty := (i.1, i.2.1, v.1, ())
def q218_P4 (x : den q218_T4.ty) : q218_I4 × q218_V4 := ((x.1, x.2.1, ()), (x.2.2.1, ()))
noncomputable def q218_C : Cfg := { ti := g_tis, ents := [q217_Ent], ann := [(4, loopFn q218_T4 0 q218_P4 laws_eqVersionSS_D4 q218_E4)], lent := 0 }
def q218_ti : Tmpl := ⟨(.slot (Ty.slice (Ty.slice YVersion)) (.slot (Ty.slice (Ty.slice YVersion)) .nil)), .nil⟩
def q218_to : Tmpl := ⟨(.slot (Ty.bool) .nil), .nil⟩
noncomputable def laws_eqVersionSS_S (x : List (List (Int × Int × Int × Int × Int × Unit)) × List (List (Int × Int × Int × Int × Int × Unit)) × Unit) : Option (Bool × Unit) :=
  bif (↑(List.length x.1) : Int) != (↑(List.length x.2.1) : Int) then some (false, ()) else Option.bind (iter (fun v => laws_eqVersionSS_D4 (x.1, x.2.1, ()) v _ some) (0, ())) fun p => sumC p (fun p => some (false, ())) fun p => some
  (true, ())
noncomputable def q218_Ent : Ent := ⟨191, q218_ti, q218_to, laws_eqVersionSS_S⟩
theorem q218_HC : CfgOK Tryz.prog q218_C := hc_of g_tisOK g_wide (all_cons q217_OK all_nil)
theorem q218_lk4 : LkOK Tryz.prog q218_C (lpc Tryz.f191 0) :=
  lk_of q218_HC (m := 0) (T := q218_T4) (sp := q218_P4) (D := laws_eqVersionSS_D4) (E := q218_E4) (by kernel_rfl) (by kernel_rfl) (fun k hk => absurd hk (Nat.not_lt_zero k)) [4] q218_M4 (fun x => rfl) laws_eqVersionSS_D4_nat q218_K4 (fun i p R K => by rcases p with p | p <;> rfl) (fun i v => by kernel_rfl)
theorem q218_OK : EntOK Tryz.prog q218_Ent := ok_of q218_HC Tryz.func191 1 (by kernel_rfl) (fun k hk => match k, hk with | 0, _ => q218_lk4) (by kernel_rfl) (by kernel_rfl) (fun x => by kernel_rfl)
noncomputable def q219_C : Cfg := { ti := g_tis, ents := [q218_Ent], ann := [], lent := 0 }
def q219_ti : Tmpl := ⟨(.slot YStore (.slot YStore .nil)), .nil⟩
def q219_to : Tmpl := ⟨(.slot (Ty.bool) .nil), .nil⟩
noncomputable def laws_eqStore_S (x : (List (List (Int × Int × Int × Int × Int × Unit)) × Unit) × (List (List (Int × Int × Int × Int × Int × Unit)) × Unit) × Unit) : Option (Bool × Unit) :=
  Option.bind (laws_eqVersionSS_S (x.1.1, x.2.1.1, ())) fun v => bif !v.1 then some (false, ()) else some (true, ())
noncomputable def q219_Ent : Ent := ⟨95, q219_ti, q219_to, laws_eqStore_S⟩
theorem q219_HC : CfgOK Tryz.prog q219_C := hc_of g_tisOK g_wide (all_cons q218_OK all_nil)
theorem q219_OK : EntOK Tryz.prog q219_Ent := ok_of q219_HC Tryz.func95 0 (by kernel_rfl) (fun k hk => absurd hk (Nat.not_lt_zero k)) (by kernel_rfl) (by kernel_rfl) (fun x => by kernel_rfl)
noncomputable def q220_C : Cfg := { ti := g_tis, ents := [q96_Ent, q98_Ent], ann := [], lent := 0 }
def q220_ti : Tmpl := ⟨(.slot (Ty.prod Ty.i (Ty.prod Ty.i (Ty.prod Ty.i (Ty.prod Ty.i (Ty.prod Ty.i (Ty.prod Ty.i (Ty.prod Ty.i (Ty.prod (Ty.slice (Ty.prod
  Ty.i (Ty.prod Ty.i Ty.unit))) (Ty.prod (Ty.slice YReadMark) Ty.unit))))))))) (.slot (Ty.prod Ty.i (Ty.prod Ty.i (Ty.prod Ty.i (Ty.prod Ty.i (Ty.prod Ty.i (Ty.prod Ty.i (Ty.prod Ty.i (Ty.prod (Ty.slice (Ty.prod
  Ty.i (Ty.prod Ty.i Ty.unit))) (Ty.prod (Ty.slice YReadMark) Ty.unit))))))))) .nil)), .nil⟩
def q220_to : Tmpl := ⟨(.slot (Ty.bool) .nil), .nil⟩
noncomputable def laws_eqTransaction_S (x : (Int × Int × Int × Int × Int × Int × Int × List (Int × Int × Unit) × List (Int × Int × Unit) × Unit) × (Int × Int × Int × Int × Int × Int × Int × List (Int × Int × Unit) × List (Int × Int × Unit) × Unit) × Unit) : Option (Bool × Unit) :=
  bif x.1.1 != x.2.1.1 then some (false, ()) else bif x.1.2.1 != x.2.1.2.1 then some (false, ()) else bif x.1.2.2.1 != x.2.1.2.2.1 then some (false, ()) else bif x.1.2.2.2.1 != x.2.1.2.2.2.1 then some (false, ()) else bif x.1.2.2.2.2.1 !=
  x.2.1.2.2.2.2.1 then some (false, ()) else bif x.1.2.2.2.2.2.1 != x.2.1.2.2.2.2.2.1 then some (false, ()) else bif x.1.2.2.2.2.2.2.1 != x.2.1.2.2.2.2.2.2.1 then some (false, ()) else Option.bind (laws_eqReadMarkS_S (x.1.2.2.2.2.2.2.2.1,
  x.2.1.2.2.2.2.2.2.2.1, ())) fun v => bif !v.1 then some (false, ()) else Option.bind (laws_eqWriteS_S (x.1.2.2.2.2.2.2.2.2.1, x.2.1.2.2.2.2.2.2.2.2.1, ())) fun v => bif !v.1 then some (false, ()) else some (true, ())
noncomputable def q220_Ent : Ent := ⟨192, q220_ti, q220_to, laws_eqTransaction_S⟩
theorem q220_HC : CfgOK Tryz.prog q220_C := hc_of g_tisOK g_wide (all_cons q96_OK (all_cons q98_OK all_nil))
theorem q220_OK : EntOK Tryz.prog q220_Ent := ok_of q220_HC Tryz.func192 0 (by kernel_rfl) (fun k hk => absurd hk (Nat.not_lt_zero k)) (by kernel_rfl) (by kernel_rfl) (fun x => by kernel_rfl)
abbrev q221_I4 : Type := List (Int × Int × Int × Int × Int × Int × Int × List (Int × Int × Unit) × List (Int × Int × Unit) × Unit) × List (Int × Int × Int × Int × Int × Int × Int × List (Int × Int × Unit) × List (Int × Int × Unit) × Unit) × Unit
abbrev q221_V4 : Type := Int × Unit
abbrev q221_Q4 : Type := Unit ⊕ Unit
noncomputable def laws_eqTransactionS_D4 (i : q221_I4) (v : q221_V4) (R : Type) (K : q221_V4 ⊕ q221_Q4 → Option R) : Option R :=
  bif decide (v.1 < (↑(List.length i.1) : Int)) then Option.bind (lAt i.1 v.1) fun v_1 => Option.bind (lAt i.2.1 v.1) fun v_2 => Option.bind (laws_eqTransaction_S ((v_1.1, v_1.2.1, v_1.2.2.1, v_1.2.2.2.1, v_1.2.2.2.2.1, v_1.2.2.2.2.2.1,
  v_1.2.2.2.2.2.2.1, v_1.2.2.2.2.2.2.2.1, v_1.2.2.2.2.2.2.2.2.1, ()), (v_2.1, v_2.2.1, v_2.2.2.1, v_2.2.2.2.1, v_2.2.2.2.2.1, v_2.2.2.2.2.2.1, v_2.2.2.2.2.2.2.1, v_2.2.2.2.2.2.2.2.1, v_2.2.2.2.2.2.2.2.2.1, ()), ())) fun v_3 => bif !v_3.1 then
  K (Sum.inr (Sum.inl ())) else K (Sum.inl (IntKind.wrap IntKind.i64 (v.1 + 1), ())) else K (Sum.inr (Sum.inr ()))
theorem laws_eqTransactionS_D4_nat : NatD laws_eqTransactionS_D4 := fun i v R K => nat_bif (nat_bind fun _ => nat_bind fun _ => nat_bind fun _ => nat_bif (nat_some) (nat_some)) (nat_some)
def q221_T4 : Tmpl := ⟨(.slot (Ty.slice (Ty.prod Ty.i (Ty.prod Ty.i (Ty.prod Ty.i (Ty.prod Ty.i (Ty.prod Ty.i (Ty.prod Ty.i (Ty.prod Ty.i (Ty.prod (Ty.slice
  YReadMark) (Ty.prod (Ty.slice YReadMark) Ty.unit)))))))))) (.slot (Ty.slice (Ty.prod Ty.i (Ty.prod Ty.i (Ty.prod Ty.i (Ty.prod Ty.i (Ty.prod Ty.i (Ty.prod Ty.i (Ty.prod Ty.i (Ty.prod (Ty.slice
  YReadMark) (Ty.prod (Ty.slice YReadMark) Ty.unit)))))))))) (jk 3 (.slot Ty.i (jk 21 .nil))))), .nil⟩
def q221_X4_0 (i : q221_I4) (p : Unit) : St := ⟨jn 4 (.b (false) :: jn 22 ([])), []⟩
def q221_X4_1 (i : q221_I4) (p : Unit) : St := ⟨jn 27 ([]), []⟩
noncomputable def q221_E4 (i : q221_I4) (p : q221_Q4) (R : Type) (K : Ex → St → Option R) : Option R := sumC p (fun p => K (Ex.ret) (q221_X4_0 i p)) fun p => K (Ex.exit 0) (q221_X4_1 i p)
noncomputable def q221_K4 (i : q221_I4) (p : q221_Q4) : Ex × St := sumC p (fun p => (Ex.ret, q221_X4_0 i p)) fun p => (Ex.exit 0, q221_X4_1 i p)
def q221_M4 (i : q221_I4) (v : q221_V4) : den q221_T4.ty := (i.1, i.2.1, v.1, ())
def q221_P4 (x : den q221_T4.ty) : q221_I4 × q221_V4 := ((x.1, x.2.1, ()), (x.2.2.1, ()))
noncomputable def q221_C : Cfg := { ti := g_tis, ents := [q220_Ent], ann := [(4, loopFn q221_T4 0 q221_P4 laws_eqTransactionS_D4 q221_E4)], lent := 0 }
def q221_ti : Tmpl := ⟨(.slot (Ty.slice (Ty.prod Ty.i (Ty.prod Ty.i (Ty.prod Ty.i (Ty.prod Ty.i (Ty.prod Ty.i (Ty.prod Ty.i (Ty.prod Ty.i (Ty.prod (Ty.slice
  YReadMark) (Ty.prod (Ty.slice YReadMark) Ty.unit)))))))))) (.slot (Ty.slice (Ty.prod Ty.i (Ty.prod Ty.i (Ty.prod Ty.i (Ty.prod Ty.i (Ty.prod Ty.i (Ty.prod Ty.i (Ty.prod Ty.i (Ty.prod (Ty.slice
  YReadMark) (Ty.prod (Ty.slice YReadMark) Ty.unit)))))))))) .nil)), .nil⟩
def q221_to : Tmpl := ⟨(.slot (Ty.bool) .nil), .nil⟩
noncomputable def laws_eqTransactionS_S (x : List (Int × Int × Int × Int × Int × Int × Int × List (Int × Int × Unit) × List (Int × Int × Unit) × Unit) × List (Int × Int × Int × Int × Int × Int × Int × List (Int × Int × Unit) × List (Int × Int × Unit) × Unit) × Unit) : Option (Bool × Unit) :=
  bif (↑(List.length x.1) : Int) != (↑(List.length x.2.1) : Int) then some (false, ()) else Option.bind (iter (fun v => laws_eqTransactionS_D4 (x.1, x.2.1, ()) v _ some) (0, ())) fun p => sumC p (fun p => some (false, ())) fun p =>
  some (true, ())
noncomputable def q221_Ent : Ent := ⟨96, q221_ti, q221_to, laws_eqTransactionS_S⟩
theorem q221_HC : CfgOK Tryz.prog q221_C := hc_of g_tisOK g_wide (all_cons q220_OK all_nil)
theorem q221_lk4 : LkOK Tryz.prog q221_C (lpc Tryz.f96 0) :=
  lk_of q221_HC (m := 0) (T := q221_T4) (sp := q221_P4) (D := laws_eqTransactionS_D4) (E := q221_E4) (by kernel_rfl) (by kernel_rfl) (fun k hk => absurd hk (Nat.not_lt_zero k)) [4] q221_M4 (fun x => rfl) laws_eqTransactionS_D4_nat q221_K4 (fun i p R K => by rcases p with p | p <;> rfl) (fun i v => by kernel_rfl)
theorem q221_OK : EntOK Tryz.prog q221_Ent := ok_of q221_HC Tryz.func96 1 (by kernel_rfl) (fun k hk => match k, hk with | 0, _ => q221_lk4) (by kernel_rfl) (by kernel_rfl) (fun x => by kernel_rfl)
noncomputable def q222_C : Cfg := { ti := g_tis, ents := [], ann := [], lent := 0 }
def q222_ti : Tmpl := ⟨(.slot YReadMark (.slot YReadMark .nil)), .nil⟩
def q222_to : Tmpl := ⟨(.slot (Ty.bool) .nil), .nil⟩
noncomputable def laws_eqLock_S (x : (Int × Int × Unit) × (Int × Int × Unit) × Unit) : Option (Bool × Unit) :=
  bif x.1.1 != x.2.1.1 then some (false, ()) else bif x.1.2.1 != x.2.1.2.1 then some (false, ()) else some (true, ())
noncomputable def q222_Ent : Ent := ⟨193, q222_ti, q222_to, laws_eqLock_S⟩
theorem q222_HC : CfgOK Tryz.prog q222_C := hc_of g_tisOK g_wide all_nil
theorem q222_OK : EntOK Tryz.prog q222_Ent := ok_of q222_HC Tryz.func193 0 (by kernel_rfl) (fun k hk => absurd hk (Nat.not_lt_zero k)) (by kernel_rfl) (by kernel_rfl) (fun x => by kernel_rfl)
abbrev q223_I4 : Type := List (Int × Int × Unit) × List (Int × Int × Unit) × Unit
abbrev q223_V4 : Type := Int × Unit
abbrev q223_Q4 : Type := Unit ⊕ Unit
noncomputable def laws_eqLockS_D4 (i : q223_I4) (v : q223_V4) (R : Type) (K : q223_V4 ⊕ q223_Q4 → Option R) : Option R :=
  bif decide (v.1 < (↑(List.length i.1) : Int)) then Option.bind (lAt i.1 v.1) fun v_1 => Option.bind (lAt i.2.1 v.1) fun v_2 => Option.bind (laws_eqLock_S ((v_1.1, v_1.2.1, ()), (v_2.1, v_2.2.1, ()), ())) fun v_3 => bif !v_3.1 then K (Sum.inr
  (Sum.inl ())) else K (Sum.inl (IntKind.wrap IntKind.i64 (v.1 + 1), ())) else K (Sum.inr (Sum.inr ()))
theorem laws_eqLockS_D4_nat : NatD laws_eqLockS_D4 := fun i v R K => nat_bif (nat_bind fun _ => nat_bind fun _ => nat_bind fun _ => nat_bif (nat_some) (nat_some)) (nat_some)
def q223_T4 : Tmpl := ⟨(.slot (Ty.slice YReadMark) (.slot (Ty.slice YReadMark) (jk 3 (.slot Ty.i (jk 21 .nil))))), .nil⟩
def q223_X4_0 (i : q223_I4) (p : Unit) : St := ⟨jn 4 (.b (false) :: jn 22 ([])), []⟩
def q223_X4_1 (i : q223_I4) (p : Unit) : St := ⟨jn 27 ([]), []⟩
noncomputable def q223_E4 (i : q223_I4) (p : q223_Q4) (R : Type) (K : Ex → St → Option R) : Option R := sumC p (fun p => K (Ex.ret) (q223_X4_0 i p)) fun p => K (Ex.exit 0) (q223_X4_1 i p)
noncomputable def q223_K4 (i : q223_I4) (p : q223_Q4) : Ex × St := sumC p (fun p => (Ex.ret, q223_X4_0 i p)) fun p => (Ex.exit 0, q223_X4_1 i p)
def q223_M4 (i : q223_I4) (v : q223_V4) : den q223_T4.ty := (i.1, i.2.1, v.1, ())
def q223_P4 (x : den q223_T4.ty) : q223_I4 × q223_V4 := ((x.1, x.2.1, ()), (x.2.2.1, ()))
noncomputable def q223_C : Cfg := { ti := g_tis, ents := [q222_Ent], ann := [(4, loopFn q223_T4 0 q223_P4 laws_eqLockS_D4 q223_E4)], lent := 0 }
def q223_ti : Tmpl := ⟨(.slot (Ty.slice YReadMark) (.slot (Ty.slice YReadMark) .nil)), .nil⟩
def q223_to : Tmpl := ⟨(.slot (Ty.bool) .nil), .nil⟩
noncomputable def laws_eqLockS_S (x : List (Int × Int × Unit) × List (Int × Int × Unit) × Unit) : Option (Bool × Unit) :=
  bif (↑(List.length x.1) : Int) != (↑(List.length x.2.1) : Int) then some (false, ()) else Option.bind (iter (fun v => laws_eqLockS_D4 (x.1, x.2.1, ()) v _ some) (0, ())) fun p => sumC p (fun p => some (false, ())) fun p => some
  (true, ())
noncomputable def q223_Ent : Ent := ⟨97, q223_ti, q223_to, laws_eqLockS_S⟩
theorem q223_HC : CfgOK Tryz.prog q223_C := hc_of g_tisOK g_wide (all_cons q222_OK all_nil)
theorem q223_lk4 : LkOK Tryz.prog q223_C (lpc Tryz.f97 0) :=
  lk_of q223_HC (m := 0) (T := q223_T4) (sp := q223_P4) (D := laws_eqLockS_D4) (E := q223_E4) (by kernel_rfl) (by kernel_rfl) (fun k hk => absurd hk (Nat.not_lt_zero k)) [4] q223_M4 (fun x => rfl) laws_eqLockS_D4_nat q223_K4 (fun i p R K => by rcases p with p | p <;> rfl) (fun i v => by kernel_rfl)
theorem q223_OK : EntOK Tryz.prog q223_Ent := ok_of q223_HC Tryz.func97 1 (by kernel_rfl) (fun k hk => match k, hk with | 0, _ => q223_lk4) (by kernel_rfl) (by kernel_rfl) (fun x => by kernel_rfl)
noncomputable def q224_C : Cfg := { ti := g_tis, ents := [], ann := [], lent := 0 }
def q224_ti : Tmpl := ⟨(.slot YReadMark (.slot YReadMark .nil)), .nil⟩
def q224_to : Tmpl := ⟨(.slot (Ty.bool) .nil), .nil⟩
noncomputable def laws_eqWait_S (x : (Int × Int × Unit) × (Int × Int × Unit) × Unit) : Option (Bool × Unit) :=
  bif x.1.1 != x.2.1.1 then some (false, ()) else bif x.1.2.1 != x.2.1.2.1 then some (false, ()) else some (true, ())
noncomputable def q224_Ent : Ent := ⟨194, q224_ti, q224_to, laws_eqWait_S⟩
theorem q224_HC : CfgOK Tryz.prog q224_C := hc_of g_tisOK g_wide all_nil
theorem q224_OK : EntOK Tryz.prog q224_Ent := ok_of q224_HC Tryz.func194 0 (by kernel_rfl) (fun k hk => absurd hk (Nat.not_lt_zero k)) (by kernel_rfl) (by kernel_rfl) (fun x => by kernel_rfl)
abbrev q225_I4 : Type := List (Int × Int × Unit) × List (Int × Int × Unit) × Unit
abbrev q225_V4 : Type := Int × Unit
abbrev q225_Q4 : Type := Unit ⊕ Unit
noncomputable def laws_eqWaitS_D4 (i : q225_I4) (v : q225_V4) (R : Type) (K : q225_V4 ⊕ q225_Q4 → Option R) : Option R :=
  bif decide (v.1 < (↑(List.length i.1) : Int)) then Option.bind (lAt i.1 v.1) fun v_1 => Option.bind (lAt i.2.1 v.1) fun v_2 => Option.bind (laws_eqWait_S ((v_1.1, v_1.2.1, ()), (v_2.1, v_2.2.1, ()), ())) fun v_3 => bif !v_3.1 then K (Sum.inr
  (Sum.inl ())) else K (Sum.inl (IntKind.wrap IntKind.i64 (v.1 + 1), ())) else K (Sum.inr (Sum.inr ()))
theorem laws_eqWaitS_D4_nat : NatD laws_eqWaitS_D4 := fun i v R K => nat_bif (nat_bind fun _ => nat_bind fun _ => nat_bind fun _ => nat_bif (nat_some) (nat_some)) (nat_some)
def q225_T4 : Tmpl := ⟨(.slot (Ty.slice YReadMark) (.slot (Ty.slice YReadMark) (jk 3 (.slot Ty.i (jk 21 .nil))))), .nil⟩
def q225_X4_0 (i : q225_I4) (p : Unit) : St := ⟨jn 4 (.b (false) :: jn 22 ([])), []⟩
def q225_X4_1 (i : q225_I4) (p : Unit) : St := ⟨jn 27 ([]), []⟩
noncomputable def q225_E4 (i : q225_I4) (p : q225_Q4) (R : Type) (K : Ex → St → Option R) : Option R := sumC p (fun p => K (Ex.ret) (q225_X4_0 i p)) fun p => K (Ex.exit 0) (q225_X4_1 i p)
noncomputable def q225_K4 (i : q225_I4) (p : q225_Q4) : Ex × St := sumC p (fun p => (Ex.ret, q225_X4_0 i p)) fun p => (Ex.exit 0, q225_X4_1 i p)
def q225_M4 (i : q225_I4) (v : q225_V4) : den q225_T4.ty := (i.1, i.2.1, v.1, ())
def q225_P4 (x : den q225_T4.ty) : q225_I4 × q225_V4 := ((x.1, x.2.1, ()), (x.2.2.1, ()))
noncomputable def q225_C : Cfg := { ti := g_tis, ents := [q224_Ent], ann := [(4, loopFn q225_T4 0 q225_P4 laws_eqWaitS_D4 q225_E4)], lent := 0 }
def q225_ti : Tmpl := ⟨(.slot (Ty.slice YReadMark) (.slot (Ty.slice YReadMark) .nil)), .nil⟩
def q225_to : Tmpl := ⟨(.slot (Ty.bool) .nil), .nil⟩
noncomputable def laws_eqWaitS_S (x : List (Int × Int × Unit) × List (Int × Int × Unit) × Unit) : Option (Bool × Unit) :=
  bif (↑(List.length x.1) : Int) != (↑(List.length x.2.1) : Int) then some (false, ()) else Option.bind (iter (fun v => laws_eqWaitS_D4 (x.1, x.2.1, ()) v _ some) (0, ())) fun p => sumC p (fun p => some (false, ())) fun p => some
  (true, ())
noncomputable def q225_Ent : Ent := ⟨98, q225_ti, q225_to, laws_eqWaitS_S⟩
theorem q225_HC : CfgOK Tryz.prog q225_C := hc_of g_tisOK g_wide (all_cons q224_OK all_nil)
theorem q225_lk4 : LkOK Tryz.prog q225_C (lpc Tryz.f98 0) :=
  lk_of q225_HC (m := 0) (T := q225_T4) (sp := q225_P4) (D := laws_eqWaitS_D4) (E := q225_E4) (by kernel_rfl) (by kernel_rfl) (fun k hk => absurd hk (Nat.not_lt_zero k)) [4] q225_M4 (fun x => rfl) laws_eqWaitS_D4_nat q225_K4 (fun i p R K => by rcases p with p | p <;> rfl) (fun i v => by kernel_rfl)
theorem q225_OK : EntOK Tryz.prog q225_Ent := ok_of q225_HC Tryz.func98 1 (by kernel_rfl) (fun k hk => match k, hk with | 0, _ => q225_lk4) (by kernel_rfl) (by kernel_rfl) (fun x => by kernel_rfl)
noncomputable def q226_C : Cfg := { ti := g_tis, ents := [q219_Ent, q221_Ent, q223_Ent, q225_Ent], ann := [], lent := 0 }
def q226_ti : Tmpl := ⟨(.slot (Ty.prod Ty.bool (Ty.prod YStore (Ty.prod
  (Ty.slice (Ty.prod Ty.i (Ty.prod Ty.i (Ty.prod Ty.i (Ty.prod Ty.i (Ty.prod Ty.i (Ty.prod Ty.i (Ty.prod Ty.i (Ty.prod (Ty.slice
  YReadMark) (Ty.prod (Ty.slice YReadMark) Ty.unit)))))))))) (Ty.prod (Ty.slice (Ty.prod Ty.i (Ty.prod
  Ty.i Ty.unit))) (Ty.prod (Ty.slice YReadMark) (Ty.prod Ty.i Ty.unit)))))) (.slot (Ty.prod Ty.bool (Ty.prod YStore (Ty.prod
  (Ty.slice (Ty.prod Ty.i (Ty.prod Ty.i (Ty.prod Ty.i (Ty.prod Ty.i (Ty.prod Ty.i (Ty.prod Ty.i (Ty.prod Ty.i (Ty.prod (Ty.slice
  YReadMark) (Ty.prod (Ty.slice YReadMark) Ty.unit)))))))))) (Ty.prod (Ty.slice (Ty.prod Ty.i (Ty.prod
  Ty.i Ty.unit))) (Ty.prod (Ty.slice YReadMark) (Ty.prod Ty.i Ty.unit)))))) .nil)), .nil⟩
def q226_to : Tmpl := ⟨(.slot (Ty.bool) .nil), .nil⟩
noncomputable def laws_eqEngine_S (x : (Bool × (List (List (Int × Int × Int × Int × Int × Unit)) × Unit) × List (Int × Int × Int × Int × Int × Int × Int × List (Int × Int × Unit) × List (Int × Int × Unit) × Unit) × List (Int × Int × Unit) × List (Int × Int × Unit) × Int × Unit) ×
  (Bool × (List (List (Int × Int × Int × Int × Int × Unit)) × Unit) × List (Int × Int × Int × Int × Int × Int × Int × List (Int × Int × Unit) × List (Int × Int × Unit) × Unit) × List (Int × Int × Unit) × List (Int × Int × Unit) × Int × Unit) ×
  Unit) : Option (Bool × Unit) :=
  bif !x.1.1 == x.2.1.1 then some (false, ()) else Option.bind (laws_eqStore_S ((x.1.2.1.1, ()), (x.2.1.2.1.1, ()), ())) fun v => bif !v.1 then some (false, ()) else Option.bind (laws_eqTransactionS_S (x.1.2.2.1, x.2.1.2.2.1, ())) fun v => bif
  !v.1 then some (false, ()) else Option.bind (laws_eqLockS_S (x.1.2.2.2.1, x.2.1.2.2.2.1, ())) fun v => bif !v.1 then some (false, ()) else Option.bind (laws_eqWaitS_S (x.1.2.2.2.2.1, x.2.1.2.2.2.2.1, ())) fun v => bif !v.1 then some (false,
  ()) else bif x.1.2.2.2.2.2.1 != x.2.1.2.2.2.2.2.1 then some (false, ()) else some (true, ())
noncomputable def q226_Ent : Ent := ⟨28, q226_ti, q226_to, laws_eqEngine_S⟩
theorem q226_HC : CfgOK Tryz.prog q226_C := hc_of g_tisOK g_wide (all_cons q219_OK (all_cons q221_OK (all_cons q223_OK (all_cons q225_OK all_nil))))
theorem q226_OK : EntOK Tryz.prog q226_Ent := ok_of q226_HC Tryz.func28 0 (by kernel_rfl) (fun k hk => absurd hk (Nat.not_lt_zero k)) (by kernel_rfl) (by kernel_rfl) (fun x => by kernel_rfl)
noncomputable def q227_C : Cfg := { ti := g_tis, ents := [q145_Ent, q156_Ent, q171_Ent, q215_Ent, q226_Ent], ann := [], lent := 0 }
def q227_ti : Tmpl := ⟨(.slot (Ty.prod Ty.bool (Ty.prod YStore (Ty.prod
  (Ty.slice (Ty.prod Ty.i (Ty.prod Ty.i (Ty.prod Ty.i (Ty.prod Ty.i (Ty.prod Ty.i (Ty.prod Ty.i (Ty.prod Ty.i (Ty.prod (Ty.slice
  YReadMark) (Ty.prod (Ty.slice YReadMark) Ty.unit)))))))))) (Ty.prod (Ty.slice (Ty.prod Ty.i (Ty.prod
  Ty.i Ty.unit))) (Ty.prod (Ty.slice YReadMark) (Ty.prod Ty.i Ty.unit)))))) .nil), .nil⟩
def q227_to : Tmpl := ⟨(.slot (Ty.bool) .nil), .nil⟩
noncomputable def laws_FnExactBackEdgeCount_S (x : (Bool × (List (List (Int × Int × Int × Int × Int × Unit)) × Unit) × List (Int × Int × Int × Int × Int × Int × Int × List (Int × Int × Unit) × List (Int × Int × Unit) × Unit) × List (Int × Int × Unit) × List (Int × Int × Unit) × Int × Unit) ×
  Unit) : Option (Bool × Unit) :=
  Option.bind (laws_szEngine_S ((x.1.1, (x.1.2.1.1, ()), x.1.2.2.1, x.1.2.2.2.1, x.1.2.2.2.2.1, x.1.2.2.2.2.2.1, ()), 1048576, ())) fun v => bif decide (v.1 < 0) then some (true, ()) else Option.bind (laws_toEngine_S ((x.1.1, (x.1.2.1.1, ()),
  x.1.2.2.1, x.1.2.2.2.1, x.1.2.2.2.2.1, x.1.2.2.2.2.2.1, ()), ())) fun v => Option.bind (spec_BackEdgeCount_S ((v.1, (v.2.2.1, ()), v.2.2.2.1, v.2.2.2.2.1, v.2.2.2.2.2.1, v.2.1, ()), ())) fun v => Option.bind (laws_toEngine_S ((x.1.1,
  (x.1.2.1.1, ()), x.1.2.2.1, x.1.2.2.2.1, x.1.2.2.2.2.1, x.1.2.2.2.2.2.1, ()), ())) fun v_1 => Option.bind (impl_BackEdgeCount_S ((v_1.1, (v_1.2.2.1, ()), v_1.2.2.2.1, v_1.2.2.2.2.1, v_1.2.2.2.2.2.1, v_1.2.1, ()), ())) fun v_2 => bif v_2.1 !=
  v.1 then some (false, ()) else Option.bind (laws_toEngine_S ((x.1.1, (x.1.2.1.1, ()), x.1.2.2.1, x.1.2.2.2.1, x.1.2.2.2.2.1, x.1.2.2.2.2.2.1, ()), ())) fun v => Option.bind (laws_eqEngine_S ((v_1.1, (v_1.2.2.1, ()), v_1.2.2.2.1,
  v_1.2.2.2.2.1, v_1.2.2.2.2.2.1, v_1.2.1, ()), (v.1, (v.2.2.1, ()), v.2.2.2.1, v.2.2.2.2.1, v.2.2.2.2.2.1, v.2.1, ()), ())) fun v => bif !v.1 then some (false, ()) else some (true, ())
noncomputable def q227_Ent : Ent := ⟨5, q227_ti, q227_to, laws_FnExactBackEdgeCount_S⟩
theorem q227_HC : CfgOK Tryz.prog q227_C := hc_of g_tisOK g_wide (all_cons q145_OK (all_cons q156_OK (all_cons q171_OK (all_cons q215_OK (all_cons q226_OK all_nil)))))
theorem q227_OK : EntOK Tryz.prog q227_Ent := ok_of q227_HC Tryz.func5 0 (by kernel_rfl) (fun k hk => absurd hk (Nat.not_lt_zero k)) (by kernel_rfl) (by kernel_rfl) (fun x => by kernel_rfl)
theorem laws_FnExactBackEdgeCount_OK : EntOK Tryz.prog q227_Ent := q227_OK
end Go.Ab
