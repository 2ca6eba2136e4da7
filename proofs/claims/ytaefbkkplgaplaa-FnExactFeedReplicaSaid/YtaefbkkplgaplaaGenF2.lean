import Derived.Test.YtaefbkkplgaplaaGenF1
set_option maxRecDepth 100000
set_option linter.unusedVariables false
namespace Go.Ab

/-! spec.IsValidTransaction -/

noncomputable def spec_IsValidTransaction_D2 (i : Int × Int × Int × Int × Int × Int × Int × List (Int × Int × Unit) × List (Int × Int × Unit) × Unit) (v : Int × Unit) (R : Type) (K : Int × Unit ⊕ Int × Int × Unit ⊕ Int × Int × Unit ⊕ Int × Int × Unit ⊕ Unit → Option R) : Option R :=
  bif decide (v.1 < (↑(List.length i.2.2.2.2.2.2.2.1) : Int)) then Option.bind (lAt i.2.2.2.2.2.2.2.1 v.1) fun v_1 => Option.bind (spec_l1In_S (v_1.1, 0, 5, ())) fun v_2 => bif !v_2.1 then K (Sum.inr (Sum.inl (v_1.1, v_1.2.1, ()))) else
  Option.bind (spec_l1In_S (v_1.2.1, 0, 999, ())) fun v_3 => bif !v_3.1 then K (Sum.inr (Sum.inr (Sum.inl (v_1.1, v_1.2.1, ())))) else bif decide (v.1 > 0) then Option.bind (lAt i.2.2.2.2.2.2.2.1 (IntKind.wrap IntKind.i64 (v.1 - 1))) fun v_4
  => Option.bind (spec_l5Before_S ((v_4.1, v_4.2.1, ()), (v_1.1, v_1.2.1, ()), ())) fun v_5 => bif !v_5.1 then K (Sum.inr (Sum.inr (Sum.inr (Sum.inl (v_1.1, v_1.2.1, ()))))) else K (Sum.inl (IntKind.wrap IntKind.i64 (v.1 + 1), ())) else K
  (Sum.inl (IntKind.wrap IntKind.i64 (v.1 + 1), ())) else K (Sum.inr (Sum.inr (Sum.inr (Sum.inr ()))))

theorem spec_IsValidTransaction_D2_nat (i : Int × Int × Int × Int × Int × Int × Int × List (Int × Int × Unit) × List (Int × Int × Unit) × Unit) (v : Int × Unit) (R : Type) (K : Int × Unit ⊕ Int × Int × Unit ⊕ Int × Int × Unit ⊕ Int × Int × Unit ⊕ Unit → Option R) : spec_IsValidTransaction_D2 i v R K = (spec_IsValidTransaction_D2 i v _ some).bind K := nat_bif (nat_bind fun _ => nat_bind fun _ => nat_bif (nat_some) (nat_bind fun _ => nat_bif (nat_some) (nat_bif (nat_bind fun _ => nat_bind fun _ => nat_bif (nat_some) (nat_some)) (nat_some)))) (nat_some)

def spec_IsValidTransaction_T2 : Tmpl := Tmpl.mk (TmL.junk (TmL.ptr 0 0 0 (TmL.junk (TmL.slot Ty.i (TmL.junk (TmL.junk (TmL.junk (TmL.junk (TmL.junk (TmL.junk (TmL.junk (TmL.junk (TmL.junk (TmL.junk (TmL.junk (TmL.junk (TmL.junk (TmL.junk (TmL.junk (TmL.junk
  (TmL.junk (TmL.junk (TmL.junk (TmL.junk (TmL.junk (TmL.junk (TmL.junk (TmL.junk (TmL.junk (TmL.junk (TmL.junk (TmL.junk (TmL.junk (TmL.junk (TmL.junk (TmL.junk (TmL.junk (TmL.junk (TmL.junk (TmL.junk (TmL.junk (TmL.junk (TmL.junk (TmL.junk
  (TmL.junk (TmL.junk (TmL.junk (TmL.junk (TmL.junk (TmL.junk (TmL.junk (TmL.junk (TmL.junk (TmL.junk (TmL.junk (TmL.junk (TmL.junk (TmL.junk (TmL.junk (TmL.junk (TmL.junk (TmL.junk (TmL.junk (TmL.junk (TmL.junk (TmL.junk (TmL.junk (TmL.junk
  (TmL.junk (TmL.junk (TmL.junk (TmL.junk (TmL.junk (TmL.junk (TmL.junk (TmL.junk (TmL.junk (TmL.junk (TmL.junk (TmL.junk (TmL.junk (TmL.junk (TmL.junk (TmL.junk (TmL.junk (TmL.junk (TmL.junk (TmL.junk (TmL.junk (TmL.junk (TmL.junk (TmL.junk
  (TmL.junk (TmL.junk (TmL.junk (TmL.junk (TmL.junk (TmL.junk (TmL.junk (TmL.junk (TmL.junk (TmL.junk (TmL.junk (TmL.junk (TmL.junk (TmL.junk (TmL.junk (TmL.junk (TmL.junk (TmL.junk (TmL.junk (TmL.junk (TmL.junk (TmL.junk (TmL.junk (TmL.junk
  (TmL.junk (TmL.junk (TmL.junk (TmL.junk (TmL.junk (TmL.junk (TmL.junk (TmL.junk (TmL.junk (TmL.junk (TmL.junk (TmL.junk (TmL.junk (TmL.junk (TmL.junk
  TmL.nil))))))))))))))))))))))))))))))))))))))))))))))))))))))))))))))))))))))))))))))))))))))))))))))))))))))))))))))))))))))))))))))))))) (TmH.cells 9 (TmL.slot Ty.i (TmL.slot Ty.i (TmL.slot (Ty.int
  IntKind.i64) (TmL.slot Ty.i (TmL.slot Ty.i (TmL.slot Ty.i (TmL.slot Ty.i (TmL.slot (Ty.slice YReadMark) (TmL.slot
  (Ty.slice YReadMark) TmL.nil))))))))) TmH.nil)

def spec_IsValidTransaction_X2_0 (i : Int × Int × Int × Int × Int × Int × Int × List (Int × Int × Unit) × List (Int × Int × Unit) × Unit) (p : Int × Int × Unit) : St :=
  St.mk [AV.junk, AV.ptr 0 none 0 0, AV.pv Ty.bool false, AV.junk, AV.junk, AV.junk, AV.junk, AV.junk, AV.junk, AV.junk, AV.junk, AV.junk, AV.junk, AV.junk, AV.junk, AV.junk, AV.junk, AV.junk, AV.junk, AV.junk, AV.junk, AV.junk, AV.junk,
  AV.junk, AV.junk, AV.junk, AV.junk, AV.junk, AV.junk, AV.junk, AV.junk, AV.junk, AV.junk, AV.junk, AV.junk, AV.junk, AV.junk, AV.junk, AV.junk, AV.junk, AV.junk, AV.junk, AV.junk, AV.junk, AV.junk, AV.junk, AV.junk, AV.junk, AV.junk,
  AV.junk, AV.junk, AV.junk, AV.junk, AV.junk, AV.junk, AV.junk, AV.junk, AV.junk, AV.junk, AV.junk, AV.junk, AV.junk, AV.junk, AV.junk, AV.junk, AV.junk, AV.junk, AV.junk, AV.junk, AV.junk, AV.junk, AV.junk, AV.junk, AV.junk, AV.junk,
  AV.junk, AV.junk, AV.junk, AV.junk, AV.junk, AV.junk, AV.junk, AV.junk, AV.junk, AV.junk, AV.junk, AV.junk, AV.junk, AV.junk, AV.junk, AV.junk, AV.junk, AV.junk, AV.junk, AV.junk, AV.junk, AV.junk, AV.junk, AV.junk, AV.junk, AV.junk,
  AV.junk, AV.junk, AV.junk, AV.junk, AV.junk, AV.junk, AV.junk, AV.junk, AV.junk, AV.junk, AV.junk, AV.junk, AV.junk, AV.junk, AV.junk, AV.junk, AV.junk, AV.junk, AV.junk, AV.junk, AV.junk, AV.junk, AV.junk, AV.junk, AV.junk, AV.junk,
  AV.junk, AV.junk, AV.junk, AV.junk] [some (Cont.cells 9 [[AV.pv Ty.i i.1, AV.pv Ty.i i.2.1, AV.pv Ty.i i.2.2.1, AV.pv Ty.i i.2.2.2.1, AV.pv Ty.i i.2.2.2.2.1,
  AV.pv Ty.i i.2.2.2.2.2.1, AV.pv Ty.i i.2.2.2.2.2.2.1, AV.pv (Ty.slice YReadMark) i.2.2.2.2.2.2.2.1, AV.pv (Ty.slice (Ty.prod Ty.i
  (Ty.prod Ty.i Ty.unit))) i.2.2.2.2.2.2.2.2.1]]), some (Cont.cells 2 [[AV.pv Ty.i p.1, AV.pv Ty.i p.2.1]])]

def spec_IsValidTransaction_X2_1 (i : Int × Int × Int × Int × Int × Int × Int × List (Int × Int × Unit) × List (Int × Int × Unit) × Unit) (p : Int × Int × Unit) : St :=
  St.mk [AV.junk, AV.ptr 0 none 0 0, AV.pv Ty.bool false, AV.junk, AV.junk, AV.junk, AV.junk, AV.junk, AV.junk, AV.junk, AV.junk, AV.junk, AV.junk, AV.junk, AV.junk, AV.junk, AV.junk, AV.junk, AV.junk, AV.junk, AV.junk, AV.junk, AV.junk,
  AV.junk, AV.junk, AV.junk, AV.junk, AV.junk, AV.junk, AV.junk, AV.junk, AV.junk, AV.junk, AV.junk, AV.junk, AV.junk, AV.junk, AV.junk, AV.junk, AV.junk, AV.junk, AV.junk, AV.junk, AV.junk, AV.junk, AV.junk, AV.junk, AV.junk, AV.junk,
  AV.junk, AV.junk, AV.junk, AV.junk, AV.junk, AV.junk, AV.junk, AV.junk, AV.junk, AV.junk, AV.junk, AV.junk, AV.junk, AV.junk, AV.junk, AV.junk, AV.junk, AV.junk, AV.junk, AV.junk, AV.junk, AV.junk, AV.junk, AV.junk, AV.junk, AV.junk,
  AV.junk, AV.junk, AV.junk, AV.junk, AV.junk, AV.junk, AV.junk, AV.junk, AV.junk, AV.junk, AV.junk, AV.junk, AV.junk, AV.junk, AV.junk, AV.junk, AV.junk, AV.junk, AV.junk, AV.junk, AV.junk, AV.junk, AV.junk, AV.junk, AV.junk, AV.junk,
  AV.junk, AV.junk, AV.junk, AV.junk, AV.junk, AV.junk, AV.junk, AV.junk, AV.junk, AV.junk, AV.junk, AV.junk, AV.junk, AV.junk, AV.junk, AV.junk, AV.junk, AV.junk, AV.junk, AV.junk, AV.junk, AV.junk, AV.junk, AV.junk, AV.junk, AV.junk,
  AV.junk, AV.junk, AV.junk, AV.junk] [some (Cont.cells 9 [[AV.pv Ty.i i.1, AV.pv Ty.i i.2.1, AV.pv Ty.i i.2.2.1, AV.pv Ty.i i.2.2.2.1, AV.pv Ty.i i.2.2.2.2.1,
  AV.pv Ty.i i.2.2.2.2.2.1, AV.pv Ty.i i.2.2.2.2.2.2.1, AV.pv (Ty.slice YReadMark) i.2.2.2.2.2.2.2.1, AV.pv (Ty.slice (Ty.prod Ty.i
  (Ty.prod Ty.i Ty.unit))) i.2.2.2.2.2.2.2.2.1]]), some (Cont.cells 2 [[AV.pv Ty.i p.1, AV.pv Ty.i p.2.1]])]

def spec_IsValidTransaction_X2_2 (i : Int × Int × Int × Int × Int × Int × Int × List (Int × Int × Unit) × List (Int × Int × Unit) × Unit) (p : Int × Int × Unit) : St :=
  St.mk [AV.junk, AV.ptr 0 none 0 0, AV.pv Ty.bool false, AV.junk, AV.junk, AV.junk, AV.junk, AV.junk, AV.junk, AV.junk, AV.junk, AV.junk, AV.junk, AV.junk, AV.junk, AV.junk, AV.junk, AV.junk, AV.junk, AV.junk, AV.junk, AV.junk, AV.junk,
  AV.junk, AV.junk, AV.junk, AV.junk, AV.junk, AV.junk, AV.junk, AV.junk, AV.junk, AV.junk, AV.junk, AV.junk, AV.junk, AV.junk, AV.junk, AV.junk, AV.junk, AV.junk, AV.junk, AV.junk, AV.junk, AV.junk, AV.junk, AV.junk, AV.junk, AV.junk,
  AV.junk, AV.junk, AV.junk, AV.junk, AV.junk, AV.junk, AV.junk, AV.junk, AV.junk, AV.junk, AV.junk, AV.junk, AV.junk, AV.junk, AV.junk, AV.junk, AV.junk, AV.junk, AV.junk, AV.junk, AV.junk, AV.junk, AV.junk, AV.junk, AV.junk, AV.junk,
  AV.junk, AV.junk, AV.junk, AV.junk, AV.junk, AV.junk, AV.junk, AV.junk, AV.junk, AV.junk, AV.junk, AV.junk, AV.junk, AV.junk, AV.junk, AV.junk, AV.junk, AV.junk, AV.junk, AV.junk, AV.junk, AV.junk, AV.junk, AV.junk, AV.junk, AV.junk,
  AV.junk, AV.junk, AV.junk, AV.junk, AV.junk, AV.junk, AV.junk, AV.junk, AV.junk, AV.junk, AV.junk, AV.junk, AV.junk, AV.junk, AV.junk, AV.junk, AV.junk, AV.junk, AV.junk, AV.junk, AV.junk, AV.junk, AV.junk, AV.junk, AV.junk, AV.junk,
  AV.junk, AV.junk, AV.junk, AV.junk] [some (Cont.cells 9 [[AV.pv Ty.i i.1, AV.pv Ty.i i.2.1, AV.pv Ty.i i.2.2.1, AV.pv Ty.i i.2.2.2.1, AV.pv Ty.i i.2.2.2.2.1,
  AV.pv Ty.i i.2.2.2.2.2.1, AV.pv Ty.i i.2.2.2.2.2.2.1, AV.pv (Ty.slice YReadMark) i.2.2.2.2.2.2.2.1, AV.pv (Ty.slice (Ty.prod Ty.i
  (Ty.prod Ty.i Ty.unit))) i.2.2.2.2.2.2.2.2.1]]), some (Cont.cells 2 [[AV.pv Ty.i p.1, AV.pv Ty.i p.2.1]])]

def spec_IsValidTransaction_X2_3 (i : Int × Int × Int × Int × Int × Int × Int × List (Int × Int × Unit) × List (Int × Int × Unit) × Unit) (p : Unit) : St :=
  St.mk [AV.junk, AV.ptr 0 none 0 0, AV.junk, AV.junk, AV.junk, AV.junk, AV.junk, AV.junk, AV.junk, AV.junk, AV.junk, AV.junk, AV.junk, AV.junk, AV.junk, AV.junk, AV.junk, AV.junk, AV.junk, AV.junk, AV.junk, AV.junk, AV.junk, AV.junk, AV.junk,
  AV.junk, AV.junk, AV.junk, AV.junk, AV.junk, AV.junk, AV.junk, AV.junk, AV.junk, AV.junk, AV.junk, AV.junk, AV.junk, AV.junk, AV.junk, AV.junk, AV.junk, AV.junk, AV.junk, AV.junk, AV.junk, AV.junk, AV.junk, AV.junk, AV.junk, AV.junk,
  AV.junk, AV.junk, AV.junk, AV.junk, AV.junk, AV.junk, AV.junk, AV.junk, AV.junk, AV.junk, AV.junk, AV.junk, AV.junk, AV.junk, AV.junk, AV.junk, AV.junk, AV.junk, AV.junk, AV.junk, AV.junk, AV.junk, AV.junk, AV.junk, AV.junk, AV.junk,
  AV.junk, AV.junk, AV.junk, AV.junk, AV.junk, AV.junk, AV.junk, AV.junk, AV.junk, AV.junk, AV.junk, AV.junk, AV.junk, AV.junk, AV.junk, AV.junk, AV.junk, AV.junk, AV.junk, AV.junk, AV.junk, AV.junk, AV.junk, AV.junk, AV.junk, AV.junk,
  AV.junk, AV.junk, AV.junk, AV.junk, AV.junk, AV.junk, AV.junk, AV.junk, AV.junk, AV.junk, AV.junk, AV.junk, AV.junk, AV.junk, AV.junk, AV.junk, AV.junk, AV.junk, AV.junk, AV.junk, AV.junk, AV.junk, AV.junk, AV.junk, AV.junk, AV.junk,
  AV.junk, AV.junk] [some (Cont.cells 9 [[AV.pv Ty.i i.1, AV.pv Ty.i i.2.1, AV.pv Ty.i i.2.2.1, AV.pv Ty.i i.2.2.2.1, AV.pv Ty.i i.2.2.2.2.1, AV.pv (Ty.int
  IntKind.i64) i.2.2.2.2.2.1, AV.pv Ty.i i.2.2.2.2.2.2.1, AV.pv (Ty.slice YReadMark) i.2.2.2.2.2.2.2.1, AV.pv (Ty.slice (Ty.prod Ty.i (Ty.prod (Ty.int
  IntKind.i64) Ty.unit))) i.2.2.2.2.2.2.2.2.1]])]

noncomputable def spec_IsValidTransaction_E2 (i : Int × Int × Int × Int × Int × Int × Int × List (Int × Int × Unit) × List (Int × Int × Unit) × Unit) (p : Int × Int × Unit ⊕ Int × Int × Unit ⊕ Int × Int × Unit ⊕ Unit) (R : Type) (K : Ex → St → Option R) : Option R := sumC p (fun p => K (Ex.ret) (spec_IsValidTransaction_X2_0 i p)) (fun p => sumC p (fun p => K (Ex.ret) (spec_IsValidTransaction_X2_1 i p)) (fun p => sumC p (fun p => K (Ex.ret) (spec_IsValidTransaction_X2_2 i p)) (fun p => K (Ex.exit 0) (spec_IsValidTransaction_X2_3 i p))))

noncomputable def spec_IsValidTransaction_K2 (i : Int × Int × Int × Int × Int × Int × Int × List (Int × Int × Unit) × List (Int × Int × Unit) × Unit) (p : Int × Int × Unit ⊕ Int × Int × Unit ⊕ Int × Int × Unit ⊕ Unit) : Ex × St := sumC p (fun p => ((Ex.ret), spec_IsValidTransaction_X2_0 i p)) (fun p => sumC p (fun p => ((Ex.ret), spec_IsValidTransaction_X2_1 i p)) (fun p => sumC p (fun p => ((Ex.ret), spec_IsValidTransaction_X2_2 i p)) (fun p => ((Ex.exit 0), spec_IsValidTransaction_X2_3 i p))))

def spec_IsValidTransaction_M2 (i : Int × Int × Int × Int × Int × Int × Int × List (Int × Int × Unit) × List (Int × Int × Unit) × Unit) (v : Int × Unit) : den spec_IsValidTransaction_T2.ty := (v.1, i.1, i.2.1, i.2.2.1, i.2.2.2.1, i.2.2.2.2.1, i.2.2.2.2.2.1, i.2.2.2.2.2.2.1, i.2.2.2.2.2.2.2.1, i.2.2.2.2.2.2.2.2.1, ())

def spec_IsValidTransaction_P2 (x : den spec_IsValidTransaction_T2.ty) : (Int × Int × Int × Int × Int × Int × Int × List (Int × Int × Unit) × List (Int × Int × Unit) × Unit) × (Int × Unit) := ((x.2.1, x.2.2.1, x.2.2.2.1, x.2.2.2.2.1, x.2.2.2.2.2.1, x.2.2.2.2.2.2.1, x.2.2.2.2.2.2.2.1, x.2.2.2.2.2.2.2.2.1, x.2.2.2.2.2.2.2.2.2.1, ()), (x.1, ()))

noncomputable def spec_IsValidTransaction_F2 : LoopFn := fun s R K => Tmpl.readS spec_IsValidTransaction_T2 0 s fun x => (iter (fun v => spec_IsValidTransaction_D2 (spec_IsValidTransaction_P2 x).1 v _ some) (spec_IsValidTransaction_P2 x).2).bind fun p => spec_IsValidTransaction_E2 (spec_IsValidTransaction_P2 x).1 p R K

noncomputable def spec_IsValidTransaction_D8 (i : Int × Int × Int × Int × Int × Int × Int × List (Int × Int × Unit) × List (Int × Int × Unit) × Unit) (v : Int × Unit) (R : Type) (K : Int × Unit ⊕ Int × Int × Unit ⊕ Int × Int × Unit ⊕ Int × Int × Unit ⊕ Unit → Option R) : Option R :=
  bif decide (v.1 < (↑(List.length i.2.2.2.2.2.2.2.2.1) : Int)) then Option.bind (lAt i.2.2.2.2.2.2.2.2.1 v.1) fun v_1 => Option.bind (spec_l1In_S (v_1.1, 0, 5, ())) fun v_2 => bif !v_2.1 then K (Sum.inr (Sum.inl (v_1.1, v_1.2.1, ()))) else
  Option.bind (spec_l1In_S (v_1.2.1, -1, 99, ())) fun v_3 => bif !v_3.1 then K (Sum.inr (Sum.inr (Sum.inl (v_1.1, v_1.2.1, ())))) else bif decide (v.1 > 0) then Option.bind (lAt i.2.2.2.2.2.2.2.2.1 (IntKind.wrap IntKind.i64 (v.1 - 1))) fun v_4
  => bif decide (v_4.1 ≥ v_1.1) then K (Sum.inr (Sum.inr (Sum.inr (Sum.inl (v_1.1, v_1.2.1, ()))))) else K (Sum.inl (IntKind.wrap IntKind.i64 (v.1 + 1), ())) else K (Sum.inl (IntKind.wrap IntKind.i64 (v.1 + 1), ())) else K (Sum.inr (Sum.inr
  (Sum.inr (Sum.inr ()))))

theorem spec_IsValidTransaction_D8_nat (i : Int × Int × Int × Int × Int × Int × Int × List (Int × Int × Unit) × List (Int × Int × Unit) × Unit) (v : Int × Unit) (R : Type) (K : Int × Unit ⊕ Int × Int × Unit ⊕ Int × Int × Unit ⊕ Int × Int × Unit ⊕ Unit → Option R) : spec_IsValidTransaction_D8 i v R K = (spec_IsValidTransaction_D8 i v _ some).bind K := nat_bif (nat_bind fun _ => nat_bind fun _ => nat_bif (nat_some) (nat_bind fun _ => nat_bif (nat_some) (nat_bif (nat_bind fun _ => nat_bif (nat_some) (nat_some)) (nat_some)))) (nat_some)

def spec_IsValidTransaction_T8 : Tmpl := Tmpl.mk (TmL.junk (TmL.ptr 0 0 0 (TmL.junk (TmL.junk (TmL.junk (TmL.slot Ty.i (TmL.junk (TmL.junk (TmL.junk (TmL.junk (TmL.junk (TmL.junk (TmL.junk (TmL.junk (TmL.junk (TmL.junk (TmL.junk (TmL.junk (TmL.junk (TmL.junk
  (TmL.junk (TmL.junk (TmL.junk (TmL.junk (TmL.junk (TmL.junk (TmL.junk (TmL.junk (TmL.junk (TmL.junk (TmL.junk (TmL.junk (TmL.junk (TmL.junk (TmL.junk (TmL.junk (TmL.junk (TmL.junk (TmL.junk (TmL.junk (TmL.junk (TmL.junk (TmL.junk (TmL.junk
  (TmL.junk (TmL.junk (TmL.junk (TmL.junk (TmL.junk (TmL.junk (TmL.junk (TmL.junk (TmL.junk (TmL.junk (TmL.junk (TmL.junk (TmL.junk (TmL.junk (TmL.junk (TmL.junk (TmL.junk (TmL.junk (TmL.junk (TmL.junk (TmL.junk (TmL.junk (TmL.junk (TmL.junk
  (TmL.junk (TmL.junk (TmL.junk (TmL.junk (TmL.junk (TmL.junk (TmL.junk (TmL.junk (TmL.junk (TmL.junk (TmL.junk (TmL.junk (TmL.junk (TmL.junk (TmL.junk (TmL.junk (TmL.junk (TmL.junk (TmL.junk (TmL.junk (TmL.junk (TmL.junk (TmL.junk (TmL.junk
  (TmL.junk (TmL.junk (TmL.junk (TmL.junk (TmL.junk (TmL.junk (TmL.junk (TmL.junk (TmL.junk (TmL.junk (TmL.junk (TmL.junk (TmL.junk (TmL.junk (TmL.junk (TmL.junk (TmL.junk (TmL.junk (TmL.junk (TmL.junk (TmL.junk (TmL.junk (TmL.junk (TmL.junk
  (TmL.junk (TmL.junk (TmL.junk (TmL.junk (TmL.junk (TmL.junk (TmL.junk (TmL.junk (TmL.junk (TmL.junk (TmL.junk (TmL.junk (TmL.junk (TmL.junk (TmL.junk
  TmL.nil))))))))))))))))))))))))))))))))))))))))))))))))))))))))))))))))))))))))))))))))))))))))))))))))))))))))))))))))))))))))))))))))))) (TmH.cells 9 (TmL.slot Ty.i (TmL.slot Ty.i (TmL.slot (Ty.int
  IntKind.i64) (TmL.slot Ty.i (TmL.slot Ty.i (TmL.slot Ty.i (TmL.slot Ty.i (TmL.slot (Ty.slice YReadMark) (TmL.slot
  (Ty.slice YReadMark) TmL.nil))))))))) TmH.nil)

def spec_IsValidTransaction_X8_0 (i : Int × Int × Int × Int × Int × Int × Int × List (Int × Int × Unit) × List (Int × Int × Unit) × Unit) (p : Int × Int × Unit) : St :=
  St.mk [AV.junk, AV.ptr 0 none 0 0, AV.pv Ty.bool false, AV.junk, AV.junk, AV.junk, AV.junk, AV.junk, AV.junk, AV.junk, AV.junk, AV.junk, AV.junk, AV.junk, AV.junk, AV.junk, AV.junk, AV.junk, AV.junk, AV.junk, AV.junk, AV.junk, AV.junk,
  AV.junk, AV.junk, AV.junk, AV.junk, AV.junk, AV.junk, AV.junk, AV.junk, AV.junk, AV.junk, AV.junk, AV.junk, AV.junk, AV.junk, AV.junk, AV.junk, AV.junk, AV.junk, AV.junk, AV.junk, AV.junk, AV.junk, AV.junk, AV.junk, AV.junk, AV.junk,
  AV.junk, AV.junk, AV.junk, AV.junk, AV.junk, AV.junk, AV.junk, AV.junk, AV.junk, AV.junk, AV.junk, AV.junk, AV.junk, AV.junk, AV.junk, AV.junk, AV.junk, AV.junk, AV.junk, AV.junk, AV.junk, AV.junk, AV.junk, AV.junk, AV.junk, AV.junk,
  AV.junk, AV.junk, AV.junk, AV.junk, AV.junk, AV.junk, AV.junk, AV.junk, AV.junk, AV.junk, AV.junk, AV.junk, AV.junk, AV.junk, AV.junk, AV.junk, AV.junk, AV.junk, AV.junk, AV.junk, AV.junk, AV.junk, AV.junk, AV.junk, AV.junk, AV.junk,
  AV.junk, AV.junk, AV.junk, AV.junk, AV.junk, AV.junk, AV.junk, AV.junk, AV.junk, AV.junk, AV.junk, AV.junk, AV.junk, AV.junk, AV.junk, AV.junk, AV.junk, AV.junk, AV.junk, AV.junk, AV.junk, AV.junk, AV.junk, AV.junk, AV.junk, AV.junk,
  AV.junk, AV.junk, AV.junk, AV.junk] [some (Cont.cells 9 [[AV.pv Ty.i i.1, AV.pv Ty.i i.2.1, AV.pv Ty.i i.2.2.1, AV.pv Ty.i i.2.2.2.1, AV.pv Ty.i i.2.2.2.2.1,
  AV.pv Ty.i i.2.2.2.2.2.1, AV.pv Ty.i i.2.2.2.2.2.2.1, AV.pv (Ty.slice YReadMark) i.2.2.2.2.2.2.2.1, AV.pv (Ty.slice (Ty.prod Ty.i
  (Ty.prod Ty.i Ty.unit))) i.2.2.2.2.2.2.2.2.1]]), some (Cont.cells 2 [[AV.pv Ty.i p.1, AV.pv Ty.i p.2.1]])]

def spec_IsValidTransaction_X8_1 (i : Int × Int × Int × Int × Int × Int × Int × List (Int × Int × Unit) × List (Int × Int × Unit) × Unit) (p : Int × Int × Unit) : St :=
  St.mk [AV.junk, AV.ptr 0 none 0 0, AV.pv Ty.bool false, AV.junk, AV.junk, AV.junk, AV.junk, AV.junk, AV.junk, AV.junk, AV.junk, AV.junk, AV.junk, AV.junk, AV.junk, AV.junk, AV.junk, AV.junk, AV.junk, AV.junk, AV.junk, AV.junk, AV.junk,
  AV.junk, AV.junk, AV.junk, AV.junk, AV.junk, AV.junk, AV.junk, AV.junk, AV.junk, AV.junk, AV.junk, AV.junk, AV.junk, AV.junk, AV.junk, AV.junk, AV.junk, AV.junk, AV.junk, AV.junk, AV.junk, AV.junk, AV.junk, AV.junk, AV.junk, AV.junk,
  AV.junk, AV.junk, AV.junk, AV.junk, AV.junk, AV.junk, AV.junk, AV.junk, AV.junk, AV.junk, AV.junk, AV.junk, AV.junk, AV.junk, AV.junk, AV.junk, AV.junk, AV.junk, AV.junk, AV.junk, AV.junk, AV.junk, AV.junk, AV.junk, AV.junk, AV.junk,
  AV.junk, AV.junk, AV.junk, AV.junk, AV.junk, AV.junk, AV.junk, AV.junk, AV.junk, AV.junk, AV.junk, AV.junk, AV.junk, AV.junk, AV.junk, AV.junk, AV.junk, AV.junk, AV.junk, AV.junk, AV.junk, AV.junk, AV.junk, AV.junk, AV.junk, AV.junk,
  AV.junk, AV.junk, AV.junk, AV.junk, AV.junk, AV.junk, AV.junk, AV.junk, AV.junk, AV.junk, AV.junk, AV.junk, AV.junk, AV.junk, AV.junk, AV.junk, AV.junk, AV.junk, AV.junk, AV.junk, AV.junk, AV.junk, AV.junk, AV.junk, AV.junk, AV.junk,
  AV.junk, AV.junk, AV.junk, AV.junk] [some (Cont.cells 9 [[AV.pv Ty.i i.1, AV.pv Ty.i i.2.1, AV.pv Ty.i i.2.2.1, AV.pv Ty.i i.2.2.2.1, AV.pv Ty.i i.2.2.2.2.1,
  AV.pv Ty.i i.2.2.2.2.2.1, AV.pv Ty.i i.2.2.2.2.2.2.1, AV.pv (Ty.slice YReadMark) i.2.2.2.2.2.2.2.1, AV.pv (Ty.slice (Ty.prod Ty.i
  (Ty.prod Ty.i Ty.unit))) i.2.2.2.2.2.2.2.2.1]]), some (Cont.cells 2 [[AV.pv Ty.i p.1, AV.pv Ty.i p.2.1]])]

def spec_IsValidTransaction_X8_2 (i : Int × Int × Int × Int × Int × Int × Int × List (Int × Int × Unit) × List (Int × Int × Unit) × Unit) (p : Int × Int × Unit) : St :=
  St.mk [AV.junk, AV.ptr 0 none 0 0, AV.pv Ty.bool false, AV.junk, AV.junk, AV.junk, AV.junk, AV.junk, AV.junk, AV.junk, AV.junk, AV.junk, AV.junk, AV.junk, AV.junk, AV.junk, AV.junk, AV.junk, AV.junk, AV.junk, AV.junk, AV.junk, AV.junk,
  AV.junk, AV.junk, AV.junk, AV.junk, AV.junk, AV.junk, AV.junk, AV.junk, AV.junk, AV.junk, AV.junk, AV.junk, AV.junk, AV.junk, AV.junk, AV.junk, AV.junk, AV.junk, AV.junk, AV.junk, AV.junk, AV.junk, AV.junk, AV.junk, AV.junk, AV.junk,
  AV.junk, AV.junk, AV.junk, AV.junk, AV.junk, AV.junk, AV.junk, AV.junk, AV.junk, AV.junk, AV.junk, AV.junk, AV.junk, AV.junk, AV.junk, AV.junk, AV.junk, AV.junk, AV.junk, AV.junk, AV.junk, AV.junk, AV.junk, AV.junk, AV.junk, AV.junk,
  AV.junk, AV.junk, AV.junk, AV.junk, AV.junk, AV.junk, AV.junk, AV.junk, AV.junk, AV.junk, AV.junk, AV.junk, AV.junk, AV.junk, AV.junk, AV.junk, AV.junk, AV.junk, AV.junk, AV.junk, AV.junk, AV.junk, AV.junk, AV.junk, AV.junk, AV.junk,
  AV.junk, AV.junk, AV.junk, AV.junk, AV.junk, AV.junk, AV.junk, AV.junk, AV.junk, AV.junk, AV.junk, AV.junk, AV.junk, AV.junk, AV.junk, AV.junk, AV.junk, AV.junk, AV.junk, AV.junk, AV.junk, AV.junk, AV.junk, AV.junk, AV.junk, AV.junk,
  AV.junk, AV.junk, AV.junk, AV.junk] [some (Cont.cells 9 [[AV.pv Ty.i i.1, AV.pv Ty.i i.2.1, AV.pv Ty.i i.2.2.1, AV.pv Ty.i i.2.2.2.1, AV.pv Ty.i i.2.2.2.2.1,
  AV.pv Ty.i i.2.2.2.2.2.1, AV.pv Ty.i i.2.2.2.2.2.2.1, AV.pv (Ty.slice YReadMark) i.2.2.2.2.2.2.2.1, AV.pv (Ty.slice (Ty.prod Ty.i
  (Ty.prod Ty.i Ty.unit))) i.2.2.2.2.2.2.2.2.1]]), some (Cont.cells 2 [[AV.pv Ty.i p.1, AV.pv Ty.i p.2.1]])]

def spec_IsValidTransaction_X8_3 (i : Int × Int × Int × Int × Int × Int × Int × List (Int × Int × Unit) × List (Int × Int × Unit) × Unit) (p : Unit) : St :=
  St.mk [AV.junk, AV.ptr 0 none 0 0, AV.junk, AV.junk, AV.junk, AV.junk, AV.junk, AV.junk, AV.junk, AV.junk, AV.junk, AV.junk, AV.junk, AV.junk, AV.junk, AV.junk, AV.junk, AV.junk, AV.junk, AV.junk, AV.junk, AV.junk, AV.junk, AV.junk, AV.junk,
  AV.junk, AV.junk, AV.junk, AV.junk, AV.junk, AV.junk, AV.junk, AV.junk, AV.junk, AV.junk, AV.junk, AV.junk, AV.junk, AV.junk, AV.junk, AV.junk, AV.junk, AV.junk, AV.junk, AV.junk, AV.junk, AV.junk, AV.junk, AV.junk, AV.junk, AV.junk,
  AV.junk, AV.junk, AV.junk, AV.junk, AV.junk, AV.junk, AV.junk, AV.junk, AV.junk, AV.junk, AV.junk, AV.junk, AV.junk, AV.junk, AV.junk, AV.junk, AV.junk, AV.junk, AV.junk, AV.junk, AV.junk, AV.junk, AV.junk, AV.junk, AV.junk, AV.junk,
  AV.junk, AV.junk, AV.junk, AV.junk, AV.junk, AV.junk, AV.junk, AV.junk, AV.junk, AV.junk, AV.junk, AV.junk, AV.junk, AV.junk, AV.junk, AV.junk, AV.junk, AV.junk, AV.junk, AV.junk, AV.junk, AV.junk, AV.junk, AV.junk, AV.junk, AV.junk,
  AV.junk, AV.junk, AV.junk, AV.junk, AV.junk, AV.junk, AV.junk, AV.junk, AV.junk, AV.junk, AV.junk, AV.junk, AV.junk, AV.junk, AV.junk, AV.junk, AV.junk, AV.junk, AV.junk, AV.junk, AV.junk, AV.junk, AV.junk, AV.junk, AV.junk, AV.junk,
  AV.junk, AV.junk] [some (Cont.cells 9 [[AV.pv Ty.i i.1, AV.pv Ty.i i.2.1, AV.pv Ty.i i.2.2.1, AV.pv Ty.i i.2.2.2.1, AV.pv Ty.i i.2.2.2.2.1, AV.pv (Ty.int
  IntKind.i64) i.2.2.2.2.2.1, AV.pv Ty.i i.2.2.2.2.2.2.1, AV.pv (Ty.slice YReadMark) i.2.2.2.2.2.2.2.1, AV.pv (Ty.slice (Ty.prod Ty.i (Ty.prod (Ty.int
  IntKind.i64) Ty.unit))) i.2.2.2.2.2.2.2.2.1]])]

noncomputable def spec_IsValidTransaction_E8 (i : Int × Int × Int × Int × Int × Int × Int × List (Int × Int × Unit) × List (Int × Int × Unit) × Unit) (p : Int × Int × Unit ⊕ Int × Int × Unit ⊕ Int × Int × Unit ⊕ Unit) (R : Type) (K : Ex → St → Option R) : Option R := sumC p (fun p => K (Ex.ret) (spec_IsValidTransaction_X8_0 i p)) (fun p => sumC p (fun p => K (Ex.ret) (spec_IsValidTransaction_X8_1 i p)) (fun p => sumC p (fun p => K (Ex.ret) (spec_IsValidTransaction_X8_2 i p)) (fun p => K (Ex.exit 2) (spec_IsValidTransaction_X8_3 i p))))

noncomputable def spec_IsValidTransaction_K8 (i : Int × Int × Int × Int × Int × Int × Int × List (Int × Int × Unit) × List (Int × Int × Unit) × Unit) (p : Int × Int × Unit ⊕ Int × Int × Unit ⊕ Int × Int × Unit ⊕ Unit) : Ex × St := sumC p (fun p => ((Ex.ret), spec_IsValidTransaction_X8_0 i p)) (fun p => sumC p (fun p => ((Ex.ret), spec_IsValidTransaction_X8_1 i p)) (fun p => sumC p (fun p => ((Ex.ret), spec_IsValidTransaction_X8_2 i p)) (fun p => ((Ex.exit 2), spec_IsValidTransaction_X8_3 i p))))

def spec_IsValidTransaction_M8 (i : Int × Int × Int × Int × Int × Int × Int × List (Int × Int × Unit) × List (Int × Int × Unit) × Unit) (v : Int × Unit) : den spec_IsValidTransaction_T8.ty := (v.1, i.1, i.2.1, i.2.2.1, i.2.2.2.1, i.2.2.2.2.1, i.2.2.2.2.2.1, i.2.2.2.2.2.2.1, i.2.2.2.2.2.2.2.1, i.2.2.2.2.2.2.2.2.1, ())

def spec_IsValidTransaction_P8 (x : den spec_IsValidTransaction_T8.ty) : (Int × Int × Int × Int × Int × Int × Int × List (Int × Int × Unit) × List (Int × Int × Unit) × Unit) × (Int × Unit) := ((x.2.1, x.2.2.1, x.2.2.2.1, x.2.2.2.2.1, x.2.2.2.2.2.1, x.2.2.2.2.2.2.1, x.2.2.2.2.2.2.2.1, x.2.2.2.2.2.2.2.2.1, x.2.2.2.2.2.2.2.2.2.1, ()), (x.1, ()))

noncomputable def spec_IsValidTransaction_F8 : LoopFn := fun s R K => Tmpl.readS spec_IsValidTransaction_T8 0 s fun x => (iter (fun v => spec_IsValidTransaction_D8 (spec_IsValidTransaction_P8 x).1 v _ some) (spec_IsValidTransaction_P8 x).2).bind fun p => spec_IsValidTransaction_E8 (spec_IsValidTransaction_P8 x).1 p R K

noncomputable def spec_IsValidTransaction_C : Cfg := { ti := g_tis, ents := [spec_l1In_Ent, spec_l5Before_Ent], ann := [(2, spec_IsValidTransaction_F2), (8, spec_IsValidTransaction_F8)], lent := 0 }

def spec_IsValidTransaction_ti : Tmpl := Tmpl.mk (TmL.slot (Ty.prod Ty.i (Ty.prod Ty.i (Ty.prod Ty.i (Ty.prod Ty.i (Ty.prod Ty.i (Ty.prod Ty.i (Ty.prod Ty.i (Ty.prod
  (Ty.slice YReadMark) (Ty.prod (Ty.slice YReadMark) Ty.unit))))))))) TmL.nil) TmH.nil

def spec_IsValidTransaction_to : Tmpl := Tmpl.mk (TmL.slot Ty.bool TmL.nil) TmH.nil

noncomputable def spec_IsValidTransaction_S (x : (Int × Int × Int × Int × Int × Int × Int × List (Int × Int × Unit) × List (Int × Int × Unit) × Unit) × Unit) : Option (Bool × Unit) :=
  Option.bind (iter (fun v => spec_IsValidTransaction_D2 (x.1.1, x.1.2.1, x.1.2.2.1, x.1.2.2.2.1, x.1.2.2.2.2.1, x.1.2.2.2.2.2.1, x.1.2.2.2.2.2.2.1, x.1.2.2.2.2.2.2.2.1, x.1.2.2.2.2.2.2.2.2.1, ()) v (Int × Unit ⊕ Int × Int × Unit ⊕ Int × Int ×
  Unit ⊕ Int × Int × Unit ⊕ Unit) some) (0, ())) fun p => sumC p (fun p => some (false, ())) fun p => sumC p (fun p => some (false, ())) fun p => sumC p (fun p => some (false, ())) fun p => Option.bind (iter (fun v =>
  spec_IsValidTransaction_D8 (x.1.1, x.1.2.1, x.1.2.2.1, x.1.2.2.2.1, x.1.2.2.2.2.1, x.1.2.2.2.2.2.1, x.1.2.2.2.2.2.2.1, x.1.2.2.2.2.2.2.2.1, x.1.2.2.2.2.2.2.2.2.1, ()) v (Int × Unit ⊕ Int × Int × Unit ⊕ Int × Int × Unit ⊕ Int × Int × Unit ⊕
  Unit) some) (0, ())) fun p => sumC p (fun p => some (false, ())) fun p => sumC p (fun p => some (false, ())) fun p => sumC p (fun p => some (false, ())) fun p => Option.bind (spec_l1In_S (x.1.1, 1, 9, ())) fun v => bif !v.1 then some (false,
  ()) else Option.bind (spec_l1In_S (x.1.2.1, 1, 4, ())) fun v => bif !v.1 then some (false, ()) else Option.bind (spec_l1In_S (x.1.2.2.2.1, 0, 999, ())) fun v => bif !v.1 then some (false, ()) else Option.bind (spec_l1In_S (x.1.2.2.1, 1, 3,
  ())) fun v => bif v.1 then Option.bind (spec_l1In_S (x.1.2.2.2.2.1, 0, 999, ())) fun v => bif v.1 then Option.bind (spec_l1In_S (x.1.2.2.2.2.2.1, 1, 1000, ())) fun v => bif v.1 then bif (x.1.2.2.1 == 2) == decide (x.1.2.2.2.2.2.2.1 > 0) then
  Option.bind (spec_l1In_S (x.1.2.2.2.2.2.2.1, 0, 999, ())) fun v => bif v.1 then some (decide ((↑(List.length x.1.2.2.2.2.2.2.2.1) : Int) ≤ 60), ()) else some (false, ()) else some (false, ()) else some (false, ()) else some (false, ()) else
  some (false, ())

noncomputable def spec_IsValidTransaction_Ent : Ent := ⟨96, spec_IsValidTransaction_ti, spec_IsValidTransaction_to, spec_IsValidTransaction_S⟩

theorem spec_IsValidTransaction_HC : CfgOK Go.Proofs.Try.prog spec_IsValidTransaction_C := ⟨⟨info_ok g_tisOK⟩, (all_cons spec_l1In_OK (all_cons spec_l5Before_OK all_nil)), g_wide⟩

theorem spec_IsValidTransaction_lk8 : ∀ F, ((spec_IsValidTransaction_C).ann.find? fun x => x.1 == firstId ((loopsOf (codeOf Go.Proofs.Try.f96)).getD 1 .skip)).map (·.2) = some F → LoopOK Go.Proofs.Try.prog spec_IsValidTransaction_C.lent ((loopsOf (codeOf Go.Proofs.Try.f96)).getD 1 .skip) F := by
  refine lookup_ok (show ((spec_IsValidTransaction_C).ann.find? fun x => x.1 == firstId ((loopsOf (codeOf Go.Proofs.Try.f96)).getD 1 .skip)).map (·.2) = some spec_IsValidTransaction_F8 from by kernel_rfl) ?_
  exact loop_ok spec_IsValidTransaction_HC (loops_all 0 (by kernel_rfl) (fun k hk => absurd hk (Nat.not_lt_zero k))) spec_IsValidTransaction_T8 [1, 2] spec_IsValidTransaction_M8 spec_IsValidTransaction_P8 (fun x => rfl) spec_IsValidTransaction_D8 spec_IsValidTransaction_D8_nat spec_IsValidTransaction_E8 spec_IsValidTransaction_K8 (fun i p R K => by rcases p with p | p | p | p <;> rfl) (fun i v => by kernel_rfl)

theorem spec_IsValidTransaction_lk2 : ∀ F, ((spec_IsValidTransaction_C).ann.find? fun x => x.1 == firstId ((loopsOf (codeOf Go.Proofs.Try.f96)).getD 0 .skip)).map (·.2) = some F → LoopOK Go.Proofs.Try.prog spec_IsValidTransaction_C.lent ((loopsOf (codeOf Go.Proofs.Try.f96)).getD 0 .skip) F := by
  refine lookup_ok (show ((spec_IsValidTransaction_C).ann.find? fun x => x.1 == firstId ((loopsOf (codeOf Go.Proofs.Try.f96)).getD 0 .skip)).map (·.2) = some spec_IsValidTransaction_F2 from by kernel_rfl) ?_
  exact loop_ok spec_IsValidTransaction_HC (loops_all 0 (by kernel_rfl) (fun k hk => absurd hk (Nat.not_lt_zero k))) spec_IsValidTransaction_T2 [1, 2] spec_IsValidTransaction_M2 spec_IsValidTransaction_P2 (fun x => rfl) spec_IsValidTransaction_D2 spec_IsValidTransaction_D2_nat spec_IsValidTransaction_E2 spec_IsValidTransaction_K2 (fun i p R K => by rcases p with p | p | p | p <;> rfl) (fun i v => by kernel_rfl)

theorem spec_IsValidTransaction_VC (x : den spec_IsValidTransaction_ti.ty) : vcall spec_IsValidTransaction_C Go.Proofs.Try.f96 spec_IsValidTransaction_ti spec_IsValidTransaction_to x = spec_IsValidTransaction_S x := by kernel_rfl

theorem spec_IsValidTransaction_OK : EntOK Go.Proofs.Try.prog spec_IsValidTransaction_Ent := EntOK.of_vcall spec_IsValidTransaction_HC Go.Proofs.Try.func96 (body_loops (by kernel_rfl) (loops_all 2 (by kernel_rfl) (fun k hk => match k, hk with | 0, _ => spec_IsValidTransaction_lk2 | 1, _ => spec_IsValidTransaction_lk8))) (by kernel_rfl) (by kernel_rfl) spec_IsValidTransaction_VC

/-! spec.IsValidRecord -/

noncomputable def spec_IsValidRecord_C : Cfg := { ti := g_tis, ents := [spec_l28Tx_Ent, spec_IsValidTransaction_Ent, spec_l1In_Ent], ann := [], lent := 0 }

def spec_IsValidRecord_ti : Tmpl := Tmpl.mk (TmL.slot (Ty.prod Ty.i (Ty.prod Ty.i (Ty.prod Ty.i (Ty.prod Ty.i (Ty.prod (Ty.slice YReadMark) (Ty.prod
  (Ty.slice YReadMark) Ty.unit)))))) TmL.nil) TmH.nil

def spec_IsValidRecord_to : Tmpl := Tmpl.mk (TmL.slot Ty.bool TmL.nil) TmH.nil

noncomputable def spec_IsValidRecord_S (x : (Int × Int × Int × Int × List (Int × Int × Unit) × List (Int × Int × Unit) × Unit) × Unit) : Option (Bool × Unit) :=
  Option.bind (spec_l28Tx_S ((x.1.1, x.1.2.1, x.1.2.2.1, x.1.2.2.2.1, x.1.2.2.2.2.1, x.1.2.2.2.2.2.1, ()), ())) fun v => Option.bind (spec_IsValidTransaction_S ((v.1, v.2.1, v.2.2.1, v.2.2.2.1, v.2.2.2.2.1, v.2.2.2.2.2.1, v.2.2.2.2.2.2.1,
  v.2.2.2.2.2.2.2.1, v.2.2.2.2.2.2.2.2.1, ()), ())) fun v => bif v.1 then bif decide (x.1.2.2.1 ≤ x.1.1) then Option.bind (spec_l1In_S (x.1.2.2.2.1, 0, x.1.1, ())) fun v => some (v.1, ()) else some (false, ()) else some (false, ())

noncomputable def spec_IsValidRecord_Ent : Ent := ⟨55, spec_IsValidRecord_ti, spec_IsValidRecord_to, spec_IsValidRecord_S⟩

theorem spec_IsValidRecord_HC : CfgOK Go.Proofs.Try.prog spec_IsValidRecord_C := ⟨⟨info_ok g_tisOK⟩, (all_cons spec_l28Tx_OK (all_cons spec_IsValidTransaction_OK (all_cons spec_l1In_OK all_nil))), g_wide⟩

theorem spec_IsValidRecord_VC (x : den spec_IsValidRecord_ti.ty) : vcall spec_IsValidRecord_C Go.Proofs.Try.f55 spec_IsValidRecord_ti spec_IsValidRecord_to x = spec_IsValidRecord_S x := by kernel_rfl

theorem spec_IsValidRecord_OK : EntOK Go.Proofs.Try.prog spec_IsValidRecord_Ent := EntOK.of_vcall spec_IsValidRecord_HC Go.Proofs.Try.func55 (body_loops (by kernel_rfl) (loops_all 0 (by kernel_rfl) (fun k hk => absurd hk (Nat.not_lt_zero k)))) (by kernel_rfl) (by kernel_rfl) spec_IsValidRecord_VC

/-! spec.FindVersion -/

noncomputable def spec_FindVersion_D2 (i : List (Int × Int × Int × Int × Int × Unit) × Int × Unit) (v : Int × Unit) (R : Type) (K : Int × Unit ⊕ Int × Unit ⊕ Unit → Option R) : Option R :=
  bif decide (v.1 < (↑(List.length i.1) : Int)) then Option.bind (lAt i.1 v.1) fun v_1 => bif v_1.2.2.1 == i.2.1 then K (Sum.inr (Sum.inl (v.1, ()))) else K (Sum.inl (IntKind.wrap IntKind.i64 (v.1 + 1), ())) else K (Sum.inr (Sum.inr ()))

theorem spec_FindVersion_D2_nat (i : List (Int × Int × Int × Int × Int × Unit) × Int × Unit) (v : Int × Unit) (R : Type) (K : Int × Unit ⊕ Int × Unit ⊕ Unit → Option R) : spec_FindVersion_D2 i v R K = (spec_FindVersion_D2 i v _ some).bind K := nat_bif (nat_bind fun _ => nat_bif (nat_some) (nat_some)) (nat_some)

def spec_FindVersion_T2 : Tmpl := Tmpl.mk (TmL.slot (Ty.slice YVersion) (TmL.slot Ty.i (TmL.junk
  (TmL.junk (TmL.junk (TmL.slot Ty.i (TmL.junk (TmL.junk (TmL.junk (TmL.junk (TmL.junk (TmL.junk (TmL.junk (TmL.junk (TmL.junk (TmL.junk (TmL.junk (TmL.junk (TmL.junk (TmL.junk TmL.nil)))))))))))))))))))) TmH.nil

def spec_FindVersion_X2_0 (i : List (Int × Int × Int × Int × Int × Unit) × Int × Unit) (p : Int × Unit) : St :=
  St.mk [AV.junk, AV.junk, AV.junk, AV.junk, AV.pv Ty.i p.1, AV.junk, AV.junk, AV.junk, AV.junk, AV.junk, AV.junk, AV.junk, AV.junk, AV.junk, AV.junk, AV.junk, AV.junk, AV.junk, AV.junk, AV.junk] []

def spec_FindVersion_X2_1 (i : List (Int × Int × Int × Int × Int × Unit) × Int × Unit) (p : Unit) : St :=
  St.mk [AV.junk, AV.junk, AV.junk, AV.junk, AV.junk, AV.junk, AV.junk, AV.junk, AV.junk, AV.junk, AV.junk, AV.junk, AV.junk, AV.junk, AV.junk, AV.junk, AV.junk, AV.junk, AV.junk, AV.junk] []

noncomputable def spec_FindVersion_E2 (i : List (Int × Int × Int × Int × Int × Unit) × Int × Unit) (p : Int × Unit ⊕ Unit) (R : Type) (K : Ex → St → Option R) : Option R := sumC p (fun p => K (Ex.ret) (spec_FindVersion_X2_0 i p)) (fun p => K (Ex.exit 0) (spec_FindVersion_X2_1 i p))

noncomputable def spec_FindVersion_K2 (i : List (Int × Int × Int × Int × Int × Unit) × Int × Unit) (p : Int × Unit ⊕ Unit) : Ex × St := sumC p (fun p => ((Ex.ret), spec_FindVersion_X2_0 i p)) (fun p => ((Ex.exit 0), spec_FindVersion_X2_1 i p))

def spec_FindVersion_M2 (i : List (Int × Int × Int × Int × Int × Unit) × Int × Unit) (v : Int × Unit) : den spec_FindVersion_T2.ty := (i.1, i.2.1, v.1, ())

def spec_FindVersion_P2 (x : den spec_FindVersion_T2.ty) : (List (Int × Int × Int × Int × Int × Unit) × Int × Unit) × (Int × Unit) := ((x.1, x.2.1, ()), (x.2.2.1, ()))

noncomputable def spec_FindVersion_F2 : LoopFn := fun s R K => Tmpl.readS spec_FindVersion_T2 0 s fun x => (iter (fun v => spec_FindVersion_D2 (spec_FindVersion_P2 x).1 v _ some) (spec_FindVersion_P2 x).2).bind fun p => spec_FindVersion_E2 (spec_FindVersion_P2 x).1 p R K

noncomputable def spec_FindVersion_C : Cfg := { ti := g_tis, ents := [], ann := [(2, spec_FindVersion_F2)], lent := 0 }

def spec_FindVersion_ti : Tmpl := Tmpl.mk (TmL.slot (Ty.slice YVersion) (TmL.slot Ty.i TmL.nil)) TmH.nil

def spec_FindVersion_to : Tmpl := Tmpl.mk (TmL.slot Ty.i TmL.nil) TmH.nil

noncomputable def spec_FindVersion_S (x : List (Int × Int × Int × Int × Int × Unit) × Int × Unit) : Option (Int × Unit) :=
  Option.bind (iter (fun v => spec_FindVersion_D2 (x.1, x.2.1, ()) v (Int × Unit ⊕ Int × Unit ⊕ Unit) some) (0, ())) fun p => sumC p (fun p => some (p.1, ())) fun p => some (-1, ())

noncomputable def spec_FindVersion_Ent : Ent := ⟨98, spec_FindVersion_ti, spec_FindVersion_to, spec_FindVersion_S⟩

theorem spec_FindVersion_HC : CfgOK Go.Proofs.Try.prog spec_FindVersion_C := ⟨⟨info_ok g_tisOK⟩, all_nil, g_wide⟩

theorem spec_FindVersion_lk2 : ∀ F, ((spec_FindVersion_C).ann.find? fun x => x.1 == firstId ((loopsOf (codeOf Go.Proofs.Try.f98)).getD 0 .skip)).map (·.2) = some F → LoopOK Go.Proofs.Try.prog spec_FindVersion_C.lent ((loopsOf (codeOf Go.Proofs.Try.f98)).getD 0 .skip) F := by
  refine lookup_ok (show ((spec_FindVersion_C).ann.find? fun x => x.1 == firstId ((loopsOf (codeOf Go.Proofs.Try.f98)).getD 0 .skip)).map (·.2) = some spec_FindVersion_F2 from by kernel_rfl) ?_
  exact loop_ok spec_FindVersion_HC (loops_all 0 (by kernel_rfl) (fun k hk => absurd hk (Nat.not_lt_zero k))) spec_FindVersion_T2 [4] spec_FindVersion_M2 spec_FindVersion_P2 (fun x => rfl) spec_FindVersion_D2 spec_FindVersion_D2_nat spec_FindVersion_E2 spec_FindVersion_K2 (fun i p R K => by rcases p with p | p <;> rfl) (fun i v => by kernel_rfl)

theorem spec_FindVersion_VC (x : den spec_FindVersion_ti.ty) : vcall spec_FindVersion_C Go.Proofs.Try.f98 spec_FindVersion_ti spec_FindVersion_to x = spec_FindVersion_S x := by kernel_rfl

theorem spec_FindVersion_OK : EntOK Go.Proofs.Try.prog spec_FindVersion_Ent := EntOK.of_vcall spec_FindVersion_HC Go.Proofs.Try.func98 (body_loops (by kernel_rfl) (loops_all 1 (by kernel_rfl) (fun k hk => match k, hk with | 0, _ => spec_FindVersion_lk2))) (by kernel_rfl) (by kernel_rfl) spec_FindVersion_VC

/-! spec.ReadsExist -/

noncomputable def spec_ReadsExist_D4 (i : List (List (Int × Int × Int × Int × Int × Unit)) × Int × Int × Int × Int × Int × Int × Int × List (Int × Int × Unit) × List (Int × Int × Unit) × Unit) (v : Int × Unit) (R : Type) (K : Int × Unit ⊕ Unit ⊕ Unit → Option R) : Option R :=
  bif decide (v.1 < (↑(List.length i.2.2.2.2.2.2.2.2.1) : Int)) then Option.bind (lAt i.2.2.2.2.2.2.2.2.1 v.1) fun v_1 => Option.bind (lAt i.1 v_1.1) fun v_2 => Option.bind (lAt i.2.2.2.2.2.2.2.2.1 v.1) fun v_3 => Option.bind
  (spec_FindVersion_S (v_2, v_3.2.1, ())) fun v_4 => bif decide (v_4.1 < 0) then K (Sum.inr (Sum.inl ())) else K (Sum.inl (IntKind.wrap IntKind.i64 (v.1 + 1), ())) else K (Sum.inr (Sum.inr ()))

theorem spec_ReadsExist_D4_nat (i : List (List (Int × Int × Int × Int × Int × Unit)) × Int × Int × Int × Int × Int × Int × Int × List (Int × Int × Unit) × List (Int × Int × Unit) × Unit) (v : Int × Unit) (R : Type) (K : Int × Unit ⊕ Unit ⊕ Unit → Option R) : spec_ReadsExist_D4 i v R K = (spec_ReadsExist_D4 i v _ some).bind K := nat_bif (nat_bind fun _ => nat_bind fun _ => nat_bind fun _ => nat_bind fun _ => nat_bif (nat_some) (nat_some)) (nat_some)

def spec_ReadsExist_T4 : Tmpl := Tmpl.mk (TmL.junk (TmL.junk (TmL.ptr 0 0 0 (TmL.ptr 1 0 0 (TmL.junk (TmL.slot Ty.i (TmL.junk (TmL.junk (TmL.junk (TmL.junk (TmL.junk (TmL.junk (TmL.junk (TmL.junk (TmL.junk (TmL.junk (TmL.junk (TmL.junk (TmL.junk (TmL.junk
  (TmL.junk (TmL.junk (TmL.junk (TmL.junk (TmL.junk (TmL.junk (TmL.junk (TmL.junk (TmL.junk (TmL.junk (TmL.junk (TmL.junk (TmL.junk (TmL.junk (TmL.junk (TmL.junk (TmL.junk (TmL.junk (TmL.junk TmL.nil)))))))))))))))))))))))))))))))))))))))
  (TmH.cells 1 (TmL.slot (Ty.slice (Ty.slice YVersion)) TmL.nil) (TmH.cells 9 (TmL.slot
  Ty.i (TmL.slot Ty.i (TmL.slot Ty.i (TmL.slot Ty.i (TmL.slot Ty.i (TmL.slot Ty.i (TmL.slot Ty.i (TmL.slot (Ty.slice (Ty.prod
  Ty.i (Ty.prod Ty.i Ty.unit))) (TmL.slot (Ty.slice YReadMark) TmL.nil))))))))) TmH.nil))

def spec_ReadsExist_X4_0 (i : List (List (Int × Int × Int × Int × Int × Unit)) × Int × Int × Int × Int × Int × Int × Int × List (Int × Int × Unit) × List (Int × Int × Unit) × Unit) (p : Unit) : St :=
  St.mk [AV.junk, AV.junk, AV.junk, AV.junk, AV.pv Ty.bool false, AV.junk, AV.junk, AV.junk, AV.junk, AV.junk, AV.junk, AV.junk, AV.junk, AV.junk, AV.junk, AV.junk, AV.junk, AV.junk, AV.junk, AV.junk, AV.junk, AV.junk, AV.junk, AV.junk,
  AV.junk, AV.junk, AV.junk, AV.junk, AV.junk, AV.junk, AV.junk, AV.junk, AV.junk, AV.junk, AV.junk, AV.junk, AV.junk, AV.junk, AV.junk] [some (Cont.cells 1 [[AV.pv (Ty.slice (Ty.slice (Ty.prod Ty.i (Ty.prod (Ty.int
  IntKind.i64) (Ty.prod Ty.i YReadMark))))) i.1]]), some (Cont.cells 9 [[AV.pv Ty.i i.2.1, AV.pv Ty.i i.2.2.1, AV.pv (Ty.int
  IntKind.i64) i.2.2.2.1, AV.pv Ty.i i.2.2.2.2.1, AV.pv Ty.i i.2.2.2.2.2.1, AV.pv Ty.i i.2.2.2.2.2.2.1, AV.pv Ty.i i.2.2.2.2.2.2.2.1, AV.pv (Ty.slice (Ty.prod Ty.i
  (Ty.prod Ty.i Ty.unit))) i.2.2.2.2.2.2.2.2.1, AV.pv (Ty.slice YReadMark) i.2.2.2.2.2.2.2.2.2.1]])]

def spec_ReadsExist_X4_1 (i : List (List (Int × Int × Int × Int × Int × Unit)) × Int × Int × Int × Int × Int × Int × Int × List (Int × Int × Unit) × List (Int × Int × Unit) × Unit) (p : Unit) : St :=
  St.mk [AV.junk, AV.junk, AV.junk, AV.junk, AV.junk, AV.junk, AV.junk, AV.junk, AV.junk, AV.junk, AV.junk, AV.junk, AV.junk, AV.junk, AV.junk, AV.junk, AV.junk, AV.junk, AV.junk, AV.junk, AV.junk, AV.junk, AV.junk, AV.junk, AV.junk, AV.junk,
  AV.junk, AV.junk, AV.junk, AV.junk, AV.junk, AV.junk, AV.junk, AV.junk, AV.junk, AV.junk, AV.junk, AV.junk, AV.junk] [some (Cont.cells 1 [[AV.pv (Ty.slice (Ty.slice (Ty.prod Ty.i (Ty.prod Ty.i (Ty.prod (Ty.int
  IntKind.i64) YReadMark))))) i.1]]), some (Cont.cells 9 [[AV.pv Ty.i i.2.1, AV.pv Ty.i i.2.2.1, AV.pv Ty.i i.2.2.2.1, AV.pv (Ty.int
  IntKind.i64) i.2.2.2.2.1, AV.pv Ty.i i.2.2.2.2.2.1, AV.pv Ty.i i.2.2.2.2.2.2.1, AV.pv Ty.i i.2.2.2.2.2.2.2.1, AV.pv (Ty.slice (Ty.prod Ty.i (Ty.prod Ty.i
  Ty.unit))) i.2.2.2.2.2.2.2.2.1, AV.pv (Ty.slice YReadMark) i.2.2.2.2.2.2.2.2.2.1]])]

noncomputable def spec_ReadsExist_E4 (i : List (List (Int × Int × Int × Int × Int × Unit)) × Int × Int × Int × Int × Int × Int × Int × List (Int × Int × Unit) × List (Int × Int × Unit) × Unit) (p : Unit ⊕ Unit) (R : Type) (K : Ex → St → Option R) : Option R := sumC p (fun p => K (Ex.ret) (spec_ReadsExist_X4_0 i p)) (fun p => K (Ex.exit 0) (spec_ReadsExist_X4_1 i p))

noncomputable def spec_ReadsExist_K4 (i : List (List (Int × Int × Int × Int × Int × Unit)) × Int × Int × Int × Int × Int × Int × Int × List (Int × Int × Unit) × List (Int × Int × Unit) × Unit) (p : Unit ⊕ Unit) : Ex × St := sumC p (fun p => ((Ex.ret), spec_ReadsExist_X4_0 i p)) (fun p => ((Ex.exit 0), spec_ReadsExist_X4_1 i p))

def spec_ReadsExist_M4 (i : List (List (Int × Int × Int × Int × Int × Unit)) × Int × Int × Int × Int × Int × Int × Int × List (Int × Int × Unit) × List (Int × Int × Unit) × Unit) (v : Int × Unit) : den spec_ReadsExist_T4.ty := (v.1, i.1, i.2.1, i.2.2.1, i.2.2.2.1, i.2.2.2.2.1, i.2.2.2.2.2.1, i.2.2.2.2.2.2.1, i.2.2.2.2.2.2.2.1, i.2.2.2.2.2.2.2.2.1, i.2.2.2.2.2.2.2.2.2.1, ())

def spec_ReadsExist_P4 (x : den spec_ReadsExist_T4.ty) : (List (List (Int × Int × Int × Int × Int × Unit)) × Int × Int × Int × Int × Int × Int × Int × List (Int × Int × Unit) × List (Int × Int × Unit) × Unit) × (Int × Unit) := ((x.2.1, x.2.2.1, x.2.2.2.1, x.2.2.2.2.1, x.2.2.2.2.2.1, x.2.2.2.2.2.2.1, x.2.2.2.2.2.2.2.1, x.2.2.2.2.2.2.2.2.1, x.2.2.2.2.2.2.2.2.2.1, x.2.2.2.2.2.2.2.2.2.2.1, ()), (x.1, ()))

noncomputable def spec_ReadsExist_F4 : LoopFn := fun s R K => Tmpl.readS spec_ReadsExist_T4 0 s fun x => (iter (fun v => spec_ReadsExist_D4 (spec_ReadsExist_P4 x).1 v _ some) (spec_ReadsExist_P4 x).2).bind fun p => spec_ReadsExist_E4 (spec_ReadsExist_P4 x).1 p R K

noncomputable def spec_ReadsExist_C : Cfg := { ti := g_tis, ents := [spec_IsValidStore_Ent, spec_IsValidTransaction_Ent, spec_FindVersion_Ent], ann := [(4, spec_ReadsExist_F4)], lent := 0 }

def spec_ReadsExist_ti : Tmpl := Tmpl.mk (TmL.slot YStore (TmL.slot (Ty.prod
  Ty.i (Ty.prod Ty.i (Ty.prod Ty.i (Ty.prod Ty.i (Ty.prod Ty.i (Ty.prod Ty.i (Ty.prod Ty.i (Ty.prod (Ty.slice (Ty.prod (Ty.int
  IntKind.i64) (Ty.prod Ty.i Ty.unit))) (Ty.prod (Ty.slice YReadMark) Ty.unit))))))))) TmL.nil)) TmH.nil

def spec_ReadsExist_to : Tmpl := Tmpl.mk (TmL.slot Ty.bool TmL.nil) TmH.nil

noncomputable def spec_ReadsExist_S (x : (List (List (Int × Int × Int × Int × Int × Unit)) × Unit) × (Int × Int × Int × Int × Int × Int × Int × List (Int × Int × Unit) × List (Int × Int × Unit) × Unit) × Unit) : Option (Bool × Unit) :=
  Option.bind (spec_IsValidStore_S ((x.1.1, ()), ())) fun v => bif !v.1 then some (false, ()) else Option.bind (spec_IsValidTransaction_S ((x.2.1.1, x.2.1.2.1, x.2.1.2.2.1, x.2.1.2.2.2.1, x.2.1.2.2.2.2.1, x.2.1.2.2.2.2.2.1,
  x.2.1.2.2.2.2.2.2.1, x.2.1.2.2.2.2.2.2.2.1, x.2.1.2.2.2.2.2.2.2.2.1, ()), ())) fun v => bif !v.1 then some (false, ()) else Option.bind (iter (fun v => spec_ReadsExist_D4 (x.1.1, x.2.1.1, x.2.1.2.1, x.2.1.2.2.1, x.2.1.2.2.2.1,
  x.2.1.2.2.2.2.1, x.2.1.2.2.2.2.2.1, x.2.1.2.2.2.2.2.2.1, x.2.1.2.2.2.2.2.2.2.1, x.2.1.2.2.2.2.2.2.2.2.1, ()) v (Int × Unit ⊕ Unit ⊕ Unit) some) (0, ())) fun p => sumC p (fun p => some (false, ())) fun p => some (true, ())

noncomputable def spec_ReadsExist_Ent : Ent := ⟨59, spec_ReadsExist_ti, spec_ReadsExist_to, spec_ReadsExist_S⟩

theorem spec_ReadsExist_HC : CfgOK Go.Proofs.Try.prog spec_ReadsExist_C := ⟨⟨info_ok g_tisOK⟩, (all_cons spec_IsValidStore_OK (all_cons spec_IsValidTransaction_OK (all_cons spec_FindVersion_OK all_nil))), g_wide⟩

theorem spec_ReadsExist_lk4 : ∀ F, ((spec_ReadsExist_C).ann.find? fun x => x.1 == firstId ((loopsOf (codeOf Go.Proofs.Try.f59)).getD 0 .skip)).map (·.2) = some F → LoopOK Go.Proofs.Try.prog spec_ReadsExist_C.lent ((loopsOf (codeOf Go.Proofs.Try.f59)).getD 0 .skip) F := by
  refine lookup_ok (show ((spec_ReadsExist_C).ann.find? fun x => x.1 == firstId ((loopsOf (codeOf Go.Proofs.Try.f59)).getD 0 .skip)).map (·.2) = some spec_ReadsExist_F4 from by kernel_rfl) ?_
  exact loop_ok spec_ReadsExist_HC (loops_all 0 (by kernel_rfl) (fun k hk => absurd hk (Nat.not_lt_zero k))) spec_ReadsExist_T4 [4] spec_ReadsExist_M4 spec_ReadsExist_P4 (fun x => rfl) spec_ReadsExist_D4 spec_ReadsExist_D4_nat spec_ReadsExist_E4 spec_ReadsExist_K4 (fun i p R K => by rcases p with p | p <;> rfl) (fun i v => by kernel_rfl)

theorem spec_ReadsExist_VC (x : den spec_ReadsExist_ti.ty) : vcall spec_ReadsExist_C Go.Proofs.Try.f59 spec_ReadsExist_ti spec_ReadsExist_to x = spec_ReadsExist_S x := by kernel_rfl

theorem spec_ReadsExist_OK : EntOK Go.Proofs.Try.prog spec_ReadsExist_Ent := EntOK.of_vcall spec_ReadsExist_HC Go.Proofs.Try.func59 (body_loops (by kernel_rfl) (loops_all 1 (by kernel_rfl) (fun k hk => match k, hk with | 0, _ => spec_ReadsExist_lk4))) (by kernel_rfl) (by kernel_rfl) spec_ReadsExist_VC

/-! spec.l9Fits -/

noncomputable def spec_l9Fits_D2 (i : List (List (Int × Int × Int × Int × Int × Unit)) × Int × Int × Int × Int × Int × Int × Int × List (Int × Int × Unit) × List (Int × Int × Unit) × Unit) (v : Int × Unit) (R : Type) (K : Int × Unit ⊕ Unit ⊕ Unit → Option R) : Option R :=
  bif decide (v.1 < (↑(List.length i.2.2.2.2.2.2.2.2.2.1) : Int)) then Option.bind (lAt i.2.2.2.2.2.2.2.2.2.1 v.1) fun v_1 => Option.bind (lAt i.1 v_1.1) fun v_2 => bif decide ((↑(List.length v_2) : Int) ≥ 50) then K (Sum.inr (Sum.inl ()))
  else K (Sum.inl (IntKind.wrap IntKind.i64 (v.1 + 1), ())) else K (Sum.inr (Sum.inr ()))

theorem spec_l9Fits_D2_nat (i : List (List (Int × Int × Int × Int × Int × Unit)) × Int × Int × Int × Int × Int × Int × Int × List (Int × Int × Unit) × List (Int × Int × Unit) × Unit) (v : Int × Unit) (R : Type) (K : Int × Unit ⊕ Unit ⊕ Unit → Option R) : spec_l9Fits_D2 i v R K = (spec_l9Fits_D2 i v _ some).bind K := nat_bif (nat_bind fun _ => nat_bind fun _ => nat_bif (nat_some) (nat_some)) (nat_some)

def spec_l9Fits_T2 : Tmpl := Tmpl.mk (TmL.junk (TmL.junk (TmL.ptr 0 0 0 (TmL.ptr 1 0 0 (TmL.junk (TmL.slot Ty.i (TmL.junk (TmL.junk (TmL.junk (TmL.junk (TmL.junk (TmL.junk (TmL.junk (TmL.junk (TmL.junk (TmL.junk (TmL.junk (TmL.junk (TmL.junk (TmL.junk
  (TmL.junk (TmL.junk (TmL.junk (TmL.junk (TmL.junk TmL.nil))))))))))))))))))))))))) (TmH.cells 1 (TmL.slot (Ty.slice (Ty.slice (Ty.prod Ty.i (Ty.prod Ty.i (Ty.prod Ty.i (Ty.prod (Ty.int
  IntKind.i64) (Ty.prod Ty.i Ty.unit))))))) TmL.nil) (TmH.cells 9 (TmL.slot Ty.i (TmL.slot Ty.i (TmL.slot Ty.i (TmL.slot Ty.i (TmL.slot Ty.i
  (TmL.slot Ty.i (TmL.slot Ty.i (TmL.slot (Ty.slice YReadMark) (TmL.slot (Ty.slice (Ty.prod Ty.i (Ty.prod Ty.i
  Ty.unit))) TmL.nil))))))))) TmH.nil))

def spec_l9Fits_X2_0 (i : List (List (Int × Int × Int × Int × Int × Unit)) × Int × Int × Int × Int × Int × Int × Int × List (Int × Int × Unit) × List (Int × Int × Unit) × Unit) (p : Unit) : St :=
  St.mk [AV.junk, AV.junk, AV.junk, AV.junk, AV.pv Ty.bool false, AV.junk, AV.junk, AV.junk, AV.junk, AV.junk, AV.junk, AV.junk, AV.junk, AV.junk, AV.junk, AV.junk, AV.junk, AV.junk, AV.junk, AV.junk, AV.junk, AV.junk, AV.junk, AV.junk,
  AV.junk] [some (Cont.cells 1 [[AV.pv (Ty.slice (Ty.slice YVersion)) i.1]]), some
  (Cont.cells 9 [[AV.pv Ty.i i.2.1, AV.pv Ty.i i.2.2.1, AV.pv Ty.i i.2.2.2.1, AV.pv Ty.i i.2.2.2.2.1, AV.pv Ty.i i.2.2.2.2.2.1, AV.pv Ty.i
  i.2.2.2.2.2.2.1, AV.pv Ty.i i.2.2.2.2.2.2.2.1, AV.pv (Ty.slice YReadMark) i.2.2.2.2.2.2.2.2.1, AV.pv (Ty.slice (Ty.prod Ty.i (Ty.prod (Ty.int
  IntKind.i64) Ty.unit))) i.2.2.2.2.2.2.2.2.2.1]])]

def spec_l9Fits_X2_1 (i : List (List (Int × Int × Int × Int × Int × Unit)) × Int × Int × Int × Int × Int × Int × Int × List (Int × Int × Unit) × List (Int × Int × Unit) × Unit) (p : Unit) : St :=
  St.mk [AV.junk, AV.junk, AV.junk, AV.junk, AV.junk, AV.junk, AV.junk, AV.junk, AV.junk, AV.junk, AV.junk, AV.junk, AV.junk, AV.junk, AV.junk, AV.junk, AV.junk, AV.junk, AV.junk, AV.junk, AV.junk, AV.junk, AV.junk, AV.junk, AV.junk] [some
  (Cont.cells 1 [[AV.pv (Ty.slice (Ty.slice YVersion)) i.1]]), some (Cont.cells 9 [[AV.pv
  Ty.i i.2.1, AV.pv Ty.i i.2.2.1, AV.pv Ty.i i.2.2.2.1, AV.pv Ty.i i.2.2.2.2.1, AV.pv Ty.i i.2.2.2.2.2.1, AV.pv Ty.i i.2.2.2.2.2.2.1, AV.pv (Ty.int
  IntKind.i64) i.2.2.2.2.2.2.2.1, AV.pv (Ty.slice YReadMark) i.2.2.2.2.2.2.2.2.1, AV.pv (Ty.slice YReadMark)
  i.2.2.2.2.2.2.2.2.2.1]])]

noncomputable def spec_l9Fits_E2 (i : List (List (Int × Int × Int × Int × Int × Unit)) × Int × Int × Int × Int × Int × Int × Int × List (Int × Int × Unit) × List (Int × Int × Unit) × Unit) (p : Unit ⊕ Unit) (R : Type) (K : Ex → St → Option R) : Option R := sumC p (fun p => K (Ex.ret) (spec_l9Fits_X2_0 i p)) (fun p => K (Ex.exit 0) (spec_l9Fits_X2_1 i p))

noncomputable def spec_l9Fits_K2 (i : List (List (Int × Int × Int × Int × Int × Unit)) × Int × Int × Int × Int × Int × Int × Int × List (Int × Int × Unit) × List (Int × Int × Unit) × Unit) (p : Unit ⊕ Unit) : Ex × St := sumC p (fun p => ((Ex.ret), spec_l9Fits_X2_0 i p)) (fun p => ((Ex.exit 0), spec_l9Fits_X2_1 i p))

def spec_l9Fits_M2 (i : List (List (Int × Int × Int × Int × Int × Unit)) × Int × Int × Int × Int × Int × Int × Int × List (Int × Int × Unit) × List (Int × Int × Unit) × Unit) (v : Int × Unit) : den spec_l9Fits_T2.ty := (v.1, i.1, i.2.1, i.2.2.1, i.2.2.2.1, i.2.2.2.2.1, i.2.2.2.2.2.1, i.2.2.2.2.2.2.1, i.2.2.2.2.2.2.2.1, i.2.2.2.2.2.2.2.2.1, i.2.2.2.2.2.2.2.2.2.1, ())

def spec_l9Fits_P2 (x : den spec_l9Fits_T2.ty) : (List (List (Int × Int × Int × Int × Int × Unit)) × Int × Int × Int × Int × Int × Int × Int × List (Int × Int × Unit) × List (Int × Int × Unit) × Unit) × (Int × Unit) := ((x.2.1, x.2.2.1, x.2.2.2.1, x.2.2.2.2.1, x.2.2.2.2.2.1, x.2.2.2.2.2.2.1, x.2.2.2.2.2.2.2.1, x.2.2.2.2.2.2.2.2.1, x.2.2.2.2.2.2.2.2.2.1, x.2.2.2.2.2.2.2.2.2.2.1, ()), (x.1, ()))

noncomputable def spec_l9Fits_F2 : LoopFn := fun s R K => Tmpl.readS spec_l9Fits_T2 0 s fun x => (iter (fun v => spec_l9Fits_D2 (spec_l9Fits_P2 x).1 v _ some) (spec_l9Fits_P2 x).2).bind fun p => spec_l9Fits_E2 (spec_l9Fits_P2 x).1 p R K

noncomputable def spec_l9Fits_C : Cfg := { ti := g_tis, ents := [], ann := [(2, spec_l9Fits_F2)], lent := 0 }

def spec_l9Fits_ti : Tmpl := Tmpl.mk (TmL.slot YStore (TmL.slot (Ty.prod
  Ty.i (Ty.prod Ty.i (Ty.prod Ty.i (Ty.prod Ty.i (Ty.prod Ty.i (Ty.prod Ty.i (Ty.prod Ty.i (Ty.prod (Ty.slice (Ty.prod (Ty.int
  IntKind.i64) (Ty.prod Ty.i Ty.unit))) (Ty.prod (Ty.slice YReadMark) Ty.unit))))))))) TmL.nil)) TmH.nil

def spec_l9Fits_to : Tmpl := Tmpl.mk (TmL.slot Ty.bool TmL.nil) TmH.nil

noncomputable def spec_l9Fits_S (x : (List (List (Int × Int × Int × Int × Int × Unit)) × Unit) × (Int × Int × Int × Int × Int × Int × Int × List (Int × Int × Unit) × List (Int × Int × Unit) × Unit) × Unit) : Option (Bool × Unit) :=
  Option.bind (iter (fun v => spec_l9Fits_D2 (x.1.1, x.2.1.1, x.2.1.2.1, x.2.1.2.2.1, x.2.1.2.2.2.1, x.2.1.2.2.2.2.1, x.2.1.2.2.2.2.2.1, x.2.1.2.2.2.2.2.2.1, x.2.1.2.2.2.2.2.2.2.1, x.2.1.2.2.2.2.2.2.2.2.1, ()) v (Int × Unit ⊕ Unit ⊕ Unit)
  some) (0, ())) fun p => sumC p (fun p => some (false, ())) fun p => some (true, ())

noncomputable def spec_l9Fits_Ent : Ent := ⟨60, spec_l9Fits_ti, spec_l9Fits_to, spec_l9Fits_S⟩

theorem spec_l9Fits_HC : CfgOK Go.Proofs.Try.prog spec_l9Fits_C := ⟨⟨info_ok g_tisOK⟩, all_nil, g_wide⟩

theorem spec_l9Fits_lk2 : ∀ F, ((spec_l9Fits_C).ann.find? fun x => x.1 == firstId ((loopsOf (codeOf Go.Proofs.Try.f60)).getD 0 .skip)).map (·.2) = some F → LoopOK Go.Proofs.Try.prog spec_l9Fits_C.lent ((loopsOf (codeOf Go.Proofs.Try.f60)).getD 0 .skip) F := by
  refine lookup_ok (show ((spec_l9Fits_C).ann.find? fun x => x.1 == firstId ((loopsOf (codeOf Go.Proofs.Try.f60)).getD 0 .skip)).map (·.2) = some spec_l9Fits_F2 from by kernel_rfl) ?_
  exact loop_ok spec_l9Fits_HC (loops_all 0 (by kernel_rfl) (fun k hk => absurd hk (Nat.not_lt_zero k))) spec_l9Fits_T2 [4] spec_l9Fits_M2 spec_l9Fits_P2 (fun x => rfl) spec_l9Fits_D2 spec_l9Fits_D2_nat spec_l9Fits_E2 spec_l9Fits_K2 (fun i p R K => by rcases p with p | p <;> rfl) (fun i v => by kernel_rfl)

theorem spec_l9Fits_VC (x : den spec_l9Fits_ti.ty) : vcall spec_l9Fits_C Go.Proofs.Try.f60 spec_l9Fits_ti spec_l9Fits_to x = spec_l9Fits_S x := by kernel_rfl

theorem spec_l9Fits_OK : EntOK Go.Proofs.Try.prog spec_l9Fits_Ent := EntOK.of_vcall spec_l9Fits_HC Go.Proofs.Try.func60 (body_loops (by kernel_rfl) (loops_all 1 (by kernel_rfl) (fun k hk => match k, hk with | 0, _ => spec_l9Fits_lk2))) (by kernel_rfl) (by kernel_rfl) spec_l9Fits_VC

/-! spec.l5Copy -/

noncomputable def spec_l5Copy_C : Cfg := { ti := g_tis, ents := [], ann := [], lent := 0 }

def spec_l5Copy_ti : Tmpl := Tmpl.mk (TmL.slot (Ty.prod Ty.i (Ty.prod Ty.i (Ty.prod Ty.i (Ty.prod Ty.i (Ty.prod Ty.i (Ty.prod Ty.i (Ty.prod Ty.i (Ty.prod
  (Ty.slice YReadMark) (Ty.prod (Ty.slice YReadMark) Ty.unit))))))))) TmL.nil) TmH.nil

def spec_l5Copy_to : Tmpl := Tmpl.mk (TmL.agg (TmL.slot Ty.i (TmL.slot Ty.i (TmL.slot Ty.i (TmL.slot Ty.i (TmL.slot Ty.i (TmL.slot Ty.i (TmL.slot Ty.i
  (TmL.own 0 (TmL.own 1 TmL.nil))))))))) TmL.nil) (TmH.lst false YReadMark (TmH.lst false YReadMark TmH.nil))

noncomputable def spec_l5Copy_S (x : (Int × Int × Int × Int × Int × Int × Int × List (Int × Int × Unit) × List (Int × Int × Unit) × Unit) × Unit) : Option (Int × Int × Int × Int × Int × Int × Int × List (Int × Int × Unit) × List (Int × Int × Unit) × Unit) :=
  if List.length x.1.2.2.2.2.2.2.2.1 ≤ 2199023255552 then if List.length x.1.2.2.2.2.2.2.2.2.1 ≤ 2199023255552 then some (x.1.1, x.1.2.1, x.1.2.2.1, x.1.2.2.2.1, x.1.2.2.2.2.1, x.1.2.2.2.2.2.1, x.1.2.2.2.2.2.2.1, x.1.2.2.2.2.2.2.2.1,
  x.1.2.2.2.2.2.2.2.2.1, ()) else none else none

noncomputable def spec_l5Copy_Ent : Ent := ⟨99, spec_l5Copy_ti, spec_l5Copy_to, spec_l5Copy_S⟩

theorem spec_l5Copy_HC : CfgOK Go.Proofs.Try.prog spec_l5Copy_C := ⟨⟨info_ok g_tisOK⟩, all_nil, g_wide⟩

theorem spec_l5Copy_VC (x : den spec_l5Copy_ti.ty) : vcall spec_l5Copy_C Go.Proofs.Try.f99 spec_l5Copy_ti spec_l5Copy_to x = spec_l5Copy_S x := by kernel_rfl

theorem spec_l5Copy_OK : EntOK Go.Proofs.Try.prog spec_l5Copy_Ent := EntOK.of_vcall spec_l5Copy_HC Go.Proofs.Try.func99 (body_loops (by kernel_rfl) (loops_all 0 (by kernel_rfl) (fun k hk => absurd hk (Nat.not_lt_zero k)))) (by kernel_rfl) (by kernel_rfl) spec_l5Copy_VC

/-! spec.l9Install -/

noncomputable def spec_l9Install_D8 (i : Int × Int × Int × Int × Int × Int × Int × Int × Int × List (Int × Int × Unit) × List (Int × Int × Unit) × Int × Int × Int × Int × Int × Int × Int × Int × Int × Int × Int × Int × Int × Int × List (Int × Int × Unit) × List (Int × Int × Unit) ×
  Unit) (v : Int × List (List (Int × Int × Int × Int × Int × Unit)) × Unit) (R : Type) (K : Int × List (List (Int × Int × Int × Int × Int × Unit)) × Unit ⊕ List (List (Int × Int × Int × Int × Int × Unit)) × Unit → Option R) : Option R :=
  bif decide (v.1 < (↑(List.length i.2.2.2.2.2.2.2.2.2.1) : Int)) then Option.bind (lAt i.2.2.2.2.2.2.2.2.2.1 v.1) fun v_1 => if 0 ≤ v_1.1 ∧ v_1.1 < (↑(List.length v.2.1) : Int) then Option.bind v.2.1[0 + Int.toNat v_1.1]? fun v_2 =>
  Option.bind (lAt i.2.2.2.2.2.2.2.2.2.1 v.1) fun v_3 => Option.bind v.2.1[0 + Int.toNat v_1.1]? fun v_4 => Option.bind (spec_FindVersion_S (v_4, v_3.2.1, ())) fun v_5 => if 0 ≤ v_1.1 ∧ v_1.1 < (↑(List.length v.2.1) : Int) then Option.bind
  v.2.1[0 + Int.toNat v_1.1]? fun v_6 => if 0 ≤ v_1.1 ∧ v_1.1 < (↑(List.length v.2.1) : Int) then Option.bind v.2.1[0 + Int.toNat v_1.1]? fun v_7 => Option.bind v.2.1[0 + Int.toNat v_1.1]? fun v_8 => if 0 ≤ v_5.1 ∧ v_5.1 < (↑(List.length v_8)
  : Int) then Option.bind v.2.1[0 + Int.toNat v_1.1]? fun v_9 => Option.bind v_9[0 + Int.toNat v_5.1]? fun v_10 => Option.bind v.2.1[0 + Int.toNat v_1.1]? fun v_11 => if 0 ≤ v_5.1 ∧ v_5.1 < (↑(List.length v_11) : Int) then Option.bind v.2.1[0
  + Int.toNat v_1.1]? fun v_12 => Option.bind v_12[0 + Int.toNat v_5.1]? fun v_13 => K (Sum.inl (IntKind.wrap IntKind.i64 (v.1 + 1), List.set v.2.1 (0 + Int.toNat v_1.1) (List.set v_12 (0 + Int.toNat v_5.1) (v_13.1, v_13.2.1, v_13.2.2.1, mx
  v_10.2.2.2.1 i.1, v_13.2.2.2.2.1, ())), ())) else none else none else none else none else none else K (Sum.inr (v.2.1, ()))

theorem spec_l9Install_D8_nat (i : Int × Int × Int × Int × Int × Int × Int × Int × Int × List (Int × Int × Unit) × List (Int × Int × Unit) × Int × Int × Int × Int × Int × Int × Int × Int × Int × Int × Int × Int × Int × Int × List (Int × Int × Unit) × List (Int × Int × Unit) ×
  Unit) (v : Int × List (List (Int × Int × Int × Int × Int × Unit)) × Unit) (R : Type) (K : Int × List (List (Int × Int × Int × Int × Int × Unit)) × Unit ⊕ List (List (Int × Int × Int × Int × Int × Unit)) × Unit → Option R) : spec_l9Install_D8 i v R K = (spec_l9Install_D8 i v _ some).bind K := nat_bif (nat_bind fun _ => nat_ite (nat_bind fun _ => nat_bind fun _ => nat_bind fun _ => nat_bind fun _ => nat_ite (nat_bind fun _ => nat_ite (nat_bind fun _ => nat_bind fun _ => nat_ite (nat_bind fun _ => nat_bind fun _ => nat_bind fun _ => nat_ite (nat_bind fun _ => nat_bind fun _ => nat_some)))))) (nat_some)

def spec_l9Install_T8 : Tmpl := Tmpl.mk (TmL.junk (TmL.junk (TmL.slot Ty.i (TmL.junk (TmL.slot Ty.i (TmL.junk (TmL.ptr 0 0 0 (TmL.junk (TmL.junk (TmL.junk (TmL.ptr 1 0 0 (TmL.ptr 2 0 0 (TmL.ptr 3 0 0 (TmL.ptr 5 0 0 (TmL.slot (Ty.int
  IntKind.i64) (TmL.junk (TmL.junk (TmL.junk (TmL.junk (TmL.junk (TmL.junk (TmL.junk (TmL.junk (TmL.junk (TmL.junk (TmL.junk (TmL.junk (TmL.junk (TmL.junk (TmL.junk (TmL.junk (TmL.junk (TmL.junk (TmL.junk (TmL.junk (TmL.junk (TmL.junk
  (TmL.junk (TmL.junk (TmL.junk (TmL.junk (TmL.junk (TmL.junk (TmL.junk (TmL.junk (TmL.junk (TmL.junk (TmL.junk (TmL.junk (TmL.junk (TmL.junk (TmL.junk (TmL.junk (TmL.junk (TmL.junk (TmL.junk (TmL.junk (TmL.junk (TmL.junk (TmL.junk (TmL.junk
  (TmL.junk (TmL.junk (TmL.junk (TmL.junk (TmL.junk (TmL.junk (TmL.junk (TmL.junk (TmL.junk (TmL.junk (TmL.junk (TmL.junk (TmL.junk (TmL.junk (TmL.junk (TmL.junk (TmL.junk (TmL.junk (TmL.junk (TmL.junk (TmL.junk (TmL.junk (TmL.junk (TmL.junk
  (TmL.junk (TmL.junk (TmL.junk (TmL.junk (TmL.junk (TmL.junk (TmL.junk (TmL.junk (TmL.junk (TmL.junk (TmL.junk (TmL.junk (TmL.junk (TmL.junk (TmL.junk (TmL.junk (TmL.junk (TmL.junk (TmL.junk (TmL.junk (TmL.junk (TmL.junk (TmL.junk (TmL.junk
  (TmL.junk (TmL.junk (TmL.junk (TmL.junk (TmL.junk (TmL.junk (TmL.junk (TmL.junk (TmL.junk (TmL.junk (TmL.junk (TmL.junk (TmL.junk (TmL.junk (TmL.junk (TmL.junk (TmL.junk (TmL.junk (TmL.junk
  TmL.nil)))))))))))))))))))))))))))))))))))))))))))))))))))))))))))))))))))))))))))))))))))))))))))))))))))))))))))))))))))))))))))))))) (TmH.cells 9 (TmL.slot Ty.i (TmL.slot Ty.i (TmL.slot Ty.i
  (TmL.slot Ty.i (TmL.slot Ty.i (TmL.slot Ty.i (TmL.slot Ty.i (TmL.slot (Ty.slice YReadMark) (TmL.slot (Ty.slice
  YReadMark) TmL.nil))))))))) (TmH.cells 1 (TmL.const AV.nils TmL.nil) (TmH.cells 9 (TmL.slot Ty.i (TmL.slot Ty.i (TmL.slot Ty.i
  (TmL.slot Ty.i (TmL.slot Ty.i (TmL.slot Ty.i (TmL.slot Ty.i (TmL.const AV.nils (TmL.const AV.nils TmL.nil))))))))) (TmH.cells 1 (TmL.own 4 TmL.nil) (TmH.tree false 0 (Ty.slice
  YVersion) (TmH.cells 9 (TmL.slot Ty.i (TmL.slot Ty.i
  (TmL.slot Ty.i (TmL.slot Ty.i (TmL.slot Ty.i (TmL.slot Ty.i (TmL.slot Ty.i (TmL.own 6 (TmL.own 7 TmL.nil))))))))) (TmH.lst false (Ty.prod Ty.i
  (Ty.prod Ty.i Ty.unit)) (TmH.lst false YReadMark TmH.nil))))))))

def spec_l9Install_X8_0 (i : Int × Int × Int × Int × Int × Int × Int × Int × Int × List (Int × Int × Unit) × List (Int × Int × Unit) × Int × Int × Int × Int × Int × Int × Int × Int × Int × Int × Int × Int × Int × Int × List (Int × Int × Unit) × List (Int × Int × Unit) ×
  Unit) (p : List (List (Int × Int × Int × Int × Int × Unit)) × Unit) : St :=
  St.mk [AV.junk, AV.junk, AV.pv Ty.i i.1, AV.junk, AV.pv Ty.i i.2.1, AV.junk, AV.ptr 0 none 0 0, AV.junk, AV.junk, AV.junk, AV.ptr 1 none 0 0, AV.ptr 2 none 0 0, AV.ptr 3 none 0 0, AV.ptr 5 none 0 0, AV.junk,
  AV.junk, AV.junk, AV.junk, AV.junk, AV.junk, AV.junk, AV.junk, AV.junk, AV.junk, AV.junk, AV.junk, AV.junk, AV.junk, AV.junk, AV.junk, AV.junk, AV.junk, AV.junk, AV.junk, AV.junk, AV.junk, AV.junk, AV.junk, AV.junk, AV.junk, AV.junk,
  AV.junk, AV.junk, AV.junk, AV.junk, AV.junk, AV.junk, AV.junk, AV.junk, AV.junk, AV.junk, AV.junk, AV.junk, AV.junk, AV.junk, AV.junk, AV.junk, AV.junk, AV.junk, AV.junk, AV.junk, AV.junk, AV.junk, AV.junk, AV.junk, AV.junk, AV.junk,
  AV.junk, AV.junk, AV.junk, AV.junk, AV.junk, AV.junk, AV.junk, AV.junk, AV.junk, AV.junk, AV.junk, AV.junk, AV.junk, AV.junk, AV.junk, AV.junk, AV.junk, AV.junk, AV.junk, AV.junk, AV.junk, AV.junk, AV.junk, AV.junk, AV.junk, AV.junk,
  AV.junk, AV.junk, AV.junk, AV.junk, AV.junk, AV.junk, AV.junk, AV.junk, AV.junk, AV.junk, AV.junk, AV.junk, AV.junk, AV.junk, AV.junk, AV.junk, AV.junk, AV.junk, AV.junk, AV.junk, AV.junk, AV.junk, AV.junk, AV.junk, AV.junk, AV.junk,
  AV.junk, AV.junk, AV.junk, AV.junk, AV.junk, AV.junk, AV.junk, AV.junk, AV.junk] [some (Cont.cells 9 [[AV.pv Ty.i i.2.2.1, AV.pv Ty.i i.2.2.2.1, AV.pv Ty.i i.2.2.2.2.1, AV.pv (Ty.int
  IntKind.i64) i.2.2.2.2.2.1, AV.pv Ty.i i.2.2.2.2.2.2.1, AV.pv Ty.i i.2.2.2.2.2.2.2.1, AV.pv Ty.i i.2.2.2.2.2.2.2.2.1, AV.pv (Ty.slice (Ty.prod Ty.i (Ty.prod Ty.i
  Ty.unit))) i.2.2.2.2.2.2.2.2.2.1, AV.pv (Ty.slice YReadMark) i.2.2.2.2.2.2.2.2.2.2.1]]), some (Cont.cells 1 [[AV.nils]]), some (Cont.cells 9 [[AV.pv Ty.i
  i.2.2.2.2.2.2.2.2.2.2.2.1, AV.pv Ty.i i.2.2.2.2.2.2.2.2.2.2.2.2.1, AV.pv Ty.i i.2.2.2.2.2.2.2.2.2.2.2.2.2.1, AV.pv Ty.i i.2.2.2.2.2.2.2.2.2.2.2.2.2.2.1, AV.pv Ty.i
  i.2.2.2.2.2.2.2.2.2.2.2.2.2.2.2.1, AV.pv Ty.i i.2.2.2.2.2.2.2.2.2.2.2.2.2.2.2.2.1, AV.pv Ty.i i.2.2.2.2.2.2.2.2.2.2.2.2.2.2.2.2.2.1, AV.nils, AV.nils]]), some (Cont.cells 1 [[AV.own 4 none none]]), some
  (Cont.tree false 0 (Ty.slice YVersion) p.1 none), some (Cont.cells 9 [[AV.pv (Ty.int
  IntKind.i64) i.2.2.2.2.2.2.2.2.2.2.2.2.2.2.2.2.2.2.1, AV.pv Ty.i i.2.2.2.2.2.2.2.2.2.2.2.2.2.2.2.2.2.2.2.1, AV.pv Ty.i i.2.2.2.2.2.2.2.2.2.2.2.2.2.2.2.2.2.2.2.2.1, AV.pv Ty.i
  i.2.2.2.2.2.2.2.2.2.2.2.2.2.2.2.2.2.2.2.2.2.1, AV.pv Ty.i i.2.2.2.2.2.2.2.2.2.2.2.2.2.2.2.2.2.2.2.2.2.2.1, AV.pv Ty.i i.2.2.2.2.2.2.2.2.2.2.2.2.2.2.2.2.2.2.2.2.2.2.2.1, AV.pv Ty.i
  i.2.2.2.2.2.2.2.2.2.2.2.2.2.2.2.2.2.2.2.2.2.2.2.2.1, AV.own 6 none none, AV.own 7 none none]]), some (Cont.lst false YReadMark
  i.2.2.2.2.2.2.2.2.2.2.2.2.2.2.2.2.2.2.2.2.2.2.2.2.2.1), some (Cont.lst false YReadMark i.2.2.2.2.2.2.2.2.2.2.2.2.2.2.2.2.2.2.2.2.2.2.2.2.2.2.1)]

noncomputable def spec_l9Install_E8 (i : Int × Int × Int × Int × Int × Int × Int × Int × Int × List (Int × Int × Unit) × List (Int × Int × Unit) × Int × Int × Int × Int × Int × Int × Int × Int × Int × Int × Int × Int × Int × Int × List (Int × Int × Unit) × List (Int × Int × Unit) ×
  Unit) (p : List (List (Int × Int × Int × Int × Int × Unit)) × Unit) (R : Type) (K : Ex → St → Option R) : Option R := K (Ex.exit 0) (spec_l9Install_X8_0 i p)

noncomputable def spec_l9Install_K8 (i : Int × Int × Int × Int × Int × Int × Int × Int × Int × List (Int × Int × Unit) × List (Int × Int × Unit) × Int × Int × Int × Int × Int × Int × Int × Int × Int × Int × Int × Int × Int × Int × List (Int × Int × Unit) × List (Int × Int × Unit) ×
  Unit) (p : List (List (Int × Int × Int × Int × Int × Unit)) × Unit) : Ex × St := ((Ex.exit 0), spec_l9Install_X8_0 i p)

def spec_l9Install_M8 (i : Int × Int × Int × Int × Int × Int × Int × Int × Int × List (Int × Int × Unit) × List (Int × Int × Unit) × Int × Int × Int × Int × Int × Int × Int × Int × Int × Int × Int × Int × Int × Int × List (Int × Int × Unit) × List (Int × Int × Unit) ×
  Unit) (v : Int × List (List (Int × Int × Int × Int × Int × Unit)) × Unit) : den spec_l9Install_T8.ty := (i.1, i.2.1, v.1, i.2.2.1, i.2.2.2.1, i.2.2.2.2.1, i.2.2.2.2.2.1, i.2.2.2.2.2.2.1, i.2.2.2.2.2.2.2.1, i.2.2.2.2.2.2.2.2.1, i.2.2.2.2.2.2.2.2.2.1, i.2.2.2.2.2.2.2.2.2.2.1, i.2.2.2.2.2.2.2.2.2.2.2.1, i.2.2.2.2.2.2.2.2.2.2.2.2.1, i.2.2.2.2.2.2.2.2.2.2.2.2.2.1, i.2.2.2.2.2.2.2.2.2.2.2.2.2.2.1, i.2.2.2.2.2.2.2.2.2.2.2.2.2.2.2.1, i.2.2.2.2.2.2.2.2.2.2.2.2.2.2.2.2.1, i.2.2.2.2.2.2.2.2.2.2.2.2.2.2.2.2.2.1, v.2.1, i.2.2.2.2.2.2.2.2.2.2.2.2.2.2.2.2.2.2.1, i.2.2.2.2.2.2.2.2.2.2.2.2.2.2.2.2.2.2.2.1, i.2.2.2.2.2.2.2.2.2.2.2.2.2.2.2.2.2.2.2.2.1, i.2.2.2.2.2.2.2.2.2.2.2.2.2.2.2.2.2.2.2.2.2.1, i.2.2.2.2.2.2.2.2.2.2.2.2.2.2.2.2.2.2.2.2.2.2.1, i.2.2.2.2.2.2.2.2.2.2.2.2.2.2.2.2.2.2.2.2.2.2.2.1, i.2.2.2.2.2.2.2.2.2.2.2.2.2.2.2.2.2.2.2.2.2.2.2.2.1, i.2.2.2.2.2.2.2.2.2.2.2.2.2.2.2.2.2.2.2.2.2.2.2.2.2.1, i.2.2.2.2.2.2.2.2.2.2.2.2.2.2.2.2.2.2.2.2.2.2.2.2.2.2.1, ())

def spec_l9Install_P8 (x : den spec_l9Install_T8.ty) : (Int × Int × Int × Int × Int × Int × Int × Int × Int × List (Int × Int × Unit) × List (Int × Int × Unit) × Int × Int × Int × Int × Int × Int × Int × Int × Int × Int × Int × Int × Int × Int × List (Int × Int × Unit) × List (Int × Int × Unit) ×
  Unit) × (Int × List (List (Int × Int × Int × Int × Int × Unit)) × Unit) := ((x.1, x.2.1, x.2.2.2.1, x.2.2.2.2.1, x.2.2.2.2.2.1, x.2.2.2.2.2.2.1, x.2.2.2.2.2.2.2.1, x.2.2.2.2.2.2.2.2.1, x.2.2.2.2.2.2.2.2.2.1, x.2.2.2.2.2.2.2.2.2.2.1, x.2.2.2.2.2.2.2.2.2.2.2.1, x.2.2.2.2.2.2.2.2.2.2.2.2.1, x.2.2.2.2.2.2.2.2.2.2.2.2.2.1, x.2.2.2.2.2.2.2.2.2.2.2.2.2.2.1, x.2.2.2.2.2.2.2.2.2.2.2.2.2.2.2.1, x.2.2.2.2.2.2.2.2.2.2.2.2.2.2.2.2.1, x.2.2.2.2.2.2.2.2.2.2.2.2.2.2.2.2.2.1, x.2.2.2.2.2.2.2.2.2.2.2.2.2.2.2.2.2.2.1, x.2.2.2.2.2.2.2.2.2.2.2.2.2.2.2.2.2.2.2.2.1, x.2.2.2.2.2.2.2.2.2.2.2.2.2.2.2.2.2.2.2.2.2.1, x.2.2.2.2.2.2.2.2.2.2.2.2.2.2.2.2.2.2.2.2.2.2.1, x.2.2.2.2.2.2.2.2.2.2.2.2.2.2.2.2.2.2.2.2.2.2.2.1, x.2.2.2.2.2.2.2.2.2.2.2.2.2.2.2.2.2.2.2.2.2.2.2.2.1, x.2.2.2.2.2.2.2.2.2.2.2.2.2.2.2.2.2.2.2.2.2.2.2.2.2.1, x.2.2.2.2.2.2.2.2.2.2.2.2.2.2.2.2.2.2.2.2.2.2.2.2.2.2.1, x.2.2.2.2.2.2.2.2.2.2.2.2.2.2.2.2.2.2.2.2.2.2.2.2.2.2.2.1, x.2.2.2.2.2.2.2.2.2.2.2.2.2.2.2.2.2.2.2.2.2.2.2.2.2.2.2.2.1, ()), (x.2.2.1, x.2.2.2.2.2.2.2.2.2.2.2.2.2.2.2.2.2.2.2.1, ()))

noncomputable def spec_l9Install_F8 : LoopFn := fun s R K => Tmpl.readS spec_l9Install_T8 0 s fun x => (iter (fun v => spec_l9Install_D8 (spec_l9Install_P8 x).1 v _ some) (spec_l9Install_P8 x).2).bind fun p => spec_l9Install_E8 (spec_l9Install_P8 x).1 p R K

noncomputable def spec_l9Install_D14 (i : Int × Int × Int × Int × Int × Int × Int × Int × Int × List (Int × Int × Unit) × List (Int × Int × Unit) × Int × Int × Int × Int × Int × Int × Int × Int × Int × Int × Int × Int × Int × Int × List (Int × Int × Unit) × List (Int × Int × Unit) ×
  Unit) (v : Int × List (List (Int × Int × Int × Int × Int × Unit)) × Unit) (R : Type) (K : Int × List (List (Int × Int × Int × Int × Int × Unit)) × Unit ⊕ List (List (Int × Int × Int × Int × Int × Unit)) × Unit → Option R) : Option R :=
  bif decide (v.1 < (↑(List.length i.2.2.2.2.2.2.2.2.2.2.1) : Int)) then Option.bind (lAt i.2.2.2.2.2.2.2.2.2.2.1 v.1) fun v_1 => if 0 ≤ v_1.1 ∧ v_1.1 < (↑(List.length v.2.1) : Int) then Option.bind v.2.1[0 + Int.toNat v_1.1]? fun v_2 =>
  Option.bind v.2.1[0 + Int.toNat v_1.1]? fun v_3 => if 0 ≤ v_1.1 ∧ v_1.1 < (↑(List.length v.2.1) : Int) then Option.bind v.2.1[0 + Int.toNat v_1.1]? fun v_4 => Option.bind v.2.1[0 + Int.toNat v_1.1]? fun v_5 => if 0 ≤ IntKind.wrap IntKind.i64
  ((↑(List.length v_3) : Int) - 1) ∧ IntKind.wrap IntKind.i64 ((↑(List.length v_3) : Int) - 1) < (↑(List.length v_5) : Int) then Option.bind v.2.1[0 + Int.toNat v_1.1]? fun v_6 => Option.bind v_6[0 + Int.toNat (IntKind.wrap IntKind.i64
  ((↑(List.length v_3) : Int) - 1))]? fun v_7 => if 0 ≤ v_1.1 ∧ v_1.1 < (↑(List.length (List.set v.2.1 (0 + Int.toNat v_1.1) (List.set v_6 (0 + Int.toNat (IntKind.wrap IntKind.i64 ((↑(List.length v_3) : Int) - 1))) (v_7.1, v_7.2.1, v_7.2.2.1,
  v_7.2.2.2.1, i.2.1, ())))) : Int) then Option.bind (List.set v.2.1 (0 + Int.toNat v_1.1) (List.set v_6 (0 + Int.toNat (IntKind.wrap IntKind.i64 ((↑(List.length v_3) : Int) - 1))) (v_7.1, v_7.2.1, v_7.2.2.1, v_7.2.2.2.1, i.2.1, ())))[0 +
  Int.toNat v_1.1]? fun v_8 => Option.bind (lAt i.2.2.2.2.2.2.2.2.2.2.1 v.1) fun v_9 => Option.bind (List.set v.2.1 (0 + Int.toNat v_1.1) (List.set v_6 (0 + Int.toNat (IntKind.wrap IntKind.i64 ((↑(List.length v_3) : Int) - 1))) (v_7.1,
  v_7.2.1, v_7.2.2.1, v_7.2.2.2.1, i.2.1, ())))[0 + Int.toNat v_1.1]? fun v_10 => if List.length (v_10 ++ [(i.2.2.1, v_9.2.1, i.1, i.1, 1000, ())]) ≤ 879609302220 then if 0 ≤ v_1.1 ∧ v_1.1 < (↑(List.length (List.set v.2.1 (0 + Int.toNat v_1.1)
  (List.set v_6 (0 + Int.toNat (IntKind.wrap IntKind.i64 ((↑(List.length v_3) : Int) - 1))) (v_7.1, v_7.2.1, v_7.2.2.1, v_7.2.2.2.1, i.2.1, ())))) : Int) then Option.bind (List.set v.2.1 (0 + Int.toNat v_1.1) (List.set v_6 (0 + Int.toNat
  (IntKind.wrap IntKind.i64 ((↑(List.length v_3) : Int) - 1))) (v_7.1, v_7.2.1, v_7.2.2.1, v_7.2.2.2.1, i.2.1, ())))[0 + Int.toNat v_1.1]? fun v_11 => if 1 ≤ 1 ∧ true = true ∧ 0 + Int.toNat v_1.1 = 0 + Int.toNat v_1.1 ∧ 0 ≤ 0 ∧ 0 < 1 then K
  (Sum.inl (IntKind.wrap IntKind.i64 (v.1 + 1), List.set (List.set v.2.1 (0 + Int.toNat v_1.1) (List.set v_6 (0 + Int.toNat (IntKind.wrap IntKind.i64 ((↑(List.length v_3) : Int) - 1))) (v_7.1, v_7.2.1, v_7.2.2.1, v_7.2.2.2.1, i.2.1, ()))) (0 +
  Int.toNat v_1.1) (v_10 ++ [(i.2.2.1, v_9.2.1, i.1, i.1, 1000, ())]), ())) else none else none else none else none else none else none else none else K (Sum.inr (v.2.1, ()))

theorem spec_l9Install_D14_nat (i : Int × Int × Int × Int × Int × Int × Int × Int × Int × List (Int × Int × Unit) × List (Int × Int × Unit) × Int × Int × Int × Int × Int × Int × Int × Int × Int × Int × Int × Int × Int × Int × List (Int × Int × Unit) × List (Int × Int × Unit) ×
  Unit) (v : Int × List (List (Int × Int × Int × Int × Int × Unit)) × Unit) (R : Type) (K : Int × List (List (Int × Int × Int × Int × Int × Unit)) × Unit ⊕ List (List (Int × Int × Int × Int × Int × Unit)) × Unit → Option R) : spec_l9Install_D14 i v R K = (spec_l9Install_D14 i v _ some).bind K := nat_bif (nat_bind fun _ => nat_ite (nat_bind fun _ => nat_bind fun _ => nat_ite (nat_bind fun _ => nat_bind fun _ => nat_ite (nat_bind fun _ => nat_bind fun _ => nat_ite (nat_bind fun _ => nat_bind fun _ => nat_bind fun _ => nat_ite (nat_ite (nat_bind fun _ => nat_ite (nat_some)))))))) (nat_some)

def spec_l9Install_T14 : Tmpl := Tmpl.mk (TmL.junk (TmL.junk (TmL.slot Ty.i (TmL.junk (TmL.slot Ty.i (TmL.junk (TmL.ptr 0 0 0 (TmL.junk (TmL.junk (TmL.junk (TmL.ptr 1 0 0 (TmL.ptr 2 0 0 (TmL.ptr 3 0 0 (TmL.ptr 5 0 0 (TmL.junk (TmL.junk
  (TmL.junk (TmL.slot Ty.i (TmL.junk (TmL.junk (TmL.junk (TmL.junk (TmL.junk (TmL.junk (TmL.junk (TmL.junk (TmL.junk (TmL.junk (TmL.junk (TmL.junk (TmL.junk (TmL.junk (TmL.junk (TmL.junk (TmL.junk (TmL.junk (TmL.junk (TmL.junk
  (TmL.junk (TmL.junk (TmL.junk (TmL.junk (TmL.junk (TmL.junk (TmL.junk (TmL.junk (TmL.junk (TmL.junk (TmL.junk (TmL.junk (TmL.junk (TmL.junk (TmL.junk (TmL.junk (TmL.junk (TmL.junk (TmL.junk (TmL.junk (TmL.junk (TmL.junk (TmL.junk (TmL.junk
  (TmL.junk (TmL.junk (TmL.junk (TmL.junk (TmL.junk (TmL.junk (TmL.junk (TmL.junk (TmL.junk (TmL.junk (TmL.junk (TmL.junk (TmL.junk (TmL.junk (TmL.junk (TmL.junk (TmL.junk (TmL.junk (TmL.junk (TmL.junk (TmL.junk (TmL.junk (TmL.junk (TmL.junk
  (TmL.junk (TmL.junk (TmL.junk (TmL.junk (TmL.junk (TmL.junk (TmL.junk (TmL.junk (TmL.junk (TmL.junk (TmL.junk (TmL.junk (TmL.junk (TmL.junk (TmL.junk (TmL.junk (TmL.junk (TmL.junk (TmL.junk (TmL.junk (TmL.junk (TmL.junk (TmL.junk (TmL.junk
  (TmL.junk (TmL.junk (TmL.junk (TmL.junk (TmL.junk (TmL.junk (TmL.junk (TmL.junk (TmL.junk (TmL.junk (TmL.junk (TmL.junk (TmL.junk (TmL.junk (TmL.junk (TmL.junk (TmL.junk (TmL.junk
  TmL.nil)))))))))))))))))))))))))))))))))))))))))))))))))))))))))))))))))))))))))))))))))))))))))))))))))))))))))))))))))))))))))))))))) (TmH.cells 9 (TmL.slot Ty.i (TmL.slot Ty.i (TmL.slot Ty.i
  (TmL.slot Ty.i (TmL.slot Ty.i (TmL.slot Ty.i (TmL.slot Ty.i (TmL.slot (Ty.slice YReadMark) (TmL.slot (Ty.slice
  YReadMark) TmL.nil))))))))) (TmH.cells 1 (TmL.const AV.nils TmL.nil) (TmH.cells 9 (TmL.slot Ty.i (TmL.slot Ty.i (TmL.slot Ty.i
  (TmL.slot Ty.i (TmL.slot Ty.i (TmL.slot Ty.i (TmL.slot Ty.i (TmL.const AV.nils (TmL.const AV.nils TmL.nil))))))))) (TmH.cells 1 (TmL.own 4 TmL.nil) (TmH.tree false 1 (Ty.slice
  YVersion) (TmH.cells 9 (TmL.slot Ty.i (TmL.slot Ty.i
  (TmL.slot Ty.i (TmL.slot Ty.i (TmL.slot Ty.i (TmL.slot Ty.i (TmL.slot Ty.i (TmL.own 6 (TmL.own 7 TmL.nil))))))))) (TmH.lst false (Ty.prod Ty.i
  (Ty.prod Ty.i Ty.unit)) (TmH.lst false YReadMark TmH.nil))))))))

def spec_l9Install_X14_0 (i : Int × Int × Int × Int × Int × Int × Int × Int × Int × List (Int × Int × Unit) × List (Int × Int × Unit) × Int × Int × Int × Int × Int × Int × Int × Int × Int × Int × Int × Int × Int × Int × List (Int × Int × Unit) × List (Int × Int × Unit) ×
  Unit) (p : List (List (Int × Int × Int × Int × Int × Unit)) × Unit) : St :=
  St.mk [AV.junk, AV.junk, AV.junk, AV.junk, AV.junk, AV.junk, AV.junk, AV.junk, AV.junk, AV.junk, AV.ptr 1 none 0 0, AV.ptr 2 none 0 0, AV.ptr 3 none 0 0, AV.ptr 5 none 0 0, AV.junk, AV.junk, AV.junk, AV.junk, AV.junk, AV.junk, AV.junk,
  AV.junk, AV.junk, AV.junk, AV.junk, AV.junk, AV.junk, AV.junk, AV.junk, AV.junk, AV.junk, AV.junk, AV.junk, AV.junk, AV.junk, AV.junk, AV.junk, AV.junk, AV.junk, AV.junk, AV.junk, AV.junk, AV.junk, AV.junk, AV.junk, AV.junk, AV.junk,
  AV.junk, AV.junk, AV.junk, AV.junk, AV.junk, AV.junk, AV.junk, AV.junk, AV.junk, AV.junk, AV.junk, AV.junk, AV.junk, AV.junk, AV.junk, AV.junk, AV.junk, AV.junk, AV.junk, AV.junk, AV.junk, AV.junk, AV.junk, AV.junk, AV.junk, AV.junk,
  AV.junk, AV.junk, AV.junk, AV.junk, AV.junk, AV.junk, AV.junk, AV.junk, AV.junk, AV.junk, AV.junk, AV.junk, AV.junk, AV.junk, AV.junk, AV.junk, AV.junk, AV.junk, AV.junk, AV.junk, AV.junk, AV.junk, AV.junk, AV.junk, AV.junk, AV.junk,
  AV.junk, AV.junk, AV.junk, AV.junk, AV.junk, AV.junk, AV.junk, AV.junk, AV.junk, AV.junk, AV.junk, AV.junk, AV.junk, AV.junk, AV.junk, AV.junk, AV.junk, AV.junk, AV.junk, AV.junk, AV.junk, AV.junk, AV.junk, AV.junk, AV.junk, AV.junk,
  AV.junk, AV.junk, AV.junk] [some (Cont.cells 9 [[AV.pv Ty.i i.2.2.1, AV.pv Ty.i i.2.2.2.1, AV.pv Ty.i i.2.2.2.2.1, AV.pv Ty.i i.2.2.2.2.2.1, AV.pv Ty.i
  i.2.2.2.2.2.2.1, AV.pv Ty.i i.2.2.2.2.2.2.2.1, AV.pv Ty.i i.2.2.2.2.2.2.2.2.1, AV.pv (Ty.slice YReadMark) i.2.2.2.2.2.2.2.2.2.1, AV.pv (Ty.slice
  YReadMark) i.2.2.2.2.2.2.2.2.2.2.1]]), some (Cont.cells 1 [[AV.nils]]), some (Cont.cells 9 [[AV.pv Ty.i i.2.2.2.2.2.2.2.2.2.2.2.1, AV.pv Ty.i
  i.2.2.2.2.2.2.2.2.2.2.2.2.1, AV.pv Ty.i i.2.2.2.2.2.2.2.2.2.2.2.2.2.1, AV.pv Ty.i i.2.2.2.2.2.2.2.2.2.2.2.2.2.2.1, AV.pv Ty.i i.2.2.2.2.2.2.2.2.2.2.2.2.2.2.2.1, AV.pv Ty.i
  i.2.2.2.2.2.2.2.2.2.2.2.2.2.2.2.2.1, AV.pv Ty.i i.2.2.2.2.2.2.2.2.2.2.2.2.2.2.2.2.2.1, AV.nils, AV.nils]]), some (Cont.cells 1 [[AV.own 4 none none]]), some (Cont.tree false 1 (Ty.slice (Ty.prod Ty.i (Ty.prod
  Ty.i (Ty.prod Ty.i YReadMark)))) p.1 none), some (Cont.cells 9 [[AV.pv Ty.i i.2.2.2.2.2.2.2.2.2.2.2.2.2.2.2.2.2.2.1, AV.pv (Ty.int
  IntKind.i64) i.2.2.2.2.2.2.2.2.2.2.2.2.2.2.2.2.2.2.2.1, AV.pv Ty.i i.2.2.2.2.2.2.2.2.2.2.2.2.2.2.2.2.2.2.2.2.1, AV.pv Ty.i i.2.2.2.2.2.2.2.2.2.2.2.2.2.2.2.2.2.2.2.2.2.1, AV.pv Ty.i
  i.2.2.2.2.2.2.2.2.2.2.2.2.2.2.2.2.2.2.2.2.2.2.1, AV.pv Ty.i i.2.2.2.2.2.2.2.2.2.2.2.2.2.2.2.2.2.2.2.2.2.2.2.1, AV.pv Ty.i i.2.2.2.2.2.2.2.2.2.2.2.2.2.2.2.2.2.2.2.2.2.2.2.2.1, AV.own 6 none none, AV.own 7 none
  none]]), some (Cont.lst false YReadMark i.2.2.2.2.2.2.2.2.2.2.2.2.2.2.2.2.2.2.2.2.2.2.2.2.2.1), some (Cont.lst false (Ty.prod Ty.i (Ty.prod Ty.i
  Ty.unit)) i.2.2.2.2.2.2.2.2.2.2.2.2.2.2.2.2.2.2.2.2.2.2.2.2.2.2.1)]

noncomputable def spec_l9Install_E14 (i : Int × Int × Int × Int × Int × Int × Int × Int × Int × List (Int × Int × Unit) × List (Int × Int × Unit) × Int × Int × Int × Int × Int × Int × Int × Int × Int × Int × Int × Int × Int × Int × List (Int × Int × Unit) × List (Int × Int × Unit) ×
  Unit) (p : List (List (Int × Int × Int × Int × Int × Unit)) × Unit) (R : Type) (K : Ex → St → Option R) : Option R := K (Ex.exit 2) (spec_l9Install_X14_0 i p)

noncomputable def spec_l9Install_K14 (i : Int × Int × Int × Int × Int × Int × Int × Int × Int × List (Int × Int × Unit) × List (Int × Int × Unit) × Int × Int × Int × Int × Int × Int × Int × Int × Int × Int × Int × Int × Int × Int × List (Int × Int × Unit) × List (Int × Int × Unit) ×
  Unit) (p : List (List (Int × Int × Int × Int × Int × Unit)) × Unit) : Ex × St := ((Ex.exit 2), spec_l9Install_X14_0 i p)

def spec_l9Install_M14 (i : Int × Int × Int × Int × Int × Int × Int × Int × Int × List (Int × Int × Unit) × List (Int × Int × Unit) × Int × Int × Int × Int × Int × Int × Int × Int × Int × Int × Int × Int × Int × Int × List (Int × Int × Unit) × List (Int × Int × Unit) ×
  Unit) (v : Int × List (List (Int × Int × Int × Int × Int × Unit)) × Unit) : den spec_l9Install_T14.ty := (i.1, i.2.1, v.1, i.2.2.1, i.2.2.2.1, i.2.2.2.2.1, i.2.2.2.2.2.1, i.2.2.2.2.2.2.1, i.2.2.2.2.2.2.2.1, i.2.2.2.2.2.2.2.2.1, i.2.2.2.2.2.2.2.2.2.1, i.2.2.2.2.2.2.2.2.2.2.1, i.2.2.2.2.2.2.2.2.2.2.2.1, i.2.2.2.2.2.2.2.2.2.2.2.2.1, i.2.2.2.2.2.2.2.2.2.2.2.2.2.1, i.2.2.2.2.2.2.2.2.2.2.2.2.2.2.1, i.2.2.2.2.2.2.2.2.2.2.2.2.2.2.2.1, i.2.2.2.2.2.2.2.2.2.2.2.2.2.2.2.2.1, i.2.2.2.2.2.2.2.2.2.2.2.2.2.2.2.2.2.1, v.2.1, i.2.2.2.2.2.2.2.2.2.2.2.2.2.2.2.2.2.2.1, i.2.2.2.2.2.2.2.2.2.2.2.2.2.2.2.2.2.2.2.1, i.2.2.2.2.2.2.2.2.2.2.2.2.2.2.2.2.2.2.2.2.1, i.2.2.2.2.2.2.2.2.2.2.2.2.2.2.2.2.2.2.2.2.2.1, i.2.2.2.2.2.2.2.2.2.2.2.2.2.2.2.2.2.2.2.2.2.2.1, i.2.2.2.2.2.2.2.2.2.2.2.2.2.2.2.2.2.2.2.2.2.2.2.1, i.2.2.2.2.2.2.2.2.2.2.2.2.2.2.2.2.2.2.2.2.2.2.2.2.1, i.2.2.2.2.2.2.2.2.2.2.2.2.2.2.2.2.2.2.2.2.2.2.2.2.2.1, i.2.2.2.2.2.2.2.2.2.2.2.2.2.2.2.2.2.2.2.2.2.2.2.2.2.2.1, ())

def spec_l9Install_P14 (x : den spec_l9Install_T14.ty) : (Int × Int × Int × Int × Int × Int × Int × Int × Int × List (Int × Int × Unit) × List (Int × Int × Unit) × Int × Int × Int × Int × Int × Int × Int × Int × Int × Int × Int × Int × Int × Int × List (Int × Int × Unit) × List (Int × Int × Unit) ×
  Unit) × (Int × List (List (Int × Int × Int × Int × Int × Unit)) × Unit) := ((x.1, x.2.1, x.2.2.2.1, x.2.2.2.2.1, x.2.2.2.2.2.1, x.2.2.2.2.2.2.1, x.2.2.2.2.2.2.2.1, x.2.2.2.2.2.2.2.2.1, x.2.2.2.2.2.2.2.2.2.1, x.2.2.2.2.2.2.2.2.2.2.1, x.2.2.2.2.2.2.2.2.2.2.2.1, x.2.2.2.2.2.2.2.2.2.2.2.2.1, x.2.2.2.2.2.2.2.2.2.2.2.2.2.1, x.2.2.2.2.2.2.2.2.2.2.2.2.2.2.1, x.2.2.2.2.2.2.2.2.2.2.2.2.2.2.2.1, x.2.2.2.2.2.2.2.2.2.2.2.2.2.2.2.2.1, x.2.2.2.2.2.2.2.2.2.2.2.2.2.2.2.2.2.1, x.2.2.2.2.2.2.2.2.2.2.2.2.2.2.2.2.2.2.1, x.2.2.2.2.2.2.2.2.2.2.2.2.2.2.2.2.2.2.2.2.1, x.2.2.2.2.2.2.2.2.2.2.2.2.2.2.2.2.2.2.2.2.2.1, x.2.2.2.2.2.2.2.2.2.2.2.2.2.2.2.2.2.2.2.2.2.2.1, x.2.2.2.2.2.2.2.2.2.2.2.2.2.2.2.2.2.2.2.2.2.2.2.1, x.2.2.2.2.2.2.2.2.2.2.2.2.2.2.2.2.2.2.2.2.2.2.2.2.1, x.2.2.2.2.2.2.2.2.2.2.2.2.2.2.2.2.2.2.2.2.2.2.2.2.2.1, x.2.2.2.2.2.2.2.2.2.2.2.2.2.2.2.2.2.2.2.2.2.2.2.2.2.2.1, x.2.2.2.2.2.2.2.2.2.2.2.2.2.2.2.2.2.2.2.2.2.2.2.2.2.2.2.1, x.2.2.2.2.2.2.2.2.2.2.2.2.2.2.2.2.2.2.2.2.2.2.2.2.2.2.2.2.1, ()), (x.2.2.1, x.2.2.2.2.2.2.2.2.2.2.2.2.2.2.2.2.2.2.2.1, ()))

noncomputable def spec_l9Install_F14 : LoopFn := fun s R K => Tmpl.readS spec_l9Install_T14 0 s fun x => (iter (fun v => spec_l9Install_D14 (spec_l9Install_P14 x).1 v _ some) (spec_l9Install_P14 x).2).bind fun p => spec_l9Install_E14 (spec_l9Install_P14 x).1 p R K

noncomputable def spec_l9Install_C : Cfg := { ti := g_tis, ents := [spec_l4Copy_Ent, spec_l5Copy_Ent, spec_FindVersion_Ent], ann := [(8, spec_l9Install_F8), (14, spec_l9Install_F14)], lent := 0, hid := [((19, 0), [4]), ((19, 1), [4]), ((19, 2), [4]), ((20, 1), [1])] }

def spec_l9Install_ti : Tmpl := Tmpl.mk (TmL.slot YStore (TmL.slot (Ty.prod
  Ty.i (Ty.prod Ty.i (Ty.prod Ty.i (Ty.prod Ty.i (Ty.prod Ty.i (Ty.prod Ty.i (Ty.prod Ty.i (Ty.prod (Ty.slice (Ty.prod (Ty.int
  IntKind.i64) (Ty.prod Ty.i Ty.unit))) (Ty.prod (Ty.slice YReadMark) Ty.unit))))))))) (TmL.slot Ty.i (TmL.slot Ty.i (TmL.slot (Ty.int
  IntKind.i64) TmL.nil))))) TmH.nil

def spec_l9Install_to : Tmpl := Tmpl.mk (TmL.agg (TmL.own 0 TmL.nil) (TmL.agg (TmL.slot Ty.i (TmL.slot Ty.i (TmL.slot Ty.i (TmL.slot Ty.i (TmL.slot Ty.i (TmL.slot Ty.i (TmL.slot
  Ty.i (TmL.own 1 (TmL.own 2 TmL.nil))))))))) TmL.nil)) (TmH.tree false 1 (Ty.slice (Ty.prod Ty.i (Ty.prod Ty.i (Ty.prod Ty.i (Ty.prod Ty.i (Ty.prod (Ty.int
  IntKind.i64) Ty.unit)))))) (TmH.lst false YReadMark (TmH.lst false YReadMark TmH.nil)))

noncomputable def spec_l9Install_S (x : (List (List (Int × Int × Int × Int × Int × Unit)) × Unit) × (Int × Int × Int × Int × Int × Int × Int × List (Int × Int × Unit) × List (Int × Int × Unit) × Unit) × Int × Int × Int × Unit) : Option (Int × Int × Int × Int × Int × Int × Int × List (List (Int × Int × Int × Int × Int × Unit)) × List (Int × Int × Unit) × List (Int × Int × Unit) × Unit) :=
  Option.bind (spec_l4Copy_S ((x.1.1, ()), ())) fun v => Option.bind (spec_l5Copy_S ((x.2.1.1, x.2.1.2.1, x.2.1.2.2.1, x.2.1.2.2.2.1, x.2.1.2.2.2.2.1, x.2.1.2.2.2.2.2.1, x.2.1.2.2.2.2.2.2.1, x.2.1.2.2.2.2.2.2.2.1, x.2.1.2.2.2.2.2.2.2.2.1, ()),
  ())) fun v_1 => Option.bind (iter (fun v => spec_l9Install_D8 (x.2.2.1, x.2.2.2.2.1, x.2.1.1, x.2.1.2.1, x.2.1.2.2.1, x.2.1.2.2.2.1, x.2.1.2.2.2.2.1, x.2.1.2.2.2.2.2.1, x.2.1.2.2.2.2.2.2.1, x.2.1.2.2.2.2.2.2.2.1, x.2.1.2.2.2.2.2.2.2.2.1, 0,
  0, 0, 0, 0, 0, 0, v_1.1, v_1.2.1, 2, v_1.2.2.2.1, x.2.2.2.1, x.2.2.2.2.1, x.2.2.1, v_1.2.2.2.2.2.2.2.1, v_1.2.2.2.2.2.2.2.2.1, ()) v (Int × List (List (Int × Int × Int × Int × Int × Unit)) × Unit ⊕ List (List (Int × Int × Int × Int × Int ×
  Unit)) × Unit) some) (0, v.1, ())) fun p => Option.bind (iter (fun v => spec_l9Install_D14 (x.2.2.1, x.2.2.2.2.1, x.2.1.1, x.2.1.2.1, x.2.1.2.2.1, x.2.1.2.2.2.1, x.2.1.2.2.2.2.1, x.2.1.2.2.2.2.2.1, x.2.1.2.2.2.2.2.2.1, x.2.1.2.2.2.2.2.2.2.1,
  x.2.1.2.2.2.2.2.2.2.2.1, 0, 0, 0, 0, 0, 0, 0, v_1.1, v_1.2.1, 2, v_1.2.2.2.1, x.2.2.2.1, x.2.2.2.2.1, x.2.2.1, v_1.2.2.2.2.2.2.2.1, v_1.2.2.2.2.2.2.2.2.1, ()) v (Int × List (List (Int × Int × Int × Int × Int × Unit)) × Unit ⊕ List (List (Int
  × Int × Int × Int × Int × Unit)) × Unit) some) (0, p.1, ())) fun p => some (v_1.1, v_1.2.1, 2, v_1.2.2.2.1, x.2.2.2.1, x.2.2.2.2.1, x.2.2.1, p.1, v_1.2.2.2.2.2.2.2.1, v_1.2.2.2.2.2.2.2.2.1, ())

noncomputable def spec_l9Install_Ent : Ent := ⟨61, spec_l9Install_ti, spec_l9Install_to, spec_l9Install_S⟩

theorem spec_l9Install_HC : CfgOK Go.Proofs.Try.prog spec_l9Install_C := ⟨⟨info_ok g_tisOK⟩, (all_cons spec_l4Copy_OK (all_cons spec_l5Copy_OK (all_cons spec_FindVersion_OK all_nil))), g_wide⟩

theorem spec_l9Install_lk14 : ∀ F, ((spec_l9Install_C).ann.find? fun x => x.1 == firstId ((loopsOf (codeOf Go.Proofs.Try.f61)).getD 1 .skip)).map (·.2) = some F → LoopOK Go.Proofs.Try.prog spec_l9Install_C.lent ((loopsOf (codeOf Go.Proofs.Try.f61)).getD 1 .skip) F := by
  refine lookup_ok (show ((spec_l9Install_C).ann.find? fun x => x.1 == firstId ((loopsOf (codeOf Go.Proofs.Try.f61)).getD 1 .skip)).map (·.2) = some spec_l9Install_F14 from by kernel_rfl) ?_
  exact loop_ok spec_l9Install_HC (loops_all 0 (by kernel_rfl) (fun k hk => absurd hk (Nat.not_lt_zero k))) spec_l9Install_T14 [10, 11, 12, 13] spec_l9Install_M14 spec_l9Install_P14 (fun x => rfl) spec_l9Install_D14 spec_l9Install_D14_nat spec_l9Install_E14 spec_l9Install_K14 (fun i p R K => rfl) (fun i v => by kernel_rfl)

theorem spec_l9Install_lk8 : ∀ F, ((spec_l9Install_C).ann.find? fun x => x.1 == firstId ((loopsOf (codeOf Go.Proofs.Try.f61)).getD 0 .skip)).map (·.2) = some F → LoopOK Go.Proofs.Try.prog spec_l9Install_C.lent ((loopsOf (codeOf Go.Proofs.Try.f61)).getD 0 .skip) F := by
  refine lookup_ok (show ((spec_l9Install_C).ann.find? fun x => x.1 == firstId ((loopsOf (codeOf Go.Proofs.Try.f61)).getD 0 .skip)).map (·.2) = some spec_l9Install_F8 from by kernel_rfl) ?_
  exact loop_ok spec_l9Install_HC (loops_all 0 (by kernel_rfl) (fun k hk => absurd hk (Nat.not_lt_zero k))) spec_l9Install_T8 [2, 4, 6, 10, 11, 12, 13] spec_l9Install_M8 spec_l9Install_P8 (fun x => rfl) spec_l9Install_D8 spec_l9Install_D8_nat spec_l9Install_E8 spec_l9Install_K8 (fun i p R K => rfl) (fun i v => by kernel_rfl)

theorem spec_l9Install_VC (x : den spec_l9Install_ti.ty) : vcall spec_l9Install_C Go.Proofs.Try.f61 spec_l9Install_ti spec_l9Install_to x = spec_l9Install_S x := by kernel_rfl

theorem spec_l9Install_OK : EntOK Go.Proofs.Try.prog spec_l9Install_Ent := EntOK.of_vcall spec_l9Install_HC Go.Proofs.Try.func61 (body_loops (by kernel_rfl) (loops_all 2 (by kernel_rfl) (fun k hk => match k, hk with | 0, _ => spec_l9Install_lk8 | 1, _ => spec_l9Install_lk14))) (by kernel_rfl) (by kernel_rfl) spec_l9Install_VC

/-! spec.ApplyRecord -/

noncomputable def spec_ApplyRecord_C : Cfg := { ti := g_tis, ents := [spec_IsValidStore_Ent, spec_l4Copy_Ent, spec_IsValidRecord_Ent, spec_LastStamp_Ent, spec_l28Tx_Ent, spec_ReadsExist_Ent, spec_l9Fits_Ent, spec_l9Install_Ent], ann := [], lent := 0 }

def spec_ApplyRecord_ti : Tmpl := Tmpl.mk (TmL.slot YStore (TmL.slot (Ty.prod
  Ty.i (Ty.prod Ty.i (Ty.prod Ty.i (Ty.prod Ty.i (Ty.prod (Ty.slice YReadMark) (Ty.prod (Ty.slice (Ty.prod (Ty.int
  IntKind.i64) (Ty.prod Ty.i Ty.unit))) Ty.unit)))))) (TmL.slot Ty.i TmL.nil))) TmH.nil

def spec_ApplyRecord_to : Tmpl := Tmpl.mk (TmL.agg (TmL.own 0 TmL.nil) (TmL.slot Ty.bool TmL.nil)) (TmH.tree false 1 (Ty.slice (Ty.prod Ty.i (Ty.prod Ty.i (Ty.prod Ty.i (Ty.prod Ty.i (Ty.prod (Ty.int
  IntKind.i64) Ty.unit)))))) TmH.nil)

noncomputable def spec_ApplyRecord_S (x : (List (List (Int × Int × Int × Int × Int × Unit)) × Unit) × (Int × Int × Int × Int × List (Int × Int × Unit) × List (Int × Int × Unit) × Unit) × Int × Unit) : Option (Bool × List (List (Int × Int × Int × Int × Int × Unit)) × Unit) :=
  Option.bind (spec_IsValidStore_S ((x.1.1, ()), ())) fun v => bif !v.1 then Option.bind (spec_l4Copy_S ((x.1.1, ()), ())) fun v => some (false, v.1, ()) else Option.bind (spec_IsValidRecord_S ((x.2.1.1, x.2.1.2.1, x.2.1.2.2.1, x.2.1.2.2.2.1,
  x.2.1.2.2.2.2.1, x.2.1.2.2.2.2.2.1, ()), ())) fun v => bif !v.1 then Option.bind (spec_l4Copy_S ((x.1.1, ()), ())) fun v => some (false, v.1, ()) else bif x.2.1.1 != IntKind.wrap IntKind.i64 (x.2.2.1 + 1) then Option.bind (spec_l4Copy_S
  ((x.1.1, ()), ())) fun v => some (false, v.1, ()) else Option.bind (spec_LastStamp_S ((x.1.1, ()), ())) fun v => bif decide (v.1 > x.2.2.1) then Option.bind (spec_l4Copy_S ((x.1.1, ()), ())) fun v => some (false, v.1, ()) else Option.bind
  (spec_l28Tx_S ((x.2.1.1, x.2.1.2.1, x.2.1.2.2.1, x.2.1.2.2.2.1, x.2.1.2.2.2.2.1, x.2.1.2.2.2.2.2.1, ()), ())) fun v => Option.bind (spec_ReadsExist_S ((x.1.1, ()), (v.1, v.2.1, v.2.2.1, v.2.2.2.1, v.2.2.2.2.1, v.2.2.2.2.2.1, v.2.2.2.2.2.2.1,
  v.2.2.2.2.2.2.2.1, v.2.2.2.2.2.2.2.2.1, ()), ())) fun v_1 => bif !v_1.1 then Option.bind (spec_l4Copy_S ((x.1.1, ()), ())) fun v => some (false, v.1, ()) else Option.bind (spec_l9Fits_S ((x.1.1, ()), (v.1, v.2.1, v.2.2.1, v.2.2.2.1,
  v.2.2.2.2.1, v.2.2.2.2.2.1, v.2.2.2.2.2.2.1, v.2.2.2.2.2.2.2.1, v.2.2.2.2.2.2.2.2.1, ()), ())) fun v_2 => bif !v_2.1 then Option.bind (spec_l4Copy_S ((x.1.1, ()), ())) fun v => some (false, v.1, ()) else Option.bind (spec_l9Install_S
  ((x.1.1, ()), (v.1, v.2.1, v.2.2.1, v.2.2.2.1, v.2.2.2.2.1, v.2.2.2.2.2.1, v.2.2.2.2.2.2.1, v.2.2.2.2.2.2.2.1, v.2.2.2.2.2.2.2.2.1, ()), x.2.1.1, 0, x.2.1.2.2.1, ())) fun v => Option.bind (spec_IsValidStore_S ((v.2.2.2.2.2.2.2.1, ()), ()))
  fun v_3 => bif !v_3.1 then Option.bind (spec_l4Copy_S ((x.1.1, ()), ())) fun v => some (false, v.1, ()) else some (true, v.2.2.2.2.2.2.2.1, ())

noncomputable def spec_ApplyRecord_Ent : Ent := ⟨22, spec_ApplyRecord_ti, spec_ApplyRecord_to, spec_ApplyRecord_S⟩

theorem spec_ApplyRecord_HC : CfgOK Go.Proofs.Try.prog spec_ApplyRecord_C := ⟨⟨info_ok g_tisOK⟩, (all_cons spec_IsValidStore_OK (all_cons spec_l4Copy_OK (all_cons spec_IsValidRecord_OK (all_cons spec_LastStamp_OK (all_cons spec_l28Tx_OK (all_cons spec_ReadsExist_OK (all_cons spec_l9Fits_OK (all_cons spec_l9Install_OK all_nil)))))))), g_wide⟩

theorem spec_ApplyRecord_VC (x : den spec_ApplyRecord_ti.ty) : vcall spec_ApplyRecord_C Go.Proofs.Try.f22 spec_ApplyRecord_ti spec_ApplyRecord_to x = spec_ApplyRecord_S x := by kernel_rfl

theorem spec_ApplyRecord_OK : EntOK Go.Proofs.Try.prog spec_ApplyRecord_Ent := EntOK.of_vcall spec_ApplyRecord_HC Go.Proofs.Try.func22 (body_loops (by kernel_rfl) (loops_all 0 (by kernel_rfl) (fun k hk => absurd hk (Nat.not_lt_zero k)))) (by kernel_rfl) (by kernel_rfl) spec_ApplyRecord_VC

/-! slices.Clone[[]impl.Version,impl.Version] -/

noncomputable def slices_Clone_impl_Version_impl_Version_C : Cfg := { ti := g_tis, ents := [], ann := [], lent := 0 }

def slices_Clone_impl_Version_impl_Version_ti : Tmpl := Tmpl.mk (TmL.slot (Ty.slice YVersion) TmL.nil) TmH.nil

def slices_Clone_impl_Version_impl_Version_to : Tmpl := Tmpl.mk (TmL.own 0 TmL.nil) (TmH.lst false YVersion TmH.nil)

noncomputable def slices_Clone_impl_Version_impl_Version_S (x : List (Int × Int × Int × Int × Int × Unit) × Unit) : Option (List (Int × Int × Int × Int × Int × Unit) × Unit) :=
  bif List.length x.1 == 0 then both (some ([], ())) (if List.length x.1 ≤ 879609302220 then some (x.1, ()) else none) else if List.length x.1 ≤ 879609302220 then some (x.1, ()) else none

noncomputable def slices_Clone_impl_Version_impl_Version_Ent : Ent := ⟨103, slices_Clone_impl_Version_impl_Version_ti, slices_Clone_impl_Version_impl_Version_to, slices_Clone_impl_Version_impl_Version_S⟩

theorem slices_Clone_impl_Version_impl_Version_HC : CfgOK Go.Proofs.Try.prog slices_Clone_impl_Version_impl_Version_C := ⟨⟨info_ok g_tisOK⟩, all_nil, g_wide⟩

theorem slices_Clone_impl_Version_impl_Version_VC (x : den slices_Clone_impl_Version_impl_Version_ti.ty) : vcall slices_Clone_impl_Version_impl_Version_C Go.Proofs.Try.f103 slices_Clone_impl_Version_impl_Version_ti slices_Clone_impl_Version_impl_Version_to x = slices_Clone_impl_Version_impl_Version_S x := by kernel_rfl

theorem slices_Clone_impl_Version_impl_Version_OK : EntOK Go.Proofs.Try.prog slices_Clone_impl_Version_impl_Version_Ent := EntOK.of_vcall slices_Clone_impl_Version_impl_Version_HC Go.Proofs.Try.func103 (body_loops (by kernel_rfl) (loops_all 0 (by kernel_rfl) (fun k hk => absurd hk (Nat.not_lt_zero k)))) (by kernel_rfl) (by kernel_rfl) slices_Clone_impl_Version_impl_Version_VC

/-! (impl.Store).copied -/

noncomputable def impl_Store_copied_D3 (i : List (List (Int × Int × Int × Int × Int × Unit)) × Int × Unit) (v : Int × List (List (Int × Int × Int × Int × Int × Unit)) × Unit) (R : Type) (K : Int × List (List (Int × Int × Int × Int × Int × Unit)) × Unit ⊕ List (List (Int × Int × Int × Int × Int × Unit)) × Unit → Option R) : Option R :=
  bif decide (v.1 < i.2.1) then Option.bind (lAt i.1 v.1) fun v_1 => Option.bind (slices_Clone_impl_Version_impl_Version_S (v_1, ())) fun v_2 => if List.length (v.2.1 ++ [v_2.1]) ≤ 1466015503701 then K (Sum.inl (IntKind.wrap IntKind.i64 (v.1 +
  1), v.2.1 ++ [v_2.1], ())) else none else K (Sum.inr (v.2.1, ()))

theorem impl_Store_copied_D3_nat (i : List (List (Int × Int × Int × Int × Int × Unit)) × Int × Unit) (v : Int × List (List (Int × Int × Int × Int × Int × Unit)) × Unit) (R : Type) (K : Int × List (List (Int × Int × Int × Int × Int × Unit)) × Unit ⊕ List (List (Int × Int × Int × Int × Int × Unit)) × Unit → Option R) : impl_Store_copied_D3 i v R K = (impl_Store_copied_D3 i v _ some).bind K := nat_bif (nat_bind fun _ => nat_bind fun _ => nat_ite (nat_some)) (nat_some)

def impl_Store_copied_T3 : Tmpl := Tmpl.mk (TmL.junk (TmL.junk (TmL.ptr 0 0 0 (TmL.ptr 1 0 0 (TmL.junk (TmL.junk (TmL.junk (TmL.junk (TmL.slot (Ty.slice (Ty.slice (Ty.prod Ty.i (Ty.prod Ty.i (Ty.prod Ty.i (Ty.prod (Ty.int
  IntKind.i64) (Ty.prod Ty.i Ty.unit))))))) (TmL.slot Ty.i (TmL.slot Ty.i (TmL.junk (TmL.junk (TmL.junk (TmL.junk (TmL.junk (TmL.junk (TmL.junk (TmL.junk (TmL.junk (TmL.junk (TmL.junk (TmL.junk
  TmL.nil))))))))))))))))))))))) (TmH.cells 1 (TmL.const AV.nils TmL.nil) (TmH.cells 1 (TmL.own 2 TmL.nil) (TmH.tree false 0 (Ty.slice (Ty.prod Ty.i (Ty.prod Ty.i (Ty.prod Ty.i (Ty.prod (Ty.int
  IntKind.i64) (Ty.prod Ty.i Ty.unit)))))) TmH.nil)))

def impl_Store_copied_X3_0 (i : List (List (Int × Int × Int × Int × Int × Unit)) × Int × Unit) (p : List (List (Int × Int × Int × Int × Int × Unit)) × Unit) : St :=
  St.mk [AV.junk, AV.junk, AV.ptr 0 none 0 0, AV.ptr 1 none 0 0, AV.junk, AV.junk, AV.junk, AV.junk, AV.junk, AV.junk, AV.junk, AV.junk, AV.junk, AV.junk, AV.junk, AV.junk, AV.junk, AV.junk, AV.junk, AV.junk, AV.junk, AV.junk, AV.junk] [some
  (Cont.cells 1 [[AV.nils]]), some (Cont.cells 1 [[AV.own 2 none none]]), some (Cont.tree false 0 (Ty.slice (Ty.prod Ty.i (Ty.prod Ty.i (Ty.prod Ty.i (Ty.prod Ty.i (Ty.prod
  Ty.i Ty.unit)))))) p.1 none)]

noncomputable def impl_Store_copied_E3 (i : List (List (Int × Int × Int × Int × Int × Unit)) × Int × Unit) (p : List (List (Int × Int × Int × Int × Int × Unit)) × Unit) (R : Type) (K : Ex → St → Option R) : Option R := K (Ex.exit 0) (impl_Store_copied_X3_0 i p)

noncomputable def impl_Store_copied_K3 (i : List (List (Int × Int × Int × Int × Int × Unit)) × Int × Unit) (p : List (List (Int × Int × Int × Int × Int × Unit)) × Unit) : Ex × St := ((Ex.exit 0), impl_Store_copied_X3_0 i p)

def impl_Store_copied_M3 (i : List (List (Int × Int × Int × Int × Int × Unit)) × Int × Unit) (v : Int × List (List (Int × Int × Int × Int × Int × Unit)) × Unit) : den impl_Store_copied_T3.ty := (i.1, i.2.1, v.1, v.2.1, ())

def impl_Store_copied_P3 (x : den impl_Store_copied_T3.ty) : (List (List (Int × Int × Int × Int × Int × Unit)) × Int × Unit) × (Int × List (List (Int × Int × Int × Int × Int × Unit)) × Unit) := ((x.1, x.2.1, ()), (x.2.2.1, x.2.2.2.1, ()))

noncomputable def impl_Store_copied_F3 : LoopFn := fun s R K => Tmpl.readS impl_Store_copied_T3 0 s fun x => (iter (fun v => impl_Store_copied_D3 (impl_Store_copied_P3 x).1 v _ some) (impl_Store_copied_P3 x).2).bind fun p => impl_Store_copied_E3 (impl_Store_copied_P3 x).1 p R K

noncomputable def impl_Store_copied_C : Cfg := { ti := g_tis, ents := [slices_Clone_impl_Version_impl_Version_Ent], ann := [(3, impl_Store_copied_F3)], lent := 0 }

def impl_Store_copied_ti : Tmpl := Tmpl.mk (TmL.slot YStore TmL.nil) TmH.nil

def impl_Store_copied_to : Tmpl := Tmpl.mk (TmL.agg (TmL.own 0 TmL.nil) TmL.nil) (TmH.tree false 0 (Ty.slice YVersion)
  TmH.nil)

noncomputable def impl_Store_copied_S (x : (List (List (Int × Int × Int × Int × Int × Unit)) × Unit) × Unit) : Option (List (List (Int × Int × Int × Int × Int × Unit)) × Unit) :=
  Option.bind (iter (fun v => impl_Store_copied_D3 (x.1.1, (↑(List.length x.1.1) : Int), ()) v (Int × List (List (Int × Int × Int × Int × Int × Unit)) × Unit ⊕ List (List (Int × Int × Int × Int × Int × Unit)) × Unit) some) (0, [], ())) fun p
  => some (p.1, ())

noncomputable def impl_Store_copied_Ent : Ent := ⟨65, impl_Store_copied_ti, impl_Store_copied_to, impl_Store_copied_S⟩

theorem impl_Store_copied_HC : CfgOK Go.Proofs.Try.prog impl_Store_copied_C := ⟨⟨info_ok g_tisOK⟩, (all_cons slices_Clone_impl_Version_impl_Version_OK all_nil), g_wide⟩

theorem impl_Store_copied_lk3 : ∀ F, ((impl_Store_copied_C).ann.find? fun x => x.1 == firstId ((loopsOf (codeOf Go.Proofs.Try.f65)).getD 0 .skip)).map (·.2) = some F → LoopOK Go.Proofs.Try.prog impl_Store_copied_C.lent ((loopsOf (codeOf Go.Proofs.Try.f65)).getD 0 .skip) F := by
  refine lookup_ok (show ((impl_Store_copied_C).ann.find? fun x => x.1 == firstId ((loopsOf (codeOf Go.Proofs.Try.f65)).getD 0 .skip)).map (·.2) = some impl_Store_copied_F3 from by kernel_rfl) ?_
  exact loop_ok impl_Store_copied_HC (loops_all 0 (by kernel_rfl) (fun k hk => absurd hk (Nat.not_lt_zero k))) impl_Store_copied_T3 [2, 3] impl_Store_copied_M3 impl_Store_copied_P3 (fun x => rfl) impl_Store_copied_D3 impl_Store_copied_D3_nat impl_Store_copied_E3 impl_Store_copied_K3 (fun i p R K => rfl) (fun i v => by kernel_rfl)

theorem impl_Store_copied_VC (x : den impl_Store_copied_ti.ty) : vcall impl_Store_copied_C Go.Proofs.Try.f65 impl_Store_copied_ti impl_Store_copied_to x = impl_Store_copied_S x := by kernel_rfl

theorem impl_Store_copied_OK : EntOK Go.Proofs.Try.prog impl_Store_copied_Ent := EntOK.of_vcall impl_Store_copied_HC Go.Proofs.Try.func65 (body_loops (by kernel_rfl) (loops_all 1 (by kernel_rfl) (fun k hk => match k, hk with | 0, _ => impl_Store_copied_lk3))) (by kernel_rfl) (by kernel_rfl) impl_Store_copied_VC

/-! impl.IsStamp -/

noncomputable def impl_IsStamp_C : Cfg := { ti := g_tis, ents := [impl_in_Ent], ann := [], lent := 0 }

def impl_IsStamp_ti : Tmpl := Tmpl.mk (TmL.slot Ty.i TmL.nil) TmH.nil

def impl_IsStamp_to : Tmpl := Tmpl.mk (TmL.slot Ty.bool TmL.nil) TmH.nil

noncomputable def impl_IsStamp_S (x : Int × Unit) : Option (Bool × Unit) :=
  Option.bind (impl_in_S (x.1, 1, 999, ())) fun v => some (v.1, ())

noncomputable def impl_IsStamp_Ent : Ent := ⟨107, impl_IsStamp_ti, impl_IsStamp_to, impl_IsStamp_S⟩

theorem impl_IsStamp_HC : CfgOK Go.Proofs.Try.prog impl_IsStamp_C := ⟨⟨info_ok g_tisOK⟩, (all_cons impl_in_OK all_nil), g_wide⟩

theorem impl_IsStamp_VC (x : den impl_IsStamp_ti.ty) : vcall impl_IsStamp_C Go.Proofs.Try.f107 impl_IsStamp_ti impl_IsStamp_to x = impl_IsStamp_S x := by kernel_rfl

theorem impl_IsStamp_OK : EntOK Go.Proofs.Try.prog impl_IsStamp_Ent := EntOK.of_vcall impl_IsStamp_HC Go.Proofs.Try.func107 (body_loops (by kernel_rfl) (loops_all 0 (by kernel_rfl) (fun k hk => absurd hk (Nat.not_lt_zero k)))) (by kernel_rfl) (by kernel_rfl) impl_IsStamp_VC

/-! cmp.isNaN[int] -/

noncomputable def cmp_isNaN_int_C : Cfg := { ti := g_tis, ents := [], ann := [], lent := 0 }

def cmp_isNaN_int_ti : Tmpl := Tmpl.mk (TmL.slot Ty.i TmL.nil) TmH.nil

def cmp_isNaN_int_to : Tmpl := Tmpl.mk (TmL.slot Ty.bool TmL.nil) TmH.nil

noncomputable def cmp_isNaN_int_S (x : Int × Unit) : Option (Bool × Unit) :=
  some (x.1 != x.1, ())

noncomputable def cmp_isNaN_int_Ent : Ent := ⟨160, cmp_isNaN_int_ti, cmp_isNaN_int_to, cmp_isNaN_int_S⟩

theorem cmp_isNaN_int_HC : CfgOK Go.Proofs.Try.prog cmp_isNaN_int_C := ⟨⟨info_ok g_tisOK⟩, all_nil, g_wide⟩

theorem cmp_isNaN_int_VC (x : den cmp_isNaN_int_ti.ty) : vcall cmp_isNaN_int_C Go.Proofs.Try.f160 cmp_isNaN_int_ti cmp_isNaN_int_to x = cmp_isNaN_int_S x := by kernel_rfl

theorem cmp_isNaN_int_OK : EntOK Go.Proofs.Try.prog cmp_isNaN_int_Ent := EntOK.of_vcall cmp_isNaN_int_HC Go.Proofs.Try.func160 (body_loops (by kernel_rfl) (loops_all 0 (by kernel_rfl) (fun k hk => absurd hk (Nat.not_lt_zero k)))) (by kernel_rfl) (by kernel_rfl) cmp_isNaN_int_VC

/-! cmp.Compare[int] -/

noncomputable def cmp_Compare_int_C : Cfg := { ti := g_tis, ents := [cmp_isNaN_int_Ent], ann := [], lent := 0 }

def cmp_Compare_int_ti : Tmpl := Tmpl.mk (TmL.slot Ty.i (TmL.slot Ty.i TmL.nil)) TmH.nil

def cmp_Compare_int_to : Tmpl := Tmpl.mk (TmL.slot Ty.i TmL.nil) TmH.nil

noncomputable def cmp_Compare_int_S (x : Int × Int × Unit) : Option (Int × Unit) :=
  Option.bind (cmp_isNaN_int_S (x.1, ())) fun v => Option.bind (cmp_isNaN_int_S (x.2.1, ())) fun v_1 => bif v.1 then bif v_1.1 then some (0, ()) else some (-1, ()) else bif v_1.1 then some (1, ()) else bif decide (x.1 < x.2.1) then some (-1,
  ()) else bif decide (x.1 > x.2.1) then some (1, ()) else some (0, ())

noncomputable def cmp_Compare_int_Ent : Ent := ⟨156, cmp_Compare_int_ti, cmp_Compare_int_to, cmp_Compare_int_S⟩

theorem cmp_Compare_int_HC : CfgOK Go.Proofs.Try.prog cmp_Compare_int_C := ⟨⟨info_ok g_tisOK⟩, (all_cons cmp_isNaN_int_OK all_nil), g_wide⟩

theorem cmp_Compare_int_VC (x : den cmp_Compare_int_ti.ty) : vcall cmp_Compare_int_C Go.Proofs.Try.f156 cmp_Compare_int_ti cmp_Compare_int_to x = cmp_Compare_int_S x := by kernel_rfl

theorem cmp_Compare_int_OK : EntOK Go.Proofs.Try.prog cmp_Compare_int_Ent := EntOK.of_vcall cmp_Compare_int_HC Go.Proofs.Try.func156 (body_loops (by kernel_rfl) (loops_all 0 (by kernel_rfl) (fun k hk => absurd hk (Nat.not_lt_zero k)))) (by kernel_rfl) (by kernel_rfl) cmp_Compare_int_VC

/-! cmp.Or[int] -/

noncomputable def cmp_Or_int_D3 (i : Int × List Int × Int × Unit) (v : Int × Unit) (R : Type) (K : Int × Unit ⊕ Int × Unit ⊕ Unit → Option R) : Option R :=
  bif decide (v.1 < i.2.2.1) then Option.bind (lAt i.2.1 v.1) fun v_1 => bif v_1 != i.1 then K (Sum.inr (Sum.inl (v_1, ()))) else K (Sum.inl (IntKind.wrap IntKind.i64 (v.1 + 1), ())) else K (Sum.inr (Sum.inr ()))

theorem cmp_Or_int_D3_nat (i : Int × List Int × Int × Unit) (v : Int × Unit) (R : Type) (K : Int × Unit ⊕ Int × Unit ⊕ Unit → Option R) : cmp_Or_int_D3 i v R K = (cmp_Or_int_D3 i v _ some).bind K := nat_bif (nat_bind fun _ => nat_bif (nat_some) (nat_some)) (nat_some)

def cmp_Or_int_T3 : Tmpl := Tmpl.mk (TmL.junk (TmL.junk (TmL.junk (TmL.slot Ty.i (TmL.junk (TmL.junk (TmL.slot (Ty.slice Ty.i) (TmL.slot Ty.i (TmL.slot Ty.i (TmL.junk (TmL.junk (TmL.junk (TmL.junk
  (TmL.junk (TmL.junk (TmL.junk (TmL.junk (TmL.junk TmL.nil)))))))))))))))))) TmH.nil

def cmp_Or_int_X3_0 (i : Int × List Int × Int × Unit) (p : Int × Unit) : St :=
  St.mk [AV.junk, AV.junk, AV.pv Ty.i p.1, AV.pv Ty.i i.1, AV.junk, AV.junk, AV.junk, AV.junk, AV.junk, AV.junk, AV.junk, AV.junk, AV.junk, AV.junk, AV.junk, AV.junk, AV.junk, AV.junk] []

def cmp_Or_int_X3_1 (i : Int × List Int × Int × Unit) (p : Unit) : St :=
  St.mk [AV.junk, AV.junk, AV.junk, AV.pv Ty.i i.1, AV.junk, AV.junk, AV.junk, AV.junk, AV.junk, AV.junk, AV.junk, AV.junk, AV.junk, AV.junk, AV.junk, AV.junk, AV.junk, AV.junk] []

noncomputable def cmp_Or_int_E3 (i : Int × List Int × Int × Unit) (p : Int × Unit ⊕ Unit) (R : Type) (K : Ex → St → Option R) : Option R := sumC p (fun p => K (Ex.ret) (cmp_Or_int_X3_0 i p)) (fun p => K (Ex.exit 0) (cmp_Or_int_X3_1 i p))

noncomputable def cmp_Or_int_K3 (i : Int × List Int × Int × Unit) (p : Int × Unit ⊕ Unit) : Ex × St := sumC p (fun p => ((Ex.ret), cmp_Or_int_X3_0 i p)) (fun p => ((Ex.exit 0), cmp_Or_int_X3_1 i p))

def cmp_Or_int_M3 (i : Int × List Int × Int × Unit) (v : Int × Unit) : den cmp_Or_int_T3.ty := (i.1, i.2.1, i.2.2.1, v.1, ())

def cmp_Or_int_P3 (x : den cmp_Or_int_T3.ty) : (Int × List Int × Int × Unit) × (Int × Unit) := ((x.1, x.2.1, x.2.2.1, ()), (x.2.2.2.1, ()))

noncomputable def cmp_Or_int_F3 : LoopFn := fun s R K => Tmpl.readS cmp_Or_int_T3 0 s fun x => (iter (fun v => cmp_Or_int_D3 (cmp_Or_int_P3 x).1 v _ some) (cmp_Or_int_P3 x).2).bind fun p => cmp_Or_int_E3 (cmp_Or_int_P3 x).1 p R K

noncomputable def cmp_Or_int_C : Cfg := { ti := g_tis, ents := [], ann := [(3, cmp_Or_int_F3)], lent := 0 }

def cmp_Or_int_ti : Tmpl := Tmpl.mk (TmL.slot (Ty.slice Ty.i) TmL.nil) TmH.nil

def cmp_Or_int_to : Tmpl := Tmpl.mk (TmL.slot Ty.i TmL.nil) TmH.nil

noncomputable def cmp_Or_int_S (x : List Int × Unit) : Option (Int × Unit) :=
  Option.bind (iter (fun v => cmp_Or_int_D3 (0, x.1, (↑(List.length x.1) : Int), ()) v (Int × Unit ⊕ Int × Unit ⊕ Unit) some) (0, ())) fun p => sumC p (fun p => some (p.1, ())) fun p => some (0, ())

noncomputable def cmp_Or_int_Ent : Ent := ⟨155, cmp_Or_int_ti, cmp_Or_int_to, cmp_Or_int_S⟩

theorem cmp_Or_int_HC : CfgOK Go.Proofs.Try.prog cmp_Or_int_C := ⟨⟨info_ok g_tisOK⟩, all_nil, g_wide⟩

theorem cmp_Or_int_lk3 : ∀ F, ((cmp_Or_int_C).ann.find? fun x => x.1 == firstId ((loopsOf (codeOf Go.Proofs.Try.f155)).getD 0 .skip)).map (·.2) = some F → LoopOK Go.Proofs.Try.prog cmp_Or_int_C.lent ((loopsOf (codeOf Go.Proofs.Try.f155)).getD 0 .skip) F := by
  refine lookup_ok (show ((cmp_Or_int_C).ann.find? fun x => x.1 == firstId ((loopsOf (codeOf Go.Proofs.Try.f155)).getD 0 .skip)).map (·.2) = some cmp_Or_int_F3 from by kernel_rfl) ?_
  exact loop_ok cmp_Or_int_HC (loops_all 0 (by kernel_rfl) (fun k hk => absurd hk (Nat.not_lt_zero k))) cmp_Or_int_T3 [2, 3] cmp_Or_int_M3 cmp_Or_int_P3 (fun x => rfl) cmp_Or_int_D3 cmp_Or_int_D3_nat cmp_Or_int_E3 cmp_Or_int_K3 (fun i p R K => by rcases p with p | p <;> rfl) (fun i v => by kernel_rfl)

theorem cmp_Or_int_VC (x : den cmp_Or_int_ti.ty) : vcall cmp_Or_int_C Go.Proofs.Try.f155 cmp_Or_int_ti cmp_Or_int_to x = cmp_Or_int_S x := by kernel_rfl

theorem cmp_Or_int_OK : EntOK Go.Proofs.Try.prog cmp_Or_int_Ent := EntOK.of_vcall cmp_Or_int_HC Go.Proofs.Try.func155 (body_loops (by kernel_rfl) (loops_all 1 (by kernel_rfl) (fun k hk => match k, hk with | 0, _ => cmp_Or_int_lk3))) (by kernel_rfl) (by kernel_rfl) cmp_Or_int_VC

/-! impl.compareMarks -/

noncomputable def impl_compareMarks_C : Cfg := { ti := g_tis, ents := [cmp_Compare_int_Ent, cmp_Or_int_Ent], ann := [], lent := 0 }

def impl_compareMarks_ti : Tmpl := Tmpl.mk (TmL.slot YReadMark (TmL.slot YReadMark TmL.nil)) TmH.nil

def impl_compareMarks_to : Tmpl := Tmpl.mk (TmL.slot Ty.i TmL.nil) TmH.nil

noncomputable def impl_compareMarks_S (x : (Int × Int × Unit) × (Int × Int × Unit) × Unit) : Option (Int × Unit) :=
  Option.bind (cmp_Compare_int_S (x.1.1, x.2.1.1, ())) fun v => Option.bind (cmp_Compare_int_S (x.1.2.1, x.2.1.2.1, ())) fun v_1 => Option.bind (cmp_Or_int_S ([v.1, v_1.1], ())) fun v => some (v.1, ())

noncomputable def impl_compareMarks_Ent : Ent := ⟨143, impl_compareMarks_ti, impl_compareMarks_to, impl_compareMarks_S⟩

theorem impl_compareMarks_HC : CfgOK Go.Proofs.Try.prog impl_compareMarks_C := ⟨⟨info_ok g_tisOK⟩, (all_cons cmp_Compare_int_OK (all_cons cmp_Or_int_OK all_nil)), g_wide⟩

theorem impl_compareMarks_VC (x : den impl_compareMarks_ti.ty) : vcall impl_compareMarks_C Go.Proofs.Try.f143 impl_compareMarks_ti impl_compareMarks_to x = impl_compareMarks_S x := by kernel_rfl

theorem impl_compareMarks_OK : EntOK Go.Proofs.Try.prog impl_compareMarks_Ent := EntOK.of_vcall impl_compareMarks_HC Go.Proofs.Try.func143 (body_loops (by kernel_rfl) (loops_all 0 (by kernel_rfl) (fun k hk => absurd hk (Nat.not_lt_zero k)))) (by kernel_rfl) (by kernel_rfl) impl_compareMarks_VC

/-! impl.areReads -/

noncomputable def impl_areReads_D2 (i : List (Int × Int × Unit) × List (Int × Int × Unit) × Int × Unit) (v : Int × Unit) (R : Type) (K : Int × Unit ⊕ Int × Int × Unit ⊕ Int × Int × Unit ⊕ Int × Int × Unit ⊕ Unit → Option R) : Option R :=
  bif decide (v.1 < i.2.2.1) then Option.bind (lAt i.2.1 v.1) fun v_1 => Option.bind (impl_isKey_S (v_1.1, ())) fun v_2 => bif !v_2.1 then K (Sum.inr (Sum.inl (v_1.1, v_1.2.1, ()))) else Option.bind (impl_in_S (v_1.2.1, 0, 999, ())) fun v_3 =>
  bif !v_3.1 then K (Sum.inr (Sum.inr (Sum.inl (v_1.1, v_1.2.1, ())))) else bif decide (v.1 > 0) then Option.bind (lAt i.1 (IntKind.wrap IntKind.i64 (v.1 - 1))) fun v_4 => Option.bind (impl_compareMarks_S ((v_4.1, v_4.2.1, ()), (v_1.1,
  v_1.2.1, ()), ())) fun v_5 => bif decide (v_5.1 ≥ 0) then K (Sum.inr (Sum.inr (Sum.inr (Sum.inl (v_1.1, v_1.2.1, ()))))) else K (Sum.inl (IntKind.wrap IntKind.i64 (v.1 + 1), ())) else K (Sum.inl (IntKind.wrap IntKind.i64 (v.1 + 1), ())) else
  K (Sum.inr (Sum.inr (Sum.inr (Sum.inr ()))))

theorem impl_areReads_D2_nat (i : List (Int × Int × Unit) × List (Int × Int × Unit) × Int × Unit) (v : Int × Unit) (R : Type) (K : Int × Unit ⊕ Int × Int × Unit ⊕ Int × Int × Unit ⊕ Int × Int × Unit ⊕ Unit → Option R) : impl_areReads_D2 i v R K = (impl_areReads_D2 i v _ some).bind K := nat_bif (nat_bind fun _ => nat_bind fun _ => nat_bif (nat_some) (nat_bind fun _ => nat_bif (nat_some) (nat_bif (nat_bind fun _ => nat_bind fun _ => nat_bif (nat_some) (nat_some)) (nat_some)))) (nat_some)

def impl_areReads_T2 : Tmpl := Tmpl.mk (TmL.slot (Ty.slice YReadMark) (TmL.junk (TmL.junk (TmL.junk (TmL.junk (TmL.slot (Ty.slice YReadMark) (TmL.slot
  Ty.i (TmL.slot Ty.i (TmL.junk (TmL.junk (TmL.junk (TmL.junk (TmL.junk (TmL.junk (TmL.junk (TmL.junk (TmL.junk (TmL.junk (TmL.junk (TmL.junk (TmL.junk (TmL.junk (TmL.junk (TmL.junk (TmL.junk (TmL.junk (TmL.junk
  (TmL.junk (TmL.junk (TmL.junk (TmL.junk (TmL.junk (TmL.junk (TmL.junk (TmL.junk (TmL.junk (TmL.junk (TmL.junk (TmL.junk (TmL.junk TmL.nil)))))))))))))))))))))))))))))))))))))))) TmH.nil

def impl_areReads_X2_0 (i : List (Int × Int × Unit) × List (Int × Int × Unit) × Int × Unit) (p : Int × Int × Unit) : St :=
  St.mk [AV.pv (Ty.slice YReadMark) i.1, AV.junk, AV.pv Ty.bool false, AV.junk, AV.junk, AV.junk, AV.junk, AV.junk, AV.junk, AV.junk, AV.junk, AV.junk, AV.junk, AV.junk, AV.junk,
  AV.junk, AV.junk, AV.junk, AV.junk, AV.junk, AV.junk, AV.junk, AV.junk, AV.junk, AV.junk, AV.junk, AV.junk, AV.junk, AV.junk, AV.junk, AV.junk, AV.junk, AV.junk, AV.junk, AV.junk, AV.junk, AV.junk, AV.junk, AV.junk, AV.junk] [some
  (Cont.cells 2 [[AV.pv Ty.i p.1, AV.pv Ty.i p.2.1]])]

def impl_areReads_X2_1 (i : List (Int × Int × Unit) × List (Int × Int × Unit) × Int × Unit) (p : Int × Int × Unit) : St :=
  St.mk [AV.pv (Ty.slice YReadMark) i.1, AV.junk, AV.pv Ty.bool false, AV.junk, AV.junk, AV.junk, AV.junk, AV.junk, AV.junk, AV.junk, AV.junk, AV.junk, AV.junk, AV.junk, AV.junk,
  AV.junk, AV.junk, AV.junk, AV.junk, AV.junk, AV.junk, AV.junk, AV.junk, AV.junk, AV.junk, AV.junk, AV.junk, AV.junk, AV.junk, AV.junk, AV.junk, AV.junk, AV.junk, AV.junk, AV.junk, AV.junk, AV.junk, AV.junk, AV.junk, AV.junk] [some
  (Cont.cells 2 [[AV.pv Ty.i p.1, AV.pv Ty.i p.2.1]])]

def impl_areReads_X2_2 (i : List (Int × Int × Unit) × List (Int × Int × Unit) × Int × Unit) (p : Int × Int × Unit) : St :=
  St.mk [AV.pv (Ty.slice YReadMark) i.1, AV.junk, AV.pv Ty.bool false, AV.junk, AV.junk, AV.junk, AV.junk, AV.junk, AV.junk, AV.junk, AV.junk, AV.junk, AV.junk, AV.junk, AV.junk,
  AV.junk, AV.junk, AV.junk, AV.junk, AV.junk, AV.junk, AV.junk, AV.junk, AV.junk, AV.junk, AV.junk, AV.junk, AV.junk, AV.junk, AV.junk, AV.junk, AV.junk, AV.junk, AV.junk, AV.junk, AV.junk, AV.junk, AV.junk, AV.junk, AV.junk] [some
  (Cont.cells 2 [[AV.pv Ty.i p.1, AV.pv Ty.i p.2.1]])]

def impl_areReads_X2_3 (i : List (Int × Int × Unit) × List (Int × Int × Unit) × Int × Unit) (p : Unit) : St :=
  St.mk [AV.pv (Ty.slice YReadMark) i.1, AV.junk, AV.junk, AV.junk, AV.junk, AV.junk, AV.junk, AV.junk, AV.junk, AV.junk, AV.junk, AV.junk, AV.junk, AV.junk, AV.junk, AV.junk,
  AV.junk, AV.junk, AV.junk, AV.junk, AV.junk, AV.junk, AV.junk, AV.junk, AV.junk, AV.junk, AV.junk, AV.junk, AV.junk, AV.junk, AV.junk, AV.junk, AV.junk, AV.junk, AV.junk, AV.junk, AV.junk, AV.junk, AV.junk, AV.junk] []

noncomputable def impl_areReads_E2 (i : List (Int × Int × Unit) × List (Int × Int × Unit) × Int × Unit) (p : Int × Int × Unit ⊕ Int × Int × Unit ⊕ Int × Int × Unit ⊕ Unit) (R : Type) (K : Ex → St → Option R) : Option R := sumC p (fun p => K (Ex.ret) (impl_areReads_X2_0 i p)) (fun p => sumC p (fun p => K (Ex.ret) (impl_areReads_X2_1 i p)) (fun p => sumC p (fun p => K (Ex.ret) (impl_areReads_X2_2 i p)) (fun p => K (Ex.exit 0) (impl_areReads_X2_3 i p))))

noncomputable def impl_areReads_K2 (i : List (Int × Int × Unit) × List (Int × Int × Unit) × Int × Unit) (p : Int × Int × Unit ⊕ Int × Int × Unit ⊕ Int × Int × Unit ⊕ Unit) : Ex × St := sumC p (fun p => ((Ex.ret), impl_areReads_X2_0 i p)) (fun p => sumC p (fun p => ((Ex.ret), impl_areReads_X2_1 i p)) (fun p => sumC p (fun p => ((Ex.ret), impl_areReads_X2_2 i p)) (fun p => ((Ex.exit 0), impl_areReads_X2_3 i p))))

def impl_areReads_M2 (i : List (Int × Int × Unit) × List (Int × Int × Unit) × Int × Unit) (v : Int × Unit) : den impl_areReads_T2.ty := (i.1, i.2.1, i.2.2.1, v.1, ())

def impl_areReads_P2 (x : den impl_areReads_T2.ty) : (List (Int × Int × Unit) × List (Int × Int × Unit) × Int × Unit) × (Int × Unit) := ((x.1, x.2.1, x.2.2.1, ()), (x.2.2.2.1, ()))

noncomputable def impl_areReads_F2 : LoopFn := fun s R K => Tmpl.readS impl_areReads_T2 0 s fun x => (iter (fun v => impl_areReads_D2 (impl_areReads_P2 x).1 v _ some) (impl_areReads_P2 x).2).bind fun p => impl_areReads_E2 (impl_areReads_P2 x).1 p R K

noncomputable def impl_areReads_C : Cfg := { ti := g_tis, ents := [impl_isKey_Ent, impl_in_Ent, impl_compareMarks_Ent], ann := [(2, impl_areReads_F2)], lent := 0 }

def impl_areReads_ti : Tmpl := Tmpl.mk (TmL.slot (Ty.slice YReadMark) TmL.nil) TmH.nil

def impl_areReads_to : Tmpl := Tmpl.mk (TmL.slot Ty.bool TmL.nil) TmH.nil

noncomputable def impl_areReads_S (x : List (Int × Int × Unit) × Unit) : Option (Bool × Unit) :=
  Option.bind (iter (fun v => impl_areReads_D2 (x.1, x.1, (↑(List.length x.1) : Int), ()) v (Int × Unit ⊕ Int × Int × Unit ⊕ Int × Int × Unit ⊕ Int × Int × Unit ⊕ Unit) some) (0, ())) fun p => sumC p (fun p => some (false, ())) fun p => sumC p
  (fun p => some (false, ())) fun p => sumC p (fun p => some (false, ())) fun p => some (decide ((↑(List.length x.1) : Int) ≤ 60), ())

noncomputable def impl_areReads_Ent : Ent := ⟨108, impl_areReads_ti, impl_areReads_to, impl_areReads_S⟩

theorem impl_areReads_HC : CfgOK Go.Proofs.Try.prog impl_areReads_C := ⟨⟨info_ok g_tisOK⟩, (all_cons impl_isKey_OK (all_cons impl_in_OK (all_cons impl_compareMarks_OK all_nil))), g_wide⟩

theorem impl_areReads_lk2 : ∀ F, ((impl_areReads_C).ann.find? fun x => x.1 == firstId ((loopsOf (codeOf Go.Proofs.Try.f108)).getD 0 .skip)).map (·.2) = some F → LoopOK Go.Proofs.Try.prog impl_areReads_C.lent ((loopsOf (codeOf Go.Proofs.Try.f108)).getD 0 .skip) F := by
  refine lookup_ok (show ((impl_areReads_C).ann.find? fun x => x.1 == firstId ((loopsOf (codeOf Go.Proofs.Try.f108)).getD 0 .skip)).map (·.2) = some impl_areReads_F2 from by kernel_rfl) ?_
  exact loop_ok impl_areReads_HC (loops_all 0 (by kernel_rfl) (fun k hk => absurd hk (Nat.not_lt_zero k))) impl_areReads_T2 [0, 2] impl_areReads_M2 impl_areReads_P2 (fun x => rfl) impl_areReads_D2 impl_areReads_D2_nat impl_areReads_E2 impl_areReads_K2 (fun i p R K => by rcases p with p | p | p | p <;> rfl) (fun i v => by kernel_rfl)

theorem impl_areReads_VC (x : den impl_areReads_ti.ty) : vcall impl_areReads_C Go.Proofs.Try.f108 impl_areReads_ti impl_areReads_to x = impl_areReads_S x := by kernel_rfl

theorem impl_areReads_OK : EntOK Go.Proofs.Try.prog impl_areReads_Ent := EntOK.of_vcall impl_areReads_HC Go.Proofs.Try.func108 (body_loops (by kernel_rfl) (loops_all 1 (by kernel_rfl) (fun k hk => match k, hk with | 0, _ => impl_areReads_lk2))) (by kernel_rfl) (by kernel_rfl) impl_areReads_VC

/-! impl.areWrites -/

noncomputable def impl_areWrites_D2 (i : List (Int × Int × Unit) × List (Int × Int × Unit) × Int × Unit) (v : Int × Unit) (R : Type) (K : Int × Unit ⊕ Int × Int × Unit ⊕ Int × Int × Unit ⊕ Int × Int × Unit ⊕ Unit → Option R) : Option R :=
  bif decide (v.1 < i.2.2.1) then Option.bind (lAt i.2.1 v.1) fun v_1 => Option.bind (impl_isKey_S (v_1.1, ())) fun v_2 => bif !v_2.1 then K (Sum.inr (Sum.inl (v_1.1, v_1.2.1, ()))) else Option.bind (impl_isValue_S (v_1.2.1, ())) fun v_3 =>
  bif !v_3.1 then K (Sum.inr (Sum.inr (Sum.inl (v_1.1, v_1.2.1, ())))) else bif decide (v.1 > 0) then Option.bind (lAt i.1 (IntKind.wrap IntKind.i64 (v.1 - 1))) fun v_4 => bif decide (v_4.1 ≥ v_1.1) then K (Sum.inr (Sum.inr (Sum.inr (Sum.inl
  (v_1.1, v_1.2.1, ()))))) else K (Sum.inl (IntKind.wrap IntKind.i64 (v.1 + 1), ())) else K (Sum.inl (IntKind.wrap IntKind.i64 (v.1 + 1), ())) else K (Sum.inr (Sum.inr (Sum.inr (Sum.inr ()))))

theorem impl_areWrites_D2_nat (i : List (Int × Int × Unit) × List (Int × Int × Unit) × Int × Unit) (v : Int × Unit) (R : Type) (K : Int × Unit ⊕ Int × Int × Unit ⊕ Int × Int × Unit ⊕ Int × Int × Unit ⊕ Unit → Option R) : impl_areWrites_D2 i v R K = (impl_areWrites_D2 i v _ some).bind K := nat_bif (nat_bind fun _ => nat_bind fun _ => nat_bif (nat_some) (nat_bind fun _ => nat_bif (nat_some) (nat_bif (nat_bind fun _ => nat_bif (nat_some) (nat_some)) (nat_some)))) (nat_some)

def impl_areWrites_T2 : Tmpl := Tmpl.mk (TmL.slot (Ty.slice YReadMark) (TmL.junk (TmL.junk (TmL.junk (TmL.junk (TmL.slot (Ty.slice YReadMark) (TmL.slot
  Ty.i (TmL.slot Ty.i (TmL.junk (TmL.junk (TmL.junk (TmL.junk (TmL.junk (TmL.junk (TmL.junk (TmL.junk (TmL.junk (TmL.junk (TmL.junk (TmL.junk (TmL.junk (TmL.junk (TmL.junk (TmL.junk (TmL.junk (TmL.junk (TmL.junk
  (TmL.junk (TmL.junk (TmL.junk (TmL.junk (TmL.junk (TmL.junk (TmL.junk (TmL.junk (TmL.junk (TmL.junk (TmL.junk TmL.nil)))))))))))))))))))))))))))))))))))))) TmH.nil

def impl_areWrites_X2_0 (i : List (Int × Int × Unit) × List (Int × Int × Unit) × Int × Unit) (p : Int × Int × Unit) : St :=
  St.mk [AV.junk, AV.junk, AV.pv Ty.bool false, AV.junk, AV.junk, AV.junk, AV.junk, AV.junk, AV.junk, AV.junk, AV.junk, AV.junk, AV.junk, AV.junk, AV.junk, AV.junk, AV.junk, AV.junk, AV.junk, AV.junk, AV.junk, AV.junk, AV.junk, AV.junk,
  AV.junk, AV.junk, AV.junk, AV.junk, AV.junk, AV.junk, AV.junk, AV.junk, AV.junk, AV.junk, AV.junk, AV.junk, AV.junk, AV.junk] [some (Cont.cells 2 [[AV.pv Ty.i p.1, AV.pv Ty.i p.2.1]])]

def impl_areWrites_X2_1 (i : List (Int × Int × Unit) × List (Int × Int × Unit) × Int × Unit) (p : Int × Int × Unit) : St :=
  St.mk [AV.junk, AV.junk, AV.pv Ty.bool false, AV.junk, AV.junk, AV.junk, AV.junk, AV.junk, AV.junk, AV.junk, AV.junk, AV.junk, AV.junk, AV.junk, AV.junk, AV.junk, AV.junk, AV.junk, AV.junk, AV.junk, AV.junk, AV.junk, AV.junk, AV.junk,
  AV.junk, AV.junk, AV.junk, AV.junk, AV.junk, AV.junk, AV.junk, AV.junk, AV.junk, AV.junk, AV.junk, AV.junk, AV.junk, AV.junk] [some (Cont.cells 2 [[AV.pv Ty.i p.1, AV.pv Ty.i p.2.1]])]

def impl_areWrites_X2_2 (i : List (Int × Int × Unit) × List (Int × Int × Unit) × Int × Unit) (p : Int × Int × Unit) : St :=
  St.mk [AV.junk, AV.junk, AV.pv Ty.bool false, AV.junk, AV.junk, AV.junk, AV.junk, AV.junk, AV.junk, AV.junk, AV.junk, AV.junk, AV.junk, AV.junk, AV.junk, AV.junk, AV.junk, AV.junk, AV.junk, AV.junk, AV.junk, AV.junk, AV.junk, AV.junk,
  AV.junk, AV.junk, AV.junk, AV.junk, AV.junk, AV.junk, AV.junk, AV.junk, AV.junk, AV.junk, AV.junk, AV.junk, AV.junk, AV.junk] [some (Cont.cells 2 [[AV.pv Ty.i p.1, AV.pv Ty.i p.2.1]])]

def impl_areWrites_X2_3 (i : List (Int × Int × Unit) × List (Int × Int × Unit) × Int × Unit) (p : Unit) : St :=
  St.mk [AV.junk, AV.junk, AV.junk, AV.junk, AV.junk, AV.junk, AV.junk, AV.junk, AV.junk, AV.junk, AV.junk, AV.junk, AV.junk, AV.junk, AV.junk, AV.junk, AV.junk, AV.junk, AV.junk, AV.junk, AV.junk, AV.junk, AV.junk, AV.junk, AV.junk, AV.junk,
  AV.junk, AV.junk, AV.junk, AV.junk, AV.junk, AV.junk, AV.junk, AV.junk, AV.junk, AV.junk, AV.junk, AV.junk] []

noncomputable def impl_areWrites_E2 (i : List (Int × Int × Unit) × List (Int × Int × Unit) × Int × Unit) (p : Int × Int × Unit ⊕ Int × Int × Unit ⊕ Int × Int × Unit ⊕ Unit) (R : Type) (K : Ex → St → Option R) : Option R := sumC p (fun p => K (Ex.ret) (impl_areWrites_X2_0 i p)) (fun p => sumC p (fun p => K (Ex.ret) (impl_areWrites_X2_1 i p)) (fun p => sumC p (fun p => K (Ex.ret) (impl_areWrites_X2_2 i p)) (fun p => K (Ex.exit 0) (impl_areWrites_X2_3 i p))))

noncomputable def impl_areWrites_K2 (i : List (Int × Int × Unit) × List (Int × Int × Unit) × Int × Unit) (p : Int × Int × Unit ⊕ Int × Int × Unit ⊕ Int × Int × Unit ⊕ Unit) : Ex × St := sumC p (fun p => ((Ex.ret), impl_areWrites_X2_0 i p)) (fun p => sumC p (fun p => ((Ex.ret), impl_areWrites_X2_1 i p)) (fun p => sumC p (fun p => ((Ex.ret), impl_areWrites_X2_2 i p)) (fun p => ((Ex.exit 0), impl_areWrites_X2_3 i p))))

def impl_areWrites_M2 (i : List (Int × Int × Unit) × List (Int × Int × Unit) × Int × Unit) (v : Int × Unit) : den impl_areWrites_T2.ty := (i.1, i.2.1, i.2.2.1, v.1, ())

def impl_areWrites_P2 (x : den impl_areWrites_T2.ty) : (List (Int × Int × Unit) × List (Int × Int × Unit) × Int × Unit) × (Int × Unit) := ((x.1, x.2.1, x.2.2.1, ()), (x.2.2.2.1, ()))

noncomputable def impl_areWrites_F2 : LoopFn := fun s R K => Tmpl.readS impl_areWrites_T2 0 s fun x => (iter (fun v => impl_areWrites_D2 (impl_areWrites_P2 x).1 v _ some) (impl_areWrites_P2 x).2).bind fun p => impl_areWrites_E2 (impl_areWrites_P2 x).1 p R K

noncomputable def impl_areWrites_C : Cfg := { ti := g_tis, ents := [impl_isKey_Ent, impl_isValue_Ent], ann := [(2, impl_areWrites_F2)], lent := 0 }

def impl_areWrites_ti : Tmpl := Tmpl.mk (TmL.slot (Ty.slice YReadMark) TmL.nil) TmH.nil

def impl_areWrites_to : Tmpl := Tmpl.mk (TmL.slot Ty.bool TmL.nil) TmH.nil

noncomputable def impl_areWrites_S (x : List (Int × Int × Unit) × Unit) : Option (Bool × Unit) :=
  Option.bind (iter (fun v => impl_areWrites_D2 (x.1, x.1, (↑(List.length x.1) : Int), ()) v (Int × Unit ⊕ Int × Int × Unit ⊕ Int × Int × Unit ⊕ Int × Int × Unit ⊕ Unit) some) (0, ())) fun p => sumC p (fun p => some (false, ())) fun p => sumC
  p (fun p => some (false, ())) fun p => sumC p (fun p => some (false, ())) fun p => some (true, ())

noncomputable def impl_areWrites_Ent : Ent := ⟨109, impl_areWrites_ti, impl_areWrites_to, impl_areWrites_S⟩

theorem impl_areWrites_HC : CfgOK Go.Proofs.Try.prog impl_areWrites_C := ⟨⟨info_ok g_tisOK⟩, (all_cons impl_isKey_OK (all_cons impl_isValue_OK all_nil)), g_wide⟩

theorem impl_areWrites_lk2 : ∀ F, ((impl_areWrites_C).ann.find? fun x => x.1 == firstId ((loopsOf (codeOf Go.Proofs.Try.f109)).getD 0 .skip)).map (·.2) = some F → LoopOK Go.Proofs.Try.prog impl_areWrites_C.lent ((loopsOf (codeOf Go.Proofs.Try.f109)).getD 0 .skip) F := by
  refine lookup_ok (show ((impl_areWrites_C).ann.find? fun x => x.1 == firstId ((loopsOf (codeOf Go.Proofs.Try.f109)).getD 0 .skip)).map (·.2) = some impl_areWrites_F2 from by kernel_rfl) ?_
  exact loop_ok impl_areWrites_HC (loops_all 0 (by kernel_rfl) (fun k hk => absurd hk (Nat.not_lt_zero k))) impl_areWrites_T2 [2] impl_areWrites_M2 impl_areWrites_P2 (fun x => rfl) impl_areWrites_D2 impl_areWrites_D2_nat impl_areWrites_E2 impl_areWrites_K2 (fun i p R K => by rcases p with p | p | p | p <;> rfl) (fun i v => by kernel_rfl)

theorem impl_areWrites_VC (x : den impl_areWrites_ti.ty) : vcall impl_areWrites_C Go.Proofs.Try.f109 impl_areWrites_ti impl_areWrites_to x = impl_areWrites_S x := by kernel_rfl

theorem impl_areWrites_OK : EntOK Go.Proofs.Try.prog impl_areWrites_Ent := EntOK.of_vcall impl_areWrites_HC Go.Proofs.Try.func109 (body_loops (by kernel_rfl) (loops_all 1 (by kernel_rfl) (fun k hk => match k, hk with | 0, _ => impl_areWrites_lk2))) (by kernel_rfl) (by kernel_rfl) impl_areWrites_VC

/-! impl.IsValidRecord -/

noncomputable def impl_IsValidRecord_C : Cfg := { ti := g_tis, ents := [impl_isID_Ent, impl_IsStamp_Ent, impl_in_Ent, impl_areReads_Ent, impl_areWrites_Ent], ann := [], lent := 0 }

def impl_IsValidRecord_ti : Tmpl := Tmpl.mk (TmL.slot (Ty.prod Ty.i (Ty.prod Ty.i (Ty.prod Ty.i (Ty.prod Ty.i (Ty.prod (Ty.slice YReadMark) (Ty.prod
  (Ty.slice YReadMark) Ty.unit)))))) TmL.nil) TmH.nil

def impl_IsValidRecord_to : Tmpl := Tmpl.mk (TmL.slot Ty.bool TmL.nil) TmH.nil

noncomputable def impl_IsValidRecord_S (x : (Int × Int × Int × Int × List (Int × Int × Unit) × List (Int × Int × Unit) × Unit) × Unit) : Option (Bool × Unit) :=
  Option.bind (impl_isID_S (x.1.2.1, ())) fun v => bif v.1 then Option.bind (impl_IsStamp_S (x.1.1, ())) fun v => bif v.1 then Option.bind (impl_in_S (x.1.2.2.1, 1, x.1.1, ())) fun v => bif v.1 then Option.bind (impl_in_S (x.1.2.2.2.1, 0,
  x.1.1, ())) fun v => bif v.1 then Option.bind (impl_areReads_S (x.1.2.2.2.2.1, ())) fun v => bif v.1 then Option.bind (impl_areWrites_S (x.1.2.2.2.2.2.1, ())) fun v => some (v.1, ()) else some (false, ()) else some (false, ()) else some
  (false, ()) else some (false, ()) else some (false, ())

noncomputable def impl_IsValidRecord_Ent : Ent := ⟨67, impl_IsValidRecord_ti, impl_IsValidRecord_to, impl_IsValidRecord_S⟩

theorem impl_IsValidRecord_HC : CfgOK Go.Proofs.Try.prog impl_IsValidRecord_C := ⟨⟨info_ok g_tisOK⟩, (all_cons impl_isID_OK (all_cons impl_IsStamp_OK (all_cons impl_in_OK (all_cons impl_areReads_OK (all_cons impl_areWrites_OK all_nil))))), g_wide⟩

theorem impl_IsValidRecord_VC (x : den impl_IsValidRecord_ti.ty) : vcall impl_IsValidRecord_C Go.Proofs.Try.f67 impl_IsValidRecord_ti impl_IsValidRecord_to x = impl_IsValidRecord_S x := by kernel_rfl

theorem impl_IsValidRecord_OK : EntOK Go.Proofs.Try.prog impl_IsValidRecord_Ent := EntOK.of_vcall impl_IsValidRecord_HC Go.Proofs.Try.func67 (body_loops (by kernel_rfl) (loops_all 0 (by kernel_rfl) (fun k hk => absurd hk (Nat.not_lt_zero k)))) (by kernel_rfl) (by kernel_rfl) impl_IsValidRecord_VC

/-! impl.FindVersion$1 -/

noncomputable def impl_FindVersion_1_C : Cfg := { ti := g_tis, ents := [], ann := [], lent := 0 }

def impl_FindVersion_1_ti : Tmpl := Tmpl.mk (TmL.slot YVersion (TmL.slot (Ty.iref Ty.i) TmL.nil)) TmH.nil

def impl_FindVersion_1_to : Tmpl := Tmpl.mk (TmL.slot Ty.bool TmL.nil) TmH.nil

noncomputable def impl_FindVersion_1_S (x : (Int × Int × Int × Int × Int × Unit) × Option Int × Unit) : Option (Bool × Unit) :=
  Option.bind x.2.1 fun v => some (x.1.2.2.1 == v, ())

noncomputable def impl_FindVersion_1_Ent : Ent := ⟨147, impl_FindVersion_1_ti, impl_FindVersion_1_to, impl_FindVersion_1_S⟩

theorem impl_FindVersion_1_HC : CfgOK Go.Proofs.Try.prog impl_FindVersion_1_C := ⟨⟨info_ok g_tisOK⟩, all_nil, g_wide⟩

theorem impl_FindVersion_1_VC (x : den impl_FindVersion_1_ti.ty) : vcall impl_FindVersion_1_C Go.Proofs.Try.f147 impl_FindVersion_1_ti impl_FindVersion_1_to x = impl_FindVersion_1_S x := by kernel_rfl

theorem impl_FindVersion_1_OK : EntOK Go.Proofs.Try.prog impl_FindVersion_1_Ent := EntOK.of_vcall impl_FindVersion_1_HC Go.Proofs.Try.func147 (body_loops (by kernel_rfl) (loops_all 0 (by kernel_rfl) (fun k hk => absurd hk (Nat.not_lt_zero k)))) (by kernel_rfl) (by kernel_rfl) impl_FindVersion_1_VC

/-! slices.IndexFunc[[]impl.Version,impl.Version] -/

noncomputable def slices_IndexFunc_impl_Version_impl_Version__impl_FindVersion_1_D2 (i : List (Int × Int × Int × Int × Int × Unit) × (Option Int × Unit) × Int × Unit) (v : Int × Unit) (R : Type) (K : Int × Unit ⊕ Int × Unit ⊕ Unit → Option R) : Option R :=
  bif decide (v.1 < i.2.2.1) then Option.bind (lAt i.1 v.1) fun v_1 => Option.bind (impl_FindVersion_1_S ((v_1.1, v_1.2.1, v_1.2.2.1, v_1.2.2.2.1, v_1.2.2.2.2.1, ()), i.2.1.1, ())) fun v_2 => bif v_2.1 then K (Sum.inr (Sum.inl (v.1, ()))) else
  K (Sum.inl (IntKind.wrap IntKind.i64 (v.1 + 1), ())) else K (Sum.inr (Sum.inr ()))

theorem slices_IndexFunc_impl_Version_impl_Version__impl_FindVersion_1_D2_nat (i : List (Int × Int × Int × Int × Int × Unit) × (Option Int × Unit) × Int × Unit) (v : Int × Unit) (R : Type) (K : Int × Unit ⊕ Int × Unit ⊕ Unit → Option R) : slices_IndexFunc_impl_Version_impl_Version__impl_FindVersion_1_D2 i v R K = (slices_IndexFunc_impl_Version_impl_Version__impl_FindVersion_1_D2 i v _ some).bind K := nat_bif (nat_bind fun _ => nat_bind fun _ => nat_bif (nat_some) (nat_some)) (nat_some)

def slices_IndexFunc_impl_Version_impl_Version__impl_FindVersion_1_T2 : Tmpl := Tmpl.mk (TmL.slot (Ty.slice YVersion) (TmL.slot (Ty.fn 147 (Ty.prod (Ty.iref (Ty.int
  IntKind.i64)) Ty.unit)) (TmL.junk (TmL.junk (TmL.junk (TmL.junk (TmL.junk (TmL.slot Ty.i (TmL.slot Ty.i (TmL.junk (TmL.junk (TmL.junk (TmL.junk (TmL.junk (TmL.junk (TmL.junk (TmL.junk (TmL.junk (TmL.junk
  TmL.nil))))))))))))))))))) TmH.nil

def slices_IndexFunc_impl_Version_impl_Version__impl_FindVersion_1_X2_0 (i : List (Int × Int × Int × Int × Int × Unit) × (Option Int × Unit) × Int × Unit) (p : Int × Unit) : St :=
  St.mk [AV.junk, AV.junk, AV.junk, AV.junk, AV.pv Ty.i p.1, AV.junk, AV.junk, AV.junk, AV.junk, AV.junk, AV.junk, AV.junk, AV.junk, AV.junk, AV.junk, AV.junk, AV.junk, AV.junk, AV.junk] []

def slices_IndexFunc_impl_Version_impl_Version__impl_FindVersion_1_X2_1 (i : List (Int × Int × Int × Int × Int × Unit) × (Option Int × Unit) × Int × Unit) (p : Unit) : St :=
  St.mk [AV.junk, AV.junk, AV.junk, AV.junk, AV.junk, AV.junk, AV.junk, AV.junk, AV.junk, AV.junk, AV.junk, AV.junk, AV.junk, AV.junk, AV.junk, AV.junk, AV.junk, AV.junk, AV.junk] []

noncomputable def slices_IndexFunc_impl_Version_impl_Version__impl_FindVersion_1_E2 (i : List (Int × Int × Int × Int × Int × Unit) × (Option Int × Unit) × Int × Unit) (p : Int × Unit ⊕ Unit) (R : Type) (K : Ex → St → Option R) : Option R := sumC p (fun p => K (Ex.ret) (slices_IndexFunc_impl_Version_impl_Version__impl_FindVersion_1_X2_0 i p)) (fun p => K (Ex.exit 0) (slices_IndexFunc_impl_Version_impl_Version__impl_FindVersion_1_X2_1 i p))

noncomputable def slices_IndexFunc_impl_Version_impl_Version__impl_FindVersion_1_K2 (i : List (Int × Int × Int × Int × Int × Unit) × (Option Int × Unit) × Int × Unit) (p : Int × Unit ⊕ Unit) : Ex × St := sumC p (fun p => ((Ex.ret), slices_IndexFunc_impl_Version_impl_Version__impl_FindVersion_1_X2_0 i p)) (fun p => ((Ex.exit 0), slices_IndexFunc_impl_Version_impl_Version__impl_FindVersion_1_X2_1 i p))

def slices_IndexFunc_impl_Version_impl_Version__impl_FindVersion_1_M2 (i : List (Int × Int × Int × Int × Int × Unit) × (Option Int × Unit) × Int × Unit) (v : Int × Unit) : den slices_IndexFunc_impl_Version_impl_Version__impl_FindVersion_1_T2.ty := (i.1, i.2.1, i.2.2.1, v.1, ())

def slices_IndexFunc_impl_Version_impl_Version__impl_FindVersion_1_P2 (x : den slices_IndexFunc_impl_Version_impl_Version__impl_FindVersion_1_T2.ty) : (List (Int × Int × Int × Int × Int × Unit) × (Option Int × Unit) × Int × Unit) × (Int × Unit) := ((x.1, x.2.1, x.2.2.1, ()), (x.2.2.2.1, ()))

noncomputable def slices_IndexFunc_impl_Version_impl_Version__impl_FindVersion_1_F2 : LoopFn := fun s R K => Tmpl.readS slices_IndexFunc_impl_Version_impl_Version__impl_FindVersion_1_T2 0 s fun x => (iter (fun v => slices_IndexFunc_impl_Version_impl_Version__impl_FindVersion_1_D2 (slices_IndexFunc_impl_Version_impl_Version__impl_FindVersion_1_P2 x).1 v _ some) (slices_IndexFunc_impl_Version_impl_Version__impl_FindVersion_1_P2 x).2).bind fun p => slices_IndexFunc_impl_Version_impl_Version__impl_FindVersion_1_E2 (slices_IndexFunc_impl_Version_impl_Version__impl_FindVersion_1_P2 x).1 p R K

noncomputable def slices_IndexFunc_impl_Version_impl_Version__impl_FindVersion_1_C : Cfg := { ti := g_tis, ents := [impl_FindVersion_1_Ent], ann := [(2, slices_IndexFunc_impl_Version_impl_Version__impl_FindVersion_1_F2)], lent := 0 }

def slices_IndexFunc_impl_Version_impl_Version__impl_FindVersion_1_ti : Tmpl := Tmpl.mk (TmL.slot (Ty.slice YVersion) (TmL.slot (Ty.fn 147 (Ty.prod (Ty.iref (Ty.int
  IntKind.i64)) Ty.unit)) TmL.nil)) TmH.nil

def slices_IndexFunc_impl_Version_impl_Version__impl_FindVersion_1_to : Tmpl := Tmpl.mk (TmL.slot Ty.i TmL.nil) TmH.nil

noncomputable def slices_IndexFunc_impl_Version_impl_Version__impl_FindVersion_1_S (x : List (Int × Int × Int × Int × Int × Unit) × (Option Int × Unit) × Unit) : Option (Int × Unit) :=
  Option.bind (iter (fun v => slices_IndexFunc_impl_Version_impl_Version__impl_FindVersion_1_D2 (x.1, x.2.1, (↑(List.length x.1) : Int), ()) v (Int × Unit ⊕ Int × Unit ⊕ Unit) some) (0, ())) fun p => sumC p (fun p => some (p.1, ())) fun p =>
  some (-1, ())

noncomputable def slices_IndexFunc_impl_Version_impl_Version__impl_FindVersion_1_Ent : Ent := ⟨146, slices_IndexFunc_impl_Version_impl_Version__impl_FindVersion_1_ti, slices_IndexFunc_impl_Version_impl_Version__impl_FindVersion_1_to, slices_IndexFunc_impl_Version_impl_Version__impl_FindVersion_1_S⟩

theorem slices_IndexFunc_impl_Version_impl_Version__impl_FindVersion_1_HC : CfgOK Go.Proofs.Try.prog slices_IndexFunc_impl_Version_impl_Version__impl_FindVersion_1_C := ⟨⟨info_ok g_tisOK⟩, (all_cons impl_FindVersion_1_OK all_nil), g_wide⟩

theorem slices_IndexFunc_impl_Version_impl_Version__impl_FindVersion_1_lk2 : ∀ F, ((slices_IndexFunc_impl_Version_impl_Version__impl_FindVersion_1_C).ann.find? fun x => x.1 == firstId ((loopsOf (codeOf Go.Proofs.Try.f146)).getD 0 .skip)).map (·.2) = some F → LoopOK Go.Proofs.Try.prog slices_IndexFunc_impl_Version_impl_Version__impl_FindVersion_1_C.lent ((loopsOf (codeOf Go.Proofs.Try.f146)).getD 0 .skip) F := by
  refine lookup_ok (show ((slices_IndexFunc_impl_Version_impl_Version__impl_FindVersion_1_C).ann.find? fun x => x.1 == firstId ((loopsOf (codeOf Go.Proofs.Try.f146)).getD 0 .skip)).map (·.2) = some slices_IndexFunc_impl_Version_impl_Version__impl_FindVersion_1_F2 from by kernel_rfl) ?_
  exact loop_ok slices_IndexFunc_impl_Version_impl_Version__impl_FindVersion_1_HC (loops_all 0 (by kernel_rfl) (fun k hk => absurd hk (Nat.not_lt_zero k))) slices_IndexFunc_impl_Version_impl_Version__impl_FindVersion_1_T2 [4] slices_IndexFunc_impl_Version_impl_Version__impl_FindVersion_1_M2 slices_IndexFunc_impl_Version_impl_Version__impl_FindVersion_1_P2 (fun x => rfl) slices_IndexFunc_impl_Version_impl_Version__impl_FindVersion_1_D2 slices_IndexFunc_impl_Version_impl_Version__impl_FindVersion_1_D2_nat slices_IndexFunc_impl_Version_impl_Version__impl_FindVersion_1_E2 slices_IndexFunc_impl_Version_impl_Version__impl_FindVersion_1_K2 (fun i p R K => by rcases p with p | p <;> rfl) (fun i v => by kernel_rfl)

theorem slices_IndexFunc_impl_Version_impl_Version__impl_FindVersion_1_VC (x : den slices_IndexFunc_impl_Version_impl_Version__impl_FindVersion_1_ti.ty) : vcall slices_IndexFunc_impl_Version_impl_Version__impl_FindVersion_1_C Go.Proofs.Try.f146 slices_IndexFunc_impl_Version_impl_Version__impl_FindVersion_1_ti slices_IndexFunc_impl_Version_impl_Version__impl_FindVersion_1_to x = slices_IndexFunc_impl_Version_impl_Version__impl_FindVersion_1_S x := by kernel_rfl

theorem slices_IndexFunc_impl_Version_impl_Version__impl_FindVersion_1_OK : EntOK Go.Proofs.Try.prog slices_IndexFunc_impl_Version_impl_Version__impl_FindVersion_1_Ent := EntOK.of_vcall slices_IndexFunc_impl_Version_impl_Version__impl_FindVersion_1_HC Go.Proofs.Try.func146 (body_loops (by kernel_rfl) (loops_all 1 (by kernel_rfl) (fun k hk => match k, hk with | 0, _ => slices_IndexFunc_impl_Version_impl_Version__impl_FindVersion_1_lk2))) (by kernel_rfl) (by kernel_rfl) slices_IndexFunc_impl_Version_impl_Version__impl_FindVersion_1_VC

/-! impl.FindVersion -/

noncomputable def impl_FindVersion_C : Cfg := { ti := g_tis, ents := [slices_IndexFunc_impl_Version_impl_Version__impl_FindVersion_1_Ent], ann := [], lent := 0 }

def impl_FindVersion_ti : Tmpl := Tmpl.mk (TmL.slot (Ty.slice YVersion) (TmL.slot Ty.i TmL.nil)) TmH.nil

def impl_FindVersion_to : Tmpl := Tmpl.mk (TmL.slot Ty.i TmL.nil) TmH.nil

noncomputable def impl_FindVersion_S (x : List (Int × Int × Int × Int × Int × Unit) × Int × Unit) : Option (Int × Unit) :=
  Option.bind (slices_IndexFunc_impl_Version_impl_Version__impl_FindVersion_1_S (x.1, (some x.2.1, ()), ())) fun v => some (v.1, ())

noncomputable def impl_FindVersion_Ent : Ent := ⟨113, impl_FindVersion_ti, impl_FindVersion_to, impl_FindVersion_S⟩

theorem impl_FindVersion_HC : CfgOK Go.Proofs.Try.prog impl_FindVersion_C := ⟨⟨info_ok g_tisOK⟩, (all_cons slices_IndexFunc_impl_Version_impl_Version__impl_FindVersion_1_OK all_nil), g_wide⟩

theorem impl_FindVersion_VC (x : den impl_FindVersion_ti.ty) : vcall impl_FindVersion_C Go.Proofs.Try.f113 impl_FindVersion_ti impl_FindVersion_to x = impl_FindVersion_S x := by kernel_rfl

theorem impl_FindVersion_OK : EntOK Go.Proofs.Try.prog impl_FindVersion_Ent := EntOK.of_vcall impl_FindVersion_HC Go.Proofs.Try.func113 (body_loops (by kernel_rfl) (loops_all 0 (by kernel_rfl) (fun k hk => absurd hk (Nat.not_lt_zero k)))) (by kernel_rfl) (by kernel_rfl) impl_FindVersion_VC

/-! (impl.Store).find -/

noncomputable def impl_Store_find_C : Cfg := { ti := g_tis, ents := [impl_FindVersion_Ent], ann := [], lent := 0 }

def impl_Store_find_ti : Tmpl := Tmpl.mk (TmL.slot YStore (TmL.slot (Ty.prod
  Ty.i (Ty.prod Ty.i Ty.unit)) TmL.nil)) TmH.nil

def impl_Store_find_to : Tmpl := Tmpl.mk (TmL.slot (Ty.iref YVersion) TmL.nil) TmH.nil

noncomputable def impl_Store_find_S (x : (List (List (Int × Int × Int × Int × Int × Unit)) × Unit) × (Int × Int × Unit) × Unit) : Option (Option (Int × Int × Int × Int × Int × Unit) × Unit) :=
  Option.bind (lAt x.1.1 x.2.1.1) fun v => Option.bind (impl_FindVersion_S (v, x.2.1.2.1, ())) fun v_1 => bif decide (v_1.1 < 0) then some (none, ()) else Option.bind (lAt v v_1.1) fun v => some (some v, ())

noncomputable def impl_Store_find_Ent : Ent := ⟨72, impl_Store_find_ti, impl_Store_find_to, impl_Store_find_S⟩

theorem impl_Store_find_HC : CfgOK Go.Proofs.Try.prog impl_Store_find_C := ⟨⟨info_ok g_tisOK⟩, (all_cons impl_FindVersion_OK all_nil), g_wide⟩

theorem impl_Store_find_VC (x : den impl_Store_find_ti.ty) : vcall impl_Store_find_C Go.Proofs.Try.f72 impl_Store_find_ti impl_Store_find_to x = impl_Store_find_S x := by kernel_rfl

theorem impl_Store_find_OK : EntOK Go.Proofs.Try.prog impl_Store_find_Ent := EntOK.of_vcall impl_Store_find_HC Go.Proofs.Try.func72 (body_loops (by kernel_rfl) (loops_all 0 (by kernel_rfl) (fun k hk => absurd hk (Nat.not_lt_zero k)))) (by kernel_rfl) (by kernel_rfl) impl_Store_find_VC

/-! (impl.Store).readsExist$1 -/

noncomputable def impl_Store_readsExist_1_C : Cfg := { ti := g_tis, ents := [impl_Store_find_Ent], ann := [], lent := 0 }

def impl_Store_readsExist_1_ti : Tmpl := Tmpl.mk (TmL.slot YReadMark (TmL.slot (Ty.iref (Ty.prod (Ty.slice (Ty.slice (Ty.prod Ty.i (Ty.prod Ty.i (Ty.prod Ty.i (Ty.prod
  Ty.i (Ty.prod Ty.i Ty.unit))))))) Ty.unit)) TmL.nil)) TmH.nil

def impl_Store_readsExist_1_to : Tmpl := Tmpl.mk (TmL.slot Ty.bool TmL.nil) TmH.nil

noncomputable def impl_Store_readsExist_1_S (x : (Int × Int × Unit) × Option (List (List (Int × Int × Int × Int × Int × Unit)) × Unit) × Unit) : Option (Bool × Unit) :=
  Option.bind x.2.1 fun v => Option.bind (impl_Store_find_S ((v.1, ()), (x.1.1, x.1.2.1, ()), ())) fun v => some (Option.isNone v.1, ())

noncomputable def impl_Store_readsExist_1_Ent : Ent := ⟨111, impl_Store_readsExist_1_ti, impl_Store_readsExist_1_to, impl_Store_readsExist_1_S⟩

theorem impl_Store_readsExist_1_HC : CfgOK Go.Proofs.Try.prog impl_Store_readsExist_1_C := ⟨⟨info_ok g_tisOK⟩, (all_cons impl_Store_find_OK all_nil), g_wide⟩

theorem impl_Store_readsExist_1_VC (x : den impl_Store_readsExist_1_ti.ty) : vcall impl_Store_readsExist_1_C Go.Proofs.Try.f111 impl_Store_readsExist_1_ti impl_Store_readsExist_1_to x = impl_Store_readsExist_1_S x := by kernel_rfl

theorem impl_Store_readsExist_1_OK : EntOK Go.Proofs.Try.prog impl_Store_readsExist_1_Ent := EntOK.of_vcall impl_Store_readsExist_1_HC Go.Proofs.Try.func111 (body_loops (by kernel_rfl) (loops_all 0 (by kernel_rfl) (fun k hk => absurd hk (Nat.not_lt_zero k)))) (by kernel_rfl) (by kernel_rfl) impl_Store_readsExist_1_VC

/-! slices.IndexFunc[[]impl.ReadMark,impl.ReadMark] -/

noncomputable def slices_IndexFunc_impl_ReadMark_impl_ReadMark__impl_Store_readsExist_1_D2 (i : List (Int × Int × Unit) × (Option (List (List (Int × Int × Int × Int × Int × Unit)) × Unit) × Unit) × Int × Unit) (v : Int × Unit) (R : Type) (K : Int × Unit ⊕ Int × Unit ⊕ Unit → Option R) : Option R :=
  bif decide (v.1 < i.2.2.1) then Option.bind (lAt i.1 v.1) fun v_1 => Option.bind (impl_Store_readsExist_1_S ((v_1.1, v_1.2.1, ()), i.2.1.1, ())) fun v_2 => bif v_2.1 then K (Sum.inr (Sum.inl (v.1, ()))) else K (Sum.inl (IntKind.wrap
  IntKind.i64 (v.1 + 1), ())) else K (Sum.inr (Sum.inr ()))

theorem slices_IndexFunc_impl_ReadMark_impl_ReadMark__impl_Store_readsExist_1_D2_nat (i : List (Int × Int × Unit) × (Option (List (List (Int × Int × Int × Int × Int × Unit)) × Unit) × Unit) × Int × Unit) (v : Int × Unit) (R : Type) (K : Int × Unit ⊕ Int × Unit ⊕ Unit → Option R) : slices_IndexFunc_impl_ReadMark_impl_ReadMark__impl_Store_readsExist_1_D2 i v R K = (slices_IndexFunc_impl_ReadMark_impl_ReadMark__impl_Store_readsExist_1_D2 i v _ some).bind K := nat_bif (nat_bind fun _ => nat_bind fun _ => nat_bif (nat_some) (nat_some)) (nat_some)

def slices_IndexFunc_impl_ReadMark_impl_ReadMark__impl_Store_readsExist_1_T2 : Tmpl := Tmpl.mk (TmL.slot (Ty.slice YReadMark) (TmL.slot (Ty.fn 111 (Ty.prod (Ty.iref (Ty.prod (Ty.slice (Ty.slice (Ty.prod Ty.i (Ty.prod Ty.i (Ty.prod
  Ty.i YReadMark))))) Ty.unit)) Ty.unit)) (TmL.junk (TmL.junk (TmL.junk (TmL.junk (TmL.junk (TmL.slot Ty.i (TmL.slot Ty.i (TmL.junk
  (TmL.junk (TmL.junk (TmL.junk (TmL.junk (TmL.junk (TmL.junk (TmL.junk (TmL.junk (TmL.junk TmL.nil))))))))))))))))))) TmH.nil

def slices_IndexFunc_impl_ReadMark_impl_ReadMark__impl_Store_readsExist_1_X2_0 (i : List (Int × Int × Unit) × (Option (List (List (Int × Int × Int × Int × Int × Unit)) × Unit) × Unit) × Int × Unit) (p : Int × Unit) : St :=
  St.mk [AV.junk, AV.junk, AV.junk, AV.junk, AV.pv Ty.i p.1, AV.junk, AV.junk, AV.junk, AV.junk, AV.junk, AV.junk, AV.junk, AV.junk, AV.junk, AV.junk, AV.junk, AV.junk, AV.junk, AV.junk] []

def slices_IndexFunc_impl_ReadMark_impl_ReadMark__impl_Store_readsExist_1_X2_1 (i : List (Int × Int × Unit) × (Option (List (List (Int × Int × Int × Int × Int × Unit)) × Unit) × Unit) × Int × Unit) (p : Unit) : St :=
  St.mk [AV.junk, AV.junk, AV.junk, AV.junk, AV.junk, AV.junk, AV.junk, AV.junk, AV.junk, AV.junk, AV.junk, AV.junk, AV.junk, AV.junk, AV.junk, AV.junk, AV.junk, AV.junk, AV.junk] []

noncomputable def slices_IndexFunc_impl_ReadMark_impl_ReadMark__impl_Store_readsExist_1_E2 (i : List (Int × Int × Unit) × (Option (List (List (Int × Int × Int × Int × Int × Unit)) × Unit) × Unit) × Int × Unit) (p : Int × Unit ⊕ Unit) (R : Type) (K : Ex → St → Option R) : Option R := sumC p (fun p => K (Ex.ret) (slices_IndexFunc_impl_ReadMark_impl_ReadMark__impl_Store_readsExist_1_X2_0 i p)) (fun p => K (Ex.exit 0) (slices_IndexFunc_impl_ReadMark_impl_ReadMark__impl_Store_readsExist_1_X2_1 i p))

noncomputable def slices_IndexFunc_impl_ReadMark_impl_ReadMark__impl_Store_readsExist_1_K2 (i : List (Int × Int × Unit) × (Option (List (List (Int × Int × Int × Int × Int × Unit)) × Unit) × Unit) × Int × Unit) (p : Int × Unit ⊕ Unit) : Ex × St := sumC p (fun p => ((Ex.ret), slices_IndexFunc_impl_ReadMark_impl_ReadMark__impl_Store_readsExist_1_X2_0 i p)) (fun p => ((Ex.exit 0), slices_IndexFunc_impl_ReadMark_impl_ReadMark__impl_Store_readsExist_1_X2_1 i p))

def slices_IndexFunc_impl_ReadMark_impl_ReadMark__impl_Store_readsExist_1_M2 (i : List (Int × Int × Unit) × (Option (List (List (Int × Int × Int × Int × Int × Unit)) × Unit) × Unit) × Int × Unit) (v : Int × Unit) : den slices_IndexFunc_impl_ReadMark_impl_ReadMark__impl_Store_readsExist_1_T2.ty := (i.1, i.2.1, i.2.2.1, v.1, ())

def slices_IndexFunc_impl_ReadMark_impl_ReadMark__impl_Store_readsExist_1_P2 (x : den slices_IndexFunc_impl_ReadMark_impl_ReadMark__impl_Store_readsExist_1_T2.ty) : (List (Int × Int × Unit) × (Option (List (List (Int × Int × Int × Int × Int × Unit)) × Unit) × Unit) × Int × Unit) × (Int × Unit) := ((x.1, x.2.1, x.2.2.1, ()), (x.2.2.2.1, ()))

noncomputable def slices_IndexFunc_impl_ReadMark_impl_ReadMark__impl_Store_readsExist_1_F2 : LoopFn := fun s R K => Tmpl.readS slices_IndexFunc_impl_ReadMark_impl_ReadMark__impl_Store_readsExist_1_T2 0 s fun x => (iter (fun v => slices_IndexFunc_impl_ReadMark_impl_ReadMark__impl_Store_readsExist_1_D2 (slices_IndexFunc_impl_ReadMark_impl_ReadMark__impl_Store_readsExist_1_P2 x).1 v _ some) (slices_IndexFunc_impl_ReadMark_impl_ReadMark__impl_Store_readsExist_1_P2 x).2).bind fun p => slices_IndexFunc_impl_ReadMark_impl_ReadMark__impl_Store_readsExist_1_E2 (slices_IndexFunc_impl_ReadMark_impl_ReadMark__impl_Store_readsExist_1_P2 x).1 p R K

noncomputable def slices_IndexFunc_impl_ReadMark_impl_ReadMark__impl_Store_readsExist_1_C : Cfg := { ti := g_tis, ents := [impl_Store_readsExist_1_Ent], ann := [(2, slices_IndexFunc_impl_ReadMark_impl_ReadMark__impl_Store_readsExist_1_F2)], lent := 0 }

def slices_IndexFunc_impl_ReadMark_impl_ReadMark__impl_Store_readsExist_1_ti : Tmpl := Tmpl.mk (TmL.slot (Ty.slice YReadMark) (TmL.slot (Ty.fn 111 (Ty.prod (Ty.iref (Ty.prod (Ty.slice (Ty.slice (Ty.prod Ty.i (Ty.prod Ty.i (Ty.prod
  Ty.i YReadMark))))) Ty.unit)) Ty.unit)) TmL.nil)) TmH.nil

def slices_IndexFunc_impl_ReadMark_impl_ReadMark__impl_Store_readsExist_1_to : Tmpl := Tmpl.mk (TmL.slot Ty.i TmL.nil) TmH.nil

noncomputable def slices_IndexFunc_impl_ReadMark_impl_ReadMark__impl_Store_readsExist_1_S (x : List (Int × Int × Unit) × (Option (List (List (Int × Int × Int × Int × Int × Unit)) × Unit) × Unit) × Unit) : Option (Int × Unit) :=
  Option.bind (iter (fun v => slices_IndexFunc_impl_ReadMark_impl_ReadMark__impl_Store_readsExist_1_D2 (x.1, x.2.1, (↑(List.length x.1) : Int), ()) v (Int × Unit ⊕ Int × Unit ⊕ Unit) some) (0, ())) fun p => sumC p (fun p => some (p.1, ())) fun
  p => some (-1, ())

noncomputable def slices_IndexFunc_impl_ReadMark_impl_ReadMark__impl_Store_readsExist_1_Ent : Ent := ⟨145, slices_IndexFunc_impl_ReadMark_impl_ReadMark__impl_Store_readsExist_1_ti, slices_IndexFunc_impl_ReadMark_impl_ReadMark__impl_Store_readsExist_1_to, slices_IndexFunc_impl_ReadMark_impl_ReadMark__impl_Store_readsExist_1_S⟩

theorem slices_IndexFunc_impl_ReadMark_impl_ReadMark__impl_Store_readsExist_1_HC : CfgOK Go.Proofs.Try.prog slices_IndexFunc_impl_ReadMark_impl_ReadMark__impl_Store_readsExist_1_C := ⟨⟨info_ok g_tisOK⟩, (all_cons impl_Store_readsExist_1_OK all_nil), g_wide⟩

theorem slices_IndexFunc_impl_ReadMark_impl_ReadMark__impl_Store_readsExist_1_lk2 : ∀ F, ((slices_IndexFunc_impl_ReadMark_impl_ReadMark__impl_Store_readsExist_1_C).ann.find? fun x => x.1 == firstId ((loopsOf (codeOf Go.Proofs.Try.f145)).getD 0 .skip)).map (·.2) = some F → LoopOK Go.Proofs.Try.prog slices_IndexFunc_impl_ReadMark_impl_ReadMark__impl_Store_readsExist_1_C.lent ((loopsOf (codeOf Go.Proofs.Try.f145)).getD 0 .skip) F := by
  refine lookup_ok (show ((slices_IndexFunc_impl_ReadMark_impl_ReadMark__impl_Store_readsExist_1_C).ann.find? fun x => x.1 == firstId ((loopsOf (codeOf Go.Proofs.Try.f145)).getD 0 .skip)).map (·.2) = some slices_IndexFunc_impl_ReadMark_impl_ReadMark__impl_Store_readsExist_1_F2 from by kernel_rfl) ?_
  exact loop_ok slices_IndexFunc_impl_ReadMark_impl_ReadMark__impl_Store_readsExist_1_HC (loops_all 0 (by kernel_rfl) (fun k hk => absurd hk (Nat.not_lt_zero k))) slices_IndexFunc_impl_ReadMark_impl_ReadMark__impl_Store_readsExist_1_T2 [4] slices_IndexFunc_impl_ReadMark_impl_ReadMark__impl_Store_readsExist_1_M2 slices_IndexFunc_impl_ReadMark_impl_ReadMark__impl_Store_readsExist_1_P2 (fun x => rfl) slices_IndexFunc_impl_ReadMark_impl_ReadMark__impl_Store_readsExist_1_D2 slices_IndexFunc_impl_ReadMark_impl_ReadMark__impl_Store_readsExist_1_D2_nat slices_IndexFunc_impl_ReadMark_impl_ReadMark__impl_Store_readsExist_1_E2 slices_IndexFunc_impl_ReadMark_impl_ReadMark__impl_Store_readsExist_1_K2 (fun i p R K => by rcases p with p | p <;> rfl) (fun i v => by kernel_rfl)

theorem slices_IndexFunc_impl_ReadMark_impl_ReadMark__impl_Store_readsExist_1_VC (x : den slices_IndexFunc_impl_ReadMark_impl_ReadMark__impl_Store_readsExist_1_ti.ty) : vcall slices_IndexFunc_impl_ReadMark_impl_ReadMark__impl_Store_readsExist_1_C Go.Proofs.Try.f145 slices_IndexFunc_impl_ReadMark_impl_ReadMark__impl_Store_readsExist_1_ti slices_IndexFunc_impl_ReadMark_impl_ReadMark__impl_Store_readsExist_1_to x = slices_IndexFunc_impl_ReadMark_impl_ReadMark__impl_Store_readsExist_1_S x := by kernel_rfl

theorem slices_IndexFunc_impl_ReadMark_impl_ReadMark__impl_Store_readsExist_1_OK : EntOK Go.Proofs.Try.prog slices_IndexFunc_impl_ReadMark_impl_ReadMark__impl_Store_readsExist_1_Ent := EntOK.of_vcall slices_IndexFunc_impl_ReadMark_impl_ReadMark__impl_Store_readsExist_1_HC Go.Proofs.Try.func145 (body_loops (by kernel_rfl) (loops_all 1 (by kernel_rfl) (fun k hk => match k, hk with | 0, _ => slices_IndexFunc_impl_ReadMark_impl_ReadMark__impl_Store_readsExist_1_lk2))) (by kernel_rfl) (by kernel_rfl) slices_IndexFunc_impl_ReadMark_impl_ReadMark__impl_Store_readsExist_1_VC

/-! slices.ContainsFunc[[]impl.ReadMark,impl.ReadMark] -/

noncomputable def slices_ContainsFunc_impl_ReadMark_impl_ReadMark__impl_Store_readsExist_1_C : Cfg := { ti := g_tis, ents := [slices_IndexFunc_impl_ReadMark_impl_ReadMark__impl_Store_readsExist_1_Ent], ann := [], lent := 0 }

def slices_ContainsFunc_impl_ReadMark_impl_ReadMark__impl_Store_readsExist_1_ti : Tmpl := Tmpl.mk (TmL.slot (Ty.slice YReadMark) (TmL.slot (Ty.fn 111 (Ty.prod (Ty.iref (Ty.prod (Ty.slice (Ty.slice (Ty.prod Ty.i (Ty.prod Ty.i (Ty.prod
  Ty.i YReadMark))))) Ty.unit)) Ty.unit)) TmL.nil)) TmH.nil

def slices_ContainsFunc_impl_ReadMark_impl_ReadMark__impl_Store_readsExist_1_to : Tmpl := Tmpl.mk (TmL.slot Ty.bool TmL.nil) TmH.nil

noncomputable def slices_ContainsFunc_impl_ReadMark_impl_ReadMark__impl_Store_readsExist_1_S (x : List (Int × Int × Unit) × (Option (List (List (Int × Int × Int × Int × Int × Unit)) × Unit) × Unit) × Unit) : Option (Bool × Unit) :=
  Option.bind (slices_IndexFunc_impl_ReadMark_impl_ReadMark__impl_Store_readsExist_1_S (x.1, x.2.1, ())) fun v => some (decide (v.1 ≥ 0), ())

noncomputable def slices_ContainsFunc_impl_ReadMark_impl_ReadMark__impl_Store_readsExist_1_Ent : Ent := ⟨110, slices_ContainsFunc_impl_ReadMark_impl_ReadMark__impl_Store_readsExist_1_ti, slices_ContainsFunc_impl_ReadMark_impl_ReadMark__impl_Store_readsExist_1_to, slices_ContainsFunc_impl_ReadMark_impl_ReadMark__impl_Store_readsExist_1_S⟩

theorem slices_ContainsFunc_impl_ReadMark_impl_ReadMark__impl_Store_readsExist_1_HC : CfgOK Go.Proofs.Try.prog slices_ContainsFunc_impl_ReadMark_impl_ReadMark__impl_Store_readsExist_1_C := ⟨⟨info_ok g_tisOK⟩, (all_cons slices_IndexFunc_impl_ReadMark_impl_ReadMark__impl_Store_readsExist_1_OK all_nil), g_wide⟩

theorem slices_ContainsFunc_impl_ReadMark_impl_ReadMark__impl_Store_readsExist_1_VC (x : den slices_ContainsFunc_impl_ReadMark_impl_ReadMark__impl_Store_readsExist_1_ti.ty) : vcall slices_ContainsFunc_impl_ReadMark_impl_ReadMark__impl_Store_readsExist_1_C Go.Proofs.Try.f110 slices_ContainsFunc_impl_ReadMark_impl_ReadMark__impl_Store_readsExist_1_ti slices_ContainsFunc_impl_ReadMark_impl_ReadMark__impl_Store_readsExist_1_to x = slices_ContainsFunc_impl_ReadMark_impl_ReadMark__impl_Store_readsExist_1_S x := by kernel_rfl

theorem slices_ContainsFunc_impl_ReadMark_impl_ReadMark__impl_Store_readsExist_1_OK : EntOK Go.Proofs.Try.prog slices_ContainsFunc_impl_ReadMark_impl_ReadMark__impl_Store_readsExist_1_Ent := EntOK.of_vcall slices_ContainsFunc_impl_ReadMark_impl_ReadMark__impl_Store_readsExist_1_HC Go.Proofs.Try.func110 (body_loops (by kernel_rfl) (loops_all 0 (by kernel_rfl) (fun k hk => absurd hk (Nat.not_lt_zero k)))) (by kernel_rfl) (by kernel_rfl) slices_ContainsFunc_impl_ReadMark_impl_ReadMark__impl_Store_readsExist_1_VC

/-! (impl.Store).readsExist -/

noncomputable def impl_Store_readsExist_C : Cfg := { ti := g_tis, ents := [slices_ContainsFunc_impl_ReadMark_impl_ReadMark__impl_Store_readsExist_1_Ent], ann := [], lent := 0 }

def impl_Store_readsExist_ti : Tmpl := Tmpl.mk (TmL.slot YStore (TmL.slot (Ty.slice
  YReadMark) TmL.nil)) TmH.nil

def impl_Store_readsExist_to : Tmpl := Tmpl.mk (TmL.slot Ty.bool TmL.nil) TmH.nil

noncomputable def impl_Store_readsExist_S (x : (List (List (Int × Int × Int × Int × Int × Unit)) × Unit) × List (Int × Int × Unit) × Unit) : Option (Bool × Unit) :=
  Option.bind (slices_ContainsFunc_impl_ReadMark_impl_ReadMark__impl_Store_readsExist_1_S (x.2.1, (some (x.1.1, ()), ()), ())) fun v => some (!v.1, ())

noncomputable def impl_Store_readsExist_Ent : Ent := ⟨69, impl_Store_readsExist_ti, impl_Store_readsExist_to, impl_Store_readsExist_S⟩

theorem impl_Store_readsExist_HC : CfgOK Go.Proofs.Try.prog impl_Store_readsExist_C := ⟨⟨info_ok g_tisOK⟩, (all_cons slices_ContainsFunc_impl_ReadMark_impl_ReadMark__impl_Store_readsExist_1_OK all_nil), g_wide⟩

theorem impl_Store_readsExist_VC (x : den impl_Store_readsExist_ti.ty) : vcall impl_Store_readsExist_C Go.Proofs.Try.f69 impl_Store_readsExist_ti impl_Store_readsExist_to x = impl_Store_readsExist_S x := by kernel_rfl

theorem impl_Store_readsExist_OK : EntOK Go.Proofs.Try.prog impl_Store_readsExist_Ent := EntOK.of_vcall impl_Store_readsExist_HC Go.Proofs.Try.func69 (body_loops (by kernel_rfl) (loops_all 0 (by kernel_rfl) (fun k hk => absurd hk (Nat.not_lt_zero k)))) (by kernel_rfl) (by kernel_rfl) impl_Store_readsExist_VC

/-! impl.ApplyRecord$1 -/

noncomputable def impl_ApplyRecord_1_C : Cfg := { ti := g_tis, ents := [], ann := [], lent := 0 }

def impl_ApplyRecord_1_ti : Tmpl := Tmpl.mk (TmL.slot YReadMark (TmL.slot (Ty.iref (Ty.prod (Ty.slice (Ty.slice (Ty.prod Ty.i (Ty.prod Ty.i (Ty.prod Ty.i (Ty.prod
  Ty.i (Ty.prod Ty.i Ty.unit))))))) Ty.unit)) TmL.nil)) TmH.nil

def impl_ApplyRecord_1_to : Tmpl := Tmpl.mk (TmL.slot Ty.bool TmL.nil) TmH.nil

noncomputable def impl_ApplyRecord_1_S (x : (Int × Int × Unit) × Option (List (List (Int × Int × Int × Int × Int × Unit)) × Unit) × Unit) : Option (Bool × Unit) :=
  Option.bind x.2.1 fun v => Option.bind (lAt v.1 x.1.1) fun v => some ((↑(List.length v) : Int) == 50, ())

noncomputable def impl_ApplyRecord_1_Ent : Ent := ⟨71, impl_ApplyRecord_1_ti, impl_ApplyRecord_1_to, impl_ApplyRecord_1_S⟩

theorem impl_ApplyRecord_1_HC : CfgOK Go.Proofs.Try.prog impl_ApplyRecord_1_C := ⟨⟨info_ok g_tisOK⟩, all_nil, g_wide⟩

theorem impl_ApplyRecord_1_VC (x : den impl_ApplyRecord_1_ti.ty) : vcall impl_ApplyRecord_1_C Go.Proofs.Try.f71 impl_ApplyRecord_1_ti impl_ApplyRecord_1_to x = impl_ApplyRecord_1_S x := by kernel_rfl

theorem impl_ApplyRecord_1_OK : EntOK Go.Proofs.Try.prog impl_ApplyRecord_1_Ent := EntOK.of_vcall impl_ApplyRecord_1_HC Go.Proofs.Try.func71 (body_loops (by kernel_rfl) (loops_all 0 (by kernel_rfl) (fun k hk => absurd hk (Nat.not_lt_zero k)))) (by kernel_rfl) (by kernel_rfl) impl_ApplyRecord_1_VC

/-! slices.IndexFunc[[]impl.Write,impl.Write] -/

noncomputable def slices_IndexFunc_impl_Write_impl_Write__impl_ApplyRecord_1_D2 (i : List (Int × Int × Unit) × (Option (List (List (Int × Int × Int × Int × Int × Unit)) × Unit) × Unit) × Int × Unit) (v : Int × Unit) (R : Type) (K : Int × Unit ⊕ Int × Unit ⊕ Unit → Option R) : Option R :=
  bif decide (v.1 < i.2.2.1) then Option.bind (lAt i.1 v.1) fun v_1 => Option.bind (impl_ApplyRecord_1_S ((v_1.1, v_1.2.1, ()), i.2.1.1, ())) fun v_2 => bif v_2.1 then K (Sum.inr (Sum.inl (v.1, ()))) else K (Sum.inl (IntKind.wrap IntKind.i64
  (v.1 + 1), ())) else K (Sum.inr (Sum.inr ()))

theorem slices_IndexFunc_impl_Write_impl_Write__impl_ApplyRecord_1_D2_nat (i : List (Int × Int × Unit) × (Option (List (List (Int × Int × Int × Int × Int × Unit)) × Unit) × Unit) × Int × Unit) (v : Int × Unit) (R : Type) (K : Int × Unit ⊕ Int × Unit ⊕ Unit → Option R) : slices_IndexFunc_impl_Write_impl_Write__impl_ApplyRecord_1_D2 i v R K = (slices_IndexFunc_impl_Write_impl_Write__impl_ApplyRecord_1_D2 i v _ some).bind K := nat_bif (nat_bind fun _ => nat_bind fun _ => nat_bif (nat_some) (nat_some)) (nat_some)

def slices_IndexFunc_impl_Write_impl_Write__impl_ApplyRecord_1_T2 : Tmpl := Tmpl.mk (TmL.slot (Ty.slice YReadMark) (TmL.slot (Ty.fn 71 (Ty.prod (Ty.iref (Ty.prod (Ty.slice (Ty.slice (Ty.prod Ty.i (Ty.prod Ty.i (Ty.prod
  Ty.i YReadMark))))) Ty.unit)) Ty.unit)) (TmL.junk (TmL.junk (TmL.junk (TmL.junk (TmL.junk (TmL.slot Ty.i (TmL.slot Ty.i (TmL.junk
  (TmL.junk (TmL.junk (TmL.junk (TmL.junk (TmL.junk (TmL.junk (TmL.junk (TmL.junk (TmL.junk TmL.nil))))))))))))))))))) TmH.nil

def slices_IndexFunc_impl_Write_impl_Write__impl_ApplyRecord_1_X2_0 (i : List (Int × Int × Unit) × (Option (List (List (Int × Int × Int × Int × Int × Unit)) × Unit) × Unit) × Int × Unit) (p : Int × Unit) : St :=
  St.mk [AV.junk, AV.junk, AV.junk, AV.junk, AV.pv Ty.i p.1, AV.junk, AV.junk, AV.junk, AV.junk, AV.junk, AV.junk, AV.junk, AV.junk, AV.junk, AV.junk, AV.junk, AV.junk, AV.junk, AV.junk] []

def slices_IndexFunc_impl_Write_impl_Write__impl_ApplyRecord_1_X2_1 (i : List (Int × Int × Unit) × (Option (List (List (Int × Int × Int × Int × Int × Unit)) × Unit) × Unit) × Int × Unit) (p : Unit) : St :=
  St.mk [AV.junk, AV.junk, AV.junk, AV.junk, AV.junk, AV.junk, AV.junk, AV.junk, AV.junk, AV.junk, AV.junk, AV.junk, AV.junk, AV.junk, AV.junk, AV.junk, AV.junk, AV.junk, AV.junk] []

noncomputable def slices_IndexFunc_impl_Write_impl_Write__impl_ApplyRecord_1_E2 (i : List (Int × Int × Unit) × (Option (List (List (Int × Int × Int × Int × Int × Unit)) × Unit) × Unit) × Int × Unit) (p : Int × Unit ⊕ Unit) (R : Type) (K : Ex → St → Option R) : Option R := sumC p (fun p => K (Ex.ret) (slices_IndexFunc_impl_Write_impl_Write__impl_ApplyRecord_1_X2_0 i p)) (fun p => K (Ex.exit 0) (slices_IndexFunc_impl_Write_impl_Write__impl_ApplyRecord_1_X2_1 i p))

noncomputable def slices_IndexFunc_impl_Write_impl_Write__impl_ApplyRecord_1_K2 (i : List (Int × Int × Unit) × (Option (List (List (Int × Int × Int × Int × Int × Unit)) × Unit) × Unit) × Int × Unit) (p : Int × Unit ⊕ Unit) : Ex × St := sumC p (fun p => ((Ex.ret), slices_IndexFunc_impl_Write_impl_Write__impl_ApplyRecord_1_X2_0 i p)) (fun p => ((Ex.exit 0), slices_IndexFunc_impl_Write_impl_Write__impl_ApplyRecord_1_X2_1 i p))

def slices_IndexFunc_impl_Write_impl_Write__impl_ApplyRecord_1_M2 (i : List (Int × Int × Unit) × (Option (List (List (Int × Int × Int × Int × Int × Unit)) × Unit) × Unit) × Int × Unit) (v : Int × Unit) : den slices_IndexFunc_impl_Write_impl_Write__impl_ApplyRecord_1_T2.ty := (i.1, i.2.1, i.2.2.1, v.1, ())

def slices_IndexFunc_impl_Write_impl_Write__impl_ApplyRecord_1_P2 (x : den slices_IndexFunc_impl_Write_impl_Write__impl_ApplyRecord_1_T2.ty) : (List (Int × Int × Unit) × (Option (List (List (Int × Int × Int × Int × Int × Unit)) × Unit) × Unit) × Int × Unit) × (Int × Unit) := ((x.1, x.2.1, x.2.2.1, ()), (x.2.2.2.1, ()))

noncomputable def slices_IndexFunc_impl_Write_impl_Write__impl_ApplyRecord_1_F2 : LoopFn := fun s R K => Tmpl.readS slices_IndexFunc_impl_Write_impl_Write__impl_ApplyRecord_1_T2 0 s fun x => (iter (fun v => slices_IndexFunc_impl_Write_impl_Write__impl_ApplyRecord_1_D2 (slices_IndexFunc_impl_Write_impl_Write__impl_ApplyRecord_1_P2 x).1 v _ some) (slices_IndexFunc_impl_Write_impl_Write__impl_ApplyRecord_1_P2 x).2).bind fun p => slices_IndexFunc_impl_Write_impl_Write__impl_ApplyRecord_1_E2 (slices_IndexFunc_impl_Write_impl_Write__impl_ApplyRecord_1_P2 x).1 p R K

noncomputable def slices_IndexFunc_impl_Write_impl_Write__impl_ApplyRecord_1_C : Cfg := { ti := g_tis, ents := [impl_ApplyRecord_1_Ent], ann := [(2, slices_IndexFunc_impl_Write_impl_Write__impl_ApplyRecord_1_F2)], lent := 0 }

def slices_IndexFunc_impl_Write_impl_Write__impl_ApplyRecord_1_ti : Tmpl := Tmpl.mk (TmL.slot (Ty.slice YReadMark) (TmL.slot (Ty.fn 71 (Ty.prod (Ty.iref (Ty.prod (Ty.slice (Ty.slice (Ty.prod Ty.i (Ty.prod Ty.i (Ty.prod
  Ty.i YReadMark))))) Ty.unit)) Ty.unit)) TmL.nil)) TmH.nil

def slices_IndexFunc_impl_Write_impl_Write__impl_ApplyRecord_1_to : Tmpl := Tmpl.mk (TmL.slot Ty.i TmL.nil) TmH.nil

noncomputable def slices_IndexFunc_impl_Write_impl_Write__impl_ApplyRecord_1_S (x : List (Int × Int × Unit) × (Option (List (List (Int × Int × Int × Int × Int × Unit)) × Unit) × Unit) × Unit) : Option (Int × Unit) :=
  Option.bind (iter (fun v => slices_IndexFunc_impl_Write_impl_Write__impl_ApplyRecord_1_D2 (x.1, x.2.1, (↑(List.length x.1) : Int), ()) v (Int × Unit ⊕ Int × Unit ⊕ Unit) some) (0, ())) fun p => sumC p (fun p => some (p.1, ())) fun p => some
  (-1, ())

noncomputable def slices_IndexFunc_impl_Write_impl_Write__impl_ApplyRecord_1_Ent : Ent := ⟨112, slices_IndexFunc_impl_Write_impl_Write__impl_ApplyRecord_1_ti, slices_IndexFunc_impl_Write_impl_Write__impl_ApplyRecord_1_to, slices_IndexFunc_impl_Write_impl_Write__impl_ApplyRecord_1_S⟩

theorem slices_IndexFunc_impl_Write_impl_Write__impl_ApplyRecord_1_HC : CfgOK Go.Proofs.Try.prog slices_IndexFunc_impl_Write_impl_Write__impl_ApplyRecord_1_C := ⟨⟨info_ok g_tisOK⟩, (all_cons impl_ApplyRecord_1_OK all_nil), g_wide⟩

theorem slices_IndexFunc_impl_Write_impl_Write__impl_ApplyRecord_1_lk2 : ∀ F, ((slices_IndexFunc_impl_Write_impl_Write__impl_ApplyRecord_1_C).ann.find? fun x => x.1 == firstId ((loopsOf (codeOf Go.Proofs.Try.f112)).getD 0 .skip)).map (·.2) = some F → LoopOK Go.Proofs.Try.prog slices_IndexFunc_impl_Write_impl_Write__impl_ApplyRecord_1_C.lent ((loopsOf (codeOf Go.Proofs.Try.f112)).getD 0 .skip) F := by
  refine lookup_ok (show ((slices_IndexFunc_impl_Write_impl_Write__impl_ApplyRecord_1_C).ann.find? fun x => x.1 == firstId ((loopsOf (codeOf Go.Proofs.Try.f112)).getD 0 .skip)).map (·.2) = some slices_IndexFunc_impl_Write_impl_Write__impl_ApplyRecord_1_F2 from by kernel_rfl) ?_
  exact loop_ok slices_IndexFunc_impl_Write_impl_Write__impl_ApplyRecord_1_HC (loops_all 0 (by kernel_rfl) (fun k hk => absurd hk (Nat.not_lt_zero k))) slices_IndexFunc_impl_Write_impl_Write__impl_ApplyRecord_1_T2 [4] slices_IndexFunc_impl_Write_impl_Write__impl_ApplyRecord_1_M2 slices_IndexFunc_impl_Write_impl_Write__impl_ApplyRecord_1_P2 (fun x => rfl) slices_IndexFunc_impl_Write_impl_Write__impl_ApplyRecord_1_D2 slices_IndexFunc_impl_Write_impl_Write__impl_ApplyRecord_1_D2_nat slices_IndexFunc_impl_Write_impl_Write__impl_ApplyRecord_1_E2 slices_IndexFunc_impl_Write_impl_Write__impl_ApplyRecord_1_K2 (fun i p R K => by rcases p with p | p <;> rfl) (fun i v => by kernel_rfl)

theorem slices_IndexFunc_impl_Write_impl_Write__impl_ApplyRecord_1_VC (x : den slices_IndexFunc_impl_Write_impl_Write__impl_ApplyRecord_1_ti.ty) : vcall slices_IndexFunc_impl_Write_impl_Write__impl_ApplyRecord_1_C Go.Proofs.Try.f112 slices_IndexFunc_impl_Write_impl_Write__impl_ApplyRecord_1_ti slices_IndexFunc_impl_Write_impl_Write__impl_ApplyRecord_1_to x = slices_IndexFunc_impl_Write_impl_Write__impl_ApplyRecord_1_S x := by kernel_rfl

theorem slices_IndexFunc_impl_Write_impl_Write__impl_ApplyRecord_1_OK : EntOK Go.Proofs.Try.prog slices_IndexFunc_impl_Write_impl_Write__impl_ApplyRecord_1_Ent := EntOK.of_vcall slices_IndexFunc_impl_Write_impl_Write__impl_ApplyRecord_1_HC Go.Proofs.Try.func112 (body_loops (by kernel_rfl) (loops_all 1 (by kernel_rfl) (fun k hk => match k, hk with | 0, _ => slices_IndexFunc_impl_Write_impl_Write__impl_ApplyRecord_1_lk2))) (by kernel_rfl) (by kernel_rfl) slices_IndexFunc_impl_Write_impl_Write__impl_ApplyRecord_1_VC

/-! slices.ContainsFunc[[]impl.Write,impl.Write] -/

noncomputable def slices_ContainsFunc_impl_Write_impl_Write__impl_ApplyRecord_1_C : Cfg := { ti := g_tis, ents := [slices_IndexFunc_impl_Write_impl_Write__impl_ApplyRecord_1_Ent], ann := [], lent := 0 }

def slices_ContainsFunc_impl_Write_impl_Write__impl_ApplyRecord_1_ti : Tmpl := Tmpl.mk (TmL.slot (Ty.slice YReadMark) (TmL.slot (Ty.fn 71 (Ty.prod (Ty.iref (Ty.prod (Ty.slice (Ty.slice (Ty.prod Ty.i (Ty.prod Ty.i (Ty.prod
  Ty.i YReadMark))))) Ty.unit)) Ty.unit)) TmL.nil)) TmH.nil

def slices_ContainsFunc_impl_Write_impl_Write__impl_ApplyRecord_1_to : Tmpl := Tmpl.mk (TmL.slot Ty.bool TmL.nil) TmH.nil

noncomputable def slices_ContainsFunc_impl_Write_impl_Write__impl_ApplyRecord_1_S (x : List (Int × Int × Unit) × (Option (List (List (Int × Int × Int × Int × Int × Unit)) × Unit) × Unit) × Unit) : Option (Bool × Unit) :=
  Option.bind (slices_IndexFunc_impl_Write_impl_Write__impl_ApplyRecord_1_S (x.1, x.2.1, ())) fun v => some (decide (v.1 ≥ 0), ())

noncomputable def slices_ContainsFunc_impl_Write_impl_Write__impl_ApplyRecord_1_Ent : Ent := ⟨70, slices_ContainsFunc_impl_Write_impl_Write__impl_ApplyRecord_1_ti, slices_ContainsFunc_impl_Write_impl_Write__impl_ApplyRecord_1_to, slices_ContainsFunc_impl_Write_impl_Write__impl_ApplyRecord_1_S⟩

theorem slices_ContainsFunc_impl_Write_impl_Write__impl_ApplyRecord_1_HC : CfgOK Go.Proofs.Try.prog slices_ContainsFunc_impl_Write_impl_Write__impl_ApplyRecord_1_C := ⟨⟨info_ok g_tisOK⟩, (all_cons slices_IndexFunc_impl_Write_impl_Write__impl_ApplyRecord_1_OK all_nil), g_wide⟩

theorem slices_ContainsFunc_impl_Write_impl_Write__impl_ApplyRecord_1_VC (x : den slices_ContainsFunc_impl_Write_impl_Write__impl_ApplyRecord_1_ti.ty) : vcall slices_ContainsFunc_impl_Write_impl_Write__impl_ApplyRecord_1_C Go.Proofs.Try.f70 slices_ContainsFunc_impl_Write_impl_Write__impl_ApplyRecord_1_ti slices_ContainsFunc_impl_Write_impl_Write__impl_ApplyRecord_1_to x = slices_ContainsFunc_impl_Write_impl_Write__impl_ApplyRecord_1_S x := by kernel_rfl

theorem slices_ContainsFunc_impl_Write_impl_Write__impl_ApplyRecord_1_OK : EntOK Go.Proofs.Try.prog slices_ContainsFunc_impl_Write_impl_Write__impl_ApplyRecord_1_Ent := EntOK.of_vcall slices_ContainsFunc_impl_Write_impl_Write__impl_ApplyRecord_1_HC Go.Proofs.Try.func70 (body_loops (by kernel_rfl) (loops_all 0 (by kernel_rfl) (fun k hk => absurd hk (Nat.not_lt_zero k)))) (by kernel_rfl) (by kernel_rfl) slices_ContainsFunc_impl_Write_impl_Write__impl_ApplyRecord_1_VC

/-! (impl.Store).find -/

noncomputable def impl_Store_find_l_C : Cfg := { ti := g_tis, ents := [impl_FindVersion_Ent], ann := [], lent := 1 }

def impl_Store_find_l_ti : Tmpl := Tmpl.mk (TmL.agg (TmL.own 0 TmL.nil) (TmL.agg (TmL.slot Ty.i (TmL.slot Ty.i TmL.nil)) TmL.nil)) (TmH.tree false 0 (Ty.slice (Ty.prod Ty.i (Ty.prod Ty.i (Ty.prod (Ty.int
  IntKind.i64) YReadMark)))) TmH.nil)

def impl_Store_find_l_to : Tmpl := Tmpl.mk (TmL.mptr 0 0 0 TmL.nil) (TmH.tree false 0 (Ty.slice YVersion) TmH.nil)

noncomputable def impl_Store_find_l_S (x : Int × Int × List (List (Int × Int × Int × Int × Int × Unit)) × Unit) : Option (Option (Nat × Nat) × List (List (Int × Int × Int × Int × Int × Unit)) × Unit) :=
  if 0 ≤ x.1 ∧ x.1 < (↑(List.length x.2.2.1) : Int) then Option.bind x.2.2.1[0 + Int.toNat x.1]? fun v => Option.bind x.2.2.1[0 + Int.toNat x.1]? fun v => Option.bind (impl_FindVersion_S (v, x.2.1, ())) fun v => bif decide (v.1 < 0) then some
  (none, x.2.2.1, ()) else Option.bind x.2.2.1[0 + Int.toNat x.1]? fun v_1 => if 0 ≤ v.1 ∧ v.1 < (↑(List.length v_1) : Int) then some (some (0 + Int.toNat x.1, 0 + Int.toNat v.1), x.2.2.1, ()) else none else none

noncomputable def impl_Store_find_l_Ent : Ent := ⟨72, impl_Store_find_l_ti, impl_Store_find_l_to, impl_Store_find_l_S⟩

theorem impl_Store_find_l_HC : CfgOK Go.Proofs.Try.prog impl_Store_find_l_C := ⟨⟨info_ok g_tisOK⟩, (all_cons impl_FindVersion_OK all_nil), g_wide⟩

theorem impl_Store_find_l_VC (x : den impl_Store_find_l_ti.ty) : vcall impl_Store_find_l_C Go.Proofs.Try.f72 impl_Store_find_l_ti impl_Store_find_l_to x = impl_Store_find_l_S x := by kernel_rfl

theorem impl_Store_find_l_OK : EntOK Go.Proofs.Try.prog impl_Store_find_l_Ent := EntOK.of_vcall impl_Store_find_l_HC Go.Proofs.Try.func72 (body_loops (by kernel_rfl) (loops_all 0 (by kernel_rfl) (fun k hk => absurd hk (Nat.not_lt_zero k)))) (by kernel_rfl) (by kernel_rfl) impl_Store_find_l_VC

/-! (impl.Store).latest -/

noncomputable def impl_Store_latest_l_C : Cfg := { ti := g_tis, ents := [], ann := [], lent := 1 }

def impl_Store_latest_l_ti : Tmpl := Tmpl.mk (TmL.agg (TmL.own 0 TmL.nil) (TmL.slot Ty.i TmL.nil)) (TmH.tree false 0 (Ty.slice (Ty.prod Ty.i (Ty.prod Ty.i (Ty.prod Ty.i (Ty.prod Ty.i (Ty.prod
  Ty.i Ty.unit)))))) TmH.nil)

def impl_Store_latest_l_to : Tmpl := Tmpl.mk (TmL.mptr 0 0 0 TmL.nil) (TmH.tree false 0 (Ty.slice YVersion) TmH.nil)

noncomputable def impl_Store_latest_l_S (x : Int × List (List (Int × Int × Int × Int × Int × Unit)) × Unit) : Option (Option (Nat × Nat) × List (List (Int × Int × Int × Int × Int × Unit)) × Unit) :=
  if 0 ≤ x.1 ∧ x.1 < (↑(List.length x.2.1) : Int) then Option.bind x.2.1[0 + Int.toNat x.1]? fun v => Option.bind x.2.1[0 + Int.toNat x.1]? fun v => Option.bind x.2.1[0 + Int.toNat x.1]? fun v_1 => if 0 ≤ IntKind.wrap IntKind.i64
  ((↑(List.length v) : Int) - 1) ∧ IntKind.wrap IntKind.i64 ((↑(List.length v) : Int) - 1) < (↑(List.length v_1) : Int) then some (some (0 + Int.toNat x.1, 0 + Int.toNat (IntKind.wrap IntKind.i64 ((↑(List.length v) : Int) - 1))), x.2.1, ())
  else none else none

noncomputable def impl_Store_latest_l_Ent : Ent := ⟨73, impl_Store_latest_l_ti, impl_Store_latest_l_to, impl_Store_latest_l_S⟩

theorem impl_Store_latest_l_HC : CfgOK Go.Proofs.Try.prog impl_Store_latest_l_C := ⟨⟨info_ok g_tisOK⟩, all_nil, g_wide⟩

theorem impl_Store_latest_l_VC (x : den impl_Store_latest_l_ti.ty) : vcall impl_Store_latest_l_C Go.Proofs.Try.f73 impl_Store_latest_l_ti impl_Store_latest_l_to x = impl_Store_latest_l_S x := by kernel_rfl

theorem impl_Store_latest_l_OK : EntOK Go.Proofs.Try.prog impl_Store_latest_l_Ent := EntOK.of_vcall impl_Store_latest_l_HC Go.Proofs.Try.func73 (body_loops (by kernel_rfl) (loops_all 0 (by kernel_rfl) (fun k hk => absurd hk (Nat.not_lt_zero k)))) (by kernel_rfl) (by kernel_rfl) impl_Store_latest_l_VC

/-! impl.ApplyRecord -/

noncomputable def impl_ApplyRecord_D8 (i : List (Int × Int × Unit) × Int × Int × Int × Int × Int × List (Int × Int × Unit) × List (Int × Int × Unit) × List (List (Int × Int × Int × Int × Int × Unit)) × Unit) (v : Int × List (List (Int × Int × Int × Int × Int × Unit)) × Unit) (R : Type) (K : Int × List (List (Int × Int × Int × Int × Int × Unit)) × Unit ⊕ List (List (Int × Int × Int × Int × Int × Unit)) × Unit → Option R) : Option R :=
  bif decide (v.1 < i.2.1) then Option.bind (lAt i.1 v.1) fun v_1 => Option.bind (impl_Store_find_l_S (v_1.1, v_1.2.1, v.2.1, ())) fun v_2 => Option.bind v_2.1 fun v_3 => Option.bind v_2.2.1[v_3.1]? fun v_4 => Option.bind v_4[v_3.2]? fun v_5
  => Option.bind v_2.1 fun v_6 => Option.bind v_2.2.1[v_6.1]? fun v_7 => Option.bind v_7[v_6.2]? fun v_8 => K (Sum.inl (IntKind.wrap IntKind.i64 (v.1 + 1), List.set v_2.2.1 v_6.1 (List.set v_7 v_6.2 (v_8.1, v_8.2.1, v_8.2.2.1, mx v_5.2.2.2.1
  i.2.2.1, v_8.2.2.2.2.1, ())), ())) else K (Sum.inr (v.2.1, ()))

theorem impl_ApplyRecord_D8_nat (i : List (Int × Int × Unit) × Int × Int × Int × Int × Int × List (Int × Int × Unit) × List (Int × Int × Unit) × List (List (Int × Int × Int × Int × Int × Unit)) × Unit) (v : Int × List (List (Int × Int × Int × Int × Int × Unit)) × Unit) (R : Type) (K : Int × List (List (Int × Int × Int × Int × Int × Unit)) × Unit ⊕ List (List (Int × Int × Int × Int × Int × Unit)) × Unit → Option R) : impl_ApplyRecord_D8 i v R K = (impl_ApplyRecord_D8 i v _ some).bind K := nat_bif (nat_bind fun _ => nat_bind fun _ => nat_bind fun _ => nat_bind fun _ => nat_bind fun _ => nat_bind fun _ => nat_bind fun _ => nat_bind fun _ => nat_some) (nat_some)

def impl_ApplyRecord_T8 : Tmpl := Tmpl.mk (TmL.junk (TmL.junk (TmL.junk (TmL.junk (TmL.ptr 0 0 0 (TmL.junk (TmL.ptr 1 0 0 (TmL.junk (TmL.ptr 2 0 0 (TmL.ptr 4 0 0 (TmL.junk (TmL.junk (TmL.junk (TmL.junk (TmL.junk (TmL.junk (TmL.junk (TmL.junk (TmL.junk (TmL.junk (TmL.junk
  (TmL.junk (TmL.junk (TmL.junk (TmL.junk (TmL.junk (TmL.junk (TmL.junk (TmL.junk (TmL.junk (TmL.junk (TmL.junk (TmL.junk (TmL.junk (TmL.junk (TmL.junk (TmL.junk (TmL.junk (TmL.junk (TmL.junk (TmL.junk (TmL.junk (TmL.junk (TmL.junk (TmL.junk
  (TmL.junk (TmL.junk (TmL.junk (TmL.junk (TmL.junk (TmL.junk (TmL.junk (TmL.junk (TmL.junk (TmL.slot (Ty.slice YReadMark) (TmL.slot Ty.i (TmL.slot (Ty.int
  IntKind.i64) (TmL.junk (TmL.junk (TmL.junk (TmL.junk (TmL.junk (TmL.junk (TmL.junk (TmL.junk (TmL.junk (TmL.junk (TmL.junk (TmL.junk (TmL.junk (TmL.junk (TmL.junk (TmL.junk (TmL.junk (TmL.junk (TmL.junk (TmL.junk (TmL.junk (TmL.junk
  (TmL.junk (TmL.junk (TmL.junk (TmL.junk (TmL.junk (TmL.junk (TmL.junk (TmL.junk (TmL.junk (TmL.junk (TmL.junk (TmL.junk (TmL.junk (TmL.junk (TmL.junk (TmL.junk (TmL.junk (TmL.junk (TmL.junk (TmL.junk (TmL.junk (TmL.junk (TmL.junk (TmL.junk
  (TmL.junk (TmL.junk (TmL.junk (TmL.junk (TmL.junk (TmL.junk (TmL.junk (TmL.junk (TmL.junk (TmL.junk (TmL.junk (TmL.junk (TmL.junk (TmL.junk
  TmL.nil))))))))))))))))))))))))))))))))))))))))))))))))))))))))))))))))))))))))))))))))))))))))))))))))))))))))))))))))))))) (TmH.cells 6 (TmL.slot Ty.i (TmL.slot Ty.i (TmL.slot Ty.i (TmL.slot
  Ty.i (TmL.slot (Ty.slice YReadMark) (TmL.slot (Ty.slice YReadMark) TmL.nil)))))) (TmH.cells 1 (TmL.const
  AV.nils TmL.nil) (TmH.cells 1 (TmL.own 3 TmL.nil) (TmH.tree false 0 (Ty.slice YVersion)
  (TmH.cells 1 (TmL.own 5 TmL.nil) (TmH.tree false 0 (Ty.slice YVersion) TmH.nil))))))

def impl_ApplyRecord_X8_0 (i : List (Int × Int × Unit) × Int × Int × Int × Int × Int × List (Int × Int × Unit) × List (Int × Int × Unit) × List (List (Int × Int × Int × Int × Int × Unit)) × Unit) (p : List (List (Int × Int × Int × Int × Int × Unit)) × Unit) : St :=
  St.mk [AV.junk, AV.junk, AV.junk, AV.junk, AV.ptr 0 none 0 0, AV.junk, AV.ptr 1 none 0 0, AV.junk, AV.ptr 2 none 0 0, AV.ptr 4 none 0 0, AV.junk, AV.junk, AV.junk, AV.junk, AV.junk, AV.junk, AV.junk, AV.junk, AV.junk, AV.junk, AV.junk,
  AV.junk, AV.junk, AV.junk, AV.junk, AV.junk, AV.junk, AV.junk, AV.junk, AV.junk, AV.junk, AV.junk, AV.junk, AV.junk, AV.junk, AV.junk, AV.junk, AV.junk, AV.junk, AV.junk, AV.junk, AV.junk, AV.junk, AV.junk, AV.junk, AV.junk, AV.junk,
  AV.junk, AV.junk, AV.junk, AV.junk, AV.junk, AV.junk, AV.junk, AV.junk, AV.junk, AV.junk, AV.junk, AV.junk, AV.junk, AV.junk, AV.junk, AV.junk, AV.junk, AV.junk, AV.junk, AV.junk, AV.junk, AV.junk, AV.junk, AV.junk, AV.junk, AV.junk,
  AV.junk, AV.junk, AV.junk, AV.junk, AV.junk, AV.junk, AV.junk, AV.junk, AV.junk, AV.junk, AV.junk, AV.junk, AV.junk, AV.junk, AV.junk, AV.junk, AV.junk, AV.junk, AV.junk, AV.junk, AV.junk, AV.junk, AV.junk, AV.junk, AV.junk, AV.junk,
  AV.junk, AV.junk, AV.junk, AV.junk, AV.junk, AV.junk, AV.junk, AV.junk, AV.junk, AV.junk, AV.junk, AV.junk, AV.junk, AV.junk, AV.junk, AV.junk, AV.junk, AV.junk] [some (Cont.cells 6 [[AV.pv Ty.i i.2.2.1, AV.pv (Ty.int
  IntKind.i64) i.2.2.2.1, AV.pv Ty.i i.2.2.2.2.1, AV.pv Ty.i i.2.2.2.2.2.1, AV.pv (Ty.slice YReadMark) i.2.2.2.2.2.2.1, AV.pv (Ty.slice (Ty.prod
  Ty.i (Ty.prod Ty.i Ty.unit))) i.2.2.2.2.2.2.2.1]]), some (Cont.cells 1 [[AV.nils]]), some (Cont.cells 1 [[AV.own 3 none none]]), some (Cont.tree false 0 (Ty.slice (Ty.prod Ty.i (Ty.prod (Ty.int
  IntKind.i64) (Ty.prod Ty.i YReadMark)))) i.2.2.2.2.2.2.2.2.1 none), some (Cont.cells 1 [[AV.own 5 none none]]), some (Cont.tree false 0 (Ty.slice (Ty.prod (Ty.int
  IntKind.i64) (Ty.prod Ty.i (Ty.prod Ty.i YReadMark)))) p.1 none)]

noncomputable def impl_ApplyRecord_E8 (i : List (Int × Int × Unit) × Int × Int × Int × Int × Int × List (Int × Int × Unit) × List (Int × Int × Unit) × List (List (Int × Int × Int × Int × Int × Unit)) × Unit) (p : List (List (Int × Int × Int × Int × Int × Unit)) × Unit) (R : Type) (K : Ex → St → Option R) : Option R := K (Ex.exit 0) (impl_ApplyRecord_X8_0 i p)

noncomputable def impl_ApplyRecord_K8 (i : List (Int × Int × Unit) × Int × Int × Int × Int × Int × List (Int × Int × Unit) × List (Int × Int × Unit) × List (List (Int × Int × Int × Int × Int × Unit)) × Unit) (p : List (List (Int × Int × Int × Int × Int × Unit)) × Unit) : Ex × St := ((Ex.exit 0), impl_ApplyRecord_X8_0 i p)

def impl_ApplyRecord_M8 (i : List (Int × Int × Unit) × Int × Int × Int × Int × Int × List (Int × Int × Unit) × List (Int × Int × Unit) × List (List (Int × Int × Int × Int × Int × Unit)) × Unit) (v : Int × List (List (Int × Int × Int × Int × Int × Unit)) × Unit) : den impl_ApplyRecord_T8.ty := (i.1, i.2.1, v.1, i.2.2.1, i.2.2.2.1, i.2.2.2.2.1, i.2.2.2.2.2.1, i.2.2.2.2.2.2.1, i.2.2.2.2.2.2.2.1, i.2.2.2.2.2.2.2.2.1, v.2.1, ())

def impl_ApplyRecord_P8 (x : den impl_ApplyRecord_T8.ty) : (List (Int × Int × Unit) × Int × Int × Int × Int × Int × List (Int × Int × Unit) × List (Int × Int × Unit) × List (List (Int × Int × Int × Int × Int × Unit)) × Unit) × (Int × List (List (Int × Int × Int × Int × Int × Unit)) × Unit) := ((x.1, x.2.1, x.2.2.2.1, x.2.2.2.2.1, x.2.2.2.2.2.1, x.2.2.2.2.2.2.1, x.2.2.2.2.2.2.2.1, x.2.2.2.2.2.2.2.2.1, x.2.2.2.2.2.2.2.2.2.1, ()), (x.2.2.1, x.2.2.2.2.2.2.2.2.2.2.1, ()))

noncomputable def impl_ApplyRecord_F8 : LoopFn := fun s R K => Tmpl.readS impl_ApplyRecord_T8 0 s fun x => (iter (fun v => impl_ApplyRecord_D8 (impl_ApplyRecord_P8 x).1 v _ some) (impl_ApplyRecord_P8 x).2).bind fun p => impl_ApplyRecord_E8 (impl_ApplyRecord_P8 x).1 p R K

noncomputable def impl_ApplyRecord_D14 (i : List (Int × Int × Unit) × Int × Int × Int × Int × Int × List (Int × Int × Unit) × List (Int × Int × Unit) × List (List (Int × Int × Int × Int × Int × Unit)) × Unit) (v : Int × List (List (Int × Int × Int × Int × Int × Unit)) × Unit) (R : Type) (K : Int × List (List (Int × Int × Int × Int × Int × Unit)) × Unit ⊕ List (List (Int × Int × Int × Int × Int × Unit)) × Unit → Option R) : Option R :=
  bif decide (v.1 < i.2.1) then Option.bind (lAt i.1 v.1) fun v_1 => Option.bind (impl_Store_latest_l_S (v_1.1, v.2.1, ())) fun v_2 => Option.bind v_2.1 fun v_3 => Option.bind v_2.2.1[v_3.1]? fun v_4 => Option.bind v_4[v_3.2]? fun v_5 => if 0
  ≤ v_1.1 ∧ v_1.1 < (↑(List.length (List.set v_2.2.1 v_3.1 (List.set v_4 v_3.2 (v_5.1, v_5.2.1, v_5.2.2.1, v_5.2.2.2.1, i.2.2.2.2.1, ())))) : Int) then Option.bind (List.set v_2.2.1 v_3.1 (List.set v_4 v_3.2 (v_5.1, v_5.2.1, v_5.2.2.1,
  v_5.2.2.2.1, i.2.2.2.2.1, ())))[0 + Int.toNat v_1.1]? fun v_6 => Option.bind (List.set v_2.2.1 v_3.1 (List.set v_4 v_3.2 (v_5.1, v_5.2.1, v_5.2.2.1, v_5.2.2.2.1, i.2.2.2.2.1, ())))[0 + Int.toNat v_1.1]? fun v_7 => if List.length (v_7 ++
  [(i.2.2.2.1, v_1.2.1, i.2.2.1, i.2.2.1, 1000, ())]) ≤ 879609302220 then if 0 ≤ v_1.1 ∧ v_1.1 < (↑(List.length (List.set v_2.2.1 v_3.1 (List.set v_4 v_3.2 (v_5.1, v_5.2.1, v_5.2.2.1, v_5.2.2.2.1, i.2.2.2.2.1, ())))) : Int) then Option.bind
  (List.set v_2.2.1 v_3.1 (List.set v_4 v_3.2 (v_5.1, v_5.2.1, v_5.2.2.1, v_5.2.2.2.1, i.2.2.2.2.1, ())))[0 + Int.toNat v_1.1]? fun v_8 => if 1 ≤ 1 ∧ true = true ∧ 0 + Int.toNat v_1.1 = 0 + Int.toNat v_1.1 ∧ 0 ≤ 0 ∧ 0 < 1 then K (Sum.inl
  (IntKind.wrap IntKind.i64 (v.1 + 1), List.set (List.set v_2.2.1 v_3.1 (List.set v_4 v_3.2 (v_5.1, v_5.2.1, v_5.2.2.1, v_5.2.2.2.1, i.2.2.2.2.1, ()))) (0 + Int.toNat v_1.1) (v_7 ++ [(i.2.2.2.1, v_1.2.1, i.2.2.1, i.2.2.1, 1000, ())]), ()))
  else none else none else none else none else K (Sum.inr (v.2.1, ()))

theorem impl_ApplyRecord_D14_nat (i : List (Int × Int × Unit) × Int × Int × Int × Int × Int × List (Int × Int × Unit) × List (Int × Int × Unit) × List (List (Int × Int × Int × Int × Int × Unit)) × Unit) (v : Int × List (List (Int × Int × Int × Int × Int × Unit)) × Unit) (R : Type) (K : Int × List (List (Int × Int × Int × Int × Int × Unit)) × Unit ⊕ List (List (Int × Int × Int × Int × Int × Unit)) × Unit → Option R) : impl_ApplyRecord_D14 i v R K = (impl_ApplyRecord_D14 i v _ some).bind K := nat_bif (nat_bind fun _ => nat_bind fun _ => nat_bind fun _ => nat_bind fun _ => nat_bind fun _ => nat_ite (nat_bind fun _ => nat_bind fun _ => nat_ite (nat_ite (nat_bind fun _ => nat_ite (nat_some))))) (nat_some)

def impl_ApplyRecord_T14 : Tmpl := Tmpl.mk (TmL.junk (TmL.junk (TmL.junk (TmL.junk (TmL.ptr 0 0 0 (TmL.junk (TmL.ptr 1 0 0 (TmL.junk (TmL.ptr 2 0 0 (TmL.ptr 4 0 0 (TmL.junk (TmL.junk (TmL.junk (TmL.junk (TmL.junk (TmL.junk (TmL.junk (TmL.junk (TmL.junk (TmL.junk (TmL.junk
  (TmL.junk (TmL.junk (TmL.junk (TmL.junk (TmL.junk (TmL.junk (TmL.junk (TmL.junk (TmL.junk (TmL.junk (TmL.junk (TmL.junk (TmL.junk (TmL.junk (TmL.junk (TmL.junk (TmL.junk (TmL.junk (TmL.junk (TmL.junk (TmL.junk (TmL.junk (TmL.junk (TmL.junk
  (TmL.junk (TmL.junk (TmL.junk (TmL.junk (TmL.junk (TmL.junk (TmL.junk (TmL.junk (TmL.junk (TmL.junk (TmL.junk (TmL.junk (TmL.junk (TmL.junk (TmL.junk (TmL.junk (TmL.junk (TmL.junk (TmL.junk (TmL.junk (TmL.junk (TmL.junk (TmL.junk (TmL.junk
  (TmL.junk (TmL.junk (TmL.junk (TmL.junk (TmL.junk (TmL.junk (TmL.slot (Ty.slice YReadMark) (TmL.slot Ty.i (TmL.slot Ty.i (TmL.junk (TmL.junk
  (TmL.junk (TmL.junk (TmL.junk (TmL.junk (TmL.junk (TmL.junk (TmL.junk (TmL.junk (TmL.junk (TmL.junk (TmL.junk (TmL.junk (TmL.junk (TmL.junk (TmL.junk (TmL.junk (TmL.junk (TmL.junk (TmL.junk (TmL.junk (TmL.junk (TmL.junk (TmL.junk (TmL.junk
  (TmL.junk (TmL.junk (TmL.junk (TmL.junk (TmL.junk (TmL.junk (TmL.junk (TmL.junk (TmL.junk (TmL.junk (TmL.junk (TmL.junk (TmL.junk
  TmL.nil))))))))))))))))))))))))))))))))))))))))))))))))))))))))))))))))))))))))))))))))))))))))))))))))))))))))))))))))))))) (TmH.cells 6 (TmL.slot Ty.i (TmL.slot Ty.i (TmL.slot Ty.i (TmL.slot
  Ty.i (TmL.slot (Ty.slice YReadMark) (TmL.slot (Ty.slice YReadMark) TmL.nil)))))) (TmH.cells 1 (TmL.const
  AV.nils TmL.nil) (TmH.cells 1 (TmL.own 3 TmL.nil) (TmH.tree false 0 (Ty.slice YVersion)
  (TmH.cells 1 (TmL.own 5 TmL.nil) (TmH.tree false 1 (Ty.slice YVersion) TmH.nil))))))

def impl_ApplyRecord_X14_0 (i : List (Int × Int × Unit) × Int × Int × Int × Int × Int × List (Int × Int × Unit) × List (Int × Int × Unit) × List (List (Int × Int × Int × Int × Int × Unit)) × Unit) (p : List (List (Int × Int × Int × Int × Int × Unit)) × Unit) : St :=
  St.mk [AV.junk, AV.junk, AV.junk, AV.junk, AV.junk, AV.junk, AV.ptr 1 none 0 0, AV.junk, AV.ptr 2 none 0 0, AV.ptr 4 none 0 0, AV.junk, AV.junk, AV.junk, AV.junk, AV.junk, AV.junk, AV.junk, AV.junk, AV.junk, AV.junk, AV.junk, AV.junk,
  AV.junk, AV.junk, AV.junk, AV.junk, AV.junk, AV.junk, AV.junk, AV.junk, AV.junk, AV.junk, AV.junk, AV.junk, AV.junk, AV.junk, AV.junk, AV.junk, AV.junk, AV.junk, AV.junk, AV.junk, AV.junk, AV.junk, AV.junk, AV.junk, AV.junk, AV.junk,
  AV.junk, AV.junk, AV.junk, AV.junk, AV.junk, AV.junk, AV.junk, AV.junk, AV.junk, AV.junk, AV.junk, AV.junk, AV.junk, AV.junk, AV.junk, AV.junk, AV.junk, AV.junk, AV.junk, AV.junk, AV.junk, AV.junk, AV.junk, AV.junk, AV.junk, AV.junk,
  AV.junk, AV.junk, AV.junk, AV.junk, AV.junk, AV.junk, AV.junk, AV.junk, AV.junk, AV.junk, AV.junk, AV.junk, AV.junk, AV.junk, AV.junk, AV.junk, AV.junk, AV.junk, AV.junk, AV.junk, AV.junk, AV.junk, AV.junk, AV.junk, AV.junk, AV.junk,
  AV.junk, AV.junk, AV.junk, AV.junk, AV.junk, AV.junk, AV.junk, AV.junk, AV.junk, AV.junk, AV.junk, AV.junk, AV.junk, AV.junk, AV.junk, AV.junk, AV.junk] [some (Cont.cells 6 [[AV.pv Ty.i i.2.2.1, AV.pv Ty.i
  i.2.2.2.1, AV.pv Ty.i i.2.2.2.2.1, AV.pv Ty.i i.2.2.2.2.2.1, AV.pv (Ty.slice YReadMark) i.2.2.2.2.2.2.1, AV.pv (Ty.slice (Ty.prod (Ty.int
  IntKind.i64) (Ty.prod Ty.i Ty.unit))) i.2.2.2.2.2.2.2.1]]), some (Cont.cells 1 [[AV.nils]]), some (Cont.cells 1 [[AV.own 3 none none]]), some (Cont.tree false 0 (Ty.slice (Ty.prod Ty.i (Ty.prod (Ty.int
  IntKind.i64) (Ty.prod Ty.i YReadMark)))) i.2.2.2.2.2.2.2.2.1 none), some (Cont.cells 1 [[AV.own 5 none none]]), some (Cont.tree false 1 (Ty.slice (Ty.prod (Ty.int
  IntKind.i64) (Ty.prod Ty.i (Ty.prod Ty.i YReadMark)))) p.1 none)]

noncomputable def impl_ApplyRecord_E14 (i : List (Int × Int × Unit) × Int × Int × Int × Int × Int × List (Int × Int × Unit) × List (Int × Int × Unit) × List (List (Int × Int × Int × Int × Int × Unit)) × Unit) (p : List (List (Int × Int × Int × Int × Int × Unit)) × Unit) (R : Type) (K : Ex → St → Option R) : Option R := K (Ex.exit 2) (impl_ApplyRecord_X14_0 i p)

noncomputable def impl_ApplyRecord_K14 (i : List (Int × Int × Unit) × Int × Int × Int × Int × Int × List (Int × Int × Unit) × List (Int × Int × Unit) × List (List (Int × Int × Int × Int × Int × Unit)) × Unit) (p : List (List (Int × Int × Int × Int × Int × Unit)) × Unit) : Ex × St := ((Ex.exit 2), impl_ApplyRecord_X14_0 i p)

def impl_ApplyRecord_M14 (i : List (Int × Int × Unit) × Int × Int × Int × Int × Int × List (Int × Int × Unit) × List (Int × Int × Unit) × List (List (Int × Int × Int × Int × Int × Unit)) × Unit) (v : Int × List (List (Int × Int × Int × Int × Int × Unit)) × Unit) : den impl_ApplyRecord_T14.ty := (i.1, i.2.1, v.1, i.2.2.1, i.2.2.2.1, i.2.2.2.2.1, i.2.2.2.2.2.1, i.2.2.2.2.2.2.1, i.2.2.2.2.2.2.2.1, i.2.2.2.2.2.2.2.2.1, v.2.1, ())

def impl_ApplyRecord_P14 (x : den impl_ApplyRecord_T14.ty) : (List (Int × Int × Unit) × Int × Int × Int × Int × Int × List (Int × Int × Unit) × List (Int × Int × Unit) × List (List (Int × Int × Int × Int × Int × Unit)) × Unit) × (Int × List (List (Int × Int × Int × Int × Int × Unit)) × Unit) := ((x.1, x.2.1, x.2.2.2.1, x.2.2.2.2.1, x.2.2.2.2.2.1, x.2.2.2.2.2.2.1, x.2.2.2.2.2.2.2.1, x.2.2.2.2.2.2.2.2.1, x.2.2.2.2.2.2.2.2.2.1, ()), (x.2.2.1, x.2.2.2.2.2.2.2.2.2.2.1, ()))

noncomputable def impl_ApplyRecord_F14 : LoopFn := fun s R K => Tmpl.readS impl_ApplyRecord_T14 0 s fun x => (iter (fun v => impl_ApplyRecord_D14 (impl_ApplyRecord_P14 x).1 v _ some) (impl_ApplyRecord_P14 x).2).bind fun p => impl_ApplyRecord_E14 (impl_ApplyRecord_P14 x).1 p R K

noncomputable def impl_ApplyRecord_C : Cfg := { ti := g_tis, ents := [impl_Store_find_l_Ent, impl_Store_latest_l_Ent, impl_Store_copied_Ent, impl_IsValidStore_Ent, impl_IsValidRecord_Ent, impl_Store_lastStamp_Ent, impl_Store_readsExist_Ent, slices_ContainsFunc_impl_Write_impl_Write__impl_ApplyRecord_1_Ent], ann := [(8, impl_ApplyRecord_F8), (14, impl_ApplyRecord_F14)], lent := 0, hid := [((17, 0), [5]), ((17, 1), [5]), ((17, 2), [5]), ((17, 3), [5])] }

def impl_ApplyRecord_ti : Tmpl := Tmpl.mk (TmL.slot YStore (TmL.slot (Ty.prod
  Ty.i (Ty.prod Ty.i (Ty.prod Ty.i (Ty.prod Ty.i (Ty.prod (Ty.slice YReadMark) (Ty.prod (Ty.slice (Ty.prod (Ty.int
  IntKind.i64) (Ty.prod Ty.i Ty.unit))) Ty.unit)))))) (TmL.slot Ty.i TmL.nil))) TmH.nil

def impl_ApplyRecord_to : Tmpl := Tmpl.mk (TmL.agg (TmL.own 0 TmL.nil) (TmL.slot Ty.bool TmL.nil)) (TmH.tree false 1 (Ty.slice (Ty.prod Ty.i (Ty.prod Ty.i (Ty.prod Ty.i (Ty.prod Ty.i (Ty.prod (Ty.int
  IntKind.i64) Ty.unit)))))) TmH.nil)

noncomputable def impl_ApplyRecord_S (x : (List (List (Int × Int × Int × Int × Int × Unit)) × Unit) × (Int × Int × Int × Int × List (Int × Int × Unit) × List (Int × Int × Unit) × Unit) × Int × Unit) : Option (Bool × List (List (Int × Int × Int × Int × Int × Unit)) × Unit) :=
  Option.bind (impl_Store_copied_S ((x.1.1, ()), ())) fun v => Option.bind (impl_IsValidStore_S ((x.1.1, ()), ())) fun v_1 => bif !v_1.1 then some (false, v.1, ()) else Option.bind (impl_IsValidRecord_S ((x.2.1.1, x.2.1.2.1, x.2.1.2.2.1,
  x.2.1.2.2.2.1, x.2.1.2.2.2.2.1, x.2.1.2.2.2.2.2.1, ()), ())) fun v_2 => bif !v_2.1 then some (false, v.1, ()) else bif x.2.2.1 != IntKind.wrap IntKind.i64 (x.2.1.1 - 1) then some (false, v.1, ()) else Option.bind (impl_Store_lastStamp_S
  ((x.1.1, ()), ())) fun v_3 => bif decide (v_3.1 > x.2.2.1) then some (false, v.1, ()) else Option.bind (impl_Store_readsExist_S ((x.1.1, ()), x.2.1.2.2.2.2.1, ())) fun v_4 => bif !v_4.1 then some (false, v.1, ()) else Option.bind
  (slices_ContainsFunc_impl_Write_impl_Write__impl_ApplyRecord_1_S (x.2.1.2.2.2.2.2.1, (some (x.1.1, ()), ()), ())) fun v_5 => bif v_5.1 then some (false, v.1, ()) else Option.bind (impl_Store_copied_S ((x.1.1, ()), ())) fun v_6 => Option.bind
  (iter (fun v_7 => impl_ApplyRecord_D8 (x.2.1.2.2.2.2.1, (↑(List.length x.2.1.2.2.2.2.1) : Int), x.2.1.1, x.2.1.2.1, x.2.1.2.2.1, x.2.1.2.2.2.1, x.2.1.2.2.2.2.1, x.2.1.2.2.2.2.2.1, v.1, ()) v_7 (Int × List (List (Int × Int × Int × Int × Int ×
  Unit)) × Unit ⊕ List (List (Int × Int × Int × Int × Int × Unit)) × Unit) some) (0, v_6.1, ())) fun p => Option.bind (iter (fun v_7 => impl_ApplyRecord_D14 (x.2.1.2.2.2.2.2.1, (↑(List.length x.2.1.2.2.2.2.2.1) : Int), x.2.1.1, x.2.1.2.1,
  x.2.1.2.2.1, x.2.1.2.2.2.1, x.2.1.2.2.2.2.1, x.2.1.2.2.2.2.2.1, v.1, ()) v_7 (Int × List (List (Int × Int × Int × Int × Int × Unit)) × Unit ⊕ List (List (Int × Int × Int × Int × Int × Unit)) × Unit) some) (0, p.1, ())) fun p => Option.bind
  (impl_IsValidStore_S ((p.1, ()), ())) fun v_7 => bif !v_7.1 then some (false, v.1, ()) else some (true, p.1, ())

noncomputable def impl_ApplyRecord_Ent : Ent := ⟨25, impl_ApplyRecord_ti, impl_ApplyRecord_to, impl_ApplyRecord_S⟩

theorem impl_ApplyRecord_HC : CfgOK Go.Proofs.Try.prog impl_ApplyRecord_C := ⟨⟨info_ok g_tisOK⟩, (all_cons impl_Store_find_l_OK (all_cons impl_Store_latest_l_OK (all_cons impl_Store_copied_OK (all_cons impl_IsValidStore_OK (all_cons impl_IsValidRecord_OK (all_cons impl_Store_lastStamp_OK (all_cons impl_Store_readsExist_OK (all_cons slices_ContainsFunc_impl_Write_impl_Write__impl_ApplyRecord_1_OK all_nil)))))))), g_wide⟩

theorem impl_ApplyRecord_lk14 : ∀ F, ((impl_ApplyRecord_C).ann.find? fun x => x.1 == firstId ((loopsOf (codeOf Go.Proofs.Try.f25)).getD 1 .skip)).map (·.2) = some F → LoopOK Go.Proofs.Try.prog impl_ApplyRecord_C.lent ((loopsOf (codeOf Go.Proofs.Try.f25)).getD 1 .skip) F := by
  refine lookup_ok (show ((impl_ApplyRecord_C).ann.find? fun x => x.1 == firstId ((loopsOf (codeOf Go.Proofs.Try.f25)).getD 1 .skip)).map (·.2) = some impl_ApplyRecord_F14 from by kernel_rfl) ?_
  exact loop_ok impl_ApplyRecord_HC (loops_all 0 (by kernel_rfl) (fun k hk => absurd hk (Nat.not_lt_zero k))) impl_ApplyRecord_T14 [6, 8, 9] impl_ApplyRecord_M14 impl_ApplyRecord_P14 (fun x => rfl) impl_ApplyRecord_D14 impl_ApplyRecord_D14_nat impl_ApplyRecord_E14 impl_ApplyRecord_K14 (fun i p R K => rfl) (fun i v => by kernel_rfl)

theorem impl_ApplyRecord_lk8 : ∀ F, ((impl_ApplyRecord_C).ann.find? fun x => x.1 == firstId ((loopsOf (codeOf Go.Proofs.Try.f25)).getD 0 .skip)).map (·.2) = some F → LoopOK Go.Proofs.Try.prog impl_ApplyRecord_C.lent ((loopsOf (codeOf Go.Proofs.Try.f25)).getD 0 .skip) F := by
  refine lookup_ok (show ((impl_ApplyRecord_C).ann.find? fun x => x.1 == firstId ((loopsOf (codeOf Go.Proofs.Try.f25)).getD 0 .skip)).map (·.2) = some impl_ApplyRecord_F8 from by kernel_rfl) ?_
  exact loop_ok impl_ApplyRecord_HC (loops_all 0 (by kernel_rfl) (fun k hk => absurd hk (Nat.not_lt_zero k))) impl_ApplyRecord_T8 [4, 6, 8, 9] impl_ApplyRecord_M8 impl_ApplyRecord_P8 (fun x => rfl) impl_ApplyRecord_D8 impl_ApplyRecord_D8_nat impl_ApplyRecord_E8 impl_ApplyRecord_K8 (fun i p R K => rfl) (fun i v => by kernel_rfl)

theorem impl_ApplyRecord_VC (x : den impl_ApplyRecord_ti.ty) : vcall impl_ApplyRecord_C Go.Proofs.Try.f25 impl_ApplyRecord_ti impl_ApplyRecord_to x = impl_ApplyRecord_S x := by kernel_rfl

theorem impl_ApplyRecord_OK : EntOK Go.Proofs.Try.prog impl_ApplyRecord_Ent := EntOK.of_vcall impl_ApplyRecord_HC Go.Proofs.Try.func25 (body_loops (by kernel_rfl) (loops_all 2 (by kernel_rfl) (fun k hk => match k, hk with | 0, _ => impl_ApplyRecord_lk8 | 1, _ => impl_ApplyRecord_lk14))) (by kernel_rfl) (by kernel_rfl) impl_ApplyRecord_VC

/-! laws.eqLogRecord -/

noncomputable def laws_eqLogRecord_C : Cfg := { ti := g_tis, ents := [laws_eqReadMarkS_Ent, laws_eqWriteS_Ent], ann := [], lent := 0 }

def laws_eqLogRecord_ti : Tmpl := Tmpl.mk (TmL.slot (Ty.prod Ty.i (Ty.prod Ty.i (Ty.prod Ty.i (Ty.prod Ty.i (Ty.prod (Ty.slice YReadMark) (Ty.prod
  (Ty.slice YReadMark) Ty.unit)))))) (TmL.slot (Ty.prod Ty.i (Ty.prod Ty.i (Ty.prod Ty.i (Ty.prod Ty.i (Ty.prod
  (Ty.slice YReadMark) (Ty.prod (Ty.slice YReadMark) Ty.unit)))))) TmL.nil)) TmH.nil

def laws_eqLogRecord_to : Tmpl := Tmpl.mk (TmL.slot Ty.bool TmL.nil) TmH.nil

noncomputable def laws_eqLogRecord_S (x : (Int × Int × Int × Int × List (Int × Int × Unit) × List (Int × Int × Unit) × Unit) × (Int × Int × Int × Int × List (Int × Int × Unit) × List (Int × Int × Unit) × Unit) × Unit) : Option (Bool × Unit) :=
  bif x.1.1 != x.2.1.1 then some (false, ()) else bif x.1.2.1 != x.2.1.2.1 then some (false, ()) else bif x.1.2.2.1 != x.2.1.2.2.1 then some (false, ()) else bif x.1.2.2.2.1 != x.2.1.2.2.2.1 then some (false, ()) else Option.bind
  (laws_eqReadMarkS_S (x.1.2.2.2.2.1, x.2.1.2.2.2.2.1, ())) fun v => bif !v.1 then some (false, ()) else Option.bind (laws_eqWriteS_S (x.1.2.2.2.2.2.1, x.2.1.2.2.2.2.2.1, ())) fun v => bif !v.1 then some (false, ()) else some (true, ())

noncomputable def laws_eqLogRecord_Ent : Ent := ⟨27, laws_eqLogRecord_ti, laws_eqLogRecord_to, laws_eqLogRecord_S⟩

theorem laws_eqLogRecord_HC : CfgOK Go.Proofs.Try.prog laws_eqLogRecord_C := ⟨⟨info_ok g_tisOK⟩, (all_cons laws_eqReadMarkS_OK (all_cons laws_eqWriteS_OK all_nil)), g_wide⟩

theorem laws_eqLogRecord_VC (x : den laws_eqLogRecord_ti.ty) : vcall laws_eqLogRecord_C Go.Proofs.Try.f27 laws_eqLogRecord_ti laws_eqLogRecord_to x = laws_eqLogRecord_S x := by kernel_rfl

theorem laws_eqLogRecord_OK : EntOK Go.Proofs.Try.prog laws_eqLogRecord_Ent := EntOK.of_vcall laws_eqLogRecord_HC Go.Proofs.Try.func27 (body_loops (by kernel_rfl) (loops_all 0 (by kernel_rfl) (fun k hk => absurd hk (Nat.not_lt_zero k)))) (by kernel_rfl) (by kernel_rfl) laws_eqLogRecord_VC

/-! laws.markLogRecord -/

noncomputable def laws_markLogRecord_l_C : Cfg := { ti := g_tis, ents := [laws_markReadMarkS_l_Ent, laws_markWriteS_l_Ent], ann := [], lent := 2 }

def laws_markLogRecord_l_ti : Tmpl := Tmpl.mk (TmL.agg (TmL.slot Ty.i (TmL.slot Ty.i (TmL.slot Ty.i (TmL.slot Ty.i (TmL.own 0 (TmL.own 1 TmL.nil)))))) (TmL.slot Ty.i TmL.nil)) (TmH.lst false (Ty.prod
  Ty.i (Ty.prod Ty.i Ty.unit)) (TmH.lst false YReadMark TmH.nil))

def laws_markLogRecord_l_to : Tmpl := Tmpl.mk (TmL.slot Ty.i TmL.nil) (TmH.lst false YReadMark (TmH.lst false YReadMark TmH.nil))

noncomputable def laws_markLogRecord_l_S (x : Int × Int × Int × Int × Int × List (Int × Int × Unit) × List (Int × Int × Unit) × Unit) : Option (Int × List (Int × Int × Unit) × List (Int × Int × Unit) × Unit) :=
  Option.bind (laws_markReadMarkS_l_S (x.2.2.2.2.1, x.2.2.2.2.2.1, ())) fun v => Option.bind (laws_markWriteS_l_S (v.1, x.2.2.2.2.2.2.1, ())) fun v_1 => some (v_1.1, v.2.1, v_1.2.1, ())

noncomputable def laws_markLogRecord_l_Ent : Ent := ⟨29, laws_markLogRecord_l_ti, laws_markLogRecord_l_to, laws_markLogRecord_l_S⟩

theorem laws_markLogRecord_l_HC : CfgOK Go.Proofs.Try.prog laws_markLogRecord_l_C := ⟨⟨info_ok g_tisOK⟩, (all_cons laws_markReadMarkS_l_OK (all_cons laws_markWriteS_l_OK all_nil)), g_wide⟩

theorem laws_markLogRecord_l_VC (x : den laws_markLogRecord_l_ti.ty) : vcall laws_markLogRecord_l_C Go.Proofs.Try.f29 laws_markLogRecord_l_ti laws_markLogRecord_l_to x = laws_markLogRecord_l_S x := by kernel_rfl

theorem laws_markLogRecord_l_OK : EntOK Go.Proofs.Try.prog laws_markLogRecord_l_Ent := EntOK.of_vcall laws_markLogRecord_l_HC Go.Proofs.Try.func29 (body_loops (by kernel_rfl) (loops_all 0 (by kernel_rfl) (fun k hk => absurd hk (Nat.not_lt_zero k)))) (by kernel_rfl) (by kernel_rfl) laws_markLogRecord_l_VC

/-! spec.FeedReplica -/

noncomputable def spec_FeedReplica_C : Cfg := { ti := g_tis, ents := [spec_l4Copy_Ent, spec_IsValidReplica_Ent, spec_ApplyRecord_Ent], ann := [], lent := 0 }

def spec_FeedReplica_ti : Tmpl := Tmpl.mk (TmL.slot (Ty.prod Ty.i (Ty.prod Ty.i (Ty.prod (Ty.prod (Ty.slice (Ty.slice (Ty.prod Ty.i (Ty.prod Ty.i (Ty.prod Ty.i (Ty.prod Ty.i
  (Ty.prod Ty.i Ty.unit))))))) Ty.unit) Ty.unit))) (TmL.slot (Ty.prod Ty.i (Ty.prod Ty.i (Ty.prod Ty.i (Ty.prod Ty.i (Ty.prod (Ty.slice (Ty.prod (Ty.int
  IntKind.i64) (Ty.prod Ty.i Ty.unit))) (Ty.prod (Ty.slice YReadMark) Ty.unit)))))) TmL.nil)) TmH.nil

def spec_FeedReplica_to : Tmpl := Tmpl.mk (TmL.agg (TmL.slot Ty.i (TmL.slot Ty.i (TmL.own 0 TmL.nil))) (TmL.slot Ty.bool TmL.nil)) (TmH.tree false 1 (Ty.slice (Ty.prod Ty.i (Ty.prod Ty.i (Ty.prod (Ty.int
  IntKind.i64) YReadMark)))) TmH.nil)

noncomputable def spec_FeedReplica_S (x : (Int × Int × (List (List (Int × Int × Int × Int × Int × Unit)) × Unit) × Unit) × (Int × Int × Int × Int × List (Int × Int × Unit) × List (Int × Int × Unit) × Unit) × Unit) : Option (Int × Int × Bool × List (List (Int × Int × Int × Int × Int × Unit)) × Unit) :=
  Option.bind (spec_l4Copy_S ((x.1.2.2.1.1, ()), ())) fun v => Option.bind (spec_IsValidReplica_S ((x.1.1, x.1.2.1, (x.1.2.2.1.1, ()), ()), ())) fun v_1 => bif !v_1.1 then some (x.1.1, x.1.2.1, false, v.1, ()) else Option.bind
  (spec_ApplyRecord_S ((x.1.2.2.1.1, ()), (x.2.1.1, x.2.1.2.1, x.2.1.2.2.1, x.2.1.2.2.2.1, x.2.1.2.2.2.2.1, x.2.1.2.2.2.2.2.1, ()), x.1.1, ())) fun v_2 => bif !v_2.1 then some (x.1.1, x.1.2.1, false, v.1, ()) else some (x.2.1.1, mx x.1.2.1
  x.2.1.2.2.2.1, true, v_2.2.1, ())

noncomputable def spec_FeedReplica_Ent : Ent := ⟨31, spec_FeedReplica_ti, spec_FeedReplica_to, spec_FeedReplica_S⟩

theorem spec_FeedReplica_HC : CfgOK Go.Proofs.Try.prog spec_FeedReplica_C := ⟨⟨info_ok g_tisOK⟩, (all_cons spec_l4Copy_OK (all_cons spec_IsValidReplica_OK (all_cons spec_ApplyRecord_OK all_nil))), g_wide⟩

theorem spec_FeedReplica_VC (x : den spec_FeedReplica_ti.ty) : vcall spec_FeedReplica_C Go.Proofs.Try.f31 spec_FeedReplica_ti spec_FeedReplica_to x = spec_FeedReplica_S x := by kernel_rfl

theorem spec_FeedReplica_OK : EntOK Go.Proofs.Try.prog spec_FeedReplica_Ent := EntOK.of_vcall spec_FeedReplica_HC Go.Proofs.Try.func31 (body_loops (by kernel_rfl) (loops_all 0 (by kernel_rfl) (fun k hk => absurd hk (Nat.not_lt_zero k)))) (by kernel_rfl) (by kernel_rfl) spec_FeedReplica_VC

/-! impl.FeedReplica -/

noncomputable def impl_FeedReplica_C : Cfg := { ti := g_tis, ents := [impl_ApplyRecord_Ent, impl_Store_copied_Ent, impl_IsValidReplica_Ent], ann := [], lent := 0 }

def impl_FeedReplica_ti : Tmpl := Tmpl.mk (TmL.slot (Ty.prod Ty.i (Ty.prod Ty.i (Ty.prod (Ty.prod (Ty.slice (Ty.slice (Ty.prod Ty.i (Ty.prod Ty.i (Ty.prod Ty.i (Ty.prod Ty.i
  (Ty.prod Ty.i Ty.unit))))))) Ty.unit) Ty.unit))) (TmL.slot (Ty.prod Ty.i (Ty.prod Ty.i (Ty.prod Ty.i (Ty.prod Ty.i (Ty.prod (Ty.slice (Ty.prod (Ty.int
  IntKind.i64) (Ty.prod Ty.i Ty.unit))) (Ty.prod (Ty.slice YReadMark) Ty.unit)))))) TmL.nil)) TmH.nil

def impl_FeedReplica_to : Tmpl := Tmpl.mk (TmL.agg (TmL.slot Ty.i (TmL.slot Ty.i (TmL.own 0 TmL.nil))) (TmL.slot Ty.bool TmL.nil)) (TmH.tree false 1 (Ty.slice (Ty.prod Ty.i (Ty.prod Ty.i (Ty.prod (Ty.int
  IntKind.i64) YReadMark)))) TmH.nil)

noncomputable def impl_FeedReplica_S (x : (Int × Int × (List (List (Int × Int × Int × Int × Int × Unit)) × Unit) × Unit) × (Int × Int × Int × Int × List (Int × Int × Unit) × List (Int × Int × Unit) × Unit) × Unit) : Option (Int × Int × Bool × List (List (Int × Int × Int × Int × Int × Unit)) × Unit) :=
  Option.bind (impl_ApplyRecord_S ((x.1.2.2.1.1, ()), (x.2.1.1, x.2.1.2.1, x.2.1.2.2.1, x.2.1.2.2.2.1, x.2.1.2.2.2.2.1, x.2.1.2.2.2.2.2.1, ()), x.1.1, ())) fun v => bif !v.1 then Option.bind (impl_Store_copied_S ((x.1.2.2.1.1, ()), ())) fun v
  => some (x.1.1, x.1.2.1, false, v.1, ()) else Option.bind (impl_IsValidReplica_S ((x.1.1, x.1.2.1, (x.1.2.2.1.1, ()), ()), ())) fun v_1 => bif !v_1.1 then Option.bind (impl_Store_copied_S ((x.1.2.2.1.1, ()), ())) fun v => some (x.1.1,
  x.1.2.1, false, v.1, ()) else some (x.2.1.1, mx x.1.2.1 x.2.1.2.2.2.1, true, v.2.1, ())

noncomputable def impl_FeedReplica_Ent : Ent := ⟨32, impl_FeedReplica_ti, impl_FeedReplica_to, impl_FeedReplica_S⟩

theorem impl_FeedReplica_HC : CfgOK Go.Proofs.Try.prog impl_FeedReplica_C := ⟨⟨info_ok g_tisOK⟩, (all_cons impl_ApplyRecord_OK (all_cons impl_Store_copied_OK (all_cons impl_IsValidReplica_OK all_nil))), g_wide⟩

theorem impl_FeedReplica_VC (x : den impl_FeedReplica_ti.ty) : vcall impl_FeedReplica_C Go.Proofs.Try.f32 impl_FeedReplica_ti impl_FeedReplica_to x = impl_FeedReplica_S x := by kernel_rfl

theorem impl_FeedReplica_OK : EntOK Go.Proofs.Try.prog impl_FeedReplica_Ent := EntOK.of_vcall impl_FeedReplica_HC Go.Proofs.Try.func32 (body_loops (by kernel_rfl) (loops_all 0 (by kernel_rfl) (fun k hk => absurd hk (Nat.not_lt_zero k)))) (by kernel_rfl) (by kernel_rfl) impl_FeedReplica_VC

/-! laws.FnExactFeedReplica -/

noncomputable def laws_FnExactFeedReplica_C : Cfg := { ti := g_tis, ents := [laws_markReplica_l_Ent, laws_markLogRecord_l_Ent, laws_szReplica_Ent, laws_szLogRecord_Ent, laws_toReplica_Ent, laws_toLogRecord_Ent, spec_FeedReplica_Ent, impl_FeedReplica_Ent, laws_eqReplica_Ent, laws_eqLogRecord_Ent, laws_heldReplica_Ent], ann := [], lent := 0 }

def laws_FnExactFeedReplica_ti : Tmpl := Tmpl.mk (TmL.slot (Ty.prod Ty.i (Ty.prod Ty.i (Ty.prod (Ty.prod (Ty.slice (Ty.slice (Ty.prod Ty.i (Ty.prod Ty.i (Ty.prod Ty.i (Ty.prod Ty.i
  (Ty.prod Ty.i Ty.unit))))))) Ty.unit) Ty.unit))) (TmL.slot (Ty.prod Ty.i (Ty.prod Ty.i (Ty.prod Ty.i (Ty.prod Ty.i (Ty.prod (Ty.slice (Ty.prod (Ty.int
  IntKind.i64) (Ty.prod Ty.i Ty.unit))) (Ty.prod (Ty.slice YReadMark) Ty.unit)))))) TmL.nil)) TmH.nil

def laws_FnExactFeedReplica_to : Tmpl := Tmpl.mk (TmL.slot Ty.bool TmL.nil) TmH.nil

noncomputable def laws_FnExactFeedReplica_S (x : (Int × Int × (List (List (Int × Int × Int × Int × Int × Unit)) × Unit) × Unit) × (Int × Int × Int × Int × List (Int × Int × Unit) × List (Int × Int × Unit) × Unit) × Unit) : Option (Bool × Unit) :=
  Option.bind (laws_szReplica_S ((x.1.1, x.1.2.1, (x.1.2.2.1.1, ()), ()), 1048576, ())) fun v => bif decide (v.1 < 0) then some (true, ()) else Option.bind (laws_szLogRecord_S ((x.2.1.1, x.2.1.2.1, x.2.1.2.2.1, x.2.1.2.2.2.1, x.2.1.2.2.2.2.1,
  x.2.1.2.2.2.2.2.1, ()), v.1, ())) fun v => bif decide (v.1 < 0) then some (true, ()) else Option.bind (laws_toReplica_S ((x.1.1, x.1.2.1, (x.1.2.2.1.1, ()), ()), ())) fun v => Option.bind (laws_toLogRecord_S ((x.2.1.1, x.2.1.2.1,
  x.2.1.2.2.1, x.2.1.2.2.2.1, x.2.1.2.2.2.2.1, x.2.1.2.2.2.2.2.1, ()), ())) fun v_1 => Option.bind (spec_FeedReplica_S ((v.1, v.2.1, (v.2.2.1, ()), ()), (v_1.1, v_1.2.1, v_1.2.2.1, v_1.2.2.2.1, v_1.2.2.2.2.1, v_1.2.2.2.2.2.1, ()), ())) fun v
  => Option.bind (laws_toReplica_S ((x.1.1, x.1.2.1, (x.1.2.2.1.1, ()), ()), ())) fun v_2 => Option.bind (laws_toLogRecord_S ((x.2.1.1, x.2.1.2.1, x.2.1.2.2.1, x.2.1.2.2.2.1, x.2.1.2.2.2.2.1, x.2.1.2.2.2.2.2.1, ()), ())) fun v_3 => Option.bind
  (impl_FeedReplica_S ((v_2.1, v_2.2.1, (v_2.2.2.1, ()), ()), (v_3.1, v_3.2.1, v_3.2.2.1, v_3.2.2.2.1, v_3.2.2.2.2.1, v_3.2.2.2.2.2.1, ()), ())) fun v_4 => Option.bind (laws_eqReplica_S ((v_4.1, v_4.2.1, (v_4.2.2.2.1, ()), ()), (v.1, v.2.1,
  (v.2.2.2.1, ()), ()), ())) fun v_5 => bif !v_5.1 then some (false, ()) else bif !v_4.2.2.1 == v.2.2.1 then some (false, ()) else Option.bind (laws_toReplica_S ((x.1.1, x.1.2.1, (x.1.2.2.1.1, ()), ()), ())) fun v_6 => Option.bind
  (laws_eqReplica_S ((v_2.1, v_2.2.1, (v_2.2.2.1, ()), ()), (v_6.1, v_6.2.1, (v_6.2.2.1, ()), ()), ())) fun v_7 => bif !v_7.1 then some (false, ()) else Option.bind (laws_toLogRecord_S ((x.2.1.1, x.2.1.2.1, x.2.1.2.2.1, x.2.1.2.2.2.1,
  x.2.1.2.2.2.2.1, x.2.1.2.2.2.2.2.1, ()), ())) fun v_8 => Option.bind (laws_eqLogRecord_S ((v_3.1, v_3.2.1, v_3.2.2.1, v_3.2.2.2.1, v_3.2.2.2.2.1, v_3.2.2.2.2.2.1, ()), (v_8.1, v_8.2.1, v_8.2.2.1, v_8.2.2.2.1, v_8.2.2.2.2.1, v_8.2.2.2.2.2.1,
  ()), ())) fun v_9 => bif !v_9.1 then some (false, ()) else Option.bind (laws_markReplica_l_S (v_2.1, v_2.2.1, 1, v_2.2.2.1, ())) fun v_10 => Option.bind (laws_markLogRecord_l_S (v_3.1, v_3.2.1, v_3.2.2.1, v_3.2.2.2.1, v_10.1, v_3.2.2.2.2.1,
  v_3.2.2.2.2.2.1, ())) fun v_11 => bif decide (v_11.1 < 0) then some (false, ()) else Option.bind (laws_eqReplica_S ((v_4.1, v_4.2.1, (v_4.2.2.2.1, ()), ()), (v.1, v.2.1, (v.2.2.2.1, ()), ()), ())) fun v_12 => bif !v_12.1 then some (false,
  ()) else bif !v_4.2.2.1 == v.2.2.1 then some (false, ()) else Option.bind (laws_markReplica_l_S (v_4.1, v_4.2.1, 1, v_4.2.2.2.1, ())) fun v_13 => Option.bind (laws_heldReplica_S ((v_4.1, v_4.2.1, (v_13.2.1, ()), ()), 1, ())) fun v_14 => bif
  decide (v_14.1 < 0) then some (false, ()) else bif v_14.1 != v_13.1 then some (false, ()) else Option.bind (laws_toReplica_S ((x.1.1, x.1.2.1, (x.1.2.2.1.1, ()), ()), ())) fun v_15 => Option.bind (laws_toLogRecord_S ((x.2.1.1, x.2.1.2.1,
  x.2.1.2.2.1, x.2.1.2.2.2.1, x.2.1.2.2.2.2.1, x.2.1.2.2.2.2.2.1, ()), ())) fun v_16 => Option.bind (impl_FeedReplica_S ((v_15.1, v_15.2.1, (v_15.2.2.1, ()), ()), (v_16.1, v_16.2.1, v_16.2.2.1, v_16.2.2.2.1, v_16.2.2.2.2.1, v_16.2.2.2.2.2.1,
  ()), ())) fun v_17 => Option.bind (laws_eqReplica_S ((v_17.1, v_17.2.1, (v_17.2.2.2.1, ()), ()), (v.1, v.2.1, (v.2.2.2.1, ()), ()), ())) fun v_18 => bif !v_18.1 then some (false, ()) else bif !v_17.2.2.1 == v.2.2.1 then some (false, ()) else
  Option.bind (laws_heldReplica_S ((v_4.1, v_4.2.1, (v_13.2.1, ()), ()), 1, ())) fun v => bif decide (v.1 < 0) then some (false, ()) else bif v.1 != v_13.1 then some (false, ()) else some (true, ())

noncomputable def laws_FnExactFeedReplica_Ent : Ent := ⟨6, laws_FnExactFeedReplica_ti, laws_FnExactFeedReplica_to, laws_FnExactFeedReplica_S⟩

theorem laws_FnExactFeedReplica_HC : CfgOK Go.Proofs.Try.prog laws_FnExactFeedReplica_C := ⟨⟨info_ok g_tisOK⟩, (all_cons laws_markReplica_l_OK (all_cons laws_markLogRecord_l_OK (all_cons laws_szReplica_OK (all_cons laws_szLogRecord_OK (all_cons laws_toReplica_OK (all_cons laws_toLogRecord_OK (all_cons spec_FeedReplica_OK (all_cons impl_FeedReplica_OK (all_cons laws_eqReplica_OK (all_cons laws_eqLogRecord_OK (all_cons laws_heldReplica_OK all_nil))))))))))), g_wide⟩

theorem laws_FnExactFeedReplica_VC (x : den laws_FnExactFeedReplica_ti.ty) : vcall laws_FnExactFeedReplica_C Go.Proofs.Try.f6 laws_FnExactFeedReplica_ti laws_FnExactFeedReplica_to x = laws_FnExactFeedReplica_S x := by kernel_rfl

theorem laws_FnExactFeedReplica_OK : EntOK Go.Proofs.Try.prog laws_FnExactFeedReplica_Ent := EntOK.of_vcall laws_FnExactFeedReplica_HC Go.Proofs.Try.func6 (body_loops (by kernel_rfl) (loops_all 0 (by kernel_rfl) (fun k hk => absurd hk (Nat.not_lt_zero k)))) (by kernel_rfl) (by kernel_rfl) laws_FnExactFeedReplica_VC

end Go.Ab
