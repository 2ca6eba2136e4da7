import Derived.Test.YtaefbkkplgaplaaGreatGenC2
set_option maxRecDepth 100000
set_option linter.unusedVariables false
namespace Go.Ab

/-! laws.eqWriteS -/

abbrev laws_eqWriteS_I4 : Type := List (Int × Int × Unit) × List (Int × Int × Unit) × Unit

abbrev laws_eqWriteS_V4 : Type := Int × Unit

abbrev laws_eqWriteS_Q4 : Type := Unit ⊕ Unit

noncomputable def laws_eqWriteS_D4 (i : laws_eqWriteS_I4) (v : laws_eqWriteS_V4) (R : Type) (K : laws_eqWriteS_V4 ⊕ laws_eqWriteS_Q4 → Option R) : Option R :=
  bif decide (v.1 < (↑(List.length i.1) : Int)) then Option.bind (lAt i.1 v.1) fun v_1 => Option.bind (lAt i.2.1 v.1) fun v_2 => Option.bind (laws_eqWrite_S ((v_1.1, v_1.2.1, ()), (v_2.1, v_2.2.1, ()), ())) fun v_3 => bif !v_3.1 then K
  (Sum.inr (Sum.inl ())) else K (Sum.inl (IntKind.wrap IntKind.i64 (v.1 + 1), ())) else K (Sum.inr (Sum.inr ()))

theorem laws_eqWriteS_D4_nat : NatD laws_eqWriteS_D4 := fun i v R K => nat_bif (nat_bind fun _ => nat_bind fun _ => nat_bind fun _ => nat_bif (nat_some) (nat_some)) (nat_some)

def laws_eqWriteS_T4 : Tmpl := ⟨(.slot (Ty.slice YReadMark) (.slot (Ty.slice YReadMark) (jk 3 (.slot Ty.i (jk 21 .nil))))), .nil⟩

def laws_eqWriteS_X4_0 (i : laws_eqWriteS_I4) (p : Unit) : St := ⟨jn 4 (.b (false) :: jn 22 ([])), []⟩

def laws_eqWriteS_X4_1 (i : laws_eqWriteS_I4) (p : Unit) : St := ⟨jn 27 ([]), []⟩

noncomputable def laws_eqWriteS_E4 (i : laws_eqWriteS_I4) (p : laws_eqWriteS_Q4) (R : Type) (K : Ex → St → Option R) : Option R := sumC p (fun p => K (Ex.ret) (laws_eqWriteS_X4_0 i p)) fun p => K (Ex.exit 0) (laws_eqWriteS_X4_1 i p)

noncomputable def laws_eqWriteS_K4 (i : laws_eqWriteS_I4) (p : laws_eqWriteS_Q4) : Ex × St := sumC p (fun p => (Ex.ret, laws_eqWriteS_X4_0 i p)) fun p => (Ex.exit 0, laws_eqWriteS_X4_1 i p)

def laws_eqWriteS_M4 (i : laws_eqWriteS_I4) (v : laws_eqWriteS_V4) : den laws_eqWriteS_T4.ty := (i.1, i.2.1, v.1, ())

def laws_eqWriteS_P4 (x : den laws_eqWriteS_T4.ty) : laws_eqWriteS_I4 × laws_eqWriteS_V4 := ((x.1, x.2.1, ()), (x.2.2.1, ()))

noncomputable def laws_eqWriteS_C : Cfg := { ti := g_tis, ents := [laws_eqWrite_Ent], ann := [(4, loopFn laws_eqWriteS_T4 0 laws_eqWriteS_P4 laws_eqWriteS_D4 laws_eqWriteS_E4)], lent := 0 }

def laws_eqWriteS_ti : Tmpl := ⟨(.slot (Ty.slice YReadMark) (.slot (Ty.slice YReadMark) .nil)), .nil⟩

def laws_eqWriteS_to : Tmpl := ⟨(.slot (Ty.bool) .nil), .nil⟩

noncomputable def laws_eqWriteS_S (x : List (Int × Int × Unit) × List (Int × Int × Unit) × Unit) : Option (Bool × Unit) :=
  bif (↑(List.length x.1) : Int) != (↑(List.length x.2.1) : Int) then some (false, ()) else Option.bind (iter (fun v => laws_eqWriteS_D4 (x.1, x.2.1, ()) v _ some) (0, ())) fun p => sumC p (fun p => some (false, ())) fun p => some
  (true, ())

noncomputable def laws_eqWriteS_Ent : Ent := ⟨116, laws_eqWriteS_ti, laws_eqWriteS_to, laws_eqWriteS_S⟩

theorem laws_eqWriteS_HC : CfgOK Go.Proofs.Tryz.prog laws_eqWriteS_C := hc_of g_tisOK g_wide (all_cons laws_eqWrite_OK all_nil)

theorem laws_eqWriteS_lk4 : LkOK Go.Proofs.Tryz.prog laws_eqWriteS_C (lpc Go.Proofs.Tryz.f116 0) :=
  lk_of laws_eqWriteS_HC (m := 0) (T := laws_eqWriteS_T4) (sp := laws_eqWriteS_P4) (D := laws_eqWriteS_D4) (E := laws_eqWriteS_E4) (by kernel_rfl) (by kernel_rfl) (fun k hk => absurd hk (Nat.not_lt_zero k)) [4] laws_eqWriteS_M4 (fun x => rfl) laws_eqWriteS_D4_nat laws_eqWriteS_K4 (fun i p R K => by rcases p with p | p <;> rfl) (fun i v => by kernel_rfl)

theorem laws_eqWriteS_OK : EntOK Go.Proofs.Tryz.prog laws_eqWriteS_Ent := ok_of laws_eqWriteS_HC Go.Proofs.Tryz.func116 1 (by kernel_rfl) (fun k hk => match k, hk with | 0, _ => laws_eqWriteS_lk4) (by kernel_rfl) (by kernel_rfl) (fun x => by kernel_rfl)

/-! laws.eqTransaction -/

noncomputable def laws_eqTransaction_C : Cfg := { ti := g_tis, ents := [laws_eqReadMarkS_Ent, laws_eqWriteS_Ent], ann := [], lent := 0 }

def laws_eqTransaction_ti : Tmpl := ⟨(.slot (Ty.prod Ty.i (Ty.prod Ty.i (Ty.prod Ty.i (Ty.prod Ty.i (Ty.prod Ty.i (Ty.prod Ty.i (Ty.prod Ty.i (Ty.prod (Ty.slice (Ty.prod
  Ty.i (Ty.prod Ty.i Ty.unit))) (Ty.prod (Ty.slice YReadMark) Ty.unit))))))))) (.slot (Ty.prod Ty.i (Ty.prod Ty.i (Ty.prod Ty.i (Ty.prod Ty.i (Ty.prod Ty.i (Ty.prod Ty.i (Ty.prod Ty.i (Ty.prod (Ty.slice (Ty.prod
  Ty.i (Ty.prod Ty.i Ty.unit))) (Ty.prod (Ty.slice YReadMark) Ty.unit))))))))) .nil)), .nil⟩

def laws_eqTransaction_to : Tmpl := ⟨(.slot (Ty.bool) .nil), .nil⟩

noncomputable def laws_eqTransaction_S (x : (Int × Int × Int × Int × Int × Int × Int × List (Int × Int × Unit) × List (Int × Int × Unit) × Unit) × (Int × Int × Int × Int × Int × Int × Int × List (Int × Int × Unit) × List (Int × Int × Unit) × Unit) × Unit) : Option (Bool × Unit) :=
  bif x.1.1 != x.2.1.1 then some (false, ()) else bif x.1.2.1 != x.2.1.2.1 then some (false, ()) else bif x.1.2.2.1 != x.2.1.2.2.1 then some (false, ()) else bif x.1.2.2.2.1 != x.2.1.2.2.2.1 then some (false, ()) else bif x.1.2.2.2.2.1 !=
  x.2.1.2.2.2.2.1 then some (false, ()) else bif x.1.2.2.2.2.2.1 != x.2.1.2.2.2.2.2.1 then some (false, ()) else bif x.1.2.2.2.2.2.2.1 != x.2.1.2.2.2.2.2.2.1 then some (false, ()) else Option.bind (laws_eqReadMarkS_S (x.1.2.2.2.2.2.2.2.1,
  x.2.1.2.2.2.2.2.2.2.1, ())) fun v => bif !v.1 then some (false, ()) else Option.bind (laws_eqWriteS_S (x.1.2.2.2.2.2.2.2.2.1, x.2.1.2.2.2.2.2.2.2.2.1, ())) fun v => bif !v.1 then some (false, ()) else some (true, ())

noncomputable def laws_eqTransaction_Ent : Ent := ⟨78, laws_eqTransaction_ti, laws_eqTransaction_to, laws_eqTransaction_S⟩

theorem laws_eqTransaction_HC : CfgOK Go.Proofs.Tryz.prog laws_eqTransaction_C := hc_of g_tisOK g_wide (all_cons laws_eqReadMarkS_OK (all_cons laws_eqWriteS_OK all_nil))

theorem laws_eqTransaction_OK : EntOK Go.Proofs.Tryz.prog laws_eqTransaction_Ent := ok_of laws_eqTransaction_HC Go.Proofs.Tryz.func78 0 (by kernel_rfl) (fun k hk => absurd hk (Nat.not_lt_zero k)) (by kernel_rfl) (by kernel_rfl) (fun x => by kernel_rfl)

/-! laws.eqTransactionS -/

abbrev laws_eqTransactionS_I4 : Type := List (Int × Int × Int × Int × Int × Int × Int × List (Int × Int × Unit) × List (Int × Int × Unit) × Unit) × List (Int × Int × Int × Int × Int × Int × Int × List (Int × Int × Unit) × List (Int × Int × Unit) × Unit) × Unit

abbrev laws_eqTransactionS_V4 : Type := Int × Unit

abbrev laws_eqTransactionS_Q4 : Type := Unit ⊕ Unit

noncomputable def laws_eqTransactionS_D4 (i : laws_eqTransactionS_I4) (v : laws_eqTransactionS_V4) (R : Type) (K : laws_eqTransactionS_V4 ⊕ laws_eqTransactionS_Q4 → Option R) : Option R :=
  bif decide (v.1 < (↑(List.length i.1) : Int)) then Option.bind (lAt i.1 v.1) fun v_1 => Option.bind (lAt i.2.1 v.1) fun v_2 => Option.bind (laws_eqTransaction_S ((v_1.1, v_1.2.1, v_1.2.2.1, v_1.2.2.2.1, v_1.2.2.2.2.1, v_1.2.2.2.2.2.1,
  v_1.2.2.2.2.2.2.1, v_1.2.2.2.2.2.2.2.1, v_1.2.2.2.2.2.2.2.2.1, ()), (v_2.1, v_2.2.1, v_2.2.2.1, v_2.2.2.2.1, v_2.2.2.2.2.1, v_2.2.2.2.2.2.1, v_2.2.2.2.2.2.2.1, v_2.2.2.2.2.2.2.2.1, v_2.2.2.2.2.2.2.2.2.1, ()), ())) fun v_3 => bif !v_3.1 then
  K (Sum.inr (Sum.inl ())) else K (Sum.inl (IntKind.wrap IntKind.i64 (v.1 + 1), ())) else K (Sum.inr (Sum.inr ()))

theorem laws_eqTransactionS_D4_nat : NatD laws_eqTransactionS_D4 := fun i v R K => nat_bif (nat_bind fun _ => nat_bind fun _ => nat_bind fun _ => nat_bif (nat_some) (nat_some)) (nat_some)

def laws_eqTransactionS_T4 : Tmpl := ⟨(.slot (Ty.slice (Ty.prod Ty.i (Ty.prod Ty.i (Ty.prod Ty.i (Ty.prod Ty.i (Ty.prod Ty.i (Ty.prod Ty.i (Ty.prod Ty.i (Ty.prod (Ty.slice
  YReadMark) (Ty.prod (Ty.slice YReadMark) Ty.unit)))))))))) (.slot (Ty.slice (Ty.prod Ty.i (Ty.prod Ty.i (Ty.prod Ty.i (Ty.prod Ty.i (Ty.prod Ty.i (Ty.prod Ty.i (Ty.prod Ty.i (Ty.prod (Ty.slice
  YReadMark) (Ty.prod (Ty.slice YReadMark) Ty.unit)))))))))) (jk 3 (.slot Ty.i (jk 21 .nil))))), .nil⟩

def laws_eqTransactionS_X4_0 (i : laws_eqTransactionS_I4) (p : Unit) : St := ⟨jn 4 (.b (false) :: jn 22 ([])), []⟩

def laws_eqTransactionS_X4_1 (i : laws_eqTransactionS_I4) (p : Unit) : St := ⟨jn 27 ([]), []⟩

noncomputable def laws_eqTransactionS_E4 (i : laws_eqTransactionS_I4) (p : laws_eqTransactionS_Q4) (R : Type) (K : Ex → St → Option R) : Option R := sumC p (fun p => K (Ex.ret) (laws_eqTransactionS_X4_0 i p)) fun p => K (Ex.exit 0) (laws_eqTransactionS_X4_1 i p)

noncomputable def laws_eqTransactionS_K4 (i : laws_eqTransactionS_I4) (p : laws_eqTransactionS_Q4) : Ex × St := sumC p (fun p => (Ex.ret, laws_eqTransactionS_X4_0 i p)) fun p => (Ex.exit 0, laws_eqTransactionS_X4_1 i p)

def laws_eqTransactionS_M4 (i : laws_eqTransactionS_I4) (v : laws_eqTransactionS_V4) : den laws_eqTransactionS_T4.ty := (i.1, i.2.1, v.1, ())

def laws_eqTransactionS_P4 (x : den laws_eqTransactionS_T4.ty) : laws_eqTransactionS_I4 × laws_eqTransactionS_V4 := ((x.1, x.2.1, ()), (x.2.2.1, ()))

noncomputable def laws_eqTransactionS_C : Cfg := { ti := g_tis, ents := [laws_eqTransaction_Ent], ann := [(4, loopFn laws_eqTransactionS_T4 0 laws_eqTransactionS_P4 laws_eqTransactionS_D4 laws_eqTransactionS_E4)], lent := 0 }

def laws_eqTransactionS_ti : Tmpl := ⟨(.slot (Ty.slice (Ty.prod Ty.i (Ty.prod Ty.i (Ty.prod Ty.i (Ty.prod Ty.i (Ty.prod Ty.i (Ty.prod Ty.i (Ty.prod Ty.i (Ty.prod (Ty.slice
  YReadMark) (Ty.prod (Ty.slice YReadMark) Ty.unit)))))))))) (.slot (Ty.slice (Ty.prod Ty.i (Ty.prod Ty.i (Ty.prod Ty.i (Ty.prod Ty.i (Ty.prod Ty.i (Ty.prod Ty.i (Ty.prod Ty.i (Ty.prod (Ty.slice
  YReadMark) (Ty.prod (Ty.slice YReadMark) Ty.unit)))))))))) .nil)), .nil⟩

def laws_eqTransactionS_to : Tmpl := ⟨(.slot (Ty.bool) .nil), .nil⟩

noncomputable def laws_eqTransactionS_S (x : List (Int × Int × Int × Int × Int × Int × Int × List (Int × Int × Unit) × List (Int × Int × Unit) × Unit) × List (Int × Int × Int × Int × Int × Int × Int × List (Int × Int × Unit) × List (Int × Int × Unit) × Unit) × Unit) : Option (Bool × Unit) :=
  bif (↑(List.length x.1) : Int) != (↑(List.length x.2.1) : Int) then some (false, ()) else Option.bind (iter (fun v => laws_eqTransactionS_D4 (x.1, x.2.1, ()) v _ some) (0, ())) fun p => sumC p (fun p => some (false, ())) fun p =>
  some (true, ())

noncomputable def laws_eqTransactionS_Ent : Ent := ⟨27, laws_eqTransactionS_ti, laws_eqTransactionS_to, laws_eqTransactionS_S⟩

theorem laws_eqTransactionS_HC : CfgOK Go.Proofs.Tryz.prog laws_eqTransactionS_C := hc_of g_tisOK g_wide (all_cons laws_eqTransaction_OK all_nil)

theorem laws_eqTransactionS_lk4 : LkOK Go.Proofs.Tryz.prog laws_eqTransactionS_C (lpc Go.Proofs.Tryz.f27 0) :=
  lk_of laws_eqTransactionS_HC (m := 0) (T := laws_eqTransactionS_T4) (sp := laws_eqTransactionS_P4) (D := laws_eqTransactionS_D4) (E := laws_eqTransactionS_E4) (by kernel_rfl) (by kernel_rfl) (fun k hk => absurd hk (Nat.not_lt_zero k)) [4] laws_eqTransactionS_M4 (fun x => rfl) laws_eqTransactionS_D4_nat laws_eqTransactionS_K4 (fun i p R K => by rcases p with p | p <;> rfl) (fun i v => by kernel_rfl)

theorem laws_eqTransactionS_OK : EntOK Go.Proofs.Tryz.prog laws_eqTransactionS_Ent := ok_of laws_eqTransactionS_HC Go.Proofs.Tryz.func27 1 (by kernel_rfl) (fun k hk => match k, hk with | 0, _ => laws_eqTransactionS_lk4) (by kernel_rfl) (by kernel_rfl) (fun x => by kernel_rfl)

/-! laws.eqLock -/

noncomputable def laws_eqLock_C : Cfg := { ti := g_tis, ents := [], ann := [], lent := 0 }

def laws_eqLock_ti : Tmpl := ⟨(.slot YReadMark (.slot YReadMark .nil)), .nil⟩

def laws_eqLock_to : Tmpl := ⟨(.slot (Ty.bool) .nil), .nil⟩

noncomputable def laws_eqLock_S (x : (Int × Int × Unit) × (Int × Int × Unit) × Unit) : Option (Bool × Unit) :=
  bif x.1.1 != x.2.1.1 then some (false, ()) else bif x.1.2.1 != x.2.1.2.1 then some (false, ()) else some (true, ())

noncomputable def laws_eqLock_Ent : Ent := ⟨79, laws_eqLock_ti, laws_eqLock_to, laws_eqLock_S⟩

theorem laws_eqLock_HC : CfgOK Go.Proofs.Tryz.prog laws_eqLock_C := hc_of g_tisOK g_wide all_nil

theorem laws_eqLock_OK : EntOK Go.Proofs.Tryz.prog laws_eqLock_Ent := ok_of laws_eqLock_HC Go.Proofs.Tryz.func79 0 (by kernel_rfl) (fun k hk => absurd hk (Nat.not_lt_zero k)) (by kernel_rfl) (by kernel_rfl) (fun x => by kernel_rfl)

/-! laws.eqLockS -/

abbrev laws_eqLockS_I4 : Type := List (Int × Int × Unit) × List (Int × Int × Unit) × Unit

abbrev laws_eqLockS_V4 : Type := Int × Unit

abbrev laws_eqLockS_Q4 : Type := Unit ⊕ Unit

noncomputable def laws_eqLockS_D4 (i : laws_eqLockS_I4) (v : laws_eqLockS_V4) (R : Type) (K : laws_eqLockS_V4 ⊕ laws_eqLockS_Q4 → Option R) : Option R :=
  bif decide (v.1 < (↑(List.length i.1) : Int)) then Option.bind (lAt i.1 v.1) fun v_1 => Option.bind (lAt i.2.1 v.1) fun v_2 => Option.bind (laws_eqLock_S ((v_1.1, v_1.2.1, ()), (v_2.1, v_2.2.1, ()), ())) fun v_3 => bif !v_3.1 then K (Sum.inr
  (Sum.inl ())) else K (Sum.inl (IntKind.wrap IntKind.i64 (v.1 + 1), ())) else K (Sum.inr (Sum.inr ()))

theorem laws_eqLockS_D4_nat : NatD laws_eqLockS_D4 := fun i v R K => nat_bif (nat_bind fun _ => nat_bind fun _ => nat_bind fun _ => nat_bif (nat_some) (nat_some)) (nat_some)

def laws_eqLockS_T4 : Tmpl := ⟨(.slot (Ty.slice YReadMark) (.slot (Ty.slice YReadMark) (jk 3 (.slot Ty.i (jk 21 .nil))))), .nil⟩

def laws_eqLockS_X4_0 (i : laws_eqLockS_I4) (p : Unit) : St := ⟨jn 4 (.b (false) :: jn 22 ([])), []⟩

def laws_eqLockS_X4_1 (i : laws_eqLockS_I4) (p : Unit) : St := ⟨jn 27 ([]), []⟩

noncomputable def laws_eqLockS_E4 (i : laws_eqLockS_I4) (p : laws_eqLockS_Q4) (R : Type) (K : Ex → St → Option R) : Option R := sumC p (fun p => K (Ex.ret) (laws_eqLockS_X4_0 i p)) fun p => K (Ex.exit 0) (laws_eqLockS_X4_1 i p)

noncomputable def laws_eqLockS_K4 (i : laws_eqLockS_I4) (p : laws_eqLockS_Q4) : Ex × St := sumC p (fun p => (Ex.ret, laws_eqLockS_X4_0 i p)) fun p => (Ex.exit 0, laws_eqLockS_X4_1 i p)

def laws_eqLockS_M4 (i : laws_eqLockS_I4) (v : laws_eqLockS_V4) : den laws_eqLockS_T4.ty := (i.1, i.2.1, v.1, ())

def laws_eqLockS_P4 (x : den laws_eqLockS_T4.ty) : laws_eqLockS_I4 × laws_eqLockS_V4 := ((x.1, x.2.1, ()), (x.2.2.1, ()))

noncomputable def laws_eqLockS_C : Cfg := { ti := g_tis, ents := [laws_eqLock_Ent], ann := [(4, loopFn laws_eqLockS_T4 0 laws_eqLockS_P4 laws_eqLockS_D4 laws_eqLockS_E4)], lent := 0 }

def laws_eqLockS_ti : Tmpl := ⟨(.slot (Ty.slice YReadMark) (.slot (Ty.slice YReadMark) .nil)), .nil⟩

def laws_eqLockS_to : Tmpl := ⟨(.slot (Ty.bool) .nil), .nil⟩

noncomputable def laws_eqLockS_S (x : List (Int × Int × Unit) × List (Int × Int × Unit) × Unit) : Option (Bool × Unit) :=
  bif (↑(List.length x.1) : Int) != (↑(List.length x.2.1) : Int) then some (false, ()) else Option.bind (iter (fun v => laws_eqLockS_D4 (x.1, x.2.1, ()) v _ some) (0, ())) fun p => sumC p (fun p => some (false, ())) fun p => some
  (true, ())

noncomputable def laws_eqLockS_Ent : Ent := ⟨28, laws_eqLockS_ti, laws_eqLockS_to, laws_eqLockS_S⟩

theorem laws_eqLockS_HC : CfgOK Go.Proofs.Tryz.prog laws_eqLockS_C := hc_of g_tisOK g_wide (all_cons laws_eqLock_OK all_nil)

theorem laws_eqLockS_lk4 : LkOK Go.Proofs.Tryz.prog laws_eqLockS_C (lpc Go.Proofs.Tryz.f28 0) :=
  lk_of laws_eqLockS_HC (m := 0) (T := laws_eqLockS_T4) (sp := laws_eqLockS_P4) (D := laws_eqLockS_D4) (E := laws_eqLockS_E4) (by kernel_rfl) (by kernel_rfl) (fun k hk => absurd hk (Nat.not_lt_zero k)) [4] laws_eqLockS_M4 (fun x => rfl) laws_eqLockS_D4_nat laws_eqLockS_K4 (fun i p R K => by rcases p with p | p <;> rfl) (fun i v => by kernel_rfl)

theorem laws_eqLockS_OK : EntOK Go.Proofs.Tryz.prog laws_eqLockS_Ent := ok_of laws_eqLockS_HC Go.Proofs.Tryz.func28 1 (by kernel_rfl) (fun k hk => match k, hk with | 0, _ => laws_eqLockS_lk4) (by kernel_rfl) (by kernel_rfl) (fun x => by kernel_rfl)

/-! laws.eqWait -/

noncomputable def laws_eqWait_C : Cfg := { ti := g_tis, ents := [], ann := [], lent := 0 }

def laws_eqWait_ti : Tmpl := ⟨(.slot YReadMark (.slot YReadMark .nil)), .nil⟩

def laws_eqWait_to : Tmpl := ⟨(.slot (Ty.bool) .nil), .nil⟩

noncomputable def laws_eqWait_S (x : (Int × Int × Unit) × (Int × Int × Unit) × Unit) : Option (Bool × Unit) :=
  bif x.1.1 != x.2.1.1 then some (false, ()) else bif x.1.2.1 != x.2.1.2.1 then some (false, ()) else some (true, ())

noncomputable def laws_eqWait_Ent : Ent := ⟨80, laws_eqWait_ti, laws_eqWait_to, laws_eqWait_S⟩

theorem laws_eqWait_HC : CfgOK Go.Proofs.Tryz.prog laws_eqWait_C := hc_of g_tisOK g_wide all_nil

theorem laws_eqWait_OK : EntOK Go.Proofs.Tryz.prog laws_eqWait_Ent := ok_of laws_eqWait_HC Go.Proofs.Tryz.func80 0 (by kernel_rfl) (fun k hk => absurd hk (Nat.not_lt_zero k)) (by kernel_rfl) (by kernel_rfl) (fun x => by kernel_rfl)

/-! laws.eqWaitS -/

abbrev laws_eqWaitS_I4 : Type := List (Int × Int × Unit) × List (Int × Int × Unit) × Unit

abbrev laws_eqWaitS_V4 : Type := Int × Unit

abbrev laws_eqWaitS_Q4 : Type := Unit ⊕ Unit

noncomputable def laws_eqWaitS_D4 (i : laws_eqWaitS_I4) (v : laws_eqWaitS_V4) (R : Type) (K : laws_eqWaitS_V4 ⊕ laws_eqWaitS_Q4 → Option R) : Option R :=
  bif decide (v.1 < (↑(List.length i.1) : Int)) then Option.bind (lAt i.1 v.1) fun v_1 => Option.bind (lAt i.2.1 v.1) fun v_2 => Option.bind (laws_eqWait_S ((v_1.1, v_1.2.1, ()), (v_2.1, v_2.2.1, ()), ())) fun v_3 => bif !v_3.1 then K (Sum.inr
  (Sum.inl ())) else K (Sum.inl (IntKind.wrap IntKind.i64 (v.1 + 1), ())) else K (Sum.inr (Sum.inr ()))

theorem laws_eqWaitS_D4_nat : NatD laws_eqWaitS_D4 := fun i v R K => nat_bif (nat_bind fun _ => nat_bind fun _ => nat_bind fun _ => nat_bif (nat_some) (nat_some)) (nat_some)

def laws_eqWaitS_T4 : Tmpl := ⟨(.slot (Ty.slice YReadMark) (.slot (Ty.slice YReadMark) (jk 3 (.slot Ty.i (jk 21 .nil))))), .nil⟩

def laws_eqWaitS_X4_0 (i : laws_eqWaitS_I4) (p : Unit) : St := ⟨jn 4 (.b (false) :: jn 22 ([])), []⟩

def laws_eqWaitS_X4_1 (i : laws_eqWaitS_I4) (p : Unit) : St := ⟨jn 27 ([]), []⟩

noncomputable def laws_eqWaitS_E4 (i : laws_eqWaitS_I4) (p : laws_eqWaitS_Q4) (R : Type) (K : Ex → St → Option R) : Option R := sumC p (fun p => K (Ex.ret) (laws_eqWaitS_X4_0 i p)) fun p => K (Ex.exit 0) (laws_eqWaitS_X4_1 i p)

noncomputable def laws_eqWaitS_K4 (i : laws_eqWaitS_I4) (p : laws_eqWaitS_Q4) : Ex × St := sumC p (fun p => (Ex.ret, laws_eqWaitS_X4_0 i p)) fun p => (Ex.exit 0, laws_eqWaitS_X4_1 i p)

def laws_eqWaitS_M4 (i : laws_eqWaitS_I4) (v : laws_eqWaitS_V4) : den laws_eqWaitS_T4.ty := (i.1, i.2.1, v.1, ())

def laws_eqWaitS_P4 (x : den laws_eqWaitS_T4.ty) : laws_eqWaitS_I4 × laws_eqWaitS_V4 := ((x.1, x.2.1, ()), (x.2.2.1, ()))

noncomputable def laws_eqWaitS_C : Cfg := { ti := g_tis, ents := [laws_eqWait_Ent], ann := [(4, loopFn laws_eqWaitS_T4 0 laws_eqWaitS_P4 laws_eqWaitS_D4 laws_eqWaitS_E4)], lent := 0 }

def laws_eqWaitS_ti : Tmpl := ⟨(.slot (Ty.slice YReadMark) (.slot (Ty.slice YReadMark) .nil)), .nil⟩

def laws_eqWaitS_to : Tmpl := ⟨(.slot (Ty.bool) .nil), .nil⟩

noncomputable def laws_eqWaitS_S (x : List (Int × Int × Unit) × List (Int × Int × Unit) × Unit) : Option (Bool × Unit) :=
  bif (↑(List.length x.1) : Int) != (↑(List.length x.2.1) : Int) then some (false, ()) else Option.bind (iter (fun v => laws_eqWaitS_D4 (x.1, x.2.1, ()) v _ some) (0, ())) fun p => sumC p (fun p => some (false, ())) fun p => some
  (true, ())

noncomputable def laws_eqWaitS_Ent : Ent := ⟨29, laws_eqWaitS_ti, laws_eqWaitS_to, laws_eqWaitS_S⟩

theorem laws_eqWaitS_HC : CfgOK Go.Proofs.Tryz.prog laws_eqWaitS_C := hc_of g_tisOK g_wide (all_cons laws_eqWait_OK all_nil)

theorem laws_eqWaitS_lk4 : LkOK Go.Proofs.Tryz.prog laws_eqWaitS_C (lpc Go.Proofs.Tryz.f29 0) :=
  lk_of laws_eqWaitS_HC (m := 0) (T := laws_eqWaitS_T4) (sp := laws_eqWaitS_P4) (D := laws_eqWaitS_D4) (E := laws_eqWaitS_E4) (by kernel_rfl) (by kernel_rfl) (fun k hk => absurd hk (Nat.not_lt_zero k)) [4] laws_eqWaitS_M4 (fun x => rfl) laws_eqWaitS_D4_nat laws_eqWaitS_K4 (fun i p R K => by rcases p with p | p <;> rfl) (fun i v => by kernel_rfl)

theorem laws_eqWaitS_OK : EntOK Go.Proofs.Tryz.prog laws_eqWaitS_Ent := ok_of laws_eqWaitS_HC Go.Proofs.Tryz.func29 1 (by kernel_rfl) (fun k hk => match k, hk with | 0, _ => laws_eqWaitS_lk4) (by kernel_rfl) (by kernel_rfl) (fun x => by kernel_rfl)

/-! laws.eqEngine -/

noncomputable def laws_eqEngine_C : Cfg := { ti := g_tis, ents := [laws_eqStore_Ent, laws_eqTransactionS_Ent, laws_eqLockS_Ent, laws_eqWaitS_Ent], ann := [], lent := 0 }

def laws_eqEngine_ti : Tmpl := ⟨(.slot (Ty.prod Ty.bool (Ty.prod YStore (Ty.prod
  (Ty.slice (Ty.prod Ty.i (Ty.prod Ty.i (Ty.prod Ty.i (Ty.prod Ty.i (Ty.prod Ty.i (Ty.prod Ty.i (Ty.prod Ty.i (Ty.prod (Ty.slice
  YReadMark) (Ty.prod (Ty.slice YReadMark) Ty.unit)))))))))) (Ty.prod (Ty.slice (Ty.prod Ty.i (Ty.prod
  Ty.i Ty.unit))) (Ty.prod (Ty.slice YReadMark) (Ty.prod Ty.i Ty.unit)))))) (.slot (Ty.prod Ty.bool (Ty.prod YStore (Ty.prod
  (Ty.slice (Ty.prod Ty.i (Ty.prod Ty.i (Ty.prod Ty.i (Ty.prod Ty.i (Ty.prod Ty.i (Ty.prod Ty.i (Ty.prod Ty.i (Ty.prod (Ty.slice
  YReadMark) (Ty.prod (Ty.slice YReadMark) Ty.unit)))))))))) (Ty.prod (Ty.slice (Ty.prod Ty.i (Ty.prod
  Ty.i Ty.unit))) (Ty.prod (Ty.slice YReadMark) (Ty.prod Ty.i Ty.unit)))))) .nil)), .nil⟩

def laws_eqEngine_to : Tmpl := ⟨(.slot (Ty.bool) .nil), .nil⟩

noncomputable def laws_eqEngine_S (x : (Bool × (List (List (Int × Int × Int × Int × Int × Unit)) × Unit) × List (Int × Int × Int × Int × Int × Int × Int × List (Int × Int × Unit) × List (Int × Int × Unit) × Unit) × List (Int × Int × Unit) × List (Int × Int × Unit) × Int × Unit) ×
  (Bool × (List (List (Int × Int × Int × Int × Int × Unit)) × Unit) × List (Int × Int × Int × Int × Int × Int × Int × List (Int × Int × Unit) × List (Int × Int × Unit) × Unit) × List (Int × Int × Unit) × List (Int × Int × Unit) × Int × Unit) ×
  Unit) : Option (Bool × Unit) :=
  bif !x.1.1 == x.2.1.1 then some (false, ()) else Option.bind (laws_eqStore_S ((x.1.2.1.1, ()), (x.2.1.2.1.1, ()), ())) fun v => bif !v.1 then some (false, ()) else Option.bind (laws_eqTransactionS_S (x.1.2.2.1, x.2.1.2.2.1, ())) fun v => bif
  !v.1 then some (false, ()) else Option.bind (laws_eqLockS_S (x.1.2.2.2.1, x.2.1.2.2.2.1, ())) fun v => bif !v.1 then some (false, ()) else Option.bind (laws_eqWaitS_S (x.1.2.2.2.2.1, x.2.1.2.2.2.2.1, ())) fun v => bif !v.1 then some (false,
  ()) else bif x.1.2.2.2.2.2.1 != x.2.1.2.2.2.2.2.1 then some (false, ()) else some (true, ())

noncomputable def laws_eqEngine_Ent : Ent := ⟨8, laws_eqEngine_ti, laws_eqEngine_to, laws_eqEngine_S⟩

theorem laws_eqEngine_HC : CfgOK Go.Proofs.Tryz.prog laws_eqEngine_C := hc_of g_tisOK g_wide (all_cons laws_eqStore_OK (all_cons laws_eqTransactionS_OK (all_cons laws_eqLockS_OK (all_cons laws_eqWaitS_OK all_nil))))

theorem laws_eqEngine_OK : EntOK Go.Proofs.Tryz.prog laws_eqEngine_Ent := ok_of laws_eqEngine_HC Go.Proofs.Tryz.func8 0 (by kernel_rfl) (fun k hk => absurd hk (Nat.not_lt_zero k)) (by kernel_rfl) (by kernel_rfl) (fun x => by kernel_rfl)

/-! laws.markVersionS -/

abbrev laws_markVersionS_n_I2 : Type := Nat × Unit

abbrev laws_markVersionS_n_V2 : Type := Int × Int × List (List (Int × Int × Int × Int × Int × Unit)) × Unit

abbrev laws_markVersionS_n_Q2 : Type := Int × List (List (Int × Int × Int × Int × Int × Unit)) × Unit

noncomputable def laws_markVersionS_n_D2 (i : laws_markVersionS_n_I2) (v : laws_markVersionS_n_V2) (R : Type) (K : laws_markVersionS_n_V2 ⊕ laws_markVersionS_n_Q2 → Option R) : Option R :=
  Option.bind v.2.2.1[i.1]? fun v_1 => bif decide (v.2.1 < (↑(List.length v_1) : Int)) then Option.bind v.2.2.1[i.1]? fun v_2 => if 0 ≤ v.2.1 ∧ v.2.1 < (↑(List.length v_2) : Int) then Option.bind v.2.2.1[i.1]? fun v_3 => Option.bind v_3[0 +
  Int.toNat v.2.1]? fun v_4 => Option.bind (List.set v.2.2.1 i.1 (List.set v_3 (0 + Int.toNat v.2.1) (v.1, v_4.2.1, v_4.2.2.1, v_4.2.2.2.1, v_4.2.2.2.2.1, ())))[i.1]? fun v_5 => if 0 ≤ v.2.1 ∧ v.2.1 < (↑(List.length v_5) : Int) then
  Option.bind (List.set v.2.2.1 i.1 (List.set v_3 (0 + Int.toNat v.2.1) (v.1, v_4.2.1, v_4.2.2.1, v_4.2.2.2.1, v_4.2.2.2.2.1, ())))[i.1]? fun v_6 => Option.bind v_6[0 + Int.toNat v.2.1]? fun v_7 => Option.bind (List.set (List.set v.2.2.1 i.1
  (List.set v_3 (0 + Int.toNat v.2.1) (v.1, v_4.2.1, v_4.2.2.1, v_4.2.2.2.1, v_4.2.2.2.2.1, ()))) i.1 (List.set v_6 (0 + Int.toNat v.2.1) (v_7.1, IntKind.wrap IntKind.i64 (v.1 + 1), v_7.2.2.1, v_7.2.2.2.1, v_7.2.2.2.2.1, ())))[i.1]? fun v_8 =>
  if 0 ≤ v.2.1 ∧ v.2.1 < (↑(List.length v_8) : Int) then Option.bind (List.set (List.set v.2.2.1 i.1 (List.set v_3 (0 + Int.toNat v.2.1) (v.1, v_4.2.1, v_4.2.2.1, v_4.2.2.2.1, v_4.2.2.2.2.1, ()))) i.1 (List.set v_6 (0 + Int.toNat v.2.1)
  (v_7.1, IntKind.wrap IntKind.i64 (v.1 + 1), v_7.2.2.1, v_7.2.2.2.1, v_7.2.2.2.2.1, ())))[i.1]? fun v_9 => Option.bind v_9[0 + Int.toNat v.2.1]? fun v_10 => Option.bind (List.set (List.set (List.set v.2.2.1 i.1 (List.set v_3 (0 + Int.toNat
  v.2.1) (v.1, v_4.2.1, v_4.2.2.1, v_4.2.2.2.1, v_4.2.2.2.2.1, ()))) i.1 (List.set v_6 (0 + Int.toNat v.2.1) (v_7.1, IntKind.wrap IntKind.i64 (v.1 + 1), v_7.2.2.1, v_7.2.2.2.1, v_7.2.2.2.2.1, ()))) i.1 (List.set v_9 (0 + Int.toNat v.2.1)
  (v_10.1, v_10.2.1, IntKind.wrap IntKind.i64 (IntKind.wrap IntKind.i64 (v.1 + 1) + 1), v_10.2.2.2.1, v_10.2.2.2.2.1, ())))[i.1]? fun v_11 => if 0 ≤ v.2.1 ∧ v.2.1 < (↑(List.length v_11) : Int) then Option.bind (List.set (List.set (List.set
  v.2.2.1 i.1 (List.set v_3 (0 + Int.toNat v.2.1) (v.1, v_4.2.1, v_4.2.2.1, v_4.2.2.2.1, v_4.2.2.2.2.1, ()))) i.1 (List.set v_6 (0 + Int.toNat v.2.1) (v_7.1, IntKind.wrap IntKind.i64 (v.1 + 1), v_7.2.2.1, v_7.2.2.2.1, v_7.2.2.2.2.1, ()))) i.1
  (List.set v_9 (0 + Int.toNat v.2.1) (v_10.1, v_10.2.1, IntKind.wrap IntKind.i64 (IntKind.wrap IntKind.i64 (v.1 + 1) + 1), v_10.2.2.2.1, v_10.2.2.2.2.1, ())))[i.1]? fun v_12 => Option.bind v_12[0 + Int.toNat v.2.1]? fun v_13 => Option.bind
  (List.set (List.set (List.set (List.set v.2.2.1 i.1 (List.set v_3 (0 + Int.toNat v.2.1) (v.1, v_4.2.1, v_4.2.2.1, v_4.2.2.2.1, v_4.2.2.2.2.1, ()))) i.1 (List.set v_6 (0 + Int.toNat v.2.1) (v_7.1, IntKind.wrap IntKind.i64 (v.1 + 1),
  v_7.2.2.1, v_7.2.2.2.1, v_7.2.2.2.2.1, ()))) i.1 (List.set v_9 (0 + Int.toNat v.2.1) (v_10.1, v_10.2.1, IntKind.wrap IntKind.i64 (IntKind.wrap IntKind.i64 (v.1 + 1) + 1), v_10.2.2.2.1, v_10.2.2.2.2.1, ()))) i.1 (List.set v_12 (0 + Int.toNat
  v.2.1) (v_13.1, v_13.2.1, v_13.2.2.1, IntKind.wrap IntKind.i64 (IntKind.wrap IntKind.i64 (IntKind.wrap IntKind.i64 (v.1 + 1) + 1) + 1), v_13.2.2.2.2.1, ())))[i.1]? fun v_14 => if 0 ≤ v.2.1 ∧ v.2.1 < (↑(List.length v_14) : Int) then
  Option.bind (List.set (List.set (List.set (List.set v.2.2.1 i.1 (List.set v_3 (0 + Int.toNat v.2.1) (v.1, v_4.2.1, v_4.2.2.1, v_4.2.2.2.1, v_4.2.2.2.2.1, ()))) i.1 (List.set v_6 (0 + Int.toNat v.2.1) (v_7.1, IntKind.wrap IntKind.i64 (v.1 +
  1), v_7.2.2.1, v_7.2.2.2.1, v_7.2.2.2.2.1, ()))) i.1 (List.set v_9 (0 + Int.toNat v.2.1) (v_10.1, v_10.2.1, IntKind.wrap IntKind.i64 (IntKind.wrap IntKind.i64 (v.1 + 1) + 1), v_10.2.2.2.1, v_10.2.2.2.2.1, ()))) i.1 (List.set v_12 (0 +
  Int.toNat v.2.1) (v_13.1, v_13.2.1, v_13.2.2.1, IntKind.wrap IntKind.i64 (IntKind.wrap IntKind.i64 (IntKind.wrap IntKind.i64 (v.1 + 1) + 1) + 1), v_13.2.2.2.2.1, ())))[i.1]? fun v_15 => Option.bind v_15[0 + Int.toNat v.2.1]? fun v_16 => K
  (Sum.inl (IntKind.wrap IntKind.i64 (IntKind.wrap IntKind.i64 (IntKind.wrap IntKind.i64 (IntKind.wrap IntKind.i64 (IntKind.wrap IntKind.i64 (v.1 + 1) + 1) + 1) + 1) + 1), IntKind.wrap IntKind.i64 (v.2.1 + 1), List.set (List.set (List.set
  (List.set (List.set v.2.2.1 i.1 (List.set v_3 (0 + Int.toNat v.2.1) (v.1, v_4.2.1, v_4.2.2.1, v_4.2.2.2.1, v_4.2.2.2.2.1, ()))) i.1 (List.set v_6 (0 + Int.toNat v.2.1) (v_7.1, IntKind.wrap IntKind.i64 (v.1 + 1), v_7.2.2.1, v_7.2.2.2.1,
  v_7.2.2.2.2.1, ()))) i.1 (List.set v_9 (0 + Int.toNat v.2.1) (v_10.1, v_10.2.1, IntKind.wrap IntKind.i64 (IntKind.wrap IntKind.i64 (v.1 + 1) + 1), v_10.2.2.2.1, v_10.2.2.2.2.1, ()))) i.1 (List.set v_12 (0 + Int.toNat v.2.1) (v_13.1,
  v_13.2.1, v_13.2.2.1, IntKind.wrap IntKind.i64 (IntKind.wrap IntKind.i64 (IntKind.wrap IntKind.i64 (v.1 + 1) + 1) + 1), v_13.2.2.2.2.1, ()))) i.1 (List.set v_15 (0 + Int.toNat v.2.1) (v_16.1, v_16.2.1, v_16.2.2.1, v_16.2.2.2.1, IntKind.wrap
  IntKind.i64 (IntKind.wrap IntKind.i64 (IntKind.wrap IntKind.i64 (IntKind.wrap IntKind.i64 (v.1 + 1) + 1) + 1) + 1), ())), ())) else none else none else none else none else none else K (Sum.inr (v.1, v.2.2.1, ()))

theorem laws_markVersionS_n_D2_nat : NatD laws_markVersionS_n_D2 := fun i v R K => nat_bind fun _ => nat_bif (nat_bind fun _ => nat_ite (nat_bind fun _ => nat_bind fun _ => nat_bind fun _ => nat_ite (nat_bind fun _ => nat_bind fun _ => nat_bind fun _ => nat_ite (nat_bind fun _ => nat_bind fun _ => nat_bind fun _ => nat_ite (nat_bind fun _ => nat_bind fun _ => nat_bind fun _ => nat_ite (nat_bind fun _ => nat_bind fun _ => nat_some)))))) (nat_some)

def laws_markVersionS_n_T2 : Tmpl := ⟨(.nown 0 0 (.slot Ty.i (jk 3 (.slot Ty.i (jk 42 .nil))))), (.tree false 0 (Ty.slice YVersion) .nil)⟩

def laws_markVersionS_n_X2_0 (i : laws_markVersionS_n_I2) (p : Int × List (List (Int × Int × Int × Int × Int × Unit)) × Unit) : St := ⟨jn 1 (.n (p.1) :: jn 46 ([])), [some (Cont.tree false 0 (Ty.slice YVersion) p.2.1
  none)]⟩

noncomputable def laws_markVersionS_n_E2 (i : laws_markVersionS_n_I2) (p : laws_markVersionS_n_Q2) (R : Type) (K : Ex → St → Option R) : Option R := K (Ex.exit 0) (laws_markVersionS_n_X2_0 i p)

noncomputable def laws_markVersionS_n_K2 (i : laws_markVersionS_n_I2) (p : laws_markVersionS_n_Q2) : Ex × St := (Ex.exit 0, laws_markVersionS_n_X2_0 i p)

def laws_markVersionS_n_M2 (i : laws_markVersionS_n_I2) (v : laws_markVersionS_n_V2) : den laws_markVersionS_n_T2.ty := (i.1, v.1, v.2.1, v.2.2.1, ())

def laws_markVersionS_n_P2 (x : den laws_markVersionS_n_T2.ty) : laws_markVersionS_n_I2 × laws_markVersionS_n_V2 := ((x.1, ()), (x.2.1, x.2.2.1, x.2.2.2.1, ()))

noncomputable def laws_markVersionS_n_C : Cfg := { ti := g_tis, ents := [], ann := [(2, loopFn laws_markVersionS_n_T2 1 laws_markVersionS_n_P2 laws_markVersionS_n_D2 laws_markVersionS_n_E2)], lent := 1 }

def laws_markVersionS_n_ti : Tmpl := ⟨(.nown 0 0 (.slot Ty.i .nil)), (.tree false 0 (Ty.slice YVersion) .nil)⟩

def laws_markVersionS_n_to : Tmpl := ⟨(.slot Ty.i .nil), (.tree false 0 (Ty.slice YVersion) .nil)⟩

noncomputable def laws_markVersionS_n_S (x : Nat × Int × List (List (Int × Int × Int × Int × Int × Unit)) × Unit) : Option (Int × List (List (Int × Int × Int × Int × Int × Unit)) × Unit) :=
  Option.bind (iter (fun v => laws_markVersionS_n_D2 (x.1, ()) v _ some) (x.2.1, 0, x.2.2.1, ())) fun p => some (p.1, p.2.1, ())

noncomputable def laws_markVersionS_n_Ent : Ent := ⟨117, laws_markVersionS_n_ti, laws_markVersionS_n_to, laws_markVersionS_n_S⟩

theorem laws_markVersionS_n_HC : CfgOK Go.Proofs.Tryz.prog laws_markVersionS_n_C := hc_of g_tisOK g_wide all_nil

theorem laws_markVersionS_n_lk2 : LkOK Go.Proofs.Tryz.prog laws_markVersionS_n_C (lpc Go.Proofs.Tryz.f117 0) :=
  lk_of laws_markVersionS_n_HC (m := 0) (T := laws_markVersionS_n_T2) (sp := laws_markVersionS_n_P2) (D := laws_markVersionS_n_D2) (E := laws_markVersionS_n_E2) (by kernel_rfl) (by kernel_rfl) (fun k hk => absurd hk (Nat.not_lt_zero k)) [1] laws_markVersionS_n_M2 (fun x => rfl) laws_markVersionS_n_D2_nat laws_markVersionS_n_K2 (fun i p R K => rfl) (fun i v => by kernel_rfl)

theorem laws_markVersionS_n_OK : EntOK Go.Proofs.Tryz.prog laws_markVersionS_n_Ent := ok_of laws_markVersionS_n_HC Go.Proofs.Tryz.func117 1 (by kernel_rfl) (fun k hk => match k, hk with | 0, _ => laws_markVersionS_n_lk2) (by kernel_rfl) (by kernel_rfl) (fun x => by kernel_rfl)

/-! laws.markVersionSS -/

abbrev laws_markVersionSS_l_I2 : Type := Unit

abbrev laws_markVersionSS_l_V2 : Type := Int × Int × List (List (Int × Int × Int × Int × Int × Unit)) × Unit

abbrev laws_markVersionSS_l_Q2 : Type := Int × List (List (Int × Int × Int × Int × Int × Unit)) × Unit

noncomputable def laws_markVersionSS_l_D2 (i : laws_markVersionSS_l_I2) (v : laws_markVersionSS_l_V2) (R : Type) (K : laws_markVersionSS_l_V2 ⊕ laws_markVersionSS_l_Q2 → Option R) : Option R :=
  bif decide (v.2.1 < (↑(List.length v.2.2.1) : Int)) then if 0 ≤ v.2.1 ∧ v.2.1 < (↑(List.length v.2.2.1) : Int) then Option.bind v.2.2.1[0 + Int.toNat v.2.1]? fun v_1 => Option.bind (laws_markVersionS_n_S (0 + Int.toNat v.2.1, v.1, v.2.2.1,
  ())) fun v_2 => K (Sum.inl (v_2.1, IntKind.wrap IntKind.i64 (v.2.1 + 1), v_2.2.1, ())) else none else K (Sum.inr (v.1, v.2.2.1, ()))

theorem laws_markVersionSS_l_D2_nat : NatD laws_markVersionSS_l_D2 := fun i v R K => nat_bif (nat_ite (nat_bind fun _ => nat_bind fun _ => nat_some)) (nat_some)

def laws_markVersionSS_l_T2 : Tmpl := ⟨(.own 0 (.slot Ty.i (jk 3 (.slot Ty.i (jk 13 .nil))))), (.tree false 0 (Ty.slice YVersion) .nil)⟩

def laws_markVersionSS_l_X2_0 (i : laws_markVersionSS_l_I2) (p : Int × List (List (Int × Int × Int × Int × Int × Unit)) × Unit) : St := ⟨jn 1 (.n (p.1) :: jn 17 ([])), [some (Cont.tree false 0 (Ty.slice YVersion) p.2.1
  none)]⟩

noncomputable def laws_markVersionSS_l_E2 (i : laws_markVersionSS_l_I2) (p : laws_markVersionSS_l_Q2) (R : Type) (K : Ex → St → Option R) : Option R := K (Ex.exit 0) (laws_markVersionSS_l_X2_0 i p)

noncomputable def laws_markVersionSS_l_K2 (i : laws_markVersionSS_l_I2) (p : laws_markVersionSS_l_Q2) : Ex × St := (Ex.exit 0, laws_markVersionSS_l_X2_0 i p)

def laws_markVersionSS_l_M2 (i : laws_markVersionSS_l_I2) (v : laws_markVersionSS_l_V2) : den laws_markVersionSS_l_T2.ty := (v.1, v.2.1, v.2.2.1, ())

def laws_markVersionSS_l_P2 (x : den laws_markVersionSS_l_T2.ty) : laws_markVersionSS_l_I2 × laws_markVersionSS_l_V2 := ((()), (x.1, x.2.1, x.2.2.1, ()))

noncomputable def laws_markVersionSS_l_C : Cfg := { ti := g_tis, ents := [laws_markVersionS_n_Ent], ann := [(2, loopFn laws_markVersionSS_l_T2 1 laws_markVersionSS_l_P2 laws_markVersionSS_l_D2 laws_markVersionSS_l_E2)], lent := 1 }

def laws_markVersionSS_l_ti : Tmpl := ⟨(.own 0 (.slot Ty.i .nil)), (.tree false 0 (Ty.slice YVersion) .nil)⟩

def laws_markVersionSS_l_to : Tmpl := ⟨(.slot Ty.i .nil), (.tree false 0 (Ty.slice YVersion) .nil)⟩

noncomputable def laws_markVersionSS_l_S (x : Int × List (List (Int × Int × Int × Int × Int × Unit)) × Unit) : Option (Int × List (List (Int × Int × Int × Int × Int × Unit)) × Unit) :=
  Option.bind (iter (fun v => laws_markVersionSS_l_D2 () v _ some) (x.1, 0, x.2.1, ())) fun p => some (p.1, p.2.1, ())

noncomputable def laws_markVersionSS_l_Ent : Ent := ⟨81, laws_markVersionSS_l_ti, laws_markVersionSS_l_to, laws_markVersionSS_l_S⟩

theorem laws_markVersionSS_l_HC : CfgOK Go.Proofs.Tryz.prog laws_markVersionSS_l_C := hc_of g_tisOK g_wide (all_cons laws_markVersionS_n_OK all_nil)

theorem laws_markVersionSS_l_lk2 : LkOK Go.Proofs.Tryz.prog laws_markVersionSS_l_C (lpc Go.Proofs.Tryz.f81 0) :=
  lk_of laws_markVersionSS_l_HC (m := 0) (T := laws_markVersionSS_l_T2) (sp := laws_markVersionSS_l_P2) (D := laws_markVersionSS_l_D2) (E := laws_markVersionSS_l_E2) (by kernel_rfl) (by kernel_rfl) (fun k hk => absurd hk (Nat.not_lt_zero k)) [1] laws_markVersionSS_l_M2 (fun x => rfl) laws_markVersionSS_l_D2_nat laws_markVersionSS_l_K2 (fun i p R K => rfl) (fun i v => by kernel_rfl)

theorem laws_markVersionSS_l_OK : EntOK Go.Proofs.Tryz.prog laws_markVersionSS_l_Ent := ok_of laws_markVersionSS_l_HC Go.Proofs.Tryz.func81 1 (by kernel_rfl) (fun k hk => match k, hk with | 0, _ => laws_markVersionSS_l_lk2) (by kernel_rfl) (by kernel_rfl) (fun x => by kernel_rfl)

/-! laws.markStore -/

noncomputable def laws_markStore_l_C : Cfg := { ti := g_tis, ents := [laws_markVersionSS_l_Ent], ann := [], lent := 1 }

def laws_markStore_l_ti : Tmpl := ⟨(.agg (.own 0 .nil) (.slot Ty.i .nil)), (.tree false 0 (Ty.slice YVersion) .nil)⟩

def laws_markStore_l_to : Tmpl := ⟨(.slot Ty.i .nil), (.tree false 0 (Ty.slice YVersion) .nil)⟩

noncomputable def laws_markStore_l_S (x : Int × List (List (Int × Int × Int × Int × Int × Unit)) × Unit) : Option (Int × List (List (Int × Int × Int × Int × Int × Unit)) × Unit) :=
  Option.bind (laws_markVersionSS_l_S (x.1, x.2.1, ())) fun v => some (v.1, v.2.1, ())

noncomputable def laws_markStore_l_Ent : Ent := ⟨30, laws_markStore_l_ti, laws_markStore_l_to, laws_markStore_l_S⟩

theorem laws_markStore_l_HC : CfgOK Go.Proofs.Tryz.prog laws_markStore_l_C := hc_of g_tisOK g_wide (all_cons laws_markVersionSS_l_OK all_nil)

theorem laws_markStore_l_OK : EntOK Go.Proofs.Tryz.prog laws_markStore_l_Ent := ok_of laws_markStore_l_HC Go.Proofs.Tryz.func30 0 (by kernel_rfl) (fun k hk => absurd hk (Nat.not_lt_zero k)) (by kernel_rfl) (by kernel_rfl) (fun x => by kernel_rfl)

/-! laws.markReadMarkS -/

abbrev laws_markReadMarkS_n_I2 : Type := Nat × Unit

abbrev laws_markReadMarkS_n_V2 : Type := Int × Int × List (Int × Int × Int × Int × Int × Int × Int × List (Int × Int × Unit) × List (Int × Int × Unit) × Unit) × Unit

abbrev laws_markReadMarkS_n_Q2 : Type := Int × List (Int × Int × Int × Int × Int × Int × Int × List (Int × Int × Unit) × List (Int × Int × Unit) × Unit) × Unit

noncomputable def laws_markReadMarkS_n_D2 (i : laws_markReadMarkS_n_I2) (v : laws_markReadMarkS_n_V2) (R : Type) (K : laws_markReadMarkS_n_V2 ⊕ laws_markReadMarkS_n_Q2 → Option R) : Option R :=
  Option.bind v.2.2.1[i.1]? fun v_1 => bif decide (v.2.1 < (↑(List.length v_1.2.2.2.2.2.2.2.1) : Int)) then Option.bind v.2.2.1[i.1]? fun v_2 => if 0 ≤ v.2.1 ∧ v.2.1 < (↑(List.length v_2.2.2.2.2.2.2.2.1) : Int) then Option.bind v.2.2.1[i.1]?
  fun v_3 => Option.bind v_3.2.2.2.2.2.2.2.1[0 + Int.toNat v.2.1]? fun v_4 => Option.bind (List.set v.2.2.1 i.1 (v_3.1, v_3.2.1, v_3.2.2.1, v_3.2.2.2.1, v_3.2.2.2.2.1, v_3.2.2.2.2.2.1, v_3.2.2.2.2.2.2.1, List.set v_3.2.2.2.2.2.2.2.1 (0 +
  Int.toNat v.2.1) (v.1, v_4.2.1, ()), v_3.2.2.2.2.2.2.2.2.1, ()))[i.1]? fun v_5 => if 0 ≤ v.2.1 ∧ v.2.1 < (↑(List.length v_5.2.2.2.2.2.2.2.1) : Int) then Option.bind (List.set v.2.2.1 i.1 (v_3.1, v_3.2.1, v_3.2.2.1, v_3.2.2.2.1,
  v_3.2.2.2.2.1, v_3.2.2.2.2.2.1, v_3.2.2.2.2.2.2.1, List.set v_3.2.2.2.2.2.2.2.1 (0 + Int.toNat v.2.1) (v.1, v_4.2.1, ()), v_3.2.2.2.2.2.2.2.2.1, ()))[i.1]? fun v_6 => Option.bind v_6.2.2.2.2.2.2.2.1[0 + Int.toNat v.2.1]? fun v_7 => K
  (Sum.inl (IntKind.wrap IntKind.i64 (IntKind.wrap IntKind.i64 (v.1 + 1) + 1), IntKind.wrap IntKind.i64 (v.2.1 + 1), List.set (List.set v.2.2.1 i.1 (v_3.1, v_3.2.1, v_3.2.2.1, v_3.2.2.2.1, v_3.2.2.2.2.1, v_3.2.2.2.2.2.1, v_3.2.2.2.2.2.2.1,
  List.set v_3.2.2.2.2.2.2.2.1 (0 + Int.toNat v.2.1) (v.1, v_4.2.1, ()), v_3.2.2.2.2.2.2.2.2.1, ())) i.1 (v_6.1, v_6.2.1, v_6.2.2.1, v_6.2.2.2.1, v_6.2.2.2.2.1, v_6.2.2.2.2.2.1, v_6.2.2.2.2.2.2.1, List.set v_6.2.2.2.2.2.2.2.1 (0 + Int.toNat
  v.2.1) (v_7.1, IntKind.wrap IntKind.i64 (v.1 + 1), ()), v_6.2.2.2.2.2.2.2.2.1, ()), ())) else none else none else K (Sum.inr (v.1, v.2.2.1, ()))

theorem laws_markReadMarkS_n_D2_nat : NatD laws_markReadMarkS_n_D2 := fun i v R K => nat_bind fun _ => nat_bif (nat_bind fun _ => nat_ite (nat_bind fun _ => nat_bind fun _ => nat_bind fun _ => nat_ite (nat_bind fun _ => nat_bind fun _ => nat_some))) (nat_some)

def laws_markReadMarkS_n_T2 : Tmpl := ⟨(.nown 0 7 (.slot Ty.i (jk 3 (.slot Ty.i (jk 21 .nil))))), (.tree false 0 (Ty.prod Ty.i (Ty.prod Ty.i (Ty.prod Ty.i (Ty.prod Ty.i (Ty.prod Ty.i (Ty.prod Ty.i (Ty.prod Ty.i (Ty.prod (Ty.slice (Ty.prod
  Ty.i (Ty.prod Ty.i Ty.unit))) (Ty.prod (Ty.slice YReadMark) Ty.unit))))))))) .nil)⟩

def laws_markReadMarkS_n_X2_0 (i : laws_markReadMarkS_n_I2) (p : Int × List (Int × Int × Int × Int × Int × Int × Int × List (Int × Int × Unit) × List (Int × Int × Unit) × Unit) × Unit) : St := ⟨jn 1 (.n (p.1) :: jn 25 ([])), [some (Cont.tree false 0 (Ty.prod Ty.i (Ty.prod Ty.i (Ty.prod Ty.i (Ty.prod Ty.i (Ty.prod Ty.i (Ty.prod Ty.i
  (Ty.prod Ty.i (Ty.prod (Ty.slice YReadMark) (Ty.prod (Ty.slice YReadMark) Ty.unit))))))))) p.2.1 none)]⟩

noncomputable def laws_markReadMarkS_n_E2 (i : laws_markReadMarkS_n_I2) (p : laws_markReadMarkS_n_Q2) (R : Type) (K : Ex → St → Option R) : Option R := K (Ex.exit 0) (laws_markReadMarkS_n_X2_0 i p)

noncomputable def laws_markReadMarkS_n_K2 (i : laws_markReadMarkS_n_I2) (p : laws_markReadMarkS_n_Q2) : Ex × St := (Ex.exit 0, laws_markReadMarkS_n_X2_0 i p)

def laws_markReadMarkS_n_M2 (i : laws_markReadMarkS_n_I2) (v : laws_markReadMarkS_n_V2) : den laws_markReadMarkS_n_T2.ty := (i.1, v.1, v.2.1, v.2.2.1, ())

def laws_markReadMarkS_n_P2 (x : den laws_markReadMarkS_n_T2.ty) : laws_markReadMarkS_n_I2 × laws_markReadMarkS_n_V2 := ((x.1, ()), (x.2.1, x.2.2.1, x.2.2.2.1, ()))

noncomputable def laws_markReadMarkS_n_C : Cfg := { ti := g_tis, ents := [], ann := [(2, loopFn laws_markReadMarkS_n_T2 1 laws_markReadMarkS_n_P2 laws_markReadMarkS_n_D2 laws_markReadMarkS_n_E2)], lent := 1 }

def laws_markReadMarkS_n_ti : Tmpl := ⟨(.nown 0 7 (.slot Ty.i .nil)), (.tree false 0 (Ty.prod Ty.i (Ty.prod Ty.i (Ty.prod Ty.i (Ty.prod Ty.i (Ty.prod Ty.i (Ty.prod Ty.i (Ty.prod Ty.i (Ty.prod (Ty.slice (Ty.prod
  Ty.i (Ty.prod Ty.i Ty.unit))) (Ty.prod (Ty.slice YReadMark) Ty.unit))))))))) .nil)⟩

def laws_markReadMarkS_n_to : Tmpl := ⟨(.slot Ty.i .nil), (.tree false 0 (Ty.prod Ty.i (Ty.prod Ty.i (Ty.prod Ty.i (Ty.prod Ty.i (Ty.prod Ty.i (Ty.prod Ty.i (Ty.prod Ty.i (Ty.prod (Ty.slice (Ty.prod
  Ty.i (Ty.prod Ty.i Ty.unit))) (Ty.prod (Ty.slice YReadMark) Ty.unit))))))))) .nil)⟩

noncomputable def laws_markReadMarkS_n_S (x : Nat × Int × List (Int × Int × Int × Int × Int × Int × Int × List (Int × Int × Unit) × List (Int × Int × Unit) × Unit) × Unit) : Option (Int × List (Int × Int × Int × Int × Int × Int × Int × List (Int × Int × Unit) × List (Int × Int × Unit) × Unit) × Unit) :=
  Option.bind (iter (fun v => laws_markReadMarkS_n_D2 (x.1, ()) v _ some) (x.2.1, 0, x.2.2.1, ())) fun p => some (p.1, p.2.1, ())

noncomputable def laws_markReadMarkS_n_Ent : Ent := ⟨82, laws_markReadMarkS_n_ti, laws_markReadMarkS_n_to, laws_markReadMarkS_n_S⟩

theorem laws_markReadMarkS_n_HC : CfgOK Go.Proofs.Tryz.prog laws_markReadMarkS_n_C := hc_of g_tisOK g_wide all_nil

theorem laws_markReadMarkS_n_lk2 : LkOK Go.Proofs.Tryz.prog laws_markReadMarkS_n_C (lpc Go.Proofs.Tryz.f82 0) :=
  lk_of laws_markReadMarkS_n_HC (m := 0) (T := laws_markReadMarkS_n_T2) (sp := laws_markReadMarkS_n_P2) (D := laws_markReadMarkS_n_D2) (E := laws_markReadMarkS_n_E2) (by kernel_rfl) (by kernel_rfl) (fun k hk => absurd hk (Nat.not_lt_zero k)) [1] laws_markReadMarkS_n_M2 (fun x => rfl) laws_markReadMarkS_n_D2_nat laws_markReadMarkS_n_K2 (fun i p R K => rfl) (fun i v => by kernel_rfl)

theorem laws_markReadMarkS_n_OK : EntOK Go.Proofs.Tryz.prog laws_markReadMarkS_n_Ent := ok_of laws_markReadMarkS_n_HC Go.Proofs.Tryz.func82 1 (by kernel_rfl) (fun k hk => match k, hk with | 0, _ => laws_markReadMarkS_n_lk2) (by kernel_rfl) (by kernel_rfl) (fun x => by kernel_rfl)

/-! laws.markWriteS -/

abbrev laws_markWriteS_n_I2 : Type := Nat × Unit

abbrev laws_markWriteS_n_V2 : Type := Int × Int × List (Int × Int × Int × Int × Int × Int × Int × List (Int × Int × Unit) × List (Int × Int × Unit) × Unit) × Unit

abbrev laws_markWriteS_n_Q2 : Type := Int × List (Int × Int × Int × Int × Int × Int × Int × List (Int × Int × Unit) × List (Int × Int × Unit) × Unit) × Unit

noncomputable def laws_markWriteS_n_D2 (i : laws_markWriteS_n_I2) (v : laws_markWriteS_n_V2) (R : Type) (K : laws_markWriteS_n_V2 ⊕ laws_markWriteS_n_Q2 → Option R) : Option R :=
  Option.bind v.2.2.1[i.1]? fun v_1 => bif decide (v.2.1 < (↑(List.length v_1.2.2.2.2.2.2.2.2.1) : Int)) then Option.bind v.2.2.1[i.1]? fun v_2 => if 0 ≤ v.2.1 ∧ v.2.1 < (↑(List.length v_2.2.2.2.2.2.2.2.2.1) : Int) then Option.bind
  v.2.2.1[i.1]? fun v_3 => Option.bind v_3.2.2.2.2.2.2.2.2.1[0 + Int.toNat v.2.1]? fun v_4 => Option.bind (List.set v.2.2.1 i.1 (v_3.1, v_3.2.1, v_3.2.2.1, v_3.2.2.2.1, v_3.2.2.2.2.1, v_3.2.2.2.2.2.1, v_3.2.2.2.2.2.2.1, v_3.2.2.2.2.2.2.2.1,
  List.set v_3.2.2.2.2.2.2.2.2.1 (0 + Int.toNat v.2.1) (v.1, v_4.2.1, ()), ()))[i.1]? fun v_5 => if 0 ≤ v.2.1 ∧ v.2.1 < (↑(List.length v_5.2.2.2.2.2.2.2.2.1) : Int) then Option.bind (List.set v.2.2.1 i.1 (v_3.1, v_3.2.1, v_3.2.2.1,
  v_3.2.2.2.1, v_3.2.2.2.2.1, v_3.2.2.2.2.2.1, v_3.2.2.2.2.2.2.1, v_3.2.2.2.2.2.2.2.1, List.set v_3.2.2.2.2.2.2.2.2.1 (0 + Int.toNat v.2.1) (v.1, v_4.2.1, ()), ()))[i.1]? fun v_6 => Option.bind v_6.2.2.2.2.2.2.2.2.1[0 + Int.toNat v.2.1]? fun
  v_7 => K (Sum.inl (IntKind.wrap IntKind.i64 (IntKind.wrap IntKind.i64 (v.1 + 1) + 1), IntKind.wrap IntKind.i64 (v.2.1 + 1), List.set (List.set v.2.2.1 i.1 (v_3.1, v_3.2.1, v_3.2.2.1, v_3.2.2.2.1, v_3.2.2.2.2.1, v_3.2.2.2.2.2.1,
  v_3.2.2.2.2.2.2.1, v_3.2.2.2.2.2.2.2.1, List.set v_3.2.2.2.2.2.2.2.2.1 (0 + Int.toNat v.2.1) (v.1, v_4.2.1, ()), ())) i.1 (v_6.1, v_6.2.1, v_6.2.2.1, v_6.2.2.2.1, v_6.2.2.2.2.1, v_6.2.2.2.2.2.1, v_6.2.2.2.2.2.2.1, v_6.2.2.2.2.2.2.2.1,
  List.set v_6.2.2.2.2.2.2.2.2.1 (0 + Int.toNat v.2.1) (v_7.1, IntKind.wrap IntKind.i64 (v.1 + 1), ()), ()), ())) else none else none else K (Sum.inr (v.1, v.2.2.1, ()))

theorem laws_markWriteS_n_D2_nat : NatD laws_markWriteS_n_D2 := fun i v R K => nat_bind fun _ => nat_bif (nat_bind fun _ => nat_ite (nat_bind fun _ => nat_bind fun _ => nat_bind fun _ => nat_ite (nat_bind fun _ => nat_bind fun _ => nat_some))) (nat_some)

def laws_markWriteS_n_T2 : Tmpl := ⟨(.nown 0 8 (.slot Ty.i (jk 3 (.slot Ty.i (jk 21 .nil))))), (.tree false 0 (Ty.prod Ty.i (Ty.prod Ty.i (Ty.prod Ty.i (Ty.prod Ty.i (Ty.prod Ty.i (Ty.prod Ty.i (Ty.prod Ty.i (Ty.prod (Ty.slice (Ty.prod
  Ty.i (Ty.prod Ty.i Ty.unit))) (Ty.prod (Ty.slice YReadMark) Ty.unit))))))))) .nil)⟩

def laws_markWriteS_n_X2_0 (i : laws_markWriteS_n_I2) (p : Int × List (Int × Int × Int × Int × Int × Int × Int × List (Int × Int × Unit) × List (Int × Int × Unit) × Unit) × Unit) : St := ⟨jn 1 (.n (p.1) :: jn 25 ([])), [some (Cont.tree false 0 (Ty.prod Ty.i (Ty.prod Ty.i (Ty.prod Ty.i (Ty.prod Ty.i (Ty.prod Ty.i (Ty.prod Ty.i
  (Ty.prod Ty.i (Ty.prod (Ty.slice YReadMark) (Ty.prod (Ty.slice YReadMark) Ty.unit))))))))) p.2.1 none)]⟩

noncomputable def laws_markWriteS_n_E2 (i : laws_markWriteS_n_I2) (p : laws_markWriteS_n_Q2) (R : Type) (K : Ex → St → Option R) : Option R := K (Ex.exit 0) (laws_markWriteS_n_X2_0 i p)

noncomputable def laws_markWriteS_n_K2 (i : laws_markWriteS_n_I2) (p : laws_markWriteS_n_Q2) : Ex × St := (Ex.exit 0, laws_markWriteS_n_X2_0 i p)

def laws_markWriteS_n_M2 (i : laws_markWriteS_n_I2) (v : laws_markWriteS_n_V2) : den laws_markWriteS_n_T2.ty := (i.1, v.1, v.2.1, v.2.2.1, ())

def laws_markWriteS_n_P2 (x : den laws_markWriteS_n_T2.ty) : laws_markWriteS_n_I2 × laws_markWriteS_n_V2 := ((x.1, ()), (x.2.1, x.2.2.1, x.2.2.2.1, ()))

noncomputable def laws_markWriteS_n_C : Cfg := { ti := g_tis, ents := [], ann := [(2, loopFn laws_markWriteS_n_T2 1 laws_markWriteS_n_P2 laws_markWriteS_n_D2 laws_markWriteS_n_E2)], lent := 1 }

def laws_markWriteS_n_ti : Tmpl := ⟨(.nown 0 8 (.slot Ty.i .nil)), (.tree false 0 (Ty.prod Ty.i (Ty.prod Ty.i (Ty.prod Ty.i (Ty.prod Ty.i (Ty.prod Ty.i (Ty.prod Ty.i (Ty.prod Ty.i (Ty.prod (Ty.slice (Ty.prod
  Ty.i (Ty.prod Ty.i Ty.unit))) (Ty.prod (Ty.slice YReadMark) Ty.unit))))))))) .nil)⟩

def laws_markWriteS_n_to : Tmpl := ⟨(.slot Ty.i .nil), (.tree false 0 (Ty.prod Ty.i (Ty.prod Ty.i (Ty.prod Ty.i (Ty.prod Ty.i (Ty.prod Ty.i (Ty.prod Ty.i (Ty.prod Ty.i (Ty.prod (Ty.slice (Ty.prod
  Ty.i (Ty.prod Ty.i Ty.unit))) (Ty.prod (Ty.slice YReadMark) Ty.unit))))))))) .nil)⟩

noncomputable def laws_markWriteS_n_S (x : Nat × Int × List (Int × Int × Int × Int × Int × Int × Int × List (Int × Int × Unit) × List (Int × Int × Unit) × Unit) × Unit) : Option (Int × List (Int × Int × Int × Int × Int × Int × Int × List (Int × Int × Unit) × List (Int × Int × Unit) × Unit) × Unit) :=
  Option.bind (iter (fun v => laws_markWriteS_n_D2 (x.1, ()) v _ some) (x.2.1, 0, x.2.2.1, ())) fun p => some (p.1, p.2.1, ())

noncomputable def laws_markWriteS_n_Ent : Ent := ⟨83, laws_markWriteS_n_ti, laws_markWriteS_n_to, laws_markWriteS_n_S⟩

theorem laws_markWriteS_n_HC : CfgOK Go.Proofs.Tryz.prog laws_markWriteS_n_C := hc_of g_tisOK g_wide all_nil

theorem laws_markWriteS_n_lk2 : LkOK Go.Proofs.Tryz.prog laws_markWriteS_n_C (lpc Go.Proofs.Tryz.f83 0) :=
  lk_of laws_markWriteS_n_HC (m := 0) (T := laws_markWriteS_n_T2) (sp := laws_markWriteS_n_P2) (D := laws_markWriteS_n_D2) (E := laws_markWriteS_n_E2) (by kernel_rfl) (by kernel_rfl) (fun k hk => absurd hk (Nat.not_lt_zero k)) [1] laws_markWriteS_n_M2 (fun x => rfl) laws_markWriteS_n_D2_nat laws_markWriteS_n_K2 (fun i p R K => rfl) (fun i v => by kernel_rfl)

theorem laws_markWriteS_n_OK : EntOK Go.Proofs.Tryz.prog laws_markWriteS_n_Ent := ok_of laws_markWriteS_n_HC Go.Proofs.Tryz.func83 1 (by kernel_rfl) (fun k hk => match k, hk with | 0, _ => laws_markWriteS_n_lk2) (by kernel_rfl) (by kernel_rfl) (fun x => by kernel_rfl)

/-! laws.markTransactionS -/

abbrev laws_markTransactionS_l_I2 : Type := Unit

abbrev laws_markTransactionS_l_V2 : Type := Int × Int × List (Int × Int × Int × Int × Int × Int × Int × List (Int × Int × Unit) × List (Int × Int × Unit) × Unit) × Unit

abbrev laws_markTransactionS_l_Q2 : Type := Int × List (Int × Int × Int × Int × Int × Int × Int × List (Int × Int × Unit) × List (Int × Int × Unit) × Unit) × Unit

noncomputable def laws_markTransactionS_l_D2 (i : laws_markTransactionS_l_I2) (v : laws_markTransactionS_l_V2) (R : Type) (K : laws_markTransactionS_l_V2 ⊕ laws_markTransactionS_l_Q2 → Option R) : Option R :=
  bif decide (v.2.1 < (↑(List.length v.2.2.1) : Int)) then if 0 ≤ v.2.1 ∧ v.2.1 < (↑(List.length v.2.2.1) : Int) then Option.bind v.2.2.1[0 + Int.toNat v.2.1]? fun v_1 => if 0 ≤ v.2.1 ∧ v.2.1 < (↑(List.length (List.set v.2.2.1 (0 + Int.toNat
  v.2.1) (v.1, v_1.2.1, v_1.2.2.1, v_1.2.2.2.1, v_1.2.2.2.2.1, v_1.2.2.2.2.2.1, v_1.2.2.2.2.2.2.1, v_1.2.2.2.2.2.2.2.1, v_1.2.2.2.2.2.2.2.2.1, ()))) : Int) then Option.bind (List.set v.2.2.1 (0 + Int.toNat v.2.1) (v.1, v_1.2.1, v_1.2.2.1,
  v_1.2.2.2.1, v_1.2.2.2.2.1, v_1.2.2.2.2.2.1, v_1.2.2.2.2.2.2.1, v_1.2.2.2.2.2.2.2.1, v_1.2.2.2.2.2.2.2.2.1, ()))[0 + Int.toNat v.2.1]? fun v_2 => if 0 ≤ v.2.1 ∧ v.2.1 < (↑(List.length (List.set (List.set v.2.2.1 (0 + Int.toNat v.2.1) (v.1,
  v_1.2.1, v_1.2.2.1, v_1.2.2.2.1, v_1.2.2.2.2.1, v_1.2.2.2.2.2.1, v_1.2.2.2.2.2.2.1, v_1.2.2.2.2.2.2.2.1, v_1.2.2.2.2.2.2.2.2.1, ())) (0 + Int.toNat v.2.1) (v_2.1, IntKind.wrap IntKind.i64 (v.1 + 1), v_2.2.2.1, v_2.2.2.2.1, v_2.2.2.2.2.1,
  v_2.2.2.2.2.2.1, v_2.2.2.2.2.2.2.1, v_2.2.2.2.2.2.2.2.1, v_2.2.2.2.2.2.2.2.2.1, ()))) : Int) then Option.bind (List.set (List.set v.2.2.1 (0 + Int.toNat v.2.1) (v.1, v_1.2.1, v_1.2.2.1, v_1.2.2.2.1, v_1.2.2.2.2.1, v_1.2.2.2.2.2.1,
  v_1.2.2.2.2.2.2.1, v_1.2.2.2.2.2.2.2.1, v_1.2.2.2.2.2.2.2.2.1, ())) (0 + Int.toNat v.2.1) (v_2.1, IntKind.wrap IntKind.i64 (v.1 + 1), v_2.2.2.1, v_2.2.2.2.1, v_2.2.2.2.2.1, v_2.2.2.2.2.2.1, v_2.2.2.2.2.2.2.1, v_2.2.2.2.2.2.2.2.1,
  v_2.2.2.2.2.2.2.2.2.1, ()))[0 + Int.toNat v.2.1]? fun v_3 => if 0 ≤ v.2.1 ∧ v.2.1 < (↑(List.length (List.set (List.set (List.set v.2.2.1 (0 + Int.toNat v.2.1) (v.1, v_1.2.1, v_1.2.2.1, v_1.2.2.2.1, v_1.2.2.2.2.1, v_1.2.2.2.2.2.1,
  v_1.2.2.2.2.2.2.1, v_1.2.2.2.2.2.2.2.1, v_1.2.2.2.2.2.2.2.2.1, ())) (0 + Int.toNat v.2.1) (v_2.1, IntKind.wrap IntKind.i64 (v.1 + 1), v_2.2.2.1, v_2.2.2.2.1, v_2.2.2.2.2.1, v_2.2.2.2.2.2.1, v_2.2.2.2.2.2.2.1, v_2.2.2.2.2.2.2.2.1,
  v_2.2.2.2.2.2.2.2.2.1, ())) (0 + Int.toNat v.2.1) (v_3.1, v_3.2.1, IntKind.wrap IntKind.i64 (IntKind.wrap IntKind.i64 (v.1 + 1) + 1), v_3.2.2.2.1, v_3.2.2.2.2.1, v_3.2.2.2.2.2.1, v_3.2.2.2.2.2.2.1, v_3.2.2.2.2.2.2.2.1, v_3.2.2.2.2.2.2.2.2.1,
  ()))) : Int) then Option.bind (List.set (List.set (List.set v.2.2.1 (0 + Int.toNat v.2.1) (v.1, v_1.2.1, v_1.2.2.1, v_1.2.2.2.1, v_1.2.2.2.2.1, v_1.2.2.2.2.2.1, v_1.2.2.2.2.2.2.1, v_1.2.2.2.2.2.2.2.1, v_1.2.2.2.2.2.2.2.2.1, ())) (0 +
  Int.toNat v.2.1) (v_2.1, IntKind.wrap IntKind.i64 (v.1 + 1), v_2.2.2.1, v_2.2.2.2.1, v_2.2.2.2.2.1, v_2.2.2.2.2.2.1, v_2.2.2.2.2.2.2.1, v_2.2.2.2.2.2.2.2.1, v_2.2.2.2.2.2.2.2.2.1, ())) (0 + Int.toNat v.2.1) (v_3.1, v_3.2.1, IntKind.wrap
  IntKind.i64 (IntKind.wrap IntKind.i64 (v.1 + 1) + 1), v_3.2.2.2.1, v_3.2.2.2.2.1, v_3.2.2.2.2.2.1, v_3.2.2.2.2.2.2.1, v_3.2.2.2.2.2.2.2.1, v_3.2.2.2.2.2.2.2.2.1, ()))[0 + Int.toNat v.2.1]? fun v_4 => if 0 ≤ v.2.1 ∧ v.2.1 < (↑(List.length
  (List.set (List.set (List.set (List.set v.2.2.1 (0 + Int.toNat v.2.1) (v.1, v_1.2.1, v_1.2.2.1, v_1.2.2.2.1, v_1.2.2.2.2.1, v_1.2.2.2.2.2.1, v_1.2.2.2.2.2.2.1, v_1.2.2.2.2.2.2.2.1, v_1.2.2.2.2.2.2.2.2.1, ())) (0 + Int.toNat v.2.1) (v_2.1,
  IntKind.wrap IntKind.i64 (v.1 + 1), v_2.2.2.1, v_2.2.2.2.1, v_2.2.2.2.2.1, v_2.2.2.2.2.2.1, v_2.2.2.2.2.2.2.1, v_2.2.2.2.2.2.2.2.1, v_2.2.2.2.2.2.2.2.2.1, ())) (0 + Int.toNat v.2.1) (v_3.1, v_3.2.1, IntKind.wrap IntKind.i64 (IntKind.wrap
  IntKind.i64 (v.1 + 1) + 1), v_3.2.2.2.1, v_3.2.2.2.2.1, v_3.2.2.2.2.2.1, v_3.2.2.2.2.2.2.1, v_3.2.2.2.2.2.2.2.1, v_3.2.2.2.2.2.2.2.2.1, ())) (0 + Int.toNat v.2.1) (v_4.1, v_4.2.1, v_4.2.2.1, IntKind.wrap IntKind.i64 (IntKind.wrap IntKind.i64
  (IntKind.wrap IntKind.i64 (v.1 + 1) + 1) + 1), v_4.2.2.2.2.1, v_4.2.2.2.2.2.1, v_4.2.2.2.2.2.2.1, v_4.2.2.2.2.2.2.2.1, v_4.2.2.2.2.2.2.2.2.1, ()))) : Int) then Option.bind (List.set (List.set (List.set (List.set v.2.2.1 (0 + Int.toNat v.2.1)
  (v.1, v_1.2.1, v_1.2.2.1, v_1.2.2.2.1, v_1.2.2.2.2.1, v_1.2.2.2.2.2.1, v_1.2.2.2.2.2.2.1, v_1.2.2.2.2.2.2.2.1, v_1.2.2.2.2.2.2.2.2.1, ())) (0 + Int.toNat v.2.1) (v_2.1, IntKind.wrap IntKind.i64 (v.1 + 1), v_2.2.2.1, v_2.2.2.2.1,
  v_2.2.2.2.2.1, v_2.2.2.2.2.2.1, v_2.2.2.2.2.2.2.1, v_2.2.2.2.2.2.2.2.1, v_2.2.2.2.2.2.2.2.2.1, ())) (0 + Int.toNat v.2.1) (v_3.1, v_3.2.1, IntKind.wrap IntKind.i64 (IntKind.wrap IntKind.i64 (v.1 + 1) + 1), v_3.2.2.2.1, v_3.2.2.2.2.1,
  v_3.2.2.2.2.2.1, v_3.2.2.2.2.2.2.1, v_3.2.2.2.2.2.2.2.1, v_3.2.2.2.2.2.2.2.2.1, ())) (0 + Int.toNat v.2.1) (v_4.1, v_4.2.1, v_4.2.2.1, IntKind.wrap IntKind.i64 (IntKind.wrap IntKind.i64 (IntKind.wrap IntKind.i64 (v.1 + 1) + 1) + 1),
  v_4.2.2.2.2.1, v_4.2.2.2.2.2.1, v_4.2.2.2.2.2.2.1, v_4.2.2.2.2.2.2.2.1, v_4.2.2.2.2.2.2.2.2.1, ()))[0 + Int.toNat v.2.1]? fun v_5 => if 0 ≤ v.2.1 ∧ v.2.1 < (↑(List.length (List.set (List.set (List.set (List.set (List.set v.2.2.1 (0 +
  Int.toNat v.2.1) (v.1, v_1.2.1, v_1.2.2.1, v_1.2.2.2.1, v_1.2.2.2.2.1, v_1.2.2.2.2.2.1, v_1.2.2.2.2.2.2.1, v_1.2.2.2.2.2.2.2.1, v_1.2.2.2.2.2.2.2.2.1, ())) (0 + Int.toNat v.2.1) (v_2.1, IntKind.wrap IntKind.i64 (v.1 + 1), v_2.2.2.1,
  v_2.2.2.2.1, v_2.2.2.2.2.1, v_2.2.2.2.2.2.1, v_2.2.2.2.2.2.2.1, v_2.2.2.2.2.2.2.2.1, v_2.2.2.2.2.2.2.2.2.1, ())) (0 + Int.toNat v.2.1) (v_3.1, v_3.2.1, IntKind.wrap IntKind.i64 (IntKind.wrap IntKind.i64 (v.1 + 1) + 1), v_3.2.2.2.1,
  v_3.2.2.2.2.1, v_3.2.2.2.2.2.1, v_3.2.2.2.2.2.2.1, v_3.2.2.2.2.2.2.2.1, v_3.2.2.2.2.2.2.2.2.1, ())) (0 + Int.toNat v.2.1) (v_4.1, v_4.2.1, v_4.2.2.1, IntKind.wrap IntKind.i64 (IntKind.wrap IntKind.i64 (IntKind.wrap IntKind.i64 (v.1 + 1) + 1)
  + 1), v_4.2.2.2.2.1, v_4.2.2.2.2.2.1, v_4.2.2.2.2.2.2.1, v_4.2.2.2.2.2.2.2.1, v_4.2.2.2.2.2.2.2.2.1, ())) (0 + Int.toNat v.2.1) (v_5.1, v_5.2.1, v_5.2.2.1, v_5.2.2.2.1, IntKind.wrap IntKind.i64 (IntKind.wrap IntKind.i64 (IntKind.wrap
  IntKind.i64 (IntKind.wrap IntKind.i64 (v.1 + 1) + 1) + 1) + 1), v_5.2.2.2.2.2.1, v_5.2.2.2.2.2.2.1, v_5.2.2.2.2.2.2.2.1, v_5.2.2.2.2.2.2.2.2.1, ()))) : Int) then Option.bind (List.set (List.set (List.set (List.set (List.set v.2.2.1 (0 +
  Int.toNat v.2.1) (v.1, v_1.2.1, v_1.2.2.1, v_1.2.2.2.1, v_1.2.2.2.2.1, v_1.2.2.2.2.2.1, v_1.2.2.2.2.2.2.1, v_1.2.2.2.2.2.2.2.1, v_1.2.2.2.2.2.2.2.2.1, ())) (0 + Int.toNat v.2.1) (v_2.1, IntKind.wrap IntKind.i64 (v.1 + 1), v_2.2.2.1,
  v_2.2.2.2.1, v_2.2.2.2.2.1, v_2.2.2.2.2.2.1, v_2.2.2.2.2.2.2.1, v_2.2.2.2.2.2.2.2.1, v_2.2.2.2.2.2.2.2.2.1, ())) (0 + Int.toNat v.2.1) (v_3.1, v_3.2.1, IntKind.wrap IntKind.i64 (IntKind.wrap IntKind.i64 (v.1 + 1) + 1), v_3.2.2.2.1,
  v_3.2.2.2.2.1, v_3.2.2.2.2.2.1, v_3.2.2.2.2.2.2.1, v_3.2.2.2.2.2.2.2.1, v_3.2.2.2.2.2.2.2.2.1, ())) (0 + Int.toNat v.2.1) (v_4.1, v_4.2.1, v_4.2.2.1, IntKind.wrap IntKind.i64 (IntKind.wrap IntKind.i64 (IntKind.wrap IntKind.i64 (v.1 + 1) + 1)
  + 1), v_4.2.2.2.2.1, v_4.2.2.2.2.2.1, v_4.2.2.2.2.2.2.1, v_4.2.2.2.2.2.2.2.1, v_4.2.2.2.2.2.2.2.2.1, ())) (0 + Int.toNat v.2.1) (v_5.1, v_5.2.1, v_5.2.2.1, v_5.2.2.2.1, IntKind.wrap IntKind.i64 (IntKind.wrap IntKind.i64 (IntKind.wrap
  IntKind.i64 (IntKind.wrap IntKind.i64 (v.1 + 1) + 1) + 1) + 1), v_5.2.2.2.2.2.1, v_5.2.2.2.2.2.2.1, v_5.2.2.2.2.2.2.2.1, v_5.2.2.2.2.2.2.2.2.1, ()))[0 + Int.toNat v.2.1]? fun v_6 => if 0 ≤ v.2.1 ∧ v.2.1 < (↑(List.length (List.set (List.set
  (List.set (List.set (List.set (List.set v.2.2.1 (0 + Int.toNat v.2.1) (v.1, v_1.2.1, v_1.2.2.1, v_1.2.2.2.1, v_1.2.2.2.2.1, v_1.2.2.2.2.2.1, v_1.2.2.2.2.2.2.1, v_1.2.2.2.2.2.2.2.1, v_1.2.2.2.2.2.2.2.2.1, ())) (0 + Int.toNat v.2.1) (v_2.1,
  IntKind.wrap IntKind.i64 (v.1 + 1), v_2.2.2.1, v_2.2.2.2.1, v_2.2.2.2.2.1, v_2.2.2.2.2.2.1, v_2.2.2.2.2.2.2.1, v_2.2.2.2.2.2.2.2.1, v_2.2.2.2.2.2.2.2.2.1, ())) (0 + Int.toNat v.2.1) (v_3.1, v_3.2.1, IntKind.wrap IntKind.i64 (IntKind.wrap
  IntKind.i64 (v.1 + 1) + 1), v_3.2.2.2.1, v_3.2.2.2.2.1, v_3.2.2.2.2.2.1, v_3.2.2.2.2.2.2.1, v_3.2.2.2.2.2.2.2.1, v_3.2.2.2.2.2.2.2.2.1, ())) (0 + Int.toNat v.2.1) (v_4.1, v_4.2.1, v_4.2.2.1, IntKind.wrap IntKind.i64 (IntKind.wrap IntKind.i64
  (IntKind.wrap IntKind.i64 (v.1 + 1) + 1) + 1), v_4.2.2.2.2.1, v_4.2.2.2.2.2.1, v_4.2.2.2.2.2.2.1, v_4.2.2.2.2.2.2.2.1, v_4.2.2.2.2.2.2.2.2.1, ())) (0 + Int.toNat v.2.1) (v_5.1, v_5.2.1, v_5.2.2.1, v_5.2.2.2.1, IntKind.wrap IntKind.i64
  (IntKind.wrap IntKind.i64 (IntKind.wrap IntKind.i64 (IntKind.wrap IntKind.i64 (v.1 + 1) + 1) + 1) + 1), v_5.2.2.2.2.2.1, v_5.2.2.2.2.2.2.1, v_5.2.2.2.2.2.2.2.1, v_5.2.2.2.2.2.2.2.2.1, ())) (0 + Int.toNat v.2.1) (v_6.1, v_6.2.1, v_6.2.2.1,
  v_6.2.2.2.1, v_6.2.2.2.2.1, IntKind.wrap IntKind.i64 (IntKind.wrap IntKind.i64 (IntKind.wrap IntKind.i64 (IntKind.wrap IntKind.i64 (IntKind.wrap IntKind.i64 (v.1 + 1) + 1) + 1) + 1) + 1), v_6.2.2.2.2.2.2.1, v_6.2.2.2.2.2.2.2.1,
  v_6.2.2.2.2.2.2.2.2.1, ()))) : Int) then Option.bind (List.set (List.set (List.set (List.set (List.set (List.set v.2.2.1 (0 + Int.toNat v.2.1) (v.1, v_1.2.1, v_1.2.2.1, v_1.2.2.2.1, v_1.2.2.2.2.1, v_1.2.2.2.2.2.1, v_1.2.2.2.2.2.2.1,
  v_1.2.2.2.2.2.2.2.1, v_1.2.2.2.2.2.2.2.2.1, ())) (0 + Int.toNat v.2.1) (v_2.1, IntKind.wrap IntKind.i64 (v.1 + 1), v_2.2.2.1, v_2.2.2.2.1, v_2.2.2.2.2.1, v_2.2.2.2.2.2.1, v_2.2.2.2.2.2.2.1, v_2.2.2.2.2.2.2.2.1, v_2.2.2.2.2.2.2.2.2.1, ())) (0
  + Int.toNat v.2.1) (v_3.1, v_3.2.1, IntKind.wrap IntKind.i64 (IntKind.wrap IntKind.i64 (v.1 + 1) + 1), v_3.2.2.2.1, v_3.2.2.2.2.1, v_3.2.2.2.2.2.1, v_3.2.2.2.2.2.2.1, v_3.2.2.2.2.2.2.2.1, v_3.2.2.2.2.2.2.2.2.1, ())) (0 + Int.toNat v.2.1)
  (v_4.1, v_4.2.1, v_4.2.2.1, IntKind.wrap IntKind.i64 (IntKind.wrap IntKind.i64 (IntKind.wrap IntKind.i64 (v.1 + 1) + 1) + 1), v_4.2.2.2.2.1, v_4.2.2.2.2.2.1, v_4.2.2.2.2.2.2.1, v_4.2.2.2.2.2.2.2.1, v_4.2.2.2.2.2.2.2.2.1, ())) (0 + Int.toNat
  v.2.1) (v_5.1, v_5.2.1, v_5.2.2.1, v_5.2.2.2.1, IntKind.wrap IntKind.i64 (IntKind.wrap IntKind.i64 (IntKind.wrap IntKind.i64 (IntKind.wrap IntKind.i64 (v.1 + 1) + 1) + 1) + 1), v_5.2.2.2.2.2.1, v_5.2.2.2.2.2.2.1, v_5.2.2.2.2.2.2.2.1,
  v_5.2.2.2.2.2.2.2.2.1, ())) (0 + Int.toNat v.2.1) (v_6.1, v_6.2.1, v_6.2.2.1, v_6.2.2.2.1, v_6.2.2.2.2.1, IntKind.wrap IntKind.i64 (IntKind.wrap IntKind.i64 (IntKind.wrap IntKind.i64 (IntKind.wrap IntKind.i64 (IntKind.wrap IntKind.i64 (v.1 +
  1) + 1) + 1) + 1) + 1), v_6.2.2.2.2.2.2.1, v_6.2.2.2.2.2.2.2.1, v_6.2.2.2.2.2.2.2.2.1, ()))[0 + Int.toNat v.2.1]? fun v_7 => if 0 ≤ v.2.1 ∧ v.2.1 < (↑(List.length (List.set (List.set (List.set (List.set (List.set (List.set (List.set v.2.2.1
  (0 + Int.toNat v.2.1) (v.1, v_1.2.1, v_1.2.2.1, v_1.2.2.2.1, v_1.2.2.2.2.1, v_1.2.2.2.2.2.1, v_1.2.2.2.2.2.2.1, v_1.2.2.2.2.2.2.2.1, v_1.2.2.2.2.2.2.2.2.1, ())) (0 + Int.toNat v.2.1) (v_2.1, IntKind.wrap IntKind.i64 (v.1 + 1), v_2.2.2.1,
  v_2.2.2.2.1, v_2.2.2.2.2.1, v_2.2.2.2.2.2.1, v_2.2.2.2.2.2.2.1, v_2.2.2.2.2.2.2.2.1, v_2.2.2.2.2.2.2.2.2.1, ())) (0 + Int.toNat v.2.1) (v_3.1, v_3.2.1, IntKind.wrap IntKind.i64 (IntKind.wrap IntKind.i64 (v.1 + 1) + 1), v_3.2.2.2.1,
  v_3.2.2.2.2.1, v_3.2.2.2.2.2.1, v_3.2.2.2.2.2.2.1, v_3.2.2.2.2.2.2.2.1, v_3.2.2.2.2.2.2.2.2.1, ())) (0 + Int.toNat v.2.1) (v_4.1, v_4.2.1, v_4.2.2.1, IntKind.wrap IntKind.i64 (IntKind.wrap IntKind.i64 (IntKind.wrap IntKind.i64 (v.1 + 1) + 1)
  + 1), v_4.2.2.2.2.1, v_4.2.2.2.2.2.1, v_4.2.2.2.2.2.2.1, v_4.2.2.2.2.2.2.2.1, v_4.2.2.2.2.2.2.2.2.1, ())) (0 + Int.toNat v.2.1) (v_5.1, v_5.2.1, v_5.2.2.1, v_5.2.2.2.1, IntKind.wrap IntKind.i64 (IntKind.wrap IntKind.i64 (IntKind.wrap
  IntKind.i64 (IntKind.wrap IntKind.i64 (v.1 + 1) + 1) + 1) + 1), v_5.2.2.2.2.2.1, v_5.2.2.2.2.2.2.1, v_5.2.2.2.2.2.2.2.1, v_5.2.2.2.2.2.2.2.2.1, ())) (0 + Int.toNat v.2.1) (v_6.1, v_6.2.1, v_6.2.2.1, v_6.2.2.2.1, v_6.2.2.2.2.1, IntKind.wrap
  IntKind.i64 (IntKind.wrap IntKind.i64 (IntKind.wrap IntKind.i64 (IntKind.wrap IntKind.i64 (IntKind.wrap IntKind.i64 (v.1 + 1) + 1) + 1) + 1) + 1), v_6.2.2.2.2.2.2.1, v_6.2.2.2.2.2.2.2.1, v_6.2.2.2.2.2.2.2.2.1, ())) (0 + Int.toNat v.2.1)
  (v_7.1, v_7.2.1, v_7.2.2.1, v_7.2.2.2.1, v_7.2.2.2.2.1, v_7.2.2.2.2.2.1, IntKind.wrap IntKind.i64 (IntKind.wrap IntKind.i64 (IntKind.wrap IntKind.i64 (IntKind.wrap IntKind.i64 (IntKind.wrap IntKind.i64 (IntKind.wrap IntKind.i64 (v.1 + 1) +
  1) + 1) + 1) + 1) + 1), v_7.2.2.2.2.2.2.2.1, v_7.2.2.2.2.2.2.2.2.1, ()))) : Int) then Option.bind (List.set (List.set (List.set (List.set (List.set (List.set (List.set v.2.2.1 (0 + Int.toNat v.2.1) (v.1, v_1.2.1, v_1.2.2.1, v_1.2.2.2.1,
  v_1.2.2.2.2.1, v_1.2.2.2.2.2.1, v_1.2.2.2.2.2.2.1, v_1.2.2.2.2.2.2.2.1, v_1.2.2.2.2.2.2.2.2.1, ())) (0 + Int.toNat v.2.1) (v_2.1, IntKind.wrap IntKind.i64 (v.1 + 1), v_2.2.2.1, v_2.2.2.2.1, v_2.2.2.2.2.1, v_2.2.2.2.2.2.1, v_2.2.2.2.2.2.2.1,
  v_2.2.2.2.2.2.2.2.1, v_2.2.2.2.2.2.2.2.2.1, ())) (0 + Int.toNat v.2.1) (v_3.1, v_3.2.1, IntKind.wrap IntKind.i64 (IntKind.wrap IntKind.i64 (v.1 + 1) + 1), v_3.2.2.2.1, v_3.2.2.2.2.1, v_3.2.2.2.2.2.1, v_3.2.2.2.2.2.2.1, v_3.2.2.2.2.2.2.2.1,
  v_3.2.2.2.2.2.2.2.2.1, ())) (0 + Int.toNat v.2.1) (v_4.1, v_4.2.1, v_4.2.2.1, IntKind.wrap IntKind.i64 (IntKind.wrap IntKind.i64 (IntKind.wrap IntKind.i64 (v.1 + 1) + 1) + 1), v_4.2.2.2.2.1, v_4.2.2.2.2.2.1, v_4.2.2.2.2.2.2.1,
  v_4.2.2.2.2.2.2.2.1, v_4.2.2.2.2.2.2.2.2.1, ())) (0 + Int.toNat v.2.1) (v_5.1, v_5.2.1, v_5.2.2.1, v_5.2.2.2.1, IntKind.wrap IntKind.i64 (IntKind.wrap IntKind.i64 (IntKind.wrap IntKind.i64 (IntKind.wrap IntKind.i64 (v.1 + 1) + 1) + 1) + 1),
  v_5.2.2.2.2.2.1, v_5.2.2.2.2.2.2.1, v_5.2.2.2.2.2.2.2.1, v_5.2.2.2.2.2.2.2.2.1, ())) (0 + Int.toNat v.2.1) (v_6.1, v_6.2.1, v_6.2.2.1, v_6.2.2.2.1, v_6.2.2.2.2.1, IntKind.wrap IntKind.i64 (IntKind.wrap IntKind.i64 (IntKind.wrap IntKind.i64
  (IntKind.wrap IntKind.i64 (IntKind.wrap IntKind.i64 (v.1 + 1) + 1) + 1) + 1) + 1), v_6.2.2.2.2.2.2.1, v_6.2.2.2.2.2.2.2.1, v_6.2.2.2.2.2.2.2.2.1, ())) (0 + Int.toNat v.2.1) (v_7.1, v_7.2.1, v_7.2.2.1, v_7.2.2.2.1, v_7.2.2.2.2.1,
  v_7.2.2.2.2.2.1, IntKind.wrap IntKind.i64 (IntKind.wrap IntKind.i64 (IntKind.wrap IntKind.i64 (IntKind.wrap IntKind.i64 (IntKind.wrap IntKind.i64 (IntKind.wrap IntKind.i64 (v.1 + 1) + 1) + 1) + 1) + 1) + 1), v_7.2.2.2.2.2.2.2.1,
  v_7.2.2.2.2.2.2.2.2.1, ()))[0 + Int.toNat v.2.1]? fun v_8 => Option.bind (laws_markReadMarkS_n_S (0 + Int.toNat v.2.1, IntKind.wrap IntKind.i64 (IntKind.wrap IntKind.i64 (IntKind.wrap IntKind.i64 (IntKind.wrap IntKind.i64 (IntKind.wrap
  IntKind.i64 (IntKind.wrap IntKind.i64 (IntKind.wrap IntKind.i64 (v.1 + 1) + 1) + 1) + 1) + 1) + 1) + 1), List.set (List.set (List.set (List.set (List.set (List.set (List.set v.2.2.1 (0 + Int.toNat v.2.1) (v.1, v_1.2.1, v_1.2.2.1,
  v_1.2.2.2.1, v_1.2.2.2.2.1, v_1.2.2.2.2.2.1, v_1.2.2.2.2.2.2.1, v_1.2.2.2.2.2.2.2.1, v_1.2.2.2.2.2.2.2.2.1, ())) (0 + Int.toNat v.2.1) (v_2.1, IntKind.wrap IntKind.i64 (v.1 + 1), v_2.2.2.1, v_2.2.2.2.1, v_2.2.2.2.2.1, v_2.2.2.2.2.2.1,
  v_2.2.2.2.2.2.2.1, v_2.2.2.2.2.2.2.2.1, v_2.2.2.2.2.2.2.2.2.1, ())) (0 + Int.toNat v.2.1) (v_3.1, v_3.2.1, IntKind.wrap IntKind.i64 (IntKind.wrap IntKind.i64 (v.1 + 1) + 1), v_3.2.2.2.1, v_3.2.2.2.2.1, v_3.2.2.2.2.2.1, v_3.2.2.2.2.2.2.1,
  v_3.2.2.2.2.2.2.2.1, v_3.2.2.2.2.2.2.2.2.1, ())) (0 + Int.toNat v.2.1) (v_4.1, v_4.2.1, v_4.2.2.1, IntKind.wrap IntKind.i64 (IntKind.wrap IntKind.i64 (IntKind.wrap IntKind.i64 (v.1 + 1) + 1) + 1), v_4.2.2.2.2.1, v_4.2.2.2.2.2.1,
  v_4.2.2.2.2.2.2.1, v_4.2.2.2.2.2.2.2.1, v_4.2.2.2.2.2.2.2.2.1, ())) (0 + Int.toNat v.2.1) (v_5.1, v_5.2.1, v_5.2.2.1, v_5.2.2.2.1, IntKind.wrap IntKind.i64 (IntKind.wrap IntKind.i64 (IntKind.wrap IntKind.i64 (IntKind.wrap IntKind.i64 (v.1 +
  1) + 1) + 1) + 1), v_5.2.2.2.2.2.1, v_5.2.2.2.2.2.2.1, v_5.2.2.2.2.2.2.2.1, v_5.2.2.2.2.2.2.2.2.1, ())) (0 + Int.toNat v.2.1) (v_6.1, v_6.2.1, v_6.2.2.1, v_6.2.2.2.1, v_6.2.2.2.2.1, IntKind.wrap IntKind.i64 (IntKind.wrap IntKind.i64
  (IntKind.wrap IntKind.i64 (IntKind.wrap IntKind.i64 (IntKind.wrap IntKind.i64 (v.1 + 1) + 1) + 1) + 1) + 1), v_6.2.2.2.2.2.2.1, v_6.2.2.2.2.2.2.2.1, v_6.2.2.2.2.2.2.2.2.1, ())) (0 + Int.toNat v.2.1) (v_7.1, v_7.2.1, v_7.2.2.1, v_7.2.2.2.1,
  v_7.2.2.2.2.1, v_7.2.2.2.2.2.1, IntKind.wrap IntKind.i64 (IntKind.wrap IntKind.i64 (IntKind.wrap IntKind.i64 (IntKind.wrap IntKind.i64 (IntKind.wrap IntKind.i64 (IntKind.wrap IntKind.i64 (v.1 + 1) + 1) + 1) + 1) + 1) + 1),
  v_7.2.2.2.2.2.2.2.1, v_7.2.2.2.2.2.2.2.2.1, ()), ())) fun v_9 => if 0 ≤ v.2.1 ∧ v.2.1 < (↑(List.length v_9.2.1) : Int) then Option.bind v_9.2.1[0 + Int.toNat v.2.1]? fun v_10 => Option.bind (laws_markWriteS_n_S (0 + Int.toNat v.2.1, v_9.1,
  v_9.2.1, ())) fun v_11 => K (Sum.inl (v_11.1, IntKind.wrap IntKind.i64 (v.2.1 + 1), v_11.2.1, ())) else none else none else none else none else none else none else none else none else none else K (Sum.inr (v.1, v.2.2.1, ()))

theorem laws_markTransactionS_l_D2_nat : NatD laws_markTransactionS_l_D2 := fun i v R K => nat_bif (nat_ite (nat_bind fun _ => nat_ite (nat_bind fun _ => nat_ite (nat_bind fun _ => nat_ite (nat_bind fun _ => nat_ite (nat_bind fun _ => nat_ite (nat_bind fun _ => nat_ite (nat_bind fun _ => nat_ite (nat_bind fun _ => nat_bind fun _ => nat_ite (nat_bind fun _ => nat_bind fun _ => nat_some)))))))))) (nat_some)

def laws_markTransactionS_l_T2 : Tmpl := ⟨(.own 0 (.slot Ty.i (jk 3 (.slot Ty.i (jk 70 .nil))))), (.tree false 1 (Ty.prod Ty.i (Ty.prod Ty.i (Ty.prod Ty.i (Ty.prod Ty.i (Ty.prod Ty.i (Ty.prod Ty.i (Ty.prod Ty.i (Ty.prod (Ty.slice (Ty.prod
  Ty.i (Ty.prod Ty.i Ty.unit))) (Ty.prod (Ty.slice YReadMark) Ty.unit))))))))) .nil)⟩

def laws_markTransactionS_l_X2_0 (i : laws_markTransactionS_l_I2) (p : Int × List (Int × Int × Int × Int × Int × Int × Int × List (Int × Int × Unit) × List (Int × Int × Unit) × Unit) × Unit) : St := ⟨jn 1 (.n (p.1) :: jn 74 ([])), [some (Cont.tree false 1 (Ty.prod Ty.i (Ty.prod Ty.i (Ty.prod Ty.i (Ty.prod Ty.i (Ty.prod Ty.i (Ty.prod Ty.i
  (Ty.prod Ty.i (Ty.prod (Ty.slice YReadMark) (Ty.prod (Ty.slice YReadMark) Ty.unit))))))))) p.2.1 none)]⟩

noncomputable def laws_markTransactionS_l_E2 (i : laws_markTransactionS_l_I2) (p : laws_markTransactionS_l_Q2) (R : Type) (K : Ex → St → Option R) : Option R := K (Ex.exit 0) (laws_markTransactionS_l_X2_0 i p)

noncomputable def laws_markTransactionS_l_K2 (i : laws_markTransactionS_l_I2) (p : laws_markTransactionS_l_Q2) : Ex × St := (Ex.exit 0, laws_markTransactionS_l_X2_0 i p)

def laws_markTransactionS_l_M2 (i : laws_markTransactionS_l_I2) (v : laws_markTransactionS_l_V2) : den laws_markTransactionS_l_T2.ty := (v.1, v.2.1, v.2.2.1, ())

def laws_markTransactionS_l_P2 (x : den laws_markTransactionS_l_T2.ty) : laws_markTransactionS_l_I2 × laws_markTransactionS_l_V2 := ((()), (x.1, x.2.1, x.2.2.1, ()))

noncomputable def laws_markTransactionS_l_C : Cfg := { ti := g_tis, ents := [laws_markReadMarkS_n_Ent, laws_markWriteS_n_Ent], ann := [(2, loopFn laws_markTransactionS_l_T2 1 laws_markTransactionS_l_P2 laws_markTransactionS_l_D2 laws_markTransactionS_l_E2)], lent := 1 }

def laws_markTransactionS_l_ti : Tmpl := ⟨(.own 0 (.slot Ty.i .nil)), (.tree false 0 (Ty.prod Ty.i (Ty.prod Ty.i (Ty.prod Ty.i (Ty.prod Ty.i (Ty.prod Ty.i (Ty.prod Ty.i (Ty.prod Ty.i (Ty.prod (Ty.slice (Ty.prod
  Ty.i (Ty.prod Ty.i Ty.unit))) (Ty.prod (Ty.slice YReadMark) Ty.unit))))))))) .nil)⟩

def laws_markTransactionS_l_to : Tmpl := ⟨(.slot Ty.i .nil), (.tree false 1 (Ty.prod Ty.i (Ty.prod Ty.i (Ty.prod Ty.i (Ty.prod Ty.i (Ty.prod Ty.i (Ty.prod Ty.i (Ty.prod Ty.i (Ty.prod (Ty.slice (Ty.prod
  Ty.i (Ty.prod Ty.i Ty.unit))) (Ty.prod (Ty.slice YReadMark) Ty.unit))))))))) .nil)⟩

noncomputable def laws_markTransactionS_l_S (x : Int × List (Int × Int × Int × Int × Int × Int × Int × List (Int × Int × Unit) × List (Int × Int × Unit) × Unit) × Unit) : Option (Int × List (Int × Int × Int × Int × Int × Int × Int × List (Int × Int × Unit) × List (Int × Int × Unit) × Unit) × Unit) :=
  Option.bind (iter (fun v => laws_markTransactionS_l_D2 () v _ some) (x.1, 0, x.2.1, ())) fun p => some (p.1, p.2.1, ())

noncomputable def laws_markTransactionS_l_Ent : Ent := ⟨31, laws_markTransactionS_l_ti, laws_markTransactionS_l_to, laws_markTransactionS_l_S⟩

theorem laws_markTransactionS_l_HC : CfgOK Go.Proofs.Tryz.prog laws_markTransactionS_l_C := hc_of g_tisOK g_wide (all_cons laws_markReadMarkS_n_OK (all_cons laws_markWriteS_n_OK all_nil))

theorem laws_markTransactionS_l_lk2 : LkOK Go.Proofs.Tryz.prog laws_markTransactionS_l_C (lpc Go.Proofs.Tryz.f31 0) :=
  lk_of laws_markTransactionS_l_HC (m := 0) (T := laws_markTransactionS_l_T2) (sp := laws_markTransactionS_l_P2) (D := laws_markTransactionS_l_D2) (E := laws_markTransactionS_l_E2) (by kernel_rfl) (by kernel_rfl) (fun k hk => absurd hk (Nat.not_lt_zero k)) [1] laws_markTransactionS_l_M2 (fun x => rfl) laws_markTransactionS_l_D2_nat laws_markTransactionS_l_K2 (fun i p R K => rfl) (fun i v => by kernel_rfl)

theorem laws_markTransactionS_l_OK : EntOK Go.Proofs.Tryz.prog laws_markTransactionS_l_Ent := ok_of laws_markTransactionS_l_HC Go.Proofs.Tryz.func31 1 (by kernel_rfl) (fun k hk => match k, hk with | 0, _ => laws_markTransactionS_l_lk2) (by kernel_rfl) (by kernel_rfl) (fun x => by kernel_rfl)

/-! laws.markLockS -/

abbrev laws_markLockS_l_I2 : Type := Unit

abbrev laws_markLockS_l_V2 : Type := Int × Int × List (Int × Int × Unit) × Unit

abbrev laws_markLockS_l_Q2 : Type := Int × List (Int × Int × Unit) × Unit

noncomputable def laws_markLockS_l_D2 (i : laws_markLockS_l_I2) (v : laws_markLockS_l_V2) (R : Type) (K : laws_markLockS_l_V2 ⊕ laws_markLockS_l_Q2 → Option R) : Option R :=
  bif decide (v.2.1 < (↑(List.length v.2.2.1) : Int)) then if 0 ≤ v.2.1 ∧ v.2.1 < (↑(List.length v.2.2.1) : Int) then Option.bind v.2.2.1[0 + Int.toNat v.2.1]? fun v_1 => if 0 ≤ v.2.1 ∧ v.2.1 < (↑(List.length (List.set v.2.2.1 (0 + Int.toNat
  v.2.1) (v.1, v_1.2.1, ()))) : Int) then Option.bind (List.set v.2.2.1 (0 + Int.toNat v.2.1) (v.1, v_1.2.1, ()))[0 + Int.toNat v.2.1]? fun v_2 => K (Sum.inl (IntKind.wrap IntKind.i64 (IntKind.wrap IntKind.i64 (v.1 + 1) + 1), IntKind.wrap
  IntKind.i64 (v.2.1 + 1), List.set (List.set v.2.2.1 (0 + Int.toNat v.2.1) (v.1, v_1.2.1, ())) (0 + Int.toNat v.2.1) (v_2.1, IntKind.wrap IntKind.i64 (v.1 + 1), ()), ())) else none else none else K (Sum.inr (v.1, v.2.2.1, ()))

theorem laws_markLockS_l_D2_nat : NatD laws_markLockS_l_D2 := fun i v R K => nat_bif (nat_ite (nat_bind fun _ => nat_ite (nat_bind fun _ => nat_some))) (nat_some)

def laws_markLockS_l_T2 : Tmpl := ⟨(.own 0 (.slot Ty.i (jk 3 (.slot Ty.i (jk 21 .nil))))), (.lst false YReadMark .nil)⟩

def laws_markLockS_l_X2_0 (i : laws_markLockS_l_I2) (p : Int × List (Int × Int × Unit) × Unit) : St := ⟨jn 1 (.n (p.1) :: jn 25 ([])), [some (Cont.lst false YReadMark p.2.1)]⟩

noncomputable def laws_markLockS_l_E2 (i : laws_markLockS_l_I2) (p : laws_markLockS_l_Q2) (R : Type) (K : Ex → St → Option R) : Option R := K (Ex.exit 0) (laws_markLockS_l_X2_0 i p)

noncomputable def laws_markLockS_l_K2 (i : laws_markLockS_l_I2) (p : laws_markLockS_l_Q2) : Ex × St := (Ex.exit 0, laws_markLockS_l_X2_0 i p)

def laws_markLockS_l_M2 (i : laws_markLockS_l_I2) (v : laws_markLockS_l_V2) : den laws_markLockS_l_T2.ty := (v.1, v.2.1, v.2.2.1, ())

def laws_markLockS_l_P2 (x : den laws_markLockS_l_T2.ty) : laws_markLockS_l_I2 × laws_markLockS_l_V2 := ((()), (x.1, x.2.1, x.2.2.1, ()))

noncomputable def laws_markLockS_l_C : Cfg := { ti := g_tis, ents := [], ann := [(2, loopFn laws_markLockS_l_T2 1 laws_markLockS_l_P2 laws_markLockS_l_D2 laws_markLockS_l_E2)], lent := 1 }

def laws_markLockS_l_ti : Tmpl := ⟨(.own 0 (.slot Ty.i .nil)), (.lst false YReadMark .nil)⟩

def laws_markLockS_l_to : Tmpl := ⟨(.slot Ty.i .nil), (.lst false YReadMark .nil)⟩

noncomputable def laws_markLockS_l_S (x : Int × List (Int × Int × Unit) × Unit) : Option (Int × List (Int × Int × Unit) × Unit) :=
  Option.bind (iter (fun v => laws_markLockS_l_D2 () v _ some) (x.1, 0, x.2.1, ())) fun p => some (p.1, p.2.1, ())

noncomputable def laws_markLockS_l_Ent : Ent := ⟨32, laws_markLockS_l_ti, laws_markLockS_l_to, laws_markLockS_l_S⟩

theorem laws_markLockS_l_HC : CfgOK Go.Proofs.Tryz.prog laws_markLockS_l_C := hc_of g_tisOK g_wide all_nil

theorem laws_markLockS_l_lk2 : LkOK Go.Proofs.Tryz.prog laws_markLockS_l_C (lpc Go.Proofs.Tryz.f32 0) :=
  lk_of laws_markLockS_l_HC (m := 0) (T := laws_markLockS_l_T2) (sp := laws_markLockS_l_P2) (D := laws_markLockS_l_D2) (E := laws_markLockS_l_E2) (by kernel_rfl) (by kernel_rfl) (fun k hk => absurd hk (Nat.not_lt_zero k)) [1] laws_markLockS_l_M2 (fun x => rfl) laws_markLockS_l_D2_nat laws_markLockS_l_K2 (fun i p R K => rfl) (fun i v => by kernel_rfl)

theorem laws_markLockS_l_OK : EntOK Go.Proofs.Tryz.prog laws_markLockS_l_Ent := ok_of laws_markLockS_l_HC Go.Proofs.Tryz.func32 1 (by kernel_rfl) (fun k hk => match k, hk with | 0, _ => laws_markLockS_l_lk2) (by kernel_rfl) (by kernel_rfl) (fun x => by kernel_rfl)

/-! laws.markWaitS -/

abbrev laws_markWaitS_l_I2 : Type := Unit

abbrev laws_markWaitS_l_V2 : Type := Int × Int × List (Int × Int × Unit) × Unit

abbrev laws_markWaitS_l_Q2 : Type := Int × List (Int × Int × Unit) × Unit

noncomputable def laws_markWaitS_l_D2 (i : laws_markWaitS_l_I2) (v : laws_markWaitS_l_V2) (R : Type) (K : laws_markWaitS_l_V2 ⊕ laws_markWaitS_l_Q2 → Option R) : Option R :=
  bif decide (v.2.1 < (↑(List.length v.2.2.1) : Int)) then if 0 ≤ v.2.1 ∧ v.2.1 < (↑(List.length v.2.2.1) : Int) then Option.bind v.2.2.1[0 + Int.toNat v.2.1]? fun v_1 => if 0 ≤ v.2.1 ∧ v.2.1 < (↑(List.length (List.set v.2.2.1 (0 + Int.toNat
  v.2.1) (v.1, v_1.2.1, ()))) : Int) then Option.bind (List.set v.2.2.1 (0 + Int.toNat v.2.1) (v.1, v_1.2.1, ()))[0 + Int.toNat v.2.1]? fun v_2 => K (Sum.inl (IntKind.wrap IntKind.i64 (IntKind.wrap IntKind.i64 (v.1 + 1) + 1), IntKind.wrap
  IntKind.i64 (v.2.1 + 1), List.set (List.set v.2.2.1 (0 + Int.toNat v.2.1) (v.1, v_1.2.1, ())) (0 + Int.toNat v.2.1) (v_2.1, IntKind.wrap IntKind.i64 (v.1 + 1), ()), ())) else none else none else K (Sum.inr (v.1, v.2.2.1, ()))

theorem laws_markWaitS_l_D2_nat : NatD laws_markWaitS_l_D2 := fun i v R K => nat_bif (nat_ite (nat_bind fun _ => nat_ite (nat_bind fun _ => nat_some))) (nat_some)

def laws_markWaitS_l_T2 : Tmpl := ⟨(.own 0 (.slot Ty.i (jk 3 (.slot Ty.i (jk 21 .nil))))), (.lst false YReadMark .nil)⟩

def laws_markWaitS_l_X2_0 (i : laws_markWaitS_l_I2) (p : Int × List (Int × Int × Unit) × Unit) : St := ⟨jn 1 (.n (p.1) :: jn 25 ([])), [some (Cont.lst false YReadMark p.2.1)]⟩

noncomputable def laws_markWaitS_l_E2 (i : laws_markWaitS_l_I2) (p : laws_markWaitS_l_Q2) (R : Type) (K : Ex → St → Option R) : Option R := K (Ex.exit 0) (laws_markWaitS_l_X2_0 i p)

noncomputable def laws_markWaitS_l_K2 (i : laws_markWaitS_l_I2) (p : laws_markWaitS_l_Q2) : Ex × St := (Ex.exit 0, laws_markWaitS_l_X2_0 i p)

def laws_markWaitS_l_M2 (i : laws_markWaitS_l_I2) (v : laws_markWaitS_l_V2) : den laws_markWaitS_l_T2.ty := (v.1, v.2.1, v.2.2.1, ())

def laws_markWaitS_l_P2 (x : den laws_markWaitS_l_T2.ty) : laws_markWaitS_l_I2 × laws_markWaitS_l_V2 := ((()), (x.1, x.2.1, x.2.2.1, ()))

noncomputable def laws_markWaitS_l_C : Cfg := { ti := g_tis, ents := [], ann := [(2, loopFn laws_markWaitS_l_T2 1 laws_markWaitS_l_P2 laws_markWaitS_l_D2 laws_markWaitS_l_E2)], lent := 1 }

def laws_markWaitS_l_ti : Tmpl := ⟨(.own 0 (.slot Ty.i .nil)), (.lst false YReadMark .nil)⟩

def laws_markWaitS_l_to : Tmpl := ⟨(.slot Ty.i .nil), (.lst false YReadMark .nil)⟩

noncomputable def laws_markWaitS_l_S (x : Int × List (Int × Int × Unit) × Unit) : Option (Int × List (Int × Int × Unit) × Unit) :=
  Option.bind (iter (fun v => laws_markWaitS_l_D2 () v _ some) (x.1, 0, x.2.1, ())) fun p => some (p.1, p.2.1, ())

noncomputable def laws_markWaitS_l_Ent : Ent := ⟨33, laws_markWaitS_l_ti, laws_markWaitS_l_to, laws_markWaitS_l_S⟩

theorem laws_markWaitS_l_HC : CfgOK Go.Proofs.Tryz.prog laws_markWaitS_l_C := hc_of g_tisOK g_wide all_nil

theorem laws_markWaitS_l_lk2 : LkOK Go.Proofs.Tryz.prog laws_markWaitS_l_C (lpc Go.Proofs.Tryz.f33 0) :=
  lk_of laws_markWaitS_l_HC (m := 0) (T := laws_markWaitS_l_T2) (sp := laws_markWaitS_l_P2) (D := laws_markWaitS_l_D2) (E := laws_markWaitS_l_E2) (by kernel_rfl) (by kernel_rfl) (fun k hk => absurd hk (Nat.not_lt_zero k)) [1] laws_markWaitS_l_M2 (fun x => rfl) laws_markWaitS_l_D2_nat laws_markWaitS_l_K2 (fun i p R K => rfl) (fun i v => by kernel_rfl)

theorem laws_markWaitS_l_OK : EntOK Go.Proofs.Tryz.prog laws_markWaitS_l_Ent := ok_of laws_markWaitS_l_HC Go.Proofs.Tryz.func33 1 (by kernel_rfl) (fun k hk => match k, hk with | 0, _ => laws_markWaitS_l_lk2) (by kernel_rfl) (by kernel_rfl) (fun x => by kernel_rfl)

/-! laws.markEngine -/

noncomputable def laws_markEngine_l_C : Cfg := { ti := g_tis, ents := [laws_markStore_l_Ent, laws_markTransactionS_l_Ent, laws_markLockS_l_Ent, laws_markWaitS_l_Ent], ann := [], lent := 4 }

def laws_markEngine_l_ti : Tmpl := ⟨(.agg (.slot (Ty.bool) (.own 0 (.own 1 (.own 2 (.own 3 (.slot Ty.i .nil)))))) (.slot Ty.i .nil)), (.tree false 0 (Ty.slice YVersion) (.tree false 0 (Ty.prod Ty.i (Ty.prod Ty.i (Ty.prod Ty.i (Ty.prod Ty.i (Ty.prod Ty.i (Ty.prod Ty.i (Ty.prod Ty.i (Ty.prod (Ty.slice (Ty.prod
  Ty.i (Ty.prod Ty.i Ty.unit))) (Ty.prod (Ty.slice YReadMark) Ty.unit))))))))) (.lst false YReadMark (.lst false YReadMark .nil))))⟩

def laws_markEngine_l_to : Tmpl := ⟨(.slot Ty.i .nil), (.tree false 0 (Ty.slice YVersion) (.tree false 1 (Ty.prod Ty.i (Ty.prod Ty.i (Ty.prod Ty.i (Ty.prod Ty.i (Ty.prod Ty.i (Ty.prod Ty.i (Ty.prod Ty.i (Ty.prod (Ty.slice (Ty.prod
  Ty.i (Ty.prod Ty.i Ty.unit))) (Ty.prod (Ty.slice YReadMark) Ty.unit))))))))) (.lst false YReadMark (.lst false YReadMark .nil))))⟩

noncomputable def laws_markEngine_l_S (x : Bool × Int × Int × List (List (Int × Int × Int × Int × Int × Unit)) × List (Int × Int × Int × Int × Int × Int × Int × List (Int × Int × Unit) × List (Int × Int × Unit) × Unit) × List (Int × Int × Unit) × List (Int × Int × Unit) × Unit) : Option (Int × List (List (Int × Int × Int × Int × Int × Unit)) × List (Int × Int × Int × Int × Int × Int × Int × List (Int × Int × Unit) × List (Int × Int × Unit) × Unit) × List (Int × Int × Unit) × List (Int × Int × Unit) × Unit) :=
  Option.bind (laws_markStore_l_S (x.2.2.1, x.2.2.2.1, ())) fun v => Option.bind (laws_markTransactionS_l_S (v.1, x.2.2.2.2.1, ())) fun v_1 => Option.bind (laws_markLockS_l_S (v_1.1, x.2.2.2.2.2.1, ())) fun v_2 => Option.bind
  (laws_markWaitS_l_S (v_2.1, x.2.2.2.2.2.2.1, ())) fun v_3 => some (v_3.1, v.2.1, v_1.2.1, v_2.2.1, v_3.2.1, ())

noncomputable def laws_markEngine_l_Ent : Ent := ⟨9, laws_markEngine_l_ti, laws_markEngine_l_to, laws_markEngine_l_S⟩

theorem laws_markEngine_l_HC : CfgOK Go.Proofs.Tryz.prog laws_markEngine_l_C := hc_of g_tisOK g_wide (all_cons laws_markStore_l_OK (all_cons laws_markTransactionS_l_OK (all_cons laws_markLockS_l_OK (all_cons laws_markWaitS_l_OK all_nil))))

theorem laws_markEngine_l_OK : EntOK Go.Proofs.Tryz.prog laws_markEngine_l_Ent := ok_of laws_markEngine_l_HC Go.Proofs.Tryz.func9 0 (by kernel_rfl) (fun k hk => absurd hk (Nat.not_lt_zero k)) (by kernel_rfl) (by kernel_rfl) (fun x => by kernel_rfl)

/-! laws.heldVersionS -/

abbrev laws_heldVersionS_I2 : Type := List (Int × Int × Int × Int × Int × Unit) × Unit

abbrev laws_heldVersionS_V2 : Type := Int × Int × Unit

abbrev laws_heldVersionS_Q2 : Type := Int × Unit ⊕ Int × Unit ⊕ Int × Unit ⊕ Int × Unit ⊕ Int × Unit ⊕ Int × Unit

noncomputable def laws_heldVersionS_D2 (i : laws_heldVersionS_I2) (v : laws_heldVersionS_V2) (R : Type) (K : laws_heldVersionS_V2 ⊕ laws_heldVersionS_Q2 → Option R) : Option R :=
  bif decide (v.2.1 < (↑(List.length i.1) : Int)) then Option.bind (lAt i.1 v.2.1) fun v_1 => bif v_1.1 != v.1 then K (Sum.inr (Sum.inl (v.1, ()))) else Option.bind (lAt i.1 v.2.1) fun v_2 => bif v_2.2.1 != IntKind.wrap IntKind.i64 (v.1 + 1)
  then K (Sum.inr (Sum.inr (Sum.inl (IntKind.wrap IntKind.i64 (v.1 + 1), ())))) else Option.bind (lAt i.1 v.2.1) fun v_3 => bif v_3.2.2.1 != IntKind.wrap IntKind.i64 (IntKind.wrap IntKind.i64 (v.1 + 1) + 1) then K (Sum.inr (Sum.inr (Sum.inr
  (Sum.inl (IntKind.wrap IntKind.i64 (IntKind.wrap IntKind.i64 (v.1 + 1) + 1), ()))))) else Option.bind (lAt i.1 v.2.1) fun v_4 => bif v_4.2.2.2.1 != IntKind.wrap IntKind.i64 (IntKind.wrap IntKind.i64 (IntKind.wrap IntKind.i64 (v.1 + 1) + 1) +
  1) then K (Sum.inr (Sum.inr (Sum.inr (Sum.inr (Sum.inl (IntKind.wrap IntKind.i64 (IntKind.wrap IntKind.i64 (IntKind.wrap IntKind.i64 (v.1 + 1) + 1) + 1), ())))))) else Option.bind (lAt i.1 v.2.1) fun v_5 => bif v_5.2.2.2.2.1 != IntKind.wrap
  IntKind.i64 (IntKind.wrap IntKind.i64 (IntKind.wrap IntKind.i64 (IntKind.wrap IntKind.i64 (v.1 + 1) + 1) + 1) + 1) then K (Sum.inr (Sum.inr (Sum.inr (Sum.inr (Sum.inr (Sum.inl (IntKind.wrap IntKind.i64 (IntKind.wrap IntKind.i64 (IntKind.wrap
  IntKind.i64 (IntKind.wrap IntKind.i64 (v.1 + 1) + 1) + 1) + 1), ()))))))) else K (Sum.inl (IntKind.wrap IntKind.i64 (IntKind.wrap IntKind.i64 (IntKind.wrap IntKind.i64 (IntKind.wrap IntKind.i64 (IntKind.wrap IntKind.i64 (v.1 + 1) + 1) + 1) +
  1) + 1), IntKind.wrap IntKind.i64 (v.2.1 + 1), ())) else K (Sum.inr (Sum.inr (Sum.inr (Sum.inr (Sum.inr (Sum.inr (v.1, ())))))))

theorem laws_heldVersionS_D2_nat : NatD laws_heldVersionS_D2 := fun i v R K => nat_bif (nat_bind fun _ => nat_bif (nat_some) (nat_bind fun _ => nat_bif (nat_some) (nat_bind fun _ => nat_bif (nat_some) (nat_bind fun _ => nat_bif (nat_some) (nat_bind fun _ => nat_bif (nat_some) (nat_some)))))) (nat_some)

def laws_heldVersionS_T2 : Tmpl := ⟨(.slot (Ty.slice YVersion) (.slot Ty.i (jk 3 (.slot Ty.i (jk 52 .nil))))), .nil⟩

def laws_heldVersionS_X2_0 (i : laws_heldVersionS_I2) (p : Int × Unit) : St := ⟨jn 1 (.n (p.1) :: jn 2 (.n (-1) :: jn 53 ([]))), []⟩

def laws_heldVersionS_X2_1 (i : laws_heldVersionS_I2) (p : Int × Unit) : St := ⟨jn 1 (.n (p.1) :: jn 2 (.n (-1) :: jn 53 ([]))), []⟩

def laws_heldVersionS_X2_2 (i : laws_heldVersionS_I2) (p : Int × Unit) : St := ⟨jn 1 (.n (p.1) :: jn 2 (.n (-1) :: jn 53 ([]))), []⟩

def laws_heldVersionS_X2_3 (i : laws_heldVersionS_I2) (p : Int × Unit) : St := ⟨jn 1 (.n (p.1) :: jn 2 (.n (-1) :: jn 53 ([]))), []⟩

def laws_heldVersionS_X2_4 (i : laws_heldVersionS_I2) (p : Int × Unit) : St := ⟨jn 1 (.n (p.1) :: jn 2 (.n (-1) :: jn 53 ([]))), []⟩

def laws_heldVersionS_X2_5 (i : laws_heldVersionS_I2) (p : Int × Unit) : St := ⟨jn 1 (.n (p.1) :: jn 56 ([])), []⟩

noncomputable def laws_heldVersionS_E2 (i : laws_heldVersionS_I2) (p : laws_heldVersionS_Q2) (R : Type) (K : Ex → St → Option R) : Option R := sumC p (fun p => K (Ex.ret) (laws_heldVersionS_X2_0 i p)) fun p => sumC p (fun p => K (Ex.ret) (laws_heldVersionS_X2_1 i p)) fun p => sumC p (fun p => K (Ex.ret) (laws_heldVersionS_X2_2 i p)) fun p => sumC p (fun p => K (Ex.ret) (laws_heldVersionS_X2_3 i p)) fun p => sumC p (fun p => K (Ex.ret) (laws_heldVersionS_X2_4 i p)) fun p => K (Ex.exit 0) (laws_heldVersionS_X2_5 i p)

noncomputable def laws_heldVersionS_K2 (i : laws_heldVersionS_I2) (p : laws_heldVersionS_Q2) : Ex × St := sumC p (fun p => (Ex.ret, laws_heldVersionS_X2_0 i p)) fun p => sumC p (fun p => (Ex.ret, laws_heldVersionS_X2_1 i p)) fun p => sumC p (fun p => (Ex.ret, laws_heldVersionS_X2_2 i p)) fun p => sumC p (fun p => (Ex.ret, laws_heldVersionS_X2_3 i p)) fun p => sumC p (fun p => (Ex.ret, laws_heldVersionS_X2_4 i p)) fun p => (Ex.exit 0, laws_heldVersionS_X2_5 i p)

def laws_heldVersionS_M2 (i : laws_heldVersionS_I2) (v : laws_heldVersionS_V2) : den laws_heldVersionS_T2.ty := (i.1, v.1, v.2.1, ())

def laws_heldVersionS_P2 (x : den laws_heldVersionS_T2.ty) : laws_heldVersionS_I2 × laws_heldVersionS_V2 := ((x.1, ()), (x.2.1, x.2.2.1, ()))

noncomputable def laws_heldVersionS_C : Cfg := { ti := g_tis, ents := [], ann := [(2, loopFn laws_heldVersionS_T2 0 laws_heldVersionS_P2 laws_heldVersionS_D2 laws_heldVersionS_E2)], lent := 0 }

def laws_heldVersionS_ti : Tmpl := ⟨(.slot (Ty.slice YVersion) (.slot Ty.i .nil)), .nil⟩

def laws_heldVersionS_to : Tmpl := ⟨(.slot Ty.i .nil), .nil⟩

noncomputable def laws_heldVersionS_S (x : List (Int × Int × Int × Int × Int × Unit) × Int × Unit) : Option (Int × Unit) :=
  Option.bind (iter (fun v => laws_heldVersionS_D2 (x.1, ()) v _ some) (x.2.1, 0, ())) fun p => sumC p (fun p => some (-1, ())) fun p => sumC p (fun p => some (-1, ())) fun p => sumC p (fun p => some (-1, ())) fun p => sumC p (fun p
  => some (-1, ())) fun p => sumC p (fun p => some (-1, ())) fun p => some (p.1, ())

noncomputable def laws_heldVersionS_Ent : Ent := ⟨118, laws_heldVersionS_ti, laws_heldVersionS_to, laws_heldVersionS_S⟩

theorem laws_heldVersionS_HC : CfgOK Go.Proofs.Tryz.prog laws_heldVersionS_C := hc_of g_tisOK g_wide all_nil

theorem laws_heldVersionS_lk2 : LkOK Go.Proofs.Tryz.prog laws_heldVersionS_C (lpc Go.Proofs.Tryz.f118 0) :=
  lk_of laws_heldVersionS_HC (m := 0) (T := laws_heldVersionS_T2) (sp := laws_heldVersionS_P2) (D := laws_heldVersionS_D2) (E := laws_heldVersionS_E2) (by kernel_rfl) (by kernel_rfl) (fun k hk => absurd hk (Nat.not_lt_zero k)) [1, 4] laws_heldVersionS_M2 (fun x => rfl) laws_heldVersionS_D2_nat laws_heldVersionS_K2 (fun i p R K => by rcases p with p | p | p | p | p | p <;> rfl) (fun i v => by kernel_rfl)

theorem laws_heldVersionS_OK : EntOK Go.Proofs.Tryz.prog laws_heldVersionS_Ent := ok_of laws_heldVersionS_HC Go.Proofs.Tryz.func118 1 (by kernel_rfl) (fun k hk => match k, hk with | 0, _ => laws_heldVersionS_lk2) (by kernel_rfl) (by kernel_rfl) (fun x => by kernel_rfl)

/-! laws.heldVersionSS -/

abbrev laws_heldVersionSS_I2 : Type := List (List (Int × Int × Int × Int × Int × Unit)) × Unit

abbrev laws_heldVersionSS_V2 : Type := Int × Int × Unit

abbrev laws_heldVersionSS_Q2 : Type := Int × Unit ⊕ Int × Unit

noncomputable def laws_heldVersionSS_D2 (i : laws_heldVersionSS_I2) (v : laws_heldVersionSS_V2) (R : Type) (K : laws_heldVersionSS_V2 ⊕ laws_heldVersionSS_Q2 → Option R) : Option R :=
  bif decide (v.2.1 < (↑(List.length i.1) : Int)) then Option.bind (lAt i.1 v.2.1) fun v_1 => Option.bind (laws_heldVersionS_S (v_1, v.1, ())) fun v_2 => bif decide (v_2.1 < 0) then K (Sum.inr (Sum.inl (v_2.1, ()))) else K (Sum.inl (v_2.1,
  IntKind.wrap IntKind.i64 (v.2.1 + 1), ())) else K (Sum.inr (Sum.inr (v.1, ())))

theorem laws_heldVersionSS_D2_nat : NatD laws_heldVersionSS_D2 := fun i v R K => nat_bif (nat_bind fun _ => nat_bind fun _ => nat_bif (nat_some) (nat_some)) (nat_some)

def laws_heldVersionSS_T2 : Tmpl := ⟨(.slot (Ty.slice (Ty.slice YVersion)) (.slot Ty.i (jk 3 (.slot Ty.i (jk 15 .nil))))), .nil⟩

def laws_heldVersionSS_X2_0 (i : laws_heldVersionSS_I2) (p : Int × Unit) : St := ⟨jn 1 (.n (p.1) :: jn 2 (.n (-1) :: jn 16 ([]))), []⟩

def laws_heldVersionSS_X2_1 (i : laws_heldVersionSS_I2) (p : Int × Unit) : St := ⟨jn 1 (.n (p.1) :: jn 19 ([])), []⟩

noncomputable def laws_heldVersionSS_E2 (i : laws_heldVersionSS_I2) (p : laws_heldVersionSS_Q2) (R : Type) (K : Ex → St → Option R) : Option R := sumC p (fun p => K (Ex.ret) (laws_heldVersionSS_X2_0 i p)) fun p => K (Ex.exit 0) (laws_heldVersionSS_X2_1 i p)

noncomputable def laws_heldVersionSS_K2 (i : laws_heldVersionSS_I2) (p : laws_heldVersionSS_Q2) : Ex × St := sumC p (fun p => (Ex.ret, laws_heldVersionSS_X2_0 i p)) fun p => (Ex.exit 0, laws_heldVersionSS_X2_1 i p)

def laws_heldVersionSS_M2 (i : laws_heldVersionSS_I2) (v : laws_heldVersionSS_V2) : den laws_heldVersionSS_T2.ty := (i.1, v.1, v.2.1, ())

def laws_heldVersionSS_P2 (x : den laws_heldVersionSS_T2.ty) : laws_heldVersionSS_I2 × laws_heldVersionSS_V2 := ((x.1, ()), (x.2.1, x.2.2.1, ()))

noncomputable def laws_heldVersionSS_C : Cfg := { ti := g_tis, ents := [laws_heldVersionS_Ent], ann := [(2, loopFn laws_heldVersionSS_T2 0 laws_heldVersionSS_P2 laws_heldVersionSS_D2 laws_heldVersionSS_E2)], lent := 0 }

def laws_heldVersionSS_ti : Tmpl := ⟨(.slot (Ty.slice (Ty.slice YVersion)) (.slot Ty.i .nil)), .nil⟩

def laws_heldVersionSS_to : Tmpl := ⟨(.slot Ty.i .nil), .nil⟩

noncomputable def laws_heldVersionSS_S (x : List (List (Int × Int × Int × Int × Int × Unit)) × Int × Unit) : Option (Int × Unit) :=
  Option.bind (iter (fun v => laws_heldVersionSS_D2 (x.1, ()) v _ some) (x.2.1, 0, ())) fun p => sumC p (fun p => some (-1, ())) fun p => some (p.1, ())

noncomputable def laws_heldVersionSS_Ent : Ent := ⟨84, laws_heldVersionSS_ti, laws_heldVersionSS_to, laws_heldVersionSS_S⟩

theorem laws_heldVersionSS_HC : CfgOK Go.Proofs.Tryz.prog laws_heldVersionSS_C := hc_of g_tisOK g_wide (all_cons laws_heldVersionS_OK all_nil)

theorem laws_heldVersionSS_lk2 : LkOK Go.Proofs.Tryz.prog laws_heldVersionSS_C (lpc Go.Proofs.Tryz.f84 0) :=
  lk_of laws_heldVersionSS_HC (m := 0) (T := laws_heldVersionSS_T2) (sp := laws_heldVersionSS_P2) (D := laws_heldVersionSS_D2) (E := laws_heldVersionSS_E2) (by kernel_rfl) (by kernel_rfl) (fun k hk => absurd hk (Nat.not_lt_zero k)) [1, 4] laws_heldVersionSS_M2 (fun x => rfl) laws_heldVersionSS_D2_nat laws_heldVersionSS_K2 (fun i p R K => by rcases p with p | p <;> rfl) (fun i v => by kernel_rfl)

theorem laws_heldVersionSS_OK : EntOK Go.Proofs.Tryz.prog laws_heldVersionSS_Ent := ok_of laws_heldVersionSS_HC Go.Proofs.Tryz.func84 1 (by kernel_rfl) (fun k hk => match k, hk with | 0, _ => laws_heldVersionSS_lk2) (by kernel_rfl) (by kernel_rfl) (fun x => by kernel_rfl)

/-! laws.heldStore -/

noncomputable def laws_heldStore_C : Cfg := { ti := g_tis, ents := [laws_heldVersionSS_Ent], ann := [], lent := 0 }

def laws_heldStore_ti : Tmpl := ⟨(.slot YStore (.slot Ty.i .nil)), .nil⟩

def laws_heldStore_to : Tmpl := ⟨(.slot Ty.i .nil), .nil⟩

noncomputable def laws_heldStore_S (x : (List (List (Int × Int × Int × Int × Int × Unit)) × Unit) × Int × Unit) : Option (Int × Unit) :=
  Option.bind (laws_heldVersionSS_S (x.1.1, x.2.1, ())) fun v => bif decide (v.1 < 0) then some (-1, ()) else some (v.1, ())

noncomputable def laws_heldStore_Ent : Ent := ⟨34, laws_heldStore_ti, laws_heldStore_to, laws_heldStore_S⟩

theorem laws_heldStore_HC : CfgOK Go.Proofs.Tryz.prog laws_heldStore_C := hc_of g_tisOK g_wide (all_cons laws_heldVersionSS_OK all_nil)

theorem laws_heldStore_OK : EntOK Go.Proofs.Tryz.prog laws_heldStore_Ent := ok_of laws_heldStore_HC Go.Proofs.Tryz.func34 0 (by kernel_rfl) (fun k hk => absurd hk (Nat.not_lt_zero k)) (by kernel_rfl) (by kernel_rfl) (fun x => by kernel_rfl)

/-! laws.heldReadMarkS -/

abbrev laws_heldReadMarkS_I2 : Type := List (Int × Int × Unit) × Unit

abbrev laws_heldReadMarkS_V2 : Type := Int × Int × Unit

abbrev laws_heldReadMarkS_Q2 : Type := Int × Unit ⊕ Int × Unit ⊕ Int × Unit

noncomputable def laws_heldReadMarkS_D2 (i : laws_heldReadMarkS_I2) (v : laws_heldReadMarkS_V2) (R : Type) (K : laws_heldReadMarkS_V2 ⊕ laws_heldReadMarkS_Q2 → Option R) : Option R :=
  bif decide (v.2.1 < (↑(List.length i.1) : Int)) then Option.bind (lAt i.1 v.2.1) fun v_1 => bif v_1.1 != v.1 then K (Sum.inr (Sum.inl (v.1, ()))) else Option.bind (lAt i.1 v.2.1) fun v_2 => bif v_2.2.1 != IntKind.wrap IntKind.i64 (v.1 + 1)
  then K (Sum.inr (Sum.inr (Sum.inl (IntKind.wrap IntKind.i64 (v.1 + 1), ())))) else K (Sum.inl (IntKind.wrap IntKind.i64 (IntKind.wrap IntKind.i64 (v.1 + 1) + 1), IntKind.wrap IntKind.i64 (v.2.1 + 1), ())) else K (Sum.inr (Sum.inr (Sum.inr
  (v.1, ()))))

theorem laws_heldReadMarkS_D2_nat : NatD laws_heldReadMarkS_D2 := fun i v R K => nat_bif (nat_bind fun _ => nat_bif (nat_some) (nat_bind fun _ => nat_bif (nat_some) (nat_some))) (nat_some)

def laws_heldReadMarkS_T2 : Tmpl := ⟨(.slot (Ty.slice YReadMark) (.slot Ty.i (jk 3 (.slot Ty.i (jk 25 .nil))))), .nil⟩

def laws_heldReadMarkS_X2_0 (i : laws_heldReadMarkS_I2) (p : Int × Unit) : St := ⟨jn 1 (.n (p.1) :: jn 2 (.n (-1) :: jn 26 ([]))), []⟩

def laws_heldReadMarkS_X2_1 (i : laws_heldReadMarkS_I2) (p : Int × Unit) : St := ⟨jn 1 (.n (p.1) :: jn 2 (.n (-1) :: jn 26 ([]))), []⟩

def laws_heldReadMarkS_X2_2 (i : laws_heldReadMarkS_I2) (p : Int × Unit) : St := ⟨jn 1 (.n (p.1) :: jn 29 ([])), []⟩

noncomputable def laws_heldReadMarkS_E2 (i : laws_heldReadMarkS_I2) (p : laws_heldReadMarkS_Q2) (R : Type) (K : Ex → St → Option R) : Option R := sumC p (fun p => K (Ex.ret) (laws_heldReadMarkS_X2_0 i p)) fun p => sumC p (fun p => K (Ex.ret) (laws_heldReadMarkS_X2_1 i p)) fun p => K (Ex.exit 0) (laws_heldReadMarkS_X2_2 i p)

noncomputable def laws_heldReadMarkS_K2 (i : laws_heldReadMarkS_I2) (p : laws_heldReadMarkS_Q2) : Ex × St := sumC p (fun p => (Ex.ret, laws_heldReadMarkS_X2_0 i p)) fun p => sumC p (fun p => (Ex.ret, laws_heldReadMarkS_X2_1 i p)) fun p => (Ex.exit 0, laws_heldReadMarkS_X2_2 i p)

def laws_heldReadMarkS_M2 (i : laws_heldReadMarkS_I2) (v : laws_heldReadMarkS_V2) : den laws_heldReadMarkS_T2.ty := (i.1, v.1, v.2.1, ())

def laws_heldReadMarkS_P2 (x : den laws_heldReadMarkS_T2.ty) : laws_heldReadMarkS_I2 × laws_heldReadMarkS_V2 := ((x.1, ()), (x.2.1, x.2.2.1, ()))

noncomputable def laws_heldReadMarkS_C : Cfg := { ti := g_tis, ents := [], ann := [(2, loopFn laws_heldReadMarkS_T2 0 laws_heldReadMarkS_P2 laws_heldReadMarkS_D2 laws_heldReadMarkS_E2)], lent := 0 }

def laws_heldReadMarkS_ti : Tmpl := ⟨(.slot (Ty.slice YReadMark) (.slot Ty.i .nil)), .nil⟩

def laws_heldReadMarkS_to : Tmpl := ⟨(.slot Ty.i .nil), .nil⟩

noncomputable def laws_heldReadMarkS_S (x : List (Int × Int × Unit) × Int × Unit) : Option (Int × Unit) :=
  Option.bind (iter (fun v => laws_heldReadMarkS_D2 (x.1, ()) v _ some) (x.2.1, 0, ())) fun p => sumC p (fun p => some (-1, ())) fun p => sumC p (fun p => some (-1, ())) fun p => some (p.1, ())

noncomputable def laws_heldReadMarkS_Ent : Ent := ⟨85, laws_heldReadMarkS_ti, laws_heldReadMarkS_to, laws_heldReadMarkS_S⟩

theorem laws_heldReadMarkS_HC : CfgOK Go.Proofs.Tryz.prog laws_heldReadMarkS_C := hc_of g_tisOK g_wide all_nil

theorem laws_heldReadMarkS_lk2 : LkOK Go.Proofs.Tryz.prog laws_heldReadMarkS_C (lpc Go.Proofs.Tryz.f85 0) :=
  lk_of laws_heldReadMarkS_HC (m := 0) (T := laws_heldReadMarkS_T2) (sp := laws_heldReadMarkS_P2) (D := laws_heldReadMarkS_D2) (E := laws_heldReadMarkS_E2) (by kernel_rfl) (by kernel_rfl) (fun k hk => absurd hk (Nat.not_lt_zero k)) [1, 4] laws_heldReadMarkS_M2 (fun x => rfl) laws_heldReadMarkS_D2_nat laws_heldReadMarkS_K2 (fun i p R K => by rcases p with p | p | p <;> rfl) (fun i v => by kernel_rfl)

theorem laws_heldReadMarkS_OK : EntOK Go.Proofs.Tryz.prog laws_heldReadMarkS_Ent := ok_of laws_heldReadMarkS_HC Go.Proofs.Tryz.func85 1 (by kernel_rfl) (fun k hk => match k, hk with | 0, _ => laws_heldReadMarkS_lk2) (by kernel_rfl) (by kernel_rfl) (fun x => by kernel_rfl)

/-! laws.heldWriteS -/

abbrev laws_heldWriteS_I2 : Type := List (Int × Int × Unit) × Unit

abbrev laws_heldWriteS_V2 : Type := Int × Int × Unit

abbrev laws_heldWriteS_Q2 : Type := Int × Unit ⊕ Int × Unit ⊕ Int × Unit

noncomputable def laws_heldWriteS_D2 (i : laws_heldWriteS_I2) (v : laws_heldWriteS_V2) (R : Type) (K : laws_heldWriteS_V2 ⊕ laws_heldWriteS_Q2 → Option R) : Option R :=
  bif decide (v.2.1 < (↑(List.length i.1) : Int)) then Option.bind (lAt i.1 v.2.1) fun v_1 => bif v_1.1 != v.1 then K (Sum.inr (Sum.inl (v.1, ()))) else Option.bind (lAt i.1 v.2.1) fun v_2 => bif v_2.2.1 != IntKind.wrap IntKind.i64 (v.1 + 1)
  then K (Sum.inr (Sum.inr (Sum.inl (IntKind.wrap IntKind.i64 (v.1 + 1), ())))) else K (Sum.inl (IntKind.wrap IntKind.i64 (IntKind.wrap IntKind.i64 (v.1 + 1) + 1), IntKind.wrap IntKind.i64 (v.2.1 + 1), ())) else K (Sum.inr (Sum.inr (Sum.inr
  (v.1, ()))))

theorem laws_heldWriteS_D2_nat : NatD laws_heldWriteS_D2 := fun i v R K => nat_bif (nat_bind fun _ => nat_bif (nat_some) (nat_bind fun _ => nat_bif (nat_some) (nat_some))) (nat_some)

def laws_heldWriteS_T2 : Tmpl := ⟨(.slot (Ty.slice YReadMark) (.slot Ty.i (jk 3 (.slot Ty.i (jk 25 .nil))))), .nil⟩

def laws_heldWriteS_X2_0 (i : laws_heldWriteS_I2) (p : Int × Unit) : St := ⟨jn 1 (.n (p.1) :: jn 2 (.n (-1) :: jn 26 ([]))), []⟩

def laws_heldWriteS_X2_1 (i : laws_heldWriteS_I2) (p : Int × Unit) : St := ⟨jn 1 (.n (p.1) :: jn 2 (.n (-1) :: jn 26 ([]))), []⟩

def laws_heldWriteS_X2_2 (i : laws_heldWriteS_I2) (p : Int × Unit) : St := ⟨jn 1 (.n (p.1) :: jn 29 ([])), []⟩

noncomputable def laws_heldWriteS_E2 (i : laws_heldWriteS_I2) (p : laws_heldWriteS_Q2) (R : Type) (K : Ex → St → Option R) : Option R := sumC p (fun p => K (Ex.ret) (laws_heldWriteS_X2_0 i p)) fun p => sumC p (fun p => K (Ex.ret) (laws_heldWriteS_X2_1 i p)) fun p => K (Ex.exit 0) (laws_heldWriteS_X2_2 i p)

noncomputable def laws_heldWriteS_K2 (i : laws_heldWriteS_I2) (p : laws_heldWriteS_Q2) : Ex × St := sumC p (fun p => (Ex.ret, laws_heldWriteS_X2_0 i p)) fun p => sumC p (fun p => (Ex.ret, laws_heldWriteS_X2_1 i p)) fun p => (Ex.exit 0, laws_heldWriteS_X2_2 i p)

def laws_heldWriteS_M2 (i : laws_heldWriteS_I2) (v : laws_heldWriteS_V2) : den laws_heldWriteS_T2.ty := (i.1, v.1, v.2.1, ())

def laws_heldWriteS_P2 (x : den laws_heldWriteS_T2.ty) : laws_heldWriteS_I2 × laws_heldWriteS_V2 := ((x.1, ()), (x.2.1, x.2.2.1, ()))

noncomputable def laws_heldWriteS_C : Cfg := { ti := g_tis, ents := [], ann := [(2, loopFn laws_heldWriteS_T2 0 laws_heldWriteS_P2 laws_heldWriteS_D2 laws_heldWriteS_E2)], lent := 0 }

def laws_heldWriteS_ti : Tmpl := ⟨(.slot (Ty.slice YReadMark) (.slot Ty.i .nil)), .nil⟩

def laws_heldWriteS_to : Tmpl := ⟨(.slot Ty.i .nil), .nil⟩

noncomputable def laws_heldWriteS_S (x : List (Int × Int × Unit) × Int × Unit) : Option (Int × Unit) :=
  Option.bind (iter (fun v => laws_heldWriteS_D2 (x.1, ()) v _ some) (x.2.1, 0, ())) fun p => sumC p (fun p => some (-1, ())) fun p => sumC p (fun p => some (-1, ())) fun p => some (p.1, ())

noncomputable def laws_heldWriteS_Ent : Ent := ⟨86, laws_heldWriteS_ti, laws_heldWriteS_to, laws_heldWriteS_S⟩

theorem laws_heldWriteS_HC : CfgOK Go.Proofs.Tryz.prog laws_heldWriteS_C := hc_of g_tisOK g_wide all_nil

theorem laws_heldWriteS_lk2 : LkOK Go.Proofs.Tryz.prog laws_heldWriteS_C (lpc Go.Proofs.Tryz.f86 0) :=
  lk_of laws_heldWriteS_HC (m := 0) (T := laws_heldWriteS_T2) (sp := laws_heldWriteS_P2) (D := laws_heldWriteS_D2) (E := laws_heldWriteS_E2) (by kernel_rfl) (by kernel_rfl) (fun k hk => absurd hk (Nat.not_lt_zero k)) [1, 4] laws_heldWriteS_M2 (fun x => rfl) laws_heldWriteS_D2_nat laws_heldWriteS_K2 (fun i p R K => by rcases p with p | p | p <;> rfl) (fun i v => by kernel_rfl)

theorem laws_heldWriteS_OK : EntOK Go.Proofs.Tryz.prog laws_heldWriteS_Ent := ok_of laws_heldWriteS_HC Go.Proofs.Tryz.func86 1 (by kernel_rfl) (fun k hk => match k, hk with | 0, _ => laws_heldWriteS_lk2) (by kernel_rfl) (by kernel_rfl) (fun x => by kernel_rfl)

/-! laws.heldTransactionS -/

abbrev laws_heldTransactionS_I2 : Type := List (Int × Int × Int × Int × Int × Int × Int × List (Int × Int × Unit) × List (Int × Int × Unit) × Unit) × Unit

abbrev laws_heldTransactionS_V2 : Type := Int × Int × Unit

abbrev laws_heldTransactionS_Q2 : Type := Int × Unit ⊕ Int × Unit ⊕ Int × Unit ⊕ Int × Unit ⊕ Int × Unit ⊕ Int × Unit ⊕ Int × Unit ⊕ Int × Unit ⊕ Int × Unit ⊕ Int × Unit

noncomputable def laws_heldTransactionS_D2 (i : laws_heldTransactionS_I2) (v : laws_heldTransactionS_V2) (R : Type) (K : laws_heldTransactionS_V2 ⊕ laws_heldTransactionS_Q2 → Option R) : Option R :=
  bif decide (v.2.1 < (↑(List.length i.1) : Int)) then Option.bind (lAt i.1 v.2.1) fun v_1 => bif v_1.1 != v.1 then K (Sum.inr (Sum.inl (v.1, ()))) else Option.bind (lAt i.1 v.2.1) fun v_2 => bif v_2.2.1 != IntKind.wrap IntKind.i64 (v.1 + 1)
  then K (Sum.inr (Sum.inr (Sum.inl (IntKind.wrap IntKind.i64 (v.1 + 1), ())))) else Option.bind (lAt i.1 v.2.1) fun v_3 => bif v_3.2.2.1 != IntKind.wrap IntKind.i64 (IntKind.wrap IntKind.i64 (v.1 + 1) + 1) then K (Sum.inr (Sum.inr (Sum.inr
  (Sum.inl (IntKind.wrap IntKind.i64 (IntKind.wrap IntKind.i64 (v.1 + 1) + 1), ()))))) else Option.bind (lAt i.1 v.2.1) fun v_4 => bif v_4.2.2.2.1 != IntKind.wrap IntKind.i64 (IntKind.wrap IntKind.i64 (IntKind.wrap IntKind.i64 (v.1 + 1) + 1) +
  1) then K (Sum.inr (Sum.inr (Sum.inr (Sum.inr (Sum.inl (IntKind.wrap IntKind.i64 (IntKind.wrap IntKind.i64 (IntKind.wrap IntKind.i64 (v.1 + 1) + 1) + 1), ())))))) else Option.bind (lAt i.1 v.2.1) fun v_5 => bif v_5.2.2.2.2.1 != IntKind.wrap
  IntKind.i64 (IntKind.wrap IntKind.i64 (IntKind.wrap IntKind.i64 (IntKind.wrap IntKind.i64 (v.1 + 1) + 1) + 1) + 1) then K (Sum.inr (Sum.inr (Sum.inr (Sum.inr (Sum.inr (Sum.inl (IntKind.wrap IntKind.i64 (IntKind.wrap IntKind.i64 (IntKind.wrap
  IntKind.i64 (IntKind.wrap IntKind.i64 (v.1 + 1) + 1) + 1) + 1), ()))))))) else Option.bind (lAt i.1 v.2.1) fun v_6 => bif v_6.2.2.2.2.2.1 != IntKind.wrap IntKind.i64 (IntKind.wrap IntKind.i64 (IntKind.wrap IntKind.i64 (IntKind.wrap
  IntKind.i64 (IntKind.wrap IntKind.i64 (v.1 + 1) + 1) + 1) + 1) + 1) then K (Sum.inr (Sum.inr (Sum.inr (Sum.inr (Sum.inr (Sum.inr (Sum.inl (IntKind.wrap IntKind.i64 (IntKind.wrap IntKind.i64 (IntKind.wrap IntKind.i64 (IntKind.wrap IntKind.i64
  (IntKind.wrap IntKind.i64 (v.1 + 1) + 1) + 1) + 1) + 1), ())))))))) else Option.bind (lAt i.1 v.2.1) fun v_7 => bif v_7.2.2.2.2.2.2.1 != IntKind.wrap IntKind.i64 (IntKind.wrap IntKind.i64 (IntKind.wrap IntKind.i64 (IntKind.wrap IntKind.i64
  (IntKind.wrap IntKind.i64 (IntKind.wrap IntKind.i64 (v.1 + 1) + 1) + 1) + 1) + 1) + 1) then K (Sum.inr (Sum.inr (Sum.inr (Sum.inr (Sum.inr (Sum.inr (Sum.inr (Sum.inl (IntKind.wrap IntKind.i64 (IntKind.wrap IntKind.i64 (IntKind.wrap
  IntKind.i64 (IntKind.wrap IntKind.i64 (IntKind.wrap IntKind.i64 (IntKind.wrap IntKind.i64 (v.1 + 1) + 1) + 1) + 1) + 1) + 1), ()))))))))) else Option.bind (lAt i.1 v.2.1) fun v_8 => Option.bind (laws_heldReadMarkS_S (v_8.2.2.2.2.2.2.2.1,
  IntKind.wrap IntKind.i64 (IntKind.wrap IntKind.i64 (IntKind.wrap IntKind.i64 (IntKind.wrap IntKind.i64 (IntKind.wrap IntKind.i64 (IntKind.wrap IntKind.i64 (IntKind.wrap IntKind.i64 (v.1 + 1) + 1) + 1) + 1) + 1) + 1) + 1), ())) fun v_9 => bif
  decide (v_9.1 < 0) then K (Sum.inr (Sum.inr (Sum.inr (Sum.inr (Sum.inr (Sum.inr (Sum.inr (Sum.inr (Sum.inl (v_9.1, ())))))))))) else Option.bind (lAt i.1 v.2.1) fun v_10 => Option.bind (laws_heldWriteS_S (v_10.2.2.2.2.2.2.2.2.1, v_9.1, ()))
  fun v_11 => bif decide (v_11.1 < 0) then K (Sum.inr (Sum.inr (Sum.inr (Sum.inr (Sum.inr (Sum.inr (Sum.inr (Sum.inr (Sum.inr (Sum.inl (v_11.1, ()))))))))))) else K (Sum.inl (v_11.1, IntKind.wrap IntKind.i64 (v.2.1 + 1), ())) else K (Sum.inr
  (Sum.inr (Sum.inr (Sum.inr (Sum.inr (Sum.inr (Sum.inr (Sum.inr (Sum.inr (Sum.inr (v.1, ())))))))))))

theorem laws_heldTransactionS_D2_nat : NatD laws_heldTransactionS_D2 := fun i v R K => nat_bif (nat_bind fun _ => nat_bif (nat_some) (nat_bind fun _ => nat_bif (nat_some) (nat_bind fun _ => nat_bif (nat_some) (nat_bind fun _ => nat_bif (nat_some) (nat_bind fun _ => nat_bif (nat_some) (nat_bind fun _ => nat_bif (nat_some) (nat_bind fun _ => nat_bif (nat_some) (nat_bind fun _ => nat_bind fun _ => nat_bif (nat_some) (nat_bind fun _ => nat_bind fun _ => nat_bif (nat_some) (nat_some)))))))))) (nat_some)

def laws_heldTransactionS_T2 : Tmpl := ⟨(.slot (Ty.slice (Ty.prod Ty.i (Ty.prod Ty.i (Ty.prod Ty.i (Ty.prod Ty.i (Ty.prod Ty.i (Ty.prod Ty.i (Ty.prod Ty.i (Ty.prod (Ty.slice
  YReadMark) (Ty.prod (Ty.slice YReadMark) Ty.unit)))))))))) (.slot Ty.i (jk 3 (.slot Ty.i (jk 88 .nil))))), .nil⟩

def laws_heldTransactionS_X2_0 (i : laws_heldTransactionS_I2) (p : Int × Unit) : St := ⟨jn 1 (.n (p.1) :: jn 2 (.n (-1) :: jn 89 ([]))), []⟩

def laws_heldTransactionS_X2_1 (i : laws_heldTransactionS_I2) (p : Int × Unit) : St := ⟨jn 1 (.n (p.1) :: jn 2 (.n (-1) :: jn 89 ([]))), []⟩

def laws_heldTransactionS_X2_2 (i : laws_heldTransactionS_I2) (p : Int × Unit) : St := ⟨jn 1 (.n (p.1) :: jn 2 (.n (-1) :: jn 89 ([]))), []⟩

def laws_heldTransactionS_X2_3 (i : laws_heldTransactionS_I2) (p : Int × Unit) : St := ⟨jn 1 (.n (p.1) :: jn 2 (.n (-1) :: jn 89 ([]))), []⟩

def laws_heldTransactionS_X2_4 (i : laws_heldTransactionS_I2) (p : Int × Unit) : St := ⟨jn 1 (.n (p.1) :: jn 2 (.n (-1) :: jn 89 ([]))), []⟩

def laws_heldTransactionS_X2_5 (i : laws_heldTransactionS_I2) (p : Int × Unit) : St := ⟨jn 1 (.n (p.1) :: jn 2 (.n (-1) :: jn 89 ([]))), []⟩

def laws_heldTransactionS_X2_6 (i : laws_heldTransactionS_I2) (p : Int × Unit) : St := ⟨jn 1 (.n (p.1) :: jn 2 (.n (-1) :: jn 89 ([]))), []⟩

def laws_heldTransactionS_X2_7 (i : laws_heldTransactionS_I2) (p : Int × Unit) : St := ⟨jn 1 (.n (p.1) :: jn 2 (.n (-1) :: jn 89 ([]))), []⟩

def laws_heldTransactionS_X2_8 (i : laws_heldTransactionS_I2) (p : Int × Unit) : St := ⟨jn 1 (.n (p.1) :: jn 2 (.n (-1) :: jn 89 ([]))), []⟩

def laws_heldTransactionS_X2_9 (i : laws_heldTransactionS_I2) (p : Int × Unit) : St := ⟨jn 1 (.n (p.1) :: jn 92 ([])), []⟩

noncomputable def laws_heldTransactionS_E2 (i : laws_heldTransactionS_I2) (p : laws_heldTransactionS_Q2) (R : Type) (K : Ex → St → Option R) : Option R := sumC p (fun p => K (Ex.ret) (laws_heldTransactionS_X2_0 i p)) fun p => sumC p (fun p => K (Ex.ret) (laws_heldTransactionS_X2_1 i p)) fun p => sumC p (fun p => K (Ex.ret) (laws_heldTransactionS_X2_2 i p)) fun p => sumC p (fun p => K (Ex.ret) (laws_heldTransactionS_X2_3 i p)) fun p => sumC p (fun p => K (Ex.ret) (laws_heldTransactionS_X2_4 i p)) fun p => sumC p (fun p => K (Ex.ret) (laws_heldTransactionS_X2_5 i p)) fun p => sumC p (fun p => K (Ex.ret) (laws_heldTransactionS_X2_6 i p)) fun p => sumC p (fun p => K (Ex.ret) (laws_heldTransactionS_X2_7 i p)) fun p => sumC p (fun p => K (Ex.ret) (laws_heldTransactionS_X2_8 i p)) fun p => K (Ex.exit 0) (laws_heldTransactionS_X2_9 i p)

noncomputable def laws_heldTransactionS_K2 (i : laws_heldTransactionS_I2) (p : laws_heldTransactionS_Q2) : Ex × St := sumC p (fun p => (Ex.ret, laws_heldTransactionS_X2_0 i p)) fun p => sumC p (fun p => (Ex.ret, laws_heldTransactionS_X2_1 i p)) fun p => sumC p (fun p => (Ex.ret, laws_heldTransactionS_X2_2 i p)) fun p => sumC p (fun p => (Ex.ret, laws_heldTransactionS_X2_3 i p)) fun p => sumC p (fun p => (Ex.ret, laws_heldTransactionS_X2_4 i p)) fun p => sumC p (fun p => (Ex.ret, laws_heldTransactionS_X2_5 i p)) fun p => sumC p (fun p => (Ex.ret, laws_heldTransactionS_X2_6 i p)) fun p => sumC p (fun p => (Ex.ret, laws_heldTransactionS_X2_7 i p)) fun p => sumC p (fun p => (Ex.ret, laws_heldTransactionS_X2_8 i p)) fun p => (Ex.exit 0, laws_heldTransactionS_X2_9 i p)

def laws_heldTransactionS_M2 (i : laws_heldTransactionS_I2) (v : laws_heldTransactionS_V2) : den laws_heldTransactionS_T2.ty := (i.1, v.1, v.2.1, ())

def laws_heldTransactionS_P2 (x : den laws_heldTransactionS_T2.ty) : laws_heldTransactionS_I2 × laws_heldTransactionS_V2 := ((x.1, ()), (x.2.1, x.2.2.1, ()))

noncomputable def laws_heldTransactionS_C : Cfg := { ti := g_tis, ents := [laws_heldReadMarkS_Ent, laws_heldWriteS_Ent], ann := [(2, loopFn laws_heldTransactionS_T2 0 laws_heldTransactionS_P2 laws_heldTransactionS_D2 laws_heldTransactionS_E2)], lent := 0 }

def laws_heldTransactionS_ti : Tmpl := ⟨(.slot (Ty.slice (Ty.prod Ty.i (Ty.prod Ty.i (Ty.prod Ty.i (Ty.prod Ty.i (Ty.prod Ty.i (Ty.prod Ty.i (Ty.prod Ty.i (Ty.prod (Ty.slice
  YReadMark) (Ty.prod (Ty.slice YReadMark) Ty.unit)))))))))) (.slot Ty.i .nil)), .nil⟩

def laws_heldTransactionS_to : Tmpl := ⟨(.slot Ty.i .nil), .nil⟩

noncomputable def laws_heldTransactionS_S (x : List (Int × Int × Int × Int × Int × Int × Int × List (Int × Int × Unit) × List (Int × Int × Unit) × Unit) × Int × Unit) : Option (Int × Unit) :=
  Option.bind (iter (fun v => laws_heldTransactionS_D2 (x.1, ()) v _ some) (x.2.1, 0, ())) fun p => sumC p (fun p => some (-1, ())) fun p => sumC p (fun p => some (-1, ())) fun p => sumC p (fun p => some (-1, ())) fun p => sumC p
  (fun p => some (-1, ())) fun p => sumC p (fun p => some (-1, ())) fun p => sumC p (fun p => some (-1, ())) fun p => sumC p (fun p => some (-1, ())) fun p => sumC p (fun p => some (-1, ())) fun p => sumC p (fun p => some (-1, ())) fun p =>
  some (p.1, ())

noncomputable def laws_heldTransactionS_Ent : Ent := ⟨35, laws_heldTransactionS_ti, laws_heldTransactionS_to, laws_heldTransactionS_S⟩

theorem laws_heldTransactionS_HC : CfgOK Go.Proofs.Tryz.prog laws_heldTransactionS_C := hc_of g_tisOK g_wide (all_cons laws_heldReadMarkS_OK (all_cons laws_heldWriteS_OK all_nil))

theorem laws_heldTransactionS_lk2 : LkOK Go.Proofs.Tryz.prog laws_heldTransactionS_C (lpc Go.Proofs.Tryz.f35 0) :=
  lk_of laws_heldTransactionS_HC (m := 0) (T := laws_heldTransactionS_T2) (sp := laws_heldTransactionS_P2) (D := laws_heldTransactionS_D2) (E := laws_heldTransactionS_E2) (by kernel_rfl) (by kernel_rfl) (fun k hk => absurd hk (Nat.not_lt_zero k)) [1, 4] laws_heldTransactionS_M2 (fun x => rfl) laws_heldTransactionS_D2_nat laws_heldTransactionS_K2 (fun i p R K => by rcases p with p | p | p | p | p | p | p | p | p | p <;> rfl) (fun i v => by kernel_rfl)

theorem laws_heldTransactionS_OK : EntOK Go.Proofs.Tryz.prog laws_heldTransactionS_Ent := ok_of laws_heldTransactionS_HC Go.Proofs.Tryz.func35 1 (by kernel_rfl) (fun k hk => match k, hk with | 0, _ => laws_heldTransactionS_lk2) (by kernel_rfl) (by kernel_rfl) (fun x => by kernel_rfl)

/-! laws.heldLockS -/

abbrev laws_heldLockS_I2 : Type := List (Int × Int × Unit) × Unit

abbrev laws_heldLockS_V2 : Type := Int × Int × Unit

abbrev laws_heldLockS_Q2 : Type := Int × Unit ⊕ Int × Unit ⊕ Int × Unit

noncomputable def laws_heldLockS_D2 (i : laws_heldLockS_I2) (v : laws_heldLockS_V2) (R : Type) (K : laws_heldLockS_V2 ⊕ laws_heldLockS_Q2 → Option R) : Option R :=
  bif decide (v.2.1 < (↑(List.length i.1) : Int)) then Option.bind (lAt i.1 v.2.1) fun v_1 => bif v_1.1 != v.1 then K (Sum.inr (Sum.inl (v.1, ()))) else Option.bind (lAt i.1 v.2.1) fun v_2 => bif v_2.2.1 != IntKind.wrap IntKind.i64 (v.1 + 1)
  then K (Sum.inr (Sum.inr (Sum.inl (IntKind.wrap IntKind.i64 (v.1 + 1), ())))) else K (Sum.inl (IntKind.wrap IntKind.i64 (IntKind.wrap IntKind.i64 (v.1 + 1) + 1), IntKind.wrap IntKind.i64 (v.2.1 + 1), ())) else K (Sum.inr (Sum.inr (Sum.inr
  (v.1, ()))))

theorem laws_heldLockS_D2_nat : NatD laws_heldLockS_D2 := fun i v R K => nat_bif (nat_bind fun _ => nat_bif (nat_some) (nat_bind fun _ => nat_bif (nat_some) (nat_some))) (nat_some)

def laws_heldLockS_T2 : Tmpl := ⟨(.slot (Ty.slice YReadMark) (.slot Ty.i (jk 3 (.slot Ty.i (jk 25 .nil))))), .nil⟩

def laws_heldLockS_X2_0 (i : laws_heldLockS_I2) (p : Int × Unit) : St := ⟨jn 1 (.n (p.1) :: jn 2 (.n (-1) :: jn 26 ([]))), []⟩

def laws_heldLockS_X2_1 (i : laws_heldLockS_I2) (p : Int × Unit) : St := ⟨jn 1 (.n (p.1) :: jn 2 (.n (-1) :: jn 26 ([]))), []⟩

def laws_heldLockS_X2_2 (i : laws_heldLockS_I2) (p : Int × Unit) : St := ⟨jn 1 (.n (p.1) :: jn 29 ([])), []⟩

noncomputable def laws_heldLockS_E2 (i : laws_heldLockS_I2) (p : laws_heldLockS_Q2) (R : Type) (K : Ex → St → Option R) : Option R := sumC p (fun p => K (Ex.ret) (laws_heldLockS_X2_0 i p)) fun p => sumC p (fun p => K (Ex.ret) (laws_heldLockS_X2_1 i p)) fun p => K (Ex.exit 0) (laws_heldLockS_X2_2 i p)

noncomputable def laws_heldLockS_K2 (i : laws_heldLockS_I2) (p : laws_heldLockS_Q2) : Ex × St := sumC p (fun p => (Ex.ret, laws_heldLockS_X2_0 i p)) fun p => sumC p (fun p => (Ex.ret, laws_heldLockS_X2_1 i p)) fun p => (Ex.exit 0, laws_heldLockS_X2_2 i p)

def laws_heldLockS_M2 (i : laws_heldLockS_I2) (v : laws_heldLockS_V2) : den laws_heldLockS_T2.ty := (i.1, v.1, v.2.1, ())

def laws_heldLockS_P2 (x : den laws_heldLockS_T2.ty) : laws_heldLockS_I2 × laws_heldLockS_V2 := ((x.1, ()), (x.2.1, x.2.2.1, ()))

noncomputable def laws_heldLockS_C : Cfg := { ti := g_tis, ents := [], ann := [(2, loopFn laws_heldLockS_T2 0 laws_heldLockS_P2 laws_heldLockS_D2 laws_heldLockS_E2)], lent := 0 }

def laws_heldLockS_ti : Tmpl := ⟨(.slot (Ty.slice YReadMark) (.slot Ty.i .nil)), .nil⟩

def laws_heldLockS_to : Tmpl := ⟨(.slot Ty.i .nil), .nil⟩

noncomputable def laws_heldLockS_S (x : List (Int × Int × Unit) × Int × Unit) : Option (Int × Unit) :=
  Option.bind (iter (fun v => laws_heldLockS_D2 (x.1, ()) v _ some) (x.2.1, 0, ())) fun p => sumC p (fun p => some (-1, ())) fun p => sumC p (fun p => some (-1, ())) fun p => some (p.1, ())

noncomputable def laws_heldLockS_Ent : Ent := ⟨36, laws_heldLockS_ti, laws_heldLockS_to, laws_heldLockS_S⟩

theorem laws_heldLockS_HC : CfgOK Go.Proofs.Tryz.prog laws_heldLockS_C := hc_of g_tisOK g_wide all_nil

theorem laws_heldLockS_lk2 : LkOK Go.Proofs.Tryz.prog laws_heldLockS_C (lpc Go.Proofs.Tryz.f36 0) :=
  lk_of laws_heldLockS_HC (m := 0) (T := laws_heldLockS_T2) (sp := laws_heldLockS_P2) (D := laws_heldLockS_D2) (E := laws_heldLockS_E2) (by kernel_rfl) (by kernel_rfl) (fun k hk => absurd hk (Nat.not_lt_zero k)) [1, 4] laws_heldLockS_M2 (fun x => rfl) laws_heldLockS_D2_nat laws_heldLockS_K2 (fun i p R K => by rcases p with p | p | p <;> rfl) (fun i v => by kernel_rfl)

theorem laws_heldLockS_OK : EntOK Go.Proofs.Tryz.prog laws_heldLockS_Ent := ok_of laws_heldLockS_HC Go.Proofs.Tryz.func36 1 (by kernel_rfl) (fun k hk => match k, hk with | 0, _ => laws_heldLockS_lk2) (by kernel_rfl) (by kernel_rfl) (fun x => by kernel_rfl)

/-! laws.heldWaitS -/

abbrev laws_heldWaitS_I2 : Type := List (Int × Int × Unit) × Unit

abbrev laws_heldWaitS_V2 : Type := Int × Int × Unit

abbrev laws_heldWaitS_Q2 : Type := Int × Unit ⊕ Int × Unit ⊕ Int × Unit

noncomputable def laws_heldWaitS_D2 (i : laws_heldWaitS_I2) (v : laws_heldWaitS_V2) (R : Type) (K : laws_heldWaitS_V2 ⊕ laws_heldWaitS_Q2 → Option R) : Option R :=
  bif decide (v.2.1 < (↑(List.length i.1) : Int)) then Option.bind (lAt i.1 v.2.1) fun v_1 => bif v_1.1 != v.1 then K (Sum.inr (Sum.inl (v.1, ()))) else Option.bind (lAt i.1 v.2.1) fun v_2 => bif v_2.2.1 != IntKind.wrap IntKind.i64 (v.1 + 1)
  then K (Sum.inr (Sum.inr (Sum.inl (IntKind.wrap IntKind.i64 (v.1 + 1), ())))) else K (Sum.inl (IntKind.wrap IntKind.i64 (IntKind.wrap IntKind.i64 (v.1 + 1) + 1), IntKind.wrap IntKind.i64 (v.2.1 + 1), ())) else K (Sum.inr (Sum.inr (Sum.inr
  (v.1, ()))))

theorem laws_heldWaitS_D2_nat : NatD laws_heldWaitS_D2 := fun i v R K => nat_bif (nat_bind fun _ => nat_bif (nat_some) (nat_bind fun _ => nat_bif (nat_some) (nat_some))) (nat_some)

def laws_heldWaitS_T2 : Tmpl := ⟨(.slot (Ty.slice YReadMark) (.slot Ty.i (jk 3 (.slot Ty.i (jk 25 .nil))))), .nil⟩

def laws_heldWaitS_X2_0 (i : laws_heldWaitS_I2) (p : Int × Unit) : St := ⟨jn 1 (.n (p.1) :: jn 2 (.n (-1) :: jn 26 ([]))), []⟩

def laws_heldWaitS_X2_1 (i : laws_heldWaitS_I2) (p : Int × Unit) : St := ⟨jn 1 (.n (p.1) :: jn 2 (.n (-1) :: jn 26 ([]))), []⟩

def laws_heldWaitS_X2_2 (i : laws_heldWaitS_I2) (p : Int × Unit) : St := ⟨jn 1 (.n (p.1) :: jn 29 ([])), []⟩

noncomputable def laws_heldWaitS_E2 (i : laws_heldWaitS_I2) (p : laws_heldWaitS_Q2) (R : Type) (K : Ex → St → Option R) : Option R := sumC p (fun p => K (Ex.ret) (laws_heldWaitS_X2_0 i p)) fun p => sumC p (fun p => K (Ex.ret) (laws_heldWaitS_X2_1 i p)) fun p => K (Ex.exit 0) (laws_heldWaitS_X2_2 i p)

noncomputable def laws_heldWaitS_K2 (i : laws_heldWaitS_I2) (p : laws_heldWaitS_Q2) : Ex × St := sumC p (fun p => (Ex.ret, laws_heldWaitS_X2_0 i p)) fun p => sumC p (fun p => (Ex.ret, laws_heldWaitS_X2_1 i p)) fun p => (Ex.exit 0, laws_heldWaitS_X2_2 i p)

def laws_heldWaitS_M2 (i : laws_heldWaitS_I2) (v : laws_heldWaitS_V2) : den laws_heldWaitS_T2.ty := (i.1, v.1, v.2.1, ())

def laws_heldWaitS_P2 (x : den laws_heldWaitS_T2.ty) : laws_heldWaitS_I2 × laws_heldWaitS_V2 := ((x.1, ()), (x.2.1, x.2.2.1, ()))

noncomputable def laws_heldWaitS_C : Cfg := { ti := g_tis, ents := [], ann := [(2, loopFn laws_heldWaitS_T2 0 laws_heldWaitS_P2 laws_heldWaitS_D2 laws_heldWaitS_E2)], lent := 0 }

def laws_heldWaitS_ti : Tmpl := ⟨(.slot (Ty.slice YReadMark) (.slot Ty.i .nil)), .nil⟩

def laws_heldWaitS_to : Tmpl := ⟨(.slot Ty.i .nil), .nil⟩

noncomputable def laws_heldWaitS_S (x : List (Int × Int × Unit) × Int × Unit) : Option (Int × Unit) :=
  Option.bind (iter (fun v => laws_heldWaitS_D2 (x.1, ()) v _ some) (x.2.1, 0, ())) fun p => sumC p (fun p => some (-1, ())) fun p => sumC p (fun p => some (-1, ())) fun p => some (p.1, ())

noncomputable def laws_heldWaitS_Ent : Ent := ⟨37, laws_heldWaitS_ti, laws_heldWaitS_to, laws_heldWaitS_S⟩

theorem laws_heldWaitS_HC : CfgOK Go.Proofs.Tryz.prog laws_heldWaitS_C := hc_of g_tisOK g_wide all_nil

theorem laws_heldWaitS_lk2 : LkOK Go.Proofs.Tryz.prog laws_heldWaitS_C (lpc Go.Proofs.Tryz.f37 0) :=
  lk_of laws_heldWaitS_HC (m := 0) (T := laws_heldWaitS_T2) (sp := laws_heldWaitS_P2) (D := laws_heldWaitS_D2) (E := laws_heldWaitS_E2) (by kernel_rfl) (by kernel_rfl) (fun k hk => absurd hk (Nat.not_lt_zero k)) [1, 4] laws_heldWaitS_M2 (fun x => rfl) laws_heldWaitS_D2_nat laws_heldWaitS_K2 (fun i p R K => by rcases p with p | p | p <;> rfl) (fun i v => by kernel_rfl)

theorem laws_heldWaitS_OK : EntOK Go.Proofs.Tryz.prog laws_heldWaitS_Ent := ok_of laws_heldWaitS_HC Go.Proofs.Tryz.func37 1 (by kernel_rfl) (fun k hk => match k, hk with | 0, _ => laws_heldWaitS_lk2) (by kernel_rfl) (by kernel_rfl) (fun x => by kernel_rfl)

/-! laws.heldEngine -/

noncomputable def laws_heldEngine_C : Cfg := { ti := g_tis, ents := [laws_heldStore_Ent, laws_heldTransactionS_Ent, laws_heldLockS_Ent, laws_heldWaitS_Ent], ann := [], lent := 0 }

def laws_heldEngine_ti : Tmpl := ⟨(.slot (Ty.prod Ty.bool (Ty.prod YStore (Ty.prod
  (Ty.slice (Ty.prod Ty.i (Ty.prod Ty.i (Ty.prod Ty.i (Ty.prod Ty.i (Ty.prod Ty.i (Ty.prod Ty.i (Ty.prod Ty.i (Ty.prod (Ty.slice
  YReadMark) (Ty.prod (Ty.slice YReadMark) Ty.unit)))))))))) (Ty.prod (Ty.slice (Ty.prod Ty.i (Ty.prod
  Ty.i Ty.unit))) (Ty.prod (Ty.slice YReadMark) (Ty.prod Ty.i Ty.unit)))))) (.slot Ty.i .nil)), .nil⟩

def laws_heldEngine_to : Tmpl := ⟨(.slot Ty.i .nil), .nil⟩

noncomputable def laws_heldEngine_S (x : (Bool × (List (List (Int × Int × Int × Int × Int × Unit)) × Unit) × List (Int × Int × Int × Int × Int × Int × Int × List (Int × Int × Unit) × List (Int × Int × Unit) × Unit) × List (Int × Int × Unit) × List (Int × Int × Unit) × Int × Unit) ×
  Int × Unit) : Option (Int × Unit) :=
  Option.bind (laws_heldStore_S ((x.1.2.1.1, ()), x.2.1, ())) fun v => bif decide (v.1 < 0) then some (-1, ()) else Option.bind (laws_heldTransactionS_S (x.1.2.2.1, v.1, ())) fun v => bif decide (v.1 < 0) then some (-1, ()) else Option.bind
  (laws_heldLockS_S (x.1.2.2.2.1, v.1, ())) fun v => bif decide (v.1 < 0) then some (-1, ()) else Option.bind (laws_heldWaitS_S (x.1.2.2.2.2.1, v.1, ())) fun v => bif decide (v.1 < 0) then some (-1, ()) else some (v.1, ())

noncomputable def laws_heldEngine_Ent : Ent := ⟨10, laws_heldEngine_ti, laws_heldEngine_to, laws_heldEngine_S⟩

theorem laws_heldEngine_HC : CfgOK Go.Proofs.Tryz.prog laws_heldEngine_C := hc_of g_tisOK g_wide (all_cons laws_heldStore_OK (all_cons laws_heldTransactionS_OK (all_cons laws_heldLockS_OK (all_cons laws_heldWaitS_OK all_nil))))

theorem laws_heldEngine_OK : EntOK Go.Proofs.Tryz.prog laws_heldEngine_Ent := ok_of laws_heldEngine_HC Go.Proofs.Tryz.func10 0 (by kernel_rfl) (fun k hk => absurd hk (Nat.not_lt_zero k)) (by kernel_rfl) (by kernel_rfl) (fun x => by kernel_rfl)

/-! laws.FnExactCollectVersions -/

noncomputable def laws_FnExactCollectVersions_C : Cfg := { ti := g_tis, ents := [laws_markEngine_l_Ent, laws_szEngine_Ent, laws_toEngine_Ent, spec_CollectVersions_Ent, impl_CollectVersions_Ent, laws_eqEngine_Ent, laws_heldEngine_Ent], ann := [], lent := 0 }

def laws_FnExactCollectVersions_ti : Tmpl := ⟨(.slot (Ty.prod Ty.bool (Ty.prod YStore (Ty.prod
  (Ty.slice (Ty.prod Ty.i (Ty.prod Ty.i (Ty.prod Ty.i (Ty.prod Ty.i (Ty.prod Ty.i (Ty.prod Ty.i (Ty.prod Ty.i (Ty.prod (Ty.slice
  YReadMark) (Ty.prod (Ty.slice YReadMark) Ty.unit)))))))))) (Ty.prod (Ty.slice (Ty.prod Ty.i (Ty.prod
  Ty.i Ty.unit))) (Ty.prod (Ty.slice YReadMark) (Ty.prod Ty.i Ty.unit)))))) .nil), .nil⟩

def laws_FnExactCollectVersions_to : Tmpl := ⟨(.slot (Ty.bool) .nil), .nil⟩

noncomputable def laws_FnExactCollectVersions_S (x : (Bool × (List (List (Int × Int × Int × Int × Int × Unit)) × Unit) × List (Int × Int × Int × Int × Int × Int × Int × List (Int × Int × Unit) × List (Int × Int × Unit) × Unit) × List (Int × Int × Unit) × List (Int × Int × Unit) × Int × Unit) ×
  Unit) : Option (Bool × Unit) :=
  Option.bind (laws_szEngine_S ((x.1.1, (x.1.2.1.1, ()), x.1.2.2.1, x.1.2.2.2.1, x.1.2.2.2.2.1, x.1.2.2.2.2.2.1, ()), 1048576, ())) fun v => bif decide (v.1 < 0) then some (true, ()) else Option.bind (laws_toEngine_S ((x.1.1, (x.1.2.1.1, ()),
  x.1.2.2.1, x.1.2.2.2.1, x.1.2.2.2.2.1, x.1.2.2.2.2.2.1, ()), ())) fun v => Option.bind (spec_CollectVersions_S ((v.1, (v.2.2.1, ()), v.2.2.2.1, v.2.2.2.2.1, v.2.2.2.2.2.1, v.2.1, ()), ())) fun v => Option.bind (laws_toEngine_S ((x.1.1,
  (x.1.2.1.1, ()), x.1.2.2.1, x.1.2.2.2.1, x.1.2.2.2.2.1, x.1.2.2.2.2.2.1, ()), ())) fun v_1 => Option.bind (impl_CollectVersions_S ((v_1.1, (v_1.2.2.1, ()), v_1.2.2.2.1, v_1.2.2.2.2.1, v_1.2.2.2.2.2.1, v_1.2.1, ()), ())) fun v_2 =>
  Option.bind (laws_eqEngine_S ((v_2.1, (v_2.2.2.2.1, ()), v_2.2.2.2.2.1, v_2.2.2.2.2.2.1, v_2.2.2.2.2.2.2.1, v_2.2.1, ()), (v.1, (v.2.2.2.1, ()), v.2.2.2.2.1, v.2.2.2.2.2.1, v.2.2.2.2.2.2.1, v.2.1, ()), ())) fun v_3 => bif !v_3.1 then some
  (false, ()) else bif v_2.2.2.1 != v.2.2.1 then some (false, ()) else Option.bind (laws_toEngine_S ((x.1.1, (x.1.2.1.1, ()), x.1.2.2.1, x.1.2.2.2.1, x.1.2.2.2.2.1, x.1.2.2.2.2.2.1, ()), ())) fun v_4 => Option.bind (laws_eqEngine_S ((v_1.1,
  (v_1.2.2.1, ()), v_1.2.2.2.1, v_1.2.2.2.2.1, v_1.2.2.2.2.2.1, v_1.2.1, ()), (v_4.1, (v_4.2.2.1, ()), v_4.2.2.2.1, v_4.2.2.2.2.1, v_4.2.2.2.2.2.1, v_4.2.1, ()), ())) fun v_5 => bif !v_5.1 then some (false, ()) else Option.bind
  (laws_markEngine_l_S (v_1.1, v_1.2.1, 1, v_1.2.2.1, v_1.2.2.2.1, v_1.2.2.2.2.1, v_1.2.2.2.2.2.1, ())) fun v_6 => bif decide (v_6.1 < 0) then some (false, ()) else Option.bind (laws_eqEngine_S ((v_2.1, (v_2.2.2.2.1, ()), v_2.2.2.2.2.1,
  v_2.2.2.2.2.2.1, v_2.2.2.2.2.2.2.1, v_2.2.1, ()), (v.1, (v.2.2.2.1, ()), v.2.2.2.2.1, v.2.2.2.2.2.1, v.2.2.2.2.2.2.1, v.2.1, ()), ())) fun v_7 => bif !v_7.1 then some (false, ()) else bif v_2.2.2.1 != v.2.2.1 then some (false, ()) else
  Option.bind (laws_markEngine_l_S (v_2.1, v_2.2.1, 1, v_2.2.2.2.1, v_2.2.2.2.2.1, v_2.2.2.2.2.2.1, v_2.2.2.2.2.2.2.1, ())) fun v_8 => Option.bind (laws_heldEngine_S ((v_2.1, (v_8.2.1, ()), v_8.2.2.1, v_8.2.2.2.1, v_8.2.2.2.2.1, v_2.2.1, ()),
  1, ())) fun v_9 => bif decide (v_9.1 < 0) then some (false, ()) else bif v_9.1 != v_8.1 then some (false, ()) else Option.bind (laws_toEngine_S ((x.1.1, (x.1.2.1.1, ()), x.1.2.2.1, x.1.2.2.2.1, x.1.2.2.2.2.1, x.1.2.2.2.2.2.1, ()), ())) fun
  v_10 => Option.bind (impl_CollectVersions_S ((v_10.1, (v_10.2.2.1, ()), v_10.2.2.2.1, v_10.2.2.2.2.1, v_10.2.2.2.2.2.1, v_10.2.1, ()), ())) fun v_11 => Option.bind (laws_eqEngine_S ((v_11.1, (v_11.2.2.2.1, ()), v_11.2.2.2.2.1,
  v_11.2.2.2.2.2.1, v_11.2.2.2.2.2.2.1, v_11.2.1, ()), (v.1, (v.2.2.2.1, ()), v.2.2.2.2.1, v.2.2.2.2.2.1, v.2.2.2.2.2.2.1, v.2.1, ()), ())) fun v_12 => bif !v_12.1 then some (false, ()) else bif v_11.2.2.1 != v.2.2.1 then some (false, ()) else
  Option.bind (laws_heldEngine_S ((v_2.1, (v_8.2.1, ()), v_8.2.2.1, v_8.2.2.2.1, v_8.2.2.2.2.1, v_2.2.1, ()), 1, ())) fun v => bif decide (v.1 < 0) then some (false, ()) else bif v.1 != v_8.1 then some (false, ()) else some (true, ())

noncomputable def laws_FnExactCollectVersions_Ent : Ent := ⟨3, laws_FnExactCollectVersions_ti, laws_FnExactCollectVersions_to, laws_FnExactCollectVersions_S⟩

theorem laws_FnExactCollectVersions_HC : CfgOK Go.Proofs.Tryz.prog laws_FnExactCollectVersions_C := hc_of g_tisOK g_wide (all_cons laws_markEngine_l_OK (all_cons laws_szEngine_OK (all_cons laws_toEngine_OK (all_cons spec_CollectVersions_OK (all_cons impl_CollectVersions_OK (all_cons laws_eqEngine_OK (all_cons laws_heldEngine_OK all_nil)))))))

theorem laws_FnExactCollectVersions_OK : EntOK Go.Proofs.Tryz.prog laws_FnExactCollectVersions_Ent := ok_of laws_FnExactCollectVersions_HC Go.Proofs.Tryz.func3 0 (by kernel_rfl) (fun k hk => absurd hk (Nat.not_lt_zero k)) (by kernel_rfl) (by kernel_rfl) (fun x => by kernel_rfl)

end Go.Ab
