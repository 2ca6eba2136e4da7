import Derived.Test.YtaefbkkplgaplaaGreatHd
set_option maxRecDepth 100000
set_option linter.unusedVariables false
namespace Go.Ab

/-! laws.szVersionS -/

noncomputable def laws_szVersionS_C : Cfg := { ti := g_tis, ents := [], ann := [], lent := 0 }

def laws_szVersionS_ti : Tmpl := ⟨(.slot (Ty.slice YVersion) (.slot Ty.i .nil)), .nil⟩

def laws_szVersionS_to : Tmpl := ⟨(.slot Ty.i .nil), .nil⟩

noncomputable def laws_szVersionS_S (x : List (Int × Int × Int × Int × Int × Unit) × Int × Unit) : Option (Int × Unit) :=
  bif decide (IntKind.wrap IntKind.i64 (x.2.1 - (↑(List.length x.1) : Int)) < 0) then some (-1, ()) else some (IntKind.wrap IntKind.i64 (x.2.1 - (↑(List.length x.1) : Int)), ())

noncomputable def laws_szVersionS_Ent : Ent := ⟨87, laws_szVersionS_ti, laws_szVersionS_to, laws_szVersionS_S⟩

theorem laws_szVersionS_HC : CfgOK Go.Proofs.Tryz.prog laws_szVersionS_C := hc_of g_tisOK g_wide all_nil

theorem laws_szVersionS_OK : EntOK Go.Proofs.Tryz.prog laws_szVersionS_Ent := ok_of laws_szVersionS_HC Go.Proofs.Tryz.func87 0 (by kernel_rfl) (fun k hk => absurd hk (Nat.not_lt_zero k)) (by kernel_rfl) (by kernel_rfl) (fun x => by kernel_rfl)

/-! laws.szVersionSS -/

abbrev laws_szVersionSS_I5 : Type := List (List (Int × Int × Int × Int × Int × Unit)) × Unit

abbrev laws_szVersionSS_V5 : Type := Int × Int × Unit

abbrev laws_szVersionSS_Q5 : Type := Int × Unit ⊕ Int × Unit

noncomputable def laws_szVersionSS_D5 (i : laws_szVersionSS_I5) (v : laws_szVersionSS_V5) (R : Type) (K : laws_szVersionSS_V5 ⊕ laws_szVersionSS_Q5 → Option R) : Option R :=
  bif decide (v.2.1 < (↑(List.length i.1) : Int)) then Option.bind (lAt i.1 v.2.1) fun v_1 => Option.bind (laws_szVersionS_S (v_1, v.1, ())) fun v_2 => bif decide (v_2.1 < 0) then K (Sum.inr (Sum.inl (v_2.1, ()))) else K (Sum.inl (v_2.1,
  IntKind.wrap IntKind.i64 (v.2.1 + 1), ())) else K (Sum.inr (Sum.inr (v.1, ())))

theorem laws_szVersionSS_D5_nat : NatD laws_szVersionSS_D5 := fun i v R K => nat_bif (nat_bind fun _ => nat_bind fun _ => nat_bif (nat_some) (nat_some)) (nat_some)

def laws_szVersionSS_T5 : Tmpl := ⟨(.slot (Ty.slice (Ty.slice YVersion)) (.slot Ty.i (jk 3 (.slot Ty.i (jk 21 .nil))))), .nil⟩

def laws_szVersionSS_X5_0 (i : laws_szVersionSS_I5) (p : Int × Unit) : St := ⟨jn 1 (.n (p.1) :: jn 2 (.n (-1) :: jn 22 ([]))), []⟩

def laws_szVersionSS_X5_1 (i : laws_szVersionSS_I5) (p : Int × Unit) : St := ⟨jn 1 (.n (p.1) :: jn 25 ([])), []⟩

noncomputable def laws_szVersionSS_E5 (i : laws_szVersionSS_I5) (p : laws_szVersionSS_Q5) (R : Type) (K : Ex → St → Option R) : Option R := sumC p (fun p => K (Ex.ret) (laws_szVersionSS_X5_0 i p)) fun p => K (Ex.exit 0) (laws_szVersionSS_X5_1 i p)

noncomputable def laws_szVersionSS_K5 (i : laws_szVersionSS_I5) (p : laws_szVersionSS_Q5) : Ex × St := sumC p (fun p => (Ex.ret, laws_szVersionSS_X5_0 i p)) fun p => (Ex.exit 0, laws_szVersionSS_X5_1 i p)

def laws_szVersionSS_M5 (i : laws_szVersionSS_I5) (v : laws_szVersionSS_V5) : den laws_szVersionSS_T5.ty := (i.1, v.1, v.2.1, ())

def laws_szVersionSS_P5 (x : den laws_szVersionSS_T5.ty) : laws_szVersionSS_I5 × laws_szVersionSS_V5 := ((x.1, ()), (x.2.1, x.2.2.1, ()))

noncomputable def laws_szVersionSS_C : Cfg := { ti := g_tis, ents := [laws_szVersionS_Ent], ann := [(5, loopFn laws_szVersionSS_T5 0 laws_szVersionSS_P5 laws_szVersionSS_D5 laws_szVersionSS_E5)], lent := 0 }

def laws_szVersionSS_ti : Tmpl := ⟨(.slot (Ty.slice (Ty.slice YVersion)) (.slot Ty.i .nil)), .nil⟩

def laws_szVersionSS_to : Tmpl := ⟨(.slot Ty.i .nil), .nil⟩

noncomputable def laws_szVersionSS_S (x : List (List (Int × Int × Int × Int × Int × Unit)) × Int × Unit) : Option (Int × Unit) :=
  bif decide (IntKind.wrap IntKind.i64 (x.2.1 - (↑(List.length x.1) : Int)) < 0) then some (-1, ()) else Option.bind (iter (fun v => laws_szVersionSS_D5 (x.1, ()) v _ some) (IntKind.wrap IntKind.i64 (x.2.1 - (↑(List.length x.1) :
  Int)), 0, ())) fun p => sumC p (fun p => some (-1, ())) fun p => some (p.1, ())

noncomputable def laws_szVersionSS_Ent : Ent := ⟨38, laws_szVersionSS_ti, laws_szVersionSS_to, laws_szVersionSS_S⟩

theorem laws_szVersionSS_HC : CfgOK Go.Proofs.Tryz.prog laws_szVersionSS_C := hc_of g_tisOK g_wide (all_cons laws_szVersionS_OK all_nil)

theorem laws_szVersionSS_lk5 : LkOK Go.Proofs.Tryz.prog laws_szVersionSS_C (lpc Go.Proofs.Tryz.f38 0) :=
  lk_of laws_szVersionSS_HC (m := 0) (T := laws_szVersionSS_T5) (sp := laws_szVersionSS_P5) (D := laws_szVersionSS_D5) (E := laws_szVersionSS_E5) (by kernel_rfl) (by kernel_rfl) (fun k hk => absurd hk (Nat.not_lt_zero k)) [1, 4] laws_szVersionSS_M5 (fun x => rfl) laws_szVersionSS_D5_nat laws_szVersionSS_K5 (fun i p R K => by rcases p with p | p <;> rfl) (fun i v => by kernel_rfl)

theorem laws_szVersionSS_OK : EntOK Go.Proofs.Tryz.prog laws_szVersionSS_Ent := ok_of laws_szVersionSS_HC Go.Proofs.Tryz.func38 1 (by kernel_rfl) (fun k hk => match k, hk with | 0, _ => laws_szVersionSS_lk5) (by kernel_rfl) (by kernel_rfl) (fun x => by kernel_rfl)

/-! laws.szStore -/

noncomputable def laws_szStore_C : Cfg := { ti := g_tis, ents := [laws_szVersionSS_Ent], ann := [], lent := 0 }

def laws_szStore_ti : Tmpl := ⟨(.slot YStore (.slot Ty.i .nil)), .nil⟩

def laws_szStore_to : Tmpl := ⟨(.slot Ty.i .nil), .nil⟩

noncomputable def laws_szStore_S (x : (List (List (Int × Int × Int × Int × Int × Unit)) × Unit) × Int × Unit) : Option (Int × Unit) :=
  Option.bind (laws_szVersionSS_S (x.1.1, x.2.1, ())) fun v => bif decide (v.1 < 0) then some (-1, ()) else some (v.1, ())

noncomputable def laws_szStore_Ent : Ent := ⟨11, laws_szStore_ti, laws_szStore_to, laws_szStore_S⟩

theorem laws_szStore_HC : CfgOK Go.Proofs.Tryz.prog laws_szStore_C := hc_of g_tisOK g_wide (all_cons laws_szVersionSS_OK all_nil)

theorem laws_szStore_OK : EntOK Go.Proofs.Tryz.prog laws_szStore_Ent := ok_of laws_szStore_HC Go.Proofs.Tryz.func11 0 (by kernel_rfl) (fun k hk => absurd hk (Nat.not_lt_zero k)) (by kernel_rfl) (by kernel_rfl) (fun x => by kernel_rfl)

/-! laws.szReadMarkS -/

noncomputable def laws_szReadMarkS_C : Cfg := { ti := g_tis, ents := [], ann := [], lent := 0 }

def laws_szReadMarkS_ti : Tmpl := ⟨(.slot (Ty.slice YReadMark) (.slot Ty.i .nil)), .nil⟩

def laws_szReadMarkS_to : Tmpl := ⟨(.slot Ty.i .nil), .nil⟩

noncomputable def laws_szReadMarkS_S (x : List (Int × Int × Unit) × Int × Unit) : Option (Int × Unit) :=
  bif decide (IntKind.wrap IntKind.i64 (x.2.1 - (↑(List.length x.1) : Int)) < 0) then some (-1, ()) else some (IntKind.wrap IntKind.i64 (x.2.1 - (↑(List.length x.1) : Int)), ())

noncomputable def laws_szReadMarkS_Ent : Ent := ⟨88, laws_szReadMarkS_ti, laws_szReadMarkS_to, laws_szReadMarkS_S⟩

theorem laws_szReadMarkS_HC : CfgOK Go.Proofs.Tryz.prog laws_szReadMarkS_C := hc_of g_tisOK g_wide all_nil

theorem laws_szReadMarkS_OK : EntOK Go.Proofs.Tryz.prog laws_szReadMarkS_Ent := ok_of laws_szReadMarkS_HC Go.Proofs.Tryz.func88 0 (by kernel_rfl) (fun k hk => absurd hk (Nat.not_lt_zero k)) (by kernel_rfl) (by kernel_rfl) (fun x => by kernel_rfl)

/-! laws.szWriteS -/

noncomputable def laws_szWriteS_C : Cfg := { ti := g_tis, ents := [], ann := [], lent := 0 }

def laws_szWriteS_ti : Tmpl := ⟨(.slot (Ty.slice YReadMark) (.slot Ty.i .nil)), .nil⟩

def laws_szWriteS_to : Tmpl := ⟨(.slot Ty.i .nil), .nil⟩

noncomputable def laws_szWriteS_S (x : List (Int × Int × Unit) × Int × Unit) : Option (Int × Unit) :=
  bif decide (IntKind.wrap IntKind.i64 (x.2.1 - (↑(List.length x.1) : Int)) < 0) then some (-1, ()) else some (IntKind.wrap IntKind.i64 (x.2.1 - (↑(List.length x.1) : Int)), ())

noncomputable def laws_szWriteS_Ent : Ent := ⟨89, laws_szWriteS_ti, laws_szWriteS_to, laws_szWriteS_S⟩

theorem laws_szWriteS_HC : CfgOK Go.Proofs.Tryz.prog laws_szWriteS_C := hc_of g_tisOK g_wide all_nil

theorem laws_szWriteS_OK : EntOK Go.Proofs.Tryz.prog laws_szWriteS_Ent := ok_of laws_szWriteS_HC Go.Proofs.Tryz.func89 0 (by kernel_rfl) (fun k hk => absurd hk (Nat.not_lt_zero k)) (by kernel_rfl) (by kernel_rfl) (fun x => by kernel_rfl)

/-! laws.szTransaction -/

noncomputable def laws_szTransaction_C : Cfg := { ti := g_tis, ents := [laws_szReadMarkS_Ent, laws_szWriteS_Ent], ann := [], lent := 0 }

def laws_szTransaction_ti : Tmpl := ⟨(.slot (Ty.prod Ty.i (Ty.prod Ty.i (Ty.prod Ty.i (Ty.prod Ty.i (Ty.prod Ty.i (Ty.prod Ty.i (Ty.prod Ty.i (Ty.prod (Ty.slice (Ty.prod
  Ty.i (Ty.prod Ty.i Ty.unit))) (Ty.prod (Ty.slice YReadMark) Ty.unit))))))))) (.slot Ty.i .nil)), .nil⟩

def laws_szTransaction_to : Tmpl := ⟨(.slot Ty.i .nil), .nil⟩

noncomputable def laws_szTransaction_S (x : (Int × Int × Int × Int × Int × Int × Int × List (Int × Int × Unit) × List (Int × Int × Unit) × Unit) × Int × Unit) : Option (Int × Unit) :=
  Option.bind (laws_szReadMarkS_S (x.1.2.2.2.2.2.2.2.1, x.2.1, ())) fun v => bif decide (v.1 < 0) then some (-1, ()) else Option.bind (laws_szWriteS_S (x.1.2.2.2.2.2.2.2.2.1, v.1, ())) fun v => bif decide (v.1 < 0) then some (-1, ()) else some
  (v.1, ())

noncomputable def laws_szTransaction_Ent : Ent := ⟨39, laws_szTransaction_ti, laws_szTransaction_to, laws_szTransaction_S⟩

theorem laws_szTransaction_HC : CfgOK Go.Proofs.Tryz.prog laws_szTransaction_C := hc_of g_tisOK g_wide (all_cons laws_szReadMarkS_OK (all_cons laws_szWriteS_OK all_nil))

theorem laws_szTransaction_OK : EntOK Go.Proofs.Tryz.prog laws_szTransaction_Ent := ok_of laws_szTransaction_HC Go.Proofs.Tryz.func39 0 (by kernel_rfl) (fun k hk => absurd hk (Nat.not_lt_zero k)) (by kernel_rfl) (by kernel_rfl) (fun x => by kernel_rfl)

/-! laws.szTransactionS -/

abbrev laws_szTransactionS_I5 : Type := List (Int × Int × Int × Int × Int × Int × Int × List (Int × Int × Unit) × List (Int × Int × Unit) × Unit) × Unit

abbrev laws_szTransactionS_V5 : Type := Int × Int × Unit

abbrev laws_szTransactionS_Q5 : Type := Int × Unit ⊕ Int × Unit

noncomputable def laws_szTransactionS_D5 (i : laws_szTransactionS_I5) (v : laws_szTransactionS_V5) (R : Type) (K : laws_szTransactionS_V5 ⊕ laws_szTransactionS_Q5 → Option R) : Option R :=
  bif decide (v.2.1 < (↑(List.length i.1) : Int)) then Option.bind (lAt i.1 v.2.1) fun v_1 => Option.bind (laws_szTransaction_S ((v_1.1, v_1.2.1, v_1.2.2.1, v_1.2.2.2.1, v_1.2.2.2.2.1, v_1.2.2.2.2.2.1, v_1.2.2.2.2.2.2.1, v_1.2.2.2.2.2.2.2.1,
  v_1.2.2.2.2.2.2.2.2.1, ()), v.1, ())) fun v_2 => bif decide (v_2.1 < 0) then K (Sum.inr (Sum.inl (v_2.1, ()))) else K (Sum.inl (v_2.1, IntKind.wrap IntKind.i64 (v.2.1 + 1), ())) else K (Sum.inr (Sum.inr (v.1, ())))

theorem laws_szTransactionS_D5_nat : NatD laws_szTransactionS_D5 := fun i v R K => nat_bif (nat_bind fun _ => nat_bind fun _ => nat_bif (nat_some) (nat_some)) (nat_some)

def laws_szTransactionS_T5 : Tmpl := ⟨(.slot (Ty.slice (Ty.prod Ty.i (Ty.prod Ty.i (Ty.prod Ty.i (Ty.prod Ty.i (Ty.prod Ty.i (Ty.prod Ty.i (Ty.prod Ty.i (Ty.prod (Ty.slice
  YReadMark) (Ty.prod (Ty.slice YReadMark) Ty.unit)))))))))) (.slot Ty.i (jk 3 (.slot Ty.i (jk 21 .nil))))), .nil⟩

def laws_szTransactionS_X5_0 (i : laws_szTransactionS_I5) (p : Int × Unit) : St := ⟨jn 1 (.n (p.1) :: jn 2 (.n (-1) :: jn 22 ([]))), []⟩

def laws_szTransactionS_X5_1 (i : laws_szTransactionS_I5) (p : Int × Unit) : St := ⟨jn 1 (.n (p.1) :: jn 25 ([])), []⟩

noncomputable def laws_szTransactionS_E5 (i : laws_szTransactionS_I5) (p : laws_szTransactionS_Q5) (R : Type) (K : Ex → St → Option R) : Option R := sumC p (fun p => K (Ex.ret) (laws_szTransactionS_X5_0 i p)) fun p => K (Ex.exit 0) (laws_szTransactionS_X5_1 i p)

noncomputable def laws_szTransactionS_K5 (i : laws_szTransactionS_I5) (p : laws_szTransactionS_Q5) : Ex × St := sumC p (fun p => (Ex.ret, laws_szTransactionS_X5_0 i p)) fun p => (Ex.exit 0, laws_szTransactionS_X5_1 i p)

def laws_szTransactionS_M5 (i : laws_szTransactionS_I5) (v : laws_szTransactionS_V5) : den laws_szTransactionS_T5.ty := (i.1, v.1, v.2.1, ())

def laws_szTransactionS_P5 (x : den laws_szTransactionS_T5.ty) : laws_szTransactionS_I5 × laws_szTransactionS_V5 := ((x.1, ()), (x.2.1, x.2.2.1, ()))

noncomputable def laws_szTransactionS_C : Cfg := { ti := g_tis, ents := [laws_szTransaction_Ent], ann := [(5, loopFn laws_szTransactionS_T5 0 laws_szTransactionS_P5 laws_szTransactionS_D5 laws_szTransactionS_E5)], lent := 0 }

def laws_szTransactionS_ti : Tmpl := ⟨(.slot (Ty.slice (Ty.prod Ty.i (Ty.prod Ty.i (Ty.prod Ty.i (Ty.prod Ty.i (Ty.prod Ty.i (Ty.prod Ty.i (Ty.prod Ty.i (Ty.prod (Ty.slice
  YReadMark) (Ty.prod (Ty.slice YReadMark) Ty.unit)))))))))) (.slot Ty.i .nil)), .nil⟩

def laws_szTransactionS_to : Tmpl := ⟨(.slot Ty.i .nil), .nil⟩

noncomputable def laws_szTransactionS_S (x : List (Int × Int × Int × Int × Int × Int × Int × List (Int × Int × Unit) × List (Int × Int × Unit) × Unit) × Int × Unit) : Option (Int × Unit) :=
  bif decide (IntKind.wrap IntKind.i64 (x.2.1 - (↑(List.length x.1) : Int)) < 0) then some (-1, ()) else Option.bind (iter (fun v => laws_szTransactionS_D5 (x.1, ()) v _ some) (IntKind.wrap IntKind.i64 (x.2.1 - (↑(List.length x.1) :
  Int)), 0, ())) fun p => sumC p (fun p => some (-1, ())) fun p => some (p.1, ())

noncomputable def laws_szTransactionS_Ent : Ent := ⟨12, laws_szTransactionS_ti, laws_szTransactionS_to, laws_szTransactionS_S⟩

theorem laws_szTransactionS_HC : CfgOK Go.Proofs.Tryz.prog laws_szTransactionS_C := hc_of g_tisOK g_wide (all_cons laws_szTransaction_OK all_nil)

theorem laws_szTransactionS_lk5 : LkOK Go.Proofs.Tryz.prog laws_szTransactionS_C (lpc Go.Proofs.Tryz.f12 0) :=
  lk_of laws_szTransactionS_HC (m := 0) (T := laws_szTransactionS_T5) (sp := laws_szTransactionS_P5) (D := laws_szTransactionS_D5) (E := laws_szTransactionS_E5) (by kernel_rfl) (by kernel_rfl) (fun k hk => absurd hk (Nat.not_lt_zero k)) [1, 4] laws_szTransactionS_M5 (fun x => rfl) laws_szTransactionS_D5_nat laws_szTransactionS_K5 (fun i p R K => by rcases p with p | p <;> rfl) (fun i v => by kernel_rfl)

theorem laws_szTransactionS_OK : EntOK Go.Proofs.Tryz.prog laws_szTransactionS_Ent := ok_of laws_szTransactionS_HC Go.Proofs.Tryz.func12 1 (by kernel_rfl) (fun k hk => match k, hk with | 0, _ => laws_szTransactionS_lk5) (by kernel_rfl) (by kernel_rfl) (fun x => by kernel_rfl)

/-! laws.szLockS -/

noncomputable def laws_szLockS_C : Cfg := { ti := g_tis, ents := [], ann := [], lent := 0 }

def laws_szLockS_ti : Tmpl := ⟨(.slot (Ty.slice YReadMark) (.slot Ty.i .nil)), .nil⟩

def laws_szLockS_to : Tmpl := ⟨(.slot Ty.i .nil), .nil⟩

noncomputable def laws_szLockS_S (x : List (Int × Int × Unit) × Int × Unit) : Option (Int × Unit) :=
  bif decide (IntKind.wrap IntKind.i64 (x.2.1 - (↑(List.length x.1) : Int)) < 0) then some (-1, ()) else some (IntKind.wrap IntKind.i64 (x.2.1 - (↑(List.length x.1) : Int)), ())

noncomputable def laws_szLockS_Ent : Ent := ⟨13, laws_szLockS_ti, laws_szLockS_to, laws_szLockS_S⟩

theorem laws_szLockS_HC : CfgOK Go.Proofs.Tryz.prog laws_szLockS_C := hc_of g_tisOK g_wide all_nil

theorem laws_szLockS_OK : EntOK Go.Proofs.Tryz.prog laws_szLockS_Ent := ok_of laws_szLockS_HC Go.Proofs.Tryz.func13 0 (by kernel_rfl) (fun k hk => absurd hk (Nat.not_lt_zero k)) (by kernel_rfl) (by kernel_rfl) (fun x => by kernel_rfl)

/-! laws.szWaitS -/

noncomputable def laws_szWaitS_C : Cfg := { ti := g_tis, ents := [], ann := [], lent := 0 }

def laws_szWaitS_ti : Tmpl := ⟨(.slot (Ty.slice YReadMark) (.slot Ty.i .nil)), .nil⟩

def laws_szWaitS_to : Tmpl := ⟨(.slot Ty.i .nil), .nil⟩

noncomputable def laws_szWaitS_S (x : List (Int × Int × Unit) × Int × Unit) : Option (Int × Unit) :=
  bif decide (IntKind.wrap IntKind.i64 (x.2.1 - (↑(List.length x.1) : Int)) < 0) then some (-1, ()) else some (IntKind.wrap IntKind.i64 (x.2.1 - (↑(List.length x.1) : Int)), ())

noncomputable def laws_szWaitS_Ent : Ent := ⟨14, laws_szWaitS_ti, laws_szWaitS_to, laws_szWaitS_S⟩

theorem laws_szWaitS_HC : CfgOK Go.Proofs.Tryz.prog laws_szWaitS_C := hc_of g_tisOK g_wide all_nil

theorem laws_szWaitS_OK : EntOK Go.Proofs.Tryz.prog laws_szWaitS_Ent := ok_of laws_szWaitS_HC Go.Proofs.Tryz.func14 0 (by kernel_rfl) (fun k hk => absurd hk (Nat.not_lt_zero k)) (by kernel_rfl) (by kernel_rfl) (fun x => by kernel_rfl)

/-! laws.szEngine -/

noncomputable def laws_szEngine_C : Cfg := { ti := g_tis, ents := [laws_szStore_Ent, laws_szTransactionS_Ent, laws_szLockS_Ent, laws_szWaitS_Ent], ann := [], lent := 0 }

def laws_szEngine_ti : Tmpl := ⟨(.slot (Ty.prod Ty.bool (Ty.prod YStore (Ty.prod
  (Ty.slice (Ty.prod Ty.i (Ty.prod Ty.i (Ty.prod Ty.i (Ty.prod Ty.i (Ty.prod Ty.i (Ty.prod Ty.i (Ty.prod Ty.i (Ty.prod (Ty.slice
  YReadMark) (Ty.prod (Ty.slice YReadMark) Ty.unit)))))))))) (Ty.prod (Ty.slice (Ty.prod Ty.i (Ty.prod
  Ty.i Ty.unit))) (Ty.prod (Ty.slice YReadMark) (Ty.prod Ty.i Ty.unit)))))) (.slot Ty.i .nil)), .nil⟩

def laws_szEngine_to : Tmpl := ⟨(.slot Ty.i .nil), .nil⟩

noncomputable def laws_szEngine_S (x : (Bool × (List (List (Int × Int × Int × Int × Int × Unit)) × Unit) × List (Int × Int × Int × Int × Int × Int × Int × List (Int × Int × Unit) × List (Int × Int × Unit) × Unit) × List (Int × Int × Unit) × List (Int × Int × Unit) × Int × Unit) ×
  Int × Unit) : Option (Int × Unit) :=
  Option.bind (laws_szStore_S ((x.1.2.1.1, ()), x.2.1, ())) fun v => bif decide (v.1 < 0) then some (-1, ()) else Option.bind (laws_szTransactionS_S (x.1.2.2.1, v.1, ())) fun v => bif decide (v.1 < 0) then some (-1, ()) else Option.bind
  (laws_szLockS_S (x.1.2.2.2.1, v.1, ())) fun v => bif decide (v.1 < 0) then some (-1, ()) else Option.bind (laws_szWaitS_S (x.1.2.2.2.2.1, v.1, ())) fun v => bif decide (v.1 < 0) then some (-1, ()) else some (v.1, ())

noncomputable def laws_szEngine_Ent : Ent := ⟨4, laws_szEngine_ti, laws_szEngine_to, laws_szEngine_S⟩

theorem laws_szEngine_HC : CfgOK Go.Proofs.Tryz.prog laws_szEngine_C := hc_of g_tisOK g_wide (all_cons laws_szStore_OK (all_cons laws_szTransactionS_OK (all_cons laws_szLockS_OK (all_cons laws_szWaitS_OK all_nil))))

theorem laws_szEngine_OK : EntOK Go.Proofs.Tryz.prog laws_szEngine_Ent := ok_of laws_szEngine_HC Go.Proofs.Tryz.func4 0 (by kernel_rfl) (fun k hk => absurd hk (Nat.not_lt_zero k)) (by kernel_rfl) (by kernel_rfl) (fun x => by kernel_rfl)

/-! laws.toVersion -/

noncomputable def laws_toVersion_C : Cfg := { ti := g_tis, ents := [], ann := [], lent := 0 }

def laws_toVersion_ti : Tmpl := ⟨(.slot YVersion .nil), .nil⟩

def laws_toVersion_to : Tmpl := ⟨(.agg (.slot Ty.i (.slot Ty.i (.slot Ty.i (.slot Ty.i (.slot Ty.i .nil))))) .nil), .nil⟩

noncomputable def laws_toVersion_S (x : (Int × Int × Int × Int × Int × Unit) × Unit) : Option (Int × Int × Int × Int × Int × Unit) :=
  some (x.1.1, x.1.2.1, x.1.2.2.1, x.1.2.2.2.1, x.1.2.2.2.2.1, ())

noncomputable def laws_toVersion_Ent : Ent := ⟨121, laws_toVersion_ti, laws_toVersion_to, laws_toVersion_S⟩

theorem laws_toVersion_HC : CfgOK Go.Proofs.Tryz.prog laws_toVersion_C := hc_of g_tisOK g_wide all_nil

theorem laws_toVersion_OK : EntOK Go.Proofs.Tryz.prog laws_toVersion_Ent := ok_of laws_toVersion_HC Go.Proofs.Tryz.func121 0 (by kernel_rfl) (fun k hk => absurd hk (Nat.not_lt_zero k)) (by kernel_rfl) (by kernel_rfl) (fun x => by kernel_rfl)

/-! laws.toVersionS -/

abbrev laws_toVersionS_I3 : Type := List (Int × Int × Int × Int × Int × Unit) × Unit

abbrev laws_toVersionS_V3 : Type := Int × List (Int × Int × Int × Int × Int × Unit) × Unit

abbrev laws_toVersionS_Q3 : Type := List (Int × Int × Int × Int × Int × Unit) × Unit

noncomputable def laws_toVersionS_D3 (i : laws_toVersionS_I3) (v : laws_toVersionS_V3) (R : Type) (K : laws_toVersionS_V3 ⊕ laws_toVersionS_Q3 → Option R) : Option R :=
  bif decide (v.1 < (↑(List.length i.1) : Int)) then Option.bind (lAt i.1 v.1) fun v_1 => Option.bind (laws_toVersion_S ((v_1.1, v_1.2.1, v_1.2.2.1, v_1.2.2.2.1, v_1.2.2.2.2.1, ()), ())) fun v_2 => if 0 ≤ v.1 ∧ v.1 < (↑(List.length v.2.1) :
  Int) then Option.bind v.2.1[0 + Int.toNat v.1]? fun v_3 => K (Sum.inl (IntKind.wrap IntKind.i64 (v.1 + 1), List.set v.2.1 (0 + Int.toNat v.1) (v_2.1, v_2.2.1, v_2.2.2.1, v_2.2.2.2.1, v_2.2.2.2.2.1, ()), ())) else none else K (Sum.inr (v.2.1,
  ()))

theorem laws_toVersionS_D3_nat : NatD laws_toVersionS_D3 := fun i v R K => nat_bif (nat_bind fun _ => nat_bind fun _ => nat_ite (nat_bind fun _ => nat_some)) (nat_some)

def laws_toVersionS_T3 : Tmpl := ⟨(.slot (Ty.slice YVersion) (jk 2 (.own 0 (.slot Ty.i (jk 18 .nil))))), (.lst false YVersion .nil)⟩

def laws_toVersionS_X3_0 (i : laws_toVersionS_I3) (p : List (Int × Int × Int × Int × Int × Unit) × Unit) : St := ⟨jn 3 (AV.own 0 none none :: jn 19 ([])), [some (Cont.lst false YVersion p.1)]⟩

noncomputable def laws_toVersionS_E3 (i : laws_toVersionS_I3) (p : laws_toVersionS_Q3) (R : Type) (K : Ex → St → Option R) : Option R := K (Ex.exit 0) (laws_toVersionS_X3_0 i p)

noncomputable def laws_toVersionS_K3 (i : laws_toVersionS_I3) (p : laws_toVersionS_Q3) : Ex × St := (Ex.exit 0, laws_toVersionS_X3_0 i p)

def laws_toVersionS_M3 (i : laws_toVersionS_I3) (v : laws_toVersionS_V3) : den laws_toVersionS_T3.ty := (i.1, v.1, v.2.1, ())

def laws_toVersionS_P3 (x : den laws_toVersionS_T3.ty) : laws_toVersionS_I3 × laws_toVersionS_V3 := ((x.1, ()), (x.2.1, x.2.2.1, ()))

noncomputable def laws_toVersionS_C : Cfg := { ti := g_tis, ents := [laws_toVersion_Ent], ann := [(3, loopFn laws_toVersionS_T3 0 laws_toVersionS_P3 laws_toVersionS_D3 laws_toVersionS_E3)], lent := 0 }

def laws_toVersionS_ti : Tmpl := ⟨(.slot (Ty.slice YVersion) .nil), .nil⟩

def laws_toVersionS_to : Tmpl := ⟨(.own 0 .nil), (.lst false YVersion .nil)⟩

noncomputable def laws_toVersionS_S (x : List (Int × Int × Int × Int × Int × Unit) × Unit) : Option (List (Int × Int × Int × Int × Int × Unit) × Unit) :=
  if 0 ≤ (↑(List.length x.1) : Int) ∧ (↑(List.length x.1) : Int) ≤ (↑(List.length x.1) : Int) ∧ (↑(List.length x.1) : Int) ≤ (↑879609302220 : Int) then Option.bind (iter (fun v => laws_toVersionS_D3 (x.1, ()) v _ some) (0,
  List.replicate (Int.toNat (↑(List.length x.1) : Int)) (0, 0, 0, 0, 0, ()), ())) fun p => some (p.1, ()) else none

noncomputable def laws_toVersionS_Ent : Ent := ⟨95, laws_toVersionS_ti, laws_toVersionS_to, laws_toVersionS_S⟩

theorem laws_toVersionS_HC : CfgOK Go.Proofs.Tryz.prog laws_toVersionS_C := hc_of g_tisOK g_wide (all_cons laws_toVersion_OK all_nil)

theorem laws_toVersionS_lk3 : LkOK Go.Proofs.Tryz.prog laws_toVersionS_C (lpc Go.Proofs.Tryz.f95 0) :=
  lk_of laws_toVersionS_HC (m := 0) (T := laws_toVersionS_T3) (sp := laws_toVersionS_P3) (D := laws_toVersionS_D3) (E := laws_toVersionS_E3) (by kernel_rfl) (by kernel_rfl) (fun k hk => absurd hk (Nat.not_lt_zero k)) [3] laws_toVersionS_M3 (fun x => rfl) laws_toVersionS_D3_nat laws_toVersionS_K3 (fun i p R K => rfl) (fun i v => by kernel_rfl)

theorem laws_toVersionS_OK : EntOK Go.Proofs.Tryz.prog laws_toVersionS_Ent := ok_of laws_toVersionS_HC Go.Proofs.Tryz.func95 1 (by kernel_rfl) (fun k hk => match k, hk with | 0, _ => laws_toVersionS_lk3) (by kernel_rfl) (by kernel_rfl) (fun x => by kernel_rfl)

/-! laws.toVersionSS -/

abbrev laws_toVersionSS_I3 : Type := List (List (Int × Int × Int × Int × Int × Unit)) × Unit

abbrev laws_toVersionSS_V3 : Type := Int × List (List (Int × Int × Int × Int × Int × Unit)) × Unit

abbrev laws_toVersionSS_Q3 : Type := List (List (Int × Int × Int × Int × Int × Unit)) × Unit

noncomputable def laws_toVersionSS_D3 (i : laws_toVersionSS_I3) (v : laws_toVersionSS_V3) (R : Type) (K : laws_toVersionSS_V3 ⊕ laws_toVersionSS_Q3 → Option R) : Option R :=
  bif decide (v.1 < (↑(List.length i.1) : Int)) then Option.bind (lAt i.1 v.1) fun v_1 => Option.bind (laws_toVersionS_S (v_1, ())) fun v_2 => if 0 ≤ v.1 ∧ v.1 < (↑(List.length v.2.1) : Int) then Option.bind v.2.1[0 + Int.toNat v.1]? fun v_3
  => K (Sum.inl (IntKind.wrap IntKind.i64 (v.1 + 1), List.set v.2.1 (0 + Int.toNat v.1) v_2.1, ())) else none else K (Sum.inr (v.2.1, ()))

theorem laws_toVersionSS_D3_nat : NatD laws_toVersionSS_D3 := fun i v R K => nat_bif (nat_bind fun _ => nat_bind fun _ => nat_ite (nat_bind fun _ => nat_some)) (nat_some)

def laws_toVersionSS_T3 : Tmpl := ⟨(.slot (Ty.slice (Ty.slice YVersion)) (jk 2 (.own 0 (.slot Ty.i (jk 18 .nil))))), (.tree false 1 (Ty.slice YVersion) .nil)⟩

def laws_toVersionSS_X3_0 (i : laws_toVersionSS_I3) (p : List (List (Int × Int × Int × Int × Int × Unit)) × Unit) : St := ⟨jn 3 (AV.own 0 none none :: jn 19 ([])), [some (Cont.tree false 1 (Ty.slice YVersion)
  p.1 none)]⟩

noncomputable def laws_toVersionSS_E3 (i : laws_toVersionSS_I3) (p : laws_toVersionSS_Q3) (R : Type) (K : Ex → St → Option R) : Option R := K (Ex.exit 0) (laws_toVersionSS_X3_0 i p)

noncomputable def laws_toVersionSS_K3 (i : laws_toVersionSS_I3) (p : laws_toVersionSS_Q3) : Ex × St := (Ex.exit 0, laws_toVersionSS_X3_0 i p)

def laws_toVersionSS_M3 (i : laws_toVersionSS_I3) (v : laws_toVersionSS_V3) : den laws_toVersionSS_T3.ty := (i.1, v.1, v.2.1, ())

def laws_toVersionSS_P3 (x : den laws_toVersionSS_T3.ty) : laws_toVersionSS_I3 × laws_toVersionSS_V3 := ((x.1, ()), (x.2.1, x.2.2.1, ()))

noncomputable def laws_toVersionSS_C : Cfg := { ti := g_tis, ents := [laws_toVersionS_Ent], ann := [(3, loopFn laws_toVersionSS_T3 0 laws_toVersionSS_P3 laws_toVersionSS_D3 laws_toVersionSS_E3)], lent := 0 }

def laws_toVersionSS_ti : Tmpl := ⟨(.slot (Ty.slice (Ty.slice YVersion)) .nil), .nil⟩

def laws_toVersionSS_to : Tmpl := ⟨(.own 0 .nil), (.tree false 1 (Ty.slice YVersion) .nil)⟩

noncomputable def laws_toVersionSS_S (x : List (List (Int × Int × Int × Int × Int × Unit)) × Unit) : Option (List (List (Int × Int × Int × Int × Int × Unit)) × Unit) :=
  if 0 ≤ (↑(List.length x.1) : Int) ∧ (↑(List.length x.1) : Int) ≤ (↑(List.length x.1) : Int) ∧ (↑(List.length x.1) : Int) ≤ (↑1466015503701 : Int) then Option.bind (iter (fun v => laws_toVersionSS_D3 (x.1, ()) v _ some) (0,
  List.replicate (Int.toNat (↑(List.length x.1) : Int)) [], ())) fun p => some (p.1, ()) else none

noncomputable def laws_toVersionSS_Ent : Ent := ⟨54, laws_toVersionSS_ti, laws_toVersionSS_to, laws_toVersionSS_S⟩

theorem laws_toVersionSS_HC : CfgOK Go.Proofs.Tryz.prog laws_toVersionSS_C := hc_of g_tisOK g_wide (all_cons laws_toVersionS_OK all_nil)

theorem laws_toVersionSS_lk3 : LkOK Go.Proofs.Tryz.prog laws_toVersionSS_C (lpc Go.Proofs.Tryz.f54 0) :=
  lk_of laws_toVersionSS_HC (m := 0) (T := laws_toVersionSS_T3) (sp := laws_toVersionSS_P3) (D := laws_toVersionSS_D3) (E := laws_toVersionSS_E3) (by kernel_rfl) (by kernel_rfl) (fun k hk => absurd hk (Nat.not_lt_zero k)) [3] laws_toVersionSS_M3 (fun x => rfl) laws_toVersionSS_D3_nat laws_toVersionSS_K3 (fun i p R K => rfl) (fun i v => by kernel_rfl)

theorem laws_toVersionSS_OK : EntOK Go.Proofs.Tryz.prog laws_toVersionSS_Ent := ok_of laws_toVersionSS_HC Go.Proofs.Tryz.func54 1 (by kernel_rfl) (fun k hk => match k, hk with | 0, _ => laws_toVersionSS_lk3) (by kernel_rfl) (by kernel_rfl) (fun x => by kernel_rfl)

/-! laws.toStore -/

noncomputable def laws_toStore_C : Cfg := { ti := g_tis, ents := [laws_toVersionSS_Ent], ann := [], lent := 0 }

def laws_toStore_ti : Tmpl := ⟨(.slot YStore .nil), .nil⟩

def laws_toStore_to : Tmpl := ⟨(.agg (.own 0 .nil) .nil), (.tree false 1 (Ty.slice YVersion) .nil)⟩

noncomputable def laws_toStore_S (x : (List (List (Int × Int × Int × Int × Int × Unit)) × Unit) × Unit) : Option (List (List (Int × Int × Int × Int × Int × Unit)) × Unit) :=
  Option.bind (laws_toVersionSS_S (x.1.1, ())) fun v => some (v.1, ())

noncomputable def laws_toStore_Ent : Ent := ⟨18, laws_toStore_ti, laws_toStore_to, laws_toStore_S⟩

theorem laws_toStore_HC : CfgOK Go.Proofs.Tryz.prog laws_toStore_C := hc_of g_tisOK g_wide (all_cons laws_toVersionSS_OK all_nil)

theorem laws_toStore_OK : EntOK Go.Proofs.Tryz.prog laws_toStore_Ent := ok_of laws_toStore_HC Go.Proofs.Tryz.func18 0 (by kernel_rfl) (fun k hk => absurd hk (Nat.not_lt_zero k)) (by kernel_rfl) (by kernel_rfl) (fun x => by kernel_rfl)

/-! laws.toReadMark -/

noncomputable def laws_toReadMark_C : Cfg := { ti := g_tis, ents := [], ann := [], lent := 0 }

def laws_toReadMark_ti : Tmpl := ⟨(.slot YReadMark .nil), .nil⟩

def laws_toReadMark_to : Tmpl := ⟨(.agg (.slot Ty.i (.slot Ty.i .nil)) .nil), .nil⟩

noncomputable def laws_toReadMark_S (x : (Int × Int × Unit) × Unit) : Option (Int × Int × Unit) :=
  some (x.1.1, x.1.2.1, ())

noncomputable def laws_toReadMark_Ent : Ent := ⟨122, laws_toReadMark_ti, laws_toReadMark_to, laws_toReadMark_S⟩

theorem laws_toReadMark_HC : CfgOK Go.Proofs.Tryz.prog laws_toReadMark_C := hc_of g_tisOK g_wide all_nil

theorem laws_toReadMark_OK : EntOK Go.Proofs.Tryz.prog laws_toReadMark_Ent := ok_of laws_toReadMark_HC Go.Proofs.Tryz.func122 0 (by kernel_rfl) (fun k hk => absurd hk (Nat.not_lt_zero k)) (by kernel_rfl) (by kernel_rfl) (fun x => by kernel_rfl)

/-! laws.toReadMarkS -/

abbrev laws_toReadMarkS_I3 : Type := List (Int × Int × Unit) × Unit

abbrev laws_toReadMarkS_V3 : Type := Int × List (Int × Int × Unit) × Unit

abbrev laws_toReadMarkS_Q3 : Type := List (Int × Int × Unit) × Unit

noncomputable def laws_toReadMarkS_D3 (i : laws_toReadMarkS_I3) (v : laws_toReadMarkS_V3) (R : Type) (K : laws_toReadMarkS_V3 ⊕ laws_toReadMarkS_Q3 → Option R) : Option R :=
  bif decide (v.1 < (↑(List.length i.1) : Int)) then Option.bind (lAt i.1 v.1) fun v_1 => Option.bind (laws_toReadMark_S ((v_1.1, v_1.2.1, ()), ())) fun v_2 => if 0 ≤ v.1 ∧ v.1 < (↑(List.length v.2.1) : Int) then Option.bind v.2.1[0 +
  Int.toNat v.1]? fun v_3 => K (Sum.inl (IntKind.wrap IntKind.i64 (v.1 + 1), List.set v.2.1 (0 + Int.toNat v.1) (v_2.1, v_2.2.1, ()), ())) else none else K (Sum.inr (v.2.1, ()))

theorem laws_toReadMarkS_D3_nat : NatD laws_toReadMarkS_D3 := fun i v R K => nat_bif (nat_bind fun _ => nat_bind fun _ => nat_ite (nat_bind fun _ => nat_some)) (nat_some)

def laws_toReadMarkS_T3 : Tmpl := ⟨(.slot (Ty.slice YReadMark) (jk 2 (.own 0 (.slot Ty.i (jk 18 .nil))))), (.lst false YReadMark .nil)⟩

def laws_toReadMarkS_X3_0 (i : laws_toReadMarkS_I3) (p : List (Int × Int × Unit) × Unit) : St := ⟨jn 3 (AV.own 0 none none :: jn 19 ([])), [some (Cont.lst false YReadMark p.1)]⟩

noncomputable def laws_toReadMarkS_E3 (i : laws_toReadMarkS_I3) (p : laws_toReadMarkS_Q3) (R : Type) (K : Ex → St → Option R) : Option R := K (Ex.exit 0) (laws_toReadMarkS_X3_0 i p)

noncomputable def laws_toReadMarkS_K3 (i : laws_toReadMarkS_I3) (p : laws_toReadMarkS_Q3) : Ex × St := (Ex.exit 0, laws_toReadMarkS_X3_0 i p)

def laws_toReadMarkS_M3 (i : laws_toReadMarkS_I3) (v : laws_toReadMarkS_V3) : den laws_toReadMarkS_T3.ty := (i.1, v.1, v.2.1, ())

def laws_toReadMarkS_P3 (x : den laws_toReadMarkS_T3.ty) : laws_toReadMarkS_I3 × laws_toReadMarkS_V3 := ((x.1, ()), (x.2.1, x.2.2.1, ()))

noncomputable def laws_toReadMarkS_C : Cfg := { ti := g_tis, ents := [laws_toReadMark_Ent], ann := [(3, loopFn laws_toReadMarkS_T3 0 laws_toReadMarkS_P3 laws_toReadMarkS_D3 laws_toReadMarkS_E3)], lent := 0 }

def laws_toReadMarkS_ti : Tmpl := ⟨(.slot (Ty.slice YReadMark) .nil), .nil⟩

def laws_toReadMarkS_to : Tmpl := ⟨(.own 0 .nil), (.lst false YReadMark .nil)⟩

noncomputable def laws_toReadMarkS_S (x : List (Int × Int × Unit) × Unit) : Option (List (Int × Int × Unit) × Unit) :=
  if 0 ≤ (↑(List.length x.1) : Int) ∧ (↑(List.length x.1) : Int) ≤ (↑(List.length x.1) : Int) ∧ (↑(List.length x.1) : Int) ≤ (↑2199023255552 : Int) then Option.bind (iter (fun v => laws_toReadMarkS_D3 (x.1, ()) v _ some) (0,
  List.replicate (Int.toNat (↑(List.length x.1) : Int)) (0, 0, ()), ())) fun p => some (p.1, ()) else none

noncomputable def laws_toReadMarkS_Ent : Ent := ⟨96, laws_toReadMarkS_ti, laws_toReadMarkS_to, laws_toReadMarkS_S⟩

theorem laws_toReadMarkS_HC : CfgOK Go.Proofs.Tryz.prog laws_toReadMarkS_C := hc_of g_tisOK g_wide (all_cons laws_toReadMark_OK all_nil)

theorem laws_toReadMarkS_lk3 : LkOK Go.Proofs.Tryz.prog laws_toReadMarkS_C (lpc Go.Proofs.Tryz.f96 0) :=
  lk_of laws_toReadMarkS_HC (m := 0) (T := laws_toReadMarkS_T3) (sp := laws_toReadMarkS_P3) (D := laws_toReadMarkS_D3) (E := laws_toReadMarkS_E3) (by kernel_rfl) (by kernel_rfl) (fun k hk => absurd hk (Nat.not_lt_zero k)) [3] laws_toReadMarkS_M3 (fun x => rfl) laws_toReadMarkS_D3_nat laws_toReadMarkS_K3 (fun i p R K => rfl) (fun i v => by kernel_rfl)

theorem laws_toReadMarkS_OK : EntOK Go.Proofs.Tryz.prog laws_toReadMarkS_Ent := ok_of laws_toReadMarkS_HC Go.Proofs.Tryz.func96 1 (by kernel_rfl) (fun k hk => match k, hk with | 0, _ => laws_toReadMarkS_lk3) (by kernel_rfl) (by kernel_rfl) (fun x => by kernel_rfl)

/-! laws.toWrite -/

noncomputable def laws_toWrite_C : Cfg := { ti := g_tis, ents := [], ann := [], lent := 0 }

def laws_toWrite_ti : Tmpl := ⟨(.slot YReadMark .nil), .nil⟩

def laws_toWrite_to : Tmpl := ⟨(.agg (.slot Ty.i (.slot Ty.i .nil)) .nil), .nil⟩

noncomputable def laws_toWrite_S (x : (Int × Int × Unit) × Unit) : Option (Int × Int × Unit) :=
  some (x.1.1, x.1.2.1, ())

noncomputable def laws_toWrite_Ent : Ent := ⟨123, laws_toWrite_ti, laws_toWrite_to, laws_toWrite_S⟩

theorem laws_toWrite_HC : CfgOK Go.Proofs.Tryz.prog laws_toWrite_C := hc_of g_tisOK g_wide all_nil

theorem laws_toWrite_OK : EntOK Go.Proofs.Tryz.prog laws_toWrite_Ent := ok_of laws_toWrite_HC Go.Proofs.Tryz.func123 0 (by kernel_rfl) (fun k hk => absurd hk (Nat.not_lt_zero k)) (by kernel_rfl) (by kernel_rfl) (fun x => by kernel_rfl)

/-! laws.toWriteS -/

abbrev laws_toWriteS_I3 : Type := List (Int × Int × Unit) × Unit

abbrev laws_toWriteS_V3 : Type := Int × List (Int × Int × Unit) × Unit

abbrev laws_toWriteS_Q3 : Type := List (Int × Int × Unit) × Unit

noncomputable def laws_toWriteS_D3 (i : laws_toWriteS_I3) (v : laws_toWriteS_V3) (R : Type) (K : laws_toWriteS_V3 ⊕ laws_toWriteS_Q3 → Option R) : Option R :=
  bif decide (v.1 < (↑(List.length i.1) : Int)) then Option.bind (lAt i.1 v.1) fun v_1 => Option.bind (laws_toWrite_S ((v_1.1, v_1.2.1, ()), ())) fun v_2 => if 0 ≤ v.1 ∧ v.1 < (↑(List.length v.2.1) : Int) then Option.bind v.2.1[0 + Int.toNat
  v.1]? fun v_3 => K (Sum.inl (IntKind.wrap IntKind.i64 (v.1 + 1), List.set v.2.1 (0 + Int.toNat v.1) (v_2.1, v_2.2.1, ()), ())) else none else K (Sum.inr (v.2.1, ()))

theorem laws_toWriteS_D3_nat : NatD laws_toWriteS_D3 := fun i v R K => nat_bif (nat_bind fun _ => nat_bind fun _ => nat_ite (nat_bind fun _ => nat_some)) (nat_some)

def laws_toWriteS_T3 : Tmpl := ⟨(.slot (Ty.slice YReadMark) (jk 2 (.own 0 (.slot Ty.i (jk 18 .nil))))), (.lst false YReadMark .nil)⟩

def laws_toWriteS_X3_0 (i : laws_toWriteS_I3) (p : List (Int × Int × Unit) × Unit) : St := ⟨jn 3 (AV.own 0 none none :: jn 19 ([])), [some (Cont.lst false YReadMark p.1)]⟩

noncomputable def laws_toWriteS_E3 (i : laws_toWriteS_I3) (p : laws_toWriteS_Q3) (R : Type) (K : Ex → St → Option R) : Option R := K (Ex.exit 0) (laws_toWriteS_X3_0 i p)

noncomputable def laws_toWriteS_K3 (i : laws_toWriteS_I3) (p : laws_toWriteS_Q3) : Ex × St := (Ex.exit 0, laws_toWriteS_X3_0 i p)

def laws_toWriteS_M3 (i : laws_toWriteS_I3) (v : laws_toWriteS_V3) : den laws_toWriteS_T3.ty := (i.1, v.1, v.2.1, ())

def laws_toWriteS_P3 (x : den laws_toWriteS_T3.ty) : laws_toWriteS_I3 × laws_toWriteS_V3 := ((x.1, ()), (x.2.1, x.2.2.1, ()))

noncomputable def laws_toWriteS_C : Cfg := { ti := g_tis, ents := [laws_toWrite_Ent], ann := [(3, loopFn laws_toWriteS_T3 0 laws_toWriteS_P3 laws_toWriteS_D3 laws_toWriteS_E3)], lent := 0 }

def laws_toWriteS_ti : Tmpl := ⟨(.slot (Ty.slice YReadMark) .nil), .nil⟩

def laws_toWriteS_to : Tmpl := ⟨(.own 0 .nil), (.lst false YReadMark .nil)⟩

noncomputable def laws_toWriteS_S (x : List (Int × Int × Unit) × Unit) : Option (List (Int × Int × Unit) × Unit) :=
  if 0 ≤ (↑(List.length x.1) : Int) ∧ (↑(List.length x.1) : Int) ≤ (↑(List.length x.1) : Int) ∧ (↑(List.length x.1) : Int) ≤ (↑2199023255552 : Int) then Option.bind (iter (fun v => laws_toWriteS_D3 (x.1, ()) v _ some) (0,
  List.replicate (Int.toNat (↑(List.length x.1) : Int)) (0, 0, ()), ())) fun p => some (p.1, ()) else none

noncomputable def laws_toWriteS_Ent : Ent := ⟨97, laws_toWriteS_ti, laws_toWriteS_to, laws_toWriteS_S⟩

theorem laws_toWriteS_HC : CfgOK Go.Proofs.Tryz.prog laws_toWriteS_C := hc_of g_tisOK g_wide (all_cons laws_toWrite_OK all_nil)

theorem laws_toWriteS_lk3 : LkOK Go.Proofs.Tryz.prog laws_toWriteS_C (lpc Go.Proofs.Tryz.f97 0) :=
  lk_of laws_toWriteS_HC (m := 0) (T := laws_toWriteS_T3) (sp := laws_toWriteS_P3) (D := laws_toWriteS_D3) (E := laws_toWriteS_E3) (by kernel_rfl) (by kernel_rfl) (fun k hk => absurd hk (Nat.not_lt_zero k)) [3] laws_toWriteS_M3 (fun x => rfl) laws_toWriteS_D3_nat laws_toWriteS_K3 (fun i p R K => rfl) (fun i v => by kernel_rfl)

theorem laws_toWriteS_OK : EntOK Go.Proofs.Tryz.prog laws_toWriteS_Ent := ok_of laws_toWriteS_HC Go.Proofs.Tryz.func97 1 (by kernel_rfl) (fun k hk => match k, hk with | 0, _ => laws_toWriteS_lk3) (by kernel_rfl) (by kernel_rfl) (fun x => by kernel_rfl)

/-! laws.toTransaction -/

noncomputable def laws_toTransaction_C : Cfg := { ti := g_tis, ents := [laws_toReadMarkS_Ent, laws_toWriteS_Ent], ann := [], lent := 0 }

def laws_toTransaction_ti : Tmpl := ⟨(.slot (Ty.prod Ty.i (Ty.prod Ty.i (Ty.prod Ty.i (Ty.prod Ty.i (Ty.prod Ty.i (Ty.prod Ty.i (Ty.prod Ty.i (Ty.prod (Ty.slice (Ty.prod
  Ty.i (Ty.prod Ty.i Ty.unit))) (Ty.prod (Ty.slice YReadMark) Ty.unit))))))))) .nil), .nil⟩

def laws_toTransaction_to : Tmpl := ⟨(.agg (.slot Ty.i (.slot Ty.i (.slot Ty.i (.slot Ty.i (.slot Ty.i (.slot Ty.i (.slot Ty.i (.own 0 (.own 1 .nil))))))))) .nil), (.lst false YReadMark (.lst false YReadMark .nil))⟩

noncomputable def laws_toTransaction_S (x : (Int × Int × Int × Int × Int × Int × Int × List (Int × Int × Unit) × List (Int × Int × Unit) × Unit) × Unit) : Option (Int × Int × Int × Int × Int × Int × Int × List (Int × Int × Unit) × List (Int × Int × Unit) × Unit) :=
  Option.bind (laws_toReadMarkS_S (x.1.2.2.2.2.2.2.2.1, ())) fun v => Option.bind (laws_toWriteS_S (x.1.2.2.2.2.2.2.2.2.1, ())) fun v_1 => some (x.1.1, x.1.2.1, x.1.2.2.1, x.1.2.2.2.1, x.1.2.2.2.2.1, x.1.2.2.2.2.2.1, x.1.2.2.2.2.2.2.1, v.1,
  v_1.1, ())

noncomputable def laws_toTransaction_Ent : Ent := ⟨55, laws_toTransaction_ti, laws_toTransaction_to, laws_toTransaction_S⟩

theorem laws_toTransaction_HC : CfgOK Go.Proofs.Tryz.prog laws_toTransaction_C := hc_of g_tisOK g_wide (all_cons laws_toReadMarkS_OK (all_cons laws_toWriteS_OK all_nil))

theorem laws_toTransaction_OK : EntOK Go.Proofs.Tryz.prog laws_toTransaction_Ent := ok_of laws_toTransaction_HC Go.Proofs.Tryz.func55 0 (by kernel_rfl) (fun k hk => absurd hk (Nat.not_lt_zero k)) (by kernel_rfl) (by kernel_rfl) (fun x => by kernel_rfl)

/-! laws.toTransactionS -/

abbrev laws_toTransactionS_I3 : Type := List (Int × Int × Int × Int × Int × Int × Int × List (Int × Int × Unit) × List (Int × Int × Unit) × Unit) × Unit

abbrev laws_toTransactionS_V3 : Type := Int × List (Int × Int × Int × Int × Int × Int × Int × List (Int × Int × Unit) × List (Int × Int × Unit) × Unit) × Unit

abbrev laws_toTransactionS_Q3 : Type := List (Int × Int × Int × Int × Int × Int × Int × List (Int × Int × Unit) × List (Int × Int × Unit) × Unit) × Unit

noncomputable def laws_toTransactionS_D3 (i : laws_toTransactionS_I3) (v : laws_toTransactionS_V3) (R : Type) (K : laws_toTransactionS_V3 ⊕ laws_toTransactionS_Q3 → Option R) : Option R :=
  bif decide (v.1 < (↑(List.length i.1) : Int)) then Option.bind (lAt i.1 v.1) fun v_1 => Option.bind (laws_toTransaction_S ((v_1.1, v_1.2.1, v_1.2.2.1, v_1.2.2.2.1, v_1.2.2.2.2.1, v_1.2.2.2.2.2.1, v_1.2.2.2.2.2.2.1, v_1.2.2.2.2.2.2.2.1,
  v_1.2.2.2.2.2.2.2.2.1, ()), ())) fun v_2 => if 0 ≤ v.1 ∧ v.1 < (↑(List.length v.2.1) : Int) then Option.bind v.2.1[0 + Int.toNat v.1]? fun v_3 => K (Sum.inl (IntKind.wrap IntKind.i64 (v.1 + 1), List.set v.2.1 (0 + Int.toNat v.1) (v_2.1,
  v_2.2.1, v_2.2.2.1, v_2.2.2.2.1, v_2.2.2.2.2.1, v_2.2.2.2.2.2.1, v_2.2.2.2.2.2.2.1, v_2.2.2.2.2.2.2.2.1, v_2.2.2.2.2.2.2.2.2.1, ()), ())) else none else K (Sum.inr (v.2.1, ()))

theorem laws_toTransactionS_D3_nat : NatD laws_toTransactionS_D3 := fun i v R K => nat_bif (nat_bind fun _ => nat_bind fun _ => nat_ite (nat_bind fun _ => nat_some)) (nat_some)

def laws_toTransactionS_T3 : Tmpl := ⟨(.slot (Ty.slice (Ty.prod Ty.i (Ty.prod Ty.i (Ty.prod Ty.i (Ty.prod Ty.i (Ty.prod Ty.i (Ty.prod Ty.i (Ty.prod Ty.i (Ty.prod (Ty.slice
  YReadMark) (Ty.prod (Ty.slice YReadMark) Ty.unit)))))))))) (jk 2 (.own 0 (.slot Ty.i (jk 18 .nil))))), (.tree false 1 (Ty.prod Ty.i (Ty.prod Ty.i (Ty.prod Ty.i (Ty.prod Ty.i (Ty.prod Ty.i (Ty.prod Ty.i (Ty.prod Ty.i (Ty.prod (Ty.slice (Ty.prod
  Ty.i (Ty.prod Ty.i Ty.unit))) (Ty.prod (Ty.slice YReadMark) Ty.unit))))))))) .nil)⟩

def laws_toTransactionS_X3_0 (i : laws_toTransactionS_I3) (p : List (Int × Int × Int × Int × Int × Int × Int × List (Int × Int × Unit) × List (Int × Int × Unit) × Unit) × Unit) : St := ⟨jn 3 (AV.own 0 none none :: jn 19 ([])), [some (Cont.tree false 1 (Ty.prod Ty.i (Ty.prod Ty.i (Ty.prod Ty.i (Ty.prod Ty.i (Ty.prod Ty.i (Ty.prod (Ty.int
  IntKind.i64) (Ty.prod Ty.i (Ty.prod (Ty.slice YReadMark) (Ty.prod (Ty.slice YReadMark) Ty.unit)))))))))
  p.1 none)]⟩

noncomputable def laws_toTransactionS_E3 (i : laws_toTransactionS_I3) (p : laws_toTransactionS_Q3) (R : Type) (K : Ex → St → Option R) : Option R := K (Ex.exit 0) (laws_toTransactionS_X3_0 i p)

noncomputable def laws_toTransactionS_K3 (i : laws_toTransactionS_I3) (p : laws_toTransactionS_Q3) : Ex × St := (Ex.exit 0, laws_toTransactionS_X3_0 i p)

def laws_toTransactionS_M3 (i : laws_toTransactionS_I3) (v : laws_toTransactionS_V3) : den laws_toTransactionS_T3.ty := (i.1, v.1, v.2.1, ())

def laws_toTransactionS_P3 (x : den laws_toTransactionS_T3.ty) : laws_toTransactionS_I3 × laws_toTransactionS_V3 := ((x.1, ()), (x.2.1, x.2.2.1, ()))

noncomputable def laws_toTransactionS_C : Cfg := { ti := g_tis, ents := [laws_toTransaction_Ent], ann := [(3, loopFn laws_toTransactionS_T3 0 laws_toTransactionS_P3 laws_toTransactionS_D3 laws_toTransactionS_E3)], lent := 0 }

def laws_toTransactionS_ti : Tmpl := ⟨(.slot (Ty.slice (Ty.prod Ty.i (Ty.prod Ty.i (Ty.prod Ty.i (Ty.prod Ty.i (Ty.prod Ty.i (Ty.prod Ty.i (Ty.prod Ty.i (Ty.prod (Ty.slice
  YReadMark) (Ty.prod (Ty.slice YReadMark) Ty.unit)))))))))) .nil), .nil⟩

def laws_toTransactionS_to : Tmpl := ⟨(.own 0 .nil), (.tree false 1 (Ty.prod Ty.i (Ty.prod Ty.i (Ty.prod Ty.i (Ty.prod Ty.i (Ty.prod Ty.i (Ty.prod Ty.i (Ty.prod Ty.i (Ty.prod (Ty.slice (Ty.prod
  Ty.i (Ty.prod Ty.i Ty.unit))) (Ty.prod (Ty.slice YReadMark) Ty.unit))))))))) .nil)⟩

noncomputable def laws_toTransactionS_S (x : List (Int × Int × Int × Int × Int × Int × Int × List (Int × Int × Unit) × List (Int × Int × Unit) × Unit) × Unit) : Option (List (Int × Int × Int × Int × Int × Int × Int × List (Int × Int × Unit) × List (Int × Int × Unit) × Unit) × Unit) :=
  if 0 ≤ (↑(List.length x.1) : Int) ∧ (↑(List.length x.1) : Int) ≤ (↑(List.length x.1) : Int) ∧ (↑(List.length x.1) : Int) ≤ (↑338311270084 : Int) then Option.bind (iter (fun v => laws_toTransactionS_D3 (x.1, ()) v _ some) (0,
  List.replicate (Int.toNat (↑(List.length x.1) : Int)) (0, 0, 0, 0, 0, 0, 0, [], [], ()), ())) fun p => some (p.1, ()) else none

noncomputable def laws_toTransactionS_Ent : Ent := ⟨19, laws_toTransactionS_ti, laws_toTransactionS_to, laws_toTransactionS_S⟩

theorem laws_toTransactionS_HC : CfgOK Go.Proofs.Tryz.prog laws_toTransactionS_C := hc_of g_tisOK g_wide (all_cons laws_toTransaction_OK all_nil)

theorem laws_toTransactionS_lk3 : LkOK Go.Proofs.Tryz.prog laws_toTransactionS_C (lpc Go.Proofs.Tryz.f19 0) :=
  lk_of laws_toTransactionS_HC (m := 0) (T := laws_toTransactionS_T3) (sp := laws_toTransactionS_P3) (D := laws_toTransactionS_D3) (E := laws_toTransactionS_E3) (by kernel_rfl) (by kernel_rfl) (fun k hk => absurd hk (Nat.not_lt_zero k)) [3] laws_toTransactionS_M3 (fun x => rfl) laws_toTransactionS_D3_nat laws_toTransactionS_K3 (fun i p R K => rfl) (fun i v => by kernel_rfl)

theorem laws_toTransactionS_OK : EntOK Go.Proofs.Tryz.prog laws_toTransactionS_Ent := ok_of laws_toTransactionS_HC Go.Proofs.Tryz.func19 1 (by kernel_rfl) (fun k hk => match k, hk with | 0, _ => laws_toTransactionS_lk3) (by kernel_rfl) (by kernel_rfl) (fun x => by kernel_rfl)

/-! laws.toLock -/

noncomputable def laws_toLock_C : Cfg := { ti := g_tis, ents := [], ann := [], lent := 0 }

def laws_toLock_ti : Tmpl := ⟨(.slot YReadMark .nil), .nil⟩

def laws_toLock_to : Tmpl := ⟨(.agg (.slot Ty.i (.slot Ty.i .nil)) .nil), .nil⟩

noncomputable def laws_toLock_S (x : (Int × Int × Unit) × Unit) : Option (Int × Int × Unit) :=
  some (x.1.1, x.1.2.1, ())

noncomputable def laws_toLock_Ent : Ent := ⟨56, laws_toLock_ti, laws_toLock_to, laws_toLock_S⟩

theorem laws_toLock_HC : CfgOK Go.Proofs.Tryz.prog laws_toLock_C := hc_of g_tisOK g_wide all_nil

theorem laws_toLock_OK : EntOK Go.Proofs.Tryz.prog laws_toLock_Ent := ok_of laws_toLock_HC Go.Proofs.Tryz.func56 0 (by kernel_rfl) (fun k hk => absurd hk (Nat.not_lt_zero k)) (by kernel_rfl) (by kernel_rfl) (fun x => by kernel_rfl)

/-! laws.toLockS -/

abbrev laws_toLockS_I3 : Type := List (Int × Int × Unit) × Unit

abbrev laws_toLockS_V3 : Type := Int × List (Int × Int × Unit) × Unit

abbrev laws_toLockS_Q3 : Type := List (Int × Int × Unit) × Unit

noncomputable def laws_toLockS_D3 (i : laws_toLockS_I3) (v : laws_toLockS_V3) (R : Type) (K : laws_toLockS_V3 ⊕ laws_toLockS_Q3 → Option R) : Option R :=
  bif decide (v.1 < (↑(List.length i.1) : Int)) then Option.bind (lAt i.1 v.1) fun v_1 => Option.bind (laws_toLock_S ((v_1.1, v_1.2.1, ()), ())) fun v_2 => if 0 ≤ v.1 ∧ v.1 < (↑(List.length v.2.1) : Int) then Option.bind v.2.1[0 + Int.toNat
  v.1]? fun v_3 => K (Sum.inl (IntKind.wrap IntKind.i64 (v.1 + 1), List.set v.2.1 (0 + Int.toNat v.1) (v_2.1, v_2.2.1, ()), ())) else none else K (Sum.inr (v.2.1, ()))

theorem laws_toLockS_D3_nat : NatD laws_toLockS_D3 := fun i v R K => nat_bif (nat_bind fun _ => nat_bind fun _ => nat_ite (nat_bind fun _ => nat_some)) (nat_some)

def laws_toLockS_T3 : Tmpl := ⟨(.slot (Ty.slice YReadMark) (jk 2 (.own 0 (.slot Ty.i (jk 18 .nil))))), (.lst false YReadMark .nil)⟩

def laws_toLockS_X3_0 (i : laws_toLockS_I3) (p : List (Int × Int × Unit) × Unit) : St := ⟨jn 3 (AV.own 0 none none :: jn 19 ([])), [some (Cont.lst false YReadMark p.1)]⟩

noncomputable def laws_toLockS_E3 (i : laws_toLockS_I3) (p : laws_toLockS_Q3) (R : Type) (K : Ex → St → Option R) : Option R := K (Ex.exit 0) (laws_toLockS_X3_0 i p)

noncomputable def laws_toLockS_K3 (i : laws_toLockS_I3) (p : laws_toLockS_Q3) : Ex × St := (Ex.exit 0, laws_toLockS_X3_0 i p)

def laws_toLockS_M3 (i : laws_toLockS_I3) (v : laws_toLockS_V3) : den laws_toLockS_T3.ty := (i.1, v.1, v.2.1, ())

def laws_toLockS_P3 (x : den laws_toLockS_T3.ty) : laws_toLockS_I3 × laws_toLockS_V3 := ((x.1, ()), (x.2.1, x.2.2.1, ()))

noncomputable def laws_toLockS_C : Cfg := { ti := g_tis, ents := [laws_toLock_Ent], ann := [(3, loopFn laws_toLockS_T3 0 laws_toLockS_P3 laws_toLockS_D3 laws_toLockS_E3)], lent := 0 }

def laws_toLockS_ti : Tmpl := ⟨(.slot (Ty.slice YReadMark) .nil), .nil⟩

def laws_toLockS_to : Tmpl := ⟨(.own 0 .nil), (.lst false YReadMark .nil)⟩

noncomputable def laws_toLockS_S (x : List (Int × Int × Unit) × Unit) : Option (List (Int × Int × Unit) × Unit) :=
  if 0 ≤ (↑(List.length x.1) : Int) ∧ (↑(List.length x.1) : Int) ≤ (↑(List.length x.1) : Int) ∧ (↑(List.length x.1) : Int) ≤ (↑2199023255552 : Int) then Option.bind (iter (fun v => laws_toLockS_D3 (x.1, ()) v _ some) (0,
  List.replicate (Int.toNat (↑(List.length x.1) : Int)) (0, 0, ()), ())) fun p => some (p.1, ()) else none

noncomputable def laws_toLockS_Ent : Ent := ⟨20, laws_toLockS_ti, laws_toLockS_to, laws_toLockS_S⟩

theorem laws_toLockS_HC : CfgOK Go.Proofs.Tryz.prog laws_toLockS_C := hc_of g_tisOK g_wide (all_cons laws_toLock_OK all_nil)

theorem laws_toLockS_lk3 : LkOK Go.Proofs.Tryz.prog laws_toLockS_C (lpc Go.Proofs.Tryz.f20 0) :=
  lk_of laws_toLockS_HC (m := 0) (T := laws_toLockS_T3) (sp := laws_toLockS_P3) (D := laws_toLockS_D3) (E := laws_toLockS_E3) (by kernel_rfl) (by kernel_rfl) (fun k hk => absurd hk (Nat.not_lt_zero k)) [3] laws_toLockS_M3 (fun x => rfl) laws_toLockS_D3_nat laws_toLockS_K3 (fun i p R K => rfl) (fun i v => by kernel_rfl)

theorem laws_toLockS_OK : EntOK Go.Proofs.Tryz.prog laws_toLockS_Ent := ok_of laws_toLockS_HC Go.Proofs.Tryz.func20 1 (by kernel_rfl) (fun k hk => match k, hk with | 0, _ => laws_toLockS_lk3) (by kernel_rfl) (by kernel_rfl) (fun x => by kernel_rfl)

/-! laws.toWait -/

noncomputable def laws_toWait_C : Cfg := { ti := g_tis, ents := [], ann := [], lent := 0 }

def laws_toWait_ti : Tmpl := ⟨(.slot YReadMark .nil), .nil⟩

def laws_toWait_to : Tmpl := ⟨(.agg (.slot Ty.i (.slot Ty.i .nil)) .nil), .nil⟩

noncomputable def laws_toWait_S (x : (Int × Int × Unit) × Unit) : Option (Int × Int × Unit) :=
  some (x.1.1, x.1.2.1, ())

noncomputable def laws_toWait_Ent : Ent := ⟨57, laws_toWait_ti, laws_toWait_to, laws_toWait_S⟩

theorem laws_toWait_HC : CfgOK Go.Proofs.Tryz.prog laws_toWait_C := hc_of g_tisOK g_wide all_nil

theorem laws_toWait_OK : EntOK Go.Proofs.Tryz.prog laws_toWait_Ent := ok_of laws_toWait_HC Go.Proofs.Tryz.func57 0 (by kernel_rfl) (fun k hk => absurd hk (Nat.not_lt_zero k)) (by kernel_rfl) (by kernel_rfl) (fun x => by kernel_rfl)

/-! laws.toWaitS -/

abbrev laws_toWaitS_I3 : Type := List (Int × Int × Unit) × Unit

abbrev laws_toWaitS_V3 : Type := Int × List (Int × Int × Unit) × Unit

abbrev laws_toWaitS_Q3 : Type := List (Int × Int × Unit) × Unit

noncomputable def laws_toWaitS_D3 (i : laws_toWaitS_I3) (v : laws_toWaitS_V3) (R : Type) (K : laws_toWaitS_V3 ⊕ laws_toWaitS_Q3 → Option R) : Option R :=
  bif decide (v.1 < (↑(List.length i.1) : Int)) then Option.bind (lAt i.1 v.1) fun v_1 => Option.bind (laws_toWait_S ((v_1.1, v_1.2.1, ()), ())) fun v_2 => if 0 ≤ v.1 ∧ v.1 < (↑(List.length v.2.1) : Int) then Option.bind v.2.1[0 + Int.toNat
  v.1]? fun v_3 => K (Sum.inl (IntKind.wrap IntKind.i64 (v.1 + 1), List.set v.2.1 (0 + Int.toNat v.1) (v_2.1, v_2.2.1, ()), ())) else none else K (Sum.inr (v.2.1, ()))

theorem laws_toWaitS_D3_nat : NatD laws_toWaitS_D3 := fun i v R K => nat_bif (nat_bind fun _ => nat_bind fun _ => nat_ite (nat_bind fun _ => nat_some)) (nat_some)

def laws_toWaitS_T3 : Tmpl := ⟨(.slot (Ty.slice YReadMark) (jk 2 (.own 0 (.slot Ty.i (jk 18 .nil))))), (.lst false YReadMark .nil)⟩

def laws_toWaitS_X3_0 (i : laws_toWaitS_I3) (p : List (Int × Int × Unit) × Unit) : St := ⟨jn 3 (AV.own 0 none none :: jn 19 ([])), [some (Cont.lst false YReadMark p.1)]⟩

noncomputable def laws_toWaitS_E3 (i : laws_toWaitS_I3) (p : laws_toWaitS_Q3) (R : Type) (K : Ex → St → Option R) : Option R := K (Ex.exit 0) (laws_toWaitS_X3_0 i p)

noncomputable def laws_toWaitS_K3 (i : laws_toWaitS_I3) (p : laws_toWaitS_Q3) : Ex × St := (Ex.exit 0, laws_toWaitS_X3_0 i p)

def laws_toWaitS_M3 (i : laws_toWaitS_I3) (v : laws_toWaitS_V3) : den laws_toWaitS_T3.ty := (i.1, v.1, v.2.1, ())

def laws_toWaitS_P3 (x : den laws_toWaitS_T3.ty) : laws_toWaitS_I3 × laws_toWaitS_V3 := ((x.1, ()), (x.2.1, x.2.2.1, ()))

noncomputable def laws_toWaitS_C : Cfg := { ti := g_tis, ents := [laws_toWait_Ent], ann := [(3, loopFn laws_toWaitS_T3 0 laws_toWaitS_P3 laws_toWaitS_D3 laws_toWaitS_E3)], lent := 0 }

def laws_toWaitS_ti : Tmpl := ⟨(.slot (Ty.slice YReadMark) .nil), .nil⟩

def laws_toWaitS_to : Tmpl := ⟨(.own 0 .nil), (.lst false YReadMark .nil)⟩

noncomputable def laws_toWaitS_S (x : List (Int × Int × Unit) × Unit) : Option (List (Int × Int × Unit) × Unit) :=
  if 0 ≤ (↑(List.length x.1) : Int) ∧ (↑(List.length x.1) : Int) ≤ (↑(List.length x.1) : Int) ∧ (↑(List.length x.1) : Int) ≤ (↑2199023255552 : Int) then Option.bind (iter (fun v => laws_toWaitS_D3 (x.1, ()) v _ some) (0,
  List.replicate (Int.toNat (↑(List.length x.1) : Int)) (0, 0, ()), ())) fun p => some (p.1, ()) else none

noncomputable def laws_toWaitS_Ent : Ent := ⟨21, laws_toWaitS_ti, laws_toWaitS_to, laws_toWaitS_S⟩

theorem laws_toWaitS_HC : CfgOK Go.Proofs.Tryz.prog laws_toWaitS_C := hc_of g_tisOK g_wide (all_cons laws_toWait_OK all_nil)

theorem laws_toWaitS_lk3 : LkOK Go.Proofs.Tryz.prog laws_toWaitS_C (lpc Go.Proofs.Tryz.f21 0) :=
  lk_of laws_toWaitS_HC (m := 0) (T := laws_toWaitS_T3) (sp := laws_toWaitS_P3) (D := laws_toWaitS_D3) (E := laws_toWaitS_E3) (by kernel_rfl) (by kernel_rfl) (fun k hk => absurd hk (Nat.not_lt_zero k)) [3] laws_toWaitS_M3 (fun x => rfl) laws_toWaitS_D3_nat laws_toWaitS_K3 (fun i p R K => rfl) (fun i v => by kernel_rfl)

theorem laws_toWaitS_OK : EntOK Go.Proofs.Tryz.prog laws_toWaitS_Ent := ok_of laws_toWaitS_HC Go.Proofs.Tryz.func21 1 (by kernel_rfl) (fun k hk => match k, hk with | 0, _ => laws_toWaitS_lk3) (by kernel_rfl) (by kernel_rfl) (fun x => by kernel_rfl)

/-! laws.toEngine -/

noncomputable def laws_toEngine_C : Cfg := { ti := g_tis, ents := [laws_toStore_Ent, laws_toTransactionS_Ent, laws_toLockS_Ent, laws_toWaitS_Ent], ann := [], lent := 0 }

def laws_toEngine_ti : Tmpl := ⟨(.slot (Ty.prod Ty.bool (Ty.prod YStore (Ty.prod
  (Ty.slice (Ty.prod Ty.i (Ty.prod Ty.i (Ty.prod Ty.i (Ty.prod Ty.i (Ty.prod Ty.i (Ty.prod Ty.i (Ty.prod Ty.i (Ty.prod (Ty.slice
  YReadMark) (Ty.prod (Ty.slice YReadMark) Ty.unit)))))))))) (Ty.prod (Ty.slice (Ty.prod Ty.i (Ty.prod
  Ty.i Ty.unit))) (Ty.prod (Ty.slice YReadMark) (Ty.prod Ty.i Ty.unit)))))) .nil), .nil⟩

def laws_toEngine_to : Tmpl := ⟨(.agg (.slot (Ty.bool) (.own 0 (.own 1 (.own 2 (.own 3 (.slot Ty.i .nil)))))) .nil), (.tree false 1 (Ty.slice YVersion) (.tree false 1 (Ty.prod Ty.i (Ty.prod Ty.i (Ty.prod Ty.i (Ty.prod Ty.i (Ty.prod Ty.i (Ty.prod Ty.i (Ty.prod Ty.i (Ty.prod (Ty.slice (Ty.prod
  Ty.i (Ty.prod Ty.i Ty.unit))) (Ty.prod (Ty.slice YReadMark) Ty.unit))))))))) (.lst false YReadMark (.lst false YReadMark .nil))))⟩

noncomputable def laws_toEngine_S (x : (Bool × (List (List (Int × Int × Int × Int × Int × Unit)) × Unit) × List (Int × Int × Int × Int × Int × Int × Int × List (Int × Int × Unit) × List (Int × Int × Unit) × Unit) × List (Int × Int × Unit) × List (Int × Int × Unit) × Int × Unit) ×
  Unit) : Option (Bool × Int × List (List (Int × Int × Int × Int × Int × Unit)) × List (Int × Int × Int × Int × Int × Int × Int × List (Int × Int × Unit) × List (Int × Int × Unit) × Unit) × List (Int × Int × Unit) × List (Int × Int × Unit) × Unit) :=
  Option.bind (laws_toStore_S ((x.1.2.1.1, ()), ())) fun v => Option.bind (laws_toTransactionS_S (x.1.2.2.1, ())) fun v_1 => Option.bind (laws_toLockS_S (x.1.2.2.2.1, ())) fun v_2 => Option.bind (laws_toWaitS_S (x.1.2.2.2.2.1, ())) fun v_3 =>
  some (x.1.1, x.1.2.2.2.2.2.1, v.1, v_1.1, v_2.1, v_3.1, ())

noncomputable def laws_toEngine_Ent : Ent := ⟨6, laws_toEngine_ti, laws_toEngine_to, laws_toEngine_S⟩

theorem laws_toEngine_HC : CfgOK Go.Proofs.Tryz.prog laws_toEngine_C := hc_of g_tisOK g_wide (all_cons laws_toStore_OK (all_cons laws_toTransactionS_OK (all_cons laws_toLockS_OK (all_cons laws_toWaitS_OK all_nil))))

theorem laws_toEngine_OK : EntOK Go.Proofs.Tryz.prog laws_toEngine_Ent := ok_of laws_toEngine_HC Go.Proofs.Tryz.func6 0 (by kernel_rfl) (fun k hk => absurd hk (Nat.not_lt_zero k)) (by kernel_rfl) (by kernel_rfl) (fun x => by kernel_rfl)

/-! spec.l3Copy -/

noncomputable def spec_l3Copy_C : Cfg := { ti := g_tis, ents := [], ann := [], lent := 0 }

def spec_l3Copy_ti : Tmpl := ⟨(.slot (Ty.slice YVersion) .nil), .nil⟩

def spec_l3Copy_to : Tmpl := ⟨(.own 0 .nil), (.lst false YVersion .nil)⟩

noncomputable def spec_l3Copy_S (x : List (Int × Int × Int × Int × Int × Unit) × Unit) : Option (List (Int × Int × Int × Int × Int × Unit) × Unit) :=
  if List.length x.1 ≤ 879609302220 then some (x.1, ()) else none

noncomputable def spec_l3Copy_Ent : Ent := ⟨90, spec_l3Copy_ti, spec_l3Copy_to, spec_l3Copy_S⟩

theorem spec_l3Copy_HC : CfgOK Go.Proofs.Tryz.prog spec_l3Copy_C := hc_of g_tisOK g_wide all_nil

theorem spec_l3Copy_OK : EntOK Go.Proofs.Tryz.prog spec_l3Copy_Ent := ok_of spec_l3Copy_HC Go.Proofs.Tryz.func90 0 (by kernel_rfl) (fun k hk => absurd hk (Nat.not_lt_zero k)) (by kernel_rfl) (by kernel_rfl) (fun x => by kernel_rfl)

/-! spec.l4Copy -/

abbrev spec_l4Copy_I3 : Type := List (List (Int × Int × Int × Int × Int × Unit)) × Unit

abbrev spec_l4Copy_V3 : Type := Int × List (List (Int × Int × Int × Int × Int × Unit)) × Unit

abbrev spec_l4Copy_Q3 : Type := List (List (Int × Int × Int × Int × Int × Unit)) × Unit

noncomputable def spec_l4Copy_D3 (i : spec_l4Copy_I3) (v : spec_l4Copy_V3) (R : Type) (K : spec_l4Copy_V3 ⊕ spec_l4Copy_Q3 → Option R) : Option R :=
  bif decide (v.1 < (↑(List.length i.1) : Int)) then Option.bind (lAt i.1 v.1) fun v_1 => Option.bind (spec_l3Copy_S (v_1, ())) fun v_2 => if List.length (v.2.1 ++ [v_2.1]) ≤ 1466015503701 then K (Sum.inl (IntKind.wrap IntKind.i64 (v.1 + 1),
  v.2.1 ++ [v_2.1], ())) else none else K (Sum.inr (v.2.1, ()))

theorem spec_l4Copy_D3_nat : NatD spec_l4Copy_D3 := fun i v R K => nat_bif (nat_bind fun _ => nat_bind fun _ => nat_ite (nat_some)) (nat_some)

def spec_l4Copy_T3 : Tmpl := ⟨(.junk (.ptr 0 0 0 (.ptr 1 0 0 (.ptr 2 0 0 (.slot Ty.i (jk 20 .nil)))))), (.cells 1 (.slot (Ty.slice (Ty.slice YVersion)) .nil) (.cells 1 (.const (AV.nils) .nil) (.cells 1 (.own 3 .nil) (.tree false 0 (Ty.slice YVersion) .nil))))⟩

def spec_l4Copy_X3_0 (i : spec_l4Copy_I3) (p : List (List (Int × Int × Int × Int × Int × Unit)) × Unit) : St := ⟨jn 2 (AV.ptr 1 none 0 0 :: AV.ptr 2 none 0 0 :: jn 21 ([])), [some (Cont.cells 1 [[AV.pv (Ty.slice (Ty.slice (Ty.prod Ty.i (Ty.prod Ty.i (Ty.prod Ty.i (Ty.prod Ty.i (Ty.prod
  Ty.i Ty.unit))))))) i.1]]), some (Cont.cells 1 [[AV.nils]]), some (Cont.cells 1 [[AV.own 3 none none]]), some (Cont.tree false 0 (Ty.slice (Ty.prod Ty.i (Ty.prod Ty.i (Ty.prod (Ty.int
  IntKind.i64) YReadMark)))) p.1 none)]⟩

noncomputable def spec_l4Copy_E3 (i : spec_l4Copy_I3) (p : spec_l4Copy_Q3) (R : Type) (K : Ex → St → Option R) : Option R := K (Ex.exit 0) (spec_l4Copy_X3_0 i p)

noncomputable def spec_l4Copy_K3 (i : spec_l4Copy_I3) (p : spec_l4Copy_Q3) : Ex × St := (Ex.exit 0, spec_l4Copy_X3_0 i p)

def spec_l4Copy_M3 (i : spec_l4Copy_I3) (v : spec_l4Copy_V3) : den spec_l4Copy_T3.ty := (v.1, i.1, v.2.1, ())

def spec_l4Copy_P3 (x : den spec_l4Copy_T3.ty) : spec_l4Copy_I3 × spec_l4Copy_V3 := ((x.2.1, ()), (x.1, x.2.2.1, ()))

noncomputable def spec_l4Copy_C : Cfg := { ti := g_tis, ents := [spec_l3Copy_Ent], ann := [(3, loopFn spec_l4Copy_T3 0 spec_l4Copy_P3 spec_l4Copy_D3 spec_l4Copy_E3)], lent := 0 }

def spec_l4Copy_ti : Tmpl := ⟨(.slot YStore .nil), .nil⟩

def spec_l4Copy_to : Tmpl := ⟨(.agg (.own 0 .nil) .nil), (.tree false 0 (Ty.slice YVersion) .nil)⟩

noncomputable def spec_l4Copy_S (x : (List (List (Int × Int × Int × Int × Int × Unit)) × Unit) × Unit) : Option (List (List (Int × Int × Int × Int × Int × Unit)) × Unit) :=
  Option.bind (iter (fun v => spec_l4Copy_D3 (x.1.1, ()) v _ some) (0, [], ())) fun p => some (p.1, ())

noncomputable def spec_l4Copy_Ent : Ent := ⟨40, spec_l4Copy_ti, spec_l4Copy_to, spec_l4Copy_S⟩

theorem spec_l4Copy_HC : CfgOK Go.Proofs.Tryz.prog spec_l4Copy_C := hc_of g_tisOK g_wide (all_cons spec_l3Copy_OK all_nil)

theorem spec_l4Copy_lk3 : LkOK Go.Proofs.Tryz.prog spec_l4Copy_C (lpc Go.Proofs.Tryz.f40 0) :=
  lk_of spec_l4Copy_HC (m := 0) (T := spec_l4Copy_T3) (sp := spec_l4Copy_P3) (D := spec_l4Copy_D3) (E := spec_l4Copy_E3) (by kernel_rfl) (by kernel_rfl) (fun k hk => absurd hk (Nat.not_lt_zero k)) [2, 3] spec_l4Copy_M3 (fun x => rfl) spec_l4Copy_D3_nat spec_l4Copy_K3 (fun i p R K => rfl) (fun i v => by kernel_rfl)

theorem spec_l4Copy_OK : EntOK Go.Proofs.Tryz.prog spec_l4Copy_Ent := ok_of spec_l4Copy_HC Go.Proofs.Tryz.func40 1 (by kernel_rfl) (fun k hk => match k, hk with | 0, _ => spec_l4Copy_lk3) (by kernel_rfl) (by kernel_rfl) (fun x => by kernel_rfl)

/-! spec.l10Copy -/

noncomputable def spec_l10Copy_C : Cfg := { ti := g_tis, ents := [], ann := [], lent := 0 }

def spec_l10Copy_ti : Tmpl := ⟨(.slot (Ty.slice YReadMark) .nil), .nil⟩

def spec_l10Copy_to : Tmpl := ⟨(.own 0 .nil), (.lst false YReadMark .nil)⟩

noncomputable def spec_l10Copy_S (x : List (Int × Int × Unit) × Unit) : Option (List (Int × Int × Unit) × Unit) :=
  if List.length x.1 ≤ 2199023255552 then some (x.1, ()) else none

noncomputable def spec_l10Copy_Ent : Ent := ⟨41, spec_l10Copy_ti, spec_l10Copy_to, spec_l10Copy_S⟩

theorem spec_l10Copy_HC : CfgOK Go.Proofs.Tryz.prog spec_l10Copy_C := hc_of g_tisOK g_wide all_nil

theorem spec_l10Copy_OK : EntOK Go.Proofs.Tryz.prog spec_l10Copy_Ent := ok_of spec_l10Copy_HC Go.Proofs.Tryz.func41 0 (by kernel_rfl) (fun k hk => absurd hk (Nat.not_lt_zero k)) (by kernel_rfl) (by kernel_rfl) (fun x => by kernel_rfl)

/-! spec.l5Copy -/

noncomputable def spec_l5Copy_C : Cfg := { ti := g_tis, ents := [], ann := [], lent := 0 }

def spec_l5Copy_ti : Tmpl := ⟨(.slot (Ty.prod Ty.i (Ty.prod Ty.i (Ty.prod Ty.i (Ty.prod Ty.i (Ty.prod Ty.i (Ty.prod Ty.i (Ty.prod Ty.i (Ty.prod (Ty.slice (Ty.prod
  Ty.i (Ty.prod Ty.i Ty.unit))) (Ty.prod (Ty.slice YReadMark) Ty.unit))))))))) .nil), .nil⟩

def spec_l5Copy_to : Tmpl := ⟨(.agg (.slot Ty.i (.slot Ty.i (.slot Ty.i (.slot Ty.i (.slot Ty.i (.slot Ty.i (.slot Ty.i (.own 0 (.own 1 .nil))))))))) .nil), (.lst false YReadMark (.lst false YReadMark .nil))⟩

noncomputable def spec_l5Copy_S (x : (Int × Int × Int × Int × Int × Int × Int × List (Int × Int × Unit) × List (Int × Int × Unit) × Unit) × Unit) : Option (Int × Int × Int × Int × Int × Int × Int × List (Int × Int × Unit) × List (Int × Int × Unit) × Unit) :=
  if List.length x.1.2.2.2.2.2.2.2.1 ≤ 2199023255552 then if List.length x.1.2.2.2.2.2.2.2.2.1 ≤ 2199023255552 then some (x.1.1, x.1.2.1, x.1.2.2.1, x.1.2.2.2.1, x.1.2.2.2.2.1, x.1.2.2.2.2.2.1, x.1.2.2.2.2.2.2.1, x.1.2.2.2.2.2.2.2.1,
  x.1.2.2.2.2.2.2.2.2.1, ()) else none else none

noncomputable def spec_l5Copy_Ent : Ent := ⟨42, spec_l5Copy_ti, spec_l5Copy_to, spec_l5Copy_S⟩

theorem spec_l5Copy_HC : CfgOK Go.Proofs.Tryz.prog spec_l5Copy_C := hc_of g_tisOK g_wide all_nil

theorem spec_l5Copy_OK : EntOK Go.Proofs.Tryz.prog spec_l5Copy_Ent := ok_of spec_l5Copy_HC Go.Proofs.Tryz.func42 0 (by kernel_rfl) (fun k hk => absurd hk (Nat.not_lt_zero k)) (by kernel_rfl) (by kernel_rfl) (fun x => by kernel_rfl)

/-! spec.l13Copy -/

abbrev spec_l13Copy_I3 : Type := Bool × List (List (Int × Int × Int × Int × Int × Unit)) × List (Int × Int × Int × Int × Int × Int × Int × List (Int × Int × Unit) × List (Int × Int × Unit) × Unit) × List (Int × Int × Unit) × List (Int × Int × Unit) × Int × Bool × Int × Bool
  × Int × List (List (Int × Int × Int × Int × Int × Unit)) × List (Int × Int × Unit) × List (Int × Int × Unit) × Unit

abbrev spec_l13Copy_V3 : Type := Int × List (Int × Int × Int × Int × Int × Int × Int × List (Int × Int × Unit) × List (Int × Int × Unit) × Unit) × Unit

abbrev spec_l13Copy_Q3 : Type := List (Int × Int × Int × Int × Int × Int × Int × List (Int × Int × Unit) × List (Int × Int × Unit) × Unit) × Unit

noncomputable def spec_l13Copy_D3 (i : spec_l13Copy_I3) (v : spec_l13Copy_V3) (R : Type) (K : spec_l13Copy_V3 ⊕ spec_l13Copy_Q3 → Option R) : Option R :=
  bif decide (v.1 < (↑(List.length i.2.2.1) : Int)) then Option.bind (lAt i.2.2.1 v.1) fun v_1 => Option.bind (spec_l5Copy_S ((v_1.1, v_1.2.1, v_1.2.2.1, v_1.2.2.2.1, v_1.2.2.2.2.1, v_1.2.2.2.2.2.1, v_1.2.2.2.2.2.2.1, v_1.2.2.2.2.2.2.2.1,
  v_1.2.2.2.2.2.2.2.2.1, ()), ())) fun v_2 => if List.length (v.2.1 ++ [(v_2.1, v_2.2.1, v_2.2.2.1, v_2.2.2.2.1, v_2.2.2.2.2.1, v_2.2.2.2.2.2.1, v_2.2.2.2.2.2.2.1, v_2.2.2.2.2.2.2.2.1, v_2.2.2.2.2.2.2.2.2.1, ())]) ≤ 338311270084 then K
  (Sum.inl (IntKind.wrap IntKind.i64 (v.1 + 1), v.2.1 ++ [(v_2.1, v_2.2.1, v_2.2.2.1, v_2.2.2.2.1, v_2.2.2.2.2.1, v_2.2.2.2.2.2.1, v_2.2.2.2.2.2.2.1, v_2.2.2.2.2.2.2.2.1, v_2.2.2.2.2.2.2.2.2.1, ())], ())) else none else K (Sum.inr (v.2.1, ()))

theorem spec_l13Copy_D3_nat : NatD spec_l13Copy_D3 := fun i v R K => nat_bif (nat_bind fun _ => nat_bind fun _ => nat_ite (nat_some)) (nat_some)

def spec_l13Copy_T3 : Tmpl := ⟨(.junk (.ptr 0 0 0 (.ptr 1 0 0 (.ptr 2 0 0 (.slot Ty.i (jk 36 .nil)))))), (.cells 6 (.slot (Ty.bool) (.slot (Ty.slice (Ty.slice YVersion)) (.slot (Ty.slice (Ty.prod Ty.i (Ty.prod Ty.i (Ty.prod Ty.i (Ty.prod Ty.i (Ty.prod Ty.i (Ty.prod Ty.i (Ty.prod Ty.i (Ty.prod (Ty.slice
  YReadMark) (Ty.prod (Ty.slice YReadMark) Ty.unit)))))))))) (.slot (Ty.slice YReadMark) (.slot (Ty.slice YReadMark) (.slot Ty.i .nil)))))) (.cells 6 (.slot (Ty.bool) (.const (AV.nils) (.const (AV.nils) (.const (AV.nils) (.const (AV.nils) (.slot Ty.i .nil)))))) (.cells 6 (.slot (Ty.bool) (.own 3 (.own 6 (.own 4 (.own 5 (.slot Ty.i .nil)))))) (.tree false 0 (Ty.slice YVersion) (.lst false YReadMark (.lst false YReadMark (.tree false 0 (Ty.prod Ty.i (Ty.prod Ty.i (Ty.prod Ty.i (Ty.prod Ty.i (Ty.prod Ty.i (Ty.prod Ty.i (Ty.prod Ty.i (Ty.prod (Ty.slice (Ty.prod
  Ty.i (Ty.prod Ty.i Ty.unit))) (Ty.prod (Ty.slice YReadMark) Ty.unit))))))))) .nil)))))))⟩

def spec_l13Copy_X3_0 (i : spec_l13Copy_I3) (p : List (Int × Int × Int × Int × Int × Int × Int × List (Int × Int × Unit) × List (Int × Int × Unit) × Unit) × Unit) : St := ⟨jn 2 (AV.ptr 1 none 0 0 :: AV.ptr 2 none 0 0 :: jn 37 ([])), [some (Cont.cells 6 [[AV.pv Ty.bool i.1, AV.pv (Ty.slice (Ty.slice (Ty.prod Ty.i (Ty.prod Ty.i (Ty.prod Ty.i (Ty.prod (Ty.int
  IntKind.i64) (Ty.prod Ty.i Ty.unit))))))) i.2.1, AV.pv (Ty.slice (Ty.prod Ty.i (Ty.prod Ty.i (Ty.prod Ty.i (Ty.prod Ty.i (Ty.prod Ty.i (Ty.prod
  Ty.i (Ty.prod Ty.i (Ty.prod (Ty.slice YReadMark) (Ty.prod (Ty.slice YReadMark)
  Ty.unit)))))))))) i.2.2.1, AV.pv (Ty.slice YReadMark) i.2.2.2.1, AV.pv (Ty.slice YReadMark) i.2.2.2.2.1, AV.pv (Ty.int
  IntKind.i64) i.2.2.2.2.2.1]]), some (Cont.cells 6 [[AV.pv Ty.bool i.2.2.2.2.2.2.1, AV.nils, AV.nils, AV.nils, AV.nils, AV.pv Ty.i i.2.2.2.2.2.2.2.1]]), some (Cont.cells 6 [[AV.pv Ty.bool i.2.2.2.2.2.2.2.2.1, AV.own 3 none
  none, AV.own 6 none none, AV.own 4 none none, AV.own 5 none none, AV.pv Ty.i i.2.2.2.2.2.2.2.2.2.1]]), some (Cont.tree false 0 (Ty.slice (Ty.prod Ty.i (Ty.prod Ty.i (Ty.prod (Ty.int
  IntKind.i64) YReadMark)))) i.2.2.2.2.2.2.2.2.2.2.1 none), some (Cont.lst false YReadMark i.2.2.2.2.2.2.2.2.2.2.2.1), some
  (Cont.lst false YReadMark i.2.2.2.2.2.2.2.2.2.2.2.2.1), some (Cont.tree false 0 (Ty.prod Ty.i (Ty.prod Ty.i (Ty.prod Ty.i (Ty.prod
  Ty.i (Ty.prod Ty.i (Ty.prod Ty.i (Ty.prod Ty.i (Ty.prod (Ty.slice YReadMark) (Ty.prod (Ty.slice (Ty.prod (Ty.int
  IntKind.i64) (Ty.prod Ty.i Ty.unit))) Ty.unit))))))))) p.1 none)]⟩

noncomputable def spec_l13Copy_E3 (i : spec_l13Copy_I3) (p : spec_l13Copy_Q3) (R : Type) (K : Ex → St → Option R) : Option R := K (Ex.exit 0) (spec_l13Copy_X3_0 i p)

noncomputable def spec_l13Copy_K3 (i : spec_l13Copy_I3) (p : spec_l13Copy_Q3) : Ex × St := (Ex.exit 0, spec_l13Copy_X3_0 i p)

def spec_l13Copy_M3 (i : spec_l13Copy_I3) (v : spec_l13Copy_V3) : den spec_l13Copy_T3.ty := (v.1, i.1, i.2.1, i.2.2.1, i.2.2.2.1, i.2.2.2.2.1, i.2.2.2.2.2.1, i.2.2.2.2.2.2.1, i.2.2.2.2.2.2.2.1, i.2.2.2.2.2.2.2.2.1, i.2.2.2.2.2.2.2.2.2.1, i.2.2.2.2.2.2.2.2.2.2.1, i.2.2.2.2.2.2.2.2.2.2.2.1, i.2.2.2.2.2.2.2.2.2.2.2.2.1, v.2.1, ())

def spec_l13Copy_P3 (x : den spec_l13Copy_T3.ty) : spec_l13Copy_I3 × spec_l13Copy_V3 := ((x.2.1, x.2.2.1, x.2.2.2.1, x.2.2.2.2.1, x.2.2.2.2.2.1, x.2.2.2.2.2.2.1, x.2.2.2.2.2.2.2.1, x.2.2.2.2.2.2.2.2.1, x.2.2.2.2.2.2.2.2.2.1, x.2.2.2.2.2.2.2.2.2.2.1, x.2.2.2.2.2.2.2.2.2.2.2.1, x.2.2.2.2.2.2.2.2.2.2.2.2.1, x.2.2.2.2.2.2.2.2.2.2.2.2.2.1, ()), (x.1, x.2.2.2.2.2.2.2.2.2.2.2.2.2.2.1, ()))

noncomputable def spec_l13Copy_C : Cfg := { ti := g_tis, ents := [spec_l4Copy_Ent, spec_l10Copy_Ent, spec_l5Copy_Ent], ann := [(3, loopFn spec_l13Copy_T3 0 spec_l13Copy_P3 spec_l13Copy_D3 spec_l13Copy_E3)], lent := 0 }

def spec_l13Copy_ti : Tmpl := ⟨(.slot (Ty.prod Ty.bool (Ty.prod YStore (Ty.prod
  (Ty.slice (Ty.prod Ty.i (Ty.prod Ty.i (Ty.prod Ty.i (Ty.prod Ty.i (Ty.prod Ty.i (Ty.prod Ty.i (Ty.prod Ty.i (Ty.prod (Ty.slice
  YReadMark) (Ty.prod (Ty.slice YReadMark) Ty.unit)))))))))) (Ty.prod (Ty.slice (Ty.prod Ty.i (Ty.prod
  Ty.i Ty.unit))) (Ty.prod (Ty.slice YReadMark) (Ty.prod Ty.i Ty.unit)))))) .nil), .nil⟩

def spec_l13Copy_to : Tmpl := ⟨(.agg (.slot (Ty.bool) (.own 0 (.own 1 (.own 2 (.own 3 (.slot Ty.i .nil)))))) .nil), (.tree false 0 (Ty.slice YVersion) (.tree false 0 (Ty.prod Ty.i (Ty.prod Ty.i (Ty.prod Ty.i (Ty.prod Ty.i (Ty.prod Ty.i (Ty.prod Ty.i (Ty.prod Ty.i (Ty.prod (Ty.slice (Ty.prod
  Ty.i (Ty.prod Ty.i Ty.unit))) (Ty.prod (Ty.slice YReadMark) Ty.unit))))))))) (.lst false YReadMark (.lst false YReadMark .nil))))⟩

noncomputable def spec_l13Copy_S (x : (Bool × (List (List (Int × Int × Int × Int × Int × Unit)) × Unit) × List (Int × Int × Int × Int × Int × Int × Int × List (Int × Int × Unit) × List (Int × Int × Unit) × Unit) × List (Int × Int × Unit) × List (Int × Int × Unit) × Int × Unit) ×
  Unit) : Option (Bool × Int × List (List (Int × Int × Int × Int × Int × Unit)) × List (Int × Int × Int × Int × Int × Int × Int × List (Int × Int × Unit) × List (Int × Int × Unit) × Unit) × List (Int × Int × Unit) × List (Int × Int × Unit) × Unit) :=
  Option.bind (spec_l4Copy_S ((x.1.2.1.1, ()), ())) fun v => Option.bind (spec_l10Copy_S (x.1.2.2.2.1, ())) fun v_1 => if List.length x.1.2.2.2.2.1 ≤ 2199023255552 then Option.bind (iter (fun v_2 => spec_l13Copy_D3 (x.1.1, x.1.2.1.1,
  x.1.2.2.1, x.1.2.2.2.1, x.1.2.2.2.2.1, x.1.2.2.2.2.2.1, false, 0, x.1.1, x.1.2.2.2.2.2.1, v.1, v_1.1, x.1.2.2.2.2.1, ()) v_2 _ some) (0, [], ())) fun p => some (x.1.1, x.1.2.2.2.2.2.1, v.1, p.1, v_1.1, x.1.2.2.2.2.1, ()) else none

noncomputable def spec_l13Copy_Ent : Ent := ⟨15, spec_l13Copy_ti, spec_l13Copy_to, spec_l13Copy_S⟩

theorem spec_l13Copy_HC : CfgOK Go.Proofs.Tryz.prog spec_l13Copy_C := hc_of g_tisOK g_wide (all_cons spec_l4Copy_OK (all_cons spec_l10Copy_OK (all_cons spec_l5Copy_OK all_nil)))

theorem spec_l13Copy_lk3 : LkOK Go.Proofs.Tryz.prog spec_l13Copy_C (lpc Go.Proofs.Tryz.f15 0) :=
  lk_of spec_l13Copy_HC (m := 0) (T := spec_l13Copy_T3) (sp := spec_l13Copy_P3) (D := spec_l13Copy_D3) (E := spec_l13Copy_E3) (by kernel_rfl) (by kernel_rfl) (fun k hk => absurd hk (Nat.not_lt_zero k)) [2, 3] spec_l13Copy_M3 (fun x => rfl) spec_l13Copy_D3_nat spec_l13Copy_K3 (fun i p R K => rfl) (fun i v => by kernel_rfl)

theorem spec_l13Copy_OK : EntOK Go.Proofs.Tryz.prog spec_l13Copy_Ent := ok_of spec_l13Copy_HC Go.Proofs.Tryz.func15 1 (by kernel_rfl) (fun k hk => match k, hk with | 0, _ => spec_l13Copy_lk3) (by kernel_rfl) (by kernel_rfl) (fun x => by kernel_rfl)

/-! spec.l1In -/

noncomputable def spec_l1In_C : Cfg := { ti := g_tis, ents := [], ann := [], lent := 0 }

def spec_l1In_ti : Tmpl := ⟨(.slot Ty.i (.slot Ty.i (.slot Ty.i .nil))), .nil⟩

def spec_l1In_to : Tmpl := ⟨(.slot (Ty.bool) .nil), .nil⟩

noncomputable def spec_l1In_S (x : Int × Int × Int × Unit) : Option (Bool × Unit) :=
  bif decide (x.1 ≥ x.2.1) then some (decide (x.1 ≤ x.2.2.1), ()) else some (false, ())

noncomputable def spec_l1In_Ent : Ent := ⟨46, spec_l1In_ti, spec_l1In_to, spec_l1In_S⟩

theorem spec_l1In_HC : CfgOK Go.Proofs.Tryz.prog spec_l1In_C := hc_of g_tisOK g_wide all_nil

theorem spec_l1In_OK : EntOK Go.Proofs.Tryz.prog spec_l1In_Ent := ok_of spec_l1In_HC Go.Proofs.Tryz.func46 0 (by kernel_rfl) (fun k hk => absurd hk (Nat.not_lt_zero k)) (by kernel_rfl) (by kernel_rfl) (fun x => by kernel_rfl)

/-! spec.IsValidVersion -/

noncomputable def spec_IsValidVersion_C : Cfg := { ti := g_tis, ents := [spec_l1In_Ent], ann := [], lent := 0 }

def spec_IsValidVersion_ti : Tmpl := ⟨(.slot YVersion .nil), .nil⟩

def spec_IsValidVersion_to : Tmpl := ⟨(.slot (Ty.bool) .nil), .nil⟩

noncomputable def spec_IsValidVersion_S (x : (Int × Int × Int × Int × Int × Unit) × Unit) : Option (Bool × Unit) :=
  Option.bind (spec_l1In_S (x.1.2.1, -1, 99, ())) fun v => bif !v.1 then some (false, ()) else Option.bind (spec_l1In_S (x.1.2.2.1, 0, 999, ())) fun v => bif !v.1 then some (false, ()) else Option.bind (spec_l1In_S (x.1.2.2.2.1, x.1.2.2.1,
  999, ())) fun v => bif !v.1 then some (false, ()) else Option.bind (spec_l1In_S (x.1.2.2.2.2.1, 1, 1000, ())) fun v => bif !v.1 then some (false, ()) else bif x.1.2.2.1 == 0 then bif x.1.1 == 0 then some (x.1.2.1 == -1, ()) else some (false,
  ()) else Option.bind (spec_l1In_S (x.1.1, 1, 9, ())) fun v => some (v.1, ())

noncomputable def spec_IsValidVersion_Ent : Ent := ⟨119, spec_IsValidVersion_ti, spec_IsValidVersion_to, spec_IsValidVersion_S⟩

theorem spec_IsValidVersion_HC : CfgOK Go.Proofs.Tryz.prog spec_IsValidVersion_C := hc_of g_tisOK g_wide (all_cons spec_l1In_OK all_nil)

theorem spec_IsValidVersion_OK : EntOK Go.Proofs.Tryz.prog spec_IsValidVersion_Ent := ok_of spec_IsValidVersion_HC Go.Proofs.Tryz.func119 0 (by kernel_rfl) (fun k hk => absurd hk (Nat.not_lt_zero k)) (by kernel_rfl) (by kernel_rfl) (fun x => by kernel_rfl)

/-! spec.IsValidChain -/

abbrev spec_IsValidChain_I2 : Type := List (Int × Int × Int × Int × Int × Unit) × Unit

abbrev spec_IsValidChain_V2 : Type := Int × Unit

abbrev spec_IsValidChain_Q2 : Type := Unit ⊕ Unit ⊕ Unit ⊕ Unit

noncomputable def spec_IsValidChain_D2 (i : spec_IsValidChain_I2) (v : spec_IsValidChain_V2) (R : Type) (K : spec_IsValidChain_V2 ⊕ spec_IsValidChain_Q2 → Option R) : Option R :=
  bif decide (v.1 < (↑(List.length i.1) : Int)) then Option.bind (lAt i.1 v.1) fun v_1 => Option.bind (spec_IsValidVersion_S ((v_1.1, v_1.2.1, v_1.2.2.1, v_1.2.2.2.1, v_1.2.2.2.2.1, ()), ())) fun v_2 => bif !v_2.1 then K (Sum.inr (Sum.inl ()))
  else bif decide (IntKind.wrap IntKind.i64 (v.1 + 1) < (↑(List.length i.1) : Int)) then Option.bind (lAt i.1 v.1) fun v_3 => Option.bind (lAt i.1 (IntKind.wrap IntKind.i64 (v.1 + 1))) fun v_4 => bif decide (v_3.2.2.1 ≥ v_4.2.2.1) then K
  (Sum.inr (Sum.inr (Sum.inl ()))) else Option.bind (lAt i.1 v.1) fun v_5 => Option.bind (lAt i.1 (IntKind.wrap IntKind.i64 (v.1 + 1))) fun v_6 => bif decide (v_5.2.2.2.2.1 > v_6.2.2.1) then K (Sum.inr (Sum.inr (Sum.inr (Sum.inl ())))) else K
  (Sum.inl (IntKind.wrap IntKind.i64 (v.1 + 1), ())) else K (Sum.inl (IntKind.wrap IntKind.i64 (v.1 + 1), ())) else K (Sum.inr (Sum.inr (Sum.inr (Sum.inr ()))))

theorem spec_IsValidChain_D2_nat : NatD spec_IsValidChain_D2 := fun i v R K => nat_bif (nat_bind fun _ => nat_bind fun _ => nat_bif (nat_some) (nat_bif (nat_bind fun _ => nat_bind fun _ => nat_bif (nat_some) (nat_bind fun _ => nat_bind fun _ => nat_bif (nat_some) (nat_some))) (nat_some))) (nat_some)

def spec_IsValidChain_T2 : Tmpl := ⟨(.slot (Ty.slice YVersion) (jk 2 (.slot Ty.i (jk 58 .nil)))), .nil⟩

def spec_IsValidChain_X2_0 (i : spec_IsValidChain_I2) (p : Unit) : St := ⟨AV.pv (Ty.slice YVersion) i.1 :: jn 1 (.b (false) :: jn 59 ([])), []⟩

def spec_IsValidChain_X2_1 (i : spec_IsValidChain_I2) (p : Unit) : St := ⟨AV.pv (Ty.slice YVersion) i.1 :: jn 1 (.b (false) :: jn 59 ([])), []⟩

def spec_IsValidChain_X2_2 (i : spec_IsValidChain_I2) (p : Unit) : St := ⟨AV.pv (Ty.slice YVersion) i.1 :: jn 1 (.b (false) :: jn 59 ([])), []⟩

def spec_IsValidChain_X2_3 (i : spec_IsValidChain_I2) (p : Unit) : St := ⟨AV.pv (Ty.slice YVersion) i.1 :: jn 61 ([]), []⟩

noncomputable def spec_IsValidChain_E2 (i : spec_IsValidChain_I2) (p : spec_IsValidChain_Q2) (R : Type) (K : Ex → St → Option R) : Option R := sumC p (fun p => K (Ex.ret) (spec_IsValidChain_X2_0 i p)) fun p => sumC p (fun p => K (Ex.ret) (spec_IsValidChain_X2_1 i p)) fun p => sumC p (fun p => K (Ex.ret) (spec_IsValidChain_X2_2 i p)) fun p => K (Ex.exit 0) (spec_IsValidChain_X2_3 i p)

noncomputable def spec_IsValidChain_K2 (i : spec_IsValidChain_I2) (p : spec_IsValidChain_Q2) : Ex × St := sumC p (fun p => (Ex.ret, spec_IsValidChain_X2_0 i p)) fun p => sumC p (fun p => (Ex.ret, spec_IsValidChain_X2_1 i p)) fun p => sumC p (fun p => (Ex.ret, spec_IsValidChain_X2_2 i p)) fun p => (Ex.exit 0, spec_IsValidChain_X2_3 i p)

def spec_IsValidChain_M2 (i : spec_IsValidChain_I2) (v : spec_IsValidChain_V2) : den spec_IsValidChain_T2.ty := (i.1, v.1, ())

def spec_IsValidChain_P2 (x : den spec_IsValidChain_T2.ty) : spec_IsValidChain_I2 × spec_IsValidChain_V2 := ((x.1, ()), (x.2.1, ()))

noncomputable def spec_IsValidChain_C : Cfg := { ti := g_tis, ents := [spec_IsValidVersion_Ent], ann := [(2, loopFn spec_IsValidChain_T2 0 spec_IsValidChain_P2 spec_IsValidChain_D2 spec_IsValidChain_E2)], lent := 0 }

def spec_IsValidChain_ti : Tmpl := ⟨(.slot (Ty.slice YVersion) .nil), .nil⟩

def spec_IsValidChain_to : Tmpl := ⟨(.slot (Ty.bool) .nil), .nil⟩

noncomputable def spec_IsValidChain_S (x : List (Int × Int × Int × Int × Int × Unit) × Unit) : Option (Bool × Unit) :=
  Option.bind (iter (fun v => spec_IsValidChain_D2 (x.1, ()) v _ some) (0, ())) fun p => sumC p (fun p => some (false, ())) fun p => sumC p (fun p => some (false, ())) fun p => sumC p (fun p => some (false, ())) fun p => bif decide
  ((↑(List.length x.1) : Int) > 0) then Option.bind (lAt x.1 (IntKind.wrap IntKind.i64 ((↑(List.length x.1) : Int) - 1))) fun v => some (v.2.2.2.2.1 == 1000, ()) else some (false, ())

noncomputable def spec_IsValidChain_Ent : Ent := ⟨91, spec_IsValidChain_ti, spec_IsValidChain_to, spec_IsValidChain_S⟩

theorem spec_IsValidChain_HC : CfgOK Go.Proofs.Tryz.prog spec_IsValidChain_C := hc_of g_tisOK g_wide (all_cons spec_IsValidVersion_OK all_nil)

theorem spec_IsValidChain_lk2 : LkOK Go.Proofs.Tryz.prog spec_IsValidChain_C (lpc Go.Proofs.Tryz.f91 0) :=
  lk_of spec_IsValidChain_HC (m := 0) (T := spec_IsValidChain_T2) (sp := spec_IsValidChain_P2) (D := spec_IsValidChain_D2) (E := spec_IsValidChain_E2) (by kernel_rfl) (by kernel_rfl) (fun k hk => absurd hk (Nat.not_lt_zero k)) [0, 2] spec_IsValidChain_M2 (fun x => rfl) spec_IsValidChain_D2_nat spec_IsValidChain_K2 (fun i p R K => by rcases p with p | p | p | p <;> rfl) (fun i v => by kernel_rfl)

theorem spec_IsValidChain_OK : EntOK Go.Proofs.Tryz.prog spec_IsValidChain_Ent := ok_of spec_IsValidChain_HC Go.Proofs.Tryz.func91 1 (by kernel_rfl) (fun k hk => match k, hk with | 0, _ => spec_IsValidChain_lk2) (by kernel_rfl) (by kernel_rfl) (fun x => by kernel_rfl)

/-! spec.IsValidStore -/

abbrev spec_IsValidStore_I2 : Type := List (List (Int × Int × Int × Int × Int × Unit)) × Unit

abbrev spec_IsValidStore_V2 : Type := Int × Unit

abbrev spec_IsValidStore_Q2 : Type := Unit ⊕ Unit ⊕ Unit ⊕ Unit ⊕ Unit

noncomputable def spec_IsValidStore_D2 (i : spec_IsValidStore_I2) (v : spec_IsValidStore_V2) (R : Type) (K : spec_IsValidStore_V2 ⊕ spec_IsValidStore_Q2 → Option R) : Option R :=
  bif decide (v.1 < (↑(List.length i.1) : Int)) then Option.bind (lAt i.1 v.1) fun v_1 => Option.bind (spec_IsValidChain_S (v_1, ())) fun v_2 => bif !v_2.1 then K (Sum.inr (Sum.inl ())) else Option.bind (lAt i.1 v.1) fun v_3 => Option.bind
  (lAt v_3 0) fun v_4 => bif decide (v_4.2.2.1 > 0) then Option.bind (lAt i.1 v.1) fun v_5 => bif decide ((↑(List.length v_5) : Int) > 50) then K (Sum.inr (Sum.inr (Sum.inl ()))) else Option.bind (lAt i.1 v.1) fun v_6 => bif decide
  ((↑(List.length v_6) : Int) > 50) then K (Sum.inr (Sum.inr (Sum.inr (Sum.inl ())))) else K (Sum.inl (IntKind.wrap IntKind.i64 (v.1 + 1), ())) else Option.bind (lAt i.1 v.1) fun v_5 => bif decide ((↑(List.length v_5) : Int) > 50) then K
  (Sum.inr (Sum.inr (Sum.inr (Sum.inr (Sum.inl ()))))) else K (Sum.inl (IntKind.wrap IntKind.i64 (v.1 + 1), ())) else K (Sum.inr (Sum.inr (Sum.inr (Sum.inr (Sum.inr ())))))

theorem spec_IsValidStore_D2_nat : NatD spec_IsValidStore_D2 := fun i v R K => nat_bif (nat_bind fun _ => nat_bind fun _ => nat_bif (nat_some) (nat_bind fun _ => nat_bind fun _ => nat_bif (nat_bind fun _ => nat_bif (nat_some) (nat_bind fun _ => nat_bif (nat_some) (nat_some))) (nat_bind fun _ => nat_bif (nat_some) (nat_some)))) (nat_some)

def spec_IsValidStore_T2 : Tmpl := ⟨(.junk (.ptr 0 0 0 (.junk (.slot Ty.i (jk 47 .nil))))), (.cells 1 (.slot (Ty.slice (Ty.slice YVersion)) .nil) .nil)⟩

def spec_IsValidStore_X2_0 (i : spec_IsValidStore_I2) (p : Unit) : St := ⟨jn 1 (AV.ptr 0 none 0 0 :: .b (false) :: jn 48 ([])), [some (Cont.cells 1 [[AV.pv (Ty.slice (Ty.slice (Ty.prod Ty.i (Ty.prod Ty.i (Ty.prod Ty.i (Ty.prod Ty.i (Ty.prod (Ty.int
  IntKind.i64) Ty.unit))))))) i.1]])]⟩

def spec_IsValidStore_X2_1 (i : spec_IsValidStore_I2) (p : Unit) : St := ⟨jn 1 (AV.ptr 0 none 0 0 :: .b (false) :: jn 48 ([])), [some (Cont.cells 1 [[AV.pv (Ty.slice (Ty.slice (Ty.prod Ty.i (Ty.prod Ty.i (Ty.prod Ty.i (Ty.prod Ty.i (Ty.prod (Ty.int
  IntKind.i64) Ty.unit))))))) i.1]])]⟩

def spec_IsValidStore_X2_2 (i : spec_IsValidStore_I2) (p : Unit) : St := ⟨jn 1 (AV.ptr 0 none 0 0 :: .b (false) :: jn 48 ([])), [some (Cont.cells 1 [[AV.pv (Ty.slice (Ty.slice (Ty.prod Ty.i (Ty.prod Ty.i (Ty.prod Ty.i (Ty.prod Ty.i (Ty.prod (Ty.int
  IntKind.i64) Ty.unit))))))) i.1]])]⟩

def spec_IsValidStore_X2_3 (i : spec_IsValidStore_I2) (p : Unit) : St := ⟨jn 1 (AV.ptr 0 none 0 0 :: .b (false) :: jn 48 ([])), [some (Cont.cells 1 [[AV.pv (Ty.slice (Ty.slice (Ty.prod Ty.i (Ty.prod Ty.i (Ty.prod Ty.i (Ty.prod Ty.i (Ty.prod (Ty.int
  IntKind.i64) Ty.unit))))))) i.1]])]⟩

def spec_IsValidStore_X2_4 (i : spec_IsValidStore_I2) (p : Unit) : St := ⟨jn 1 (AV.ptr 0 none 0 0 :: jn 49 ([])), [some (Cont.cells 1 [[AV.pv (Ty.slice (Ty.slice (Ty.prod Ty.i (Ty.prod Ty.i (Ty.prod Ty.i (Ty.prod Ty.i (Ty.prod Ty.i
  Ty.unit))))))) i.1]])]⟩

noncomputable def spec_IsValidStore_E2 (i : spec_IsValidStore_I2) (p : spec_IsValidStore_Q2) (R : Type) (K : Ex → St → Option R) : Option R := sumC p (fun p => K (Ex.ret) (spec_IsValidStore_X2_0 i p)) fun p => sumC p (fun p => K (Ex.ret) (spec_IsValidStore_X2_1 i p)) fun p => sumC p (fun p => K (Ex.ret) (spec_IsValidStore_X2_2 i p)) fun p => sumC p (fun p => K (Ex.ret) (spec_IsValidStore_X2_3 i p)) fun p => K (Ex.exit 0) (spec_IsValidStore_X2_4 i p)

noncomputable def spec_IsValidStore_K2 (i : spec_IsValidStore_I2) (p : spec_IsValidStore_Q2) : Ex × St := sumC p (fun p => (Ex.ret, spec_IsValidStore_X2_0 i p)) fun p => sumC p (fun p => (Ex.ret, spec_IsValidStore_X2_1 i p)) fun p => sumC p (fun p => (Ex.ret, spec_IsValidStore_X2_2 i p)) fun p => sumC p (fun p => (Ex.ret, spec_IsValidStore_X2_3 i p)) fun p => (Ex.exit 0, spec_IsValidStore_X2_4 i p)

def spec_IsValidStore_M2 (i : spec_IsValidStore_I2) (v : spec_IsValidStore_V2) : den spec_IsValidStore_T2.ty := (v.1, i.1, ())

def spec_IsValidStore_P2 (x : den spec_IsValidStore_T2.ty) : spec_IsValidStore_I2 × spec_IsValidStore_V2 := ((x.2.1, ()), (x.1, ()))

noncomputable def spec_IsValidStore_C : Cfg := { ti := g_tis, ents := [spec_IsValidChain_Ent], ann := [(2, loopFn spec_IsValidStore_T2 0 spec_IsValidStore_P2 spec_IsValidStore_D2 spec_IsValidStore_E2)], lent := 0 }

def spec_IsValidStore_ti : Tmpl := ⟨(.slot YStore .nil), .nil⟩

def spec_IsValidStore_to : Tmpl := ⟨(.slot (Ty.bool) .nil), .nil⟩

noncomputable def spec_IsValidStore_S (x : (List (List (Int × Int × Int × Int × Int × Unit)) × Unit) × Unit) : Option (Bool × Unit) :=
  Option.bind (iter (fun v => spec_IsValidStore_D2 (x.1.1, ()) v _ some) (0, ())) fun p => sumC p (fun p => some (false, ())) fun p => sumC p (fun p => some (false, ())) fun p => sumC p (fun p => some (false, ())) fun p => sumC p
  (fun p => some (false, ())) fun p => some ((↑(List.length x.1.1) : Int) == 6, ())

noncomputable def spec_IsValidStore_Ent : Ent := ⟨43, spec_IsValidStore_ti, spec_IsValidStore_to, spec_IsValidStore_S⟩

theorem spec_IsValidStore_HC : CfgOK Go.Proofs.Tryz.prog spec_IsValidStore_C := hc_of g_tisOK g_wide (all_cons spec_IsValidChain_OK all_nil)

theorem spec_IsValidStore_lk2 : LkOK Go.Proofs.Tryz.prog spec_IsValidStore_C (lpc Go.Proofs.Tryz.f43 0) :=
  lk_of spec_IsValidStore_HC (m := 0) (T := spec_IsValidStore_T2) (sp := spec_IsValidStore_P2) (D := spec_IsValidStore_D2) (E := spec_IsValidStore_E2) (by kernel_rfl) (by kernel_rfl) (fun k hk => absurd hk (Nat.not_lt_zero k)) [1, 2] spec_IsValidStore_M2 (fun x => rfl) spec_IsValidStore_D2_nat spec_IsValidStore_K2 (fun i p R K => by rcases p with p | p | p | p | p <;> rfl) (fun i v => by kernel_rfl)

theorem spec_IsValidStore_OK : EntOK Go.Proofs.Tryz.prog spec_IsValidStore_Ent := ok_of spec_IsValidStore_HC Go.Proofs.Tryz.func43 1 (by kernel_rfl) (fun k hk => match k, hk with | 0, _ => spec_IsValidStore_lk2) (by kernel_rfl) (by kernel_rfl) (fun x => by kernel_rfl)

/-! spec.AreLocks -/

abbrev spec_AreLocks_I2 : Type := List (Int × Int × Unit) × Unit

abbrev spec_AreLocks_V2 : Type := Int × Unit

abbrev spec_AreLocks_Q2 : Type := Unit ⊕ Unit ⊕ Unit ⊕ Unit

noncomputable def spec_AreLocks_D2 (i : spec_AreLocks_I2) (v : spec_AreLocks_V2) (R : Type) (K : spec_AreLocks_V2 ⊕ spec_AreLocks_Q2 → Option R) : Option R :=
  bif decide (v.1 < (↑(List.length i.1) : Int)) then Option.bind (lAt i.1 v.1) fun v_1 => Option.bind (spec_l1In_S (v_1.1, 0, 5, ())) fun v_2 => bif !v_2.1 then K (Sum.inr (Sum.inl ())) else Option.bind (lAt i.1 v.1) fun v_3 => Option.bind
  (spec_l1In_S (v_3.2.1, 1, 9, ())) fun v_4 => bif !v_4.1 then K (Sum.inr (Sum.inr (Sum.inl ()))) else bif decide (v.1 > 0) then Option.bind (lAt i.1 (IntKind.wrap IntKind.i64 (v.1 - 1))) fun v_5 => Option.bind (lAt i.1 v.1) fun v_6 => bif
  decide (v_5.1 ≥ v_6.1) then K (Sum.inr (Sum.inr (Sum.inr (Sum.inl ())))) else K (Sum.inl (IntKind.wrap IntKind.i64 (v.1 + 1), ())) else K (Sum.inl (IntKind.wrap IntKind.i64 (v.1 + 1), ())) else K (Sum.inr (Sum.inr (Sum.inr (Sum.inr ()))))

theorem spec_AreLocks_D2_nat : NatD spec_AreLocks_D2 := fun i v R K => nat_bif (nat_bind fun _ => nat_bind fun _ => nat_bif (nat_some) (nat_bind fun _ => nat_bind fun _ => nat_bif (nat_some) (nat_bif (nat_bind fun _ => nat_bind fun _ => nat_bif (nat_some) (nat_some)) (nat_some)))) (nat_some)

def spec_AreLocks_T2 : Tmpl := ⟨(.slot (Ty.slice YReadMark) (jk 2 (.slot Ty.i (jk 40 .nil)))), .nil⟩

def spec_AreLocks_X2_0 (i : spec_AreLocks_I2) (p : Unit) : St := ⟨jn 2 (.b (false) :: jn 41 ([])), []⟩

def spec_AreLocks_X2_1 (i : spec_AreLocks_I2) (p : Unit) : St := ⟨jn 2 (.b (false) :: jn 41 ([])), []⟩

def spec_AreLocks_X2_2 (i : spec_AreLocks_I2) (p : Unit) : St := ⟨jn 2 (.b (false) :: jn 41 ([])), []⟩

def spec_AreLocks_X2_3 (i : spec_AreLocks_I2) (p : Unit) : St := ⟨jn 44 ([]), []⟩

noncomputable def spec_AreLocks_E2 (i : spec_AreLocks_I2) (p : spec_AreLocks_Q2) (R : Type) (K : Ex → St → Option R) : Option R := sumC p (fun p => K (Ex.ret) (spec_AreLocks_X2_0 i p)) fun p => sumC p (fun p => K (Ex.ret) (spec_AreLocks_X2_1 i p)) fun p => sumC p (fun p => K (Ex.ret) (spec_AreLocks_X2_2 i p)) fun p => K (Ex.exit 0) (spec_AreLocks_X2_3 i p)

noncomputable def spec_AreLocks_K2 (i : spec_AreLocks_I2) (p : spec_AreLocks_Q2) : Ex × St := sumC p (fun p => (Ex.ret, spec_AreLocks_X2_0 i p)) fun p => sumC p (fun p => (Ex.ret, spec_AreLocks_X2_1 i p)) fun p => sumC p (fun p => (Ex.ret, spec_AreLocks_X2_2 i p)) fun p => (Ex.exit 0, spec_AreLocks_X2_3 i p)

def spec_AreLocks_M2 (i : spec_AreLocks_I2) (v : spec_AreLocks_V2) : den spec_AreLocks_T2.ty := (i.1, v.1, ())

def spec_AreLocks_P2 (x : den spec_AreLocks_T2.ty) : spec_AreLocks_I2 × spec_AreLocks_V2 := ((x.1, ()), (x.2.1, ()))

noncomputable def spec_AreLocks_C : Cfg := { ti := g_tis, ents := [spec_l1In_Ent], ann := [(2, loopFn spec_AreLocks_T2 0 spec_AreLocks_P2 spec_AreLocks_D2 spec_AreLocks_E2)], lent := 0 }

def spec_AreLocks_ti : Tmpl := ⟨(.slot (Ty.slice YReadMark) .nil), .nil⟩

def spec_AreLocks_to : Tmpl := ⟨(.slot (Ty.bool) .nil), .nil⟩

noncomputable def spec_AreLocks_S (x : List (Int × Int × Unit) × Unit) : Option (Bool × Unit) :=
  Option.bind (iter (fun v => spec_AreLocks_D2 (x.1, ()) v _ some) (0, ())) fun p => sumC p (fun p => some (false, ())) fun p => sumC p (fun p => some (false, ())) fun p => sumC p (fun p => some (false, ())) fun p => some (true, ())

noncomputable def spec_AreLocks_Ent : Ent := ⟨44, spec_AreLocks_ti, spec_AreLocks_to, spec_AreLocks_S⟩

theorem spec_AreLocks_HC : CfgOK Go.Proofs.Tryz.prog spec_AreLocks_C := hc_of g_tisOK g_wide (all_cons spec_l1In_OK all_nil)

theorem spec_AreLocks_lk2 : LkOK Go.Proofs.Tryz.prog spec_AreLocks_C (lpc Go.Proofs.Tryz.f44 0) :=
  lk_of spec_AreLocks_HC (m := 0) (T := spec_AreLocks_T2) (sp := spec_AreLocks_P2) (D := spec_AreLocks_D2) (E := spec_AreLocks_E2) (by kernel_rfl) (by kernel_rfl) (fun k hk => absurd hk (Nat.not_lt_zero k)) [2] spec_AreLocks_M2 (fun x => rfl) spec_AreLocks_D2_nat spec_AreLocks_K2 (fun i p R K => by rcases p with p | p | p | p <;> rfl) (fun i v => by kernel_rfl)

theorem spec_AreLocks_OK : EntOK Go.Proofs.Tryz.prog spec_AreLocks_Ent := ok_of spec_AreLocks_HC Go.Proofs.Tryz.func44 1 (by kernel_rfl) (fun k hk => match k, hk with | 0, _ => spec_AreLocks_lk2) (by kernel_rfl) (by kernel_rfl) (fun x => by kernel_rfl)

/-! spec.AreWaits -/

abbrev spec_AreWaits_I2 : Type := List (Int × Int × Unit) × Unit

abbrev spec_AreWaits_V2 : Type := Int × Unit

abbrev spec_AreWaits_Q2 : Type := Unit ⊕ Unit ⊕ Unit ⊕ Unit ⊕ Unit

noncomputable def spec_AreWaits_D2 (i : spec_AreWaits_I2) (v : spec_AreWaits_V2) (R : Type) (K : spec_AreWaits_V2 ⊕ spec_AreWaits_Q2 → Option R) : Option R :=
  bif decide (v.1 < (↑(List.length i.1) : Int)) then Option.bind (lAt i.1 v.1) fun v_1 => Option.bind (spec_l1In_S (v_1.1, 1, 9, ())) fun v_2 => bif !v_2.1 then K (Sum.inr (Sum.inl ())) else Option.bind (lAt i.1 v.1) fun v_3 => Option.bind
  (spec_l1In_S (v_3.2.1, 1, 9, ())) fun v_4 => bif !v_4.1 then K (Sum.inr (Sum.inr (Sum.inl ()))) else Option.bind (lAt i.1 v.1) fun v_5 => Option.bind (lAt i.1 v.1) fun v_6 => bif v_5.1 == v_6.2.1 then K (Sum.inr (Sum.inr (Sum.inr (Sum.inl
  ())))) else bif decide (v.1 > 0) then Option.bind (lAt i.1 (IntKind.wrap IntKind.i64 (v.1 - 1))) fun v_7 => Option.bind (lAt i.1 v.1) fun v_8 => bif decide (v_7.1 ≥ v_8.1) then K (Sum.inr (Sum.inr (Sum.inr (Sum.inr (Sum.inl ()))))) else K
  (Sum.inl (IntKind.wrap IntKind.i64 (v.1 + 1), ())) else K (Sum.inl (IntKind.wrap IntKind.i64 (v.1 + 1), ())) else K (Sum.inr (Sum.inr (Sum.inr (Sum.inr (Sum.inr ())))))

theorem spec_AreWaits_D2_nat : NatD spec_AreWaits_D2 := fun i v R K => nat_bif (nat_bind fun _ => nat_bind fun _ => nat_bif (nat_some) (nat_bind fun _ => nat_bind fun _ => nat_bif (nat_some) (nat_bind fun _ => nat_bind fun _ => nat_bif (nat_some) (nat_bif (nat_bind fun _ => nat_bind fun _ => nat_bif (nat_some) (nat_some)) (nat_some))))) (nat_some)

def spec_AreWaits_T2 : Tmpl := ⟨(.slot (Ty.slice YReadMark) (jk 2 (.slot Ty.i (jk 53 .nil)))), .nil⟩

def spec_AreWaits_X2_0 (i : spec_AreWaits_I2) (p : Unit) : St := ⟨jn 2 (.b (false) :: jn 54 ([])), []⟩

def spec_AreWaits_X2_1 (i : spec_AreWaits_I2) (p : Unit) : St := ⟨jn 2 (.b (false) :: jn 54 ([])), []⟩

def spec_AreWaits_X2_2 (i : spec_AreWaits_I2) (p : Unit) : St := ⟨jn 2 (.b (false) :: jn 54 ([])), []⟩

def spec_AreWaits_X2_3 (i : spec_AreWaits_I2) (p : Unit) : St := ⟨jn 2 (.b (false) :: jn 54 ([])), []⟩

def spec_AreWaits_X2_4 (i : spec_AreWaits_I2) (p : Unit) : St := ⟨jn 57 ([]), []⟩

noncomputable def spec_AreWaits_E2 (i : spec_AreWaits_I2) (p : spec_AreWaits_Q2) (R : Type) (K : Ex → St → Option R) : Option R := sumC p (fun p => K (Ex.ret) (spec_AreWaits_X2_0 i p)) fun p => sumC p (fun p => K (Ex.ret) (spec_AreWaits_X2_1 i p)) fun p => sumC p (fun p => K (Ex.ret) (spec_AreWaits_X2_2 i p)) fun p => sumC p (fun p => K (Ex.ret) (spec_AreWaits_X2_3 i p)) fun p => K (Ex.exit 0) (spec_AreWaits_X2_4 i p)

noncomputable def spec_AreWaits_K2 (i : spec_AreWaits_I2) (p : spec_AreWaits_Q2) : Ex × St := sumC p (fun p => (Ex.ret, spec_AreWaits_X2_0 i p)) fun p => sumC p (fun p => (Ex.ret, spec_AreWaits_X2_1 i p)) fun p => sumC p (fun p => (Ex.ret, spec_AreWaits_X2_2 i p)) fun p => sumC p (fun p => (Ex.ret, spec_AreWaits_X2_3 i p)) fun p => (Ex.exit 0, spec_AreWaits_X2_4 i p)

def spec_AreWaits_M2 (i : spec_AreWaits_I2) (v : spec_AreWaits_V2) : den spec_AreWaits_T2.ty := (i.1, v.1, ())

def spec_AreWaits_P2 (x : den spec_AreWaits_T2.ty) : spec_AreWaits_I2 × spec_AreWaits_V2 := ((x.1, ()), (x.2.1, ()))

noncomputable def spec_AreWaits_C : Cfg := { ti := g_tis, ents := [spec_l1In_Ent], ann := [(2, loopFn spec_AreWaits_T2 0 spec_AreWaits_P2 spec_AreWaits_D2 spec_AreWaits_E2)], lent := 0 }

def spec_AreWaits_ti : Tmpl := ⟨(.slot (Ty.slice YReadMark) .nil), .nil⟩

def spec_AreWaits_to : Tmpl := ⟨(.slot (Ty.bool) .nil), .nil⟩

noncomputable def spec_AreWaits_S (x : List (Int × Int × Unit) × Unit) : Option (Bool × Unit) :=
  Option.bind (iter (fun v => spec_AreWaits_D2 (x.1, ()) v _ some) (0, ())) fun p => sumC p (fun p => some (false, ())) fun p => sumC p (fun p => some (false, ())) fun p => sumC p (fun p => some (false, ())) fun p => sumC p (fun p =>
  some (false, ())) fun p => some (true, ())

noncomputable def spec_AreWaits_Ent : Ent := ⟨45, spec_AreWaits_ti, spec_AreWaits_to, spec_AreWaits_S⟩

theorem spec_AreWaits_HC : CfgOK Go.Proofs.Tryz.prog spec_AreWaits_C := hc_of g_tisOK g_wide (all_cons spec_l1In_OK all_nil)

theorem spec_AreWaits_lk2 : LkOK Go.Proofs.Tryz.prog spec_AreWaits_C (lpc Go.Proofs.Tryz.f45 0) :=
  lk_of spec_AreWaits_HC (m := 0) (T := spec_AreWaits_T2) (sp := spec_AreWaits_P2) (D := spec_AreWaits_D2) (E := spec_AreWaits_E2) (by kernel_rfl) (by kernel_rfl) (fun k hk => absurd hk (Nat.not_lt_zero k)) [2] spec_AreWaits_M2 (fun x => rfl) spec_AreWaits_D2_nat spec_AreWaits_K2 (fun i p R K => by rcases p with p | p | p | p | p <;> rfl) (fun i v => by kernel_rfl)

theorem spec_AreWaits_OK : EntOK Go.Proofs.Tryz.prog spec_AreWaits_Ent := ok_of spec_AreWaits_HC Go.Proofs.Tryz.func45 1 (by kernel_rfl) (fun k hk => match k, hk with | 0, _ => spec_AreWaits_lk2) (by kernel_rfl) (by kernel_rfl) (fun x => by kernel_rfl)

/-! spec.LastStamp -/

abbrev spec_LastStamp_I6 : Type := Int × List (List (Int × Int × Int × Int × Int × Unit)) × Unit

abbrev spec_LastStamp_V6 : Type := Int × Int × Unit

abbrev spec_LastStamp_Q6 : Type := Int × Unit

noncomputable def spec_LastStamp_D6 (i : spec_LastStamp_I6) (v : spec_LastStamp_V6) (R : Type) (K : spec_LastStamp_V6 ⊕ spec_LastStamp_Q6 → Option R) : Option R :=
  Option.bind (lAt i.2.1 i.1) fun v_1 => bif decide (v.2.1 < (↑(List.length v_1) : Int)) then Option.bind (lAt i.2.1 i.1) fun v_2 => Option.bind (lAt v_2 v.2.1) fun v_3 => Option.bind (lAt i.2.1 i.1) fun v_4 => Option.bind (lAt v_4 v.2.1) fun
  v_5 => K (Sum.inl (mx (mx v.1 v_3.2.2.1) v_5.2.2.2.1, IntKind.wrap IntKind.i64 (v.2.1 + 1), ())) else K (Sum.inr (v.1, ()))

theorem spec_LastStamp_D6_nat : NatD spec_LastStamp_D6 := fun i v R K => nat_bind fun _ => nat_bif (nat_bind fun _ => nat_bind fun _ => nat_bind fun _ => nat_bind fun _ => nat_some) (nat_some)

def spec_LastStamp_T6 : Tmpl := ⟨(.junk (.ptr 0 0 0 (.junk (.slot Ty.i (.slot Ty.i (.slot Ty.i (jk 42 .nil))))))), (.cells 1 (.slot (Ty.slice (Ty.slice YVersion)) .nil) .nil)⟩

def spec_LastStamp_X6_0 (i : spec_LastStamp_I6) (p : Int × Unit) : St := ⟨jn 1 (AV.ptr 0 none 0 0 :: jn 1 (.n (p.1) :: .n (i.1) :: jn 43 ([]))), [some (Cont.cells 1 [[AV.pv (Ty.slice (Ty.slice (Ty.prod Ty.i (Ty.prod Ty.i (Ty.prod Ty.i (Ty.prod Ty.i
  (Ty.prod Ty.i Ty.unit))))))) i.2.1]])]⟩

noncomputable def spec_LastStamp_E6 (i : spec_LastStamp_I6) (p : spec_LastStamp_Q6) (R : Type) (K : Ex → St → Option R) : Option R := K (Ex.exit 2) (spec_LastStamp_X6_0 i p)

noncomputable def spec_LastStamp_K6 (i : spec_LastStamp_I6) (p : spec_LastStamp_Q6) : Ex × St := (Ex.exit 2, spec_LastStamp_X6_0 i p)

def spec_LastStamp_M6 (i : spec_LastStamp_I6) (v : spec_LastStamp_V6) : den spec_LastStamp_T6.ty := (v.1, i.1, v.2.1, i.2.1, ())

def spec_LastStamp_P6 (x : den spec_LastStamp_T6.ty) : spec_LastStamp_I6 × spec_LastStamp_V6 := ((x.2.1, x.2.2.2.1, ()), (x.1, x.2.2.1, ()))

abbrev spec_LastStamp_I3 : Type := List (List (Int × Int × Int × Int × Int × Unit)) × Unit

abbrev spec_LastStamp_V3 : Type := Int × Int × Unit

abbrev spec_LastStamp_Q3 : Type := Int × Unit ⊕ Int × Unit

noncomputable def spec_LastStamp_D3 (i : spec_LastStamp_I3) (v : spec_LastStamp_V3) (R : Type) (K : spec_LastStamp_V3 ⊕ spec_LastStamp_Q3 → Option R) : Option R :=
  bif decide (v.2.1 < (↑(List.length i.1) : Int)) then Option.bind (spec_IsValidStore_S ((i.1, ()), ())) fun v_1 => bif v_1.1 then Option.bind (iter (fun v_2 => spec_LastStamp_D6 (v.2.1, i.1, ()) v_2 _ some) (v.1, 0, ())) fun p => K
  (Sum.inl (p.1, IntKind.wrap IntKind.i64 (v.2.1 + 1), ())) else K (Sum.inr (Sum.inl (v.1, ()))) else K (Sum.inr (Sum.inr (v.1, ())))

theorem spec_LastStamp_D3_nat : NatD spec_LastStamp_D3 := fun i v R K => nat_bif (nat_bind fun _ => nat_bif (nat_bind fun _ => nat_some) (nat_some)) (nat_some)

def spec_LastStamp_T3 : Tmpl := ⟨(.junk (.ptr 0 0 0 (.junk (.slot Ty.i (.slot Ty.i (jk 43 .nil)))))), (.cells 1 (.slot (Ty.slice (Ty.slice YVersion)) .nil) .nil)⟩

def spec_LastStamp_X3_0 (i : spec_LastStamp_I3) (p : Int × Unit) : St := ⟨jn 3 (.n (p.1) :: jn 44 ([])), [some (Cont.cells 1 [[AV.pv (Ty.slice (Ty.slice (Ty.prod Ty.i (Ty.prod Ty.i (Ty.prod Ty.i (Ty.prod Ty.i (Ty.prod Ty.i
  Ty.unit))))))) i.1]])]⟩

def spec_LastStamp_X3_1 (i : spec_LastStamp_I3) (p : Int × Unit) : St := ⟨jn 3 (.n (p.1) :: jn 44 ([])), [some (Cont.cells 1 [[AV.pv (Ty.slice (Ty.slice (Ty.prod Ty.i (Ty.prod Ty.i (Ty.prod Ty.i (Ty.prod Ty.i (Ty.prod Ty.i
  Ty.unit))))))) i.1]])]⟩

noncomputable def spec_LastStamp_E3 (i : spec_LastStamp_I3) (p : spec_LastStamp_Q3) (R : Type) (K : Ex → St → Option R) : Option R := sumC p (fun p => K (Ex.exit 0) (spec_LastStamp_X3_0 i p)) fun p => K (Ex.exit 0) (spec_LastStamp_X3_1 i p)

noncomputable def spec_LastStamp_K3 (i : spec_LastStamp_I3) (p : spec_LastStamp_Q3) : Ex × St := sumC p (fun p => (Ex.exit 0, spec_LastStamp_X3_0 i p)) fun p => (Ex.exit 0, spec_LastStamp_X3_1 i p)

def spec_LastStamp_M3 (i : spec_LastStamp_I3) (v : spec_LastStamp_V3) : den spec_LastStamp_T3.ty := (v.1, v.2.1, i.1, ())

def spec_LastStamp_P3 (x : den spec_LastStamp_T3.ty) : spec_LastStamp_I3 × spec_LastStamp_V3 := ((x.2.2.1, ()), (x.1, x.2.1, ()))

noncomputable def spec_LastStamp_C : Cfg := { ti := g_tis, ents := [spec_IsValidStore_Ent], ann := [(6, loopFn spec_LastStamp_T6 0 spec_LastStamp_P6 spec_LastStamp_D6 spec_LastStamp_E6), (3, loopFn spec_LastStamp_T3 0 spec_LastStamp_P3 spec_LastStamp_D3 spec_LastStamp_E3)], lent := 0 }

def spec_LastStamp_ti : Tmpl := ⟨(.slot YStore .nil), .nil⟩

def spec_LastStamp_to : Tmpl := ⟨(.slot Ty.i .nil), .nil⟩

noncomputable def spec_LastStamp_S (x : (List (List (Int × Int × Int × Int × Int × Unit)) × Unit) × Unit) : Option (Int × Unit) :=
  Option.bind (iter (fun v => spec_LastStamp_D3 (x.1.1, ()) v _ some) (0, 0, ())) fun p => sumC p (fun p => some (p.1, ())) fun p => some (p.1, ())

noncomputable def spec_LastStamp_Ent : Ent := ⟨47, spec_LastStamp_ti, spec_LastStamp_to, spec_LastStamp_S⟩

theorem spec_LastStamp_HC : CfgOK Go.Proofs.Tryz.prog spec_LastStamp_C := hc_of g_tisOK g_wide (all_cons spec_IsValidStore_OK all_nil)

theorem spec_LastStamp_lk6 : LkOK Go.Proofs.Tryz.prog spec_LastStamp_C (lpc Go.Proofs.Tryz.f47 1) :=
  lk_of spec_LastStamp_HC (m := 0) (T := spec_LastStamp_T6) (sp := spec_LastStamp_P6) (D := spec_LastStamp_D6) (E := spec_LastStamp_E6) (by kernel_rfl) (by kernel_rfl) (fun k hk => absurd hk (Nat.not_lt_zero k)) [1, 3, 4] spec_LastStamp_M6 (fun x => rfl) spec_LastStamp_D6_nat spec_LastStamp_K6 (fun i p R K => rfl) (fun i v => by kernel_rfl)

theorem spec_LastStamp_lk3 : LkOK Go.Proofs.Tryz.prog spec_LastStamp_C (lpc Go.Proofs.Tryz.f47 0) :=
  lk_of spec_LastStamp_HC (m := 1) (T := spec_LastStamp_T3) (sp := spec_LastStamp_P3) (D := spec_LastStamp_D3) (E := spec_LastStamp_E3) (by kernel_rfl) (by kernel_rfl) (fun k hk => match k, hk with | 0, _ => lk_at (by kernel_rfl) spec_LastStamp_lk6) [3] spec_LastStamp_M3 (fun x => rfl) spec_LastStamp_D3_nat spec_LastStamp_K3 (fun i p R K => by rcases p with p | p <;> rfl) (fun i v => by kernel_rfl)

theorem spec_LastStamp_OK : EntOK Go.Proofs.Tryz.prog spec_LastStamp_Ent := ok_of spec_LastStamp_HC Go.Proofs.Tryz.func47 2 (by kernel_rfl) (fun k hk => match k, hk with | 0, _ => spec_LastStamp_lk3 | 1, _ => spec_LastStamp_lk6) (by kernel_rfl) (by kernel_rfl) (fun x => by kernel_rfl)

/-! spec.l5Before -/

noncomputable def spec_l5Before_C : Cfg := { ti := g_tis, ents := [], ann := [], lent := 0 }

def spec_l5Before_ti : Tmpl := ⟨(.slot YReadMark (.slot YReadMark .nil)), .nil⟩

def spec_l5Before_to : Tmpl := ⟨(.slot (Ty.bool) .nil), .nil⟩

noncomputable def spec_l5Before_S (x : (Int × Int × Unit) × (Int × Int × Unit) × Unit) : Option (Bool × Unit) :=
  bif decide (x.1.1 < x.2.1.1) then some (true, ()) else bif x.1.1 == x.2.1.1 then some (decide (x.1.2.1 < x.2.1.2.1), ()) else some (false, ())

noncomputable def spec_l5Before_Ent : Ent := ⟨92, spec_l5Before_ti, spec_l5Before_to, spec_l5Before_S⟩

theorem spec_l5Before_HC : CfgOK Go.Proofs.Tryz.prog spec_l5Before_C := hc_of g_tisOK g_wide all_nil

theorem spec_l5Before_OK : EntOK Go.Proofs.Tryz.prog spec_l5Before_Ent := ok_of spec_l5Before_HC Go.Proofs.Tryz.func92 0 (by kernel_rfl) (fun k hk => absurd hk (Nat.not_lt_zero k)) (by kernel_rfl) (by kernel_rfl) (fun x => by kernel_rfl)

/-! spec.IsValidTransaction -/

abbrev spec_IsValidTransaction_I2 : Type := Int × Int × Int × Int × Int × Int × Int × List (Int × Int × Unit) × List (Int × Int × Unit) × Unit

abbrev spec_IsValidTransaction_V2 : Type := Int × Unit

abbrev spec_IsValidTransaction_Q2 : Type := Int × Int × Unit ⊕ Int × Int × Unit ⊕ Int × Int × Unit ⊕ Unit

noncomputable def spec_IsValidTransaction_D2 (i : spec_IsValidTransaction_I2) (v : spec_IsValidTransaction_V2) (R : Type) (K : spec_IsValidTransaction_V2 ⊕ spec_IsValidTransaction_Q2 → Option R) : Option R :=
  bif decide (v.1 < (↑(List.length i.2.2.2.2.2.2.2.1) : Int)) then Option.bind (lAt i.2.2.2.2.2.2.2.1 v.1) fun v_1 => Option.bind (spec_l1In_S (v_1.1, 0, 5, ())) fun v_2 => bif !v_2.1 then K (Sum.inr (Sum.inl (v_1.1, v_1.2.1, ()))) else
  Option.bind (spec_l1In_S (v_1.2.1, 0, 999, ())) fun v_3 => bif !v_3.1 then K (Sum.inr (Sum.inr (Sum.inl (v_1.1, v_1.2.1, ())))) else bif decide (v.1 > 0) then Option.bind (lAt i.2.2.2.2.2.2.2.1 (IntKind.wrap IntKind.i64 (v.1 - 1))) fun v_4
  => Option.bind (spec_l5Before_S ((v_4.1, v_4.2.1, ()), (v_1.1, v_1.2.1, ()), ())) fun v_5 => bif !v_5.1 then K (Sum.inr (Sum.inr (Sum.inr (Sum.inl (v_1.1, v_1.2.1, ()))))) else K (Sum.inl (IntKind.wrap IntKind.i64 (v.1 + 1), ())) else K
  (Sum.inl (IntKind.wrap IntKind.i64 (v.1 + 1), ())) else K (Sum.inr (Sum.inr (Sum.inr (Sum.inr ()))))

theorem spec_IsValidTransaction_D2_nat : NatD spec_IsValidTransaction_D2 := fun i v R K => nat_bif (nat_bind fun _ => nat_bind fun _ => nat_bif (nat_some) (nat_bind fun _ => nat_bif (nat_some) (nat_bif (nat_bind fun _ => nat_bind fun _ => nat_bif (nat_some) (nat_some)) (nat_some)))) (nat_some)

def spec_IsValidTransaction_T2 : Tmpl := ⟨(.junk (.ptr 0 0 0 (.junk (.slot Ty.i (jk 127 .nil))))), (.cells 9 (.slot Ty.i (.slot Ty.i (.slot Ty.i (.slot Ty.i (.slot Ty.i (.slot Ty.i (.slot Ty.i (.slot (Ty.slice YReadMark) (.slot (Ty.slice YReadMark) .nil))))))))) .nil)⟩

def spec_IsValidTransaction_X2_0 (i : spec_IsValidTransaction_I2) (p : Int × Int × Unit) : St := ⟨jn 1 (AV.ptr 0 none 0 0 :: .b (false) :: jn 128 ([])), [some (Cont.cells 9 [[AV.pv Ty.i i.1, AV.pv Ty.i i.2.1, AV.pv Ty.i i.2.2.1, AV.pv Ty.i i.2.2.2.1, AV.pv (Ty.int
  IntKind.i64) i.2.2.2.2.1, AV.pv Ty.i i.2.2.2.2.2.1, AV.pv Ty.i i.2.2.2.2.2.2.1, AV.pv (Ty.slice YReadMark) i.2.2.2.2.2.2.2.1, AV.pv (Ty.slice
  YReadMark) i.2.2.2.2.2.2.2.2.1]]), some (Cont.cells 2 [[AV.pv Ty.i p.1, AV.pv Ty.i p.2.1]])]⟩

def spec_IsValidTransaction_X2_1 (i : spec_IsValidTransaction_I2) (p : Int × Int × Unit) : St := ⟨jn 1 (AV.ptr 0 none 0 0 :: .b (false) :: jn 128 ([])), [some (Cont.cells 9 [[AV.pv Ty.i i.1, AV.pv Ty.i i.2.1, AV.pv Ty.i i.2.2.1, AV.pv Ty.i i.2.2.2.1, AV.pv (Ty.int
  IntKind.i64) i.2.2.2.2.1, AV.pv Ty.i i.2.2.2.2.2.1, AV.pv Ty.i i.2.2.2.2.2.2.1, AV.pv (Ty.slice YReadMark) i.2.2.2.2.2.2.2.1, AV.pv (Ty.slice
  YReadMark) i.2.2.2.2.2.2.2.2.1]]), some (Cont.cells 2 [[AV.pv Ty.i p.1, AV.pv Ty.i p.2.1]])]⟩

def spec_IsValidTransaction_X2_2 (i : spec_IsValidTransaction_I2) (p : Int × Int × Unit) : St := ⟨jn 1 (AV.ptr 0 none 0 0 :: .b (false) :: jn 128 ([])), [some (Cont.cells 9 [[AV.pv Ty.i i.1, AV.pv Ty.i i.2.1, AV.pv Ty.i i.2.2.1, AV.pv Ty.i i.2.2.2.1, AV.pv (Ty.int
  IntKind.i64) i.2.2.2.2.1, AV.pv Ty.i i.2.2.2.2.2.1, AV.pv Ty.i i.2.2.2.2.2.2.1, AV.pv (Ty.slice YReadMark) i.2.2.2.2.2.2.2.1, AV.pv (Ty.slice
  YReadMark) i.2.2.2.2.2.2.2.2.1]]), some (Cont.cells 2 [[AV.pv Ty.i p.1, AV.pv Ty.i p.2.1]])]⟩

def spec_IsValidTransaction_X2_3 (i : spec_IsValidTransaction_I2) (p : Unit) : St := ⟨jn 1 (AV.ptr 0 none 0 0 :: jn 129 ([])), [some (Cont.cells 9 [[AV.pv Ty.i i.1, AV.pv Ty.i i.2.1, AV.pv Ty.i i.2.2.1, AV.pv Ty.i i.2.2.2.1, AV.pv Ty.i
  i.2.2.2.2.1, AV.pv Ty.i i.2.2.2.2.2.1, AV.pv Ty.i i.2.2.2.2.2.2.1, AV.pv (Ty.slice YReadMark) i.2.2.2.2.2.2.2.1, AV.pv (Ty.slice (Ty.prod (Ty.int
  IntKind.i64) (Ty.prod Ty.i Ty.unit))) i.2.2.2.2.2.2.2.2.1]])]⟩

noncomputable def spec_IsValidTransaction_E2 (i : spec_IsValidTransaction_I2) (p : spec_IsValidTransaction_Q2) (R : Type) (K : Ex → St → Option R) : Option R := sumC p (fun p => K (Ex.ret) (spec_IsValidTransaction_X2_0 i p)) fun p => sumC p (fun p => K (Ex.ret) (spec_IsValidTransaction_X2_1 i p)) fun p => sumC p (fun p => K (Ex.ret) (spec_IsValidTransaction_X2_2 i p)) fun p => K (Ex.exit 0) (spec_IsValidTransaction_X2_3 i p)

noncomputable def spec_IsValidTransaction_K2 (i : spec_IsValidTransaction_I2) (p : spec_IsValidTransaction_Q2) : Ex × St := sumC p (fun p => (Ex.ret, spec_IsValidTransaction_X2_0 i p)) fun p => sumC p (fun p => (Ex.ret, spec_IsValidTransaction_X2_1 i p)) fun p => sumC p (fun p => (Ex.ret, spec_IsValidTransaction_X2_2 i p)) fun p => (Ex.exit 0, spec_IsValidTransaction_X2_3 i p)

def spec_IsValidTransaction_M2 (i : spec_IsValidTransaction_I2) (v : spec_IsValidTransaction_V2) : den spec_IsValidTransaction_T2.ty := (v.1, i.1, i.2.1, i.2.2.1, i.2.2.2.1, i.2.2.2.2.1, i.2.2.2.2.2.1, i.2.2.2.2.2.2.1, i.2.2.2.2.2.2.2.1, i.2.2.2.2.2.2.2.2.1, ())

def spec_IsValidTransaction_P2 (x : den spec_IsValidTransaction_T2.ty) : spec_IsValidTransaction_I2 × spec_IsValidTransaction_V2 := ((x.2.1, x.2.2.1, x.2.2.2.1, x.2.2.2.2.1, x.2.2.2.2.2.1, x.2.2.2.2.2.2.1, x.2.2.2.2.2.2.2.1, x.2.2.2.2.2.2.2.2.1, x.2.2.2.2.2.2.2.2.2.1, ()), (x.1, ()))

abbrev spec_IsValidTransaction_I8 : Type := Int × Int × Int × Int × Int × Int × Int × List (Int × Int × Unit) × List (Int × Int × Unit) × Unit

abbrev spec_IsValidTransaction_V8 : Type := Int × Unit

abbrev spec_IsValidTransaction_Q8 : Type := Int × Int × Unit ⊕ Int × Int × Unit ⊕ Int × Int × Unit ⊕ Unit

noncomputable def spec_IsValidTransaction_D8 (i : spec_IsValidTransaction_I8) (v : spec_IsValidTransaction_V8) (R : Type) (K : spec_IsValidTransaction_V8 ⊕ spec_IsValidTransaction_Q8 → Option R) : Option R :=
  bif decide (v.1 < (↑(List.length i.2.2.2.2.2.2.2.2.1) : Int)) then Option.bind (lAt i.2.2.2.2.2.2.2.2.1 v.1) fun v_1 => Option.bind (spec_l1In_S (v_1.1, 0, 5, ())) fun v_2 => bif !v_2.1 then K (Sum.inr (Sum.inl (v_1.1, v_1.2.1, ()))) else
  Option.bind (spec_l1In_S (v_1.2.1, -1, 99, ())) fun v_3 => bif !v_3.1 then K (Sum.inr (Sum.inr (Sum.inl (v_1.1, v_1.2.1, ())))) else bif decide (v.1 > 0) then Option.bind (lAt i.2.2.2.2.2.2.2.2.1 (IntKind.wrap IntKind.i64 (v.1 - 1))) fun v_4
  => bif decide (v_4.1 ≥ v_1.1) then K (Sum.inr (Sum.inr (Sum.inr (Sum.inl (v_1.1, v_1.2.1, ()))))) else K (Sum.inl (IntKind.wrap IntKind.i64 (v.1 + 1), ())) else K (Sum.inl (IntKind.wrap IntKind.i64 (v.1 + 1), ())) else K (Sum.inr (Sum.inr
  (Sum.inr (Sum.inr ()))))

theorem spec_IsValidTransaction_D8_nat : NatD spec_IsValidTransaction_D8 := fun i v R K => nat_bif (nat_bind fun _ => nat_bind fun _ => nat_bif (nat_some) (nat_bind fun _ => nat_bif (nat_some) (nat_bif (nat_bind fun _ => nat_bif (nat_some) (nat_some)) (nat_some)))) (nat_some)

def spec_IsValidTransaction_T8 : Tmpl := ⟨(.junk (.ptr 0 0 0 (jk 3 (.slot Ty.i (jk 125 .nil))))), (.cells 9 (.slot Ty.i (.slot Ty.i (.slot Ty.i (.slot Ty.i (.slot Ty.i (.slot Ty.i (.slot Ty.i (.slot (Ty.slice YReadMark) (.slot (Ty.slice YReadMark) .nil))))))))) .nil)⟩

def spec_IsValidTransaction_X8_0 (i : spec_IsValidTransaction_I8) (p : Int × Int × Unit) : St := ⟨jn 1 (AV.ptr 0 none 0 0 :: .b (false) :: jn 128 ([])), [some (Cont.cells 9 [[AV.pv Ty.i i.1, AV.pv Ty.i i.2.1, AV.pv Ty.i i.2.2.1, AV.pv Ty.i i.2.2.2.1, AV.pv (Ty.int
  IntKind.i64) i.2.2.2.2.1, AV.pv Ty.i i.2.2.2.2.2.1, AV.pv Ty.i i.2.2.2.2.2.2.1, AV.pv (Ty.slice YReadMark) i.2.2.2.2.2.2.2.1, AV.pv (Ty.slice
  YReadMark) i.2.2.2.2.2.2.2.2.1]]), some (Cont.cells 2 [[AV.pv Ty.i p.1, AV.pv Ty.i p.2.1]])]⟩

def spec_IsValidTransaction_X8_1 (i : spec_IsValidTransaction_I8) (p : Int × Int × Unit) : St := ⟨jn 1 (AV.ptr 0 none 0 0 :: .b (false) :: jn 128 ([])), [some (Cont.cells 9 [[AV.pv Ty.i i.1, AV.pv Ty.i i.2.1, AV.pv Ty.i i.2.2.1, AV.pv Ty.i i.2.2.2.1, AV.pv (Ty.int
  IntKind.i64) i.2.2.2.2.1, AV.pv Ty.i i.2.2.2.2.2.1, AV.pv Ty.i i.2.2.2.2.2.2.1, AV.pv (Ty.slice YReadMark) i.2.2.2.2.2.2.2.1, AV.pv (Ty.slice
  YReadMark) i.2.2.2.2.2.2.2.2.1]]), some (Cont.cells 2 [[AV.pv Ty.i p.1, AV.pv Ty.i p.2.1]])]⟩

def spec_IsValidTransaction_X8_2 (i : spec_IsValidTransaction_I8) (p : Int × Int × Unit) : St := ⟨jn 1 (AV.ptr 0 none 0 0 :: .b (false) :: jn 128 ([])), [some (Cont.cells 9 [[AV.pv Ty.i i.1, AV.pv Ty.i i.2.1, AV.pv Ty.i i.2.2.1, AV.pv Ty.i i.2.2.2.1, AV.pv (Ty.int
  IntKind.i64) i.2.2.2.2.1, AV.pv Ty.i i.2.2.2.2.2.1, AV.pv Ty.i i.2.2.2.2.2.2.1, AV.pv (Ty.slice YReadMark) i.2.2.2.2.2.2.2.1, AV.pv (Ty.slice
  YReadMark) i.2.2.2.2.2.2.2.2.1]]), some (Cont.cells 2 [[AV.pv Ty.i p.1, AV.pv Ty.i p.2.1]])]⟩

def spec_IsValidTransaction_X8_3 (i : spec_IsValidTransaction_I8) (p : Unit) : St := ⟨jn 1 (AV.ptr 0 none 0 0 :: jn 129 ([])), [some (Cont.cells 9 [[AV.pv Ty.i i.1, AV.pv Ty.i i.2.1, AV.pv Ty.i i.2.2.1, AV.pv Ty.i i.2.2.2.1, AV.pv Ty.i
  i.2.2.2.2.1, AV.pv Ty.i i.2.2.2.2.2.1, AV.pv Ty.i i.2.2.2.2.2.2.1, AV.pv (Ty.slice YReadMark) i.2.2.2.2.2.2.2.1, AV.pv (Ty.slice (Ty.prod (Ty.int
  IntKind.i64) (Ty.prod Ty.i Ty.unit))) i.2.2.2.2.2.2.2.2.1]])]⟩

noncomputable def spec_IsValidTransaction_E8 (i : spec_IsValidTransaction_I8) (p : spec_IsValidTransaction_Q8) (R : Type) (K : Ex → St → Option R) : Option R := sumC p (fun p => K (Ex.ret) (spec_IsValidTransaction_X8_0 i p)) fun p => sumC p (fun p => K (Ex.ret) (spec_IsValidTransaction_X8_1 i p)) fun p => sumC p (fun p => K (Ex.ret) (spec_IsValidTransaction_X8_2 i p)) fun p => K (Ex.exit 2) (spec_IsValidTransaction_X8_3 i p)

noncomputable def spec_IsValidTransaction_K8 (i : spec_IsValidTransaction_I8) (p : spec_IsValidTransaction_Q8) : Ex × St := sumC p (fun p => (Ex.ret, spec_IsValidTransaction_X8_0 i p)) fun p => sumC p (fun p => (Ex.ret, spec_IsValidTransaction_X8_1 i p)) fun p => sumC p (fun p => (Ex.ret, spec_IsValidTransaction_X8_2 i p)) fun p => (Ex.exit 2, spec_IsValidTransaction_X8_3 i p)

def spec_IsValidTransaction_M8 (i : spec_IsValidTransaction_I8) (v : spec_IsValidTransaction_V8) : den spec_IsValidTransaction_T8.ty := (v.1, i.1, i.2.1, i.2.2.1, i.2.2.2.1, i.2.2.2.2.1, i.2.2.2.2.2.1, i.2.2.2.2.2.2.1, i.2.2.2.2.2.2.2.1, i.2.2.2.2.2.2.2.2.1, ())

def spec_IsValidTransaction_P8 (x : den spec_IsValidTransaction_T8.ty) : spec_IsValidTransaction_I8 × spec_IsValidTransaction_V8 := ((x.2.1, x.2.2.1, x.2.2.2.1, x.2.2.2.2.1, x.2.2.2.2.2.1, x.2.2.2.2.2.2.1, x.2.2.2.2.2.2.2.1, x.2.2.2.2.2.2.2.2.1, x.2.2.2.2.2.2.2.2.2.1, ()), (x.1, ()))

noncomputable def spec_IsValidTransaction_C : Cfg := { ti := g_tis, ents := [spec_l1In_Ent, spec_l5Before_Ent], ann := [(2, loopFn spec_IsValidTransaction_T2 0 spec_IsValidTransaction_P2 spec_IsValidTransaction_D2 spec_IsValidTransaction_E2), (8, loopFn spec_IsValidTransaction_T8 0 spec_IsValidTransaction_P8 spec_IsValidTransaction_D8 spec_IsValidTransaction_E8)], lent := 0 }

def spec_IsValidTransaction_ti : Tmpl := ⟨(.slot (Ty.prod Ty.i (Ty.prod Ty.i (Ty.prod Ty.i (Ty.prod Ty.i (Ty.prod Ty.i (Ty.prod Ty.i (Ty.prod Ty.i (Ty.prod (Ty.slice (Ty.prod
  Ty.i (Ty.prod Ty.i Ty.unit))) (Ty.prod (Ty.slice YReadMark) Ty.unit))))))))) .nil), .nil⟩

def spec_IsValidTransaction_to : Tmpl := ⟨(.slot (Ty.bool) .nil), .nil⟩

noncomputable def spec_IsValidTransaction_S (x : (Int × Int × Int × Int × Int × Int × Int × List (Int × Int × Unit) × List (Int × Int × Unit) × Unit) × Unit) : Option (Bool × Unit) :=
  Option.bind (iter (fun v => spec_IsValidTransaction_D2 (x.1.1, x.1.2.1, x.1.2.2.1, x.1.2.2.2.1, x.1.2.2.2.2.1, x.1.2.2.2.2.2.1, x.1.2.2.2.2.2.2.1, x.1.2.2.2.2.2.2.2.1, x.1.2.2.2.2.2.2.2.2.1, ()) v _ some) (0, ())) fun p => sumC p
  (fun p => some (false, ())) fun p => sumC p (fun p => some (false, ())) fun p => sumC p (fun p => some (false, ())) fun p => Option.bind (iter (fun v => spec_IsValidTransaction_D8 (x.1.1, x.1.2.1, x.1.2.2.1, x.1.2.2.2.1, x.1.2.2.2.2.1,
  x.1.2.2.2.2.2.1, x.1.2.2.2.2.2.2.1, x.1.2.2.2.2.2.2.2.1, x.1.2.2.2.2.2.2.2.2.1, ()) v _ some) (0, ())) fun p => sumC p (fun p => some (false, ())) fun p => sumC p (fun p => some (false, ())) fun p => sumC p (fun p => some (false,
  ())) fun p => Option.bind (spec_l1In_S (x.1.1, 1, 9, ())) fun v => bif !v.1 then some (false, ()) else Option.bind (spec_l1In_S (x.1.2.1, 1, 4, ())) fun v => bif !v.1 then some (false, ()) else Option.bind (spec_l1In_S (x.1.2.2.2.1, 0, 999,
  ())) fun v => bif !v.1 then some (false, ()) else Option.bind (spec_l1In_S (x.1.2.2.1, 1, 3, ())) fun v => bif v.1 then Option.bind (spec_l1In_S (x.1.2.2.2.2.1, 0, 999, ())) fun v => bif v.1 then Option.bind (spec_l1In_S (x.1.2.2.2.2.2.1, 1,
  1000, ())) fun v => bif v.1 then bif (x.1.2.2.1 == 2) == decide (x.1.2.2.2.2.2.2.1 > 0) then Option.bind (spec_l1In_S (x.1.2.2.2.2.2.2.1, 0, 999, ())) fun v => bif v.1 then some (decide ((↑(List.length x.1.2.2.2.2.2.2.2.1) : Int) ≤ 60), ())
  else some (false, ()) else some (false, ()) else some (false, ()) else some (false, ()) else some (false, ())

noncomputable def spec_IsValidTransaction_Ent : Ent := ⟨48, spec_IsValidTransaction_ti, spec_IsValidTransaction_to, spec_IsValidTransaction_S⟩

theorem spec_IsValidTransaction_HC : CfgOK Go.Proofs.Tryz.prog spec_IsValidTransaction_C := hc_of g_tisOK g_wide (all_cons spec_l1In_OK (all_cons spec_l5Before_OK all_nil))

theorem spec_IsValidTransaction_lk8 : LkOK Go.Proofs.Tryz.prog spec_IsValidTransaction_C (lpc Go.Proofs.Tryz.f48 1) :=
  lk_of spec_IsValidTransaction_HC (m := 0) (T := spec_IsValidTransaction_T8) (sp := spec_IsValidTransaction_P8) (D := spec_IsValidTransaction_D8) (E := spec_IsValidTransaction_E8) (by kernel_rfl) (by kernel_rfl) (fun k hk => absurd hk (Nat.not_lt_zero k)) [1, 2] spec_IsValidTransaction_M8 (fun x => rfl) spec_IsValidTransaction_D8_nat spec_IsValidTransaction_K8 (fun i p R K => by rcases p with p | p | p | p <;> rfl) (fun i v => by kernel_rfl)

theorem spec_IsValidTransaction_lk2 : LkOK Go.Proofs.Tryz.prog spec_IsValidTransaction_C (lpc Go.Proofs.Tryz.f48 0) :=
  lk_of spec_IsValidTransaction_HC (m := 0) (T := spec_IsValidTransaction_T2) (sp := spec_IsValidTransaction_P2) (D := spec_IsValidTransaction_D2) (E := spec_IsValidTransaction_E2) (by kernel_rfl) (by kernel_rfl) (fun k hk => absurd hk (Nat.not_lt_zero k)) [1, 2] spec_IsValidTransaction_M2 (fun x => rfl) spec_IsValidTransaction_D2_nat spec_IsValidTransaction_K2 (fun i p R K => by rcases p with p | p | p | p <;> rfl) (fun i v => by kernel_rfl)

theorem spec_IsValidTransaction_OK : EntOK Go.Proofs.Tryz.prog spec_IsValidTransaction_Ent := ok_of spec_IsValidTransaction_HC Go.Proofs.Tryz.func48 2 (by kernel_rfl) (fun k hk => match k, hk with | 0, _ => spec_IsValidTransaction_lk2 | 1, _ => spec_IsValidTransaction_lk8) (by kernel_rfl) (by kernel_rfl) (fun x => by kernel_rfl)

/-! spec.FindVersion -/

abbrev spec_FindVersion_I2 : Type := List (Int × Int × Int × Int × Int × Unit) × Int × Unit

abbrev spec_FindVersion_V2 : Type := Int × Unit

abbrev spec_FindVersion_Q2 : Type := Int × Unit ⊕ Unit

noncomputable def spec_FindVersion_D2 (i : spec_FindVersion_I2) (v : spec_FindVersion_V2) (R : Type) (K : spec_FindVersion_V2 ⊕ spec_FindVersion_Q2 → Option R) : Option R :=
  bif decide (v.1 < (↑(List.length i.1) : Int)) then Option.bind (lAt i.1 v.1) fun v_1 => bif v_1.2.2.1 == i.2.1 then K (Sum.inr (Sum.inl (v.1, ()))) else K (Sum.inl (IntKind.wrap IntKind.i64 (v.1 + 1), ())) else K (Sum.inr (Sum.inr ()))

theorem spec_FindVersion_D2_nat : NatD spec_FindVersion_D2 := fun i v R K => nat_bif (nat_bind fun _ => nat_bif (nat_some) (nat_some)) (nat_some)

def spec_FindVersion_T2 : Tmpl := ⟨(.slot (Ty.slice YVersion) (.slot Ty.i (jk 3 (.slot Ty.i (jk 14 .nil))))), .nil⟩

def spec_FindVersion_X2_0 (i : spec_FindVersion_I2) (p : Int × Unit) : St := ⟨jn 4 (.n (p.1) :: jn 15 ([])), []⟩

def spec_FindVersion_X2_1 (i : spec_FindVersion_I2) (p : Unit) : St := ⟨jn 20 ([]), []⟩

noncomputable def spec_FindVersion_E2 (i : spec_FindVersion_I2) (p : spec_FindVersion_Q2) (R : Type) (K : Ex → St → Option R) : Option R := sumC p (fun p => K (Ex.ret) (spec_FindVersion_X2_0 i p)) fun p => K (Ex.exit 0) (spec_FindVersion_X2_1 i p)

noncomputable def spec_FindVersion_K2 (i : spec_FindVersion_I2) (p : spec_FindVersion_Q2) : Ex × St := sumC p (fun p => (Ex.ret, spec_FindVersion_X2_0 i p)) fun p => (Ex.exit 0, spec_FindVersion_X2_1 i p)

def spec_FindVersion_M2 (i : spec_FindVersion_I2) (v : spec_FindVersion_V2) : den spec_FindVersion_T2.ty := (i.1, i.2.1, v.1, ())

def spec_FindVersion_P2 (x : den spec_FindVersion_T2.ty) : spec_FindVersion_I2 × spec_FindVersion_V2 := ((x.1, x.2.1, ()), (x.2.2.1, ()))

noncomputable def spec_FindVersion_C : Cfg := { ti := g_tis, ents := [], ann := [(2, loopFn spec_FindVersion_T2 0 spec_FindVersion_P2 spec_FindVersion_D2 spec_FindVersion_E2)], lent := 0 }

def spec_FindVersion_ti : Tmpl := ⟨(.slot (Ty.slice YVersion) (.slot Ty.i .nil)), .nil⟩

def spec_FindVersion_to : Tmpl := ⟨(.slot Ty.i .nil), .nil⟩

noncomputable def spec_FindVersion_S (x : List (Int × Int × Int × Int × Int × Unit) × Int × Unit) : Option (Int × Unit) :=
  Option.bind (iter (fun v => spec_FindVersion_D2 (x.1, x.2.1, ()) v _ some) (0, ())) fun p => sumC p (fun p => some (p.1, ())) fun p => some (-1, ())

noncomputable def spec_FindVersion_Ent : Ent := ⟨51, spec_FindVersion_ti, spec_FindVersion_to, spec_FindVersion_S⟩

theorem spec_FindVersion_HC : CfgOK Go.Proofs.Tryz.prog spec_FindVersion_C := hc_of g_tisOK g_wide all_nil

theorem spec_FindVersion_lk2 : LkOK Go.Proofs.Tryz.prog spec_FindVersion_C (lpc Go.Proofs.Tryz.f51 0) :=
  lk_of spec_FindVersion_HC (m := 0) (T := spec_FindVersion_T2) (sp := spec_FindVersion_P2) (D := spec_FindVersion_D2) (E := spec_FindVersion_E2) (by kernel_rfl) (by kernel_rfl) (fun k hk => absurd hk (Nat.not_lt_zero k)) [4] spec_FindVersion_M2 (fun x => rfl) spec_FindVersion_D2_nat spec_FindVersion_K2 (fun i p R K => by rcases p with p | p <;> rfl) (fun i v => by kernel_rfl)

theorem spec_FindVersion_OK : EntOK Go.Proofs.Tryz.prog spec_FindVersion_Ent := ok_of spec_FindVersion_HC Go.Proofs.Tryz.func51 1 (by kernel_rfl) (fun k hk => match k, hk with | 0, _ => spec_FindVersion_lk2) (by kernel_rfl) (by kernel_rfl) (fun x => by kernel_rfl)

/-! spec.ReadsExist -/

abbrev spec_ReadsExist_I4 : Type := List (List (Int × Int × Int × Int × Int × Unit)) × Int × Int × Int × Int × Int × Int × Int × List (Int × Int × Unit) × List (Int × Int × Unit) × Unit

abbrev spec_ReadsExist_V4 : Type := Int × Unit

abbrev spec_ReadsExist_Q4 : Type := Unit ⊕ Unit

noncomputable def spec_ReadsExist_D4 (i : spec_ReadsExist_I4) (v : spec_ReadsExist_V4) (R : Type) (K : spec_ReadsExist_V4 ⊕ spec_ReadsExist_Q4 → Option R) : Option R :=
  bif decide (v.1 < (↑(List.length i.2.2.2.2.2.2.2.2.1) : Int)) then Option.bind (lAt i.2.2.2.2.2.2.2.2.1 v.1) fun v_1 => Option.bind (lAt i.1 v_1.1) fun v_2 => Option.bind (lAt i.2.2.2.2.2.2.2.2.1 v.1) fun v_3 => Option.bind
  (spec_FindVersion_S (v_2, v_3.2.1, ())) fun v_4 => bif decide (v_4.1 < 0) then K (Sum.inr (Sum.inl ())) else K (Sum.inl (IntKind.wrap IntKind.i64 (v.1 + 1), ())) else K (Sum.inr (Sum.inr ()))

theorem spec_ReadsExist_D4_nat : NatD spec_ReadsExist_D4 := fun i v R K => nat_bif (nat_bind fun _ => nat_bind fun _ => nat_bind fun _ => nat_bind fun _ => nat_bif (nat_some) (nat_some)) (nat_some)

def spec_ReadsExist_T4 : Tmpl := ⟨(jk 2 (.ptr 0 0 0 (.ptr 1 0 0 (.junk (.slot Ty.i (jk 33 .nil)))))), (.cells 1 (.slot (Ty.slice (Ty.slice YVersion)) .nil) (.cells 9 (.slot Ty.i (.slot Ty.i (.slot Ty.i (.slot Ty.i (.slot Ty.i (.slot Ty.i (.slot Ty.i (.slot (Ty.slice YReadMark) (.slot (Ty.slice YReadMark) .nil))))))))) .nil))⟩

def spec_ReadsExist_X4_0 (i : spec_ReadsExist_I4) (p : Unit) : St := ⟨jn 4 (.b (false) :: jn 34 ([])), [some (Cont.cells 1 [[AV.pv (Ty.slice (Ty.slice (Ty.prod Ty.i (Ty.prod Ty.i (Ty.prod Ty.i (Ty.prod Ty.i (Ty.prod Ty.i
  Ty.unit))))))) i.1]]), some (Cont.cells 9 [[AV.pv Ty.i i.2.1, AV.pv Ty.i i.2.2.1, AV.pv Ty.i i.2.2.2.1, AV.pv Ty.i i.2.2.2.2.1, AV.pv Ty.i i.2.2.2.2.2.1, AV.pv
  Ty.i i.2.2.2.2.2.2.1, AV.pv Ty.i i.2.2.2.2.2.2.2.1, AV.pv (Ty.slice YReadMark) i.2.2.2.2.2.2.2.2.1, AV.pv (Ty.slice (Ty.prod Ty.i
  (Ty.prod Ty.i Ty.unit))) i.2.2.2.2.2.2.2.2.2.1]])]⟩

def spec_ReadsExist_X4_1 (i : spec_ReadsExist_I4) (p : Unit) : St := ⟨jn 39 ([]), [some (Cont.cells 1 [[AV.pv (Ty.slice (Ty.slice YVersion)) i.1]]), some
  (Cont.cells 9 [[AV.pv Ty.i i.2.1, AV.pv Ty.i i.2.2.1, AV.pv Ty.i i.2.2.2.1, AV.pv Ty.i i.2.2.2.2.1, AV.pv Ty.i i.2.2.2.2.2.1, AV.pv Ty.i
  i.2.2.2.2.2.2.1, AV.pv Ty.i i.2.2.2.2.2.2.2.1, AV.pv (Ty.slice YReadMark) i.2.2.2.2.2.2.2.2.1, AV.pv (Ty.slice (Ty.prod Ty.i (Ty.prod (Ty.int
  IntKind.i64) Ty.unit))) i.2.2.2.2.2.2.2.2.2.1]])]⟩

noncomputable def spec_ReadsExist_E4 (i : spec_ReadsExist_I4) (p : spec_ReadsExist_Q4) (R : Type) (K : Ex → St → Option R) : Option R := sumC p (fun p => K (Ex.ret) (spec_ReadsExist_X4_0 i p)) fun p => K (Ex.exit 0) (spec_ReadsExist_X4_1 i p)

noncomputable def spec_ReadsExist_K4 (i : spec_ReadsExist_I4) (p : spec_ReadsExist_Q4) : Ex × St := sumC p (fun p => (Ex.ret, spec_ReadsExist_X4_0 i p)) fun p => (Ex.exit 0, spec_ReadsExist_X4_1 i p)

def spec_ReadsExist_M4 (i : spec_ReadsExist_I4) (v : spec_ReadsExist_V4) : den spec_ReadsExist_T4.ty := (v.1, i.1, i.2.1, i.2.2.1, i.2.2.2.1, i.2.2.2.2.1, i.2.2.2.2.2.1, i.2.2.2.2.2.2.1, i.2.2.2.2.2.2.2.1, i.2.2.2.2.2.2.2.2.1, i.2.2.2.2.2.2.2.2.2.1, ())

def spec_ReadsExist_P4 (x : den spec_ReadsExist_T4.ty) : spec_ReadsExist_I4 × spec_ReadsExist_V4 := ((x.2.1, x.2.2.1, x.2.2.2.1, x.2.2.2.2.1, x.2.2.2.2.2.1, x.2.2.2.2.2.2.1, x.2.2.2.2.2.2.2.1, x.2.2.2.2.2.2.2.2.1, x.2.2.2.2.2.2.2.2.2.1, x.2.2.2.2.2.2.2.2.2.2.1, ()), (x.1, ()))

noncomputable def spec_ReadsExist_C : Cfg := { ti := g_tis, ents := [spec_IsValidStore_Ent, spec_IsValidTransaction_Ent, spec_FindVersion_Ent], ann := [(4, loopFn spec_ReadsExist_T4 0 spec_ReadsExist_P4 spec_ReadsExist_D4 spec_ReadsExist_E4)], lent := 0 }

def spec_ReadsExist_ti : Tmpl := ⟨(.slot YStore (.slot (Ty.prod Ty.i (Ty.prod Ty.i (Ty.prod Ty.i (Ty.prod Ty.i (Ty.prod Ty.i (Ty.prod Ty.i (Ty.prod Ty.i (Ty.prod (Ty.slice (Ty.prod
  Ty.i (Ty.prod Ty.i Ty.unit))) (Ty.prod (Ty.slice YReadMark) Ty.unit))))))))) .nil)), .nil⟩

def spec_ReadsExist_to : Tmpl := ⟨(.slot (Ty.bool) .nil), .nil⟩

noncomputable def spec_ReadsExist_S (x : (List (List (Int × Int × Int × Int × Int × Unit)) × Unit) × (Int × Int × Int × Int × Int × Int × Int × List (Int × Int × Unit) × List (Int × Int × Unit) × Unit) × Unit) : Option (Bool × Unit) :=
  Option.bind (spec_IsValidStore_S ((x.1.1, ()), ())) fun v => bif !v.1 then some (false, ()) else Option.bind (spec_IsValidTransaction_S ((x.2.1.1, x.2.1.2.1, x.2.1.2.2.1, x.2.1.2.2.2.1, x.2.1.2.2.2.2.1, x.2.1.2.2.2.2.2.1,
  x.2.1.2.2.2.2.2.2.1, x.2.1.2.2.2.2.2.2.2.1, x.2.1.2.2.2.2.2.2.2.2.1, ()), ())) fun v => bif !v.1 then some (false, ()) else Option.bind (iter (fun v => spec_ReadsExist_D4 (x.1.1, x.2.1.1, x.2.1.2.1, x.2.1.2.2.1, x.2.1.2.2.2.1,
  x.2.1.2.2.2.2.1, x.2.1.2.2.2.2.2.1, x.2.1.2.2.2.2.2.2.1, x.2.1.2.2.2.2.2.2.2.1, x.2.1.2.2.2.2.2.2.2.2.1, ()) v _ some) (0, ())) fun p => sumC p (fun p => some (false, ())) fun p => some (true, ())

noncomputable def spec_ReadsExist_Ent : Ent := ⟨49, spec_ReadsExist_ti, spec_ReadsExist_to, spec_ReadsExist_S⟩

theorem spec_ReadsExist_HC : CfgOK Go.Proofs.Tryz.prog spec_ReadsExist_C := hc_of g_tisOK g_wide (all_cons spec_IsValidStore_OK (all_cons spec_IsValidTransaction_OK (all_cons spec_FindVersion_OK all_nil)))

theorem spec_ReadsExist_lk4 : LkOK Go.Proofs.Tryz.prog spec_ReadsExist_C (lpc Go.Proofs.Tryz.f49 0) :=
  lk_of spec_ReadsExist_HC (m := 0) (T := spec_ReadsExist_T4) (sp := spec_ReadsExist_P4) (D := spec_ReadsExist_D4) (E := spec_ReadsExist_E4) (by kernel_rfl) (by kernel_rfl) (fun k hk => absurd hk (Nat.not_lt_zero k)) [4] spec_ReadsExist_M4 (fun x => rfl) spec_ReadsExist_D4_nat spec_ReadsExist_K4 (fun i p R K => by rcases p with p | p <;> rfl) (fun i v => by kernel_rfl)

theorem spec_ReadsExist_OK : EntOK Go.Proofs.Tryz.prog spec_ReadsExist_Ent := ok_of spec_ReadsExist_HC Go.Proofs.Tryz.func49 1 (by kernel_rfl) (fun k hk => match k, hk with | 0, _ => spec_ReadsExist_lk4) (by kernel_rfl) (by kernel_rfl) (fun x => by kernel_rfl)

/-! spec.FindTransaction -/

abbrev spec_FindTransaction_I2 : Type := Int × Bool × List (List (Int × Int × Int × Int × Int × Unit)) × List (Int × Int × Int × Int × Int × Int × Int × List (Int × Int × Unit) × List (Int × Int × Unit) × Unit) × List (Int × Int × Unit) × List (Int × Int × Unit) × Int × Unit

abbrev spec_FindTransaction_V2 : Type := Int × Unit

abbrev spec_FindTransaction_Q2 : Type := Int × Unit ⊕ Unit

noncomputable def spec_FindTransaction_D2 (i : spec_FindTransaction_I2) (v : spec_FindTransaction_V2) (R : Type) (K : spec_FindTransaction_V2 ⊕ spec_FindTransaction_Q2 → Option R) : Option R :=
  bif decide (v.1 < (↑(List.length i.2.2.2.1) : Int)) then Option.bind (lAt i.2.2.2.1 v.1) fun v_1 => bif v_1.1 == i.1 then K (Sum.inr (Sum.inl (v.1, ()))) else K (Sum.inl (IntKind.wrap IntKind.i64 (v.1 + 1), ())) else K (Sum.inr (Sum.inr ()))

theorem spec_FindTransaction_D2_nat : NatD spec_FindTransaction_D2 := fun i v R K => nat_bif (nat_bind fun _ => nat_bif (nat_some) (nat_some)) (nat_some)

def spec_FindTransaction_T2 : Tmpl := ⟨(.junk (.slot Ty.i (.ptr 0 0 0 (jk 2 (.slot Ty.i (jk 16 .nil)))))), (.cells 6 (.slot (Ty.bool) (.slot (Ty.slice (Ty.slice YVersion)) (.slot (Ty.slice (Ty.prod Ty.i (Ty.prod Ty.i (Ty.prod Ty.i (Ty.prod Ty.i (Ty.prod Ty.i (Ty.prod Ty.i (Ty.prod Ty.i (Ty.prod (Ty.slice
  YReadMark) (Ty.prod (Ty.slice YReadMark) Ty.unit)))))))))) (.slot (Ty.slice YReadMark) (.slot (Ty.slice YReadMark) (.slot Ty.i .nil)))))) .nil)⟩

def spec_FindTransaction_X2_0 (i : spec_FindTransaction_I2) (p : Int × Unit) : St := ⟨jn 4 (.n (p.1) :: jn 17 ([])), [some (Cont.cells 6 [[AV.pv Ty.bool i.2.1, AV.pv (Ty.slice (Ty.slice (Ty.prod Ty.i (Ty.prod Ty.i (Ty.prod Ty.i (Ty.prod Ty.i (Ty.prod (Ty.int
  IntKind.i64) Ty.unit))))))) i.2.2.1, AV.pv (Ty.slice (Ty.prod Ty.i (Ty.prod Ty.i (Ty.prod Ty.i (Ty.prod Ty.i (Ty.prod Ty.i (Ty.prod Ty.i (Ty.prod
  Ty.i (Ty.prod (Ty.slice YReadMark) (Ty.prod (Ty.slice YReadMark) Ty.unit)))))))))) i.2.2.2.1, AV.pv
  (Ty.slice YReadMark) i.2.2.2.2.1, AV.pv (Ty.slice YReadMark) i.2.2.2.2.2.1, AV.pv Ty.i
  i.2.2.2.2.2.2.1]])]⟩

def spec_FindTransaction_X2_1 (i : spec_FindTransaction_I2) (p : Unit) : St := ⟨jn 22 ([]), [some (Cont.cells 6 [[AV.pv Ty.bool i.2.1, AV.pv (Ty.slice (Ty.slice (Ty.prod Ty.i (Ty.prod Ty.i (Ty.prod Ty.i (Ty.prod Ty.i (Ty.prod Ty.i
  Ty.unit))))))) i.2.2.1, AV.pv (Ty.slice (Ty.prod Ty.i (Ty.prod Ty.i (Ty.prod Ty.i (Ty.prod Ty.i (Ty.prod Ty.i (Ty.prod Ty.i (Ty.prod (Ty.int
  IntKind.i64) (Ty.prod (Ty.slice YReadMark) (Ty.prod (Ty.slice YReadMark) Ty.unit)))))))))) i.2.2.2.1, AV.pv (Ty.slice
  YReadMark) i.2.2.2.2.1, AV.pv (Ty.slice YReadMark) i.2.2.2.2.2.1, AV.pv Ty.i i.2.2.2.2.2.2.1]])]⟩

noncomputable def spec_FindTransaction_E2 (i : spec_FindTransaction_I2) (p : spec_FindTransaction_Q2) (R : Type) (K : Ex → St → Option R) : Option R := sumC p (fun p => K (Ex.ret) (spec_FindTransaction_X2_0 i p)) fun p => K (Ex.exit 0) (spec_FindTransaction_X2_1 i p)

noncomputable def spec_FindTransaction_K2 (i : spec_FindTransaction_I2) (p : spec_FindTransaction_Q2) : Ex × St := sumC p (fun p => (Ex.ret, spec_FindTransaction_X2_0 i p)) fun p => (Ex.exit 0, spec_FindTransaction_X2_1 i p)

def spec_FindTransaction_M2 (i : spec_FindTransaction_I2) (v : spec_FindTransaction_V2) : den spec_FindTransaction_T2.ty := (i.1, v.1, i.2.1, i.2.2.1, i.2.2.2.1, i.2.2.2.2.1, i.2.2.2.2.2.1, i.2.2.2.2.2.2.1, ())

def spec_FindTransaction_P2 (x : den spec_FindTransaction_T2.ty) : spec_FindTransaction_I2 × spec_FindTransaction_V2 := ((x.1, x.2.2.1, x.2.2.2.1, x.2.2.2.2.1, x.2.2.2.2.2.1, x.2.2.2.2.2.2.1, x.2.2.2.2.2.2.2.1, ()), (x.2.1, ()))

noncomputable def spec_FindTransaction_C : Cfg := { ti := g_tis, ents := [], ann := [(2, loopFn spec_FindTransaction_T2 0 spec_FindTransaction_P2 spec_FindTransaction_D2 spec_FindTransaction_E2)], lent := 0 }

def spec_FindTransaction_ti : Tmpl := ⟨(.slot (Ty.prod Ty.bool (Ty.prod YStore (Ty.prod
  (Ty.slice (Ty.prod Ty.i (Ty.prod Ty.i (Ty.prod Ty.i (Ty.prod Ty.i (Ty.prod Ty.i (Ty.prod Ty.i (Ty.prod Ty.i (Ty.prod (Ty.slice
  YReadMark) (Ty.prod (Ty.slice YReadMark) Ty.unit)))))))))) (Ty.prod (Ty.slice (Ty.prod Ty.i (Ty.prod
  Ty.i Ty.unit))) (Ty.prod (Ty.slice YReadMark) (Ty.prod Ty.i Ty.unit)))))) (.slot Ty.i .nil)), .nil⟩

def spec_FindTransaction_to : Tmpl := ⟨(.slot Ty.i .nil), .nil⟩

noncomputable def spec_FindTransaction_S (x : (Bool × (List (List (Int × Int × Int × Int × Int × Unit)) × Unit) × List (Int × Int × Int × Int × Int × Int × Int × List (Int × Int × Unit) × List (Int × Int × Unit) × Unit) × List (Int × Int × Unit) × List (Int × Int × Unit) × Int × Unit) ×
  Int × Unit) : Option (Int × Unit) :=
  Option.bind (iter (fun v => spec_FindTransaction_D2 (x.2.1, x.1.1, x.1.2.1.1, x.1.2.2.1, x.1.2.2.2.1, x.1.2.2.2.2.1, x.1.2.2.2.2.2.1, ()) v _ some) (0, ())) fun p => sumC p (fun p => some (p.1, ())) fun p => some (-1, ())

noncomputable def spec_FindTransaction_Ent : Ent := ⟨93, spec_FindTransaction_ti, spec_FindTransaction_to, spec_FindTransaction_S⟩

theorem spec_FindTransaction_HC : CfgOK Go.Proofs.Tryz.prog spec_FindTransaction_C := hc_of g_tisOK g_wide all_nil

theorem spec_FindTransaction_lk2 : LkOK Go.Proofs.Tryz.prog spec_FindTransaction_C (lpc Go.Proofs.Tryz.f93 0) :=
  lk_of spec_FindTransaction_HC (m := 0) (T := spec_FindTransaction_T2) (sp := spec_FindTransaction_P2) (D := spec_FindTransaction_D2) (E := spec_FindTransaction_E2) (by kernel_rfl) (by kernel_rfl) (fun k hk => absurd hk (Nat.not_lt_zero k)) [4] spec_FindTransaction_M2 (fun x => rfl) spec_FindTransaction_D2_nat spec_FindTransaction_K2 (fun i p R K => by rcases p with p | p <;> rfl) (fun i v => by kernel_rfl)

theorem spec_FindTransaction_OK : EntOK Go.Proofs.Tryz.prog spec_FindTransaction_Ent := ok_of spec_FindTransaction_HC Go.Proofs.Tryz.func93 1 (by kernel_rfl) (fun k hk => match k, hk with | 0, _ => spec_FindTransaction_lk2) (by kernel_rfl) (by kernel_rfl) (fun x => by kernel_rfl)

/-! spec.l13Active -/

noncomputable def spec_l13Active_C : Cfg := { ti := g_tis, ents := [spec_FindTransaction_Ent], ann := [], lent := 0 }

def spec_l13Active_ti : Tmpl := ⟨(.slot (Ty.prod Ty.bool (Ty.prod YStore (Ty.prod
  (Ty.slice (Ty.prod Ty.i (Ty.prod Ty.i (Ty.prod Ty.i (Ty.prod Ty.i (Ty.prod Ty.i (Ty.prod Ty.i (Ty.prod Ty.i (Ty.prod (Ty.slice
  YReadMark) (Ty.prod (Ty.slice YReadMark) Ty.unit)))))))))) (Ty.prod (Ty.slice (Ty.prod Ty.i (Ty.prod
  Ty.i Ty.unit))) (Ty.prod (Ty.slice YReadMark) (Ty.prod Ty.i Ty.unit)))))) (.slot Ty.i .nil)), .nil⟩

def spec_l13Active_to : Tmpl := ⟨(.slot (Ty.bool) .nil), .nil⟩

noncomputable def spec_l13Active_S (x : (Bool × (List (List (Int × Int × Int × Int × Int × Unit)) × Unit) × List (Int × Int × Int × Int × Int × Int × Int × List (Int × Int × Unit) × List (Int × Int × Unit) × Unit) × List (Int × Int × Unit) × List (Int × Int × Unit) × Int × Unit) ×
  Int × Unit) : Option (Bool × Unit) :=
  Option.bind (spec_FindTransaction_S ((x.1.1, (x.1.2.1.1, ()), x.1.2.2.1, x.1.2.2.2.1, x.1.2.2.2.2.1, x.1.2.2.2.2.2.1, ()), x.2.1, ())) fun v => bif decide (v.1 ≥ 0) then Option.bind (lAt x.1.2.2.1 v.1) fun v => some (v.2.2.1 == 1, ()) else
  some (false, ())

noncomputable def spec_l13Active_Ent : Ent := ⟨50, spec_l13Active_ti, spec_l13Active_to, spec_l13Active_S⟩

theorem spec_l13Active_HC : CfgOK Go.Proofs.Tryz.prog spec_l13Active_C := hc_of g_tisOK g_wide (all_cons spec_FindTransaction_OK all_nil)

theorem spec_l13Active_OK : EntOK Go.Proofs.Tryz.prog spec_l13Active_Ent := ok_of spec_l13Active_HC Go.Proofs.Tryz.func50 0 (by kernel_rfl) (fun k hk => absurd hk (Nat.not_lt_zero k)) (by kernel_rfl) (by kernel_rfl) (fun x => by kernel_rfl)

/-! spec.IsValidEngine -/

abbrev spec_IsValidEngine_I4 : Type := Bool × List (List (Int × Int × Int × Int × Int × Unit)) × List (Int × Int × Int × Int × Int × Int × Int × List (Int × Int × Unit) × List (Int × Int × Unit) × Unit) × List (Int × Int × Unit) × List (Int × Int × Unit) × Int × Unit

abbrev spec_IsValidEngine_V4 : Type := Int × Unit

abbrev spec_IsValidEngine_Q4 : Type := Int × Int × Int × Int × Int × Int × Int × List (Int × Int × Unit) × List (Int × Int × Unit) × Unit ⊕ Int × Int × Int × Int × Int × Int × Int × List (Int × Int × Unit) × List (Int × Int × Unit) × Unit ⊕ Int × Int × Int × Int × Int × Int × Int
  × List (Int × Int × Unit) × List (Int × Int × Unit) × Unit ⊕ Int × Int × Int × Int × Int × Int × Int × List (Int × Int × Unit) × List (Int × Int × Unit) × Unit ⊕ Int × Int × Int × Int × Int × Int × Int × List (Int × Int × Unit) × List (Int ×
  Int × Unit) × Unit ⊕ Int × Int × Int × Int × Int × Int × Int × List (Int × Int × Unit) × List (Int × Int × Unit) × Unit ⊕ Int × Int × Int × Int × Int × Int × Int × List (Int × Int × Unit) × List (Int × Int × Unit) × Unit ⊕ Int × Int × Int ×
  Int × Int × Int × Int × List (Int × Int × Unit) × List (Int × Int × Unit) × Unit ⊕ Unit

noncomputable def spec_IsValidEngine_D4 (i : spec_IsValidEngine_I4) (v : spec_IsValidEngine_V4) (R : Type) (K : spec_IsValidEngine_V4 ⊕ spec_IsValidEngine_Q4 → Option R) : Option R :=
  bif decide (v.1 < (↑(List.length i.2.2.1) : Int)) then Option.bind (lAt i.2.2.1 v.1) fun v_1 => Option.bind (spec_IsValidTransaction_S ((v_1.1, v_1.2.1, v_1.2.2.1, v_1.2.2.2.1, v_1.2.2.2.2.1, v_1.2.2.2.2.2.1, v_1.2.2.2.2.2.2.1,
  v_1.2.2.2.2.2.2.2.1, v_1.2.2.2.2.2.2.2.2.1, ()), ())) fun v_2 => bif !v_2.1 then K (Sum.inr (Sum.inl (v_1.1, v_1.2.1, v_1.2.2.1, v_1.2.2.2.1, v_1.2.2.2.2.1, v_1.2.2.2.2.2.1, v_1.2.2.2.2.2.2.1, v_1.2.2.2.2.2.2.2.1, v_1.2.2.2.2.2.2.2.2.1,
  ()))) else bif decide (v.1 > 0) then Option.bind (lAt i.2.2.1 (IntKind.wrap IntKind.i64 (v.1 - 1))) fun v_3 => bif decide (v_3.1 ≥ v_1.1) then K (Sum.inr (Sum.inr (Sum.inl (v_1.1, v_1.2.1, v_1.2.2.1, v_1.2.2.2.1, v_1.2.2.2.2.1,
  v_1.2.2.2.2.2.1, v_1.2.2.2.2.2.2.1, v_1.2.2.2.2.2.2.2.1, v_1.2.2.2.2.2.2.2.2.1, ())))) else bif decide (v_1.2.2.2.1 > i.2.2.2.2.2.1) then K (Sum.inr (Sum.inr (Sum.inr (Sum.inl (v_1.1, v_1.2.1, v_1.2.2.1, v_1.2.2.2.1, v_1.2.2.2.2.1,
  v_1.2.2.2.2.2.1, v_1.2.2.2.2.2.2.1, v_1.2.2.2.2.2.2.2.1, v_1.2.2.2.2.2.2.2.2.1, ()))))) else bif decide (v_1.2.2.2.2.2.2.1 > i.2.2.2.2.2.1) then K (Sum.inr (Sum.inr (Sum.inr (Sum.inr (Sum.inl (v_1.1, v_1.2.1, v_1.2.2.1, v_1.2.2.2.1,
  v_1.2.2.2.2.1, v_1.2.2.2.2.2.1, v_1.2.2.2.2.2.2.1, v_1.2.2.2.2.2.2.2.1, v_1.2.2.2.2.2.2.2.2.1, ())))))) else bif v_1.2.2.1 == 1 then Option.bind (spec_ReadsExist_S ((i.2.1, ()), (v_1.1, v_1.2.1, v_1.2.2.1, v_1.2.2.2.1, v_1.2.2.2.2.1,
  v_1.2.2.2.2.2.1, v_1.2.2.2.2.2.2.1, v_1.2.2.2.2.2.2.2.1, v_1.2.2.2.2.2.2.2.2.1, ()), ())) fun v_4 => bif !v_4.1 then K (Sum.inr (Sum.inr (Sum.inr (Sum.inr (Sum.inr (Sum.inl (v_1.1, v_1.2.1, v_1.2.2.1, v_1.2.2.2.1, v_1.2.2.2.2.1,
  v_1.2.2.2.2.2.1, v_1.2.2.2.2.2.2.1, v_1.2.2.2.2.2.2.2.1, v_1.2.2.2.2.2.2.2.2.1, ()))))))) else K (Sum.inl (IntKind.wrap IntKind.i64 (v.1 + 1), ())) else K (Sum.inl (IntKind.wrap IntKind.i64 (v.1 + 1), ())) else bif decide (v_1.2.2.2.1 >
  i.2.2.2.2.2.1) then K (Sum.inr (Sum.inr (Sum.inr (Sum.inr (Sum.inr (Sum.inr (Sum.inl (v_1.1, v_1.2.1, v_1.2.2.1, v_1.2.2.2.1, v_1.2.2.2.2.1, v_1.2.2.2.2.2.1, v_1.2.2.2.2.2.2.1, v_1.2.2.2.2.2.2.2.1, v_1.2.2.2.2.2.2.2.2.1, ())))))))) else bif
  decide (v_1.2.2.2.2.2.2.1 > i.2.2.2.2.2.1) then K (Sum.inr (Sum.inr (Sum.inr (Sum.inr (Sum.inr (Sum.inr (Sum.inr (Sum.inl (v_1.1, v_1.2.1, v_1.2.2.1, v_1.2.2.2.1, v_1.2.2.2.2.1, v_1.2.2.2.2.2.1, v_1.2.2.2.2.2.2.1, v_1.2.2.2.2.2.2.2.1,
  v_1.2.2.2.2.2.2.2.2.1, ()))))))))) else bif v_1.2.2.1 == 1 then Option.bind (spec_ReadsExist_S ((i.2.1, ()), (v_1.1, v_1.2.1, v_1.2.2.1, v_1.2.2.2.1, v_1.2.2.2.2.1, v_1.2.2.2.2.2.1, v_1.2.2.2.2.2.2.1, v_1.2.2.2.2.2.2.2.1,
  v_1.2.2.2.2.2.2.2.2.1, ()), ())) fun v_3 => bif !v_3.1 then K (Sum.inr (Sum.inr (Sum.inr (Sum.inr (Sum.inr (Sum.inr (Sum.inr (Sum.inr (Sum.inl (v_1.1, v_1.2.1, v_1.2.2.1, v_1.2.2.2.1, v_1.2.2.2.2.1, v_1.2.2.2.2.2.1, v_1.2.2.2.2.2.2.1,
  v_1.2.2.2.2.2.2.2.1, v_1.2.2.2.2.2.2.2.2.1, ())))))))))) else K (Sum.inl (IntKind.wrap IntKind.i64 (v.1 + 1), ())) else K (Sum.inl (IntKind.wrap IntKind.i64 (v.1 + 1), ())) else K (Sum.inr (Sum.inr (Sum.inr (Sum.inr (Sum.inr (Sum.inr
  (Sum.inr (Sum.inr (Sum.inr ())))))))))

theorem spec_IsValidEngine_D4_nat : NatD spec_IsValidEngine_D4 := fun i v R K => nat_bif (nat_bind fun _ => nat_bind fun _ => nat_bif (nat_some) (nat_bif (nat_bind fun _ => nat_bif (nat_some) (nat_bif (nat_some) (nat_bif (nat_some) (nat_bif (nat_bind fun _ => nat_bif (nat_some) (nat_some)) (nat_some))))) (nat_bif (nat_some) (nat_bif (nat_some) (nat_bif (nat_bind fun _ => nat_bif (nat_some) (nat_some)) (nat_some)))))) (nat_some)

def spec_IsValidEngine_T4 : Tmpl := ⟨(.junk (.ptr 0 0 0 (.junk (.slot Ty.i (jk 134 .nil))))), (.cells 6 (.slot (Ty.bool) (.slot (Ty.slice (Ty.slice YVersion)) (.slot (Ty.slice (Ty.prod Ty.i (Ty.prod Ty.i (Ty.prod Ty.i (Ty.prod Ty.i (Ty.prod Ty.i (Ty.prod Ty.i (Ty.prod Ty.i (Ty.prod (Ty.slice
  YReadMark) (Ty.prod (Ty.slice YReadMark) Ty.unit)))))))))) (.slot (Ty.slice YReadMark) (.slot (Ty.slice YReadMark) (.slot Ty.i .nil)))))) .nil)⟩

def spec_IsValidEngine_X4_0 (i : spec_IsValidEngine_I4) (p : Int × Int × Int × Int × Int × Int × Int × List (Int × Int × Unit) × List (Int × Int × Unit) × Unit) : St := ⟨jn 1 (AV.ptr 0 none 0 0 :: .b (false) :: jn 135 ([])), [some (Cont.cells 6 [[AV.pv Ty.bool i.1, AV.pv (Ty.slice (Ty.slice (Ty.prod Ty.i (Ty.prod Ty.i (Ty.prod Ty.i (Ty.prod (Ty.int
  IntKind.i64) (Ty.prod Ty.i Ty.unit))))))) i.2.1, AV.pv (Ty.slice (Ty.prod Ty.i (Ty.prod Ty.i (Ty.prod Ty.i (Ty.prod Ty.i (Ty.prod Ty.i (Ty.prod
  Ty.i (Ty.prod Ty.i (Ty.prod (Ty.slice YReadMark) (Ty.prod (Ty.slice YReadMark)
  Ty.unit)))))))))) i.2.2.1, AV.pv (Ty.slice YReadMark) i.2.2.2.1, AV.pv (Ty.slice YReadMark) i.2.2.2.2.1, AV.pv (Ty.int
  IntKind.i64) i.2.2.2.2.2.1]]), some (Cont.cells 9 [[AV.pv Ty.i p.1, AV.pv Ty.i p.2.1, AV.pv Ty.i p.2.2.1, AV.pv Ty.i p.2.2.2.1, AV.pv Ty.i p.2.2.2.2.1, AV.pv
  Ty.i p.2.2.2.2.2.1, AV.pv Ty.i p.2.2.2.2.2.2.1, AV.pv (Ty.slice YReadMark) p.2.2.2.2.2.2.2.1, AV.pv (Ty.slice (Ty.prod Ty.i (Ty.prod
  Ty.i Ty.unit))) p.2.2.2.2.2.2.2.2.1]])]⟩

def spec_IsValidEngine_X4_1 (i : spec_IsValidEngine_I4) (p : Int × Int × Int × Int × Int × Int × Int × List (Int × Int × Unit) × List (Int × Int × Unit) × Unit) : St := ⟨jn 1 (AV.ptr 0 none 0 0 :: .b (false) :: jn 135 ([])), [some (Cont.cells 6 [[AV.pv Ty.bool i.1, AV.pv (Ty.slice (Ty.slice (Ty.prod Ty.i (Ty.prod Ty.i (Ty.prod Ty.i (Ty.prod (Ty.int
  IntKind.i64) (Ty.prod Ty.i Ty.unit))))))) i.2.1, AV.pv (Ty.slice (Ty.prod Ty.i (Ty.prod Ty.i (Ty.prod Ty.i (Ty.prod Ty.i (Ty.prod Ty.i (Ty.prod
  Ty.i (Ty.prod Ty.i (Ty.prod (Ty.slice YReadMark) (Ty.prod (Ty.slice YReadMark)
  Ty.unit)))))))))) i.2.2.1, AV.pv (Ty.slice YReadMark) i.2.2.2.1, AV.pv (Ty.slice YReadMark) i.2.2.2.2.1, AV.pv (Ty.int
  IntKind.i64) i.2.2.2.2.2.1]]), some (Cont.cells 9 [[AV.pv Ty.i p.1, AV.pv Ty.i p.2.1, AV.pv Ty.i p.2.2.1, AV.pv Ty.i p.2.2.2.1, AV.pv Ty.i p.2.2.2.2.1, AV.pv
  Ty.i p.2.2.2.2.2.1, AV.pv Ty.i p.2.2.2.2.2.2.1, AV.pv (Ty.slice YReadMark) p.2.2.2.2.2.2.2.1, AV.pv (Ty.slice (Ty.prod Ty.i (Ty.prod
  Ty.i Ty.unit))) p.2.2.2.2.2.2.2.2.1]])]⟩

def spec_IsValidEngine_X4_2 (i : spec_IsValidEngine_I4) (p : Int × Int × Int × Int × Int × Int × Int × List (Int × Int × Unit) × List (Int × Int × Unit) × Unit) : St := ⟨jn 1 (AV.ptr 0 none 0 0 :: .b (false) :: jn 135 ([])), [some (Cont.cells 6 [[AV.pv Ty.bool i.1, AV.pv (Ty.slice (Ty.slice (Ty.prod Ty.i (Ty.prod Ty.i (Ty.prod Ty.i (Ty.prod (Ty.int
  IntKind.i64) (Ty.prod Ty.i Ty.unit))))))) i.2.1, AV.pv (Ty.slice (Ty.prod Ty.i (Ty.prod Ty.i (Ty.prod Ty.i (Ty.prod Ty.i (Ty.prod Ty.i (Ty.prod
  Ty.i (Ty.prod Ty.i (Ty.prod (Ty.slice YReadMark) (Ty.prod (Ty.slice YReadMark)
  Ty.unit)))))))))) i.2.2.1, AV.pv (Ty.slice YReadMark) i.2.2.2.1, AV.pv (Ty.slice YReadMark) i.2.2.2.2.1, AV.pv (Ty.int
  IntKind.i64) i.2.2.2.2.2.1]]), some (Cont.cells 9 [[AV.pv Ty.i p.1, AV.pv Ty.i p.2.1, AV.pv Ty.i p.2.2.1, AV.pv Ty.i p.2.2.2.1, AV.pv Ty.i p.2.2.2.2.1, AV.pv
  Ty.i p.2.2.2.2.2.1, AV.pv Ty.i p.2.2.2.2.2.2.1, AV.pv (Ty.slice YReadMark) p.2.2.2.2.2.2.2.1, AV.pv (Ty.slice (Ty.prod Ty.i (Ty.prod
  Ty.i Ty.unit))) p.2.2.2.2.2.2.2.2.1]])]⟩

def spec_IsValidEngine_X4_3 (i : spec_IsValidEngine_I4) (p : Int × Int × Int × Int × Int × Int × Int × List (Int × Int × Unit) × List (Int × Int × Unit) × Unit) : St := ⟨jn 1 (AV.ptr 0 none 0 0 :: .b (false) :: jn 135 ([])), [some (Cont.cells 6 [[AV.pv Ty.bool i.1, AV.pv (Ty.slice (Ty.slice (Ty.prod Ty.i (Ty.prod Ty.i (Ty.prod Ty.i (Ty.prod (Ty.int
  IntKind.i64) (Ty.prod Ty.i Ty.unit))))))) i.2.1, AV.pv (Ty.slice (Ty.prod Ty.i (Ty.prod Ty.i (Ty.prod Ty.i (Ty.prod Ty.i (Ty.prod Ty.i (Ty.prod
  Ty.i (Ty.prod Ty.i (Ty.prod (Ty.slice YReadMark) (Ty.prod (Ty.slice YReadMark)
  Ty.unit)))))))))) i.2.2.1, AV.pv (Ty.slice YReadMark) i.2.2.2.1, AV.pv (Ty.slice YReadMark) i.2.2.2.2.1, AV.pv (Ty.int
  IntKind.i64) i.2.2.2.2.2.1]]), some (Cont.cells 9 [[AV.pv Ty.i p.1, AV.pv Ty.i p.2.1, AV.pv Ty.i p.2.2.1, AV.pv Ty.i p.2.2.2.1, AV.pv Ty.i p.2.2.2.2.1, AV.pv
  Ty.i p.2.2.2.2.2.1, AV.pv Ty.i p.2.2.2.2.2.2.1, AV.pv (Ty.slice YReadMark) p.2.2.2.2.2.2.2.1, AV.pv (Ty.slice (Ty.prod Ty.i (Ty.prod
  Ty.i Ty.unit))) p.2.2.2.2.2.2.2.2.1]])]⟩

def spec_IsValidEngine_X4_4 (i : spec_IsValidEngine_I4) (p : Int × Int × Int × Int × Int × Int × Int × List (Int × Int × Unit) × List (Int × Int × Unit) × Unit) : St := ⟨jn 1 (AV.ptr 0 none 0 0 :: .b (false) :: jn 135 ([])), [some (Cont.cells 6 [[AV.pv Ty.bool i.1, AV.pv (Ty.slice (Ty.slice (Ty.prod Ty.i (Ty.prod Ty.i (Ty.prod Ty.i (Ty.prod (Ty.int
  IntKind.i64) (Ty.prod Ty.i Ty.unit))))))) i.2.1, AV.pv (Ty.slice (Ty.prod Ty.i (Ty.prod Ty.i (Ty.prod Ty.i (Ty.prod Ty.i (Ty.prod Ty.i (Ty.prod
  Ty.i (Ty.prod Ty.i (Ty.prod (Ty.slice YReadMark) (Ty.prod (Ty.slice YReadMark)
  Ty.unit)))))))))) i.2.2.1, AV.pv (Ty.slice YReadMark) i.2.2.2.1, AV.pv (Ty.slice YReadMark) i.2.2.2.2.1, AV.pv (Ty.int
  IntKind.i64) i.2.2.2.2.2.1]]), some (Cont.cells 9 [[AV.pv Ty.i p.1, AV.pv Ty.i p.2.1, AV.pv Ty.i p.2.2.1, AV.pv Ty.i p.2.2.2.1, AV.pv Ty.i p.2.2.2.2.1, AV.pv
  Ty.i p.2.2.2.2.2.1, AV.pv Ty.i p.2.2.2.2.2.2.1, AV.pv (Ty.slice YReadMark) p.2.2.2.2.2.2.2.1, AV.pv (Ty.slice (Ty.prod Ty.i (Ty.prod
  Ty.i Ty.unit))) p.2.2.2.2.2.2.2.2.1]])]⟩

def spec_IsValidEngine_X4_5 (i : spec_IsValidEngine_I4) (p : Int × Int × Int × Int × Int × Int × Int × List (Int × Int × Unit) × List (Int × Int × Unit) × Unit) : St := ⟨jn 1 (AV.ptr 0 none 0 0 :: .b (false) :: jn 135 ([])), [some (Cont.cells 6 [[AV.pv Ty.bool i.1, AV.pv (Ty.slice (Ty.slice (Ty.prod Ty.i (Ty.prod Ty.i (Ty.prod Ty.i (Ty.prod (Ty.int
  IntKind.i64) (Ty.prod Ty.i Ty.unit))))))) i.2.1, AV.pv (Ty.slice (Ty.prod Ty.i (Ty.prod Ty.i (Ty.prod Ty.i (Ty.prod Ty.i (Ty.prod Ty.i (Ty.prod
  Ty.i (Ty.prod Ty.i (Ty.prod (Ty.slice YReadMark) (Ty.prod (Ty.slice YReadMark)
  Ty.unit)))))))))) i.2.2.1, AV.pv (Ty.slice YReadMark) i.2.2.2.1, AV.pv (Ty.slice YReadMark) i.2.2.2.2.1, AV.pv (Ty.int
  IntKind.i64) i.2.2.2.2.2.1]]), some (Cont.cells 9 [[AV.pv Ty.i p.1, AV.pv Ty.i p.2.1, AV.pv Ty.i p.2.2.1, AV.pv Ty.i p.2.2.2.1, AV.pv Ty.i p.2.2.2.2.1, AV.pv
  Ty.i p.2.2.2.2.2.1, AV.pv Ty.i p.2.2.2.2.2.2.1, AV.pv (Ty.slice YReadMark) p.2.2.2.2.2.2.2.1, AV.pv (Ty.slice (Ty.prod Ty.i (Ty.prod
  Ty.i Ty.unit))) p.2.2.2.2.2.2.2.2.1]])]⟩

def spec_IsValidEngine_X4_6 (i : spec_IsValidEngine_I4) (p : Int × Int × Int × Int × Int × Int × Int × List (Int × Int × Unit) × List (Int × Int × Unit) × Unit) : St := ⟨jn 1 (AV.ptr 0 none 0 0 :: .b (false) :: jn 135 ([])), [some (Cont.cells 6 [[AV.pv Ty.bool i.1, AV.pv (Ty.slice (Ty.slice (Ty.prod Ty.i (Ty.prod Ty.i (Ty.prod Ty.i (Ty.prod (Ty.int
  IntKind.i64) (Ty.prod Ty.i Ty.unit))))))) i.2.1, AV.pv (Ty.slice (Ty.prod Ty.i (Ty.prod Ty.i (Ty.prod Ty.i (Ty.prod Ty.i (Ty.prod Ty.i (Ty.prod
  Ty.i (Ty.prod Ty.i (Ty.prod (Ty.slice YReadMark) (Ty.prod (Ty.slice YReadMark)
  Ty.unit)))))))))) i.2.2.1, AV.pv (Ty.slice YReadMark) i.2.2.2.1, AV.pv (Ty.slice YReadMark) i.2.2.2.2.1, AV.pv (Ty.int
  IntKind.i64) i.2.2.2.2.2.1]]), some (Cont.cells 9 [[AV.pv Ty.i p.1, AV.pv Ty.i p.2.1, AV.pv Ty.i p.2.2.1, AV.pv Ty.i p.2.2.2.1, AV.pv Ty.i p.2.2.2.2.1, AV.pv
  Ty.i p.2.2.2.2.2.1, AV.pv Ty.i p.2.2.2.2.2.2.1, AV.pv (Ty.slice YReadMark) p.2.2.2.2.2.2.2.1, AV.pv (Ty.slice (Ty.prod Ty.i (Ty.prod
  Ty.i Ty.unit))) p.2.2.2.2.2.2.2.2.1]])]⟩

def spec_IsValidEngine_X4_7 (i : spec_IsValidEngine_I4) (p : Int × Int × Int × Int × Int × Int × Int × List (Int × Int × Unit) × List (Int × Int × Unit) × Unit) : St := ⟨jn 1 (AV.ptr 0 none 0 0 :: .b (false) :: jn 135 ([])), [some (Cont.cells 6 [[AV.pv Ty.bool i.1, AV.pv (Ty.slice (Ty.slice (Ty.prod Ty.i (Ty.prod Ty.i (Ty.prod Ty.i (Ty.prod (Ty.int
  IntKind.i64) (Ty.prod Ty.i Ty.unit))))))) i.2.1, AV.pv (Ty.slice (Ty.prod Ty.i (Ty.prod Ty.i (Ty.prod Ty.i (Ty.prod Ty.i (Ty.prod Ty.i (Ty.prod
  Ty.i (Ty.prod Ty.i (Ty.prod (Ty.slice YReadMark) (Ty.prod (Ty.slice YReadMark)
  Ty.unit)))))))))) i.2.2.1, AV.pv (Ty.slice YReadMark) i.2.2.2.1, AV.pv (Ty.slice YReadMark) i.2.2.2.2.1, AV.pv (Ty.int
  IntKind.i64) i.2.2.2.2.2.1]]), some (Cont.cells 9 [[AV.pv Ty.i p.1, AV.pv Ty.i p.2.1, AV.pv Ty.i p.2.2.1, AV.pv Ty.i p.2.2.2.1, AV.pv Ty.i p.2.2.2.2.1, AV.pv
  Ty.i p.2.2.2.2.2.1, AV.pv Ty.i p.2.2.2.2.2.2.1, AV.pv (Ty.slice YReadMark) p.2.2.2.2.2.2.2.1, AV.pv (Ty.slice (Ty.prod Ty.i (Ty.prod
  Ty.i Ty.unit))) p.2.2.2.2.2.2.2.2.1]])]⟩

def spec_IsValidEngine_X4_8 (i : spec_IsValidEngine_I4) (p : Unit) : St := ⟨jn 1 (AV.ptr 0 none 0 0 :: jn 136 ([])), [some (Cont.cells 6 [[AV.pv Ty.bool i.1, AV.pv (Ty.slice (Ty.slice (Ty.prod Ty.i (Ty.prod Ty.i (Ty.prod Ty.i (Ty.prod Ty.i (Ty.prod
  Ty.i Ty.unit))))))) i.2.1, AV.pv (Ty.slice (Ty.prod Ty.i (Ty.prod Ty.i (Ty.prod Ty.i (Ty.prod Ty.i (Ty.prod Ty.i (Ty.prod Ty.i
  (Ty.prod Ty.i (Ty.prod (Ty.slice YReadMark) (Ty.prod (Ty.slice YReadMark) Ty.unit)))))))))) i.2.2.1,
  AV.pv (Ty.slice YReadMark) i.2.2.2.1, AV.pv (Ty.slice YReadMark) i.2.2.2.2.1, AV.pv Ty.i
  i.2.2.2.2.2.1]])]⟩

noncomputable def spec_IsValidEngine_E4 (i : spec_IsValidEngine_I4) (p : spec_IsValidEngine_Q4) (R : Type) (K : Ex → St → Option R) : Option R := sumC p (fun p => K (Ex.ret) (spec_IsValidEngine_X4_0 i p)) fun p => sumC p (fun p => K (Ex.ret) (spec_IsValidEngine_X4_1 i p)) fun p => sumC p (fun p => K (Ex.ret) (spec_IsValidEngine_X4_2 i p)) fun p => sumC p (fun p => K (Ex.ret) (spec_IsValidEngine_X4_3 i p)) fun p => sumC p (fun p => K (Ex.ret) (spec_IsValidEngine_X4_4 i p)) fun p => sumC p (fun p => K (Ex.ret) (spec_IsValidEngine_X4_5 i p)) fun p => sumC p (fun p => K (Ex.ret) (spec_IsValidEngine_X4_6 i p)) fun p => sumC p (fun p => K (Ex.ret) (spec_IsValidEngine_X4_7 i p)) fun p => K (Ex.exit 0) (spec_IsValidEngine_X4_8 i p)

noncomputable def spec_IsValidEngine_K4 (i : spec_IsValidEngine_I4) (p : spec_IsValidEngine_Q4) : Ex × St := sumC p (fun p => (Ex.ret, spec_IsValidEngine_X4_0 i p)) fun p => sumC p (fun p => (Ex.ret, spec_IsValidEngine_X4_1 i p)) fun p => sumC p (fun p => (Ex.ret, spec_IsValidEngine_X4_2 i p)) fun p => sumC p (fun p => (Ex.ret, spec_IsValidEngine_X4_3 i p)) fun p => sumC p (fun p => (Ex.ret, spec_IsValidEngine_X4_4 i p)) fun p => sumC p (fun p => (Ex.ret, spec_IsValidEngine_X4_5 i p)) fun p => sumC p (fun p => (Ex.ret, spec_IsValidEngine_X4_6 i p)) fun p => sumC p (fun p => (Ex.ret, spec_IsValidEngine_X4_7 i p)) fun p => (Ex.exit 0, spec_IsValidEngine_X4_8 i p)

def spec_IsValidEngine_M4 (i : spec_IsValidEngine_I4) (v : spec_IsValidEngine_V4) : den spec_IsValidEngine_T4.ty := (v.1, i.1, i.2.1, i.2.2.1, i.2.2.2.1, i.2.2.2.2.1, i.2.2.2.2.2.1, ())

def spec_IsValidEngine_P4 (x : den spec_IsValidEngine_T4.ty) : spec_IsValidEngine_I4 × spec_IsValidEngine_V4 := ((x.2.1, x.2.2.1, x.2.2.2.1, x.2.2.2.2.1, x.2.2.2.2.2.1, x.2.2.2.2.2.2.1, ()), (x.1, ()))

abbrev spec_IsValidEngine_I10 : Type := Bool × List (List (Int × Int × Int × Int × Int × Unit)) × List (Int × Int × Int × Int × Int × Int × Int × List (Int × Int × Unit) × List (Int × Int × Unit) × Unit) × List (Int × Int × Unit) × List (Int × Int × Unit) × Int × Unit

abbrev spec_IsValidEngine_V10 : Type := Int × Unit

abbrev spec_IsValidEngine_Q10 : Type := Unit ⊕ Unit

noncomputable def spec_IsValidEngine_D10 (i : spec_IsValidEngine_I10) (v : spec_IsValidEngine_V10) (R : Type) (K : spec_IsValidEngine_V10 ⊕ spec_IsValidEngine_Q10 → Option R) : Option R :=
  bif decide (v.1 < (↑(List.length i.2.2.2.1) : Int)) then Option.bind (lAt i.2.2.2.1 v.1) fun v_1 => Option.bind (spec_l13Active_S ((i.1, (i.2.1, ()), i.2.2.1, i.2.2.2.1, i.2.2.2.2.1, i.2.2.2.2.2.1, ()), v_1.2.1, ())) fun v_2 => bif !v_2.1
  then K (Sum.inr (Sum.inl ())) else K (Sum.inl (IntKind.wrap IntKind.i64 (v.1 + 1), ())) else K (Sum.inr (Sum.inr ()))

theorem spec_IsValidEngine_D10_nat : NatD spec_IsValidEngine_D10 := fun i v R K => nat_bif (nat_bind fun _ => nat_bind fun _ => nat_bif (nat_some) (nat_some)) (nat_some)

def spec_IsValidEngine_T10 : Tmpl := ⟨(.junk (.ptr 0 0 0 (jk 3 (.slot Ty.i (jk 132 .nil))))), (.cells 6 (.slot (Ty.bool) (.slot (Ty.slice (Ty.slice YVersion)) (.slot (Ty.slice (Ty.prod Ty.i (Ty.prod Ty.i (Ty.prod Ty.i (Ty.prod Ty.i (Ty.prod Ty.i (Ty.prod Ty.i (Ty.prod Ty.i (Ty.prod (Ty.slice
  YReadMark) (Ty.prod (Ty.slice YReadMark) Ty.unit)))))))))) (.slot (Ty.slice YReadMark) (.slot (Ty.slice YReadMark) (.slot Ty.i .nil)))))) .nil)⟩

def spec_IsValidEngine_X10_0 (i : spec_IsValidEngine_I10) (p : Unit) : St := ⟨jn 1 (AV.ptr 0 none 0 0 :: .b (false) :: jn 135 ([])), [some (Cont.cells 6 [[AV.pv Ty.bool i.1, AV.pv (Ty.slice (Ty.slice (Ty.prod Ty.i (Ty.prod Ty.i (Ty.prod Ty.i (Ty.prod (Ty.int
  IntKind.i64) (Ty.prod Ty.i Ty.unit))))))) i.2.1, AV.pv (Ty.slice (Ty.prod Ty.i (Ty.prod Ty.i (Ty.prod Ty.i (Ty.prod Ty.i (Ty.prod Ty.i (Ty.prod
  Ty.i (Ty.prod Ty.i (Ty.prod (Ty.slice YReadMark) (Ty.prod (Ty.slice YReadMark)
  Ty.unit)))))))))) i.2.2.1, AV.pv (Ty.slice YReadMark) i.2.2.2.1, AV.pv (Ty.slice YReadMark) i.2.2.2.2.1, AV.pv (Ty.int
  IntKind.i64) i.2.2.2.2.2.1]])]⟩

def spec_IsValidEngine_X10_1 (i : spec_IsValidEngine_I10) (p : Unit) : St := ⟨jn 1 (AV.ptr 0 none 0 0 :: jn 136 ([])), [some (Cont.cells 6 [[AV.pv Ty.bool i.1, AV.pv (Ty.slice (Ty.slice (Ty.prod Ty.i (Ty.prod Ty.i (Ty.prod Ty.i (Ty.prod Ty.i (Ty.prod
  Ty.i Ty.unit))))))) i.2.1, AV.pv (Ty.slice (Ty.prod Ty.i (Ty.prod Ty.i (Ty.prod Ty.i (Ty.prod Ty.i (Ty.prod Ty.i (Ty.prod Ty.i
  (Ty.prod Ty.i (Ty.prod (Ty.slice YReadMark) (Ty.prod (Ty.slice YReadMark) Ty.unit)))))))))) i.2.2.1,
  AV.pv (Ty.slice YReadMark) i.2.2.2.1, AV.pv (Ty.slice YReadMark) i.2.2.2.2.1, AV.pv Ty.i
  i.2.2.2.2.2.1]])]⟩

noncomputable def spec_IsValidEngine_E10 (i : spec_IsValidEngine_I10) (p : spec_IsValidEngine_Q10) (R : Type) (K : Ex → St → Option R) : Option R := sumC p (fun p => K (Ex.ret) (spec_IsValidEngine_X10_0 i p)) fun p => K (Ex.exit 2) (spec_IsValidEngine_X10_1 i p)

noncomputable def spec_IsValidEngine_K10 (i : spec_IsValidEngine_I10) (p : spec_IsValidEngine_Q10) : Ex × St := sumC p (fun p => (Ex.ret, spec_IsValidEngine_X10_0 i p)) fun p => (Ex.exit 2, spec_IsValidEngine_X10_1 i p)

def spec_IsValidEngine_M10 (i : spec_IsValidEngine_I10) (v : spec_IsValidEngine_V10) : den spec_IsValidEngine_T10.ty := (v.1, i.1, i.2.1, i.2.2.1, i.2.2.2.1, i.2.2.2.2.1, i.2.2.2.2.2.1, ())

def spec_IsValidEngine_P10 (x : den spec_IsValidEngine_T10.ty) : spec_IsValidEngine_I10 × spec_IsValidEngine_V10 := ((x.2.1, x.2.2.1, x.2.2.2.1, x.2.2.2.2.1, x.2.2.2.2.2.1, x.2.2.2.2.2.2.1, ()), (x.1, ()))

abbrev spec_IsValidEngine_I15 : Type := Bool × List (List (Int × Int × Int × Int × Int × Unit)) × List (Int × Int × Int × Int × Int × Int × Int × List (Int × Int × Unit) × List (Int × Int × Unit) × Unit) × List (Int × Int × Unit) × List (Int × Int × Unit) × Int × Unit

abbrev spec_IsValidEngine_V15 : Type := Int × Unit

abbrev spec_IsValidEngine_Q15 : Type := Unit ⊕ Unit ⊕ Unit

noncomputable def spec_IsValidEngine_D15 (i : spec_IsValidEngine_I15) (v : spec_IsValidEngine_V15) (R : Type) (K : spec_IsValidEngine_V15 ⊕ spec_IsValidEngine_Q15 → Option R) : Option R :=
  bif decide (v.1 < (↑(List.length i.2.2.2.2.1) : Int)) then Option.bind (lAt i.2.2.2.2.1 v.1) fun v_1 => Option.bind (spec_l13Active_S ((i.1, (i.2.1, ()), i.2.2.1, i.2.2.2.1, i.2.2.2.2.1, i.2.2.2.2.2.1, ()), v_1.1, ())) fun v_2 => bif !v_2.1
  then K (Sum.inr (Sum.inl ())) else Option.bind (lAt i.2.2.2.2.1 v.1) fun v_3 => Option.bind (spec_l13Active_S ((i.1, (i.2.1, ()), i.2.2.1, i.2.2.2.1, i.2.2.2.2.1, i.2.2.2.2.2.1, ()), v_3.2.1, ())) fun v_4 => bif !v_4.1 then K (Sum.inr
  (Sum.inr (Sum.inl ()))) else K (Sum.inl (IntKind.wrap IntKind.i64 (v.1 + 1), ())) else K (Sum.inr (Sum.inr (Sum.inr ())))

theorem spec_IsValidEngine_D15_nat : NatD spec_IsValidEngine_D15 := fun i v R K => nat_bif (nat_bind fun _ => nat_bind fun _ => nat_bif (nat_some) (nat_bind fun _ => nat_bind fun _ => nat_bif (nat_some) (nat_some))) (nat_some)

def spec_IsValidEngine_T15 : Tmpl := ⟨(.junk (.ptr 0 0 0 (jk 4 (.slot Ty.i (jk 131 .nil))))), (.cells 6 (.slot (Ty.bool) (.slot (Ty.slice (Ty.slice YVersion)) (.slot (Ty.slice (Ty.prod Ty.i (Ty.prod Ty.i (Ty.prod Ty.i (Ty.prod Ty.i (Ty.prod Ty.i (Ty.prod Ty.i (Ty.prod Ty.i (Ty.prod (Ty.slice
  YReadMark) (Ty.prod (Ty.slice YReadMark) Ty.unit)))))))))) (.slot (Ty.slice YReadMark) (.slot (Ty.slice YReadMark) (.slot Ty.i .nil)))))) .nil)⟩

def spec_IsValidEngine_X15_0 (i : spec_IsValidEngine_I15) (p : Unit) : St := ⟨jn 2 (.b (false) :: jn 135 ([])), [some (Cont.cells 6 [[AV.pv Ty.bool i.1, AV.pv (Ty.slice (Ty.slice (Ty.prod Ty.i (Ty.prod Ty.i (Ty.prod Ty.i (Ty.prod Ty.i (Ty.prod (Ty.int
  IntKind.i64) Ty.unit))))))) i.2.1, AV.pv (Ty.slice (Ty.prod Ty.i (Ty.prod Ty.i (Ty.prod Ty.i (Ty.prod Ty.i (Ty.prod Ty.i (Ty.prod Ty.i (Ty.prod
  Ty.i (Ty.prod (Ty.slice YReadMark) (Ty.prod (Ty.slice YReadMark) Ty.unit)))))))))) i.2.2.1, AV.pv
  (Ty.slice YReadMark) i.2.2.2.1, AV.pv (Ty.slice YReadMark) i.2.2.2.2.1, AV.pv Ty.i i.2.2.2.2.2.1]])]⟩

def spec_IsValidEngine_X15_1 (i : spec_IsValidEngine_I15) (p : Unit) : St := ⟨jn 2 (.b (false) :: jn 135 ([])), [some (Cont.cells 6 [[AV.pv Ty.bool i.1, AV.pv (Ty.slice (Ty.slice (Ty.prod Ty.i (Ty.prod Ty.i (Ty.prod Ty.i (Ty.prod Ty.i (Ty.prod (Ty.int
  IntKind.i64) Ty.unit))))))) i.2.1, AV.pv (Ty.slice (Ty.prod Ty.i (Ty.prod Ty.i (Ty.prod Ty.i (Ty.prod Ty.i (Ty.prod Ty.i (Ty.prod Ty.i (Ty.prod
  Ty.i (Ty.prod (Ty.slice YReadMark) (Ty.prod (Ty.slice YReadMark) Ty.unit)))))))))) i.2.2.1, AV.pv
  (Ty.slice YReadMark) i.2.2.2.1, AV.pv (Ty.slice YReadMark) i.2.2.2.2.1, AV.pv Ty.i i.2.2.2.2.2.1]])]⟩

def spec_IsValidEngine_X15_2 (i : spec_IsValidEngine_I15) (p : Unit) : St := ⟨jn 138 ([]), [some (Cont.cells 6 [[AV.pv Ty.bool i.1, AV.pv (Ty.slice (Ty.slice (Ty.prod Ty.i (Ty.prod Ty.i (Ty.prod Ty.i (Ty.prod Ty.i (Ty.prod Ty.i
  Ty.unit))))))) i.2.1, AV.pv (Ty.slice (Ty.prod Ty.i (Ty.prod Ty.i (Ty.prod Ty.i (Ty.prod Ty.i (Ty.prod Ty.i (Ty.prod Ty.i (Ty.prod (Ty.int
  IntKind.i64) (Ty.prod (Ty.slice YReadMark) (Ty.prod (Ty.slice YReadMark) Ty.unit)))))))))) i.2.2.1, AV.pv (Ty.slice
  YReadMark) i.2.2.2.1, AV.pv (Ty.slice YReadMark) i.2.2.2.2.1, AV.pv Ty.i i.2.2.2.2.2.1]])]⟩

noncomputable def spec_IsValidEngine_E15 (i : spec_IsValidEngine_I15) (p : spec_IsValidEngine_Q15) (R : Type) (K : Ex → St → Option R) : Option R := sumC p (fun p => K (Ex.ret) (spec_IsValidEngine_X15_0 i p)) fun p => sumC p (fun p => K (Ex.ret) (spec_IsValidEngine_X15_1 i p)) fun p => K (Ex.exit 4) (spec_IsValidEngine_X15_2 i p)

noncomputable def spec_IsValidEngine_K15 (i : spec_IsValidEngine_I15) (p : spec_IsValidEngine_Q15) : Ex × St := sumC p (fun p => (Ex.ret, spec_IsValidEngine_X15_0 i p)) fun p => sumC p (fun p => (Ex.ret, spec_IsValidEngine_X15_1 i p)) fun p => (Ex.exit 4, spec_IsValidEngine_X15_2 i p)

def spec_IsValidEngine_M15 (i : spec_IsValidEngine_I15) (v : spec_IsValidEngine_V15) : den spec_IsValidEngine_T15.ty := (v.1, i.1, i.2.1, i.2.2.1, i.2.2.2.1, i.2.2.2.2.1, i.2.2.2.2.2.1, ())

def spec_IsValidEngine_P15 (x : den spec_IsValidEngine_T15.ty) : spec_IsValidEngine_I15 × spec_IsValidEngine_V15 := ((x.2.1, x.2.2.1, x.2.2.2.1, x.2.2.2.2.1, x.2.2.2.2.2.1, x.2.2.2.2.2.2.1, ()), (x.1, ()))

noncomputable def spec_IsValidEngine_C : Cfg := { ti := g_tis, ents := [spec_IsValidStore_Ent, spec_AreLocks_Ent, spec_AreWaits_Ent, spec_LastStamp_Ent, spec_l1In_Ent, spec_IsValidTransaction_Ent, spec_ReadsExist_Ent, spec_l13Active_Ent], ann := [(4, loopFn spec_IsValidEngine_T4 0 spec_IsValidEngine_P4 spec_IsValidEngine_D4 spec_IsValidEngine_E4), (10, loopFn spec_IsValidEngine_T10 0 spec_IsValidEngine_P10 spec_IsValidEngine_D10 spec_IsValidEngine_E10), (15, loopFn spec_IsValidEngine_T15 0 spec_IsValidEngine_P15 spec_IsValidEngine_D15 spec_IsValidEngine_E15)], lent := 0 }

def spec_IsValidEngine_ti : Tmpl := ⟨(.slot (Ty.prod Ty.bool (Ty.prod YStore (Ty.prod
  (Ty.slice (Ty.prod Ty.i (Ty.prod Ty.i (Ty.prod Ty.i (Ty.prod Ty.i (Ty.prod Ty.i (Ty.prod Ty.i (Ty.prod Ty.i (Ty.prod (Ty.slice
  YReadMark) (Ty.prod (Ty.slice YReadMark) Ty.unit)))))))))) (Ty.prod (Ty.slice (Ty.prod Ty.i (Ty.prod
  Ty.i Ty.unit))) (Ty.prod (Ty.slice YReadMark) (Ty.prod Ty.i Ty.unit)))))) .nil), .nil⟩

def spec_IsValidEngine_to : Tmpl := ⟨(.slot (Ty.bool) .nil), .nil⟩

noncomputable def spec_IsValidEngine_S (x : (Bool × (List (List (Int × Int × Int × Int × Int × Unit)) × Unit) × List (Int × Int × Int × Int × Int × Int × Int × List (Int × Int × Unit) × List (Int × Int × Unit) × Unit) × List (Int × Int × Unit) × List (Int × Int × Unit) × Int × Unit) ×
  Unit) : Option (Bool × Unit) :=
  Option.bind (spec_IsValidStore_S ((x.1.2.1.1, ()), ())) fun v => bif !v.1 then some (false, ()) else Option.bind (spec_AreLocks_S (x.1.2.2.2.1, ())) fun v => bif !v.1 then some (false, ()) else Option.bind (spec_AreWaits_S (x.1.2.2.2.2.1,
  ())) fun v => bif !v.1 then some (false, ()) else Option.bind (spec_LastStamp_S ((x.1.2.1.1, ()), ())) fun v => Option.bind (spec_l1In_S (x.1.2.2.2.2.2.1, v.1, 999, ())) fun v => bif !v.1 then some (false, ()) else bif decide ((↑(List.length
  x.1.2.2.1) : Int) > 6) then some (false, ()) else Option.bind (iter (fun v => spec_IsValidEngine_D4 (x.1.1, x.1.2.1.1, x.1.2.2.1, x.1.2.2.2.1, x.1.2.2.2.2.1, x.1.2.2.2.2.2.1, ()) v _ some) (0, ())) fun p => sumC p (fun p => some
  (false, ())) fun p => sumC p (fun p => some (false, ())) fun p => sumC p (fun p => some (false, ())) fun p => sumC p (fun p => some (false, ())) fun p => sumC p (fun p => some (false, ())) fun p => sumC p (fun p => some (false, ())) fun p =>
  sumC p (fun p => some (false, ())) fun p => sumC p (fun p => some (false, ())) fun p => Option.bind (iter (fun v => spec_IsValidEngine_D10 (x.1.1, x.1.2.1.1, x.1.2.2.1, x.1.2.2.2.1, x.1.2.2.2.2.1, x.1.2.2.2.2.2.1, ()) v _ some) (0,
  ())) fun p => sumC p (fun p => some (false, ())) fun p => Option.bind (iter (fun v => spec_IsValidEngine_D15 (x.1.1, x.1.2.1.1, x.1.2.2.1, x.1.2.2.2.1, x.1.2.2.2.2.1, x.1.2.2.2.2.2.1, ()) v _ some) (0, ())) fun p => sumC p (fun p
  => some (false, ())) fun p => sumC p (fun p => some (false, ())) fun p => some (true, ())

noncomputable def spec_IsValidEngine_Ent : Ent := ⟨16, spec_IsValidEngine_ti, spec_IsValidEngine_to, spec_IsValidEngine_S⟩

theorem spec_IsValidEngine_HC : CfgOK Go.Proofs.Tryz.prog spec_IsValidEngine_C := hc_of g_tisOK g_wide (all_cons spec_IsValidStore_OK (all_cons spec_AreLocks_OK (all_cons spec_AreWaits_OK (all_cons spec_LastStamp_OK (all_cons spec_l1In_OK (all_cons spec_IsValidTransaction_OK (all_cons spec_ReadsExist_OK (all_cons spec_l13Active_OK all_nil))))))))

theorem spec_IsValidEngine_lk15 : LkOK Go.Proofs.Tryz.prog spec_IsValidEngine_C (lpc Go.Proofs.Tryz.f16 2) :=
  lk_of spec_IsValidEngine_HC (m := 0) (T := spec_IsValidEngine_T15) (sp := spec_IsValidEngine_P15) (D := spec_IsValidEngine_D15) (E := spec_IsValidEngine_E15) (by kernel_rfl) (by kernel_rfl) (fun k hk => absurd hk (Nat.not_lt_zero k)) [2] spec_IsValidEngine_M15 (fun x => rfl) spec_IsValidEngine_D15_nat spec_IsValidEngine_K15 (fun i p R K => by rcases p with p | p | p <;> rfl) (fun i v => by kernel_rfl)

theorem spec_IsValidEngine_lk10 : LkOK Go.Proofs.Tryz.prog spec_IsValidEngine_C (lpc Go.Proofs.Tryz.f16 1) :=
  lk_of spec_IsValidEngine_HC (m := 0) (T := spec_IsValidEngine_T10) (sp := spec_IsValidEngine_P10) (D := spec_IsValidEngine_D10) (E := spec_IsValidEngine_E10) (by kernel_rfl) (by kernel_rfl) (fun k hk => absurd hk (Nat.not_lt_zero k)) [1, 2] spec_IsValidEngine_M10 (fun x => rfl) spec_IsValidEngine_D10_nat spec_IsValidEngine_K10 (fun i p R K => by rcases p with p | p <;> rfl) (fun i v => by kernel_rfl)

theorem spec_IsValidEngine_lk4 : LkOK Go.Proofs.Tryz.prog spec_IsValidEngine_C (lpc Go.Proofs.Tryz.f16 0) :=
  lk_of spec_IsValidEngine_HC (m := 0) (T := spec_IsValidEngine_T4) (sp := spec_IsValidEngine_P4) (D := spec_IsValidEngine_D4) (E := spec_IsValidEngine_E4) (by kernel_rfl) (by kernel_rfl) (fun k hk => absurd hk (Nat.not_lt_zero k)) [1, 2] spec_IsValidEngine_M4 (fun x => rfl) spec_IsValidEngine_D4_nat spec_IsValidEngine_K4 (fun i p R K => by rcases p with p | p | p | p | p | p | p | p | p <;> rfl) (fun i v => by kernel_rfl)

theorem spec_IsValidEngine_OK : EntOK Go.Proofs.Tryz.prog spec_IsValidEngine_Ent := ok_of spec_IsValidEngine_HC Go.Proofs.Tryz.func16 3 (by kernel_rfl) (fun k hk => match k, hk with | 0, _ => spec_IsValidEngine_lk4 | 1, _ => spec_IsValidEngine_lk10 | 2, _ => spec_IsValidEngine_lk15) (by kernel_rfl) (by kernel_rfl) (fun x => by kernel_rfl)

/-! spec.RefreshHigh -/

abbrev spec_RefreshHigh_I5 : Type := List (List (Int × Int × Int × Int × Int × Unit)) × Int × Int × Int × Int × Int × Int × Int × List (Int × Int × Unit) × List (Int × Int × Unit) × Unit

abbrev spec_RefreshHigh_V5 : Type := Int × Int × Unit

abbrev spec_RefreshHigh_Q5 : Type := Int × Unit

noncomputable def spec_RefreshHigh_D5 (i : spec_RefreshHigh_I5) (v : spec_RefreshHigh_V5) (R : Type) (K : spec_RefreshHigh_V5 ⊕ spec_RefreshHigh_Q5 → Option R) : Option R :=
  bif decide (v.2.1 < (↑(List.length i.2.2.2.2.2.2.2.2.1) : Int)) then Option.bind (lAt i.2.2.2.2.2.2.2.2.1 v.2.1) fun v_1 => Option.bind (lAt i.1 v_1.1) fun v_2 => Option.bind (lAt i.2.2.2.2.2.2.2.2.1 v.2.1) fun v_3 => Option.bind
  (spec_FindVersion_S (v_2, v_3.2.1, ())) fun v_4 => Option.bind (lAt v_2 v_4.1) fun v_5 => K (Sum.inl (mn v.1 v_5.2.2.2.2.1, IntKind.wrap IntKind.i64 (v.2.1 + 1), ())) else K (Sum.inr (v.1, ()))

theorem spec_RefreshHigh_D5_nat : NatD spec_RefreshHigh_D5 := fun i v R K => nat_bif (nat_bind fun _ => nat_bind fun _ => nat_bind fun _ => nat_bind fun _ => nat_bind fun _ => nat_some) (nat_some)

def spec_RefreshHigh_T5 : Tmpl := ⟨(jk 2 (.ptr 0 0 0 (.ptr 1 0 0 (.junk (.slot Ty.i (.slot Ty.i (jk 37 .nil))))))), (.cells 1 (.slot (Ty.slice (Ty.slice YVersion)) .nil) (.cells 9 (.slot Ty.i (.slot Ty.i (.slot Ty.i (.slot Ty.i (.slot Ty.i (.slot Ty.i (.slot Ty.i (.slot (Ty.slice YReadMark) (.slot (Ty.slice YReadMark) .nil))))))))) .nil))⟩

def spec_RefreshHigh_X5_0 (i : spec_RefreshHigh_I5) (p : Int × Unit) : St := ⟨jn 5 (.n (p.1) :: jn 38 ([])), [some (Cont.cells 1 [[AV.pv (Ty.slice (Ty.slice (Ty.prod Ty.i (Ty.prod Ty.i (Ty.prod Ty.i (Ty.prod Ty.i (Ty.prod Ty.i
  Ty.unit))))))) i.1]]), some (Cont.cells 9 [[AV.pv Ty.i i.2.1, AV.pv Ty.i i.2.2.1, AV.pv Ty.i i.2.2.2.1, AV.pv Ty.i i.2.2.2.2.1, AV.pv Ty.i i.2.2.2.2.2.1, AV.pv
  Ty.i i.2.2.2.2.2.2.1, AV.pv Ty.i i.2.2.2.2.2.2.2.1, AV.pv (Ty.slice YReadMark) i.2.2.2.2.2.2.2.2.1, AV.pv (Ty.slice (Ty.prod Ty.i
  (Ty.prod Ty.i Ty.unit))) i.2.2.2.2.2.2.2.2.2.1]])]⟩

noncomputable def spec_RefreshHigh_E5 (i : spec_RefreshHigh_I5) (p : spec_RefreshHigh_Q5) (R : Type) (K : Ex → St → Option R) : Option R := K (Ex.exit 0) (spec_RefreshHigh_X5_0 i p)

noncomputable def spec_RefreshHigh_K5 (i : spec_RefreshHigh_I5) (p : spec_RefreshHigh_Q5) : Ex × St := (Ex.exit 0, spec_RefreshHigh_X5_0 i p)

def spec_RefreshHigh_M5 (i : spec_RefreshHigh_I5) (v : spec_RefreshHigh_V5) : den spec_RefreshHigh_T5.ty := (v.1, v.2.1, i.1, i.2.1, i.2.2.1, i.2.2.2.1, i.2.2.2.2.1, i.2.2.2.2.2.1, i.2.2.2.2.2.2.1, i.2.2.2.2.2.2.2.1, i.2.2.2.2.2.2.2.2.1, i.2.2.2.2.2.2.2.2.2.1, ())

def spec_RefreshHigh_P5 (x : den spec_RefreshHigh_T5.ty) : spec_RefreshHigh_I5 × spec_RefreshHigh_V5 := ((x.2.2.1, x.2.2.2.1, x.2.2.2.2.1, x.2.2.2.2.2.1, x.2.2.2.2.2.2.1, x.2.2.2.2.2.2.2.1, x.2.2.2.2.2.2.2.2.1, x.2.2.2.2.2.2.2.2.2.1, x.2.2.2.2.2.2.2.2.2.2.1, x.2.2.2.2.2.2.2.2.2.2.2.1, ()), (x.1, x.2.1, ()))

noncomputable def spec_RefreshHigh_C : Cfg := { ti := g_tis, ents := [spec_ReadsExist_Ent, spec_FindVersion_Ent], ann := [(5, loopFn spec_RefreshHigh_T5 0 spec_RefreshHigh_P5 spec_RefreshHigh_D5 spec_RefreshHigh_E5)], lent := 0 }

def spec_RefreshHigh_ti : Tmpl := ⟨(.slot YStore (.slot (Ty.prod Ty.i (Ty.prod Ty.i (Ty.prod Ty.i (Ty.prod Ty.i (Ty.prod Ty.i (Ty.prod Ty.i (Ty.prod Ty.i (Ty.prod (Ty.slice (Ty.prod
  Ty.i (Ty.prod Ty.i Ty.unit))) (Ty.prod (Ty.slice YReadMark) Ty.unit))))))))) .nil)), .nil⟩

def spec_RefreshHigh_to : Tmpl := ⟨(.slot Ty.i .nil), .nil⟩

noncomputable def spec_RefreshHigh_S (x : (List (List (Int × Int × Int × Int × Int × Unit)) × Unit) × (Int × Int × Int × Int × Int × Int × Int × List (Int × Int × Unit) × List (Int × Int × Unit) × Unit) × Unit) : Option (Int × Unit) :=
  Option.bind (spec_ReadsExist_S ((x.1.1, ()), (x.2.1.1, x.2.1.2.1, x.2.1.2.2.1, x.2.1.2.2.2.1, x.2.1.2.2.2.2.1, x.2.1.2.2.2.2.2.1, x.2.1.2.2.2.2.2.2.1, x.2.1.2.2.2.2.2.2.2.1, x.2.1.2.2.2.2.2.2.2.2.1, ()), ())) fun v => bif !v.1 then some (0,
  ()) else Option.bind (iter (fun v => spec_RefreshHigh_D5 (x.1.1, x.2.1.1, x.2.1.2.1, x.2.1.2.2.1, x.2.1.2.2.2.1, x.2.1.2.2.2.2.1, x.2.1.2.2.2.2.2.1, x.2.1.2.2.2.2.2.2.1, x.2.1.2.2.2.2.2.2.2.1, x.2.1.2.2.2.2.2.2.2.2.1, ()) v _ some)
  (1000, 0, ())) fun p => some (p.1, ())

noncomputable def spec_RefreshHigh_Ent : Ent := ⟨145, spec_RefreshHigh_ti, spec_RefreshHigh_to, spec_RefreshHigh_S⟩

theorem spec_RefreshHigh_HC : CfgOK Go.Proofs.Tryz.prog spec_RefreshHigh_C := hc_of g_tisOK g_wide (all_cons spec_ReadsExist_OK (all_cons spec_FindVersion_OK all_nil))

theorem spec_RefreshHigh_lk5 : LkOK Go.Proofs.Tryz.prog spec_RefreshHigh_C (lpc Go.Proofs.Tryz.f145 0) :=
  lk_of spec_RefreshHigh_HC (m := 0) (T := spec_RefreshHigh_T5) (sp := spec_RefreshHigh_P5) (D := spec_RefreshHigh_D5) (E := spec_RefreshHigh_E5) (by kernel_rfl) (by kernel_rfl) (fun k hk => absurd hk (Nat.not_lt_zero k)) [5] spec_RefreshHigh_M5 (fun x => rfl) spec_RefreshHigh_D5_nat spec_RefreshHigh_K5 (fun i p R K => rfl) (fun i v => by kernel_rfl)

theorem spec_RefreshHigh_OK : EntOK Go.Proofs.Tryz.prog spec_RefreshHigh_Ent := ok_of spec_RefreshHigh_HC Go.Proofs.Tryz.func145 1 (by kernel_rfl) (fun k hk => match k, hk with | 0, _ => spec_RefreshHigh_lk5) (by kernel_rfl) (by kernel_rfl) (fun x => by kernel_rfl)

/-! spec.UnsafeBecause -/

abbrev spec_UnsafeBecause_I2 : Type := Int × Bool × List (List (Int × Int × Int × Int × Int × Unit)) × List (Int × Int × Int × Int × Int × Int × Int × List (Int × Int × Unit) × List (Int × Int × Unit) × Unit) × List (Int × Int × Unit) × List (Int × Int × Unit) × Int × Unit

abbrev spec_UnsafeBecause_V2 : Type := Int × Unit

abbrev spec_UnsafeBecause_Q2 : Type := Int × Int × Int × Int × Int × Int × Int × List (Int × Int × Unit) × List (Int × Int × Unit) × Unit ⊕ Int × Int × Int × Int × Int × Int × Int × List (Int × Int × Unit) × List (Int × Int × Unit) × Unit ⊕ Int × Int × Int × Int × Int × Int × Int
  × List (Int × Int × Unit) × List (Int × Int × Unit) × Unit ⊕ Unit ⊕ Unit ⊕ Unit

noncomputable def spec_UnsafeBecause_D2 (i : spec_UnsafeBecause_I2) (v : spec_UnsafeBecause_V2) (R : Type) (K : spec_UnsafeBecause_V2 ⊕ spec_UnsafeBecause_Q2 → Option R) : Option R :=
  bif decide (v.1 < (↑(List.length i.2.2.2.1) : Int)) then Option.bind (spec_IsValidEngine_S ((i.2.1, (i.2.2.1, ()), i.2.2.2.1, i.2.2.2.2.1, i.2.2.2.2.2.1, i.2.2.2.2.2.2.1, ()), ())) fun v_1 => bif v_1.1 then Option.bind (spec_l1In_S (i.1, 0,
  i.2.2.2.2.2.2.1, ())) fun v_2 => bif v_2.1 then Option.bind (lAt i.2.2.2.1 v.1) fun v_3 => bif v_3.2.2.1 == 2 then bif decide (v_3.2.2.2.2.2.2.1 > i.1) then bif decide (v_3.2.2.2.2.2.1 ≤ i.1) then K (Sum.inr (Sum.inl (v_3.1, v_3.2.1,
  v_3.2.2.1, v_3.2.2.2.1, v_3.2.2.2.2.1, v_3.2.2.2.2.2.1, v_3.2.2.2.2.2.2.1, v_3.2.2.2.2.2.2.2.1, v_3.2.2.2.2.2.2.2.2.1, ()))) else K (Sum.inl (IntKind.wrap IntKind.i64 (v.1 + 1), ())) else K (Sum.inl (IntKind.wrap IntKind.i64 (v.1 + 1), ()))
  else bif v_3.2.2.1 == 1 then Option.bind (spec_RefreshHigh_S ((i.2.2.1, ()), (v_3.1, v_3.2.1, v_3.2.2.1, v_3.2.2.2.1, v_3.2.2.2.2.1, v_3.2.2.2.2.2.1, v_3.2.2.2.2.2.2.1, v_3.2.2.2.2.2.2.2.1, v_3.2.2.2.2.2.2.2.2.1, ()), ())) fun v_4 => bif
  decide (v_4.1 ≤ i.1) then K (Sum.inr (Sum.inr (Sum.inl (v_3.1, v_3.2.1, v_3.2.2.1, v_3.2.2.2.1, v_3.2.2.2.2.1, v_3.2.2.2.2.2.1, v_3.2.2.2.2.2.2.1, v_3.2.2.2.2.2.2.2.1, v_3.2.2.2.2.2.2.2.2.1, ())))) else bif v_3.2.1 == 2 then bif decide
  (v_3.2.2.2.1 < i.1) then K (Sum.inr (Sum.inr (Sum.inr (Sum.inl (v_3.1, v_3.2.1, v_3.2.2.1, v_3.2.2.2.1, v_3.2.2.2.2.1, v_3.2.2.2.2.2.1, v_3.2.2.2.2.2.2.1, v_3.2.2.2.2.2.2.2.1, v_3.2.2.2.2.2.2.2.2.1, ()))))) else K (Sum.inl (IntKind.wrap
  IntKind.i64 (v.1 + 1), ())) else K (Sum.inl (IntKind.wrap IntKind.i64 (v.1 + 1), ())) else K (Sum.inl (IntKind.wrap IntKind.i64 (v.1 + 1), ())) else K (Sum.inr (Sum.inr (Sum.inr (Sum.inr (Sum.inl ()))))) else K (Sum.inr (Sum.inr (Sum.inr
  (Sum.inr (Sum.inr (Sum.inl ())))))) else K (Sum.inr (Sum.inr (Sum.inr (Sum.inr (Sum.inr (Sum.inr ()))))))

theorem spec_UnsafeBecause_D2_nat : NatD spec_UnsafeBecause_D2 := fun i v R K => nat_bif (nat_bind fun _ => nat_bif (nat_bind fun _ => nat_bif (nat_bind fun _ => nat_bif (nat_bif (nat_bif (nat_some) (nat_some)) (nat_some)) (nat_bif (nat_bind fun _ => nat_bif (nat_some) (nat_bif (nat_bif (nat_some) (nat_some)) (nat_some))) (nat_some))) (nat_some)) (nat_some)) (nat_some)

def spec_UnsafeBecause_T2 : Tmpl := ⟨(.junk (.slot Ty.i (.ptr 0 0 0 (jk 2 (.slot Ty.i (jk 60 .nil)))))), (.cells 6 (.slot (Ty.bool) (.slot (Ty.slice (Ty.slice YVersion)) (.slot (Ty.slice (Ty.prod Ty.i (Ty.prod Ty.i (Ty.prod Ty.i (Ty.prod Ty.i (Ty.prod Ty.i (Ty.prod Ty.i (Ty.prod Ty.i (Ty.prod (Ty.slice
  YReadMark) (Ty.prod (Ty.slice YReadMark) Ty.unit)))))))))) (.slot (Ty.slice YReadMark) (.slot (Ty.slice YReadMark) (.slot Ty.i .nil)))))) .nil)⟩

def spec_UnsafeBecause_X2_0 (i : spec_UnsafeBecause_I2) (p : Int × Int × Int × Int × Int × Int × Int × List (Int × Int × Unit) × List (Int × Int × Unit) × Unit) : St := ⟨jn 4 (.n (p.1) :: jn 61 ([])), [some (Cont.cells 6 [[AV.pv Ty.bool i.2.1, AV.pv (Ty.slice (Ty.slice (Ty.prod Ty.i (Ty.prod Ty.i (Ty.prod Ty.i (Ty.prod Ty.i (Ty.prod (Ty.int
  IntKind.i64) Ty.unit))))))) i.2.2.1, AV.pv (Ty.slice (Ty.prod Ty.i (Ty.prod Ty.i (Ty.prod Ty.i (Ty.prod Ty.i (Ty.prod Ty.i (Ty.prod Ty.i (Ty.prod
  Ty.i (Ty.prod (Ty.slice YReadMark) (Ty.prod (Ty.slice YReadMark) Ty.unit)))))))))) i.2.2.2.1, AV.pv
  (Ty.slice YReadMark) i.2.2.2.2.1, AV.pv (Ty.slice YReadMark) i.2.2.2.2.2.1, AV.pv Ty.i
  i.2.2.2.2.2.2.1]]), some (Cont.cells 9 [[AV.pv Ty.i p.1, AV.pv Ty.i p.2.1, AV.pv Ty.i p.2.2.1, AV.pv Ty.i p.2.2.2.1, AV.pv Ty.i p.2.2.2.2.1, AV.pv (Ty.int
  IntKind.i64) p.2.2.2.2.2.1, AV.pv Ty.i p.2.2.2.2.2.2.1, AV.pv (Ty.slice YReadMark) p.2.2.2.2.2.2.2.1, AV.pv (Ty.slice (Ty.prod Ty.i (Ty.prod (Ty.int
  IntKind.i64) Ty.unit))) p.2.2.2.2.2.2.2.2.1]])]⟩

def spec_UnsafeBecause_X2_1 (i : spec_UnsafeBecause_I2) (p : Int × Int × Int × Int × Int × Int × Int × List (Int × Int × Unit) × List (Int × Int × Unit) × Unit) : St := ⟨jn 4 (.n (p.1) :: jn 61 ([])), [some (Cont.cells 6 [[AV.pv Ty.bool i.2.1, AV.pv (Ty.slice (Ty.slice (Ty.prod Ty.i (Ty.prod Ty.i (Ty.prod Ty.i (Ty.prod Ty.i (Ty.prod (Ty.int
  IntKind.i64) Ty.unit))))))) i.2.2.1, AV.pv (Ty.slice (Ty.prod Ty.i (Ty.prod Ty.i (Ty.prod Ty.i (Ty.prod Ty.i (Ty.prod Ty.i (Ty.prod Ty.i (Ty.prod
  Ty.i (Ty.prod (Ty.slice YReadMark) (Ty.prod (Ty.slice YReadMark) Ty.unit)))))))))) i.2.2.2.1, AV.pv
  (Ty.slice YReadMark) i.2.2.2.2.1, AV.pv (Ty.slice YReadMark) i.2.2.2.2.2.1, AV.pv Ty.i
  i.2.2.2.2.2.2.1]]), some (Cont.cells 9 [[AV.pv Ty.i p.1, AV.pv Ty.i p.2.1, AV.pv Ty.i p.2.2.1, AV.pv Ty.i p.2.2.2.1, AV.pv Ty.i p.2.2.2.2.1, AV.pv (Ty.int
  IntKind.i64) p.2.2.2.2.2.1, AV.pv Ty.i p.2.2.2.2.2.2.1, AV.pv (Ty.slice YReadMark) p.2.2.2.2.2.2.2.1, AV.pv (Ty.slice (Ty.prod Ty.i (Ty.prod (Ty.int
  IntKind.i64) Ty.unit))) p.2.2.2.2.2.2.2.2.1]])]⟩

def spec_UnsafeBecause_X2_2 (i : spec_UnsafeBecause_I2) (p : Int × Int × Int × Int × Int × Int × Int × List (Int × Int × Unit) × List (Int × Int × Unit) × Unit) : St := ⟨jn 4 (.n (p.1) :: jn 61 ([])), [some (Cont.cells 6 [[AV.pv Ty.bool i.2.1, AV.pv (Ty.slice (Ty.slice (Ty.prod Ty.i (Ty.prod Ty.i (Ty.prod Ty.i (Ty.prod Ty.i (Ty.prod (Ty.int
  IntKind.i64) Ty.unit))))))) i.2.2.1, AV.pv (Ty.slice (Ty.prod Ty.i (Ty.prod Ty.i (Ty.prod Ty.i (Ty.prod Ty.i (Ty.prod Ty.i (Ty.prod Ty.i (Ty.prod
  Ty.i (Ty.prod (Ty.slice YReadMark) (Ty.prod (Ty.slice YReadMark) Ty.unit)))))))))) i.2.2.2.1, AV.pv
  (Ty.slice YReadMark) i.2.2.2.2.1, AV.pv (Ty.slice YReadMark) i.2.2.2.2.2.1, AV.pv Ty.i
  i.2.2.2.2.2.2.1]]), some (Cont.cells 9 [[AV.pv Ty.i p.1, AV.pv Ty.i p.2.1, AV.pv Ty.i p.2.2.1, AV.pv Ty.i p.2.2.2.1, AV.pv Ty.i p.2.2.2.2.1, AV.pv (Ty.int
  IntKind.i64) p.2.2.2.2.2.1, AV.pv Ty.i p.2.2.2.2.2.2.1, AV.pv (Ty.slice YReadMark) p.2.2.2.2.2.2.2.1, AV.pv (Ty.slice (Ty.prod Ty.i (Ty.prod (Ty.int
  IntKind.i64) Ty.unit))) p.2.2.2.2.2.2.2.2.1]])]⟩

def spec_UnsafeBecause_X2_3 (i : spec_UnsafeBecause_I2) (p : Unit) : St := ⟨jn 66 ([]), [some (Cont.cells 6 [[AV.pv Ty.bool i.2.1, AV.pv (Ty.slice (Ty.slice (Ty.prod Ty.i (Ty.prod Ty.i (Ty.prod Ty.i (Ty.prod Ty.i (Ty.prod Ty.i
  Ty.unit))))))) i.2.2.1, AV.pv (Ty.slice (Ty.prod Ty.i (Ty.prod Ty.i (Ty.prod Ty.i (Ty.prod Ty.i (Ty.prod Ty.i (Ty.prod Ty.i (Ty.prod (Ty.int
  IntKind.i64) (Ty.prod (Ty.slice YReadMark) (Ty.prod (Ty.slice YReadMark) Ty.unit)))))))))) i.2.2.2.1, AV.pv (Ty.slice
  YReadMark) i.2.2.2.2.1, AV.pv (Ty.slice YReadMark) i.2.2.2.2.2.1, AV.pv Ty.i i.2.2.2.2.2.2.1]])]⟩

def spec_UnsafeBecause_X2_4 (i : spec_UnsafeBecause_I2) (p : Unit) : St := ⟨jn 66 ([]), [some (Cont.cells 6 [[AV.pv Ty.bool i.2.1, AV.pv (Ty.slice (Ty.slice (Ty.prod Ty.i (Ty.prod Ty.i (Ty.prod Ty.i (Ty.prod Ty.i (Ty.prod Ty.i
  Ty.unit))))))) i.2.2.1, AV.pv (Ty.slice (Ty.prod Ty.i (Ty.prod Ty.i (Ty.prod Ty.i (Ty.prod Ty.i (Ty.prod Ty.i (Ty.prod Ty.i (Ty.prod (Ty.int
  IntKind.i64) (Ty.prod (Ty.slice YReadMark) (Ty.prod (Ty.slice YReadMark) Ty.unit)))))))))) i.2.2.2.1, AV.pv (Ty.slice
  YReadMark) i.2.2.2.2.1, AV.pv (Ty.slice YReadMark) i.2.2.2.2.2.1, AV.pv Ty.i i.2.2.2.2.2.2.1]])]⟩

def spec_UnsafeBecause_X2_5 (i : spec_UnsafeBecause_I2) (p : Unit) : St := ⟨jn 66 ([]), [some (Cont.cells 6 [[AV.pv Ty.bool i.2.1, AV.pv (Ty.slice (Ty.slice (Ty.prod Ty.i (Ty.prod Ty.i (Ty.prod Ty.i (Ty.prod Ty.i (Ty.prod Ty.i
  Ty.unit))))))) i.2.2.1, AV.pv (Ty.slice (Ty.prod Ty.i (Ty.prod Ty.i (Ty.prod Ty.i (Ty.prod Ty.i (Ty.prod Ty.i (Ty.prod Ty.i (Ty.prod (Ty.int
  IntKind.i64) (Ty.prod (Ty.slice YReadMark) (Ty.prod (Ty.slice YReadMark) Ty.unit)))))))))) i.2.2.2.1, AV.pv (Ty.slice
  YReadMark) i.2.2.2.2.1, AV.pv (Ty.slice YReadMark) i.2.2.2.2.2.1, AV.pv Ty.i i.2.2.2.2.2.2.1]])]⟩

noncomputable def spec_UnsafeBecause_E2 (i : spec_UnsafeBecause_I2) (p : spec_UnsafeBecause_Q2) (R : Type) (K : Ex → St → Option R) : Option R := sumC p (fun p => K (Ex.ret) (spec_UnsafeBecause_X2_0 i p)) fun p => sumC p (fun p => K (Ex.ret) (spec_UnsafeBecause_X2_1 i p)) fun p => sumC p (fun p => K (Ex.ret) (spec_UnsafeBecause_X2_2 i p)) fun p => sumC p (fun p => K (Ex.exit 0) (spec_UnsafeBecause_X2_3 i p)) fun p => sumC p (fun p => K (Ex.exit 0) (spec_UnsafeBecause_X2_4 i p)) fun p => K (Ex.exit 0) (spec_UnsafeBecause_X2_5 i p)

noncomputable def spec_UnsafeBecause_K2 (i : spec_UnsafeBecause_I2) (p : spec_UnsafeBecause_Q2) : Ex × St := sumC p (fun p => (Ex.ret, spec_UnsafeBecause_X2_0 i p)) fun p => sumC p (fun p => (Ex.ret, spec_UnsafeBecause_X2_1 i p)) fun p => sumC p (fun p => (Ex.ret, spec_UnsafeBecause_X2_2 i p)) fun p => sumC p (fun p => (Ex.exit 0, spec_UnsafeBecause_X2_3 i p)) fun p => sumC p (fun p => (Ex.exit 0, spec_UnsafeBecause_X2_4 i p)) fun p => (Ex.exit 0, spec_UnsafeBecause_X2_5 i p)

def spec_UnsafeBecause_M2 (i : spec_UnsafeBecause_I2) (v : spec_UnsafeBecause_V2) : den spec_UnsafeBecause_T2.ty := (i.1, v.1, i.2.1, i.2.2.1, i.2.2.2.1, i.2.2.2.2.1, i.2.2.2.2.2.1, i.2.2.2.2.2.2.1, ())

def spec_UnsafeBecause_P2 (x : den spec_UnsafeBecause_T2.ty) : spec_UnsafeBecause_I2 × spec_UnsafeBecause_V2 := ((x.1, x.2.2.1, x.2.2.2.1, x.2.2.2.2.1, x.2.2.2.2.2.1, x.2.2.2.2.2.2.1, x.2.2.2.2.2.2.2.1, ()), (x.2.1, ()))

noncomputable def spec_UnsafeBecause_C : Cfg := { ti := g_tis, ents := [spec_IsValidEngine_Ent, spec_l1In_Ent, spec_RefreshHigh_Ent], ann := [(2, loopFn spec_UnsafeBecause_T2 0 spec_UnsafeBecause_P2 spec_UnsafeBecause_D2 spec_UnsafeBecause_E2)], lent := 0 }

def spec_UnsafeBecause_ti : Tmpl := ⟨(.slot (Ty.prod Ty.bool (Ty.prod YStore (Ty.prod
  (Ty.slice (Ty.prod Ty.i (Ty.prod Ty.i (Ty.prod Ty.i (Ty.prod Ty.i (Ty.prod Ty.i (Ty.prod Ty.i (Ty.prod Ty.i (Ty.prod (Ty.slice
  YReadMark) (Ty.prod (Ty.slice YReadMark) Ty.unit)))))))))) (Ty.prod (Ty.slice (Ty.prod Ty.i (Ty.prod
  Ty.i Ty.unit))) (Ty.prod (Ty.slice YReadMark) (Ty.prod Ty.i Ty.unit)))))) (.slot Ty.i .nil)), .nil⟩

def spec_UnsafeBecause_to : Tmpl := ⟨(.slot Ty.i .nil), .nil⟩

noncomputable def spec_UnsafeBecause_S (x : (Bool × (List (List (Int × Int × Int × Int × Int × Unit)) × Unit) × List (Int × Int × Int × Int × Int × Int × Int × List (Int × Int × Unit) × List (Int × Int × Unit) × Unit) × List (Int × Int × Unit) × List (Int × Int × Unit) × Int × Unit) ×
  Int × Unit) : Option (Int × Unit) :=
  Option.bind (iter (fun v => spec_UnsafeBecause_D2 (x.2.1, x.1.1, x.1.2.1.1, x.1.2.2.1, x.1.2.2.2.1, x.1.2.2.2.2.1, x.1.2.2.2.2.2.1, ()) v _ some) (0, ())) fun p => sumC p (fun p => some (p.1, ())) fun p => sumC p (fun p => some
  (p.1, ())) fun p => sumC p (fun p => some (p.1, ())) fun p => sumC p (fun p => some (0, ())) fun p => sumC p (fun p => some (0, ())) fun p => some (0, ())

noncomputable def spec_UnsafeBecause_Ent : Ent := ⟨139, spec_UnsafeBecause_ti, spec_UnsafeBecause_to, spec_UnsafeBecause_S⟩

theorem spec_UnsafeBecause_HC : CfgOK Go.Proofs.Tryz.prog spec_UnsafeBecause_C := hc_of g_tisOK g_wide (all_cons spec_IsValidEngine_OK (all_cons spec_l1In_OK (all_cons spec_RefreshHigh_OK all_nil)))

theorem spec_UnsafeBecause_lk2 : LkOK Go.Proofs.Tryz.prog spec_UnsafeBecause_C (lpc Go.Proofs.Tryz.f139 0) :=
  lk_of spec_UnsafeBecause_HC (m := 0) (T := spec_UnsafeBecause_T2) (sp := spec_UnsafeBecause_P2) (D := spec_UnsafeBecause_D2) (E := spec_UnsafeBecause_E2) (by kernel_rfl) (by kernel_rfl) (fun k hk => absurd hk (Nat.not_lt_zero k)) [4] spec_UnsafeBecause_M2 (fun x => rfl) spec_UnsafeBecause_D2_nat spec_UnsafeBecause_K2 (fun i p R K => by rcases p with p | p | p | p | p | p <;> rfl) (fun i v => by kernel_rfl)

theorem spec_UnsafeBecause_OK : EntOK Go.Proofs.Tryz.prog spec_UnsafeBecause_Ent := ok_of spec_UnsafeBecause_HC Go.Proofs.Tryz.func139 1 (by kernel_rfl) (fun k hk => match k, hk with | 0, _ => spec_UnsafeBecause_lk2) (by kernel_rfl) (by kernel_rfl) (fun x => by kernel_rfl)

/-! spec.IsSafe -/

noncomputable def spec_IsSafe_C : Cfg := { ti := g_tis, ents := [spec_IsValidEngine_Ent, spec_l1In_Ent, spec_UnsafeBecause_Ent], ann := [], lent := 0 }

def spec_IsSafe_ti : Tmpl := ⟨(.slot (Ty.prod Ty.bool (Ty.prod YStore (Ty.prod
  (Ty.slice (Ty.prod Ty.i (Ty.prod Ty.i (Ty.prod Ty.i (Ty.prod Ty.i (Ty.prod Ty.i (Ty.prod Ty.i (Ty.prod Ty.i (Ty.prod (Ty.slice
  YReadMark) (Ty.prod (Ty.slice YReadMark) Ty.unit)))))))))) (Ty.prod (Ty.slice (Ty.prod Ty.i (Ty.prod
  Ty.i Ty.unit))) (Ty.prod (Ty.slice YReadMark) (Ty.prod Ty.i Ty.unit)))))) (.slot Ty.i .nil)), .nil⟩

def spec_IsSafe_to : Tmpl := ⟨(.slot (Ty.bool) .nil), .nil⟩

noncomputable def spec_IsSafe_S (x : (Bool × (List (List (Int × Int × Int × Int × Int × Unit)) × Unit) × List (Int × Int × Int × Int × Int × Int × Int × List (Int × Int × Unit) × List (Int × Int × Unit) × Unit) × List (Int × Int × Unit) × List (Int × Int × Unit) × Int × Unit) ×
  Int × Unit) : Option (Bool × Unit) :=
  Option.bind (spec_IsValidEngine_S ((x.1.1, (x.1.2.1.1, ()), x.1.2.2.1, x.1.2.2.2.1, x.1.2.2.2.2.1, x.1.2.2.2.2.2.1, ()), ())) fun v => bif v.1 then Option.bind (spec_l1In_S (x.2.1, 0, x.1.2.2.2.2.2.1, ())) fun v => bif v.1 then Option.bind
  (spec_UnsafeBecause_S ((x.1.1, (x.1.2.1.1, ()), x.1.2.2.1, x.1.2.2.2.1, x.1.2.2.2.2.1, x.1.2.2.2.2.2.1, ()), x.2.1, ())) fun v => some (v.1 == 0, ()) else some (false, ()) else some (false, ())

noncomputable def spec_IsSafe_Ent : Ent := ⟨120, spec_IsSafe_ti, spec_IsSafe_to, spec_IsSafe_S⟩

theorem spec_IsSafe_HC : CfgOK Go.Proofs.Tryz.prog spec_IsSafe_C := hc_of g_tisOK g_wide (all_cons spec_IsValidEngine_OK (all_cons spec_l1In_OK (all_cons spec_UnsafeBecause_OK all_nil)))

theorem spec_IsSafe_OK : EntOK Go.Proofs.Tryz.prog spec_IsSafe_Ent := ok_of spec_IsSafe_HC Go.Proofs.Tryz.func120 0 (by kernel_rfl) (fun k hk => absurd hk (Nat.not_lt_zero k)) (by kernel_rfl) (by kernel_rfl) (fun x => by kernel_rfl)

/-! spec.SafeStamp -/

abbrev spec_SafeStamp_I2 : Type := Bool × List (List (Int × Int × Int × Int × Int × Unit)) × List (Int × Int × Int × Int × Int × Int × Int × List (Int × Int × Unit) × List (Int × Int × Unit) × Unit) × List (Int × Int × Unit) × List (Int × Int × Unit) × Int × Unit

abbrev spec_SafeStamp_V2 : Type := Int × Unit

abbrev spec_SafeStamp_Q2 : Type := Int × Unit ⊕ Unit ⊕ Unit

noncomputable def spec_SafeStamp_D2 (i : spec_SafeStamp_I2) (v : spec_SafeStamp_V2) (R : Type) (K : spec_SafeStamp_V2 ⊕ spec_SafeStamp_Q2 → Option R) : Option R :=
  bif decide (v.1 > 0) then Option.bind (spec_IsValidEngine_S ((i.1, (i.2.1, ()), i.2.2.1, i.2.2.2.1, i.2.2.2.2.1, i.2.2.2.2.2.1, ()), ())) fun v_1 => bif v_1.1 then Option.bind (spec_IsSafe_S ((i.1, (i.2.1, ()), i.2.2.1, i.2.2.2.1,
  i.2.2.2.2.1, i.2.2.2.2.2.1, ()), v.1, ())) fun v_2 => bif v_2.1 then K (Sum.inr (Sum.inl (v.1, ()))) else K (Sum.inl (IntKind.wrap IntKind.i64 (v.1 - 1), ())) else K (Sum.inr (Sum.inr (Sum.inl ()))) else K (Sum.inr (Sum.inr (Sum.inr ())))

theorem spec_SafeStamp_D2_nat : NatD spec_SafeStamp_D2 := fun i v R K => nat_bif (nat_bind fun _ => nat_bif (nat_bind fun _ => nat_bif (nat_some) (nat_some)) (nat_some)) (nat_some)

def spec_SafeStamp_T2 : Tmpl := ⟨(.junk (.ptr 0 0 0 (.junk (.slot Ty.i (jk 14 .nil))))), (.cells 6 (.slot (Ty.bool) (.slot (Ty.slice (Ty.slice YVersion)) (.slot (Ty.slice (Ty.prod Ty.i (Ty.prod Ty.i (Ty.prod Ty.i (Ty.prod Ty.i (Ty.prod Ty.i (Ty.prod Ty.i (Ty.prod Ty.i (Ty.prod (Ty.slice
  YReadMark) (Ty.prod (Ty.slice YReadMark) Ty.unit)))))))))) (.slot (Ty.slice YReadMark) (.slot (Ty.slice YReadMark) (.slot Ty.i .nil)))))) .nil)⟩

def spec_SafeStamp_X2_0 (i : spec_SafeStamp_I2) (p : Int × Unit) : St := ⟨jn 2 (.n (p.1) :: jn 15 ([])), [some (Cont.cells 6 [[AV.pv Ty.bool i.1, AV.pv (Ty.slice (Ty.slice (Ty.prod Ty.i (Ty.prod Ty.i (Ty.prod Ty.i (Ty.prod Ty.i (Ty.prod (Ty.int
  IntKind.i64) Ty.unit))))))) i.2.1, AV.pv (Ty.slice (Ty.prod Ty.i (Ty.prod Ty.i (Ty.prod Ty.i (Ty.prod Ty.i (Ty.prod Ty.i (Ty.prod Ty.i (Ty.prod
  Ty.i (Ty.prod (Ty.slice YReadMark) (Ty.prod (Ty.slice YReadMark) Ty.unit)))))))))) i.2.2.1, AV.pv
  (Ty.slice YReadMark) i.2.2.2.1, AV.pv (Ty.slice YReadMark) i.2.2.2.2.1, AV.pv Ty.i i.2.2.2.2.2.1]])]⟩

def spec_SafeStamp_X2_1 (i : spec_SafeStamp_I2) (p : Unit) : St := ⟨jn 18 ([]), [some (Cont.cells 6 [[AV.pv Ty.bool i.1, AV.pv (Ty.slice (Ty.slice (Ty.prod Ty.i (Ty.prod Ty.i (Ty.prod Ty.i (Ty.prod Ty.i (Ty.prod Ty.i
  Ty.unit))))))) i.2.1, AV.pv (Ty.slice (Ty.prod Ty.i (Ty.prod Ty.i (Ty.prod Ty.i (Ty.prod Ty.i (Ty.prod Ty.i (Ty.prod Ty.i (Ty.prod (Ty.int
  IntKind.i64) (Ty.prod (Ty.slice YReadMark) (Ty.prod (Ty.slice YReadMark) Ty.unit)))))))))) i.2.2.1, AV.pv (Ty.slice
  YReadMark) i.2.2.2.1, AV.pv (Ty.slice YReadMark) i.2.2.2.2.1, AV.pv Ty.i i.2.2.2.2.2.1]])]⟩

def spec_SafeStamp_X2_2 (i : spec_SafeStamp_I2) (p : Unit) : St := ⟨jn 18 ([]), [some (Cont.cells 6 [[AV.pv Ty.bool i.1, AV.pv (Ty.slice (Ty.slice (Ty.prod Ty.i (Ty.prod Ty.i (Ty.prod Ty.i (Ty.prod Ty.i (Ty.prod Ty.i
  Ty.unit))))))) i.2.1, AV.pv (Ty.slice (Ty.prod Ty.i (Ty.prod Ty.i (Ty.prod Ty.i (Ty.prod Ty.i (Ty.prod Ty.i (Ty.prod Ty.i (Ty.prod (Ty.int
  IntKind.i64) (Ty.prod (Ty.slice YReadMark) (Ty.prod (Ty.slice YReadMark) Ty.unit)))))))))) i.2.2.1, AV.pv (Ty.slice
  YReadMark) i.2.2.2.1, AV.pv (Ty.slice YReadMark) i.2.2.2.2.1, AV.pv Ty.i i.2.2.2.2.2.1]])]⟩

noncomputable def spec_SafeStamp_E2 (i : spec_SafeStamp_I2) (p : spec_SafeStamp_Q2) (R : Type) (K : Ex → St → Option R) : Option R := sumC p (fun p => K (Ex.ret) (spec_SafeStamp_X2_0 i p)) fun p => sumC p (fun p => K (Ex.exit 0) (spec_SafeStamp_X2_1 i p)) fun p => K (Ex.exit 0) (spec_SafeStamp_X2_2 i p)

noncomputable def spec_SafeStamp_K2 (i : spec_SafeStamp_I2) (p : spec_SafeStamp_Q2) : Ex × St := sumC p (fun p => (Ex.ret, spec_SafeStamp_X2_0 i p)) fun p => sumC p (fun p => (Ex.exit 0, spec_SafeStamp_X2_1 i p)) fun p => (Ex.exit 0, spec_SafeStamp_X2_2 i p)

def spec_SafeStamp_M2 (i : spec_SafeStamp_I2) (v : spec_SafeStamp_V2) : den spec_SafeStamp_T2.ty := (v.1, i.1, i.2.1, i.2.2.1, i.2.2.2.1, i.2.2.2.2.1, i.2.2.2.2.2.1, ())

def spec_SafeStamp_P2 (x : den spec_SafeStamp_T2.ty) : spec_SafeStamp_I2 × spec_SafeStamp_V2 := ((x.2.1, x.2.2.1, x.2.2.2.1, x.2.2.2.2.1, x.2.2.2.2.2.1, x.2.2.2.2.2.2.1, ()), (x.1, ()))

noncomputable def spec_SafeStamp_C : Cfg := { ti := g_tis, ents := [spec_IsValidEngine_Ent, spec_IsSafe_Ent], ann := [(2, loopFn spec_SafeStamp_T2 0 spec_SafeStamp_P2 spec_SafeStamp_D2 spec_SafeStamp_E2)], lent := 0 }

def spec_SafeStamp_ti : Tmpl := ⟨(.slot (Ty.prod Ty.bool (Ty.prod YStore (Ty.prod
  (Ty.slice (Ty.prod Ty.i (Ty.prod Ty.i (Ty.prod Ty.i (Ty.prod Ty.i (Ty.prod Ty.i (Ty.prod Ty.i (Ty.prod Ty.i (Ty.prod (Ty.slice
  YReadMark) (Ty.prod (Ty.slice YReadMark) Ty.unit)))))))))) (Ty.prod (Ty.slice (Ty.prod Ty.i (Ty.prod
  Ty.i Ty.unit))) (Ty.prod (Ty.slice YReadMark) (Ty.prod Ty.i Ty.unit)))))) .nil), .nil⟩

def spec_SafeStamp_to : Tmpl := ⟨(.slot Ty.i .nil), .nil⟩

noncomputable def spec_SafeStamp_S (x : (Bool × (List (List (Int × Int × Int × Int × Int × Unit)) × Unit) × List (Int × Int × Int × Int × Int × Int × Int × List (Int × Int × Unit) × List (Int × Int × Unit) × Unit) × List (Int × Int × Unit) × List (Int × Int × Unit) × Int × Unit) ×
  Unit) : Option (Int × Unit) :=
  Option.bind (iter (fun v => spec_SafeStamp_D2 (x.1.1, x.1.2.1.1, x.1.2.2.1, x.1.2.2.2.1, x.1.2.2.2.2.1, x.1.2.2.2.2.2.1, ()) v _ some) (x.1.2.2.2.2.2.1, ())) fun p => sumC p (fun p => some (p.1, ())) fun p => sumC p (fun p => some
  (0, ())) fun p => some (0, ())

noncomputable def spec_SafeStamp_Ent : Ent := ⟨94, spec_SafeStamp_ti, spec_SafeStamp_to, spec_SafeStamp_S⟩

theorem spec_SafeStamp_HC : CfgOK Go.Proofs.Tryz.prog spec_SafeStamp_C := hc_of g_tisOK g_wide (all_cons spec_IsValidEngine_OK (all_cons spec_IsSafe_OK all_nil))

theorem spec_SafeStamp_lk2 : LkOK Go.Proofs.Tryz.prog spec_SafeStamp_C (lpc Go.Proofs.Tryz.f94 0) :=
  lk_of spec_SafeStamp_HC (m := 0) (T := spec_SafeStamp_T2) (sp := spec_SafeStamp_P2) (D := spec_SafeStamp_D2) (E := spec_SafeStamp_E2) (by kernel_rfl) (by kernel_rfl) (fun k hk => absurd hk (Nat.not_lt_zero k)) [2] spec_SafeStamp_M2 (fun x => rfl) spec_SafeStamp_D2_nat spec_SafeStamp_K2 (fun i p R K => by rcases p with p | p | p <;> rfl) (fun i v => by kernel_rfl)

theorem spec_SafeStamp_OK : EntOK Go.Proofs.Tryz.prog spec_SafeStamp_Ent := ok_of spec_SafeStamp_HC Go.Proofs.Tryz.func94 1 (by kernel_rfl) (fun k hk => match k, hk with | 0, _ => spec_SafeStamp_lk2) (by kernel_rfl) (by kernel_rfl) (fun x => by kernel_rfl)

/-! spec.Watermark -/

abbrev spec_Watermark_I3 : Type := Bool × List (List (Int × Int × Int × Int × Int × Unit)) × List (Int × Int × Int × Int × Int × Int × Int × List (Int × Int × Unit) × List (Int × Int × Unit) × Unit) × List (Int × Int × Unit) × List (Int × Int × Unit) × Int × Unit

abbrev spec_Watermark_V3 : Type := Int × Int × Unit

abbrev spec_Watermark_Q3 : Type := Int × Unit ⊕ Int × Unit

noncomputable def spec_Watermark_D3 (i : spec_Watermark_I3) (v : spec_Watermark_V3) (R : Type) (K : spec_Watermark_V3 ⊕ spec_Watermark_Q3 → Option R) : Option R :=
  bif decide (v.2.1 < (↑(List.length i.2.2.1) : Int)) then Option.bind (spec_IsValidEngine_S ((i.1, (i.2.1, ()), i.2.2.1, i.2.2.2.1, i.2.2.2.2.1, i.2.2.2.2.2.1, ()), ())) fun v_1 => bif v_1.1 then Option.bind (lAt i.2.2.1 v.2.1) fun v_2 => bif
  v_2.2.2.1 == 1 then Option.bind (lAt i.2.2.1 v.2.1) fun v_3 => K (Sum.inl (mn v.1 v_3.2.2.2.1, IntKind.wrap IntKind.i64 (v.2.1 + 1), ())) else K (Sum.inl (v.1, IntKind.wrap IntKind.i64 (v.2.1 + 1), ())) else K (Sum.inr (Sum.inl (v.1, ())))
  else K (Sum.inr (Sum.inr (v.1, ())))

theorem spec_Watermark_D3_nat : NatD spec_Watermark_D3 := fun i v R K => nat_bif (nat_bind fun _ => nat_bif (nat_bind fun _ => nat_bif (nat_bind fun _ => nat_some) (nat_some)) (nat_some)) (nat_some)

def spec_Watermark_T3 : Tmpl := ⟨(.junk (.ptr 0 0 0 (.junk (.slot Ty.i (.slot Ty.i (jk 29 .nil)))))), (.cells 6 (.slot (Ty.bool) (.slot (Ty.slice (Ty.slice YVersion)) (.slot (Ty.slice (Ty.prod Ty.i (Ty.prod Ty.i (Ty.prod Ty.i (Ty.prod Ty.i (Ty.prod Ty.i (Ty.prod Ty.i (Ty.prod Ty.i (Ty.prod (Ty.slice
  YReadMark) (Ty.prod (Ty.slice YReadMark) Ty.unit)))))))))) (.slot (Ty.slice YReadMark) (.slot (Ty.slice YReadMark) (.slot Ty.i .nil)))))) .nil)⟩

def spec_Watermark_X3_0 (i : spec_Watermark_I3) (p : Int × Unit) : St := ⟨jn 3 (.n (p.1) :: jn 30 ([])), [some (Cont.cells 6 [[AV.pv Ty.bool i.1, AV.pv (Ty.slice (Ty.slice (Ty.prod Ty.i (Ty.prod Ty.i (Ty.prod Ty.i (Ty.prod Ty.i (Ty.prod (Ty.int
  IntKind.i64) Ty.unit))))))) i.2.1, AV.pv (Ty.slice (Ty.prod Ty.i (Ty.prod Ty.i (Ty.prod Ty.i (Ty.prod Ty.i (Ty.prod Ty.i (Ty.prod Ty.i (Ty.prod
  Ty.i (Ty.prod (Ty.slice YReadMark) (Ty.prod (Ty.slice YReadMark) Ty.unit)))))))))) i.2.2.1, AV.pv
  (Ty.slice YReadMark) i.2.2.2.1, AV.pv (Ty.slice YReadMark) i.2.2.2.2.1, AV.pv Ty.i i.2.2.2.2.2.1]])]⟩

def spec_Watermark_X3_1 (i : spec_Watermark_I3) (p : Int × Unit) : St := ⟨jn 3 (.n (p.1) :: jn 30 ([])), [some (Cont.cells 6 [[AV.pv Ty.bool i.1, AV.pv (Ty.slice (Ty.slice (Ty.prod Ty.i (Ty.prod Ty.i (Ty.prod Ty.i (Ty.prod Ty.i (Ty.prod (Ty.int
  IntKind.i64) Ty.unit))))))) i.2.1, AV.pv (Ty.slice (Ty.prod Ty.i (Ty.prod Ty.i (Ty.prod Ty.i (Ty.prod Ty.i (Ty.prod Ty.i (Ty.prod Ty.i (Ty.prod
  Ty.i (Ty.prod (Ty.slice YReadMark) (Ty.prod (Ty.slice YReadMark) Ty.unit)))))))))) i.2.2.1, AV.pv
  (Ty.slice YReadMark) i.2.2.2.1, AV.pv (Ty.slice YReadMark) i.2.2.2.2.1, AV.pv Ty.i i.2.2.2.2.2.1]])]⟩

noncomputable def spec_Watermark_E3 (i : spec_Watermark_I3) (p : spec_Watermark_Q3) (R : Type) (K : Ex → St → Option R) : Option R := sumC p (fun p => K (Ex.exit 0) (spec_Watermark_X3_0 i p)) fun p => K (Ex.exit 0) (spec_Watermark_X3_1 i p)

noncomputable def spec_Watermark_K3 (i : spec_Watermark_I3) (p : spec_Watermark_Q3) : Ex × St := sumC p (fun p => (Ex.exit 0, spec_Watermark_X3_0 i p)) fun p => (Ex.exit 0, spec_Watermark_X3_1 i p)

def spec_Watermark_M3 (i : spec_Watermark_I3) (v : spec_Watermark_V3) : den spec_Watermark_T3.ty := (v.1, v.2.1, i.1, i.2.1, i.2.2.1, i.2.2.2.1, i.2.2.2.2.1, i.2.2.2.2.2.1, ())

def spec_Watermark_P3 (x : den spec_Watermark_T3.ty) : spec_Watermark_I3 × spec_Watermark_V3 := ((x.2.2.1, x.2.2.2.1, x.2.2.2.2.1, x.2.2.2.2.2.1, x.2.2.2.2.2.2.1, x.2.2.2.2.2.2.2.1, ()), (x.1, x.2.1, ()))

noncomputable def spec_Watermark_C : Cfg := { ti := g_tis, ents := [spec_SafeStamp_Ent, spec_IsValidEngine_Ent], ann := [(3, loopFn spec_Watermark_T3 0 spec_Watermark_P3 spec_Watermark_D3 spec_Watermark_E3)], lent := 0 }

def spec_Watermark_ti : Tmpl := ⟨(.slot (Ty.prod Ty.bool (Ty.prod YStore (Ty.prod
  (Ty.slice (Ty.prod Ty.i (Ty.prod Ty.i (Ty.prod Ty.i (Ty.prod Ty.i (Ty.prod Ty.i (Ty.prod Ty.i (Ty.prod Ty.i (Ty.prod (Ty.slice
  YReadMark) (Ty.prod (Ty.slice YReadMark) Ty.unit)))))))))) (Ty.prod (Ty.slice (Ty.prod Ty.i (Ty.prod
  Ty.i Ty.unit))) (Ty.prod (Ty.slice YReadMark) (Ty.prod Ty.i Ty.unit)))))) .nil), .nil⟩

def spec_Watermark_to : Tmpl := ⟨(.slot Ty.i .nil), .nil⟩

noncomputable def spec_Watermark_S (x : (Bool × (List (List (Int × Int × Int × Int × Int × Unit)) × Unit) × List (Int × Int × Int × Int × Int × Int × Int × List (Int × Int × Unit) × List (Int × Int × Unit) × Unit) × List (Int × Int × Unit) × List (Int × Int × Unit) × Int × Unit) ×
  Unit) : Option (Int × Unit) :=
  Option.bind (spec_SafeStamp_S ((x.1.1, (x.1.2.1.1, ()), x.1.2.2.1, x.1.2.2.2.1, x.1.2.2.2.2.1, x.1.2.2.2.2.2.1, ()), ())) fun v => Option.bind (iter (fun v => spec_Watermark_D3 (x.1.1, x.1.2.1.1, x.1.2.2.1, x.1.2.2.2.1, x.1.2.2.2.2.1,
  x.1.2.2.2.2.2.1, ()) v _ some) (v.1, 0, ())) fun p => sumC p (fun p => some (p.1, ())) fun p => some (p.1, ())

noncomputable def spec_Watermark_Ent : Ent := ⟨52, spec_Watermark_ti, spec_Watermark_to, spec_Watermark_S⟩

theorem spec_Watermark_HC : CfgOK Go.Proofs.Tryz.prog spec_Watermark_C := hc_of g_tisOK g_wide (all_cons spec_SafeStamp_OK (all_cons spec_IsValidEngine_OK all_nil))

theorem spec_Watermark_lk3 : LkOK Go.Proofs.Tryz.prog spec_Watermark_C (lpc Go.Proofs.Tryz.f52 0) :=
  lk_of spec_Watermark_HC (m := 0) (T := spec_Watermark_T3) (sp := spec_Watermark_P3) (D := spec_Watermark_D3) (E := spec_Watermark_E3) (by kernel_rfl) (by kernel_rfl) (fun k hk => absurd hk (Nat.not_lt_zero k)) [3] spec_Watermark_M3 (fun x => rfl) spec_Watermark_D3_nat spec_Watermark_K3 (fun i p R K => by rcases p with p | p <;> rfl) (fun i v => by kernel_rfl)

theorem spec_Watermark_OK : EntOK Go.Proofs.Tryz.prog spec_Watermark_Ent := ok_of spec_Watermark_HC Go.Proofs.Tryz.func52 1 (by kernel_rfl) (fun k hk => match k, hk with | 0, _ => spec_Watermark_lk3) (by kernel_rfl) (by kernel_rfl) (fun x => by kernel_rfl)

/-! spec.HasRead -/

abbrev spec_HasRead_I2 : Type := Int × Int × Int × Int × Int × Int × Int × List (Int × Int × Unit) × List (Int × Int × Unit) × Int × Int × Unit

abbrev spec_HasRead_V2 : Type := Int × Unit

abbrev spec_HasRead_Q2 : Type := Unit ⊕ Unit

noncomputable def spec_HasRead_D2 (i : spec_HasRead_I2) (v : spec_HasRead_V2) (R : Type) (K : spec_HasRead_V2 ⊕ spec_HasRead_Q2 → Option R) : Option R :=
  bif decide (v.1 < (↑(List.length i.2.2.2.2.2.2.2.1) : Int)) then Option.bind (lAt i.2.2.2.2.2.2.2.1 v.1) fun v_1 => bif v_1.1 == i.2.2.2.2.2.2.2.2.2.1 && (v_1.2.1 == i.2.2.2.2.2.2.2.2.2.2.1 && true) then K (Sum.inr (Sum.inl ())) else K
  (Sum.inl (IntKind.wrap IntKind.i64 (v.1 + 1), ())) else K (Sum.inr (Sum.inr ()))

theorem spec_HasRead_D2_nat : NatD spec_HasRead_D2 := fun i v R K => nat_bif (nat_bind fun _ => nat_bif (nat_some) (nat_some)) (nat_some)

def spec_HasRead_T2 : Tmpl := ⟨(jk 2 (.ptr 0 0 0 (.ptr 1 0 0 (.junk (.slot Ty.i (jk 14 .nil)))))), (.cells 9 (.slot Ty.i (.slot Ty.i (.slot Ty.i (.slot Ty.i (.slot Ty.i (.slot Ty.i (.slot Ty.i (.slot (Ty.slice YReadMark) (.slot (Ty.slice YReadMark) .nil))))))))) (.cells 2 (.slot Ty.i (.slot Ty.i .nil)) .nil))⟩

def spec_HasRead_X2_0 (i : spec_HasRead_I2) (p : Unit) : St := ⟨jn 4 (.b (true) :: jn 15 ([])), [some (Cont.cells 9 [[AV.pv Ty.i i.1, AV.pv Ty.i i.2.1, AV.pv Ty.i i.2.2.1, AV.pv Ty.i i.2.2.2.1, AV.pv Ty.i i.2.2.2.2.1, AV.pv
  Ty.i i.2.2.2.2.2.1, AV.pv Ty.i i.2.2.2.2.2.2.1, AV.pv (Ty.slice YReadMark) i.2.2.2.2.2.2.2.1, AV.pv (Ty.slice (Ty.prod Ty.i (Ty.prod
  Ty.i Ty.unit))) i.2.2.2.2.2.2.2.2.1]]), some (Cont.cells 2 [[AV.pv Ty.i i.2.2.2.2.2.2.2.2.2.1, AV.pv Ty.i i.2.2.2.2.2.2.2.2.2.2.1]])]⟩

def spec_HasRead_X2_1 (i : spec_HasRead_I2) (p : Unit) : St := ⟨jn 20 ([]), [some (Cont.cells 9 [[AV.pv Ty.i i.1, AV.pv Ty.i i.2.1, AV.pv Ty.i i.2.2.1, AV.pv Ty.i i.2.2.2.1, AV.pv Ty.i i.2.2.2.2.1, AV.pv Ty.i
  i.2.2.2.2.2.1, AV.pv Ty.i i.2.2.2.2.2.2.1, AV.pv (Ty.slice YReadMark) i.2.2.2.2.2.2.2.1, AV.pv (Ty.slice (Ty.prod Ty.i (Ty.prod Ty.i
  Ty.unit))) i.2.2.2.2.2.2.2.2.1]]), some (Cont.cells 2 [[AV.pv Ty.i i.2.2.2.2.2.2.2.2.2.1, AV.pv Ty.i i.2.2.2.2.2.2.2.2.2.2.1]])]⟩

noncomputable def spec_HasRead_E2 (i : spec_HasRead_I2) (p : spec_HasRead_Q2) (R : Type) (K : Ex → St → Option R) : Option R := sumC p (fun p => K (Ex.ret) (spec_HasRead_X2_0 i p)) fun p => K (Ex.exit 0) (spec_HasRead_X2_1 i p)

noncomputable def spec_HasRead_K2 (i : spec_HasRead_I2) (p : spec_HasRead_Q2) : Ex × St := sumC p (fun p => (Ex.ret, spec_HasRead_X2_0 i p)) fun p => (Ex.exit 0, spec_HasRead_X2_1 i p)

def spec_HasRead_M2 (i : spec_HasRead_I2) (v : spec_HasRead_V2) : den spec_HasRead_T2.ty := (v.1, i.1, i.2.1, i.2.2.1, i.2.2.2.1, i.2.2.2.2.1, i.2.2.2.2.2.1, i.2.2.2.2.2.2.1, i.2.2.2.2.2.2.2.1, i.2.2.2.2.2.2.2.2.1, i.2.2.2.2.2.2.2.2.2.1, i.2.2.2.2.2.2.2.2.2.2.1, ())

def spec_HasRead_P2 (x : den spec_HasRead_T2.ty) : spec_HasRead_I2 × spec_HasRead_V2 := ((x.2.1, x.2.2.1, x.2.2.2.1, x.2.2.2.2.1, x.2.2.2.2.2.1, x.2.2.2.2.2.2.1, x.2.2.2.2.2.2.2.1, x.2.2.2.2.2.2.2.2.1, x.2.2.2.2.2.2.2.2.2.1, x.2.2.2.2.2.2.2.2.2.2.1, x.2.2.2.2.2.2.2.2.2.2.2.1, ()), (x.1, ()))

noncomputable def spec_HasRead_C : Cfg := { ti := g_tis, ents := [], ann := [(2, loopFn spec_HasRead_T2 0 spec_HasRead_P2 spec_HasRead_D2 spec_HasRead_E2)], lent := 0 }

def spec_HasRead_ti : Tmpl := ⟨(.slot (Ty.prod Ty.i (Ty.prod Ty.i (Ty.prod Ty.i (Ty.prod Ty.i (Ty.prod Ty.i (Ty.prod Ty.i (Ty.prod Ty.i (Ty.prod (Ty.slice (Ty.prod
  Ty.i (Ty.prod Ty.i Ty.unit))) (Ty.prod (Ty.slice YReadMark) Ty.unit))))))))) (.slot YReadMark .nil)), .nil⟩

def spec_HasRead_to : Tmpl := ⟨(.slot (Ty.bool) .nil), .nil⟩

noncomputable def spec_HasRead_S (x : (Int × Int × Int × Int × Int × Int × Int × List (Int × Int × Unit) × List (Int × Int × Unit) × Unit) × (Int × Int × Unit) × Unit) : Option (Bool × Unit) :=
  Option.bind (iter (fun v => spec_HasRead_D2 (x.1.1, x.1.2.1, x.1.2.2.1, x.1.2.2.2.1, x.1.2.2.2.2.1, x.1.2.2.2.2.2.1, x.1.2.2.2.2.2.2.1, x.1.2.2.2.2.2.2.2.1, x.1.2.2.2.2.2.2.2.2.1, x.2.1.1, x.2.1.2.1, ()) v _ some) (0, ())) fun p =>
  sumC p (fun p => some (true, ())) fun p => some (false, ())

noncomputable def spec_HasRead_Ent : Ent := ⟨53, spec_HasRead_ti, spec_HasRead_to, spec_HasRead_S⟩

theorem spec_HasRead_HC : CfgOK Go.Proofs.Tryz.prog spec_HasRead_C := hc_of g_tisOK g_wide all_nil

theorem spec_HasRead_lk2 : LkOK Go.Proofs.Tryz.prog spec_HasRead_C (lpc Go.Proofs.Tryz.f53 0) :=
  lk_of spec_HasRead_HC (m := 0) (T := spec_HasRead_T2) (sp := spec_HasRead_P2) (D := spec_HasRead_D2) (E := spec_HasRead_E2) (by kernel_rfl) (by kernel_rfl) (fun k hk => absurd hk (Nat.not_lt_zero k)) [4] spec_HasRead_M2 (fun x => rfl) spec_HasRead_D2_nat spec_HasRead_K2 (fun i p R K => by rcases p with p | p <;> rfl) (fun i v => by kernel_rfl)

theorem spec_HasRead_OK : EntOK Go.Proofs.Tryz.prog spec_HasRead_Ent := ok_of spec_HasRead_HC Go.Proofs.Tryz.func53 1 (by kernel_rfl) (fun k hk => match k, hk with | 0, _ => spec_HasRead_lk2) (by kernel_rfl) (by kernel_rfl) (fun x => by kernel_rfl)

/-! spec.IsCollectable -/

abbrev spec_IsCollectable_I8 : Type := Int × Int × Bool × List (List (Int × Int × Int × Int × Int × Unit)) × List (Int × Int × Int × Int × Int × Int × Int × List (Int × Int × Unit) × List (Int × Int × Unit) × Unit) × List (Int × Int × Unit) × List (Int × Int × Unit) × Int × Unit

abbrev spec_IsCollectable_V8 : Type := Int × Unit

abbrev spec_IsCollectable_Q8 : Type := Int × Int × Int × Int × Int × Int × Int × List (Int × Int × Unit) × List (Int × Int × Unit) × Unit ⊕ Unit

noncomputable def spec_IsCollectable_D8 (i : spec_IsCollectable_I8) (v : spec_IsCollectable_V8) (R : Type) (K : spec_IsCollectable_V8 ⊕ spec_IsCollectable_Q8 → Option R) : Option R :=
  bif decide (v.1 < (↑(List.length i.2.2.2.2.1) : Int)) then Option.bind (lAt i.2.2.2.2.1 v.1) fun v_1 => bif v_1.2.2.1 == 1 then Option.bind (spec_HasRead_S ((v_1.1, v_1.2.1, v_1.2.2.1, v_1.2.2.2.1, v_1.2.2.2.2.1, v_1.2.2.2.2.2.1,
  v_1.2.2.2.2.2.2.1, v_1.2.2.2.2.2.2.2.1, v_1.2.2.2.2.2.2.2.2.1, ()), (i.1, i.2.1, ()), ())) fun v_2 => bif v_2.1 then K (Sum.inr (Sum.inl (v_1.1, v_1.2.1, v_1.2.2.1, v_1.2.2.2.1, v_1.2.2.2.2.1, v_1.2.2.2.2.2.1, v_1.2.2.2.2.2.2.1,
  v_1.2.2.2.2.2.2.2.1, v_1.2.2.2.2.2.2.2.2.1, ()))) else K (Sum.inl (IntKind.wrap IntKind.i64 (v.1 + 1), ())) else K (Sum.inl (IntKind.wrap IntKind.i64 (v.1 + 1), ())) else K (Sum.inr (Sum.inr ()))

theorem spec_IsCollectable_D8_nat : NatD spec_IsCollectable_D8 := fun i v R K => nat_bif (nat_bind fun _ => nat_bif (nat_bind fun _ => nat_bif (nat_some) (nat_some)) (nat_some)) (nat_some)

def spec_IsCollectable_T8 : Tmpl := ⟨(.junk (.slot Ty.i (.slot Ty.i (.ptr 0 0 0 (jk 5 (.slot Ty.i (jk 60 .nil))))))), (.cells 6 (.slot (Ty.bool) (.slot (Ty.slice (Ty.slice YVersion)) (.slot (Ty.slice (Ty.prod Ty.i (Ty.prod Ty.i (Ty.prod Ty.i (Ty.prod Ty.i (Ty.prod Ty.i (Ty.prod Ty.i (Ty.prod Ty.i (Ty.prod (Ty.slice
  YReadMark) (Ty.prod (Ty.slice YReadMark) Ty.unit)))))))))) (.slot (Ty.slice YReadMark) (.slot (Ty.slice YReadMark) (.slot Ty.i .nil)))))) .nil)⟩

def spec_IsCollectable_X8_0 (i : spec_IsCollectable_I8) (p : Int × Int × Int × Int × Int × Int × Int × List (Int × Int × Unit) × List (Int × Int × Unit) × Unit) : St := ⟨jn 6 (.b (false) :: jn 63 ([])), [some (Cont.cells 6 [[AV.pv Ty.bool i.2.2.1, AV.pv (Ty.slice (Ty.slice (Ty.prod Ty.i (Ty.prod Ty.i (Ty.prod Ty.i (Ty.prod Ty.i (Ty.prod (Ty.int
  IntKind.i64) Ty.unit))))))) i.2.2.2.1, AV.pv (Ty.slice (Ty.prod Ty.i (Ty.prod Ty.i (Ty.prod Ty.i (Ty.prod Ty.i (Ty.prod Ty.i (Ty.prod Ty.i
  (Ty.prod Ty.i (Ty.prod (Ty.slice YReadMark) (Ty.prod (Ty.slice YReadMark) Ty.unit)))))))))) i.2.2.2.2.1,
  AV.pv (Ty.slice YReadMark) i.2.2.2.2.2.1, AV.pv (Ty.slice YReadMark) i.2.2.2.2.2.2.1, AV.pv Ty.i
  i.2.2.2.2.2.2.2.1]]), some (Cont.cells 9 [[AV.pv Ty.i p.1, AV.pv Ty.i p.2.1, AV.pv Ty.i p.2.2.1, AV.pv Ty.i p.2.2.2.1, AV.pv Ty.i p.2.2.2.2.1, AV.pv (Ty.int
  IntKind.i64) p.2.2.2.2.2.1, AV.pv Ty.i p.2.2.2.2.2.2.1, AV.pv (Ty.slice YReadMark) p.2.2.2.2.2.2.2.1, AV.pv (Ty.slice (Ty.prod Ty.i (Ty.prod (Ty.int
  IntKind.i64) Ty.unit))) p.2.2.2.2.2.2.2.2.1]])]⟩

def spec_IsCollectable_X8_1 (i : spec_IsCollectable_I8) (p : Unit) : St := ⟨jn 70 ([]), [some (Cont.cells 6 [[AV.pv Ty.bool i.2.2.1, AV.pv (Ty.slice (Ty.slice (Ty.prod Ty.i (Ty.prod Ty.i (Ty.prod Ty.i (Ty.prod Ty.i (Ty.prod Ty.i
  Ty.unit))))))) i.2.2.2.1, AV.pv (Ty.slice (Ty.prod Ty.i (Ty.prod Ty.i (Ty.prod Ty.i (Ty.prod Ty.i (Ty.prod Ty.i (Ty.prod Ty.i (Ty.prod (Ty.int
  IntKind.i64) (Ty.prod (Ty.slice YReadMark) (Ty.prod (Ty.slice YReadMark) Ty.unit)))))))))) i.2.2.2.2.1, AV.pv (Ty.slice
  YReadMark) i.2.2.2.2.2.1, AV.pv (Ty.slice YReadMark) i.2.2.2.2.2.2.1, AV.pv Ty.i i.2.2.2.2.2.2.2.1]])]⟩

noncomputable def spec_IsCollectable_E8 (i : spec_IsCollectable_I8) (p : spec_IsCollectable_Q8) (R : Type) (K : Ex → St → Option R) : Option R := sumC p (fun p => K (Ex.ret) (spec_IsCollectable_X8_0 i p)) fun p => K (Ex.exit 0) (spec_IsCollectable_X8_1 i p)

noncomputable def spec_IsCollectable_K8 (i : spec_IsCollectable_I8) (p : spec_IsCollectable_Q8) : Ex × St := sumC p (fun p => (Ex.ret, spec_IsCollectable_X8_0 i p)) fun p => (Ex.exit 0, spec_IsCollectable_X8_1 i p)

def spec_IsCollectable_M8 (i : spec_IsCollectable_I8) (v : spec_IsCollectable_V8) : den spec_IsCollectable_T8.ty := (i.1, i.2.1, v.1, i.2.2.1, i.2.2.2.1, i.2.2.2.2.1, i.2.2.2.2.2.1, i.2.2.2.2.2.2.1, i.2.2.2.2.2.2.2.1, ())

def spec_IsCollectable_P8 (x : den spec_IsCollectable_T8.ty) : spec_IsCollectable_I8 × spec_IsCollectable_V8 := ((x.1, x.2.1, x.2.2.2.1, x.2.2.2.2.1, x.2.2.2.2.2.1, x.2.2.2.2.2.2.1, x.2.2.2.2.2.2.2.1, x.2.2.2.2.2.2.2.2.1, ()), (x.2.2.1, ()))

noncomputable def spec_IsCollectable_C : Cfg := { ti := g_tis, ents := [spec_IsValidEngine_Ent, spec_l1In_Ent, spec_FindVersion_Ent, spec_Watermark_Ent, spec_HasRead_Ent], ann := [(8, loopFn spec_IsCollectable_T8 0 spec_IsCollectable_P8 spec_IsCollectable_D8 spec_IsCollectable_E8)], lent := 0 }

def spec_IsCollectable_ti : Tmpl := ⟨(.slot (Ty.prod Ty.bool (Ty.prod YStore (Ty.prod
  (Ty.slice (Ty.prod Ty.i (Ty.prod Ty.i (Ty.prod Ty.i (Ty.prod Ty.i (Ty.prod Ty.i (Ty.prod Ty.i (Ty.prod Ty.i (Ty.prod (Ty.slice
  YReadMark) (Ty.prod (Ty.slice YReadMark) Ty.unit)))))))))) (Ty.prod (Ty.slice (Ty.prod Ty.i (Ty.prod
  Ty.i Ty.unit))) (Ty.prod (Ty.slice YReadMark) (Ty.prod Ty.i Ty.unit)))))) (.slot Ty.i (.slot Ty.i .nil))), .nil⟩

def spec_IsCollectable_to : Tmpl := ⟨(.slot (Ty.bool) .nil), .nil⟩

noncomputable def spec_IsCollectable_S (x : (Bool × (List (List (Int × Int × Int × Int × Int × Unit)) × Unit) × List (Int × Int × Int × Int × Int × Int × Int × List (Int × Int × Unit) × List (Int × Int × Unit) × Unit) × List (Int × Int × Unit) × List (Int × Int × Unit) × Int × Unit) ×
  Int × Int × Unit) : Option (Bool × Unit) :=
  Option.bind (spec_IsValidEngine_S ((x.1.1, (x.1.2.1.1, ()), x.1.2.2.1, x.1.2.2.2.1, x.1.2.2.2.2.1, x.1.2.2.2.2.2.1, ()), ())) fun v => bif !v.1 then some (false, ()) else Option.bind (spec_l1In_S (x.2.1, 0, 5, ())) fun v => bif !v.1 then
  some (false, ()) else Option.bind (lAt x.1.2.1.1 x.2.1) fun v => Option.bind (spec_FindVersion_S (v, x.2.2.1, ())) fun v_1 => bif decide (v_1.1 < 0) then some (false, ()) else bif v_1.1 == IntKind.wrap IntKind.i64 ((↑(List.length v) : Int) -
  1) then some (false, ()) else Option.bind (lAt v (IntKind.wrap IntKind.i64 (v_1.1 + 1))) fun v => Option.bind (spec_Watermark_S ((x.1.1, (x.1.2.1.1, ()), x.1.2.2.1, x.1.2.2.2.1, x.1.2.2.2.2.1, x.1.2.2.2.2.2.1, ()), ())) fun v_2 => bif decide
  (v.2.2.1 > v_2.1) then some (false, ()) else Option.bind (iter (fun v => spec_IsCollectable_D8 (x.2.1, x.2.2.1, x.1.1, x.1.2.1.1, x.1.2.2.1, x.1.2.2.2.1, x.1.2.2.2.2.1, x.1.2.2.2.2.2.1, ()) v _ some) (0, ())) fun p => sumC p (fun p
  => some (false, ())) fun p => some (true, ())

noncomputable def spec_IsCollectable_Ent : Ent := ⟨17, spec_IsCollectable_ti, spec_IsCollectable_to, spec_IsCollectable_S⟩

theorem spec_IsCollectable_HC : CfgOK Go.Proofs.Tryz.prog spec_IsCollectable_C := hc_of g_tisOK g_wide (all_cons spec_IsValidEngine_OK (all_cons spec_l1In_OK (all_cons spec_FindVersion_OK (all_cons spec_Watermark_OK (all_cons spec_HasRead_OK all_nil)))))

theorem spec_IsCollectable_lk8 : LkOK Go.Proofs.Tryz.prog spec_IsCollectable_C (lpc Go.Proofs.Tryz.f17 0) :=
  lk_of spec_IsCollectable_HC (m := 0) (T := spec_IsCollectable_T8) (sp := spec_IsCollectable_P8) (D := spec_IsCollectable_D8) (E := spec_IsCollectable_E8) (by kernel_rfl) (by kernel_rfl) (fun k hk => absurd hk (Nat.not_lt_zero k)) [6] spec_IsCollectable_M8 (fun x => rfl) spec_IsCollectable_D8_nat spec_IsCollectable_K8 (fun i p R K => by rcases p with p | p <;> rfl) (fun i v => by kernel_rfl)

theorem spec_IsCollectable_OK : EntOK Go.Proofs.Tryz.prog spec_IsCollectable_Ent := ok_of spec_IsCollectable_HC Go.Proofs.Tryz.func17 1 (by kernel_rfl) (fun k hk => match k, hk with | 0, _ => spec_IsCollectable_lk8) (by kernel_rfl) (by kernel_rfl) (fun x => by kernel_rfl)

/-! spec.CollectVersions -/

abbrev spec_CollectVersions_I8 : Type := Int × Bool × List (List (Int × Int × Int × Int × Int × Unit)) × List (Int × Int × Int × Int × Int × Int × Int × List (Int × Int × Unit) × List (Int × Int × Unit) × Unit) × List (Int × Int × Unit) × List (Int × Int × Unit) × Int × Bool × Int
  × Bool × Int × List (Int × Int × Int × Int × Int × Int × Int × List (Int × Int × Unit) × List (Int × Int × Unit) × Unit) × List (Int × Int × Unit) × List (Int × Int × Unit) × Unit

abbrev spec_CollectVersions_V8 : Type := Int × Int × List (List (Int × Int × Int × Int × Int × Unit)) × Unit

abbrev spec_CollectVersions_Q8 : Type := Int × List (List (Int × Int × Int × Int × Int × Unit)) × Unit

noncomputable def spec_CollectVersions_D8 (i : spec_CollectVersions_I8) (v : spec_CollectVersions_V8) (R : Type) (K : spec_CollectVersions_V8 ⊕ spec_CollectVersions_Q8 → Option R) : Option R :=
  Option.bind (lAt i.2.2.1 i.1) fun v_1 => bif decide (v.2.1 < (↑(List.length v_1) : Int)) then Option.bind (lAt i.2.2.1 i.1) fun v_2 => Option.bind (lAt v_2 v.2.1) fun v_3 => Option.bind (spec_IsCollectable_S ((i.2.1, (i.2.2.1, ()),
  i.2.2.2.1, i.2.2.2.2.1, i.2.2.2.2.2.1, i.2.2.2.2.2.2.1, ()), i.1, v_3.2.2.1, ())) fun v_4 => bif v_4.1 then K (Sum.inl (IntKind.wrap IntKind.i64 (v.1 + 1), IntKind.wrap IntKind.i64 (v.2.1 + 1), v.2.2.1, ())) else if 0 ≤ i.1 ∧ i.1 <
  (↑(List.length v.2.2.1) : Int) then Option.bind v.2.2.1[0 + Int.toNat i.1]? fun v_5 => Option.bind v.2.2.1[0 + Int.toNat i.1]? fun v_6 => if List.length (v_6 ++ [(v_3.1, v_3.2.1, v_3.2.2.1, v_3.2.2.2.1, v_3.2.2.2.2.1, ())]) ≤ 879609302220
  then if 0 ≤ i.1 ∧ i.1 < (↑(List.length v.2.2.1) : Int) then Option.bind v.2.2.1[0 + Int.toNat i.1]? fun v_7 => if 1 ≤ 1 ∧ true = true ∧ 0 + Int.toNat i.1 = 0 + Int.toNat i.1 ∧ 0 ≤ 0 ∧ 0 < 1 then K (Sum.inl (v.1, IntKind.wrap IntKind.i64
  (v.2.1 + 1), List.set v.2.2.1 (0 + Int.toNat i.1) (v_6 ++ [(v_3.1, v_3.2.1, v_3.2.2.1, v_3.2.2.2.1, v_3.2.2.2.2.1, ())]), ())) else none else none else none else none else K (Sum.inr (v.1, v.2.2.1, ()))

theorem spec_CollectVersions_D8_nat : NatD spec_CollectVersions_D8 := fun i v R K => nat_bind fun _ => nat_bif (nat_bind fun _ => nat_bind fun _ => nat_bind fun _ => nat_bif (nat_some) (nat_ite (nat_bind fun _ => nat_bind fun _ => nat_ite (nat_ite (nat_bind fun _ => nat_ite (nat_some)))))) (nat_some)

def spec_CollectVersions_T8 : Tmpl := ⟨(.junk (.ptr 0 0 0 (.ptr 1 0 0 (.junk (.ptr 2 0 0 (.slot Ty.i (.slot Ty.i (.slot Ty.i (jk 63 .nil))))))))), (.cells 6 (.slot (Ty.bool) (.slot (Ty.slice (Ty.slice YVersion)) (.slot (Ty.slice (Ty.prod Ty.i (Ty.prod Ty.i (Ty.prod Ty.i (Ty.prod Ty.i (Ty.prod Ty.i (Ty.prod Ty.i (Ty.prod Ty.i (Ty.prod (Ty.slice
  YReadMark) (Ty.prod (Ty.slice YReadMark) Ty.unit)))))))))) (.slot (Ty.slice YReadMark) (.slot (Ty.slice YReadMark) (.slot Ty.i .nil)))))) (.cells 6 (.slot (Ty.bool) (.const (AV.nils) (.const (AV.nils) (.const (AV.nils) (.const (AV.nils) (.slot Ty.i .nil)))))) (.cells 6 (.slot (Ty.bool) (.own 3 (.own 4 (.own 5 (.own 6 (.slot Ty.i .nil)))))) (.tree false 1 (Ty.slice YVersion) (.tree false 0 (Ty.prod Ty.i (Ty.prod Ty.i (Ty.prod Ty.i (Ty.prod Ty.i (Ty.prod Ty.i (Ty.prod Ty.i (Ty.prod Ty.i (Ty.prod (Ty.slice (Ty.prod
  Ty.i (Ty.prod Ty.i Ty.unit))) (Ty.prod (Ty.slice YReadMark) Ty.unit))))))))) (.lst false YReadMark (.lst false YReadMark .nil)))))))⟩

def spec_CollectVersions_X8_0 (i : spec_CollectVersions_I8) (p : Int × List (List (Int × Int × Int × Int × Int × Unit)) × Unit) : St := ⟨jn 1 (AV.ptr 0 none 0 0 :: AV.ptr 1 none 0 0 :: jn 1 (AV.ptr 2 none 0 0 :: .n (p.1) :: .n (i.1) :: jn 64 ([]))), [some (Cont.cells 6 [[AV.pv Ty.bool i.2.1, AV.pv (Ty.slice (Ty.slice (Ty.prod Ty.i (Ty.prod (Ty.int
  IntKind.i64) (Ty.prod Ty.i YReadMark))))) i.2.2.1, AV.pv (Ty.slice (Ty.prod Ty.i (Ty.prod Ty.i (Ty.prod Ty.i (Ty.prod
  Ty.i (Ty.prod Ty.i (Ty.prod Ty.i (Ty.prod Ty.i (Ty.prod (Ty.slice YReadMark) (Ty.prod (Ty.slice (Ty.prod (Ty.int
  IntKind.i64) (Ty.prod Ty.i Ty.unit))) Ty.unit)))))))))) i.2.2.2.1, AV.pv (Ty.slice YReadMark) i.2.2.2.2.1, AV.pv (Ty.slice (Ty.prod Ty.i (Ty.prod
  Ty.i Ty.unit))) i.2.2.2.2.2.1, AV.pv Ty.i i.2.2.2.2.2.2.1]]), some (Cont.cells 6 [[AV.pv Ty.bool i.2.2.2.2.2.2.2.1, AV.nils, AV.nils, AV.nils, AV.nils, AV.pv Ty.i i.2.2.2.2.2.2.2.2.1]]), some
  (Cont.cells 6 [[AV.pv Ty.bool i.2.2.2.2.2.2.2.2.2.1, AV.own 3 none none, AV.own 4 none none, AV.own 5 none none, AV.own 6 none none, AV.pv Ty.i i.2.2.2.2.2.2.2.2.2.2.1]]), some (Cont.tree false 1 (Ty.slice (Ty.prod (Ty.int
  IntKind.i64) (Ty.prod Ty.i (Ty.prod Ty.i YReadMark)))) p.2.1 none), some (Cont.tree false 0 (Ty.prod Ty.i (Ty.prod (Ty.int
  IntKind.i64) (Ty.prod Ty.i (Ty.prod Ty.i (Ty.prod Ty.i (Ty.prod Ty.i (Ty.prod Ty.i (Ty.prod (Ty.slice (Ty.prod Ty.i (Ty.prod Ty.i
  Ty.unit))) (Ty.prod (Ty.slice YReadMark) Ty.unit))))))))) i.2.2.2.2.2.2.2.2.2.2.2.1 none), some (Cont.lst false YReadMark
  i.2.2.2.2.2.2.2.2.2.2.2.2.1), some (Cont.lst false YReadMark i.2.2.2.2.2.2.2.2.2.2.2.2.2.1)]⟩

noncomputable def spec_CollectVersions_E8 (i : spec_CollectVersions_I8) (p : spec_CollectVersions_Q8) (R : Type) (K : Ex → St → Option R) : Option R := K (Ex.exit 2) (spec_CollectVersions_X8_0 i p)

noncomputable def spec_CollectVersions_K8 (i : spec_CollectVersions_I8) (p : spec_CollectVersions_Q8) : Ex × St := (Ex.exit 2, spec_CollectVersions_X8_0 i p)

def spec_CollectVersions_M8 (i : spec_CollectVersions_I8) (v : spec_CollectVersions_V8) : den spec_CollectVersions_T8.ty := (v.1, i.1, v.2.1, i.2.1, i.2.2.1, i.2.2.2.1, i.2.2.2.2.1, i.2.2.2.2.2.1, i.2.2.2.2.2.2.1, i.2.2.2.2.2.2.2.1, i.2.2.2.2.2.2.2.2.1, i.2.2.2.2.2.2.2.2.2.1, i.2.2.2.2.2.2.2.2.2.2.1, v.2.2.1, i.2.2.2.2.2.2.2.2.2.2.2.1, i.2.2.2.2.2.2.2.2.2.2.2.2.1, i.2.2.2.2.2.2.2.2.2.2.2.2.2.1, ())

def spec_CollectVersions_P8 (x : den spec_CollectVersions_T8.ty) : spec_CollectVersions_I8 × spec_CollectVersions_V8 := ((x.2.1, x.2.2.2.1, x.2.2.2.2.1, x.2.2.2.2.2.1, x.2.2.2.2.2.2.1, x.2.2.2.2.2.2.2.1, x.2.2.2.2.2.2.2.2.1, x.2.2.2.2.2.2.2.2.2.1, x.2.2.2.2.2.2.2.2.2.2.1, x.2.2.2.2.2.2.2.2.2.2.2.1, x.2.2.2.2.2.2.2.2.2.2.2.2.1, x.2.2.2.2.2.2.2.2.2.2.2.2.2.2.1, x.2.2.2.2.2.2.2.2.2.2.2.2.2.2.2.1, x.2.2.2.2.2.2.2.2.2.2.2.2.2.2.2.2.1, ()), (x.1, x.2.2.1, x.2.2.2.2.2.2.2.2.2.2.2.2.2.1, ()))

abbrev spec_CollectVersions_I4 : Type := Bool × List (List (Int × Int × Int × Int × Int × Unit)) × List (Int × Int × Int × Int × Int × Int × Int × List (Int × Int × Unit) × List (Int × Int × Unit) × Unit) × List (Int × Int × Unit) × List (Int × Int × Unit) × Int × Bool × Int × Bool
  × Int × List (Int × Int × Int × Int × Int × Int × Int × List (Int × Int × Unit) × List (Int × Int × Unit) × Unit) × List (Int × Int × Unit) × List (Int × Int × Unit) × Unit

abbrev spec_CollectVersions_V4 : Type := Int × Int × List (List (Int × Int × Int × Int × Int × Unit)) × Unit

abbrev spec_CollectVersions_Q4 : Type := Int × List (List (Int × Int × Int × Int × Int × Unit)) × Unit ⊕ Int × List (List (Int × Int × Int × Int × Int × Unit)) × Unit

noncomputable def spec_CollectVersions_D4 (i : spec_CollectVersions_I4) (v : spec_CollectVersions_V4) (R : Type) (K : spec_CollectVersions_V4 ⊕ spec_CollectVersions_Q4 → Option R) : Option R :=
  bif decide (v.2.1 < (↑(List.length i.2.1) : Int)) then Option.bind (spec_IsValidEngine_S ((i.1, (i.2.1, ()), i.2.2.1, i.2.2.2.1, i.2.2.2.2.1, i.2.2.2.2.2.1, ()), ())) fun v_1 => bif v_1.1 then if 0 ≤ v.2.1 ∧ v.2.1 < (↑(List.length v.2.2.1) :
  Int) then Option.bind v.2.2.1[0 + Int.toNat v.2.1]? fun v_2 => Option.bind (iter (fun v_3 => spec_CollectVersions_D8 (v.2.1, i.1, i.2.1, i.2.2.1, i.2.2.2.1, i.2.2.2.2.1, i.2.2.2.2.2.1, i.2.2.2.2.2.2.1, i.2.2.2.2.2.2.2.1, i.2.2.2.2.2.2.2.2.1,
  i.2.2.2.2.2.2.2.2.2.1, i.2.2.2.2.2.2.2.2.2.2.1, i.2.2.2.2.2.2.2.2.2.2.2.1, i.2.2.2.2.2.2.2.2.2.2.2.2.1, ()) v_3 _ some) (v.1, 0, List.set v.2.2.1 (0 + Int.toNat v.2.1) [], ())) fun p => K (Sum.inl (p.1, IntKind.wrap IntKind.i64
  (v.2.1 + 1), p.2.1, ())) else none else K (Sum.inr (Sum.inl (v.1, v.2.2.1, ()))) else K (Sum.inr (Sum.inr (v.1, v.2.2.1, ())))

theorem spec_CollectVersions_D4_nat : NatD spec_CollectVersions_D4 := fun i v R K => nat_bif (nat_bind fun _ => nat_bif (nat_ite (nat_bind fun _ => nat_bind fun _ => nat_some)) (nat_some)) (nat_some)

def spec_CollectVersions_T4 : Tmpl := ⟨(.junk (.ptr 0 0 0 (.ptr 1 0 0 (.junk (.ptr 2 0 0 (.slot Ty.i (.slot Ty.i (jk 64 .nil)))))))), (.cells 6 (.slot (Ty.bool) (.slot (Ty.slice (Ty.slice YVersion)) (.slot (Ty.slice (Ty.prod Ty.i (Ty.prod Ty.i (Ty.prod Ty.i (Ty.prod Ty.i (Ty.prod Ty.i (Ty.prod Ty.i (Ty.prod Ty.i (Ty.prod (Ty.slice
  YReadMark) (Ty.prod (Ty.slice YReadMark) Ty.unit)))))))))) (.slot (Ty.slice YReadMark) (.slot (Ty.slice YReadMark) (.slot Ty.i .nil)))))) (.cells 6 (.slot (Ty.bool) (.const (AV.nils) (.const (AV.nils) (.const (AV.nils) (.const (AV.nils) (.slot Ty.i .nil)))))) (.cells 6 (.slot (Ty.bool) (.own 3 (.own 4 (.own 5 (.own 6 (.slot Ty.i .nil)))))) (.tree false 1 (Ty.slice YVersion) (.tree false 0 (Ty.prod Ty.i (Ty.prod Ty.i (Ty.prod Ty.i (Ty.prod Ty.i (Ty.prod Ty.i (Ty.prod Ty.i (Ty.prod Ty.i (Ty.prod (Ty.slice (Ty.prod
  Ty.i (Ty.prod Ty.i Ty.unit))) (Ty.prod (Ty.slice YReadMark) Ty.unit))))))))) (.lst false YReadMark (.lst false YReadMark .nil)))))))⟩

def spec_CollectVersions_X4_0 (i : spec_CollectVersions_I4) (p : Int × List (List (Int × Int × Int × Int × Int × Unit)) × Unit) : St := ⟨jn 2 (AV.ptr 1 none 0 0 :: jn 1 (AV.ptr 2 none 0 0 :: .n (p.1) :: jn 65 ([]))), [some (Cont.cells 6 [[AV.pv Ty.bool i.1, AV.pv (Ty.slice (Ty.slice (Ty.prod Ty.i (Ty.prod Ty.i (Ty.prod Ty.i
  YReadMark))))) i.2.1, AV.pv (Ty.slice (Ty.prod Ty.i (Ty.prod Ty.i (Ty.prod Ty.i (Ty.prod Ty.i (Ty.prod (Ty.int
  IntKind.i64) (Ty.prod Ty.i (Ty.prod Ty.i (Ty.prod (Ty.slice YReadMark) (Ty.prod (Ty.slice (Ty.prod Ty.i (Ty.prod Ty.i
  Ty.unit))) Ty.unit)))))))))) i.2.2.1, AV.pv (Ty.slice YReadMark) i.2.2.2.1, AV.pv (Ty.slice YReadMark) i.2.2.2.2.1, AV.pv
  Ty.i i.2.2.2.2.2.1]]), some (Cont.cells 6 [[AV.pv Ty.bool i.2.2.2.2.2.2.1, AV.nils, AV.nils, AV.nils, AV.nils, AV.pv Ty.i i.2.2.2.2.2.2.2.1]]), some (Cont.cells 6 [[AV.pv Ty.bool i.2.2.2.2.2.2.2.2.1, AV.own 3
  none none, AV.own 4 none none, AV.own 5 none none, AV.own 6 none none, AV.pv Ty.i i.2.2.2.2.2.2.2.2.2.1]]), some (Cont.tree false 1 (Ty.slice (Ty.prod Ty.i (Ty.prod Ty.i (Ty.prod (Ty.int
  IntKind.i64) YReadMark)))) p.2.1 none), some (Cont.tree false 0 (Ty.prod Ty.i (Ty.prod Ty.i (Ty.prod Ty.i (Ty.prod (Ty.int
  IntKind.i64) (Ty.prod Ty.i (Ty.prod Ty.i (Ty.prod Ty.i (Ty.prod (Ty.slice YReadMark) (Ty.prod (Ty.slice (Ty.prod Ty.i
  (Ty.prod Ty.i Ty.unit))) Ty.unit))))))))) i.2.2.2.2.2.2.2.2.2.2.1 none), some (Cont.lst false YReadMark i.2.2.2.2.2.2.2.2.2.2.2.1), some (Cont.lst false (Ty.prod
  Ty.i (Ty.prod Ty.i Ty.unit)) i.2.2.2.2.2.2.2.2.2.2.2.2.1)]⟩

def spec_CollectVersions_X4_1 (i : spec_CollectVersions_I4) (p : Int × List (List (Int × Int × Int × Int × Int × Unit)) × Unit) : St := ⟨jn 2 (AV.ptr 1 none 0 0 :: jn 1 (AV.ptr 2 none 0 0 :: .n (p.1) :: jn 65 ([]))), [some (Cont.cells 6 [[AV.pv Ty.bool i.1, AV.pv (Ty.slice (Ty.slice (Ty.prod Ty.i (Ty.prod Ty.i (Ty.prod Ty.i
  YReadMark))))) i.2.1, AV.pv (Ty.slice (Ty.prod Ty.i (Ty.prod Ty.i (Ty.prod Ty.i (Ty.prod Ty.i (Ty.prod (Ty.int
  IntKind.i64) (Ty.prod Ty.i (Ty.prod Ty.i (Ty.prod (Ty.slice YReadMark) (Ty.prod (Ty.slice (Ty.prod Ty.i (Ty.prod Ty.i
  Ty.unit))) Ty.unit)))))))))) i.2.2.1, AV.pv (Ty.slice YReadMark) i.2.2.2.1, AV.pv (Ty.slice YReadMark) i.2.2.2.2.1, AV.pv
  Ty.i i.2.2.2.2.2.1]]), some (Cont.cells 6 [[AV.pv Ty.bool i.2.2.2.2.2.2.1, AV.nils, AV.nils, AV.nils, AV.nils, AV.pv Ty.i i.2.2.2.2.2.2.2.1]]), some (Cont.cells 6 [[AV.pv Ty.bool i.2.2.2.2.2.2.2.2.1, AV.own 3
  none none, AV.own 4 none none, AV.own 5 none none, AV.own 6 none none, AV.pv Ty.i i.2.2.2.2.2.2.2.2.2.1]]), some (Cont.tree false 1 (Ty.slice (Ty.prod Ty.i (Ty.prod Ty.i (Ty.prod (Ty.int
  IntKind.i64) YReadMark)))) p.2.1 none), some (Cont.tree false 0 (Ty.prod Ty.i (Ty.prod Ty.i (Ty.prod Ty.i (Ty.prod (Ty.int
  IntKind.i64) (Ty.prod Ty.i (Ty.prod Ty.i (Ty.prod Ty.i (Ty.prod (Ty.slice YReadMark) (Ty.prod (Ty.slice (Ty.prod Ty.i
  (Ty.prod Ty.i Ty.unit))) Ty.unit))))))))) i.2.2.2.2.2.2.2.2.2.2.1 none), some (Cont.lst false YReadMark i.2.2.2.2.2.2.2.2.2.2.2.1), some (Cont.lst false (Ty.prod
  Ty.i (Ty.prod Ty.i Ty.unit)) i.2.2.2.2.2.2.2.2.2.2.2.2.1)]⟩

noncomputable def spec_CollectVersions_E4 (i : spec_CollectVersions_I4) (p : spec_CollectVersions_Q4) (R : Type) (K : Ex → St → Option R) : Option R := sumC p (fun p => K (Ex.exit 0) (spec_CollectVersions_X4_0 i p)) fun p => K (Ex.exit 0) (spec_CollectVersions_X4_1 i p)

noncomputable def spec_CollectVersions_K4 (i : spec_CollectVersions_I4) (p : spec_CollectVersions_Q4) : Ex × St := sumC p (fun p => (Ex.exit 0, spec_CollectVersions_X4_0 i p)) fun p => (Ex.exit 0, spec_CollectVersions_X4_1 i p)

def spec_CollectVersions_M4 (i : spec_CollectVersions_I4) (v : spec_CollectVersions_V4) : den spec_CollectVersions_T4.ty := (v.1, v.2.1, i.1, i.2.1, i.2.2.1, i.2.2.2.1, i.2.2.2.2.1, i.2.2.2.2.2.1, i.2.2.2.2.2.2.1, i.2.2.2.2.2.2.2.1, i.2.2.2.2.2.2.2.2.1, i.2.2.2.2.2.2.2.2.2.1, v.2.2.1, i.2.2.2.2.2.2.2.2.2.2.1, i.2.2.2.2.2.2.2.2.2.2.2.1, i.2.2.2.2.2.2.2.2.2.2.2.2.1, ())

def spec_CollectVersions_P4 (x : den spec_CollectVersions_T4.ty) : spec_CollectVersions_I4 × spec_CollectVersions_V4 := ((x.2.2.1, x.2.2.2.1, x.2.2.2.2.1, x.2.2.2.2.2.1, x.2.2.2.2.2.2.1, x.2.2.2.2.2.2.2.1, x.2.2.2.2.2.2.2.2.1, x.2.2.2.2.2.2.2.2.2.1, x.2.2.2.2.2.2.2.2.2.2.1, x.2.2.2.2.2.2.2.2.2.2.2.1, x.2.2.2.2.2.2.2.2.2.2.2.2.2.1, x.2.2.2.2.2.2.2.2.2.2.2.2.2.2.1, x.2.2.2.2.2.2.2.2.2.2.2.2.2.2.2.1, ()), (x.1, x.2.1, x.2.2.2.2.2.2.2.2.2.2.2.2.1, ()))

noncomputable def spec_CollectVersions_C : Cfg := { ti := g_tis, ents := [spec_l13Copy_Ent, spec_IsValidEngine_Ent, spec_IsCollectable_Ent], ann := [(8, loopFn spec_CollectVersions_T8 0 spec_CollectVersions_P8 spec_CollectVersions_D8 spec_CollectVersions_E8), (4, loopFn spec_CollectVersions_T4 0 spec_CollectVersions_P4 spec_CollectVersions_D4 spec_CollectVersions_E4)], lent := 0, hid := [((13, 0), [3]), ((13, 1), [3]), ((13, 2), [3]), ((13, 3), [3])] }

def spec_CollectVersions_ti : Tmpl := ⟨(.slot (Ty.prod Ty.bool (Ty.prod YStore (Ty.prod
  (Ty.slice (Ty.prod Ty.i (Ty.prod Ty.i (Ty.prod Ty.i (Ty.prod Ty.i (Ty.prod Ty.i (Ty.prod Ty.i (Ty.prod Ty.i (Ty.prod (Ty.slice
  YReadMark) (Ty.prod (Ty.slice YReadMark) Ty.unit)))))))))) (Ty.prod (Ty.slice (Ty.prod Ty.i (Ty.prod
  Ty.i Ty.unit))) (Ty.prod (Ty.slice YReadMark) (Ty.prod Ty.i Ty.unit)))))) .nil), .nil⟩

def spec_CollectVersions_to : Tmpl := ⟨(.agg (.slot (Ty.bool) (.own 0 (.own 1 (.own 2 (.own 3 (.slot Ty.i .nil)))))) (.slot Ty.i .nil)), (.tree false 1 (Ty.slice YVersion) (.tree false 0 (Ty.prod Ty.i (Ty.prod Ty.i (Ty.prod Ty.i (Ty.prod Ty.i (Ty.prod Ty.i (Ty.prod Ty.i (Ty.prod Ty.i (Ty.prod (Ty.slice (Ty.prod
  Ty.i (Ty.prod Ty.i Ty.unit))) (Ty.prod (Ty.slice YReadMark) Ty.unit))))))))) (.lst false YReadMark (.lst false YReadMark .nil))))⟩

noncomputable def spec_CollectVersions_S (x : (Bool × (List (List (Int × Int × Int × Int × Int × Unit)) × Unit) × List (Int × Int × Int × Int × Int × Int × Int × List (Int × Int × Unit) × List (Int × Int × Unit) × Unit) × List (Int × Int × Unit) × List (Int × Int × Unit) × Int × Unit) ×
  Unit) : Option (Bool × Int × Int × List (List (Int × Int × Int × Int × Int × Unit)) × List (Int × Int × Int × Int × Int × Int × Int × List (Int × Int × Unit) × List (Int × Int × Unit) × Unit) × List (Int × Int × Unit) × List (Int × Int × Unit) × Unit) :=
  Option.bind (spec_l13Copy_S ((x.1.1, (x.1.2.1.1, ()), x.1.2.2.1, x.1.2.2.2.1, x.1.2.2.2.2.1, x.1.2.2.2.2.2.1, ()), ())) fun v => Option.bind (iter (fun v_1 => spec_CollectVersions_D4 (x.1.1, x.1.2.1.1, x.1.2.2.1, x.1.2.2.2.1, x.1.2.2.2.2.1,
  x.1.2.2.2.2.2.1, false, 0, v.1, v.2.1, v.2.2.2.1, v.2.2.2.2.1, v.2.2.2.2.2.1, ()) v_1 _ some) (0, 0, v.2.2.1, ())) fun p => sumC p (fun p => some (v.1, v.2.1, p.1, p.2.1, v.2.2.2.1, v.2.2.2.2.1, v.2.2.2.2.2.1, ())) fun p => some
  (v.1, v.2.1, p.1, p.2.1, v.2.2.2.1, v.2.2.2.2.1, v.2.2.2.2.2.1, ())

noncomputable def spec_CollectVersions_Ent : Ent := ⟨5, spec_CollectVersions_ti, spec_CollectVersions_to, spec_CollectVersions_S⟩

theorem spec_CollectVersions_HC : CfgOK Go.Proofs.Tryz.prog spec_CollectVersions_C := hc_of g_tisOK g_wide (all_cons spec_l13Copy_OK (all_cons spec_IsValidEngine_OK (all_cons spec_IsCollectable_OK all_nil)))

theorem spec_CollectVersions_lk8 : LkOK Go.Proofs.Tryz.prog spec_CollectVersions_C (lpc Go.Proofs.Tryz.f5 1) :=
  lk_of spec_CollectVersions_HC (m := 0) (T := spec_CollectVersions_T8) (sp := spec_CollectVersions_P8) (D := spec_CollectVersions_D8) (E := spec_CollectVersions_E8) (by kernel_rfl) (by kernel_rfl) (fun k hk => absurd hk (Nat.not_lt_zero k)) [1, 2, 4, 5, 6] spec_CollectVersions_M8 (fun x => rfl) spec_CollectVersions_D8_nat spec_CollectVersions_K8 (fun i p R K => rfl) (fun i v => by kernel_rfl)

theorem spec_CollectVersions_lk4 : LkOK Go.Proofs.Tryz.prog spec_CollectVersions_C (lpc Go.Proofs.Tryz.f5 0) :=
  lk_of spec_CollectVersions_HC (m := 1) (T := spec_CollectVersions_T4) (sp := spec_CollectVersions_P4) (D := spec_CollectVersions_D4) (E := spec_CollectVersions_E4) (by kernel_rfl) (by kernel_rfl) (fun k hk => match k, hk with | 0, _ => lk_at (by kernel_rfl) spec_CollectVersions_lk8) [2, 4, 5] spec_CollectVersions_M4 (fun x => rfl) spec_CollectVersions_D4_nat spec_CollectVersions_K4 (fun i p R K => by rcases p with p | p <;> rfl) (fun i v => by kernel_rfl)

theorem spec_CollectVersions_OK : EntOK Go.Proofs.Tryz.prog spec_CollectVersions_Ent := ok_of spec_CollectVersions_HC Go.Proofs.Tryz.func5 2 (by kernel_rfl) (fun k hk => match k, hk with | 0, _ => spec_CollectVersions_lk4 | 1, _ => spec_CollectVersions_lk8) (by kernel_rfl) (by kernel_rfl) (fun x => by kernel_rfl)

/-! slices.Clone[[]impl.Version,impl.Version] -/

noncomputable def slices_Clone_impl_Version_C : Cfg := { ti := g_tis, ents := [], ann := [], lent := 0 }

def slices_Clone_impl_Version_ti : Tmpl := ⟨(.slot (Ty.slice YVersion) .nil), .nil⟩

def slices_Clone_impl_Version_to : Tmpl := ⟨(.own 0 .nil), (.lst false YVersion .nil)⟩

noncomputable def slices_Clone_impl_Version_S (x : List (Int × Int × Int × Int × Int × Unit) × Unit) : Option (List (Int × Int × Int × Int × Int × Unit) × Unit) :=
  bif List.length x.1 == 0 then both (some ([], ())) (if List.length x.1 ≤ 879609302220 then some (x.1, ()) else none) else if List.length x.1 ≤ 879609302220 then some (x.1, ()) else none

noncomputable def slices_Clone_impl_Version_Ent : Ent := ⟨98, slices_Clone_impl_Version_ti, slices_Clone_impl_Version_to, slices_Clone_impl_Version_S⟩

theorem slices_Clone_impl_Version_HC : CfgOK Go.Proofs.Tryz.prog slices_Clone_impl_Version_C := hc_of g_tisOK g_wide all_nil

theorem slices_Clone_impl_Version_OK : EntOK Go.Proofs.Tryz.prog slices_Clone_impl_Version_Ent := ok_of slices_Clone_impl_Version_HC Go.Proofs.Tryz.func98 0 (by kernel_rfl) (fun k hk => absurd hk (Nat.not_lt_zero k)) (by kernel_rfl) (by kernel_rfl) (fun x => by kernel_rfl)

end Go.Ab
