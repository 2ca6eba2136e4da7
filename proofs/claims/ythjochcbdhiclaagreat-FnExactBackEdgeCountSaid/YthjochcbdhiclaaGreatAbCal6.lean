import Derived.Test.YthjochcbdhiclaaGreatAbCal5
set_option linter.unnecessarySimpa false
set_option linter.unusedVariables false
set_option linter.unusedSimpArgs false
namespace Go.Ab
def resV (us : List Value) : Value := match us with | [u] => u | us => .tuple us.toArray
def PSpec (P : Program) (f : FuncId) (ti to : Tmpl) (x : den ti.ty) (y : den to.ty) : Prop :=
  ∀ (E : Env) (w : World) (vs : List Value), HeapOK E (ti.objs0 x) w → RepL E (ti.objs0 x) w (ti.vals0 x) vs →
    Calls P f vs.toArray w fun e w' => ∃ us E', e = .returned (resV us) ∧ Inv (frOf E (ti.objs0 x) w) E' (mrg (ti.objs0 x) (to.objs0 y)) w' ∧ RepL E' (mrg (ti.objs0 x) (to.objs0 y)) w' (to.vals0 y) us
def EntOK (P : Program) (e : Ent) : Prop :=
  (∃ fn, P.funcs[e.f]? = some fn ∧ (fn.name == "runtime.NumGoroutine") = false ∧ fn.body.isNone = false) ∧ ∀ x y, e.fn x = some y → PSpec P e.f e.ti e.to x y
structure CfgOK (P : Program) (C : Cfg) : Prop where
  tab : TabOK P C
  ents : ∀ e ∈ C.ents, EntOK P e
  wide : P.follows .mixedOrders = true
theorem getD_hideAt : (h : Heap) → (r q : Nat) → (hideAt h r).getD q none = if q = r then none else h.getD q none
  | [], r, q => by simp [hideAt]
  | o :: h, 0, q => by cases q <;> simp [hideAt]
  | o :: h, r + 1, q => by
    cases q with
    | zero => simp [hideAt]
    | succ q => simpa [hideAt] using getD_hideAt h r q
theorem getD_hideH : (ks : List Nat) → (h : Heap) → (q : Nat) → (hideH h ks).getD q none = if q ∈ ks then none else h.getD q none
  | [], h, q => by simp [hideH]
  | r :: ks, h, q => by
    rw [hideH, getD_hideH ks, getD_hideAt]
    by_cases h1 : q ∈ ks
    · simp [h1]
    · by_cases h2 : q = r <;> simp [h1, h2]
theorem resAV_rep {E : Env} {h : Heap} {w : World} {vs : List AV} {us : List Value} (hr : RepL E h w vs us) : RepAV E h w (resAV vs) (resV us) := by
  unfold resAV resV
  split
  · rename_i v
    simp only [RepL] at hr
    obtain ⟨u, us, rfl, h1, rfl⟩ := hr
    exact h1
  · rename_i hne
    have hl := hr.length
    split
    · rename_i u
      cases vs with
      | nil => simp at hl
      | cons c cs => cases cs with
        | nil => exact absurd rfl (hne c)
        | cons d cs => simp at hl
    · simp only [RepAV]; exact ⟨us, rfl, hr⟩
theorem pickE_spec {f : FuncId} {args : List AV} : {es : List Ent} → {e : Ent} → pickE f args es = some e → e ∈ es ∧ e.f = f
  | [], e, h => by cases h
  | d :: es, e, h => by
    unfold pickE at h
    split at h
    · rename_i hc
      rw [Bool.and_eq_true] at hc
      obtain rfl : d = e := by simpa using h
      exact ⟨List.mem_cons_self .., eq_of_beq hc.1⟩
    · obtain ⟨h1, h2⟩ := pickE_spec h
      exact ⟨List.mem_cons_of_mem _ h1, h2⟩
section
variable {P : Program} {C : Cfg}
theorem call_exec {s : St} {o : Oper} {c : Call} {fo : Operand} {g : FuncId} {cap : List AV} (ho : o.op = .call c) (hc : c.callee = .value fo) (hcal : callee (ev s.t fo) = some (g, cap)) {fn : Func} (hfn : P.funcs[g]? = some fn) (hnum : (fn.name == "runtime.NumGoroutine") = false) (hbody : fn.body.isNone = false)
    (h : Heap) (E : Env) (w : World) (a : Act) (hop : ∀ z ∈ o.op.operands, RepAV E h w (ev s.t z) (a.eval z)) : ∃ vs : List Value, RepL E h w (c.args.toList.map (ev s.t) ++ cap) vs ∧ (execOp a.eval o).run P w = .ok (.enter g vs.toArray) w := by
  have hfo : fo ∈ o.op.operands := by rw [ho]; simp [Op.operands, Call.operands, hc]
  have hargs : ∀ z ∈ c.args, z ∈ o.op.operands := fun z hz => by rw [ho]; simp [Op.operands, Call.operands, hz]
  have hcallee : ∃ us : List Value, a.eval fo = .func (.func g) #[] us.toArray ∧ RepL E h w cap us := by
    have h1 := hop fo hfo
    unfold callee at hcal
    split at hcal
    · rename_i f' cap' ef
      obtain ⟨rfl, rfl⟩ : f' = g ∧ cap' = cap := by simpa using hcal
      rw [ef] at h1; simpa only [RepAV] using h1
    · rename_i f' t x' ef
      obtain ⟨rfl, rfl⟩ : f' = g ∧ ups t x' = cap := by simpa using hcal
      rw [ef] at h1
      simp only [RepAV, RepC] at h1
      obtain ⟨us, e1, h2⟩ := h1
      exact ⟨us, by simpa using e1, rep_ups t h2⟩
    · cases hcal
  obtain ⟨us, e1, hus⟩ := hcallee
  refine ⟨(c.args.map a.eval).toList ++ us, RepL.append (RepL.of (by simp) fun i h1 h2 => ?_) hus, ?_⟩
  · simp only [List.getElem_map, Array.toList_map]
    exact hop _ (hargs _ (by simp))
  · simp only [execOp, ho, resolve, hc, e1, Deferred.ofValue, Sem.run_bind, Sem.run_pure, Result.andThen_ok, invoke, callFunc, run_program]
    rw [hfn]
    simp only [hnum, hbody, Bool.false_eq_true, if_false, Sem.run_pure]
    simp
theorem call_sem {R : Type} (HE : ∀ e ∈ C.ents, EntOK P e) {base : Nat} {s : St} {o : Oper} {c : Call} {fo : Operand} {g : FuncId} {cap : List AV} {K : AV → Delta → Option R} {z : R} (ho : o.op = .call c) (hc : c.callee = .value fo) (hcal : callee (ev s.t fo) = some (g, cap))
    (e : callK C base s.h g (c.args.toList.map (ev s.t) ++ cap) K = some z) : ∃ v δ, K v δ = some z ∧ ∀ h, SubH s.h h → (∀ j, j < slotsA C o → h.getD (base + j) none = none) → ESem P s.t h o v δ := by
  have hslots : slotsA C o = C.cs := by unfold slotsA; simp only [ho, hc]
  unfold callK at e
  split at e
  case h_2 => cases e
  rename_i en hen
  obtain ⟨hmem, hf⟩ := pickE_spec hen
  obtain ⟨⟨fn, hfn, hnum, hbody⟩, hspec⟩ := HE en hmem
  split at e
  case isFalse => cases e
  rename_i hcs
  have hcs := Nat.le_of_ble_eq_true hcs
  revert e
  generalize bindH s.h en.ti.hs 0 (bindL en.ti.ts (c.args.toList.map (ev s.t) ++ cap) []) = ρ
  intro e
  unfold callK1 at e
  split at e
  case isFalse => cases e
  rename_i hcond
  simp only [Bool.and_eq_true] at hcond
  obtain ⟨⟨⟨⟨hren, hkinds⟩, hshort⟩, hfl⟩, hkb⟩ := hcond
  have hshort := Nat.le_of_ble_eq_true hshort
  obtain ⟨hnd, _⟩ := renOk_spec hren
  obtain ⟨δ0, e1, hconv⟩ := convsK_spec _ e
  obtain ⟨x, e2, hst, hvals⟩ := readK_spec e1
  obtain ⟨y, hy, e3⟩ := bind_ok e2
  refine ⟨_, _, e3, fun h hs hfree => ?_⟩
  intro F E w a next Q hI hop hk
  subst hf
  obtain ⟨vs, hall, hrun⟩ := call_exec ho hc hcal hfn hnum hbody h E w a hop
  obtain ⟨E1, HI, hK⟩ := (hconv h hs).2 F E w hI
  have hnone := (hconv h hs).1
  have hs1 : SubH (apD s.h δ0) (apD h δ0) := hs.apD δ0
  have hall1 := keep_repL hK _ hall
  revert hst hvals e3
  generalize hbr : en.to.flat = br
  generalize hhp : (if br then hideH (apD s.h δ0) (outs ρ en.ti.hs 0) else roH (apD s.h δ0)) = hp
  intro hst hvals e3
  let J : Nat → Prop := fun b => E1.I b ∨ (br = true ∧ ∃ r κ n, E1.ι r κ = some (b, n) ∧ ¬ ∃ q c, ρ.getD q none = some r ∧ (en.ti.objs0 x).getD q none = some c ∧ c.ro = false)
  have hpk : PackOK hp E1 (apD h δ0) w J := by
    refine ⟨fun b hb => .inl hb, ?_, .inr HI.heap, fun r c hcc κ b n h1 => ?_⟩
    · rw [← hhp]
      cases br with
      | false => exact hs1.ro
      | true =>
        intro r c hcc hd
        simp only [if_true] at hcc
        rw [getD_hideH] at hcc
        split at hcc
        · cases hcc
        · exact hs1 r c hcc hd
    · rw [← hhp] at hcc
      cases br with
      | false =>
        left
        simp only [Bool.false_eq_true, if_false] at hcc
        rw [getD_roH] at hcc
        refine HI.heap.roI r κ b n h1 ?_
        cases e4 : (apD s.h δ0).getD r none with
        | none => rw [e4] at hcc; cases hcc
        | some c' =>
          rw [e4] at hcc
          by_cases hcr : c'.ro = true
          · have : ∀ (n l : Nat), c' ≠ .shp n l := by rintro n l rfl; cases hcr
            rw [roAt_of (hs1.lst e4 (by rintro rfl; cases hcr) this)]; exact hcr
          · simp only [hcr, Bool.false_eq_true, if_false] at hcc; cases hcc
      | true =>
        refine .inr ⟨rfl, r, κ, n, h1, ?_⟩
        rintro ⟨q, c', h2, h3, h4⟩
        simp only [if_true] at hcc
        rw [getD_hideH, if_pos] at hcc
        · cases hcc
        · exact outs_spec en.ti.hs 0 _ q c' h3 h4 r (by rw [Nat.zero_add]; exact h2)
  have hlen0 : (en.ti.objs0 x).length = en.ti.hs.len := write_len en.ti.hs 0 _
  have hsrc : ∀ q, q < en.ti.hs.len → ∃ c, (en.ti.objs0 x).getD q none = some c ∧ Src1 br 0 en.ti.hs.len (apD h δ0) (apD s.h δ0) hp ρ en.ti.hs.ver q c := by
    intro q hq
    have h1 := hst q hq
    cases ho' : (en.ti.objs0 x).getD q none with
    | some c => rw [ho'] at h1; exact ⟨c, rfl, h1.src hs1⟩
    | none =>
      rw [ho'] at h1
      rcases h1 with h1 | ⟨_, h1, _⟩ | ⟨_, h1⟩ | ⟨r, _, h1⟩
      · cases h1
      · omega
      · rcases h1 with ⟨_, _, h1⟩ | ⟨_, _, h1⟩ <;> cases h1
      · rcases h1 with ⟨_, _, _, _, _, h1, _⟩ | ⟨_, _, _, _, _, _, h1, _⟩ | ⟨_, _, _, _, h1, _⟩ <;> cases h1
  have hbig : ∀ q, en.ti.hs.len ≤ q → (en.ti.objs0 x).getD q none = none := fun q hq => getD_ge (by rw [hlen0]; exact hq)
  have hro1 : ∀ q r c, ρ.getD q none = some r → (en.ti.objs0 x).getD q none = some c → c ≠ .dead → c.ro = false → roAt (apD h δ0) r = false := by
    intro q r c hr hcc hd hcr
    have hq : q < en.ti.hs.len := by
      rcases Nat.lt_or_ge q en.ti.hs.len with h1 | h1
      · exact h1
      · rw [hbig q h1] at hcc; cases hcc
    obtain ⟨c', h1, h2⟩ := hsrc q hq
    rw [hcc] at h1; obtain rfl : c = c' := by simpa using h1
    rcases h2 with rfl | ⟨h3, _⟩ | ⟨r', h3, h4⟩
    · exact absurd rfl hd
    · rw [hr] at h3; cases h3
    · rw [hr] at h3; obtain rfl : r = r' := by simpa using h3
      rcases h4 with ⟨ro, ro', t, xs, h5, rfl, h6⟩ | ⟨ro, ro', v', t, xs, h5, rfl, h6, _⟩ | ⟨k, cs, cs', h5, rfl, _⟩
      · obtain rfl : ro = false := hcr
        rw [roAt_of h5]; cases ro' <;> first | rfl | cases h6
      · obtain rfl : ro = false := hcr
        rw [roAt_of h5]; cases ro' <;> first | rfl | cases h6
      · rw [roAt_of h5]; rfl
  have hHeap : HeapOK (E1.ren (en.ti.objs0 x) ρ J) (en.ti.objs0 x) w := by
    refine ren_heap HI.heap hs1 hsrc hbig hpk hnd (fun b hb => ?_) (fun q r κ b n hr hro hex h1 hJ => ?_) (fun q r κ b n hr hro h1 => ?_)
    · rcases hb with hb | ⟨_, r, κ, n, h1, _⟩
      · exact HI.heap.I_lt b hb
      · exact HI.heap.own_lt b ⟨r, κ, n, h1⟩
    · obtain ⟨c, hcc, hd⟩ := hex
      have hcr : c.ro = false := by rw [roAt_of hcc] at hro; exact hro
      rcases hJ with hJ | ⟨_, r', κ', n', h2, h3⟩
      · exact HI.heap.apart r κ b n h1 (hro1 q r c hr hcc hd hcr) hJ
      · obtain ⟨rfl, _⟩ := HI.heap.inj _ _ _ _ _ _ _ h1 h2
        exact h3 ⟨q, c, hr, hcc, hcr⟩
    · cases hbr' : br with
      | true =>
        refine .inr ⟨hbr', r, κ, n, h1, ?_⟩
        rintro ⟨q', c', h2, h3, h4⟩
        have := bound_inj hnd hr h2
        subst this
        rw [roAt_of h3, h4] at hro; cases hro
      | false =>
        left
        refine HI.heap.roI r κ b n h1 ?_
        unfold roAt at hro
        split at hro
        · rename_i c hcc
          have hq : q < en.ti.hs.len := by
            rcases Nat.lt_or_ge q en.ti.hs.len with h1 | h1
            · exact h1
            · rw [hbig q h1] at hcc; cases hcc
          obtain ⟨c', h1, h2⟩ := hsrc q hq
          rw [hcc] at h1; obtain rfl : c = c' := by simpa using h1
          subst hbr'
          rcases h2 with rfl | ⟨h3, _⟩ | ⟨r', h3, h4⟩
          · cases hro
          · rw [hr] at h3; cases h3
          · rw [hr] at h3; obtain rfl : r = r' := by simpa using h3
            rcases h4 with ⟨ro, ro', t, xs, h5, rfl, h6⟩ | ⟨ro, ro', v', t, xs, h5, rfl, h6, _⟩ | ⟨k, cs, cs', h5, rfl, _⟩
            · obtain rfl : ro = true := hro
              rw [roAt_of h5]; cases ro' <;> first | rfl | cases h6
            · obtain rfl : ro = true := hro
              rw [roAt_of h5]; cases ro' <;> first | rfl | cases h6
            · cases hro
        · cases hro
  have hargs := hvals _ _ _ _ _ (ren_map hs1 hsrc hpk) vs hall1
  unfold Oper.wp
  rw [hrun, Oper.upon_enter]
  refine (hspec x y hy _ w vs hHeap hargs).mono ?_
  rintro en' w' ⟨us, Ec, rfl, HC, hres⟩
  have hfree1 : ∀ j, j < en.to.hs.len → (apD h δ0).getD (base + j) none = none := fun j hj => hnone _ (hfree j (by rw [hslots]; omega))
  have X : Cx br en.ti.hs.len en.to.hs.len base (apD s.h δ0) hp ρ en.ti.hs.ver en.to.hs.ver (en.ti.objs0 x) (en.to.objs0 y) (en.to.objs (rho ρ base) (nuOf (apD s.h δ0) ρ en.to.hs.ver) y) J F E1 (apD h δ0) w Ec w' := by
    have hfl2 : en.to.fl br = true := by rw [← hbr]; exact hfl
    obtain ⟨hf1, hf2⟩ := fl_and hfl2
    have hwr := (write_up (nm := rho ρ base) (nu := nuOf (apD s.h δ0) ρ en.to.hs.ver) (ver := en.to.hs.ver) en.to.ts hf1 en.to.hs.ty y).1
    have hks := fun q => okKinds_spec en.ti.hs en.to.hs hkinds 0 id en.ti.hs.ver (en.ti.ts.write id en.ti.hs.ver en.ti.hs.ty x).2 (en.to.ts.write (rho ρ base) (nuOf (apD s.h δ0) ρ en.to.hs.ver) en.to.hs.ty y).2 (rho ρ base) (nuOf (apD s.h δ0) ρ en.to.hs.ver) 0 (fun k => by rw [Nat.zero_add]) q
    refine ⟨hs1, HI, hnd, hst, hbig, fun q hq => (hks q).1 hq, fun q h1 h2 => (hks q).2 h1 h2, fun q => ?_, write_len en.to.hs 0 _, okKinds_len _ _ hkinds, fun q hq => getD_ge (by omega), hfree1, fun q hq h1 => ?_, fun q hq h1 => ?_, fun b hb => .inl hb, fun hb b hJ => ?_, HC⟩
    · have := writeH_up (nm := rho ρ base) (nu := nuOf (apD s.h δ0) ρ en.to.hs.ver) (ver := en.to.hs.ver) en.to.hs hf2 0 (en.to.ts.write id en.to.hs.ver en.to.hs.ty y).2 q
      rw [Nat.zero_add] at this
      show Two br _ _ _ q _ ((en.to.hs.write (rho ρ base) (nuOf (apD s.h δ0) ρ en.to.hs.ver) 0 (en.to.ts.write (rho ρ base) (nuOf (apD s.h δ0) ρ en.to.hs.ver) en.to.hs.ty y).2).getD q none)
      rw [hwr]; exact this
    · have := keptB_spec (ρ := ρ) en.to.hs 0 hkb _ q hq h1
      rw [Nat.zero_add] at this; exact this
    · rcases Nat.lt_or_ge q en.ti.hs.len with h2 | h2
      · exact (okKinds_kept en.ti.hs en.to.hs hkinds 0 id en.ti.hs.ver (en.ti.ts.write id en.ti.hs.ver en.ti.hs.ty x).2 _ _ _ 0 (fun k => by rw [Nat.zero_add]) q h2 h1).1
      · obtain ⟨c, h3, _⟩ := (hks q).2 h2 hq
        have h1' : ((en.to.hs.write (rho ρ base) (nuOf (apD s.h δ0) ρ en.to.hs.ver) 0 (en.to.ts.write (rho ρ base) (nuOf (apD s.h δ0) ρ en.to.hs.ver) en.to.hs.ty y).2).getD q none) = none := h1
        rw [h3] at h1'; cases h1'
    · rcases hJ with hJ | ⟨h1, _⟩
      · exact hJ
      · rw [hb] at h1; cases h1
  obtain ⟨g1, g2⟩ := X.inv
  have hfl2 : en.to.fl br = true := by rw [← hbr]; exact hfl
  have hval := (write_up (nm := rho ρ base) (nu := nuOf (apD s.h δ0) ρ en.to.hs.ver) (ver := en.to.hs.ver) en.to.ts (fl_and hfl2).1 en.to.hs.ty y).2 _ _ _ _ _ X.up us hres
  have hap : apD (apD h δ0) (deltaOf ρ base 0 (en.to.objs (rho ρ base) (nuOf (apD s.h δ0) ρ en.to.hs.ver) y)) = apD h (δ0 ++ deltaOf ρ base 0 (en.to.objs (rho ρ base) (nuOf (apD s.h δ0) ρ en.to.hs.ver) y)) := apD_append _ _ _
  rw [hap] at g1 g2 hval
  exact hk _ _ w' g1 (hK.trans g2) (resAV_rep hval)
end
end Go.Ab
