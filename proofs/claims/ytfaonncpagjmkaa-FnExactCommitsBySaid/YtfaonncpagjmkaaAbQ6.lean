import Derived.Test.YtfaonncpagjmkaaAbQ5
set_option linter.unnecessarySimpa false
set_option linter.unusedVariables false
set_option linter.unusedSimpArgs false
namespace Go.Ab
open Go.RowKit

section
variable {P : Program} {C : Cfg} (HC : CfgOK P C)

theorem makeFunc_sem {R : Type} {s : St} {o : Oper} {f : FuncId} {first cap : Array Operand} {K : AV → Option R} {r : R} (ho : o.op = .makeFunc (.func f) first cap) (h : vopQ C s o K = some r) : ∃ v, K v = some r ∧ QSem P s.t s.h o v := by
  unfold vopQ at h; simp only [ho] at h
  split at h
  · rename_i he
    have he : first = #[] := by simpa using he
    subst he
    refine ⟨_, h, QSem.of_run fun E w ρ H hop => ?_⟩
    refine ⟨.func (.func f) #[] (cap.map ρ), by simp only [execOp, ho]; exact run_v (by simp [Instr.makeFunc]), ?_⟩
    simp only [RepAV]
    refine ⟨cap.toList.map ρ, by rw [← List.map_toArray, Array.toArray_toList], RepL.of (by simp) fun i h1 h2 => ?_⟩
    simp only [List.getElem_map]
    exact hop _ (by rw [ho]; simp [Op.operands])
  · cases h

include HC in
theorem field_sem {R : Type} {s : St} {o : Oper} {t : TypeId} {x : Operand} {f : Nat} {K : AV → Option R} {r : R} (ho : o.op = .field t x f) (h : vopQ C s o K = some r) : ∃ v, K v = some r ∧ QSem P s.t s.h o v := by
  have hx : x ∈ o.op.operands := by rw [ho]; simp [Op.operands]
  unfold vopQ at h; simp only [ho] at h
  split at h
  · rename_i size fs code zero lim cs hti ex
    obtain ⟨inf, d, hinf, hund, _, hu, _⟩ := HC.ti t _ hti
    simp only [UndOK] at hu
    obtain ⟨fields, rfl, hfs, _⟩ := hu
    split at h
    · rename_i d hd
      split at h
      · rename_i i hi
        have htj := HC.ti d.2 i hi
        obtain ⟨v, hv, hK⟩ := bind_ok h
        refine ⟨v, hK, QSem.of_run fun E w ρ H hop => ?_⟩
        have h1 := hop x hx; rw [ex] at h1
        simp only [RepAV] at h1
        obtain ⟨vs, e1, h2⟩ := h1
        rw [← hfs] at hd
        simp only [List.getElem?_map, Option.map_eq_some_iff] at hd
        obtain ⟨g, hg, rfl⟩ := hd
        have hg : fields[f]? = some g := by simpa using hg
        have hl := h2.length
        unfold ldCells at hv
        simp only [execOp, ho, e1]
        split at hv
        · rename_i ha
          split at hv
          · rename_i hle
            obtain rfl := by simpa using hv
            refine ⟨.agg ((vs.drop g.offset).take i.size).toArray, run_v (by
              simp only [Instr.field, Sem.run_bind, run_underlying hund, Result.andThen_ok, hg, asAgg, Sem.run_pure, part, tiok_agg htj, ha, if_true, Sem.run_ite, tiok_size htj]
              simp [List.extract_toArray, List.extract_eq_take_drop]), ?_⟩
            simp only [RepAV]
            exact ⟨_, rfl, (h2.drop _).take _⟩
          · cases hv
        · rename_i ha
          split at hv
          · rename_i c cs' hcs
            obtain rfl : c = v := by simpa using hv
            have hlt : cs[g.offset]? = some c := by
              have := congrArg (·[0]?) hcs
              simpa [List.getElem?_drop] using this
            obtain ⟨u, hu, h3⟩ := h2.get g.offset hlt
            refine ⟨u, run_v (by
              simp only [Instr.field, Sem.run_bind, run_underlying hund, Result.andThen_ok, hg, asAgg, Sem.run_pure, part, tiok_agg htj, ha, Bool.false_eq_true, if_false, Sem.run_ite]
              simp [hu]), h3⟩
          · cases hv
      · cases h
    · cases h
  · cases h

theorem maxs_sem {k : IntKind} : (r : List AV) → {a : Int} → {v : AV} → maxs k a r = some v → {E : Env} → {h : List (Option Cont)} → {w : World} → {vs : List Value} → RepL E h w r vs → ∃ n, v = .pv (.int k) n ∧ (vs.foldlM Builtin.max2 (.int k a)).run P w = .ok (.int k n) w
  | [], a, v, hv, E, h, w, vs, hr => by
    simp only [RepL] at hr; subst hr
    obtain rfl := by simpa [maxs] using hv
    exact ⟨a, rfl, rfl⟩
  | x :: r, a, v, hv, E, h, w, vs, hr => by
    unfold maxs at hv
    split at hv
    · rename_i e; cases e
    · rename_i l b r' e
      obtain ⟨rfl, rfl⟩ := List.cons.inj e
      split at hv
      · rename_i e'; subst e'
        simp only [RepL] at hr; obtain ⟨u, us, rfl, h1, h2⟩ := hr
        have := rep_int h1; subst this
        obtain ⟨n, e1, e2⟩ := maxs_sem r hv h2
        exact ⟨n, e1, by simp only [List.foldlM_cons, Sem.run_bind, Builtin.max2, Sem.run_pure, Result.andThen_ok]; exact e2⟩
      · cases hv
    · cases hv
theorem mins_sem {k : IntKind} : (r : List AV) → {a : Int} → {v : AV} → mins k a r = some v → {E : Env} → {h : List (Option Cont)} → {w : World} → {vs : List Value} → RepL E h w r vs → ∃ n, v = .pv (.int k) n ∧ (vs.foldlM Builtin.min2 (.int k a)).run P w = .ok (.int k n) w
  | [], a, v, hv, E, h, w, vs, hr => by
    simp only [RepL] at hr; subst hr
    obtain rfl := by simpa [mins] using hv
    exact ⟨a, rfl, rfl⟩
  | x :: r, a, v, hv, E, h, w, vs, hr => by
    unfold mins at hv
    split at hv
    · rename_i e; cases e
    · rename_i l b r' e
      obtain ⟨rfl, rfl⟩ := List.cons.inj e
      split at hv
      · rename_i e'; subst e'
        simp only [RepL] at hr; obtain ⟨u, us, rfl, h1, h2⟩ := hr
        have := rep_int h1; subst this
        obtain ⟨n, e1, e2⟩ := mins_sem r hv h2
        exact ⟨n, e1, by simp only [List.foldlM_cons, Sem.run_bind, Builtin.min2, Sem.run_pure, Result.andThen_ok]; exact e2⟩
      · cases hv
    · cases hv

/-- Data without memory looks at no block. -/
theorem flat_any {I I' : Nat → Prop} {w w' : World} : (t : Ty) → t.flat = true → (∀ (x : den t) (vs : List Value), RepC I w t x vs → RepC I' w' t x vs) ∧ (∀ (x : den t) (vs : List Value), RepA I w t x vs → RepA I' w' t x vs)
  | .int _, _ | .bool, _ | .str, _ | .err, _ | .unit, _ => ⟨fun _ _ h => by simpa only [RepC] using h, fun _ _ h => by simpa only [RepA] using h⟩
  | .prod a b, hf => by
    simp only [Ty.flat, Bool.and_eq_true] at hf
    refine ⟨fun x vs h => ?_, fun x vs h => ?_⟩
    · simp only [RepC] at h ⊢
      obtain ⟨us, ws, e, h1, h2⟩ := h
      exact ⟨us, ws, e, (flat_any a hf.1).1 _ _ h1, (flat_any b hf.2).1 _ _ h2⟩
    · simp only [RepA] at h ⊢
      obtain ⟨v, us, e, h1, h2⟩ := h
      exact ⟨v, us, e, RepV'_mono (fun cs hc => (flat_any a hf.1).1 _ _ hc) h1, (flat_any b hf.2).2 _ _ h2⟩
  | .slice _, hf | .iref _, hf | .fn _ _, hf => by simp [Ty.flat] at hf

theorem resAV_rep {E : Env} {h : List (Option Cont)} {w : World} {rs : Ty} {y : den rs} {v : Value} (hr : RepRes E.I w rs y v) : RepAV E h w (resAV rs y) v := by
  obtain ⟨vs, h1, rfl⟩ := hr
  have h2 := rep_ups (h := h) rs h1
  unfold resAV
  split
  · rename_i c e
    rw [e] at h2
    simp only [RepL] at h2; obtain ⟨u, us, rfl, h3, rfl⟩ := h2
    exact h3
  · rename_i cs hne
    have hl := h2.length
    have : ∀ u, vs ≠ [u] := by
      rintro u rfl
      cases e : ups rs y with
      | nil => rw [e] at hl; simp at hl
      | cons c cs =>
        cases cs with
        | nil => exact hne c e
        | cons d cs => rw [e] at hl; simp at hl
    simp only [RepAV]
    exact ⟨vs, rfl, h2⟩

theorem call_sem {R : Type} {s : St} {o : Oper} {c : Call} {fo : Operand} {g : FuncId} {cap : List AV} {K : AV → Option R} {r : R} (ho : o.op = .call c) (hc : c.callee = .value fo) (hcal : callee (ev s.t fo) = some (g, cap)) :
    (es : List Ent) → (∀ e ∈ es, EntOK P e) → callQ s.h g (c.args.toList.map (ev s.t) ++ cap) K es = some r → ∃ v, K v = some r ∧ QSem P s.t s.h o v
  | [], _, h => by simp [callQ] at h
  | e :: es, hes, h => by
    unfold callQ at h
    split at h
    · rename_i hf
      obtain ⟨⟨fn, hfn, hnum, hbody⟩, hspec⟩ := hes e (by simp)
      have hfo : fo ∈ o.op.operands := by rw [ho]; simp [Op.operands, Call.operands, hc]
      have hargs : ∀ z ∈ c.args, z ∈ o.op.operands := fun z hz => by rw [ho]; simp [Op.operands, Call.operands, hz]
      -- the machine's call
      have key : ∀ (E : Env) (w : World) (a : Act), (∀ z ∈ o.op.operands, RepAV E s.h w (ev s.t z) (a.eval z)) → ∃ vs : List Value, RepL E s.h w (c.args.toList.map (ev s.t) ++ cap) vs ∧ (execOp a.eval o).run P w = .ok (.enter g vs.toArray) w := by
        intro E w a hop
        have hcallee : ∃ us : List Value, a.eval fo = .func (.func g) #[] us.toArray ∧ RepL E s.h w cap us := by
          have h1 := hop fo hfo
          unfold callee at hcal
          split at hcal
          · rename_i f' cap' ef
            obtain ⟨rfl, rfl⟩ : f' = g ∧ cap' = cap := by simpa using hcal
            rw [ef] at h1; simpa only [RepAV] using h1
          · rename_i f' t x' ef
            obtain ⟨rfl, rfl⟩ : f' = g ∧ ups t x' = cap := by simpa using hcal
            rw [ef] at h1
            simp only [RepAV, RepC] at h1
            obtain ⟨us, e1, h2⟩ := h1
            exact ⟨us, by simpa using e1, rep_ups t h2⟩
          · cases hcal
        obtain ⟨us, e1, hus⟩ := hcallee
        refine ⟨(c.args.map a.eval).toList ++ us, RepL.append (RepL.of (by simp) fun i h1 h2 => ?_) hus, ?_⟩
        · simp only [List.getElem_map, Array.toList_map]
          exact hop _ (hargs _ (by simp))
        · subst hf
          simp only [execOp, ho, resolve, hc, e1, Deferred.ofValue, Sem.run_bind, Sem.run_pure, Result.andThen_ok, invoke, callFunc, run_program]
          rw [hfn]
          simp only [hnum, hbody, Bool.false_eq_true, if_false, Sem.run_pure]
          simp
      split at h
      · rename_i x hx
        obtain ⟨y, hy, hK⟩ := bind_ok h
        refine ⟨_, hK, ?_⟩
        have hsp := hspec x y hy
        intro I0 w0 E w a next Q hI hop hk
        obtain ⟨vs, hall, hrun⟩ := key E w a hop
        unfold Oper.wp
        rw [hrun, Oper.upon_enter]
        subst hf
        have hA : RepA E.I w e.ps x vs := (pack_spec (J := E.I) (fun b hb => hb) (.inl rfl) e.ps).2 _ _ _ hx hall
        refine (hsp E.I w _ hI.heap.I_lt hA).mono ?_
        rintro en w' ⟨v, I', rfl, hres, hsub, hnew, hlt, hb⟩
        have hx : Ext E w ⟨E.ι, I'⟩ w' := ⟨rfl, fun b hb' => ⟨hsub b hb', hb.block b (hI.heap.I_lt b hb')⟩, fun b hb' => hb.block b (hI.heap.own_lt b hb')⟩
        refine hk v ⟨E.ι, I'⟩ w' ⟨hI.heap.ext hx hlt hb.size fun b hb' hi => ?_, ?_, hI.own_new, fun b hb' => hsub b (hI.I_sub b hb'), fun b hb' => ?_⟩ hx (resAV_rep hres)
        · rcases hnew b hi with h1 | h1
          · exact hI.heap.apart b hb' h1
          · have := hI.heap.own_lt b hb'; omega
        · exact hI.below.trans (hb.mono hI.below.size)
        · rcases hnew b hb' with h1 | h1
          · exact hI.I_new b h1
          · right; have := hI.below.size; omega
      · split at h
        · rename_i x hx
          split at h
          · rename_i hflat
            obtain ⟨y, hy, hK⟩ := bind_ok h
            refine ⟨_, hK, ?_⟩
            have hsp := hspec x y hy
            intro I0 w0 E w a next Q hI hop hk
            obtain ⟨vs, hall, hrun⟩ := key E w a hop
            unfold Oper.wp
            rw [hrun, Oper.upon_enter]
            subst hf
            let J : Nat → Prop := fun b => E.I b ∨ OwnB E b
            have hA : RepA J w e.ps x vs := (pack_spec (J := J) (fun b hb => .inl hb) (.inr ⟨rfl, hI.heap, fun b hb => .inr hb⟩) e.ps).2 _ _ _ hx hall
            refine (hsp J w _ (fun b hb => hb.elim (hI.heap.I_lt b) (hI.heap.own_lt b)) hA).mono ?_
            rintro en w' ⟨v, I', rfl, hres, hsub, hnew, hlt, hb⟩
            have hx : Ext E w E w' := ⟨rfl, fun b hb' => ⟨hb', hb.block b (hI.heap.I_lt b hb')⟩, fun b hb' => hb.block b (hI.heap.own_lt b hb')⟩
            obtain ⟨vs, hres, hv⟩ := hres
            exact hk v E w' ⟨hI.heap.ext hx (fun b hb' => Nat.lt_of_lt_of_le (hI.heap.I_lt b hb') hb.size) hb.size hI.heap.apart, hI.below.trans (hb.mono hI.below.size), hI.own_new, hI.I_sub, hI.I_new⟩ hx (resAV_rep ⟨vs, (flat_any e.rs hflat).2 _ _ hres, hv⟩)
          · cases h
        · exact call_sem ho hc hcal es (fun e' he' => hes e' (by simp [he'])) h
    · exact call_sem ho hc hcal es (fun e' he' => hes e' (by simp [he'])) h

theorem lenQ_sem {s : St} {i : TI} {v : AV} {n : Int} (h : lenQ s i.und v = some n) {t : TypeId} (ht : TIOK P t i) {E : Env} {w : World} (H : HeapOK E s.h w) {u : Value} (hu : RepAV E s.h w v u) (ty : TypeId) (ts : Array TypeId) (hts : ts[0]? = some t) :
    (Builtin.len_ ts ty #[u]).run P w = .ok (.int .i64 n) w := by
  obtain ⟨inf, d, hinf, hund, _, hu', _⟩ := ht
  have key : ∀ (m : Nat) (A : Option Addr) (c : Nat) (e : TypeId), i.und = .slice e → u = .slice A m c → (Builtin.len_ ts ty #[u]).run P w = .ok (.int .i64 (m : Int)) w := by
    intro m A c e he hv
    rw [he] at hu'; simp only [UndOK] at hu'; subst hu'
    subst hv
    simp [Builtin.len_, hts, run_underlying hund, goInt]
  unfold lenQ at h
  split at h
  · rename_i b he
    obtain rfl := Option.some.inj h
    have := rep_str hu; subst this
    rw [he] at hu'; simp only [UndOK] at hu'; subst hu'
    simp [Builtin.len_, hts, run_underlying hund, goInt]
  · rename_i e t' xs he
    obtain rfl := Option.some.inj h
    simp only [RepAV, RepC] at hu
    obtain ⟨A, c, e1, _⟩ := hu
    exact key _ A c e he (by simpa using e1)
  · rename_i e he
    obtain rfl := Option.some.inj h
    simp only [RepAV] at hu
    exact key 0 none 0 e he hu
  · rename_i e r p he
    split at h
    · rename_i c hc
      obtain rfl := Option.some.inj h
      simp only [RepAV, OwnRep] at hu
      obtain ⟨c', hc', hle, h3⟩ := hu
      rw [hc] at hc'; obtain rfl : c = c' := by simpa using hc'
      simp only [Option.getD_some] at hle h3
      rcases h3 with ⟨h0, e1⟩ | ⟨b, o', sz, m, a, hι, e1, _⟩
      · have : p.2 = 0 := by omega
        rw [this]; exact key 0 none 0 e he e1
      · exact key _ _ _ e he e1
    · cases h
  · rename_i e r he
    split at h
    · rename_i c hc
      obtain rfl := Option.some.inj h
      simp only [RepAV, OwnRep] at hu
      obtain ⟨c', hc', hle, h3⟩ := hu
      rw [hc] at hc'; obtain rfl : c = c' := by simpa using hc'
      simp only [Option.getD_none] at hle h3
      rcases h3 with ⟨h0, e1⟩ | ⟨b, o', sz, m, a, hι, e1, _⟩
      · rw [h0]; exact key 0 none 0 e he e1
      · exact key _ _ _ e he e1
    · cases h
  · cases h

include HC in
theorem builtin_sem {R : Type} {s : St} {o : Oper} {c : Call} {b : Builtin} {K : AV → Option R} {r : R} (ho : o.op = .call c) (hc : c.callee = .builtin b) (h : builtinQ C c.argTypes.toList s b (c.args.toList.map (ev s.t)) K = some r) : ∃ v, K v = some r ∧ QSem P s.t s.h o v := by
  have hargs : ∀ z ∈ c.args, z ∈ o.op.operands := fun z hz => by rw [ho]; simp [Op.operands, Call.operands, hz]
  have hall : ∀ (E : Env) (w : World) (ρ : Operand → Value), (∀ z ∈ o.op.operands, RepAV E s.h w (ev s.t z) (ρ z)) → RepL E s.h w (c.args.toList.map (ev s.t)) (c.args.map ρ).toList := by
    intro E w ρ hop
    refine RepL.of (by simp) fun i h1 h2 => ?_
    simp only [List.getElem_map, Array.toList_map]
    exact hop _ (hargs _ (by simp))
  unfold builtinQ at h
  split at h
  · -- len
    rename_i x hx
    split at h
    · rename_i t ts hts
      split at h
      · rename_i i hi
        obtain ⟨n, hn, hK⟩ := bind_ok h
        refine ⟨_, hK, QSem.of_run fun E w ρ H hop => ?_⟩
        have h1 := hall E w ρ hop
        rw [hx] at h1
        simp only [RepL] at h1; obtain ⟨u, us, e, h2, rfl⟩ := h1
        have he : (c.args.map ρ) = #[u] := by
          rw [← Array.toArray_toList (xs := c.args.map ρ), e]
        have hts' : c.argTypes[0]? = some t := by rw [← Array.getElem?_toList, hts]; rfl
        refine ⟨.int .i64 n, ?_, mk_int _ n⟩
        simp only [execOp, ho, resolve, hc, Sem.run_bind, Sem.run_pure, Result.andThen_ok, invoke, builtin, he]
        rw [lenQ_sem hn (HC.ti _ i hi) H h2 o.type c.argTypes hts']; rfl
      · cases h
    · cases h
  · -- max
    rename_i k a r' hx
    obtain ⟨v, hv, hK⟩ := bind_ok h
    refine ⟨v, hK, QSem.of_run fun E w ρ H hop => ?_⟩
    have h1 := hall E w ρ hop
    rw [hx] at h1
    simp only [RepL] at h1; obtain ⟨u, us, e, h2, h3⟩ := h1
    have := rep_int h2; subst this
    obtain ⟨n, rfl, h4⟩ := maxs_sem (P := P) r' hv h3
    refine ⟨.int k n, ?_, mk_int k n⟩
    have he : (c.args.map ρ) = (Value.int k a :: us).toArray := by rw [← Array.toArray_toList (xs := c.args.map ρ), e]
    simp only [execOp, ho, resolve, hc, Sem.run_bind, Sem.run_pure, Result.andThen_ok, invoke, builtin, he, Builtin.max_, h4]
  · rename_i k a r' hx
    obtain ⟨v, hv, hK⟩ := bind_ok h
    refine ⟨v, hK, QSem.of_run fun E w ρ H hop => ?_⟩
    have h1 := hall E w ρ hop
    rw [hx] at h1
    simp only [RepL] at h1; obtain ⟨u, us, e, h2, h3⟩ := h1
    have := rep_int h2; subst this
    obtain ⟨n, rfl, h4⟩ := mins_sem (P := P) r' hv h3
    refine ⟨.int k n, ?_, mk_int k n⟩
    have he : (c.args.map ρ) = (Value.int k a :: us).toArray := by rw [← Array.toArray_toList (xs := c.args.map ρ), e]
    simp only [execOp, ho, resolve, hc, Sem.run_bind, Sem.run_pure, Result.andThen_ok, invoke, builtin, he, Builtin.min_, h4]
  · cases h
end
end Go.Ab
