import Derived.Test.YthjochcbdhiclaaGreatAbQ5
set_option linter.unnecessarySimpa false
set_option linter.unusedVariables false
set_option linter.unusedSimpArgs false
namespace Go.Ab
open Go.RowKit
section
variable {P : Program} {C : Cfg} (HC : TabOK P C)
theorem makeFunc_sem {R : Type} {s : St} {o : Oper} {f : FuncId} {first cap : Array Operand} {K : AV → Option R} {r : R} (ho : o.op = .makeFunc (.func f) first cap) (h : vopQ C s o K = some r) : ∃ v, K v = some r ∧ ∀ hp, SubH s.h hp → QSem P s.t hp o v := by
  unfold vopQ at h; simp only [ho] at h
  split at h
  · rename_i he
    have he : first = #[] := by simpa using he
    subst he
    refine ⟨_, h, QSem.of_v fun hp hs E w ρ H hop => ?_⟩
    refine ⟨.func (.func f) #[] (cap.map ρ), by simp only [execOp, ho]; exact run_v (by simp [Instr.makeFunc]), ?_⟩
    simp only [RepAV]
    refine ⟨cap.toList.map ρ, by rw [← List.map_toArray, Array.toArray_toList], RepL.of (by simp) fun i h1 h2 => ?_⟩
    simp only [List.getElem_map]
    exact hop _ (by rw [ho]; simp [Op.operands])
  · cases h
include HC in
theorem field_sem {R : Type} {s : St} {o : Oper} {t : TypeId} {x : Operand} {f : Nat} {K : AV → Option R} {r : R} (ho : o.op = .field t x f) (h : vopQ C s o K = some r) : ∃ v, K v = some r ∧ ∀ hp, SubH s.h hp → QSem P s.t hp o v := by
  have hx : x ∈ o.op.operands := by rw [ho]; simp [Op.operands]
  unfold vopQ at h; simp only [ho] at h
  split at h
  · rename_i size fs code zero lim cs hti ex
    obtain ⟨inf, d, hinf, hund, _, hu, _⟩ := HC.ti t _ hti
    simp only [UndOK] at hu
    obtain ⟨fields, rfl, hfs, _⟩ := hu
    split at h
    · rename_i d hd
      split at h
      · rename_i i hi
        have htj := HC.ti d.2 i hi
        obtain ⟨v, hv, hK⟩ := ldK_ok h
        refine ⟨v, hK, QSem.of_v fun hp hs E w ρ H hop => ?_⟩
        have h1 := hop x hx; rw [ex] at h1
        simp only [RepAV] at h1
        obtain ⟨vs, e1, h2⟩ := h1
        rw [← hfs] at hd
        simp only [List.getElem?_map, Option.map_eq_some_iff] at hd
        obtain ⟨g, hg, rfl⟩ := hd
        have hg : fields[f]? = some g := by simpa using hg
        have hl := h2.length
        unfold ldCells at hv
        simp only [execOp, ho, e1]
        split at hv
        · rename_i ha
          split at hv
          · rename_i hle
            obtain rfl := by simpa using hv
            refine ⟨.agg ((vs.drop g.offset).take i.size).toArray, run_v (by
              simp only [Instr.field, Sem.run_bind, run_underlying hund, Result.andThen_ok, hg, asAgg, Sem.run_pure, part, tiok_agg htj, ha, if_true, Sem.run_ite, tiok_size htj]
              simp [List.extract_toArray, List.extract_eq_take_drop]), ?_⟩
            simp only [RepAV]
            exact ⟨_, rfl, (h2.drop _).take _⟩
          · cases hv
        · rename_i ha
          split at hv
          · rename_i c cs' hcs
            obtain rfl : c = v := by simpa using hv
            have hlt : cs[g.offset]? = some c := by
              have := congrArg (·[0]?) hcs
              simpa [List.getElem?_drop] using this
            obtain ⟨u, hu, h3⟩ := h2.get g.offset hlt
            refine ⟨u, run_v (by
              simp only [Instr.field, Sem.run_bind, run_underlying hund, Result.andThen_ok, hg, asAgg, Sem.run_pure, part, tiok_agg htj, ha, Bool.false_eq_true, if_false, Sem.run_ite]
              simp [hu]), h3⟩
          · cases hv
      · cases h
    · cases h
  · cases h
theorem maxs_sem {k : IntKind} : (r : List AV) → {a : Int} → {v : AV} → maxs k a r = some v → {E : Env} → {h : Heap} → {w : World} → {vs : List Value} → RepL E h w r vs → ∃ n, v = .pv (.int k) n ∧ (vs.foldlM Builtin.max2 (.int k a)).run P w = .ok (.int k n) w
  | [], a, v, hv, E, h, w, vs, hr => by
    simp only [RepL] at hr; subst hr
    obtain rfl := by simpa [maxs] using hv
    exact ⟨a, rfl, rfl⟩
  | x :: r, a, v, hv, E, h, w, vs, hr => by
    unfold maxs at hv
    split at hv
    · rename_i e; cases e
    · rename_i l b r' e
      obtain ⟨rfl, rfl⟩ := List.cons.inj e
      split at hv
      · rename_i e'; subst e'
        simp only [RepL] at hr; obtain ⟨u, us, rfl, h1, h2⟩ := hr
        have := rep_int h1; subst this
        obtain ⟨n, e1, e2⟩ := maxs_sem r hv h2
        exact ⟨n, e1, by simp only [List.foldlM_cons, Sem.run_bind, Builtin.max2, Sem.run_pure, Result.andThen_ok]; exact e2⟩
      · cases hv
    · cases hv
theorem mins_sem {k : IntKind} : (r : List AV) → {a : Int} → {v : AV} → mins k a r = some v → {E : Env} → {h : Heap} → {w : World} → {vs : List Value} → RepL E h w r vs → ∃ n, v = .pv (.int k) n ∧ (vs.foldlM Builtin.min2 (.int k a)).run P w = .ok (.int k n) w
  | [], a, v, hv, E, h, w, vs, hr => by
    simp only [RepL] at hr; subst hr
    obtain rfl := by simpa [mins] using hv
    exact ⟨a, rfl, rfl⟩
  | x :: r, a, v, hv, E, h, w, vs, hr => by
    unfold mins at hv
    split at hv
    · rename_i e; cases e
    · rename_i l b r' e
      obtain ⟨rfl, rfl⟩ := List.cons.inj e
      split at hv
      · rename_i e'; subst e'
        simp only [RepL] at hr; obtain ⟨u, us, rfl, h1, h2⟩ := hr
        have := rep_int h1; subst this
        obtain ⟨n, e1, e2⟩ := mins_sem r hv h2
        exact ⟨n, e1, by simp only [List.foldlM_cons, Sem.run_bind, Builtin.min2, Sem.run_pure, Result.andThen_ok]; exact e2⟩
      · cases hv
    · cases hv
theorem lenK_sem {R : Type} {hp : Heap} {i : TI} {v : AV} {K : Int → Option R} {r : R} (h : lenK hp i.und v K = some r) {t : TypeId} (ht : TIOK P t i) : ∃ n, K n = some r ∧ ∀ h0, SubH hp h0 → ∀ {E : Env} {w : World} {u : Value}, RepAV E h0 w v u → ∀ (ty : TypeId) (ts : Array TypeId), ts[0]? = some t →
    (Builtin.len_ ts ty #[u]).run P w = .ok (.int .i64 n) w := by
  obtain ⟨inf, d, hinf, hund, _, hu', _⟩ := ht
  have key : ∀ {w : World} {u : Value} {ty : TypeId} {ts : Array TypeId} (hts : ts[0]? = some t) (m : Nat) (A : Option Addr) (c : Nat) (e : TypeId), i.und = .slice e → u = .slice A m c → (Builtin.len_ ts ty #[u]).run P w = .ok (.int .i64 (m : Int)) w := by
    intro w u ty ts hts m A c e he hv
    rw [he] at hu'; simp only [UndOK] at hu'; subst hu'
    subst hv
    simp [Builtin.len_, hts, run_underlying hund, goInt]
  unfold lenK at h
  split at h
  · rename_i b he
    refine ⟨_, h, fun h0 hs E w u hu ty ts hts => ?_⟩
    have := rep_str hu; subst this
    rw [he] at hu'; simp only [UndOK] at hu'; subst hu'
    simp [Builtin.len_, hts, run_underlying hund, goInt]
  · rename_i e t' xs he
    refine ⟨_, h, fun h0 hs E w u hu ty ts hts => ?_⟩
    simp only [RepAV, RepC] at hu
    obtain ⟨A, c, e1, _⟩ := hu
    exact key hts _ A c e he (by simpa using e1)
  · rename_i e he
    refine ⟨_, h, fun h0 hs E w u hu ty ts hts => ?_⟩
    simp only [RepAV] at hu
    exact key hts 0 none 0 e he hu
  · rename_i e q sb rg he
    obtain ⟨c0, hK, _, hc0⟩ := lookK_spec h
    have main : ∀ h0, SubH hp h0 → ∀ {E : Env} {w : World} {u : Value}, RepAV E h0 w (.own q sb rg) u → ∀ (ty : TypeId) (ts : Array TypeId), ts[0]? = some t → (Builtin.len_ ts ty #[u]).run P w = .ok (.int .i64 (((rg.getD (0, c0.len)).2 : Nat) : Int)) w := by
      intro h0 hs E w u hu ty ts hts
      obtain ⟨c, hc, hl, hz⟩ := (hc0 h0 hs).shape
      simp only [RepAV] at hu
      rw [own_on hc] at hu
      obtain ⟨A, n, e1, _⟩ := own_slice hu
      rw [hl] at e1
      exact key hts _ A n e he e1
    split at hK
    · rename_i p
      exact ⟨_, hK, fun h0 hs E w u hu ty ts hts => main h0 hs hu ty ts hts⟩
    · exact ⟨_, hK, fun h0 hs E w u hu ty ts hts => main h0 hs hu ty ts hts⟩
  · cases h
include HC in
theorem builtin_sem {R : Type} {s : St} {o : Oper} {c : Call} {b : Builtin} {K : AV → Option R} {r : R} (ho : o.op = .call c) (hc : c.callee = .builtin b) (h : builtinK C c.argTypes.toList s.h b (c.args.toList.map (ev s.t)) K = some r) : ∃ v, K v = some r ∧ ∀ hp, SubH s.h hp → QSem P s.t hp o v := by
  have hargs : ∀ z ∈ c.args, z ∈ o.op.operands := fun z hz => by rw [ho]; simp [Op.operands, Call.operands, hz]
  have hall : ∀ (hp : Heap) (E : Env) (w : World) (ρ : Operand → Value), (∀ z ∈ o.op.operands, RepAV E hp w (ev s.t z) (ρ z)) → RepL E hp w (c.args.toList.map (ev s.t)) (c.args.map ρ).toList := by
    intro hp E w ρ hop
    refine RepL.of (by simp) fun i h1 h2 => ?_
    simp only [List.getElem_map, Array.toList_map]
    exact hop _ (hargs _ (by simp))
  unfold builtinK at h
  split at h
  · -- len
    rename_i x hx
    split at h
    · rename_i t ts hts
      split at h
      · rename_i i hi
        obtain ⟨n, hK, hn⟩ := lenK_sem (P := P) h (HC.ti _ i hi)
        refine ⟨_, hK, QSem.of_v fun hp hs E w ρ H hop => ?_⟩
        have h1 := hall hp E w ρ hop
        rw [hx] at h1
        simp only [RepL] at h1; obtain ⟨u, us, e, h2, rfl⟩ := h1
        have he : (c.args.map ρ) = #[u] := by
          rw [← Array.toArray_toList (xs := c.args.map ρ), e]
        have hts' : c.argTypes[0]? = some t := by rw [← Array.getElem?_toList, hts]; rfl
        refine ⟨.int .i64 n, ?_, mk_int _ n⟩
        simp only [execOp, ho, resolve, hc, Sem.run_bind, Sem.run_pure, Result.andThen_ok, invoke, builtin, he]
        rw [hn hp hs h2 o.type c.argTypes hts']; rfl
      · cases h
    · cases h
  · -- max
    rename_i k a r' hx
    split at h
    case h_2 => cases h
    rename_i v hv
    refine ⟨v, h, QSem.of_v fun hp hs E w ρ H hop => ?_⟩
    have h1 := hall hp E w ρ hop
    rw [hx] at h1
    simp only [RepL] at h1; obtain ⟨u, us, e, h2, h3⟩ := h1
    have := rep_int h2; subst this
    obtain ⟨n, rfl, h4⟩ := maxs_sem (P := P) r' hv h3
    refine ⟨.int k n, ?_, mk_int k n⟩
    have he : (c.args.map ρ) = (Value.int k a :: us).toArray := by rw [← Array.toArray_toList (xs := c.args.map ρ), e]
    simp only [execOp, ho, resolve, hc, Sem.run_bind, Sem.run_pure, Result.andThen_ok, invoke, builtin, he, Builtin.max_, h4]
  · rename_i k a r' hx
    split at h
    case h_2 => cases h
    rename_i v hv
    refine ⟨v, h, QSem.of_v fun hp hs E w ρ H hop => ?_⟩
    have h1 := hall hp E w ρ hop
    rw [hx] at h1
    simp only [RepL] at h1; obtain ⟨u, us, e, h2, h3⟩ := h1
    have := rep_int h2; subst this
    obtain ⟨n, rfl, h4⟩ := mins_sem (P := P) r' hv h3
    refine ⟨.int k n, ?_, mk_int k n⟩
    have he : (c.args.map ρ) = (Value.int k a :: us).toArray := by rw [← Array.toArray_toList (xs := c.args.map ρ), e]
    simp only [execOp, ho, resolve, hc, Sem.run_bind, Sem.run_pure, Result.andThen_ok, invoke, builtin, he, Builtin.min_, h4]
  · cases h
include HC in
theorem vopQ_sem {R : Type} {s : St} {o : Oper} {K : AV → Option R} {r : R} (h : vopQ C s o K = some r) : ∃ v, K v = some r ∧ ∀ hp, SubH s.h hp → QSem P s.t hp o v := by
  cases ho : o.op with
  | move x =>
    unfold vopQ at h; simp only [ho] at h
    exact ⟨_, h, QSem.of_v fun hp hs E w ρ H hop => ⟨_, by simp only [execOp, ho]; rfl, hop x (by rw [ho]; simp [Op.operands])⟩⟩
  | assign x =>
    unfold vopQ at h; simp only [ho] at h
    exact ⟨_, h, QSem.of_v fun hp hs E w ρ H hop => ⟨_, by simp only [execOp, ho]; rfl, hop x (by rw [ho]; simp [Op.operands])⟩⟩
  | pick c a b =>
    unfold vopQ at h; simp only [ho] at h
    split at h
    · rename_i t ec
      have key : ∀ (hp : Heap) (E : Env) (w : World) (ρ : Operand → Value), (∀ x ∈ o.op.operands, RepAV E hp w (ev s.t x) (ρ x)) → ρ c = .bool t := by
        intro hp E w ρ hop
        have h1 := hop c (by rw [ho]; simp [Op.operands])
        rw [ec] at h1; exact rep_bool h1
      split at h
      · exact ⟨_, h, QSem.of_v fun hp hs E w ρ H hop => ⟨_, by simp only [execOp, ho, key hp E w ρ hop]; rfl, hop a (by rw [ho]; simp [Op.operands])⟩⟩
      · exact ⟨_, h, QSem.of_v fun hp hs E w ρ H hop => ⟨_, by simp only [execOp, ho, key hp E w ρ hop]; rfl, hop b (by rw [ho]; simp [Op.operands])⟩⟩
    · cases h
  | binOp op t x y t' => exact binOp_sem HC ho h
  | unOp op t x => exact unOp_sem ho h
  | fieldAddr t x f => exact fieldAddr_sem HC ho h
  | field t x f => exact field_sem HC ho h
  | load t x => exact load_sem HC ho h
  | indexAddr t x ix => exact indexAddr_sem HC ho h
  | index t x ix => exact index_sem HC ho h
  | slice t x lo hi mx =>
    cases mx with
    | none => exact slice_sem HC ho h
    | some m => unfold vopQ at h; simp only [ho] at h; cases h
  | build t ps => exact build_sem HC ho h
  | extract x i => exact extract_sem ho h
  | makeFunc fn first cap =>
    cases fn with
    | func f => exact makeFunc_sem ho h
    | _ => unfold vopQ at h; simp only [ho] at h; cases h
  | nilCheck x => exact nilCheck_sem ho h
  | convert src dst x => exact convert_sem HC ho h
  | makeInterface t x => unfold vopQ at h; simp only [ho] at h; cases h
  | panic x => unfold vopQ at h; simp only [ho] at h; cases h
  | call c =>
    unfold vopQ at h; simp only [ho] at h
    cases hc : c.callee with
    | builtin b => simp only [hc] at h; exact builtin_sem HC ho hc h
    | value f => simp only [hc] at h; cases h
    | invoke r m => simp only [hc] at h; cases h
  | _ => unfold vopQ at h; simp only [ho] at h; cases h
end
end Go.Ab
