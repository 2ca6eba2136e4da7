import Derived.Test.YthjochcbdhiclaaGreatAbQuiet
import Derived.Laws.Cover1
set_option linter.unnecessarySimpa false
set_option linter.unusedVariables false
set_option linter.unusedSimpArgs false
namespace Go.Ab
open Go.RowKit
section
variable {P : Program} {C : Cfg} (HC : TabOK P C)
theorem run_v {s : Sem Value} {w : World} {v : Value} (h : s.run P w = .ok v w) : (do pure (Next.value (← s)) : Sem Next).run P w = .ok (.value v) w := by
  rw [Sem.run_bind, h]; rfl
theorem equal_d (t : TypeId) (x y : Value) : Op.equal t x y = Op.equalIn (9999 + 1) t x y := rfl
theorem eq_bool {t : TypeId} (h : P.underlying t = some .bool) (d : Nat) (a b : Bool) (w : World) : (Op.equalIn (d + 1) t (.bool a) (.bool b)).run P w = .ok (a == b) w := by simp [Op.equalIn, run_underlying h]
theorem eq_nili {t : TypeId} {ms : Array (String × TypeId)} (h : P.underlying t = some (.interface ms)) (d : Nat) (w : World) : (Op.equalIn (d + 1) t .nilIface .nilIface).run P w = .ok true w := by simp [Op.equalIn, run_underlying h]
theorem eq_iface {t : TypeId} {ms : Array (String × TypeId)} (h : P.underlying t = some (.interface ms)) (d : Nat) (u : TypeId) (v : Value) (w : World) : (Op.equalIn (d + 1) t (.iface u v) .nilIface).run P w = .ok false w := by simp [Op.equalIn, run_underlying h]
theorem eq_nilp {t e : TypeId} (h : P.underlying t = some (.pointer e)) (d : Nat) (w : World) : (Op.equalIn (d + 1) t (.pointer none) (.pointer none)).run P w = .ok true w := by simp [Op.equalIn, run_underlying h]
theorem eq_ptr {t e : TypeId} (h : P.underlying t = some (.pointer e)) (d : Nat) (a : Addr) (w : World) : (Op.equalIn (d + 1) t (.pointer (some a)) (.pointer none)).run P w = .ok false w := by simp [Op.equalIn, run_underlying h]
theorem ptr_some {E : Env} {h : Heap} {r : Nat} {s : Sub} {i off : Nat} {v : Value} (hp : PtrAV E h r s i off v) : ∃ a, v = .pointer (some a) := by
  unfold PtrAV at hp
  split at hp
  · cases hp
  · exact hp
  · obtain ⟨b, _, e⟩ := hp; exact ⟨_, e⟩
theorem own_slice {E : Env} {w : World} {r : Nat} {s : Sub} {c : Cont} {rg : Option (Nat × Nat)} {v : Value} (hp : OwnRep E w r s c rg v) : ∃ A n, v = .slice A (rg.getD (0, c.len)).2 n ∧ (rg.getD (0, c.len)).2 ≤ n ∧ ((rg.getD (0, c.len)).2 ≠ 0 → A ≠ none) := by
  obtain ⟨hle, ⟨h0, rfl⟩ | ⟨b, n, a, _, rfl, hn, _⟩⟩ := hp
  · have : (rg.getD (0, c.len)).2 = 0 := by omega
    exact ⟨none, 0, by rw [this], by omega, fun hne => absurd this hne⟩
  · exact ⟨_, _, rfl, hn, fun _ => by simp⟩
theorem eqT_sem {i : TI} {t : TypeId} (ht : TIOK P t i) {x y : AV} {r : Bool} (hr : eqT i x y = some r) {E : Env} {h : Heap} {w : World} {p q : Value} (hp : RepAV E h w x p) (hq : RepAV E h w y q) :
    (Op.equal t p q).run P w = .ok r w ∧ (∀ u, p ≠ .agg u) ∧ (p = .nilIface → q = .nilIface → i.und = .iface) ∧ binOp .eql t p q = (do pure (.bool (← Op.equal t p q))) ∧ binOp .neq t p q = (do pure (.bool (!(← Op.equal t p q)))) := by
  obtain ⟨inf, d, _, h2, _, h3, _⟩ := ht
  simp only [equal_d]
  unfold eqT at hr
  split at hr
  · rename_i a b hu
    rw [hu] at h3; simp only [UndOK] at h3; subst h3
    obtain rfl := by simpa using hr
    have := rep_bool hp; subst this
    have := rep_bool hq; subst this
    exact ⟨eq_bool h2 _ _ _ w, by simp, by simp, rfl, rfl⟩
  · rename_i a hu
    rw [hu] at h3; simp only [UndOK] at h3; obtain ⟨ms, rfl⟩ := h3
    obtain rfl := by simpa using hr
    simp only [RepAV] at hq; subst hq
    simp only [RepAV, RepC] at hp
    obtain ⟨v, e, hv⟩ := hp
    obtain rfl : p = v := by simpa using e
    cases a with
    | true => simp at hv; subst hv; exact ⟨eq_nili h2 _ w, by simp, fun _ _ => hu, rfl, rfl⟩
    | false => simp at hv; obtain ⟨t', u, rfl⟩ := hv; exact ⟨eq_iface h2 _ _ _ w, by simp, by simp, rfl, rfl⟩
  · rename_i e' t' a hu
    rw [hu] at h3; simp only [UndOK] at h3; subst h3
    obtain rfl := by simpa using hr
    simp only [RepAV] at hq; subst hq
    cases a with
    | none =>
      simp only [RepAV, RepC] at hp
      obtain rfl : p = _ := by simpa using hp
      exact ⟨eq_nilp h2 _ w, by simp, by simp, rfl, rfl⟩
    | some z =>
      simp only [RepAV, RepC] at hp
      obtain ⟨b, o, cs, e, _⟩ := hp
      obtain rfl : p = _ := by simpa using e
      exact ⟨eq_ptr h2 _ _ w, by simp, by simp, rfl, rfl⟩
  · rename_i e' t' a off hu
    rw [hu] at h3; simp only [UndOK] at h3; subst h3
    obtain rfl : false = r := by simpa using hr
    simp only [RepAV] at hp hq; subst hq
    obtain ⟨b, o, cs, rfl, _⟩ := hp
    exact ⟨eq_ptr h2 _ _ w, by simp, by simp, rfl, rfl⟩
  · rename_i e' r' s' i' off hu
    rw [hu] at h3; simp only [UndOK] at h3; subst h3
    obtain rfl : false = r := by simpa using hr
    simp only [RepAV] at hp hq; subst hq
    obtain ⟨a, rfl⟩ := ptr_some hp
    exact ⟨eq_ptr h2 _ _ w, by simp, by simp, rfl, rfl⟩
  · rename_i e' r' k' v' off' o' hu
    rw [hu] at h3; simp only [UndOK] at h3; subst h3
    obtain rfl : o'.isNone = r := by simpa using hr
    cases o' with
    | none =>
      simp only [RepAV] at hp hq; subst hq; subst hp
      exact ⟨eq_nilp h2 _ w, by simp, by simp, rfl, rfl⟩
    | some p' =>
      simp only [RepAV] at hp hq; subst hq
      obtain ⟨a, rfl⟩ := ptr_some hp
      exact ⟨eq_ptr h2 _ _ w, by simp, by simp, rfl, rfl⟩
  · rename_i e' hu
    rw [hu] at h3; simp only [UndOK] at h3; subst h3
    obtain rfl : true = r := by simpa using hr
    simp only [RepAV] at hp hq; subst hq; subst hp
    exact ⟨eq_nilp h2 _ w, by simp, by simp, rfl, rfl⟩
  · cases hr
theorem eq_slice {t e : TypeId} (h : P.underlying t = some (.slice e)) (d : Nat) (A : Option Addr) (n c : Nat) (w : World) : (Op.equalIn (d + 1) t (.slice A n c) (.slice none 0 0)).run P w = .ok A.isNone w := by
  cases A <;> simp [Op.equalIn, run_underlying h]
theorem nilEq {t e : TypeId} (hund : P.underlying t = some (.slice e)) {A : Option Addr} {n c : Nat} {w : World} {xo yo : Operand} {p q : Value} (hp : p = .slice A n c) (hq : q = .slice none 0 0) :
    (do eqGuard .eql t xo yo p q; binOp .eql t p q : Sem Value).run P w = .ok (.bool A.isNone) w := by
  subst hp; subst hq
  rw [Sem.run_bind, eqGuard_ok (by simp) (by simp)]
  simp only [Result.andThen_ok, binOp, Sem.run_bind, equal_d, eq_slice hund, Sem.run_pure]
include HC in
theorem binOp_sem {R : Type} {s : St} {o : Oper} {op : BinOp} {t : TypeId} {x y : Operand} {t' : TypeId} {K : AV → Option R} {r : R} (ho : o.op = .binOp op t x y t') (h : vopQ C s o K = some r) : ∃ v, K v = some r ∧ ∀ hp, SubH s.h hp → QSem P s.t hp o v := by
  have hx : x ∈ o.op.operands := by rw [ho]; simp [Op.operands]
  have hy : y ∈ o.op.operands := by rw [ho]; simp [Op.operands]
  have ofv : ∀ (v : AV), (∀ hp, SubH s.h hp → ∀ (E : Env) (w : World) (p q : Value), RepAV E hp w (ev s.t x) p → RepAV E hp w (ev s.t y) q → ∃ val, (do eqGuard op t x y p q; binOp op t p q : Sem Value).run P w = .ok val w ∧ RepAV E hp w v val) → ∀ hp, SubH s.h hp → QSem P s.t hp o v := by
    intro v hv hp hs
    refine QSem.of_run fun E w ρ H hop => ?_
    obtain ⟨val, h1, h2⟩ := hv hp hs E w _ _ (hop x hx) (hop y hy)
    exact ⟨val, by simp only [execOp, ho]; exact run_v h1, h2⟩
  unfold vopQ at h
  simp only [ho] at h
  split at h
  · -- structs
    rename_i xs ys ex ey
    split at h
    · rename_i size fs code zero lim hti
      have ht := HC.ti t _ hti
      obtain ⟨inf, d, hinf, hund, _, hu, _⟩ := ht
      simp only [UndOK] at hu
      obtain ⟨fields, rfl, hfs, hname, hstood, hguard, _⟩ := hu
      split at h
      · rename_i hchk
        simp only [Bool.and_eq_true, beq_iff_eq] at hchk
        obtain ⟨hint, hoff⟩ := hchk
        split at h
        · rename_i b hb
          have main : ∀ (hp : Heap) (E : Env) (w : World) (p q : Value), RepAV E hp w (ev s.t x) p → RepAV E hp w (ev s.t y) q → ∃ us vs : List Value, p = .agg us.toArray ∧ q = .agg vs.toArray ∧ (Op.equal t p q).run P w = .ok b w := by
            intro hp E w p q h1 h2
            rw [ex] at h1; rw [ey] at h2
            simp only [RepAV] at h1 h2
            obtain ⟨us, e1, h3⟩ := h1; obtain ⟨vs, e2, h4⟩ := h2
            obtain ⟨hl, hcells, hiff⟩ := eqCells_spec hb h3 h4
            refine ⟨us, vs, e1, e2, ?_⟩
            rw [equal_d, e1, e2]
            have hfo : P.fieldsOf t = fields := by simp [Program.fieldsOf, hund]
            rw [run_equalIn_struct w 9999 t us.toArray vs.toArray (by rw [hfo]; exact hund) hstood, hfo]
            have hlen : fields.toList.length = us.length := by
              have := congrArg List.length hoff
              rw [← hfs] at this; simp only [List.length_map, List.length_range] at this; rw [this, h3.length]
            obtain ⟨b', hr, hiff'⟩ := run_eqFields HC (d := 9998) (us := us) (vs := vs) fields.toList 0 (by rw [hfs]; exact hint) hname
              (by rw [← hfs, List.map_map] at hoff; rw [show (List.map (fun f => f.offset) fields.toList) = List.map ((fun x : Nat × TypeId => x.1) ∘ fun f : Field => (f.offset, f.type)) fields.toList from rfl, hoff, ← h3.length.symm, hlen, List.range_eq_range']) hl (by omega) hcells w
            rw [hr]
            congr 1
            simp only [List.drop_zero] at hiff'
            rw [Bool.eq_iff_iff, hiff, hiff']
          have hg : ∀ (us vs : List Value) (xo yo : Operand) (w : World) (op : BinOp), (eqGuard op t xo yo (.agg us.toArray) (.agg vs.toArray)).run P w = .ok () w := by
            intro us vs xo yo w op
            cases op <;> first | rfl | (simp [eqGuard, hguard])
          split at h
          · refine ⟨_, h, ofv _ fun hp _ E w p q h1 h2 => ⟨.bool b, ?_, mk_bool b⟩⟩
            obtain ⟨us, vs, rfl, rfl, he⟩ := main hp E w p q h1 h2
            simp only [Sem.run_bind, hg, Result.andThen_ok, binOp, he, Sem.run_pure]
          · refine ⟨_, h, ofv _ fun hp _ E w p q h1 h2 => ⟨.bool (!b), ?_, mk_bool _⟩⟩
            obtain ⟨us, vs, rfl, rfl, he⟩ := main hp E w p q h1 h2
            simp only [Sem.run_bind, hg, Result.andThen_ok, binOp, he, Sem.run_pure]
          · cases h
        · cases h
      · cases h
    · cases h
  · -- a row against nil
    rename_i q sb rg ex ey
    split at h
    case h_2 => cases h
    split at h
    case h_2 => cases h
    rename_i size e code zero lim hti
    obtain ⟨_, d, _, hund, _, hu, _⟩ := HC.ti t _ hti
    simp only [UndOK] at hu; subst hu
    obtain ⟨c, hK, _, hc⟩ := lookK_spec h
    have key : ∀ (hp : Heap), SubH s.h hp → ∀ (E : Env) (w : World) (p q : Value), RepAV E hp w (ev s.t x) p → RepAV E hp w (ev s.t y) q → ∃ A n, (do eqGuard .eql t x y p q; binOp .eql t p q : Sem Value).run P w = .ok (.bool A.isNone) w ∧ ((rg.getD (0, c.len)).2 ≠ 0 → A ≠ none) ∧ p = .slice A (rg.getD (0, c.len)).2 n := by
      intro hp hs E w p q h1 h2
      rw [ex] at h1; rw [ey] at h2
      simp only [RepAV] at h1 h2
      obtain ⟨c', hc', hl, hz⟩ := (hc hp hs).shape
      rw [own_on hc'] at h1
      obtain ⟨A, n, e1, hn, hne⟩ := own_slice h1
      rw [hl] at e1 hne
      exact ⟨A, n, nilEq hund e1 h2, hne, e1⟩
    cases hz : ((rg.getD (0, c.len)).2 == 0) with
    | true =>
      rw [hz] at hK
      refine ⟨_, hK, ofv _ fun hp hs E w p q h1 h2 => ?_⟩
      obtain ⟨A, n, hr, _, _⟩ := key hp hs E w p q h1 h2
      exact ⟨_, hr, by simp only [RepAV]; exact ⟨_, rfl⟩⟩
    | false =>
      rw [hz] at hK
      refine ⟨_, hK, ofv _ fun hp hs E w p q h1 h2 => ?_⟩
      obtain ⟨A, n, hr, hne, _⟩ := key hp hs E w p q h1 h2
      have := hne (by simpa using hz)
      refine ⟨_, hr, ?_⟩
      have : A.isNone = false := by cases A <;> simp_all
      rw [this]; exact mk_bool _
  · -- data against nil
    rename_i u xs ex ey
    split at h
    case h_2 => cases h
    split at h
    case h_2 => cases h
    rename_i size e code zero lim hti
    obtain ⟨_, d, _, hund, _, hu, _⟩ := HC.ti t _ hti
    simp only [UndOK] at hu; subst hu
    have key : ∀ (hp : Heap) (E : Env) (w : World) (p q : Value), RepAV E hp w (ev s.t x) p → RepAV E hp w (ev s.t y) q → ∃ (A : Option Addr), (do eqGuard .eql t x y p q; binOp .eql t p q : Sem Value).run P w = .ok (.bool A.isNone) w ∧ ((xs : List (den u)).length ≠ 0 → A ≠ none) := by
      intro hp E w p q h1 h2
      rw [ex] at h1; rw [ey] at h2
      simp only [RepAV, RepC] at h1 h2
      obtain ⟨A, n, e1, hn, hne⟩ := h1
      refine ⟨A, nilEq hund (by simpa using e1) h2, fun hz => ?_⟩
      obtain ⟨b, o', rfl, _⟩ := hne hz
      simp
    cases hz : ((xs : List (den u)).length == 0) with
    | true =>
      rw [hz] at h
      refine ⟨_, h, ofv _ fun hp hs E w p q h1 h2 => ?_⟩
      obtain ⟨A, hr, _⟩ := key hp E w p q h1 h2
      exact ⟨_, hr, by simp only [RepAV]; exact ⟨_, rfl⟩⟩
    | false =>
      rw [hz] at h
      refine ⟨_, h, ofv _ fun hp hs E w p q h1 h2 => ?_⟩
      obtain ⟨A, hr, hne⟩ := key hp E w p q h1 h2
      have := hne (by simpa using hz)
      refine ⟨_, hr, ?_⟩
      have : A.isNone = false := by cases A <;> simp_all
      rw [this]; exact mk_bool _
  · -- nil against nil
    rename_i ex ey
    split at h
    case h_2 => cases h
    split at h
    case h_2 => cases h
    rename_i size e code zero lim hti
    obtain ⟨_, d, _, hund, _, hu, _⟩ := HC.ti t _ hti
    simp only [UndOK] at hu; subst hu
    refine ⟨_, h, ofv _ fun hp hs E w p q h1 h2 => ?_⟩
    rw [ex] at h1; rw [ey] at h2
    simp only [RepAV] at h1 h2
    exact ⟨_, nilEq hund h1 h2, mk_bool _⟩
  · -- strings
    rename_i a b ex ey
    obtain ⟨v, hK, hv⟩ := binK_sem (P := P) (t := t) h
    refine ⟨v, hK, ofv _ fun hp hs E w p q h1 h2 => ?_⟩
    rw [ex] at h1; rw [ey] at h2
    exact hv h1 h2
  · -- whole numbers
    rename_i k a l b ex ey
    obtain ⟨v, hK, hv⟩ := binK_sem (P := P) (t := t) h
    refine ⟨v, hK, ofv _ fun hp hs E w p q h1 h2 => ?_⟩
    rw [ex] at h1; rw [ey] at h2
    exact hv h1 h2
  · split at h
    · rename_i v hv
      exact ⟨v, h, ofv _ fun hp hs E w p q h1 h2 => bin_sem hv h1 h2⟩
    · split at h
      · rename_i i hi
        have hti := HC.ti t i hi
        split at h
        · rename_i hnil
          split at h
          · rename_i b hb
            have hg : ∀ (hp : Heap) (E : Env) (w : World) (p q : Value), RepAV E hp w (ev s.t x) p → RepAV E hp w (ev s.t y) q → ∀ op, (eqGuard op t x y p q).run P w = .ok () w := by
              intro hp E w p q h1 h2 op
              obtain ⟨_, h4, h5, _⟩ := eqT_sem hti hb h1 h2
              by_cases hnn : p = .nilIface ∧ q = .nilIface
              · obtain ⟨rfl, rfl⟩ := hnn
                have hu := h5 rfl rfl
                unfold okNil at hnil
                rw [hu] at hnil
                cases y with
                | const v => cases op <;> simp [eqGuard]
                | _ => simp at hnil
              · exact eqGuard_ok h4 (by by_cases e : p = .nilIface <;> simp_all)
            split at h
            · refine ⟨_, h, ofv _ fun hp hs E w p q h1 h2 => ⟨.bool b, ?_, mk_bool b⟩⟩
              obtain ⟨he, _, _, e1, e2⟩ := eqT_sem hti hb h1 h2
              rw [Sem.run_bind, hg hp E w _ _ h1 h2, Result.andThen_ok, e1, Sem.run_bind, he]; rfl
            · refine ⟨_, h, ofv _ fun hp hs E w p q h1 h2 => ⟨.bool (!b), ?_, mk_bool _⟩⟩
              obtain ⟨he, _, _, e1, e2⟩ := eqT_sem hti hb h1 h2
              rw [Sem.run_bind, hg hp E w _ _ h1 h2, Result.andThen_ok, e2, Sem.run_bind, he]; rfl
            · cases h
          · cases h
        · cases h
      · cases h
end
end Go.Ab
