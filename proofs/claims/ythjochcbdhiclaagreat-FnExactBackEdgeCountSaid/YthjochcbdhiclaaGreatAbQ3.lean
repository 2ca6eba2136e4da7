import Derived.Test.YthjochcbdhiclaaGreatAbQ2
set_option linter.unnecessarySimpa false
set_option linter.unusedVariables false
set_option linter.unusedSimpArgs false
namespace Go.Ab
open Go.RowKit
section
variable {P : Program} {C : Cfg} (HC : TabOK P C)
theorem QSem.of_v {T : List AV} {hp : Heap} {o : Oper} {v : AV} (hv : ∀ h, SubH hp h → ∀ (E : Env) (w : World) (ρ : Operand → Value), HeapOK E h w → (∀ x ∈ o.op.operands, RepAV E h w (ev T x) (ρ x)) → ∃ val, (execOp ρ o).run P w = .ok (.value val) w ∧ RepAV E h w v val) : ∀ h, SubH hp h → QSem P T h o v :=
  fun h hs => QSem.of_run fun E w ρ H hop => hv h hs E w ρ H hop
theorem unOp_sem {R : Type} {s : St} {o : Oper} {op : UnOp} {t : TypeId} {x : Operand} {K : AV → Option R} {r : R} (ho : o.op = .unOp op t x) (h : vopQ C s o K = some r) : ∃ v, K v = some r ∧ ∀ hp, SubH s.h hp → QSem P s.t hp o v := by
  have hx : x ∈ o.op.operands := by rw [ho]; simp [Op.operands]
  unfold vopQ at h; simp only [ho] at h
  split at h
  case h_2 => cases h
  rename_i v hv
  refine ⟨v, h, QSem.of_v fun hp hs E w ρ H hop => ?_⟩
  have h1 := hop x hx
  unfold un at hv
  split at hv
  · rename_i b e
    obtain rfl := by simpa using hv
    rw [e] at h1
    have := rep_bool h1
    exact ⟨.bool (!b), by simp only [execOp, ho]; exact run_v (by rw [this]; rfl), mk_bool _⟩
  · rename_i k n e
    obtain rfl := Option.some.inj hv
    rw [e] at h1
    have := rep_int h1
    exact ⟨_, by simp only [execOp, ho]; exact run_v (by rw [this]; rfl), mk_int _ _⟩
  · cases hv
theorem ptr_off {E : Env} {h : Heap} {r : Nat} {s : Sub} {i off d : Nat} {v : Value} (hp : PtrAV E h r s i off v) : ∃ b o, v = .pointer (some ⟨b, o, none⟩) ∧ PtrAV E h r s i (off + d) (.pointer (some ⟨b, o + d, none⟩)) ∨ (∃ a, v = .pointer (some a) ∧ stat h r s = .off) := by
  unfold PtrAV at hp ⊢
  split at hp
  · cases hp
  · rename_i e; obtain ⟨a, rfl⟩ := hp; exact ⟨0, 0, .inr ⟨a, rfl, e⟩⟩
  · rename_i c e; obtain ⟨b, hι, rfl⟩ := hp
    exact ⟨b, _, .inl ⟨rfl, b, hι, by rw [Nat.add_assoc]⟩⟩
include HC in
theorem fieldAddr_sem {R : Type} {s : St} {o : Oper} {t : TypeId} {x : Operand} {f : Nat} {K : AV → Option R} {r : R} (ho : o.op = .fieldAddr t x f) (h : vopQ C s o K = some r) : ∃ v, K v = some r ∧ ∀ hp, SubH s.h hp → QSem P s.t hp o v := by
  have hx : x ∈ o.op.operands := by rw [ho]; simp [Op.operands]
  unfold vopQ at h; simp only [ho] at h
  split at h
  · rename_i size fs code zero lim hti
    obtain ⟨inf, d, hinf, hund, _, hu, _⟩ := HC.ti t _ hti
    simp only [UndOK] at hu
    obtain ⟨fields, rfl, hfs, hname, hstood, hguard, _⟩ := hu
    split at h
    · rename_i d hd
      split at h
      · rename_i hsz
        obtain ⟨j, hj, hjs⟩ := Option.map_eq_some_iff.1 hsz
        have htj := HC.ti d.2 j hj
        have hjs : j.size ≠ 0 := by simpa using hjs
        have hfield : ∃ g : Field, fields[f]? = some g ∧ g.offset = d.1 ∧ g.type = d.2 := by
          rw [← hfs] at hd
          simp only [List.getElem?_map, Option.map_eq_some_iff] at hd
          obtain ⟨g, hg, rfl⟩ := hd
          exact ⟨g, by simpa using hg, rfl, rfl⟩
        obtain ⟨g, hg, hgo, hgt⟩ := hfield
        have hrun' : ∀ (w : World) (a : Addr), (Instr.fieldAt t (.pointer (some a)) f).run P w = .ok (.pointer (some (a.add d.1))) w := by
          intro w a
          simp only [Instr.fieldAt, Sem.run_bind, run_underlying hund, Result.andThen_ok, hg, Instr.sureAddr, Sem.run_pure, fieldPlace, hgt, tiok_size htj, hjs, Sem.run_ite, if_false, hgo]
        have hrun : ∀ (w : World) (b o' : Nat), (Instr.fieldAt t (.pointer (some ⟨b, o', none⟩)) f).run P w = .ok (.pointer (some ⟨b, o' + d.1, none⟩)) w := by
          intro w b o'; rw [hrun', addr_add]
        have hptr : ∀ (hp : Heap) (E : Env) (w : World) (p : Value) (q : Nat) (sb : Sub) (i off : Nat), PtrAV E hp q sb i off p → ∃ val, (Instr.fieldAt t p f).run P w = .ok val w ∧ PtrAV E hp q sb i (off + d.1) val := by
          intro hp E w p q sb i off h1
          obtain ⟨b, o', ⟨rfl, h2⟩ | ⟨a, rfl, h2⟩⟩ := ptr_off (d := d.1) h1
          · exact ⟨_, hrun w b o', h2⟩
          · exact ⟨_, hrun' w a, by unfold PtrAV; rw [h2]; exact ⟨_, rfl⟩⟩
        split at h
        · rename_i u y off e
          refine ⟨_, h, QSem.of_v fun hp hs E w ρ H hop => ?_⟩
          have h1 := hop x hx; rw [e] at h1
          simp only [RepAV] at h1 ⊢
          obtain ⟨b, o', cs, e1, hI, h2, h3⟩ := h1
          exact ⟨_, by simp only [execOp, ho]; exact run_v (by rw [e1]; exact hrun w b _), b, o', cs, by rw [Nat.add_assoc], hI, h2, h3⟩
        · rename_i q sb i off e
          refine ⟨_, h, QSem.of_v fun hp hs E w ρ H hop => ?_⟩
          have h1 := hop x hx; rw [e] at h1
          simp only [RepAV] at h1 ⊢
          obtain ⟨val, h2, h3⟩ := hptr hp E w _ _ _ _ _ h1
          exact ⟨val, by simp only [execOp, ho]; exact run_v h2, h3⟩
        · rename_i u y e
          obtain ⟨z, hz, hK⟩ := bind_ok h
          refine ⟨_, hK, QSem.of_v fun hp hs E w ρ H hop => ?_⟩
          have h1 := hop x hx; rw [e] at h1
          obtain rfl : y = some z := hz
          simp only [RepAV, RepC] at h1 ⊢
          obtain ⟨b, o', cs, e1, hI, h2, h3, h4⟩ := h1
          have e1 : ρ x = .pointer (some ⟨b, o', none⟩) := by simpa using e1
          exact ⟨_, by simp only [execOp, ho]; exact run_v (by rw [e1]; exact hrun w b _), b, o', cs, rfl, hI, h3, h4⟩
        · rename_i q k v off y e
          obtain ⟨z, hz, hK⟩ := bind_ok h
          refine ⟨_, hK, QSem.of_v fun hp hs E w ρ H hop => ?_⟩
          have h1 := hop x hx; rw [e] at h1
          obtain rfl : y = some z := hz
          simp only [RepAV] at h1 ⊢
          obtain ⟨val, h2, h3⟩ := hptr hp E w _ _ _ _ _ h1
          exact ⟨val, by simp only [execOp, ho]; exact run_v h2, h3⟩
        · cases h
      · cases h
    · cases h
  · cases h
theorem ldK_ok {R : Type} {i : TI} {cs : List AV} {K : AV → Option R} {r : R} (h : ldK i cs K = some r) : ∃ v, ldCells i cs = some v ∧ K v = some r := by
  unfold ldK at h
  split at h
  · rename_i v e; exact ⟨v, e, h⟩
  · cases h
theorem intsOf_spec {k : IntKind} : {cs : List AV} → {ys : List Int} → intsOf k cs = some ys → cs = ys.map fun n => AV.pv (.int k) n
  | [], ys, h => by simp [intsOf] at h; subst h; rfl
  | c :: cs, ys, h => by
    unfold intsOf at h
    split at h
    · rename_i e; cases e
    · rename_i l n cs' e
      obtain ⟨rfl, rfl⟩ := List.cons.inj e
      split at h
      · rename_i e; subst e
        simp only [Option.map_eq_some_iff] at h
        obtain ⟨zs, h1, rfl⟩ := h
        rw [List.map_cons, intsOf_spec h1]
      · cases h
    · cases h
theorem ints_rep {E : Env} {h : Heap} {w : World} {k : IntKind} : (ys : List Int) → {vs : List Value} → RepL E h w (ys.map fun n => AV.pv (.int k) n) vs → vs = ys.map fun n => Value.int k n
  | [], vs, hr => by simpa [RepL] using hr
  | y :: ys, vs, hr => by
    simp only [List.map_cons, RepL] at hr
    obtain ⟨v, us, rfl, h1, h2⟩ := hr
    rw [List.map_cons, ints_rep ys h2, rep_int h1]
theorem rep_ints (E : Env) (h : Heap) (w : World) (k : IntKind) : (ys : List Int) → RepL E h w (ys.map fun n => AV.pv (.int k) n) (ys.map fun n => Value.int k n)
  | [] => RepL.nil
  | y :: ys => RepL.cons (mk_int k y) (rep_ints E h w k ys)
theorem arrK_spec {R : Type} {k : IntKind} {xs : List Int} : (n j : Nat) → {K : List AV → Option R} → {r : R} → arrK k xs n j K = some r → ∃ ys : List Int, K (ys.map fun n => AV.pv (.int k) n) = some r ∧ ys.length = n ∧ ∀ (m : Nat) (hm : m < ys.length), xs[j + m]? = some ys[m]
  | 0, j, K, r, h => ⟨[], h, rfl, fun m hm => by simp at hm⟩
  | n + 1, j, K, r, h => by
    unfold arrK at h
    obtain ⟨x, hx, h1⟩ := bind_ok h
    obtain ⟨ys, h2, h3, h4⟩ := arrK_spec n (j + 1) h1
    refine ⟨x :: ys, h2, by simp [h3], fun m hm => ?_⟩
    cases m with
    | zero => exact hx
    | succ m =>
      have := h4 m (by simpa using hm)
      rw [show j + 1 + m = j + (m + 1) by omega] at this
      simpa using this
theorem ints_at {E : Env} {h : Heap} {w : World} (H : HeapOK E h w) {q : Nat} {ro : Bool} {k : IntKind} {xs : List Int} (hst : stat h q none = .on (.lst ro (.int k) xs)) {b : Nat} (hι : E.ι q none = some (b, 1)) {m : Nat} {y : Int} (hy : xs[m]? = some y) : w.cell? ⟨b, m, none⟩ = some (.int k y) := by
  obtain ⟨hm, rfl⟩ := List.getElem?_eq_some_iff.1 hy
  rcases H.obj q none _ hst with h0 | ⟨b', arr, ty, hι', hb, _, hels⟩
  · simp only [Cont.len] at h0; omega
  simp only [key, Cont.sz, Ty.size] at hι'
  rw [hι] at hι'; obtain rfl : b = b' := by simpa using hι'
  obtain ⟨cs, vs, h1, h2, h3, h4⟩ := hels m hm
  have hcs := (at_lst h1).2
  rw [hcs] at h3
  simp only [flat, RepL] at h3
  obtain ⟨v, us, rfl, h5, rfl⟩ := h3
  have := rep_int h5; subst this
  have h6 := h4 0 (by simp)
  simp only [Cont.sz, Ty.size, Nat.mul_one, Nat.add_zero] at h6
  simp [World.cell?, hb, h6]
theorem loadArr_sem {R : Type} {t : TypeId} {i : TI} (hti : TIOK P t i) {n : Nat} {e : TypeId} (hu : i.und = .arr n e) {h : Heap} {x : AV} {K : AV → Option R} {r : R} (hl : loadArrK h i.size x K = some r) :
    ∃ v, K v = some r ∧ ∀ hp, SubH h hp → ∀ (E : Env) (w : World) (p : Value), HeapOK E hp w → RepAV E hp w x p → ∃ val, (Instr.loadAt t p).run P w = .ok val w ∧ RepAV E hp w v val := by
  unfold loadArrK at hl
  split at hl
  case h_2 => cases hl
  rename_i q
  obtain ⟨c, h1, _, hc⟩ := lookK_spec hl
  split at h1
  case h_2 => cases h1
  rename_i ro k xs
  obtain ⟨ys, hK, hyl, hys⟩ := arrK_spec _ _ h1
  refine ⟨_, hK, fun hp hs E w p H hp1 => ?_⟩
  have hst : stat hp q none = .on (.lst ro (.int k) xs) := by
    rcases hc hp hs with h2 | ⟨_, _, _, h2, _⟩
    · exact h2
    · cases h2
  simp only [RepAV] at hp1
  obtain ⟨b, hι, rfl⟩ := (ptr_on hst).1 hp1
  have hag : i.agg = true := by unfold TI.agg; rw [hu]
  refine run_loadAt hti (rep_ints E hp w k ys) (b := b) (o := 0 * 1 + 0) (fun j hj => ?_) ?_
  · rw [List.length_map] at hj
    have := ints_at H hst hι (hys j hj)
    simp only [Nat.zero_add] at this
    simpa using this
  · unfold ldCells
    rw [if_pos hag, if_pos (by rw [List.length_map, hyl]; exact Nat.le_refl _), List.take_of_length_le (by rw [List.length_map, hyl]; exact Nat.le_refl _)]
include HC in
theorem load_sem {R : Type} {s : St} {o : Oper} {t : TypeId} {x : Operand} {K : AV → Option R} {r : R} (ho : o.op = .load t x) (h : vopQ C s o K = some r) : ∃ v, K v = some r ∧ ∀ hp, SubH s.h hp → QSem P s.t hp o v := by
  have hx : x ∈ o.op.operands := by rw [ho]; simp [Op.operands]
  unfold vopQ at h; simp only [ho] at h
  split at h
  case h_2 => cases h
  rename_i i hi
  have hti := HC.ti t i hi
  have hptr : ∀ (q : Nat) (sb : Sub) (j off : Nat) (K : AV → Option R), lookK s.h q sb (fun c => c.atK q j fun cs => ldK i (cs.drop off) K) = some r → ∃ v, K v = some r ∧ ∀ hp, SubH s.h hp → ∀ (E : Env) (w : World) (p : Value), HeapOK E hp w → PtrAV E hp q sb j off p → ∃ val, (Instr.loadAt t p).run P w = .ok val w ∧ RepAV E hp w v val := by
    intro q sb j off K h
    obtain ⟨c, h1, _, hc⟩ := lookK_spec h
    obtain ⟨cs, hat, h2⟩ := atK_spec h1
    obtain ⟨v, hv, hK⟩ := ldK_ok h2
    refine ⟨v, hK, fun hp hs E w p H h3 => ?_⟩
    have hc := (hc hp hs).at hat
    obtain ⟨b, hι, rfl⟩ := (ptr_on hc).1 h3
    obtain ⟨b', vs, k0, _, k2, k3⟩ := obj_cells H hc hat
    rw [hι] at k0; obtain rfl : b = b' := by simpa using k0
    exact run_loadAt hti (k2.drop off) (cellsAt_drop k3 off) hv
  split at h
  · rename_i hu
    obtain ⟨v, hK, hv⟩ := loadArr_sem hti hu h
    exact ⟨v, hK, QSem.of_v fun hp hs E w ρ H hop => let ⟨val, h1, h2⟩ := hv hp hs E w _ H (hop x hx); ⟨val, by simp only [execOp, ho]; exact run_v h1, h2⟩⟩
  split at h
  · rename_i u y off e
    obtain ⟨v, hv, hK⟩ := ldK_ok h
    refine ⟨v, hK, QSem.of_v fun hp hs E w ρ H hop => ?_⟩
    have h1 := hop x hx; rw [e] at h1
    simp only [RepAV] at h1
    obtain ⟨b, o', cs, e1, hI, h2, h3⟩ := h1
    obtain ⟨val, hr, hv'⟩ := run_loadAt hti ((rep_flat (h := hp) u h2).drop off) (cellsAt_drop h3 off) hv
    exact ⟨val, by simp only [execOp, ho]; exact run_v (by rw [e1]; exact hr), hv'⟩
  · rename_i u y e
    obtain ⟨z, hz, h⟩ := bind_ok h
    obtain ⟨v, hv, hK⟩ := ldK_ok h
    refine ⟨v, hK, QSem.of_v fun hp hs E w ρ H hop => ?_⟩
    have h1 := hop x hx; rw [e] at h1
    obtain rfl : y = some z := hz
    simp only [RepAV, RepC] at h1
    obtain ⟨b, o', cs, e1, hI, h2, h3, h4⟩ := h1
    have e1 : ρ x = .pointer (some ⟨b, o', none⟩) := by simpa using e1
    obtain ⟨val, hr, hv'⟩ := run_loadAt hti (rep_flat (h := hp) u h3) h4 hv
    exact ⟨val, by simp only [execOp, ho]; exact run_v (by rw [e1]; exact hr), hv'⟩
  · rename_i q sb j off e
    obtain ⟨v, hK, hv⟩ := hptr q sb j off K h
    refine ⟨v, hK, QSem.of_v fun hp hs E w ρ H hop => ?_⟩
    have h1 := hop x hx; rw [e] at h1
    simp only [RepAV] at h1
    obtain ⟨val, hr, hv'⟩ := hv hp hs E w _ H h1
    exact ⟨val, by simp only [execOp, ho]; exact run_v hr, hv'⟩
  · rename_i q k v0 off y e
    obtain ⟨z, hz, h⟩ := bind_ok h
    obtain ⟨v, hK, hv⟩ := hptr _ _ _ _ K h
    refine ⟨v, hK, QSem.of_v fun hp hs E w ρ H hop => ?_⟩
    have h1 := hop x hx; rw [e] at h1
    obtain rfl : y = some z := hz
    simp only [RepAV] at h1
    obtain ⟨val, hr, hv'⟩ := hv hp hs E w _ H h1
    exact ⟨val, by simp only [execOp, ho]; exact run_v hr, hv'⟩
  · cases h
theorem lAt_spec {α : Type} {xs : List α} {i : Int} {y : α} (h : lAt xs i = some y) : ∃ n : Nat, i = n ∧ ∃ hn : n < xs.length, xs[n] = y := by
  unfold lAt at h
  split at h
  · rename_i h0
    obtain ⟨hn, rfl⟩ := List.getElem?_eq_some_iff.1 h
    exact ⟨i.toNat, by omega, hn, rfl⟩
  · cases h
include HC in
theorem indexAddr_sem {R : Type} {s : St} {o : Oper} {t : TypeId} {x ix : Operand} {K : AV → Option R} {r : R} (ho : o.op = .indexAddr t x ix) (h : vopQ C s o K = some r) : ∃ v, K v = some r ∧ ∀ hp, SubH s.h hp → QSem P s.t hp o v := by
  have hx : x ∈ o.op.operands := by rw [ho]; simp [Op.operands]
  have hix : ix ∈ o.op.operands := by rw [ho]; simp [Op.operands]
  unfold vopQ at h; simp only [ho] at h
  split at h
  · rename_i i size e code zero lim hi hti
    obtain ⟨inf, d, hinf, hund, _, hu, _⟩ := HC.ti t _ hti
    simp only [UndOK] at hu; subst hu
    split at h
    · rename_i ie hie
      have hte := HC.ti e ie hie
      have hrun : ∀ (w : World) (a : Addr) (n c k : Nat), i = k → k < n → (Instr.indexAt t (.slice (some a) n c) (.int .i64 i)).run P w = .ok (.pointer (some (a.add (k * ie.size)))) w := by
        intro w a n c k hk hkn
        have h1 : 0 ≤ i ∧ i < (n : Int) := by omega
        have h2 : i.toNat = k := by omega
        simp only [Instr.indexAt, asIntOf, Sem.run_bind, Sem.run_pure, Result.andThen_ok, run_underlying hund, Sem.run_ite, h1, and_self, if_true, tiok_size hte, h2]
      split at h
      · rename_i u xs ex
        split at h
        · rename_i hsz
          obtain ⟨y, hy, hK⟩ := bind_ok h
          refine ⟨_, hK, QSem.of_v fun hp hs E w ρ H hop => ?_⟩
          obtain ⟨n, rfl, hn, rfl⟩ := lAt_spec hy
          have h1 := hop x hx; rw [ex] at h1
          have h2 := hop ix hix; rw [isInt_spec hi] at h2
          have h2 := rep_int h2
          simp only [RepAV, RepC] at h1 ⊢
          obtain ⟨A, c, e1, _, h3⟩ := h1
          obtain ⟨b, o', rfl, hI, h4⟩ := h3 (by omega)
          have e1 : ρ x = .slice (some ⟨b, o', none⟩) (xs : List (den u)).length c := by simpa using e1
          obtain ⟨cs, hcl, h5, h6⟩ := h4 n hn
          refine ⟨_, by simp only [execOp, ho]; exact run_v (by rw [e1, h2]; exact hrun w _ _ _ n rfl hn), b, o' + n * u.size, cs, ?_, hI, h5, h6⟩
          rw [addr_add, hsz, Nat.add_zero]
        · cases h
      · rename_i q sb rg ex
        obtain ⟨c0, h, _, hc0⟩ := lookK_spec h
        split at h
        case isFalse => cases h
        rename_i hsz
        split at h
        case isFalse => cases h
        rename_i hlt
        refine ⟨_, h, QSem.of_v fun hp hs E w ρ H hop => ?_⟩
        obtain ⟨c, hc, hl, hz⟩ := (hc0 hp hs).shape
        have h1 := hop x hx; rw [ex] at h1
        have h2 := hop ix hix; rw [isInt_spec hi] at h2
        have h2 := rep_int h2
        simp only [RepAV] at h1 ⊢
        rw [own_on hc] at h1
        obtain ⟨hle, h3⟩ := h1
        rw [← hl] at hlt ⊢
        rcases h3 with ⟨h0, _⟩ | ⟨b, m, a, hι, e1, hm, ha, arr, ty, hb, hcap⟩
        · omega
        · have ha := ha (by omega)
          subst ha
          refine ⟨_, by simp only [execOp, ho]; exact run_v (by rw [e1, h2]; exact hrun w _ _ _ i.toNat (by omega) (by omega)), (ptr_on hc).2 ⟨b, hι, ?_⟩⟩
          rw [addr_add, ← hsz, ← hz, Nat.add_mul, Nat.add_zero]
      · cases h
    · cases h
  · rename_i i size n e code zero lim hi hti
    obtain ⟨inf, d, hinf, hund, _, hu, _⟩ := HC.ti t _ hti
    simp only [UndOK] at hu; subst hu
    split at h
    · rename_i ie q hie ex
      split at h
      case isFalse => cases h
      rename_i hc
      obtain ⟨hc1, hc2, hc3⟩ := hc
      obtain ⟨c0, h1, _, hc0⟩ := lookK_spec h
      split at h1
      case isFalse => cases h1
      rename_i hsz
      refine ⟨_, h1, QSem.of_v fun hp hs E w ρ H hop => ?_⟩
      obtain ⟨c, hc, hl, hz⟩ := (hc0 hp hs).shape
      have h1 := hop x hx; rw [ex] at h1
      have h2 := hop ix hix; rw [isInt_spec hi] at h2
      have h2 := rep_int h2
      simp only [RepAV] at h1 ⊢
      obtain ⟨b, hι, e1⟩ := (ptr_on hc).1 h1
      refine ⟨.pointer (some ((⟨b, 0 * c.sz + 0, none⟩ : Addr).add (i.toNat * ie.size))), by
        simp only [execOp, ho]
        refine run_v ?_
        rw [e1, h2]
        simp only [Instr.indexAt, Instr.sureAddr, asIntOf, Sem.run_bind, Sem.run_pure, Result.andThen_ok, run_underlying hund, Sem.run_ite, hc2, hc3, and_self, if_true, tiok_size (HC.ti e ie hie)], (ptr_on hc).2 ⟨b, hι, ?_⟩⟩
      rw [addr_add, hz, hsz, hc1]; simp
    · cases h
  · cases h
theorem ba_get (b : ByteArray) (n : Nat) : b[n]? = b.data[n]? := by
  by_cases h : n < b.size
  · rw [getElem?_pos b n h, getElem?_pos b.data n h]; rfl
  · rw [getElem?_neg b n h, getElem?_neg b.data n h]
include HC in
theorem index_sem {R : Type} {s : St} {o : Oper} {t : TypeId} {x ix : Operand} {K : AV → Option R} {r : R} (ho : o.op = .index t x ix) (h : vopQ C s o K = some r) : ∃ v, K v = some r ∧ ∀ hp, SubH s.h hp → QSem P s.t hp o v := by
  have hx : x ∈ o.op.operands := by rw [ho]; simp [Op.operands]
  have hix : ix ∈ o.op.operands := by rw [ho]; simp [Op.operands]
  unfold vopQ at h; simp only [ho] at h
  split at h
  · rename_i i b hti hi ex
    obtain ⟨_, _, _, ht, _, hu, _⟩ := HC.ti t _ hti
    simp only [UndOK] at hu; subst hu
    obtain ⟨c, hc, hK⟩ := bind_ok h
    refine ⟨_, hK, QSem.of_v fun hp hs E w ρ H hop => ?_⟩
    have h1 := hop x hx; rw [ex] at h1
    have h1 := rep_str h1
    have h2 := hop ix hix; rw [isInt_spec hi] at h2
    have h2 := rep_int h2
    unfold bAt at hc
    split at hc
    · rename_i h0
      obtain ⟨q, hq, rfl⟩ := Option.map_eq_some_iff.1 hc
      refine ⟨_, by simp only [execOp, ho]; exact run_v (by rw [h1, h2]; simp only [Instr.index, asIntOf, Sem.run_bind, Sem.run_pure, Result.andThen_ok, run_underlying ht, h0, if_true]; rw [show (b : ByteArray)[i.toNat]? = some q from by rw [ba_get]; exact hq]; rfl), mk_int _ _⟩
    · cases hc
  · rename_i size n e code0 zero0 lim0 i cs hti hi ex
    obtain ⟨_, _, _, ht, _, hu, _⟩ := HC.ti t _ hti
    simp only [UndOK] at hu; subst hu
    split at h
    case h_2 => cases h
    rename_i k code zero lim hie
    have hte := HC.ti e _ hie
    split at h
    case h_2 => cases h
    rename_i ys hys
    split at h
    case isFalse => cases h
    rename_i hb
    obtain ⟨y, hy, hK⟩ := bind_ok h
    obtain ⟨m, rfl, hm, rfl⟩ := lAt_spec hy
    refine ⟨_, hK, QSem.of_v fun hp hs E w ρ H hop => ?_⟩
    have h1 := hop x hx; rw [ex] at h1
    have h2 := hop ix hix; rw [isInt_spec hi] at h2
    have h2 := rep_int h2
    simp only [RepAV] at h1
    obtain ⟨vs, e1, h3⟩ := h1
    rw [intsOf_spec hys] at h3
    have h4 := ints_rep ys h3
    subst h4
    refine ⟨.int k ys[m], by
      simp only [execOp, ho]
      refine run_v ?_
      rw [e1, h2]
      simp only [Instr.index, asIntOf, Sem.run_bind, Sem.run_pure, Result.andThen_ok, run_underlying ht, Sem.run_ite, hb.1, hb.2, and_self, if_true, tiok_size hte, part, tiok_agg hte]
      simp [TI.agg, hm], mk_int _ _⟩
  · cases h
theorem extract_sem {R : Type} {s : St} {o : Oper} {x : Operand} {i : Nat} {K : AV → Option R} {r : R} (ho : o.op = .extract x i) (h : vopQ C s o K = some r) : ∃ v, K v = some r ∧ ∀ hp, SubH s.h hp → QSem P s.t hp o v := by
  have hx : x ∈ o.op.operands := by rw [ho]; simp [Op.operands]
  unfold vopQ at h; simp only [ho] at h
  split at h
  · rename_i vs ex
    split at h
    · rename_i v hv
      refine ⟨v, h, QSem.of_v fun hp hs E w ρ H hop => ?_⟩
      have h1 := hop x hx; rw [ex] at h1
      simp only [RepAV] at h1
      obtain ⟨us, e1, h2⟩ := h1
      obtain ⟨u, hu, h3⟩ := h2.get i hv
      exact ⟨u, by simp only [execOp, ho]; exact run_v (by rw [e1]; simp [Instr.extract, hu]), h3⟩
    · cases h
  · cases h
theorem nilCheck_sem {R : Type} {s : St} {o : Oper} {x : Operand} {K : AV → Option R} {r : R} (ho : o.op = .nilCheck x) (h : vopQ C s o K = some r) : ∃ v, K v = some r ∧ ∀ hp, SubH s.h hp → QSem P s.t hp o v := by
  have hx : x ∈ o.op.operands := by rw [ho]; simp [Op.operands]
  have hptr : ∀ (hp : Heap) (E : Env) (w : World) (ρ : Operand → Value) (q : Nat) (sb : Sub) (i off : Nat), PtrAV E hp q sb i off (ρ x) → ∃ val, (execOp ρ o).run P w = .ok (.value val) w ∧ PtrAV E hp q sb i off val := by
    intro hp E w ρ q sb i off h1
    obtain ⟨a, e⟩ := ptr_some h1
    exact ⟨ρ x, by simp only [execOp, ho, e]; rfl, h1⟩
  unfold vopQ at h; simp only [ho] at h
  split at h
  · rename_i ex
    refine ⟨_, h, QSem.of_v fun hp hs E w ρ H hop => ?_⟩
    have h1 := hop x hx; rw [ex] at h1
    simp only [RepAV] at h1 ⊢
    exact hptr hp E w ρ _ _ _ _ h1
  · rename_i ex
    refine ⟨_, h, QSem.of_v fun hp hs E w ρ H hop => ?_⟩
    have h1 := hop x hx; rw [ex] at h1
    simp only [RepAV] at h1 ⊢
    obtain ⟨b, o', cs, e1, hI, h2, h3⟩ := h1
    exact ⟨_, by simp only [execOp, ho, e1]; rfl, b, o', cs, rfl, hI, h2, h3⟩
  · rename_i ex
    refine ⟨_, h, QSem.of_v fun hp hs E w ρ H hop => ?_⟩
    have h1 := hop x hx; rw [ex] at h1
    simp only [RepAV] at h1 ⊢
    obtain ⟨us, e1, h2⟩ := h1
    exact ⟨_, by simp only [execOp, ho, e1]; rfl, us, rfl, h2⟩
  · rename_i u y ex
    obtain ⟨z, hz, hK⟩ := bind_ok h
    refine ⟨_, hK, QSem.of_v fun hp hs E w ρ H hop => ?_⟩
    have h1 := hop x hx; rw [ex] at h1
    obtain rfl : y = some z := hz
    simp only [RepAV, RepC] at h1 ⊢
    obtain ⟨b, o', cs, e1, hI, h2, h3, h4⟩ := h1
    have e1 : ρ x = .pointer (some ⟨b, o', none⟩) := by simpa using e1
    exact ⟨_, by simp only [execOp, ho, e1]; rfl, b, o', cs, rfl, hI, h3, h4⟩
  · rename_i q k v off y ex
    obtain ⟨z, hz, hK⟩ := bind_ok h
    refine ⟨_, hK, QSem.of_v fun hp hs E w ρ H hop => ?_⟩
    have h1 := hop x hx; rw [ex] at h1
    obtain rfl : y = some z := hz
    simp only [RepAV] at h1 ⊢
    exact hptr hp E w ρ _ _ _ _ h1
  · cases h
include HC in
theorem convert_sem {R : Type} {s : St} {o : Oper} {src dst : TypeId} {x : Operand} {K : AV → Option R} {r : R} (ho : o.op = .convert src dst x) (h : vopQ C s o K = some r) : ∃ v, K v = some r ∧ ∀ hp, SubH s.h hp → QSem P s.t hp o v := by
  have hx : x ∈ o.op.operands := by rw [ho]; simp [Op.operands]
  unfold vopQ at h; simp only [ho] at h
  split at h
  · rename_i k l n hs hd ex
    refine ⟨_, h, QSem.of_v fun hp hs' E w ρ H hop => ?_⟩
    have h1 := hop x hx; rw [ex] at h1
    have h1 := rep_int h1
    obtain ⟨_, _, _, hus, _, hu1, _⟩ := HC.ti src _ hs
    obtain ⟨_, _, _, hud, _, hu2, _⟩ := HC.ti dst _ hd
    simp only [UndOK] at hu1 hu2; subst hu1; subst hu2
    exact ⟨_, by simp only [execOp, ho]; exact run_v (by rw [h1]; simp only [convert, Sem.run_bind, run_underlying hus, run_underlying hud, Result.andThen_ok, Conv.intToInt, Sem.run_pure]), mk_int _ _⟩
  · rename_i b hs hd ex
    refine ⟨_, h, QSem.of_v fun hp hs' E w ρ H hop => ?_⟩
    have h1 := hop x hx; rw [ex] at h1
    have h1 := rep_str h1
    obtain ⟨_, _, _, hus, _, hu1, _⟩ := HC.ti src _ hs
    obtain ⟨_, _, _, hud, _, hu2, _⟩ := HC.ti dst _ hd
    simp only [UndOK] at hu1 hu2; subst hu1; subst hu2
    exact ⟨_, by simp only [execOp, ho]; exact run_v (by rw [h1]; simp only [convert, Sem.run_bind, run_underlying hus, run_underlying hud, Result.andThen_ok, Sem.run_pure]), mk_str _⟩
  · cases h
end
end Go.Ab
