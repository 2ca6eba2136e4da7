import Derived.Test.YthjochcbdhiclaaGreatAbOps
import Derived.Laws.Concat
set_option linter.unnecessarySimpa false
set_option linter.unusedVariables false
set_option linter.unusedSimpArgs false
namespace Go.Ab
open Go.RowKit
theorem isInt_spec {v : AV} {n : Int} (h : isInt v = some n) : v = .n n := by
  unfold isInt at h
  split at h
  · obtain rfl := by simpa using h
    rfl
  · cases h
theorem rep_int {E : Env} {h : Heap} {w : World} {k : IntKind} {n : Int} {v : Value} (hv : RepAV E h w (.pv (.int k) n) v) : v = .int k n := by
  simpa [RepAV, RepC] using hv
theorem rep_bool {E : Env} {h : Heap} {w : World} {b : Bool} {v : Value} (hv : RepAV E h w (.pv .bool b) v) : v = .bool b := by
  simpa [RepAV, RepC] using hv
theorem rep_str {E : Env} {h : Heap} {w : World} {s : ByteArray} {v : Value} (hv : RepAV E h w (.pv .str s) v) : v = .string s := by
  simpa [RepAV, RepC] using hv
theorem mk_int {E : Env} {h : Heap} {w : World} (k : IntKind) (n : Int) : RepAV E h w (.pv (.int k) n) (.int k n) := by simp [RepAV, RepC]
theorem mk_bool {E : Env} {h : Heap} {w : World} (b : Bool) : RepAV E h w (.b b) (.bool b) := by simp [RepAV, RepC]
theorem mk_str {E : Env} {h : Heap} {w : World} (s : ByteArray) : RepAV E h w (.pv .str s) (.string s) := by simp [RepAV, RepC]
section
variable {P : Program} {C : Cfg} (HC : TabOK P C)
theorem eqGuard_ok {op : BinOp} {t : TypeId} {x y : Operand} {a b : Value} {w : World} (h1 : ∀ u, a ≠ .agg u) (h2 : a ≠ .nilIface ∨ b ≠ .nilIface) : (eqGuard op t x y a b).run P w = .ok () w := by
  unfold eqGuard
  cases op <;> first
    | rfl
    | (cases a <;> cases b <;> simp_all)
theorem bin_sem {op : BinOp} {t : TypeId} {x y : AV} {v : AV} (hb : bin op x y = some v) {E : Env} {h : Heap} {w : World} {p q : Value} (hp : RepAV E h w x p) (hq : RepAV E h w y q) {xo yo : Operand} :
    ∃ val, (do eqGuard op t xo yo p q; binOp op t p q : Sem Value).run P w = .ok val w ∧ RepAV E h w v val := by
  unfold bin at hb
  split at hb
  iterate 9
    · rename_i k a l b
      split at hb
      · rename_i e; subst e
        obtain rfl := by simpa using hb
        have := rep_int hp; subst this
        have := rep_int hq; subst this
        rw [Sem.run_bind, eqGuard_ok (by simp) (by simp)]
        simp only [Result.andThen_ok]
        first
          | exact ⟨_, by simp [binOp, Op.intArith], mk_int _ _⟩
          | exact ⟨_, by simp [binOp, Op.intCmp], mk_bool _⟩
      · cases hb
  iterate 3
    · rename_i k a l b
      split at hb
      · rename_i e; subst e
        obtain rfl := by simpa using hb
        have := rep_int hp; subst this
        have := rep_int hq; subst this
        rw [Sem.run_bind, eqGuard_ok (by simp) (by simp)]
        simp only [Result.andThen_ok]
        first
          | exact ⟨.int k (iand k a b), by simp only [binOp, Op.intBits, ne_eq, not_true_eq_false, if_false]; rfl, mk_int _ _⟩
          | exact ⟨.int k (ior k a b), by simp only [binOp, Op.intBits, ne_eq, not_true_eq_false, if_false]; rfl, mk_int _ _⟩
          | exact ⟨.int k (ixor k a b), by simp only [binOp, Op.intBits, ne_eq, not_true_eq_false, if_false]; rfl, mk_int _ _⟩
      · cases hb
  iterate 2
    · rename_i a b
      obtain rfl := by simpa using hb
      have := rep_str hp; subst this
      have := rep_str hq; subst this
      rw [Sem.run_bind, eqGuard_ok (by simp) (by simp)]
      simp only [Result.andThen_ok]
      exact ⟨_, by simp [binOp, Op.stringOp], mk_bool _⟩
  · cases hb
theorem binK_sem {R : Type} {op : BinOp} {t : TypeId} {x y : AV} {K : AV → Option R} {r : R} (hb : binK op x y K = some r) : ∃ v, K v = some r ∧ ∀ {E : Env} {h : Heap} {w : World} {p q : Value}, RepAV E h w x p → RepAV E h w y q → ∀ {xo yo : Operand},
    ∃ val, (do eqGuard op t xo yo p q; binOp op t p q : Sem Value).run P w = .ok val w ∧ RepAV E h w v val := by
  unfold binK at hb
  split at hb
  · rename_i a b
    obtain ⟨z, hz, hK⟩ := bind_ok hb
    unfold sAdd at hz
    split at hz
    · rename_i hf
      obtain rfl := by simpa using hz
      refine ⟨_, hK, fun hp hq => ?_⟩
      have := rep_str hp; subst this
      have := rep_str hq; subst this
      intro xo yo
      rw [Sem.run_bind, eqGuard_ok (by simp) (by simp)]
      simp only [Result.andThen_ok]
      refine ⟨.string (a ++ b), ?_, mk_str _⟩
      simp only [binOp]
      exact run_string_add_sum _ a b hf
    · cases hz
  · rename_i k a l b
    split at hb
    case isFalse => cases hb
    rename_i e; subst e
    obtain ⟨z, hz, hK⟩ := bind_ok hb
    unfold quo? at hz
    split at hz
    · cases hz
    rename_i hz0
    obtain rfl := by simpa using hz
    refine ⟨_, hK, fun hp hq => ?_⟩
    have := rep_int hp; subst this
    have := rep_int hq; subst this
    intro xo yo
    rw [Sem.run_bind, eqGuard_ok (by simp) (by simp)]
    exact ⟨_, by simp [binOp, Op.intDiv, hz0], mk_int _ _⟩
  · rename_i k a l b
    split at hb
    case isFalse => cases hb
    rename_i e; subst e
    obtain ⟨z, hz, hK⟩ := bind_ok hb
    unfold rem? at hz
    split at hz
    · cases hz
    rename_i hz0
    obtain rfl := by simpa using hz
    refine ⟨_, hK, fun hp hq => ?_⟩
    have := rep_int hp; subst this
    have := rep_int hq; subst this
    intro xo yo
    rw [Sem.run_bind, eqGuard_ok (by simp) (by simp)]
    exact ⟨_, by simp [binOp, Op.intDiv, hz0], mk_int _ _⟩
  · rename_i k a l b
    obtain ⟨z, hz, hK⟩ := bind_ok hb
    unfold shl? at hz
    split at hz
    · cases hz
    rename_i hz0
    obtain rfl := by simpa using hz
    refine ⟨_, hK, fun hp hq => ?_⟩
    have := rep_int hp; subst this
    have := rep_int hq; subst this
    intro xo yo
    rw [Sem.run_bind, eqGuard_ok (by simp) (by simp)]
    exact ⟨_, by simp [binOp, Op.shift, hz0], mk_int _ _⟩
  · rename_i k a l b
    obtain ⟨z, hz, hK⟩ := bind_ok hb
    unfold shr? at hz
    split at hz
    · cases hz
    rename_i hz0
    obtain rfl := by simpa using hz
    refine ⟨_, hK, fun hp hq => ?_⟩
    have := rep_int hp; subst this
    have := rep_int hq; subst this
    intro xo yo
    rw [Sem.run_bind, eqGuard_ok (by simp) (by simp)]
    exact ⟨_, by simp [binOp, Op.shift, hz0], mk_int _ _⟩
  · split at hb
    · rename_i v hv
      exact ⟨v, hb, fun hp hq => bin_sem hv hp hq⟩
    · cases hb
theorem eqCells_spec {E : Env} {h : Heap} {w : World} : {xs ys : List AV} → {r : Bool} → eqCells xs ys = some r → {us vs : List Value} → RepL E h w xs us → RepL E h w ys vs →
    us.length = vs.length ∧ (∀ (i : Nat) (h1 : i < us.length) (h2 : i < vs.length), ∃ k a b, us[i] = .int k a ∧ vs[i] = .int k b) ∧ (r = true ↔ us = vs)
  | [], [], r, hr, us, vs, h1, h2 => by
    simp only [RepL] at h1 h2; subst h1; subst h2
    obtain rfl : true = r := by simpa [eqCells] using hr
    exact ⟨rfl, fun i h1 => by simp at h1, by simp⟩
  | x :: xs, y :: ys, r, hr, us, vs, h1, h2 => by
    unfold eqCells at hr
    split at hr
    · rename_i e1 e2; cases e1
    · rename_i k a xs' l b ys' e1 e2
      obtain ⟨rfl, rfl⟩ := List.cons.inj e1
      obtain ⟨rfl, rfl⟩ := List.cons.inj e2
      split at hr
      · rename_i e; subst e
        simp only [Option.map_eq_some_iff] at hr
        obtain ⟨r', hr', rfl⟩ := hr
        simp only [RepL] at h1 h2
        obtain ⟨u, us, rfl, h3, h4⟩ := h1
        obtain ⟨v, vs, rfl, h5, h6⟩ := h2
        obtain ⟨hl, hi, hq⟩ := eqCells_spec hr' h4 h6
        have := rep_int h3; subst this
        have := rep_int h5; subst this
        refine ⟨by simp [hl], fun i h7 h8 => ?_, ?_⟩
        · cases i with
          | zero => exact ⟨k, a, b, rfl, rfl⟩
          | succ i => exact hi i (by simpa using h7) (by simpa using h8)
        · simp only [Bool.and_eq_true, hq, List.cons.injEq, Value.int.injEq, true_and, beq_iff_eq]
      · cases hr
    · cases hr
  | [], _ :: _, r, hr, _, _, _, _ => by simp [eqCells] at hr
  | _ :: _, [], r, hr, _, _, _, _ => by simp [eqCells] at hr
include HC in
theorem info_int {f : Nat × TypeId} (hi : ((C.ti.find? fun x => x.1 == f.2).map fun x => x.2.isInt).getD false = true) : ∃ k i, TIOK P f.2 i ∧ i.und = .int k ∧ i.size = 1 := by
  cases e : C.ti.find? fun x => x.1 == f.2 with
  | none => simp [e] at hi
  | some x =>
    simp only [e, Option.map_some, Option.getD_some] at hi
    unfold TI.isInt at hi
    split at hi
    · rename_i k hk
      exact ⟨k, x.2, HC.ti f.2 x.2 (by simp [Cfg.info, e]), hk, by simpa using hi⟩
    · cases hi
theorem und_int {t : TypeId} {i : TI} {k : IntKind} (h : TIOK P t i) (hk : i.und = .int k) : P.underlying t = some (.int k) := by
  obtain ⟨inf, d, _, h2, _, h3, _⟩ := h
  rw [hk] at h3; simp only [UndOK] at h3; rw [h2, h3]
include HC in
theorem run_eqFields {d : Nat} {us vs : List Value} : (fs : List Field) → (n : Nat) → ((fs.map fun f => (f.offset, f.type)).all fun f => ((C.ti.find? fun x => x.1 == f.2).map fun x => x.2.isInt).getD false) = true →
    (fs.all fun f => f.name != "_") = true → (fs.map fun f => f.offset) = (List.range' n fs.length) → us.length = vs.length → n + fs.length = us.length →
    (∀ (i : Nat) (h1 : i < us.length) (h2 : i < vs.length), ∃ k a b, us[i] = .int k a ∧ vs[i] = .int k b) → (w : World) →
    ∃ r, (Op.eqFields (d + 1) us.toArray vs.toArray fs).run P w = .ok r w ∧ (r = true ↔ us.drop n = vs.drop n)
  | [], n, _, _, _, hl, hn, _, w => by
    simp only [List.length_nil, Nat.add_zero] at hn
    exact ⟨true, by simp [Op.eqFields], by rw [hn, List.drop_length, List.drop_of_length_le (Nat.le_of_eq hl.symm)]; simp⟩
  | f :: fs, n, hint, hname, hoff, hl, hn, hcells, w => by
    simp only [List.map_cons, List.all_cons, Bool.and_eq_true] at hint hname
    simp only [List.map_cons, List.length_cons, List.range'_succ, List.cons.injEq] at hoff
    simp only [List.length_cons] at hn
    obtain ⟨k', i, hti, hk, hsz⟩ := info_int (P := P) HC (f := (f.offset, f.type)) hint.1
    have hlt : n < us.length := by omega
    have hlt' : n < vs.length := by omega
    obtain ⟨k, a, b, e1, e2⟩ := hcells n hlt hlt'
    obtain ⟨r, hr, hiff⟩ := run_eqFields fs (n + 1) hint.2 hname.2 hoff.2 hl (by omega) hcells w
    have hagg : i.agg = false := by unfold TI.agg; rw [hk]
    have hpart : ∀ l : List Value, (hlt : n < l.length) → (part f.type l.toArray f.offset).run P w = .ok l[n] w := fun l hlt => by
      simp [part, tiok_agg hti, hagg, hoff.1, hlt]
    have hname' : f.name ≠ "_" := by simpa using hname.1
    simp only [Op.eqFields, ne_eq, hname', not_false_eq_true, if_true, Sem.run_bind, hpart us hlt, hpart vs hlt', Result.andThen_ok, e1, e2]
    rw [run_equalIn_int w d f.type k k' a b (und_int hti hk)]
    simp only [Result.andThen_ok]
    rw [List.drop_eq_getElem_cons hlt, List.drop_eq_getElem_cons hlt', e1, e2]
    by_cases hab : a = b
    · subst hab; exact ⟨r, by simpa using hr, by simp [hiff]⟩
    · exact ⟨false, by simp [hab], by simp [hab]⟩
end
end Go.Ab
