import Derived.Test.YtfaonncpagjmkaaAbApp2
import Derived.Test.YtfaonncpagjmkaaAbFrz
set_option linter.unnecessarySimpa false
set_option linter.unusedVariables false
set_option linter.unusedSimpArgs false
namespace Go.Ab
open Go.RowKit

section
variable {P : Program} {C : Cfg} (HC : CfgOK P C)

include HC in
theorem append_sem {R : Type} {s : St} {o : Oper} {args : Array Operand} {ats : Array TypeId} {K : AV → St → Option R} {r : R} (ho : o.op = .call { callee := .builtin .append, args := args, argTypes := ats }) (h : vopE C s o K = some r) : ∃ v s', K v s' = some r ∧ ESem P s o v s' := by
  unfold vopE at h; simp only [ho] at h
  split at h
  case h_2 => cases h
  rename_i x y t u hargs hts
  split at h
  case isFalse => cases h
  rename_i htu
  subst htu
  split at h
  case h_2 => cases h
  rename_i size e code zero lim hti
  obtain ⟨_, d, _, hund, _, hu, _⟩ := HC.ti t _ hti
  simp only [UndOK] at hu; subst hu
  split at h
  case h_2 => cases h
  rename_i ie hie
  have hte := HC.ti e ie hie
  have ha : args = #[x, y] := by rw [← Array.toArray_toList (xs := args), hargs]
  have ht' : ats = #[t, t] := by rw [← Array.toArray_toList (xs := ats), hts]
  have hexec : ∀ (a : Act) (w : World) (v : Value) (w' : World), (Builtin.append_ #[t, t] o.type #[a.eval x, a.eval y]).run P w = .ok v w' → (execOp a.eval o).run P w = .ok (.value v) w' := by
    intro a w v w' hr
    simp only [execOp, ho, resolve, ha, ht', List.map_toArray, List.map_cons, List.map_nil, Sem.run_bind, Sem.run_pure, Result.andThen_ok, invoke, builtin]
    rw [hr]; rfl
  unfold appE at h
  split at h
  · -- nothing
    rename_i ey
    split at h
    · rename_i ex
      refine ⟨_, _, h, fun I0 w0 E w a next Q hI ht hk => ?_⟩
      have h1 := ht.eval x; rw [ex] at h1; simp only [RepAV] at h1
      have h2 := ht.eval y; rw [ey] at h2; simp only [RepAV] at h2
      unfold Oper.wp
      rw [hexec a w _ w (by rw [h1, h2]; exact run_app0 hund hte (Nat.le_refl _))]
      exact hk _ E w hI ht (by simp only [RepAV])
    · rename_i q ex
      refine ⟨_, _, h, fun I0 w0 E w a next Q hI ht hk => ?_⟩
      have h1 := ht.eval x; rw [ex] at h1
      have h2 := ht.eval y; rw [ey] at h2; simp only [RepAV] at h2
      have h1' := h1
      simp only [RepAV, OwnRep, Option.getD_none] at h1'
      obtain ⟨c, _, _, h3⟩ := h1'
      unfold Oper.wp
      rcases h3 with ⟨h0, e1⟩ | ⟨b, o', sz, n, a', _, e1, hn, _⟩
      · rw [hexec a w _ w (by rw [e1, h2]; exact run_app0 hund hte (Nat.le_refl _))]
        rw [← e1]; exact hk _ E w hI ht h1
      · rw [hexec a w _ w (by rw [e1, h2]; exact run_app0 hund hte hn)]
        rw [← e1]; exact hk _ E w hI ht h1
    · cases h
  · rename_i hny
    split at h
    · cases h
    · rename_i src hsrc
      split at h
      case isFalse => cases h
      rename_i hsz
      obtain ⟨hss, hsok⟩ := hsz
      split at h
      · -- to nil
        rename_i ex
        split at h
        case isFalse => cases h
        rename_i hlim
        refine ⟨_, _, h, fun I0 w0 E w a next Q hI ht hk => ?_⟩
        have h1 := ht.eval x; rw [ex] at h1; simp only [RepAV] at h1
        have h2 := ht.eval y
        obtain ⟨A, m', e2, hm', hrows⟩ := src_rows hsrc hI.heap h2
        obtain ⟨inf, dd, hinf, _, hsz, _, ⟨zv, hz1, hz2, hz3⟩, hlim1, hlim2⟩ := id hte
        unfold Oper.wp
        by_cases hm0 : src.len = 0
        · rw [hexec a w _ w (by rw [h1, e2, hm0]; exact run_app0 hund hte (Nat.le_refl _))]
          obtain ⟨q1, q2⟩ := inv_none hI src hm0
          exact hk _ E w q1 (ht.grow q2) (by simp only [RepAV, OwnRep]; exact ⟨src, by rw [getD_snoc]; simp, by simp, .inl ⟨hm0, trivial⟩⟩)
        · obtain ⟨sb, so, rfl, hR⟩ := hrows hm0
          have hbytes : src.len * inf.bytes ≤ 140737488355328 := by
            have := Nat.mul_le_mul_right inf.bytes hlim
            omega
          have hrun := run_append_nil (P := P) w t o.type e inf zv hund hinf hz1 ⟨sb, so, none⟩ src.len m' (memRow w sb so (src.len * src.sz)) (by rw [memRow_length, hsz, hss]) (fun j v hj => by
            have hlt := (List.getElem?_eq_some_iff.1 hj).1
            rw [memRow_length] at hlt
            obtain ⟨z, h3, h4⟩ := hR.cell hlt
            rw [h4] at hj; obtain rfl : z = v := by simpa using hj
            rw [addr_add]; exact h3) (by omega) (by omega) (by omega)
          have hgc : src.len ≤ grownCap w src.len 0 e := by unfold grownCap Question.cut; exact Nat.le_add_right _ _
          have hID : Inv I0 w0 E s.h w.drew := hI.draw
          obtain ⟨E', q1, q2, q3⟩ := row_new hID src ((memRow w sb so (src.len * src.sz)).toArray ++ Builtin.zeroCells zv.cells (grownCap w src.len 0 e - src.len)) e (grownCap w src.len 0 e) hgc (by
            simp only [Array.size_append, List.size_toArray, memRow_length, size_zero, hz3, hss]
            rw [← Nat.add_mul]; exact Nat.mul_le_mul_right _ (by omega)) (fun i hi => by
            obtain ⟨cs, vs, h3, h4, h5, h6⟩ := hR.seg hi
            refine ⟨cs, vs, h3, h4, ext_repL (Ext.draw E w) cs h5, fun j hj => ?_⟩
            have hle : i * src.sz + src.sz ≤ src.len * src.sz := by rw [← Nat.succ_mul]; exact Nat.mul_le_mul_right _ hi
            rw [Array.getElem?_append_left (by simp [memRow_length]; omega)]
            simpa using h6 j hj)
          rw [hexec a w _ _ (by rw [h1, e2]; exact hrun)]
          exact hk _ E' _ q1 ((ht.ext (Ext.draw E w)).grow q2) (by simp only [RepAV]; exact q3)
      · -- to a row of the call's own
        rename_i q ex
        split at h
        · rename_i c hc
          split at h
          case isFalse => cases h
          rename_i hcs
          obtain ⟨d, hj, h⟩ := bind_ok h
          split at h
          case isFalse => cases h
          rename_i hlim
          refine ⟨_, _, h, fun I0 w0 E w a next Q hI ht hk => ?_⟩
          have h1 := ht.eval x; rw [ex] at h1; simp only [RepAV] at h1
          have h2 := ht.eval y
          obtain ⟨A, m', e2, hm', hrows⟩ := src_rows hsrc hI.heap h2
          obtain ⟨v', E', w', hrun, q1, q2, q3⟩ := app_own hI hund hte o.type hc hcs hss hsok hj hlim h1 e2 hm' hrows
          unfold Oper.wp
          rw [hexec a w _ _ hrun]
          exact hk _ E' _ q1 (ht.junk q2) (by simpa only [RepAV] using q3)
        · cases h
      · cases h

include HC in
/-- **Every operation does what is told of it.** -/
theorem vopE_sem {R : Type} {s : St} {o : Oper} {K : AV → St → Option R} {r : R} (h : vopE C s o K = some r) : ∃ v s', K v s' = some r ∧ ESem P s o v s' := by
  have other : vopQ C s o (fun v => K v s) = some r → ∃ v s', K v s' = some r ∧ ESem P s o v s' := fun hq =>
    let ⟨v, h1, h2⟩ := vopQ_sem HC hq
    ⟨v, s, h1, ESem.of_q h2⟩
  cases ho : o.op with
  | box t x => exact box_sem ho h
  | alloc t => exact alloc_sem HC ho h
  | buildSlice t n ps => exact buildSlice_sem HC ho h
  | makeSlice t l c => exact makeSlice_sem HC ho h
  | store t x y => exact store_sem HC ho h
  | call c =>
    obtain ⟨cal, args, ats⟩ := c
    cases cal with
    | builtin b =>
      cases b with
      | append => exact append_sem HC ho h
      | _ => unfold vopE at h; simp only [ho] at h; exact other h
    | _ => unfold vopE at h; simp only [ho] at h; exact other h
  | _ => unfold vopE at h; simp only [ho] at h; exact other h

/-! ### Regions -/
def boolOf : Value → Option Bool
  | .bool b => some b
  | _ => none
theorem wanted_of {o : Oper} {ops : Array Oper} {j : Nat} {want : Bool} (hg : o.guard = some (j, want)) {d : Tmp} (hd : (ops[j]?).bind (·.dst) = some d) {a : Act} {u : Value} (hu : a.tmps.getD d undef = u) :
    Region.wanted o (yielded ops a.tmps) = (boolOf u == some want) := by
  unfold Region.wanted
  rw [hg]
  simp only
  congr 1
  unfold yielded
  rw [hd]
  simp only [Option.bind_some]
  cases e : a.tmps[d]? with
  | none => simp [e, undef] at hu; subst hu; rfl
  | some x => simp [e] at hu; subst hu; cases x <;> rfl

theorem set_same {T : List AV} {d : Nat} {v : AV} (h : T.getD d .junk = v) (hv : v ≠ .junk) : T.set d v = T := by
  rw [List.getD_eq_getElem?_getD] at h
  cases e : T[d]? with
  | none => rw [e] at h; exact absurd h.symm hv
  | some x =>
    rw [e] at h
    obtain rfl : x = v := h
    apply List.ext_getElem?
    intro i
    by_cases hi : d = i
    · subst hi; rw [e, List.getElem?_set_self (List.getElem?_eq_some_iff.1 e).1]
    · rw [List.getElem?_set_ne hi]

include HC in
/-- A region in the order of its text. -/
theorem vops_sem {R : Type} {all : Array Oper} {r : R} {I0 : Nat → Prop} {w0 : World} {Q : Exit → Act → World → Prop} : (l : List Oper) → {s : St} → {K : St → Option R} → vops C all false l s K = some r →
    {E : Env} → {w : World} → {a : Act} → Inv I0 w0 E s.h w → RepT E s.h w s.t a.tmps →
    (∀ s' E' a' w', K s' = some r → Inv I0 w0 E' s'.h w' → RepT E' s'.h w' s'.t a'.tmps → a'.defers = a.defers → Q .normal a' w') → wpList P all Q l a w
  | [], s, K, h, E, w, a, hI, ht, hQ => hQ s E a w (by simpa only [vops] using h) hI ht rfl
  | o :: l, s, K, h, E, w, a, hI, ht, hQ => by
    have hput : ∀ v, (a.put o.dst v).defers = a.defers := fun v => by cases o.dst <;> rfl
    have go : (vopE C (frz (frzOf C s o) s) o fun v s' => vops C all false l ⟨put s'.t o.dst v, s'.h⟩ K) = some r → Region.wanted o (yielded all a.tmps) = true → wpList P all Q (o :: l) a w := by
      intro h hw
      obtain ⟨v, s', hK, hs0⟩ := vopE_sem HC h
      have hs := ESem.frz hs0
      unfold wpList
      rw [if_pos hw]
      refine .inl (hs I0 w0 E w a _ Q hI ht fun val E' w' hI' ht' hv' => ?_)
      refine vops_sem l hK hI' (ht'.put o.dst hv') fun s'' E'' a'' w'' h1 h2 h3 h4 => hQ s'' E'' a'' w'' h1 h2 h3 (by rw [h4, hput])
    have skip : vops C all false l ⟨put s.t o.dst .undef, s.h⟩ K = some r → Region.wanted o (yielded all a.tmps) = false → wpList P all Q (o :: l) a w := by
      intro h hw
      unfold wpList
      rw [if_neg (by simp [hw])]
      exact vops_sem l h hI (ht.put o.dst (by simp only [RepAV]; exact ⟨[], rfl, RepL.nil⟩)) fun s'' E'' a'' w'' h1 h2 h3 h4 => hQ s'' E'' a'' w'' h1 h2 h3 (by rw [h4, hput])
    unfold vops at h
    simp only [Bool.false_eq_true, if_false] at h
    split at h
    · rename_i hg
      exact go h (by simp [Region.wanted, hg])
    · rename_i j want hg
      split at h
      · cases h
      · rename_i d hd
        have hval : RepAV E s.h w (s.t.getD d .junk) (a.tmps.getD d undef) := ht.eval (.tmp d)
        split at h
        · rename_i t ht'
          have hsame : s.t.set d (.pv .bool t) = s.t := set_same ht' (by simp)
          rw [ht'] at hval
          have hw := wanted_of hg hd (rep_bool hval)
          simp only [boolOf] at hw
          split at h
          · rw [hsame] at h
            split at h
            · rename_i e; subst e; exact go h (by rw [hw]; rfl)
            · rename_i e; exact skip h (by rw [hw]; cases want <;> simp_all)
          · rw [hsame] at h
            split at h
            · rename_i e; subst e; exact go h (by rw [hw]; rfl)
            · rename_i e; exact skip h (by rw [hw]; cases want <;> simp_all)
        · rename_i ht'
          rw [ht'] at hval
          simp only [RepAV] at hval
          obtain ⟨vs, hu, hnil⟩ := hval
          have hw := wanted_of hg hd hu
          exact skip h (by rw [hw]; rfl)
        · cases h

include HC in
/-- A region of operations that change no object: what each yields. -/
theorem vopsQ_trace {R : Type} {all : Array Oper} {r : R} {hp : List (Option Cont)} : (l : List Oper) → {T : List AV} → {K : St → Option R} → vops C all true l ⟨T, hp⟩ K = some r →
    ∃ vals : List AV, vals.length = l.length ∧ ∃ T', K ⟨T', hp⟩ = some r ∧ T' = (l.zip vals).foldl (fun T p => put T p.1.dst p.2) T ∧
      ∀ (i : Nat) (o : Oper) (v : AV), l[i]? = some o → vals[i]? = some v → OStep P hp all (((l.zip vals).take i).foldl (fun T p => put T p.1.dst p.2) T) o v
  | [], T, K, h => ⟨[], rfl, T, by simpa only [vops] using h, rfl, fun i o v hi => by simp at hi⟩
  | o :: l, T, K, h => by
    have next : ∀ (v : AV), OStep P hp all T o v → vops C all true l ⟨put T o.dst v, hp⟩ K = some r → ∃ vals : List AV, vals.length = (o :: l).length ∧ ∃ T', K ⟨T', hp⟩ = some r ∧ T' = ((o :: l).zip vals).foldl (fun T p => put T p.1.dst p.2) T ∧
      ∀ (i : Nat) (o' : Oper) (v : AV), (o :: l)[i]? = some o' → vals[i]? = some v → OStep P hp all ((((o :: l).zip vals).take i).foldl (fun T p => put T p.1.dst p.2) T) o' v := by
      intro v hv hrest
      obtain ⟨vals, h1, T', h2, h3, h4⟩ := vopsQ_trace l hrest
      refine ⟨v :: vals, by simp [h1], T', h2, by simpa using h3, fun i o' v' hi hvi => ?_⟩
      cases i with
      | zero =>
        simp at hi hvi; subst hi; subst hvi
        simpa using hv
      | succ i => simpa using h4 i o' v' (by simpa using hi) (by simpa using hvi)
    have go : (vopQ C ⟨T, hp⟩ o fun v => vops C all true l ⟨put T o.dst v, hp⟩ K) = some r → ∃ v, vops C all true l ⟨put T o.dst v, hp⟩ K = some r ∧ QSem P T hp o v := fun h => vopQ_sem HC h
    unfold vops at h
    simp only [if_true] at h
    split at h
    · rename_i hg
      obtain ⟨v, h1, h2⟩ := go h
      exact next v (by unfold OStep; rw [hg]; exact h2) h1
    · rename_i j want hg
      split at h
      · cases h
      · rename_i d hd
        split at h
        · rename_i t ht'
          have hsame : T.set d (.pv .bool t) = T := set_same ht' (by simp)
          split at h
          · rw [hsame] at h
            split at h
            · rename_i e; subst e
              obtain ⟨v, h1, h2⟩ := go h
              exact next v (by unfold OStep; rw [hg]; exact ⟨d, hd, .inl ⟨true, ht', .inl ⟨rfl, h2⟩⟩⟩) h1
            · rename_i e
              exact next .undef (by unfold OStep; rw [hg]; exact ⟨d, hd, .inl ⟨true, ht', .inr ⟨fun hh => e hh.symm, rfl⟩⟩⟩) h
          · rw [hsame] at h
            split at h
            · rename_i e; subst e
              obtain ⟨v, h1, h2⟩ := go h
              exact next v (by unfold OStep; rw [hg]; exact ⟨d, hd, .inl ⟨false, ht', .inl ⟨rfl, h2⟩⟩⟩) h1
            · rename_i e
              exact next .undef (by unfold OStep; rw [hg]; exact ⟨d, hd, .inl ⟨false, ht', .inr ⟨fun hh => e hh.symm, rfl⟩⟩⟩) h
        · rename_i ht'
          exact next .undef (by unfold OStep; rw [hg]; exact ⟨d, hd, .inr ⟨ht', rfl⟩⟩) h
        · cases h

theorem fold_lexT {ops : Array Oper} {T0 vals : List AV} (hl : vals.length = ops.size) : ∀ i, i ≤ ops.size → ((ops.toList.zip vals).take i).foldl (fun T p => put T p.1.dst p.2) T0 = lexT ops T0 vals i
  | 0, _ => rfl
  | i + 1, h => by
    have ih := fold_lexT (T0 := T0) hl i (by omega)
    have h1 : i < ops.size := by omega
    have h2 : i < vals.length := by omega
    have h3 : i < (ops.toList.zip vals).length := by simp; omega
    rw [List.take_succ_eq_append_getElem h3, List.foldl_append, ih]
    simp [lexT, h1, h2]

theorem getD_fresh (n i : Nat) : (Array.replicate n false).getD i false = false := by
  rw [Array.getD_eq_getD_getElem?, Array.getElem?_replicate]; split <;> rfl

include HC in
/-- A region that draws its order. -/
theorem drawn_sem {R : Type} {id : Nat} {ops : Array Oper} (hreg : regOK ops = true) {r : R} {I0 : Nat → Prop} {w0 : World} {Q : Exit → Act → World → Prop} {s : St} {K : St → Option R} (h : vops C ops true ops.toList s K = some r) {E : Env} {w : World} {a : Act} (hI : Inv I0 w0 E s.h w) (ht : RepT E s.h w s.t a.tmps)
    (hQ : ∀ s' E' a' w', K s' = some r → Inv I0 w0 E' s'.h w' → RepT E' s'.h w' s'.t a'.tmps → a'.defers = a.defers → Q .normal a' w') : (Code.region id ops true).wp P Q a w := by
  obtain ⟨T, hp⟩ := s
  obtain ⟨vals, h1, T', h2, h3, h4⟩ := vopsQ_trace (P := P) HC ops.toList h
  have h1 : vals.length = ops.size := by simpa using h1
  have hfin : T' = lexT ops T vals ops.size := by
    rw [h3, ← fold_lexT h1 ops.size (Nat.le_refl _), List.take_of_length_le (by simp; omega)]
  refine wp_region_any HC.wide (any_order hreg h1 (fun i o v ho hv => ?_) (d0 := a.defers) (fun E a' w' hI' ht' hd => hQ ⟨T', hp⟩ E a' w' h2 hI' (by rw [hfin]; exact ht') hd) ops.size (Array.replicate ops.size false) E a _ ⟨hI.draw, ht.1, ?_, ?_, ?_, by simp, rfl⟩ ?_)
  · have hi : i < ops.size := (Array.getElem?_eq_some_iff.1 ho).1
    have := h4 i o v (by simpa using ho) hv
    rwa [fold_lexT h1 i (by omega)] at this
  · intro i o d v hl; rw [getD_fresh] at hl; cases hl
  · intro t c hc _
    obtain ⟨val, q1, q2⟩ := ht.2 t c hc
    exact ⟨val, q1, ext_rep (Ext.draw E w) c q2⟩
  · intro i o e hl; rw [getD_fresh] at hl; cases hl
  · exact Nat.le_trans (List.length_filter_le _ _) (by simp)
end
end Go.Ab
