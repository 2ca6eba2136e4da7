import Derived.Test.YtfaonncpagjmkaaAbTm
import Derived.LoopN
set_option linter.unnecessarySimpa false
set_option linter.unusedVariables false
set_option linter.unusedSimpArgs false
namespace Go.Ab

theorem kind_lt (hs : TmH) : ∀ r, hs.kind r ≠ 0 → r < hs.len := by
  induction hs with
  | nil => intro r h; exact absurd rfl h
  | gone l ih => intro r h; cases r with
    | zero => exact absurd rfl h
    | succ r => exact Nat.succ_lt_succ (ih r h)
  | lst t l ih => intro r h; cases r with
    | zero => exact Nat.succ_pos _
    | succ r => exact Nat.succ_lt_succ (ih r h)
  | one t l ih => intro r h; cases r with
    | zero => exact Nat.succ_pos _
    | succ r => exact Nat.succ_lt_succ (ih r h)
  | cells n cs l ih => intro r h; cases r with
    | zero => exact Nat.succ_pos _
    | succ r => exact Nat.succ_lt_succ (ih r h)

theorem tmpl_read0 {I0 : Nat → Prop} {w0 : World} {E : Env} {s : St} {w : World} {a : Array Value} (hI : Inv I0 w0 E s.h w) (ht : RepT E s.h w s.t a) {T : Tmpl} {x : den T.ty} (h : T.read0 s = some x) :
    Inv I0 w0 (E.cut T.hs.len) (T.write x).h w ∧ RepT (E.cut T.hs.len) (T.write x).h w (T.write x).t a := by
  unfold Tmpl.read0 at h
  obtain ⟨y, hy, hx⟩ := bind_ok h
  obtain ⟨hl, hst⟩ := tmh_read (w := w) T.hs 0 y hy
  obtain ⟨g1, g2, g3⟩ := read_rep (w := w) T.ts s.t T.hs.ty y x hx
  have hh : (T.write x).h = T.hs.write y := by show T.hs.write (T.ts.write T.hs.ty x).2 = _; rw [g1]
  have htt : (T.write x).t = (T.ts.write T.hs.ty x).1 := rfl
  rw [hh, htt]
  have key : ∀ r c', (T.hs.write y).getD r none = some c' → r < T.hs.len ∧ Stands s.h w T.hs r (T.hs.kind r) (some c') := by
    intro r c' hc
    have hr : r < T.hs.len := by have := getD_obj hc; omega
    have := hst r hr
    rw [Nat.zero_add, hc] at this
    exact ⟨hr, this⟩
  have S : Same E s.h w T.hs (E.cut T.hs.len) (T.hs.write y) := by
    refine ⟨rfl, fun r hr => by simp [Env.cut, hr], fun r v hk hlt hv => ?_, fun r hk hle => ?_⟩
    · have hr := kind_lt _ _ hk
      have := hst r hr
      rw [Nat.zero_add] at this
      rcases this with ⟨h1, _⟩ | ⟨t, _, h2, _⟩ | ⟨_, c, c', h1, h2, h3, h4, _⟩
      · exact absurd h1 hk
      · omega
      · obtain ⟨c0, k1, k2, k3⟩ := hv
        rw [h1] at k1; obtain rfl : c = c0 := by simpa using k1
        refine ⟨c', h2, by simpa using k2, ?_⟩
        simp only [Option.getD_none, h3] at k3 ⊢
        simpa only [Env.cut, if_pos hr] using k3
    · have hr := kind_lt _ _ (by rw [hk]; decide)
      have := hst r hr
      rw [Nat.zero_add] at this
      rcases this with ⟨h1, _⟩ | ⟨t, _, h2, h3⟩ | ⟨h1, _⟩
      · rw [hk] at h1; cases h1
      · exact ⟨_, h3, by simp, .inl ⟨rfl, rfl⟩⟩
      · omega
  refine ⟨⟨⟨?_, ?_, ?_, ?_, ?_, hI.heap.I_lt, ?_, ?_⟩, hI.below, ?_, hI.I_sub, hI.I_new⟩, ?_, ?_⟩
  · intro r c' hc
    obtain ⟨hr, h1⟩ := key r c' hc
    rcases h1 with ⟨_, h2⟩ | ⟨t, _, _, h2⟩ | ⟨_, c, c'', h1, h2, h3, h4, h5⟩
    · cases h2
    · left; obtain rfl : c' = .lst t [] := by simpa using h2
      rfl
    · obtain rfl : c' = c'' := by simpa using h2
      rcases hI.heap.obj r c h1 with h0 | ⟨b, o, arr, ty, k1, k2, k3, k4⟩
      · left; omega
      · right
        refine ⟨b, o, arr, ty, by simp only [Env.cut, if_pos hr]; rw [h4]; exact k1, k2, by rw [h3, h4]; exact k3, fun i hi => ?_⟩
        obtain ⟨cs, vs, m1, m2, m3, m4⟩ := k4 i (by omega)
        obtain ⟨cs', n1, n2⟩ := h5 _ _ _ S i cs m1
        exact ⟨cs', vs, n1, by rw [h4]; exact m2, n2 vs m3, by rw [h4]; exact m4⟩
  · intro r c' b o sz hc hι
    obtain ⟨hr, h1⟩ := key r c' hc
    simp only [Env.cut, if_pos hr] at hι
    rcases h1 with ⟨_, h2⟩ | ⟨t, _, hle, h2⟩ | ⟨_, c, c'', h1, h2, h3, h4, h5⟩
    · cases h2
    · rw [hI.heap.fresh r hle] at hι; cases hι
    · obtain rfl : c' = c'' := by simpa using h2
      rw [h4]; exact hI.heap.siz r c b o sz h1 hι
  · intro r r' b o sz o' sz' h1 h2
    simp only [Env.cut] at h1 h2
    split at h1
    · split at h2
      · exact hI.heap.inj r r' b o sz o' sz' h1 h2
      · cases h2
    · cases h1
  · intro r hr
    simp only [Env.cut]; rw [if_neg (by omega)]
  · intro r b o sz h1
    simp only [Env.cut] at h1
    split at h1
    · exact hI.heap.base r b o sz h1
    · cases h1
  · rintro b ⟨r, o, sz, h1⟩
    simp only [Env.cut] at h1
    split at h1
    · exact hI.heap.own_lt b ⟨r, o, sz, h1⟩
    · cases h1
  · rintro b ⟨r, o, sz, h1⟩
    simp only [Env.cut] at h1
    split at h1
    · exact hI.heap.apart b ⟨r, o, sz, h1⟩
    · cases h1
  · rintro b ⟨r, o, sz, h1⟩
    simp only [Env.cut] at h1
    split at h1
    · exact hI.own_new b ⟨r, o, sz, h1⟩
    · cases h1
  · rw [← g2]; exact ht.1
  · have hL : RepL E s.h w s.t a.toList := RepL.of (by simp [ht.1]) fun i h1 h2 => by
      obtain ⟨v, k1, k2⟩ := ht.2 i _ (List.getElem?_eq_getElem h1)
      have : a.toList[i]? = some v := by simpa using k1
      rw [List.getElem?_eq_getElem h2] at this
      obtain rfl : a.toList[i] = v := by simpa using this
      exact k2
    intro i c hi
    obtain ⟨v, k1, k2⟩ := (g3 _ _ _ S _ hL).get i hi
    exact ⟨v, by simpa using k1, k2⟩

theorem tmpl_read {I0 : Nat → Prop} {w0 : World} {E : Env} {s : St} {w : World} {a : Array Value} (hI : Inv I0 w0 E s.h w) (ht : RepT E s.h w s.t a) {T : Tmpl} {x : den T.ty} (h : T.read s = some x) :
    ∃ E', Inv I0 w0 E' (T.write x).h w ∧ RepT E' (T.write x).h w (T.write x).t a := by
  obtain ⟨E', h1, h2⟩ := frz_ok _ hI ht
  exact ⟨_, tmpl_read0 h1 h2 h⟩

theorem keep_length (live : List Nat) : (l : List AV) → (i : Nat) → (keep live l i).length = l.length
  | [], _ => rfl
  | v :: l, i => by simp [keep, keep_length live l]
theorem keep_get (live : List Nat) : (l : List AV) → (i j : Nat) → (c : AV) → (keep live l i)[j]? = some c → c = .junk ∨ l[j]? = some c
  | [], _, j, c, h => by simp [keep] at h
  | v :: l, i, 0, c, h => by
    simp only [keep, List.getElem?_cons_zero, Option.some.injEq] at h ⊢
    split at h
    · exact .inr h
    · exact .inl h.symm
  | v :: l, i, j + 1, c, h => by
    simp only [keep, List.getElem?_cons_succ] at h ⊢
    exact keep_get live l (i + 1) j c h


theorem rep_trim {E : Env} {h : List (Option Cont)} {w : World} {t : List AV} {a : Array Value} (ht : RepT E h w t a) (live : List Nat) : RepT E h w (keep live t 0) a := by
  refine ⟨by rw [keep_length]; exact ht.1, fun i c hi => ?_⟩
  rcases keep_get live t 0 i c hi with rfl | h1
  · have : i < a.size := by
      rw [← ht.1, ← keep_length live t 0]
      exact (List.getElem?_eq_some_iff.1 hi).1
    exact ⟨a[i], by simp [this], by simp only [RepAV]⟩
  · exact ht.2 i c h1

theorem iter_some {σ ρ : Type} {B : σ → Option (σ ⊕ ρ)} {s : σ} {r : ρ} (h : iter B s = some r) : ∃ n, iterN B n s = some r := by
  unfold iter at h
  split at h
  · exact ⟨_, h⟩
  · cases h

def Ex.out : Ex → Exit
  | .normal => .normal
  | .ret => .ret
  | .exit id => .exit id

/-- What the telling says of code, the machine does. -/
def Sound (P : Program) (c : Code) {R : Type} (s : St) (K : Ex → St → Option R) (r : R) : Prop :=
  ∀ (I0 : Nat → Prop) (w0 : World) (E : Env) (w : World) (a : Act) (Q : Exit → Act → World → Prop), Inv I0 w0 E s.h w → RepT E s.h w s.t a.tmps →
    (∀ e s' E' a' w', K e s' = some r → Inv I0 w0 E' s'.h w' → RepT E' s'.h w' s'.t a'.tmps → a'.defers = a.defers → Q e.out a' w') → c.wp P Q a w
def LoopOK (P : Program) (c : Code) (F : LoopFn) : Prop := ∀ (R : Type) (s : St) (K : Ex → St → Option R) (r : R), F s R K = some r → Sound P (.loop c) s K r
def loopsOf : Code → List Code
  | .seq a b => loopsOf a ++ loopsOf b
  | .cond _ a b => loopsOf a ++ loopsOf b
  | .block _ c => loopsOf c
  | .loop c => c :: loopsOf c
  | _ => []
def LoopsOK (P : Program) (C : Cfg) (c : Code) : Prop := ∀ b ∈ loopsOf c, ∀ F, (C.ann.find? fun x => x.1 == firstId b).map (·.2) = some F → LoopOK P b F

section
variable {P : Program} {C : Cfg} (HC : CfgOK P C)

include HC in
/-- **What the telling says of code, the machine does.** -/
theorem vrun_sem : (c : Code) → LoopsOK P C c → {R : Type} → {s : St} → {K : Ex → St → Option R} → {r : R} → vrun C c s K = some r → Sound P c s K r
  | .skip, HL, R, s, K, r, h => fun I0 w0 E w a Q hI ht hQ => wp_skip (hQ .normal s E a w (by simpa only [vrun] using h) hI ht rfl)
  | .label _, HL, R, s, K, r, h => fun I0 w0 E w a Q hI ht hQ => wp_label (hQ .normal s E a w (by simpa only [vrun] using h) hI ht rfl)
  | .region id ops draw, HL, R, s, K, r, h => fun I0 w0 E w a Q hI ht hQ => by
    unfold vrun at h
    cases draw with
    | true =>
      simp only [if_true] at h
      split at h
      · rename_i hreg
        exact drawn_sem HC hreg h hI ht fun s' E' a' w' h1 h2 h3 h4 => hQ .normal s' E' a' w' h1 h2 h3 h4
      · cases h
    | false =>
      simp only [Bool.false_eq_true, if_false] at h
      refine wp_region_list (vops_sem HC ops.toList h hI ht fun s' E' a' w' h1 h2 h3 h4 => hQ .normal s' E' a' w' h1 h2 h3 h4)
  | .seq x y, HL, R, s, K, r, h => fun I0 w0 E w a Q hI ht hQ => by
    unfold vrun at h
    refine wp_seq (vrun_sem x (fun b hb => HL b (List.mem_append_left _ hb)) h I0 w0 E w a _ hI ht fun e s' E' a' w' h1 h2 h3 h4 => ?_)
    cases e with
    | normal => exact vrun_sem y (fun b hb => HL b (List.mem_append_right _ hb)) h1 I0 w0 E' w' a' _ h2 h3 fun e s'' E'' a'' w'' k1 k2 k3 k4 => hQ e s'' E'' a'' w'' k1 k2 k3 (k4.trans h4)
    | ret => exact hQ .ret s' E' a' w' h1 h2 h3 h4
    | exit id => exact hQ (.exit id) s' E' a' w' h1 h2 h3 h4
  | .cond c x y, HL, R, s, K, r, h => fun I0 w0 E w a Q hI ht hQ => by
    unfold vrun at h
    have hc := ht.eval c
    split at h
    · rename_i t e
      rw [e] at hc
      have hb := rep_bool hc
      split at h
      · exact wp_cond_true hb (vrun_sem x (fun b hb => HL b (List.mem_append_left _ hb)) h I0 w0 E w a _ hI ht hQ)
      · exact wp_cond_false hb (vrun_sem y (fun b hb => HL b (List.mem_append_right _ hb)) h I0 w0 E w a _ hI ht hQ)
    · cases h
  | .block id c, HL, R, s, K, r, h => fun I0 w0 E w a Q hI ht hQ => by
    unfold vrun at h
    refine wp_block (vrun_sem c HL h I0 w0 E w a _ hI ht fun e s' E' a' w' h1 h2 h3 h4 => ?_)
    cases e with
    | normal => exact hQ .normal s' E' a' w' h1 h2 h3 h4
    | ret => exact hQ .ret s' E' a' w' h1 h2 h3 h4
    | exit j =>
      simp only [Ex.out, Exit.inBlock]
      simp only at h1
      split at h1
      · rename_i e; rw [if_pos e]; exact hQ .normal s' E' a' w' h1 h2 h3 h4
      · rename_i e; rw [if_neg e]; exact hQ (.exit j) s' E' a' w' h1 h2 h3 h4
  | .loop c, HL, R, s, K, r, h => by
    unfold vrun at h
    split at h
    · cases h
    · rename_i F hF
      exact HL c (List.mem_cons_self ..) F hF R s K r h
  | .exit id, HL, R, s, K, r, h => fun I0 w0 E w a Q hI ht hQ => wp_exit (hQ (.exit id) s E a w (by simpa only [vrun] using h) hI ht rfl)
  | .ret, HL, R, s, K, r, h => fun I0 w0 E w a Q hI ht hQ => wp_ret (hQ .ret s E a w (by simpa only [vrun] using h) hI ht rfl)
  | .rangeFunc .., HL, R, s, K, r, h => by simp [vrun] at h
  | .scope .., HL, R, s, K, r, h => by simp [vrun] at h
  | .goto .., HL, R, s, K, r, h => by simp [vrun] at h
  | .refuse .., HL, R, s, K, r, h => by simp [vrun] at h

include HC in
/-- **A loop told with places for data.** -/
theorem loop_ok {c : Code} (HL : LoopsOK P C c) (T : Tmpl) (live : List Nat) {ι ν π : Type} (mk : ι → ν → den T.ty) (sp : den T.ty → ι × ν) (hsp : ∀ x, mk (sp x).1 (sp x).2 = x)
    (D : ι → ν → (R : Type) → ((ν ⊕ π) → Option R) → Option R) (hD : ∀ i v (R : Type) (K : (ν ⊕ π) → Option R), D i v R K = (D i v _ some).bind K)
    (FK : ι → π → (R : Type) → (Ex → St → Option R) → Option R)
    (kk : ι → π → Ex × St) (hFK : ∀ i p R K, FK i p R K = K (kk i p).1 (kk i p).2)
    (hbody : ∀ i v, vrun C c (T.write (mk i v)) (loopK T live) = D i v _ fun r => some (Sum.map (mk i) (kk i) r)) :
    LoopOK P c fun s R K => (T.read s).bind fun x => (iter (fun v => D (sp x).1 v _ some) (sp x).2).bind fun p => FK (sp x).1 p R K := by
  intro R s K r h I0 w0 E w a Q hI ht hQ
  obtain ⟨x, hx, h⟩ := bind_ok h
  obtain ⟨p, hp, h⟩ := bind_ok h
  rw [hFK] at h
  have hx' := hsp x
  revert hp h hx'
  generalize (sp x).1 = i
  generalize (sp x).2 = v0
  intro hp h hx'
  subst hx'
  obtain ⟨N, hN⟩ := iter_some hp
  refine wp_loop_rounds N ?_
  have key : ∀ N (v : ν) (E : Env) (a' : Act) (w : World), iterN (fun v => D i v _ some) N v = some p → Inv I0 w0 E (T.write (mk i v)).h w → RepT E (T.write (mk i v)).h w (T.write (mk i v)).t a'.tmps → a'.defers = a.defers → Code.rounds P c Q N a' w := by
    intro N
    induction N with
    | zero => intro v E a' w h; simp [iterN] at h
    | succ N ih =>
      intro v E a' w hN hI ht hd
      unfold iterN at hN
      obtain ⟨q, hq, hN⟩ := bind_ok hN
      have hb := hbody i v
      rw [hD, hq] at hb
      have hb2 : vrun C c (T.write (mk i v)) (loopK T live) = some (Sum.map (mk i) (kk i) q) := hb
      rw [rounds_succ]
      refine vrun_sem HC c HL hb2 I0 w0 E w a' _ hI ht fun e s' E' a'' w' h1 h2 h3 h4 => ?_
      cases e with
      | normal =>
        simp only [loopK, Option.map_eq_some_iff] at h1
        obtain ⟨y, hy, e1⟩ := h1
        cases q with
        | inl v' =>
          have e2 : y = mk i v' := by simpa using e1
          subst e2
          obtain ⟨_, k1, k2⟩ := tmpl_read h2 h3 hy
          exact ih v' _ a'' w' hN k1 k2 (h4.trans hd)
        | inr p' => cases e1
      | ret =>
        simp only [loopK, Option.some.injEq] at h1
        cases q with
        | inl v' => cases h1
        | inr p' =>
          obtain rfl : p' = p := by simpa using hN
          have e1 : (Ex.ret, s'.trim live) = kk i p' := by simpa using h1
          rw [← e1] at h
          exact hQ .ret (s'.trim live) E' a'' w' h h2 (rep_trim h3 live) (h4.trans hd)
      | exit id =>
        simp only [loopK, Option.some.injEq] at h1
        cases q with
        | inl v' => cases h1
        | inr p' =>
          obtain rfl : p' = p := by simpa using hN
          have e1 : (Ex.exit id, s'.trim live) = kk i p' := by simpa using h1
          rw [← e1] at h
          exact hQ (.exit id) (s'.trim live) E' a'' w' h h2 (rep_trim h3 live) (h4.trans hd)
  obtain ⟨_, k1, k2⟩ := tmpl_read hI ht hx
  exact key N v0 _ a w hN k1 k2 rfl
end
end Go.Ab
