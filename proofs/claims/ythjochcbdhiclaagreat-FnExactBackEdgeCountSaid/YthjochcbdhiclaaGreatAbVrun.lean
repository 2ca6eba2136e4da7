import Derived.Test.YthjochcbdhiclaaGreatAbVrD
import Derived.Test.YthjochcbdhiclaaGreatAbRun
import Derived.LoopN
set_option linter.unnecessarySimpa false
set_option linter.unusedVariables false
set_option linter.unusedSimpArgs false
namespace Go.Ab
theorem keep_length (live : List Nat) : (l : List AV) → (i : Nat) → (keep live l i).length = l.length
  | [], _ => rfl
  | v :: l, i => by simp [keep, keep_length live l]
theorem keep_get (live : List Nat) : (l : List AV) → (i j : Nat) → (c : AV) → (keep live l i)[j]? = some c → c = .junk ∨ l[j]? = some c
  | [], _, j, c, h => by simp [keep] at h
  | v :: l, i, 0, c, h => by
    simp only [keep, List.getElem?_cons_zero, Option.some.injEq] at h ⊢
    split at h
    · exact .inr h
    · exact .inl h.symm
  | v :: l, i, j + 1, c, h => by
    simp only [keep, List.getElem?_cons_succ] at h ⊢
    exact keep_get live l (i + 1) j c h
theorem rep_trim {E : Env} {h : Heap} {w : World} {t : List AV} {a : Array Value} (ht : RepT E h w t a) (live : List Nat) : RepT E h w (keep live t 0) a := by
  refine ⟨by rw [keep_length]; exact ht.1, fun i c hi => ?_⟩
  rcases keep_get live t 0 i c hi with rfl | h1
  · have : i < a.size := by
      rw [← ht.1, ← keep_length live t 0]
      exact (List.getElem?_eq_some_iff.1 hi).1
    exact ⟨a[i], by simp [this], by simp only [RepAV]⟩
  · exact ht.2 i c h1
theorem iter_some {σ ρ : Type} {B : σ → Option (σ ⊕ ρ)} {s : σ} {r : ρ} (h : iter B s = some r) : ∃ n, iterN B n s = some r := by
  unfold iter at h
  split at h
  · exact ⟨_, h⟩
  · cases h
def Ex.out : Ex → Exit
  | .normal => .normal
  | .ret => .ret
  | .exit id => .exit id
def Sound (P : Program) (n : Nat) (c : Code) {R : Type} (s : St) (K : Ex → St → Option R) (r : R) : Prop :=
  ∀ (F : Fr) (E : Env) (w : World) (a : Act) (Q : Exit → Act → World → Prop), FrOK n F → Inv F E s.h w → RepT E s.h w s.t a.tmps →
    (∀ e s' E' a' w', K e s' = some r → Inv F E' s'.h w' → RepT E' s'.h w' s'.t a'.tmps → a'.defers = a.defers → Q e.out a' w') → c.wp P Q a w
def LoopOK (P : Program) (n : Nat) (c : Code) (F : LoopFn) : Prop := ∀ (R : Type) (s : St) (K : Ex → St → Option R) (r : R), F s R K = some r → Sound P n (.loop c) s K r
def loopsOf : Code → List Code
  | .seq a b => loopsOf a ++ loopsOf b
  | .cond _ a b => loopsOf a ++ loopsOf b
  | .block _ c => loopsOf c
  | .loop c => c :: loopsOf c
  | _ => []
def LoopsOK (P : Program) (C : Cfg) (c : Code) : Prop := ∀ b ∈ loopsOf c, ∀ F, (C.ann.find? fun x => x.1 == firstId b).map (·.2) = some F → LoopOK P C.lent b F
section
variable {P : Program} {C : Cfg} (HC : CfgOK P C)
include HC in
theorem vrun_sem : (c : Code) → LoopsOK P C c → {R : Type} → {s : St} → {K : Ex → St → Option R} → {r : R} → vrun C c s K = some r → Sound P C.lent c s K r
  | .skip, HL, R, s, K, r, h => fun F E w a Q FO hI ht hQ => wp_skip (hQ .normal s E a w (by simpa only [vrun] using h) hI ht rfl)
  | .label _, HL, R, s, K, r, h => fun F E w a Q FO hI ht hQ => wp_label (hQ .normal s E a w (by simpa only [vrun] using h) hI ht rfl)
  | .region id ops draw, HL, R, s, K, r, h => fun F E w a Q FO hI ht hQ => by
    unfold vrun at h
    cases draw with
    | true =>
      simp only [if_true] at h
      split at h
      · rename_i hreg
        exact drawn_sem HC hreg h hI ht fun s' E' a' w' h1 h2 h3 h4 => hQ .normal s' E' a' w' h1 h2 h3 h4
      · cases h
    | false =>
      simp only [Bool.false_eq_true, if_false] at h
      refine wp_region_list (vopsS_sem HC ops.toList h hI ht fun s' E' a' w' h1 h2 h3 h4 => hQ .normal s' E' a' w' h1 h2 h3 h4)
  | .seq x y, HL, R, s, K, r, h => fun F E w a Q FO hI ht hQ => by
    unfold vrun at h
    refine wp_seq (vrun_sem x (fun b hb => HL b (List.mem_append_left _ hb)) h F E w a _ FO hI ht fun e s' E' a' w' h1 h2 h3 h4 => ?_)
    cases e with
    | normal => exact vrun_sem y (fun b hb => HL b (List.mem_append_right _ hb)) h1 F E' w' a' _ FO h2 h3 fun e s'' E'' a'' w'' k1 k2 k3 k4 => hQ e s'' E'' a'' w'' k1 k2 k3 (k4.trans h4)
    | ret => exact hQ .ret s' E' a' w' h1 h2 h3 h4
    | exit id => exact hQ (.exit id) s' E' a' w' h1 h2 h3 h4
  | .cond c x y, HL, R, s, K, r, h => fun F E w a Q FO hI ht hQ => by
    unfold vrun at h
    have hc := ht.eval c
    split at h
    · rename_i t e
      rw [e] at hc
      have hb := rep_bool hc
      split at h
      · exact wp_cond_true hb (vrun_sem x (fun b hb => HL b (List.mem_append_left _ hb)) h F E w a _ FO hI ht hQ)
      · exact wp_cond_false hb (vrun_sem y (fun b hb => HL b (List.mem_append_right _ hb)) h F E w a _ FO hI ht hQ)
    · rename_i e
      rw [e] at hc
      simp only [RepAV] at hc
      obtain ⟨b, hb⟩ := hc
      obtain ⟨h1, h2⟩ := both_some h
      cases b with
      | true => exact wp_cond_true hb (vrun_sem x (fun b hb => HL b (List.mem_append_left _ hb)) h1 F E w a _ FO hI ht hQ)
      | false => exact wp_cond_false hb (vrun_sem y (fun b hb => HL b (List.mem_append_right _ hb)) h2 F E w a _ FO hI ht hQ)
    · cases h
  | .block id c, HL, R, s, K, r, h => fun F E w a Q FO hI ht hQ => by
    unfold vrun at h
    refine wp_block (vrun_sem c HL h F E w a _ FO hI ht fun e s' E' a' w' h1 h2 h3 h4 => ?_)
    cases e with
    | normal => exact hQ .normal s' E' a' w' h1 h2 h3 h4
    | ret => exact hQ .ret s' E' a' w' h1 h2 h3 h4
    | exit j =>
      simp only [Ex.out, Exit.inBlock]
      simp only at h1
      split at h1
      · rename_i e; rw [if_pos e]; exact hQ .normal s' E' a' w' h1 h2 h3 h4
      · rename_i e; rw [if_neg e]; exact hQ (.exit j) s' E' a' w' h1 h2 h3 h4
  | .loop c, HL, R, s, K, r, h => by
    unfold vrun at h
    split at h
    · cases h
    · rename_i F hF
      exact HL c (List.mem_cons_self ..) F hF R s K r h
  | .exit id, HL, R, s, K, r, h => fun F E w a Q FO hI ht hQ => wp_exit (hQ (.exit id) s E a w (by simpa only [vrun] using h) hI ht rfl)
  | .ret, HL, R, s, K, r, h => fun F E w a Q FO hI ht hQ => wp_ret (hQ .ret s E a w (by simpa only [vrun] using h) hI ht rfl)
  | .rangeFunc .., HL, R, s, K, r, h => by simp [vrun] at h
  | .scope .., HL, R, s, K, r, h => by simp [vrun] at h
  | .goto .., HL, R, s, K, r, h => by simp [vrun] at h
  | .refuse .., HL, R, s, K, r, h => by simp [vrun] at h
include HC in
theorem loop_ok {c : Code} (HL : LoopsOK P C c) (T : Tmpl) (live : List Nat) {ι ν π : Type} (mk : ι → ν → den T.ty) (sp : den T.ty → ι × ν) (hsp : ∀ x, mk (sp x).1 (sp x).2 = x)
    (D : ι → ν → (R : Type) → ((ν ⊕ π) → Option R) → Option R) (hD : ∀ i v (R : Type) (K : (ν ⊕ π) → Option R), D i v R K = (D i v _ some).bind K)
    (FK : ι → π → (R : Type) → (Ex → St → Option R) → Option R)
    (kk : ι → π → Ex × St) (hFK : ∀ i p R K, FK i p R K = K (kk i p).1 (kk i p).2)
    (hbody : ∀ i v, vrun C c (T.write (mk i v)) (loopK T C.lent live) = D i v _ fun r => some (Sum.map (mk i) (kk i) r)) :
    LoopOK P C.lent c fun s R K => T.readS C.lent s fun x => (iter (fun v => D (sp x).1 v _ some) (sp x).2).bind fun p => FK (sp x).1 p R K := by
  intro R s K r h F E w a Q FO hI ht hQ
  obtain ⟨x, h, hx⟩ := readS_sem h
  obtain ⟨p, hp, h⟩ := bind_ok h
  rw [hFK] at h
  have hx' := hsp x
  obtain ⟨E0, k1, k2⟩ := hx F E w a.tmps FO hI ht
  revert hp h hx' k1 k2
  generalize (sp x).1 = i
  generalize (sp x).2 = v0
  intro hp h hx' k1 k2
  subst hx'
  obtain ⟨N, hN⟩ := iter_some hp
  refine wp_loop_rounds N ?_
  have key : ∀ N (v : ν) (E : Env) (a' : Act) (w : World), iterN (fun v => D i v _ some) N v = some p → Inv F E (T.write (mk i v)).h w → RepT E (T.write (mk i v)).h w (T.write (mk i v)).t a'.tmps → a'.defers = a.defers → Code.rounds P c Q N a' w := by
    intro N
    induction N with
    | zero => intro v E a' w h; simp [iterN] at h
    | succ N ih =>
      intro v E a' w hN hI ht hd
      unfold iterN at hN
      obtain ⟨q, hq, hN⟩ := bind_ok hN
      have hb := hbody i v
      rw [hD, hq] at hb
      have hb2 : vrun C c (T.write (mk i v)) (loopK T C.lent live) = some (Sum.map (mk i) (kk i) q) := hb
      rw [rounds_succ]
      refine vrun_sem HC c HL hb2 F E w a' _ FO hI ht fun e s' E' a'' w'' h1 h2 h3 h4 => ?_
      cases e with
      | normal =>
        simp only [loopK] at h1
        obtain ⟨y, e1, hy⟩ := readS_sem h1
        cases q with
        | inl v' =>
          have e2 : y = mk i v' := by simpa using e1
          subst e2
          obtain ⟨_, k1, k2⟩ := hy F E' w'' a''.tmps FO h2 h3
          exact ih v' _ a'' w'' hN k1 k2 (h4.trans hd)
        | inr p' => cases e1
      | ret =>
        simp only [loopK, Option.some.injEq] at h1
        cases q with
        | inl v' => cases h1
        | inr p' =>
          obtain rfl : p' = p := by simpa using hN
          have e1 : (Ex.ret, s'.trim live) = kk i p' := by simpa using h1
          rw [← e1] at h
          exact hQ .ret (s'.trim live) E' a'' w'' h h2 (rep_trim h3 live) (h4.trans hd)
      | exit id =>
        simp only [loopK, Option.some.injEq] at h1
        cases q with
        | inl v' => cases h1
        | inr p' =>
          obtain rfl : p' = p := by simpa using hN
          have e1 : (Ex.exit id, s'.trim live) = kk i p' := by simpa using h1
          rw [← e1] at h
          exact hQ (.exit id) (s'.trim live) E' a'' w'' h h2 (rep_trim h3 live) (h4.trans hd)
  exact key N v0 _ a w hN k1 k2 rfl
end
end Go.Ab
