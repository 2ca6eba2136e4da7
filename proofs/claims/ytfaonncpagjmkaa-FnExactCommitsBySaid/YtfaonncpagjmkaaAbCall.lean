import Derived.Test.YtfaonncpagjmkaaAbVrun
import Derived.Laws.Sem
set_option linter.unnecessarySimpa false
set_option linter.unusedVariables false
set_option linter.unusedSimpArgs false
namespace Go.Ab
open Go.RowKit

section
variable {P : Program} {C : Cfg} (HC : CfgOK P C)

def resSem (tmps : Array Value) : ResultVar → Sem Value
  | .tmp t => pure (tmps.getD t undef)
  | .cell a t => do loadVar t (← asAddr (tmps.getD a undef))

theorem getD_rep {E : Env} {h : List (Option Cont)} {w : World} {t : List AV} {a : Array Value} (ht : RepT E h w t a) (i : Nat) : RepAV E h w (t.getD i .junk) (a.getD i undef) := by
  have := ht.eval (a := { tmps := a, defers := [] }) (.tmp i)
  simpa [ev, Act.eval] using this

include HC in
theorem resOf_sem {E : Env} {s : St} {w : World} {a : Array Value} (H : HeapOK E s.h w) (ht : RepT E s.h w s.t a) {rv : ResultVar} {v : AV} (h : resOf s C rv = some v) :
    ∃ u, (resSem a rv).run P w = .ok u w ∧ RepAV E s.h w v u := by
  cases rv with
  | tmp t =>
    simp only [resOf, Option.some.injEq] at h; subst h
    exact ⟨_, rfl, getD_rep ht t⟩
  | cell x t =>
    simp only [resOf] at h
    have hx := getD_rep ht x
    split at h
    · rename_i i r j off hi hp
      rw [hp] at hx
      split at h
      · rename_i c hc
        obtain ⟨cs, hat, hld⟩ := bind_ok h
        simp only [RepAV] at hx
        obtain ⟨b, o, sz, hι, hv⟩ := hx
        obtain ⟨vs, h1, h2, h3⟩ := obj_cells H hc hat hι
        obtain ⟨u, h4, h5⟩ := run_loadAt (HC.ti _ _ hi) (h2.drop off) (cellsAt_drop h3 off) hld
        refine ⟨u, ?_, h5⟩
        rw [Instr.loadAt] at h4
        simp only [resSem, hv, asAddr, Sem.run_bind, Sem.run_pure, Result.andThen_ok]
        simpa [Instr.sureAddr] using h4
      · cases h
    · cases h

include HC in
theorem resOfs_sem {E : Env} {s : St} {w : World} {a : Array Value} (H : HeapOK E s.h w) (ht : RepT E s.h w s.t a) : (l : List ResultVar) → {vs : List AV} → l.mapM (resOf s C) = some vs →
    ∃ us, (l.mapM (resSem a)).run P w = .ok us w ∧ RepL E s.h w vs us
  | [], vs, h => by
    simp at h; subst h
    exact ⟨[], rfl, RepL.nil⟩
  | rv :: l, vs, h => by
    simp only [List.mapM_cons] at h
    obtain ⟨v, h1, h2⟩ := Option.bind_eq_some_iff.1 h
    obtain ⟨vs', h3, h4⟩ := Option.bind_eq_some_iff.1 h2
    obtain rfl : v :: vs' = vs := by simpa using h4
    obtain ⟨u, k1, k2⟩ := resOf_sem HC H ht h1
    obtain ⟨us, k3, k4⟩ := resOfs_sem H ht l h3
    exact ⟨u :: us, by simp [List.mapM_cons, k1, k3], RepL.cons k2 k4⟩

include HC in
theorem results_sem {E : Env} {s : St} {w : World} {a : Array Value} (H : HeapOK E s.h w) (ht : RepT E s.h w s.t a) {fn : Func} {vs : List AV} (h : fn.results.toList.mapM (resOf s C) = some vs) :
    ∃ us, (results fn a).run P w = .ok (match us with | [u] => u | us => .tuple us.toArray) w ∧ RepL E s.h w vs us := by
  obtain ⟨us, h1, h2⟩ := resOfs_sem (P := P) HC H ht _ h
  refine ⟨us, ?_, h2⟩
  have e : results fn a = (do let vs ← fn.results.mapM (resSem a); pure (if h : vs.size = 1 then vs[0] else .tuple vs)) := by
    unfold results
    congr 1
  rw [e, Array.mapM_eq_mapM_toList]
  simp only [Sem.run_bind, map_eq_pure_bind, h1, Result.andThen_ok, Sem.run_pure, bind_assoc, pure_bind]
  congr 1
  match us with
  | [] => rfl
  | [u] => rfl
  | u :: v :: us => simp

include HC in
/-- **A call that can be told does what is told.** -/
theorem vcall_sem {f : FuncId} {fn : Func} {ps rs : Ty} {x : den ps} {y : den rs} (hf : P.funcs[f]? = some fn) (HL : ∀ c, fn.body = some c → LoopsOK P C c) (h : vcall C fn ps rs x = some y) : PSpec P f ps x rs y := by
  intro I w vs hI hA
  unfold vcall at h
  split at h
  · cases h
  · rename_i c hb
    have hL : RepL ⟨fun _ => none, I⟩ [] w (ups ps x) vs := rep_ups (E := ⟨fun _ => none, I⟩) ps hA
    have hlen := hL.length
    refine calls_of_wp hf hb (vrun_sem HC c (HL c hb) h I w ⟨fun _ => none, I⟩ w _ _ ⟨⟨?_, ?_, ?_, ?_, ?_, hI, ?_, ?_⟩, ⟨rfl, rfl, rfl, Nat.le_refl _, fun _ _ => rfl⟩, ?_, fun b h => h, fun b h => .inl h⟩ ⟨?_, ?_⟩ fun e s E a' w' h1 h2 h3 h4 => ?_)
    · intro r c hc; simp at hc
    · intro r c b o s hc; simp at hc
    · intro r r' b o s o' s' h1; cases h1
    · intro r _; rfl
    · intro r b o s h1; cases h1
    · rintro b ⟨r, o, s, h1⟩; cases h1
    · rintro b ⟨r, o, s, h1⟩; cases h1
    · rintro b ⟨r, o, s, h1⟩; cases h1
    · simp [hlen]
    · intro i c hi
      by_cases hlt : i < (ups ps x).length
      · rw [List.getElem?_append_left hlt] at hi
        obtain ⟨v, k1, k2⟩ := hL.get i hi
        refine ⟨v, ?_, k2⟩
        rw [Array.getElem?_append_left (by simp; omega)]
        simpa using k1
      · rw [List.getElem?_append_right (by omega)] at hi
        obtain ⟨hlt', rfl⟩ := List.getElem?_eq_some_iff.1 hi
        simp at hlt'
        refine ⟨undef, ?_, ?_⟩
        · rw [Array.getElem?_append_right (by simp; omega)]
          simp [Array.getElem?_replicate]; omega
        · simp only [List.getElem_replicate, RepAV]; exact ⟨[], rfl, RepL.nil⟩
    · have fin : (fn.results.toList.mapM (resOf s C)).bind (fun vs => packA s.h rs vs) = some y → a'.defers = [] ∧ ∃ v, (results fn a'.tmps).run P w' = .ok v w' ∧ (∃ v' I', Ending.returned v = .returned v' ∧ RepRes I' w' rs y v' ∧ (∀ b, I b → I' b) ∧ (∀ b, I' b → I b ∨ w.heap.size ≤ b) ∧ (∀ b, I' b → b < w'.heap.size) ∧ Below w.heap.size w w') := by
        intro h1
        obtain ⟨vs', k1, k2⟩ := bind_ok h1
        obtain ⟨us, k3, k4⟩ := results_sem HC h2.heap h3 k1
        refine ⟨h4, _, k3, _, fun b => E.I b ∨ OwnB E b, rfl, ⟨us, (pack_spec (J := fun b => E.I b ∨ OwnB E b) (fun b hb => .inl hb) (.inr ⟨rfl, h2.heap, fun b hb => .inr hb⟩) rs).2 _ _ _ k2 k4, rfl⟩, fun b hb => .inl (h2.I_sub b hb), fun b hb => ?_, fun b hb => ?_, h2.below⟩
        · rcases hb with hb | hb
          · exact h2.I_new b hb
          · exact .inr (h2.own_new b hb)
        · rcases hb with hb | hb
          · exact h2.heap.I_lt b hb
          · exact h2.heap.own_lt b hb
      cases e with
      | normal => exact fin h1
      | ret => exact fin h1
      | exit id => cases h1

include HC in
theorem EntOK.of_vcall {f : FuncId} {fn : Func} {ps rs : Ty} {S : den ps → Option (den rs)} (hf : P.funcs[f]? = some fn) (HL : ∀ c, fn.body = some c → LoopsOK P C c) (hn : (fn.name == "runtime.NumGoroutine") = false) (hb : fn.body.isNone = false) (h : ∀ x, vcall C fn ps rs x = S x) : EntOK P ⟨f, ps, rs, S⟩ :=
  ⟨⟨fn, hf, hn, hb⟩, fun x y hy => vcall_sem HC hf HL ((h x).trans hy)⟩
end

/-! ### Loops told another way -/
theorem iterN_more {σ ρ : Type} {B : σ → Option (σ ⊕ ρ)} {r : ρ} : ∀ {n m : Nat} {s : σ}, n ≤ m → iterN B n s = some r → iterN B m s = some r
  | 0, _, s, _, h => by simp [iterN] at h
  | n + 1, m, s, hm, h => by
    obtain ⟨m, rfl⟩ : ∃ k, m = k + 1 := ⟨m - 1, by omega⟩
    unfold iterN at h ⊢
    obtain ⟨q, h1, h2⟩ := bind_ok h
    rw [h1]
    cases q with
    | inl s' => exact iterN_more (n := n) (by omega) h2
    | inr r' => exact h2
theorem iter_of {σ ρ : Type} {B : σ → Option (σ ⊕ ρ)} {s : σ} {r : ρ} {n : Nat} (h : iterN B n s = some r) : iter B s = some r := by
  have hex : ∃ n, (iterN B n s).isSome := ⟨n, by rw [h]; rfl⟩
  unfold iter
  rw [dif_pos hex]
  have h1 := Classical.choose_spec hex
  obtain ⟨r', h2⟩ := Option.isSome_iff_exists.1 h1
  rw [h2]
  rw [← iterN_more (m := max n (Classical.choose hex)) (by omega) h, ← iterN_more (m := max n (Classical.choose hex)) (by omega) h2]
theorem iter_none {σ ρ : Type} {B : σ → Option (σ ⊕ ρ)} {s : σ} (h : ∀ n, iterN B n s = none) : iter B s = none := by
  unfold iter
  rw [dif_neg]
  rintro ⟨n, hn⟩
  rw [h n] at hn; cases hn
theorem iter_iff {σ ρ : Type} {B : σ → Option (σ ⊕ ρ)} {s : σ} {r : ρ} : iter B s = some r ↔ ∃ n, iterN B n s = some r := ⟨iter_some, fun ⟨_, h⟩ => iter_of h⟩
theorem iter_eq {σ ρ : Type} (B : σ → Option (σ ⊕ ρ)) (s : σ) : iter B s = (B s).bind fun r => match r with | .inl s' => iter B s' | .inr r => some r := by
  apply Option.ext
  intro r
  rw [iter_iff]
  constructor
  · rintro ⟨n, h⟩
    cases n with
    | zero => simp [iterN] at h
    | succ n =>
      unfold iterN at h
      obtain ⟨q, h1, h2⟩ := bind_ok h
      rw [h1]
      cases q with
      | inl s' => exact iter_of h2
      | inr r' => exact h2
  · intro h
    obtain ⟨q, h1, h2⟩ := bind_ok h
    cases q with
    | inl s' =>
      obtain ⟨n, h3⟩ := iter_iff.1 h2
      exact ⟨n + 1, by unfold iterN; rw [h1]; exact h3⟩
    | inr r' => exact ⟨1, by unfold iterN; rw [h1]; exact h2⟩

/-- The same loop on other states. -/
theorem iter_map {σ τ ρ π : Type} {B : σ → Option (σ ⊕ ρ)} {D : τ → Option (τ ⊕ π)} (g : τ → σ) (k : π → ρ) (h : ∀ t, B (g t) = (D t).map fun r => match r with | .inl t => .inl (g t) | .inr r => .inr (k r)) (t : τ) : iter B (g t) = (iter D t).map k := by
  have key : ∀ n t, iterN B n (g t) = (iterN D n t).map k := by
    intro n
    induction n with
    | zero => intro t; rfl
    | succ n ih =>
      intro t
      unfold iterN
      rw [h t]
      cases D t with
      | none => rfl
      | some q => cases q with
        | inl t' => exact ih t'
        | inr r => rfl
  apply Option.ext
  intro r
  simp only [Option.map_eq_some_iff, iter_iff, key]
  constructor
  · rintro ⟨n, a, h1, h2⟩; exact ⟨a, ⟨n, h1⟩, h2⟩
  · rintro ⟨a, ⟨n, h1⟩, h2⟩; exact ⟨n, a, h1, h2⟩

/-! ### For printed texts -/
def sumC {α β : Type} {R : Sort _} (p : α ⊕ β) (f : α → R) (g : β → R) : R := match p with | .inl a => f a | .inr b => g b
section
variable {R R' : Type} {K : R' → Option R}
theorem nat_none : (none : Option R) = (none : Option R').bind K := rfl
theorem nat_some {x : R'} : K x = (some x).bind K := rfl
theorem nat_bif {c : Bool} {a b : Option R} {a' b' : Option R'} (h1 : a = a'.bind K) (h2 : b = b'.bind K) : (bif c then a else b) = (bif c then a' else b').bind K := by cases c <;> assumption
theorem nat_ite {c : Prop} [Decidable c] {a : Option R} {a' : Option R'} (h1 : a = a'.bind K) : (if c then a else none) = (if c then a' else none).bind K := by by_cases h : c <;> simp [h, h1]
theorem nat_bind {α : Type} {x : Option α} {F : α → Option R} {G : α → Option R'} (h : ∀ v, F v = (G v).bind K) : x.bind F = (x.bind G).bind K := by cases x with | none => rfl | some v => exact h v
theorem nat_sum {α β : Type} {p : α ⊕ β} {f : α → Option R} {g : β → Option R} {f' : α → Option R'} {g' : β → Option R'} (h1 : ∀ a, f a = (f' a).bind K) (h2 : ∀ b, g b = (g' b).bind K) : sumC p f g = (sumC p f' g').bind K := by
  cases p with | inl a => exact h1 a | inr b => exact h2 b
end

theorem all_nil {α : Type _} {p : α → Prop} : ∀ x ∈ ([] : List α), p x := fun x h => by cases h
theorem all_cons {α : Type _} {p : α → Prop} {a : α} {l : List α} (h1 : p a) (h2 : ∀ x ∈ l, p x) : ∀ x ∈ a :: l, p x := fun x h => by
  rcases List.mem_cons.1 h with rfl | h
  · exact h1
  · exact h2 x h
theorem info_ok {P : Program} {C : Cfg} (h : ∀ p ∈ C.ti, TIOK P p.1 p.2) : ∀ t i, C.info t = some i → TIOK P t i := by
  intro t i hi
  unfold Cfg.info at hi
  simp only [Option.map_eq_some_iff] at hi
  obtain ⟨p, h1, rfl⟩ := hi
  have h2 := List.mem_of_find?_eq_some h1
  have h3 := List.find?_some h1
  obtain rfl : p.1 = t := by simpa using h3
  exact h p h2
theorem lookup_ok {α : Type _} {o : Option α} {a : α} {p : α → Prop} (h : o = some a) (ha : p a) : ∀ F, o = some F → p F := fun F hF => by
  rw [h] at hF
  obtain rfl : a = F := by simpa using hF
  exact ha
def codeOf (f : Func) : Code := f.body.getD .skip
theorem loops_all {l : List Code} {p : Code → Prop} (n : Nat) (hn : l.length = n) (h : ∀ k, k < n → p (l.getD k .skip)) : ∀ b ∈ l, p b := by
  intro b hb
  obtain ⟨k, hk, rfl⟩ := List.getElem_of_mem hb
  have := h k (by omega)
  rwa [List.getD_eq_getElem?_getD, List.getElem?_eq_getElem hk] at this
theorem body_loops {P : Program} {C : Cfg} {fn : Func} (hb : fn.body.isNone = false) (h : LoopsOK P C (codeOf fn)) : ∀ c, fn.body = some c → LoopsOK P C c := by
  intro c hc
  have : codeOf fn = c := by unfold codeOf; rw [hc]; rfl
  rwa [this] at h
end Go.Ab
