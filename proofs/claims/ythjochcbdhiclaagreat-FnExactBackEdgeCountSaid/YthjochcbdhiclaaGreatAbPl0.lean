import Derived.Test.YthjochcbdhiclaaGreatAbLaw
set_option linter.unnecessarySimpa false
set_option linter.unusedVariables false
set_option linter.unusedSimpArgs false
namespace Go.Ab
theorem iterN_more {σ ρ : Type} {B : σ → Option (σ ⊕ ρ)} {r : ρ} : ∀ {n m : Nat} {s : σ}, n ≤ m → iterN B n s = some r → iterN B m s = some r
  | 0, _, s, _, h => by simp [iterN] at h
  | n + 1, m, s, hm, h => by
    obtain ⟨m, rfl⟩ : ∃ k, m = k + 1 := ⟨m - 1, by omega⟩
    unfold iterN at h ⊢
    obtain ⟨q, h1, h2⟩ := bind_ok h
    rw [h1]
    cases q with
    | inl s' => exact iterN_more (n := n) (by omega) h2
    | inr r' => exact h2
theorem iter_of {σ ρ : Type} {B : σ → Option (σ ⊕ ρ)} {s : σ} {r : ρ} {n : Nat} (h : iterN B n s = some r) : iter B s = some r := by
  have hex : ∃ n, (iterN B n s).isSome := ⟨n, by rw [h]; rfl⟩
  unfold iter
  rw [dif_pos hex]
  have h1 := Classical.choose_spec hex
  obtain ⟨r', h2⟩ := Option.isSome_iff_exists.1 h1
  rw [h2]
  rw [← iterN_more (m := max n (Classical.choose hex)) (by omega) h, ← iterN_more (m := max n (Classical.choose hex)) (by omega) h2]
theorem iter_none {σ ρ : Type} {B : σ → Option (σ ⊕ ρ)} {s : σ} (h : ∀ n, iterN B n s = none) : iter B s = none := by
  unfold iter
  rw [dif_neg]
  rintro ⟨n, hn⟩
  rw [h n] at hn; cases hn
theorem iter_iff {σ ρ : Type} {B : σ → Option (σ ⊕ ρ)} {s : σ} {r : ρ} : iter B s = some r ↔ ∃ n, iterN B n s = some r := ⟨iter_some, fun ⟨_, h⟩ => iter_of h⟩
theorem iter_eq {σ ρ : Type} (B : σ → Option (σ ⊕ ρ)) (s : σ) : iter B s = (B s).bind fun r => match r with | .inl s' => iter B s' | .inr r => some r := by
  apply Option.ext
  intro r
  rw [iter_iff]
  constructor
  · rintro ⟨n, h⟩
    cases n with
    | zero => simp [iterN] at h
    | succ n =>
      unfold iterN at h
      obtain ⟨q, h1, h2⟩ := bind_ok h
      rw [h1]
      cases q with
      | inl s' => exact iter_of h2
      | inr r' => exact h2
  · intro h
    obtain ⟨q, h1, h2⟩ := bind_ok h
    cases q with
    | inl s' =>
      obtain ⟨n, h3⟩ := iter_iff.1 h2
      exact ⟨n + 1, by unfold iterN; rw [h1]; exact h3⟩
    | inr r' => exact ⟨1, by unfold iterN; rw [h1]; exact h2⟩
theorem iter_map {σ τ ρ π : Type} {B : σ → Option (σ ⊕ ρ)} {D : τ → Option (τ ⊕ π)} (g : τ → σ) (k : π → ρ) (h : ∀ t, B (g t) = (D t).map fun r => match r with | .inl t => .inl (g t) | .inr r => .inr (k r)) (t : τ) : iter B (g t) = (iter D t).map k := by
  have key : ∀ n t, iterN B n (g t) = (iterN D n t).map k := by
    intro n
    induction n with
    | zero => intro t; rfl
    | succ n ih =>
      intro t
      unfold iterN
      rw [h t]
      cases D t with
      | none => rfl
      | some q => cases q with
        | inl t' => exact ih t'
        | inr r => rfl
  apply Option.ext
  intro r
  simp only [Option.map_eq_some_iff, iter_iff, key]
  constructor
  · rintro ⟨n, a, h1, h2⟩; exact ⟨a, ⟨n, h1⟩, h2⟩
  · rintro ⟨a, ⟨n, h1⟩, h2⟩; exact ⟨n, a, h1, h2⟩
def sumC {α β : Type} {R : Sort _} (p : α ⊕ β) (f : α → R) (g : β → R) : R := match p with | .inl a => f a | .inr b => g b
section
variable {R R' : Type} {K : R' → Option R}
theorem nat_none : (none : Option R) = (none : Option R').bind K := rfl
theorem nat_some {x : R'} : K x = (some x).bind K := rfl
theorem nat_bif {c : Bool} {a b : Option R} {a' b' : Option R'} (h1 : a = a'.bind K) (h2 : b = b'.bind K) : (bif c then a else b) = (bif c then a' else b').bind K := by cases c <;> assumption
theorem nat_ite {c : Prop} [Decidable c] {a : Option R} {a' : Option R'} (h1 : a = a'.bind K) : (if c then a else none) = (if c then a' else none).bind K := by by_cases h : c <;> simp [h, h1]
theorem nat_ite2 {c : Prop} [Decidable c] {a b : Option R} {a' b' : Option R'} (h1 : a = a'.bind K) (h2 : b = b'.bind K) : (if c then a else b) = (if c then a' else b').bind K := by by_cases h : c <;> simp [h, h1, h2]
theorem nat_bind {α : Type} {x : Option α} {F : α → Option R} {G : α → Option R'} (h : ∀ v, F v = (G v).bind K) : x.bind F = (x.bind G).bind K := by cases x with | none => rfl | some v => exact h v
theorem nat_sum {α β : Type} {p : α ⊕ β} {f : α → Option R} {g : β → Option R} {f' : α → Option R'} {g' : β → Option R'} (h1 : ∀ a, f a = (f' a).bind K) (h2 : ∀ b, g b = (g' b).bind K) : sumC p f g = (sumC p f' g').bind K := by
  cases p with | inl a => exact h1 a | inr b => exact h2 b
end
theorem all_nil {α : Type _} {p : α → Prop} : ∀ x ∈ ([] : List α), p x := fun x h => by cases h
theorem all_cons {α : Type _} {p : α → Prop} {a : α} {l : List α} (h1 : p a) (h2 : ∀ x ∈ l, p x) : ∀ x ∈ a :: l, p x := fun x h => by
  rcases List.mem_cons.1 h with rfl | h
  · exact h1
  · exact h2 x h
theorem info_ok {P : Program} {C : Cfg} (h : ∀ p ∈ C.ti, TIOK P p.1 p.2) : ∀ t i, C.info t = some i → TIOK P t i := by
  intro t i hi
  unfold Cfg.info at hi
  simp only [Option.map_eq_some_iff] at hi
  obtain ⟨p, h1, rfl⟩ := hi
  have h2 := List.mem_of_find?_eq_some h1
  have h3 := List.find?_some h1
  obtain rfl : p.1 = t := by simpa using h3
  exact h p h2
theorem lookup_ok {α : Type _} {o : Option α} {a : α} {p : α → Prop} (h : o = some a) (ha : p a) : ∀ F, o = some F → p F := fun F hF => by
  rw [h] at hF
  obtain rfl : a = F := by simpa using hF
  exact ha
def codeOf (f : Func) : Code := f.body.getD .skip
theorem loops_all {l : List Code} {p : Code → Prop} (n : Nat) (hn : l.length = n) (h : ∀ k, k < n → p (l.getD k .skip)) : ∀ b ∈ l, p b := by
  intro b hb
  obtain ⟨k, hk, rfl⟩ := List.getElem_of_mem hb
  have := h k (by omega)
  rwa [List.getD_eq_getElem?_getD, List.getElem?_eq_getElem hk] at this
theorem lp_at {P : Program} {C : Cfg} {a b : Code} (h : a = b) (ha : ∀ F, (C.ann.find? fun x => x.1 == firstId a).map (·.2) = some F → LoopOK P C.lent a F) : ∀ F, (C.ann.find? fun x => x.1 == firstId b).map (·.2) = some F → LoopOK P C.lent b F := h ▸ ha
def lpc (f : Func) (k : Nat) : Code := (loopsOf (codeOf f)).getD k .skip
def LkOK (P : Program) (C : Cfg) (b : Code) : Prop := ∀ F, (C.ann.find? fun x => x.1 == firstId b).map (·.2) = some F → LoopOK P C.lent b F
def NatD {ι ν π : Type} (D : ι → ν → (R : Type) → ((ν ⊕ π) → Option R) → Option R) : Prop := ∀ i v (R : Type) (K : (ν ⊕ π) → Option R), D i v R K = (D i v _ some).bind K
noncomputable def loopFn {ι ν π : Type} (T : Tmpl) (n : Nat) (sp : den T.ty → ι × ν) (D : ι → ν → (R : Type) → ((ν ⊕ π) → Option R) → Option R) (E : ι → π → (R : Type) → (Ex → St → Option R) → Option R) : LoopFn :=
  fun s R K => T.readS n s fun x => (iter (fun v => D (sp x).1 v _ some) (sp x).2).bind fun p => E (sp x).1 p R K
theorem lk_at {P : Program} {C : Cfg} {a b : Code} (h : a = b) (ha : LkOK P C a) : LkOK P C b := h ▸ ha
theorem lk_of {P : Program} {C : Cfg} (HC : CfgOK P C) {f : Func} {k m : Nat} {T : Tmpl} {ι ν π : Type} {sp : den T.ty → ι × ν} {D : ι → ν → (R : Type) → ((ν ⊕ π) → Option R) → Option R} {E : ι → π → (R : Type) → (Ex → St → Option R) → Option R}
    (hF : (C.ann.find? fun x => x.1 == firstId (lpc f k)).map (·.2) = some (loopFn T C.lent sp D E)) (hm : (loopsOf (lpc f k)).length = m) (hsub : ∀ q, q < m → LkOK P C ((loopsOf (lpc f k)).getD q .skip)) (live : List Nat)
    (mk : ι → ν → den T.ty) (hsp : ∀ x, mk (sp x).1 (sp x).2 = x) (hD : NatD D) (kk : ι → π → Ex × St) (hFK : ∀ i p R K, E i p R K = K (kk i p).1 (kk i p).2)
    (hbody : ∀ i v, vrun C (lpc f k) (T.write (mk i v)) (loopK T C.lent live) = D i v _ fun r => some (Sum.map (mk i) (kk i) r)) : LkOK P C (lpc f k) :=
  lookup_ok hF (loop_ok HC (loops_all m hm hsub) T live mk sp hsp D hD E kk hFK hbody)
theorem hc_of {P : Program} {C : Cfg} (h : ∀ p ∈ C.ti, TIOK P p.1 p.2) (hw : P.follows .mixedOrders = true) (he : ∀ e ∈ C.ents, EntOK P e) : CfgOK P C := ⟨⟨info_ok h⟩, he, hw⟩
def jn (n : Nat) (l : List AV) : List AV := match n with | 0 => l | n + 1 => .junk :: jn n l
def jk (n : Nat) (l : TmL) : TmL := match n with | 0 => l | n + 1 => .junk (jk n l)
theorem body_loops {P : Program} {C : Cfg} {fn : Func} (hb : fn.body.isNone = false) (h : LoopsOK P C (codeOf fn)) : ∀ c, fn.body = some c → LoopsOK P C c := by
  intro c hc
  have : codeOf fn = c := by unfold codeOf; rw [hc]; rfl
  rwa [this] at h
theorem ok_of {P : Program} {C : Cfg} (HC : CfgOK P C) {f : FuncId} {fn : Func} {ti to : Tmpl} {S : den ti.ty → Option (den to.ty)} (hf : P.funcs[f]? = some fn) (m : Nat) (hm : (loopsOf (codeOf fn)).length = m) (hl : ∀ k, k < m → LkOK P C (lpc fn k))
    (hb : fn.body.isNone = false) (hn : (fn.name == "runtime.NumGoroutine") = false) (h : ∀ x, vcall C fn ti to x = S x) : EntOK P ⟨f, ti, to, S⟩ :=
  EntOK.of_vcall HC hf (body_loops hb (loops_all m hm hl)) hn hb h
end Go.Ab
