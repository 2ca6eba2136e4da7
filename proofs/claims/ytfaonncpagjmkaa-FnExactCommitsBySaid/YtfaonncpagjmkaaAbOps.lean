import Derived.Test.YtfaonncpagjmkaaAbInv
import Derived.Laws.StructEq
import Derived.Laws.Slices
import Derived.Laws.Append
import Derived.Orders
set_option linter.unnecessarySimpa false
set_option linter.unusedVariables false
set_option linter.unusedSimpArgs false
namespace Go.Ab
open Go.RowKit

def UndOK (P : Program) (t : TypeId) (u : Und) (d : TypeDesc) : Prop :=
  match u with
  | .int k => d = .int k
  | .bool => d = .bool
  | .str => d = .string
  | .slice e => d = .slice e
  | .struct fs => ∃ fields : Array Field, d = .struct fields ∧ fields.toList.map (fun f => (f.offset, f.type)) = fs ∧ (fields.toList.all fun f => f.name != "_") = true ∧ P.stoodInHeld t = false ∧ P.eqGuardType P.depth t = false ∧ ∀ f ∈ fields, (P.info? f.type).isSome = true
  | .arr n e => d = .array n e
  | .ptr e => d = .pointer e
  | .iface => ∃ ms, d = .interface ms
  | .func => ∃ a b c, d = .func a b c
  | .other => (match d with | .struct _ | .array _ _ => false | _ => true) = true

/-- What the table says of a type is so. -/
def TIOK (P : Program) (t : TypeId) (i : TI) : Prop := ∃ inf d, P.info? t = some inf ∧ P.underlying t = some d ∧ inf.size = i.size ∧ UndOK P t i.und d ∧
  (∃ zv, inf.zero = some zv ∧ i.zero = zv.cells.toList.map AV.const ∧ zv.cells.size = i.size) ∧ i.lim * inf.bytes ≤ 35184372088832 ∧ i.lim ≤ 35184372088832

def RepRes (I : Nat → Prop) (w : World) (rs : Ty) (y : den rs) (v : Value) : Prop := ∃ vs, RepA I w rs y vs ∧ v = (match vs with | [u] => u | us => .tuple us.toArray)

/-- A call on pure data gives pure data, and changes nothing that was there. -/
def PSpec (P : Program) (f : FuncId) (ps : Ty) (x : den ps) (rs : Ty) (y : den rs) : Prop :=
  ∀ (I : Nat → Prop) (w : World) (vs : List Value), (∀ b, I b → b < w.heap.size) → RepA I w ps x vs →
    Calls P f vs.toArray w fun e w' => ∃ v I', e = .returned v ∧ RepRes I' w' rs y v ∧ (∀ b, I b → I' b) ∧ (∀ b, I' b → I b ∨ w.heap.size ≤ b) ∧ (∀ b, I' b → b < w'.heap.size) ∧ Below w.heap.size w w'

def EntOK (P : Program) (e : Ent) : Prop :=
  (∃ fn, P.funcs[e.f]? = some fn ∧ (fn.name == "runtime.NumGoroutine") = false ∧ fn.body.isNone = false) ∧ ∀ x y, e.fn x = some y → PSpec P e.f e.ps x e.rs y

structure CfgOK (P : Program) (C : Cfg) : Prop where
  ti : ∀ t i, C.info t = some i → TIOK P t i
  ents : ∀ e ∈ C.ents, EntOK P e
  wide : P.follows .mixedOrders = true

structure Inv (I0 : Nat → Prop) (w0 : World) (E : Env) (h : List (Option Cont)) (w : World) : Prop where
  heap : HeapOK E h w
  below : Below w0.heap.size w0 w
  own_new : ∀ b, OwnB E b → w0.heap.size ≤ b
  I_sub : ∀ b, I0 b → E.I b
  I_new : ∀ b, E.I b → I0 b ∨ w0.heap.size ≤ b

/-- The same objects, more unwritten blocks. -/
structure Ext (E : Env) (w : World) (E' : Env) (w' : World) : Prop where
  ι : E'.ι = E.ι
  stab : Stab E.I w E'.I w'
  own : ∀ b, OwnB E b → w'.heap[b]? = w.heap[b]?

theorem Ext.refl (E : Env) (w : World) : Ext E w E w := ⟨rfl, fun b hb => ⟨hb, rfl⟩, fun _ _ => rfl⟩
theorem Ext.trans {E E' E'' : Env} {w w' w'' : World} (h : Ext E w E' w') (k : Ext E' w' E'' w'') : Ext E w E'' w'' :=
  ⟨k.ι.trans h.ι, fun b hb => ⟨(k.stab b (h.stab b hb).1).1, ((k.stab b (h.stab b hb).1).2).trans (h.stab b hb).2⟩, fun b hb => (k.own b (by unfold OwnB at *; rw [h.ι]; exact hb)).trans (h.own b hb)⟩

mutual
theorem ext_rep {E E' : Env} {h : List (Option Cont)} {w w' : World} (hx : Ext E w E' w') : (c : AV) → {v : Value} → RepAV E h w c v → RepAV E' h w' c v
  | .pv t x, v, h1 => by simp only [RepAV] at h1 ⊢; exact h1.mono hx.stab
  | .agg cs, v, h1 => by simp only [RepAV] at h1 ⊢; obtain ⟨vs, e, h2⟩ := h1; exact ⟨vs, e, ext_repL hx cs h2⟩
  | .tup cs, v, h1 => by simp only [RepAV] at h1 ⊢; obtain ⟨vs, e, h2⟩ := h1; exact ⟨vs, e, ext_repL hx cs h2⟩
  | .fn f cs, v, h1 => by simp only [RepAV] at h1 ⊢; obtain ⟨vs, e, h2⟩ := h1; exact ⟨vs, e, ext_repL hx cs h2⟩
  | .iptr t x off, v, h1 => by
    simp only [RepAV] at h1 ⊢; obtain ⟨b, o, cs, e, hI, h2, h3⟩ := h1
    exact ⟨b, o, cs, e, (hx.stab b hI).1, h2.mono hx.stab, cellsAt_of_block (hx.stab b hI).2 h3⟩
  | .nils, v, h1 | .nilp, v, h1 | .nilf, v, h1 | .nili, v, h1 => by simpa only [RepAV] using h1
  | .ptr r i o, v, h1 => by simp only [RepAV] at h1 ⊢; rw [hx.ι]; exact h1
  | .junk, v, _ => by simp only [RepAV]
  | .own r rg, v, h1 => by
    simp only [RepAV, OwnRep] at h1 ⊢
    obtain ⟨c, hc, hle, h2⟩ := h1
    refine ⟨c, hc, hle, h2.imp id ?_⟩
    rintro ⟨b, o, sz, n, a, hι, hv, hn, ha, arr, ty, hb, hcap⟩
    exact ⟨b, o, sz, n, a, by rw [hx.ι]; exact hι, hv, hn, ha, arr, ty, by rw [hx.own b ⟨r, o, sz, hι⟩]; exact hb, hcap⟩
theorem ext_repL {E E' : Env} {h : List (Option Cont)} {w w' : World} (hx : Ext E w E' w') : (cs : List AV) → {vs : List Value} → RepL E h w cs vs → RepL E' h w' cs vs
  | [], vs, h1 => by simpa only [RepL] using h1
  | c :: cs, vs, h1 => by
    simp only [RepL] at h1; obtain ⟨v, us, rfl, h2, h3⟩ := h1
    exact RepL.cons (ext_rep hx c h2) (ext_repL hx cs h3)
end

theorem HeapOK.ext {E E' : Env} {h : List (Option Cont)} {w w' : World} (H : HeapOK E h w) (hx : Ext E w E' w') (hI : ∀ b, E'.I b → b < w'.heap.size) (hs : w.heap.size ≤ w'.heap.size) (hap : ∀ b, OwnB E b → ¬ E'.I b) : HeapOK E' h w' where
  obj := fun r c hc => (H.obj r c hc).imp id fun ⟨b, o, arr, ty, hι, hb, hfit, hels⟩ => ⟨b, o, arr, ty, by rw [hx.ι]; exact hι, by rw [hx.own b ⟨r, o, _, hι⟩]; exact hb, hfit, fun i hi => by
    obtain ⟨cs, vs, h1, h2, h3, h4⟩ := hels i hi
    exact ⟨cs, vs, h1, h2, ext_repL hx cs h3, h4⟩⟩
  siz := fun r c b o s hc hι => H.siz r c b o s hc (by rw [← hx.ι]; exact hι)
  inj := fun r r' b o s o' s' h1 h2 => H.inj r r' b o s o' s' (by rw [← hx.ι]; exact h1) (by rw [← hx.ι]; exact h2)
  fresh := fun r hr => by rw [hx.ι]; exact H.fresh r hr
  base := fun r b o s h1 => H.base r b o s (by rw [← hx.ι]; exact h1)
  I_lt := hI
  own_lt := fun b hb => Nat.lt_of_lt_of_le (H.own_lt b (by unfold OwnB at *; rw [← hx.ι]; exact hb)) hs
  apart := fun b hb => hap b (by unfold OwnB at *; rw [← hx.ι]; exact hb)

/-- Drawing from the tape changes nothing that is told. -/
theorem Inv.draw {I0 : Nat → Prop} {w0 : World} {E : Env} {h : List (Option Cont)} {w : World} (H : Inv I0 w0 E h w) : Inv I0 w0 E h { w with drawn := w.drawn + 1 } :=
  ⟨H.heap.ext (Ext.refl E w |>.trans ⟨rfl, fun b hb => ⟨hb, rfl⟩, fun _ _ => rfl⟩) H.heap.I_lt (Nat.le_refl _) H.heap.apart, H.below.trans ⟨rfl, rfl, rfl, Nat.le_refl _, fun _ _ => rfl⟩, H.own_new, H.I_sub, H.I_new⟩
theorem Ext.draw (E : Env) (w : World) : Ext E w E { w with drawn := w.drawn + 1 } := ⟨rfl, fun b hb => ⟨hb, rfl⟩, fun _ _ => rfl⟩

/-- What an operation does that changes no object: it yields 'v'. -/
def QSem (P : Program) (T : List AV) (h : List (Option Cont)) (o : Oper) (v : AV) : Prop :=
  ∀ (I0 : Nat → Prop) (w0 : World) (E : Env) (w : World) (a : Act) (next : Act → World → Prop) (Q : Exit → Act → World → Prop), Inv I0 w0 E h w → (∀ x ∈ o.op.operands, RepAV E h w (ev T x) (a.eval x)) →
    (∀ val E' w', Inv I0 w0 E' h w' → Ext E w E' w' → RepAV E' h w' v val → next (a.put o.dst val) w') → o.wp P a w next Q

theorem QSem.of_run {P : Program} {T : List AV} {h : List (Option Cont)} {o : Oper} {v : AV}
    (hr : ∀ (E : Env) (w : World) (ρ : Operand → Value), HeapOK E h w → (∀ x ∈ o.op.operands, RepAV E h w (ev T x) (ρ x)) → ∃ val, (execOp ρ o).run P w = .ok (.value val) w ∧ RepAV E h w v val) : QSem P T h o v := by
  intro I0 w0 E w a next Q hI hop hk
  obtain ⟨val, h1, h2⟩ := hr E w a.eval hI.heap hop
  unfold Oper.wp
  rw [h1]
  exact hk val E w hI (Ext.refl E w) h2

/-- A constant is what it is told to be. -/
theorem rep_const {E : Env} {h : List (Option Cont)} {w : World} (v : Value) : RepAV E h w (.const v) v := by
  unfold AV.const
  split <;> simp only [RepAV, RepC]

/-- Every operand, if the temporaries are as told. -/
def RepT (E : Env) (h : List (Option Cont)) (w : World) (t : List AV) (a : Array Value) : Prop := t.length = a.size ∧ ∀ (i : Nat) (c : AV), t[i]? = some c → ∃ v, a[i]? = some v ∧ RepAV E h w c v

theorem RepT.eval {E : Env} {h : List (Option Cont)} {w : World} {t : List AV} {a : Act} (H : RepT E h w t a.tmps) (x : Operand) : RepAV E h w (ev t x) (a.eval x) := by
  cases x with
  | tmp i =>
    simp only [ev, Act.eval, List.getD_eq_getElem?_getD]
    cases e : t[i]? with
    | none => simp [RepAV]
    | some c =>
      obtain ⟨v, h1, h2⟩ := H.2 i c e
      simpa [h1] using h2
  | const v => exact rep_const v
  | global g => simp [ev, RepAV]
  | func f => simp only [ev, Act.eval, RepAV]; exact ⟨[], by simp, RepL.nil⟩

theorem RepT.put {E : Env} {h : List (Option Cont)} {w : World} {t : List AV} {a : Act} (H : RepT E h w t a.tmps) (d : Option Tmp) {c : AV} {v : Value} (hv : RepAV E h w c v) : RepT E h w (put t d c) (a.put d v).tmps := by
  cases d with
  | none => exact H
  | some d =>
    refine ⟨by simp [Ab.put, Act.put, H.1], fun i c' hi => ?_⟩
    simp only [Ab.put, Act.put] at hi ⊢
    by_cases e : d = i
    · subst e
      rw [List.getElem?_set] at hi
      simp only [if_true] at hi
      split at hi
      · rename_i hlt
        obtain rfl : c = c' := by simpa using hi
        exact ⟨v, by simp [Array.getElem?_setIfInBounds, H.1 ▸ hlt], hv⟩
      · cases hi
    · rw [List.getElem?_set_ne e] at hi
      obtain ⟨u, h1, h2⟩ := H.2 i c' hi
      exact ⟨u, by rw [Array.getElem?_setIfInBounds_ne e]; exact h1, h2⟩

theorem RepT.ext {E E' : Env} {h : List (Option Cont)} {w w' : World} {t : List AV} {a : Array Value} (H : RepT E h w t a) (hx : Ext E w E' w') : RepT E' h w' t a :=
  ⟨H.1, fun i c hi => let ⟨v, h1, h2⟩ := H.2 i c hi; ⟨v, h1, ext_rep hx c h2⟩⟩

/-! ### Loads -/
theorem addr_add (b o j : Nat) : (⟨b, o, none⟩ : Addr).add j = ⟨b, o + j, none⟩ := by unfold Addr.add; split <;> simp_all

theorem tiok_agg {P : Program} {t : TypeId} {i : TI} (h : TIOK P t i) (w : World) : (isAgg t).run P w = .ok i.agg w := by
  obtain ⟨inf, d, h1, h2, _, h3, _⟩ := h
  unfold isAgg TI.agg
  simp only [Sem.run_bind, run_underlying h2, Result.andThen_ok]
  unfold UndOK at h3
  split at h3 <;> first
    | (subst h3; simp [*]; done)
    | (obtain ⟨_, rfl, _⟩ := h3; simp [*]; done)
    | (obtain ⟨_, _, _, rfl⟩ := h3; simp [*]; done)
    | (obtain ⟨_, rfl⟩ := h3; simp [*]; done)
    | (cases d <;> simp_all)

theorem tiok_size {P : Program} {t : TypeId} {i : TI} (h : TIOK P t i) (w : World) : (sizeOf t).run P w = .ok i.size w := by
  obtain ⟨inf, d, h1, h2, h3, _⟩ := h
  simp [sizeOf, typeInfo, h1, h3]

/-- A load where the cells are known. -/
theorem run_loadAt {P : Program} {t : TypeId} {i : TI} (h : TIOK P t i) {E : Env} {hp : List (Option Cont)} {w : World} {b o : Nat} {cs : List AV} {vs : List Value} (hr : RepL E hp w cs vs) (hc : cellsAt w b o vs) {v : AV} (hv : ldCells i cs = some v) :
    ∃ val, (Instr.loadAt t (.pointer (some ⟨b, o, none⟩))).run P w = .ok val w ∧ RepAV E hp w v val := by
  unfold ldCells at hv
  simp only [Instr.loadAt, Instr.sureAddr, loadVar, Sem.run_bind, Sem.run_pure, Result.andThen_ok, tiok_agg h, Sem.run_ite]
  split at hv
  · rename_i ha
    rw [if_pos ha]
    split at hv
    · rename_i hle
      obtain rfl : AV.agg (cs.take i.size) = v := by simpa using hv
      have hl := hr.length
      refine ⟨.agg (vs.take i.size).toArray, ?_, ?_⟩
      · rw [tiok_size h]
        simp only [Result.andThen_ok]
        have := run_loadCells_list (P := P) (w := w) ⟨b, o, none⟩ (vs.take i.size) (fun j v hj => by
          rw [addr_add]
          obtain ⟨hlt, rfl⟩ := List.getElem?_eq_some_iff.1 hj
          have hlt' : j < vs.length := by simp at hlt; omega
          rw [hc j hlt']; simp)
        have e : (vs.take i.size).length = i.size := by simp; omega
        rw [e] at this
        rw [this]; rfl
      · simp only [RepAV]; exact ⟨_, rfl, hr.take _⟩
    · cases hv
  · rename_i ha
    rw [if_neg ha]
    split at hv
    · rename_i c cs'
      obtain rfl : c = v := by simpa using hv
      simp only [RepL] at hr; obtain ⟨u, us, rfl, h1, h2⟩ := hr
      have := hc 0 (by simp)
      simp at this
      exact ⟨u, by simp [this], h1⟩
    · cases hv

theorem cellsAt_drop {w : World} {b o : Nat} {vs : List Value} (h : cellsAt w b o vs) (k : Nat) : cellsAt w b (o + k) (vs.drop k) := fun j hj => by
  simp only [List.length_drop] at hj
  rw [Nat.add_assoc, h (k + j) (by omega)]; simp

/-- The cells of an element of an object. -/
theorem obj_cells {E : Env} {hp : List (Option Cont)} {w : World} (H : HeapOK E hp w) {r j : Nat} {c : Cont} (hc : hp.getD r none = some c) {cs : List AV} (ha : c.at? j = some cs) {b o sz : Nat} (hι : E.ι r = some (b, o, sz)) :
    ∃ vs, vs.length = sz ∧ RepL E hp w cs vs ∧ cellsAt w b (o + j * sz) vs := by
  have hsz := H.siz r c b o sz hc hι
  have hj : j < c.len := by
    cases c with
    | lst t xs => obtain ⟨h1, _⟩ := at_lst ha; exact h1
    | cells n es => exact (List.getElem?_eq_some_iff.1 ha).1
  rcases H.obj r c hc with h0 | ⟨b', o', arr, ty, hι', hb, hfit, hels⟩
  · omega
  · rw [hι] at hι'; obtain ⟨rfl, rfl, hs⟩ : b = b' ∧ o = o' ∧ sz = c.sz := by simpa using hι'
    obtain ⟨cs', vs, h1, h2, h3, h4⟩ := hels j hj
    rw [ha] at h1; obtain rfl : cs = cs' := by simpa using h1
    refine ⟨vs, by omega, h3, fun k hk => ?_⟩
    have := h4 k hk
    simp only [World.cell?, hb, Option.isSome_none, Bool.false_eq_true, if_false]
    rw [← this, hs]

end Go.Ab
