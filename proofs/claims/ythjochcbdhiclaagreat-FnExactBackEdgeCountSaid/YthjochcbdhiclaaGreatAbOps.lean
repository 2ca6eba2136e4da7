import Derived.Test.YthjochcbdhiclaaGreatAbInv
import Derived.Test.YthjochcbdhiclaaGreatAbEv
import Derived.Laws.StructEq
import Derived.Laws.Slices
import Derived.Laws.Append
import Derived.Orders
set_option linter.unnecessarySimpa false
set_option linter.unusedVariables false
set_option linter.unusedSimpArgs false
namespace Go.Ab
open Go.RowKit
def UndOK (P : Program) (t : TypeId) (u : Und) (d : TypeDesc) : Prop :=
  match u with
  | .int k => d = .int k
  | .bool => d = .bool
  | .str => d = .string
  | .slice e => d = .slice e
  | .struct fs => ∃ fields : Array Field, d = .struct fields ∧ fields.toList.map (fun f => (f.offset, f.type)) = fs ∧ (fields.toList.all fun f => f.name != "_") = true ∧ P.stoodInHeld t = false ∧ P.eqGuardType P.depth t = false ∧ ∀ f ∈ fields, (P.info? f.type).isSome = true
  | .arr n e => d = .array n e
  | .ptr e => d = .pointer e
  | .iface => ∃ ms, d = .interface ms
  | .func => ∃ a b c, d = .func a b c
  | .other => (match d with | .struct _ | .array _ _ => false | _ => true) = true
def TIOK (P : Program) (t : TypeId) (i : TI) : Prop := ∃ inf d, P.info? t = some inf ∧ P.underlying t = some d ∧ inf.size = i.size ∧ UndOK P t i.und d ∧
  (∃ zv, inf.zero = some zv ∧ i.zero = zv.cells.toList.map AV.const ∧ zv.cells.size = i.size) ∧ i.lim * inf.bytes ≤ 35184372088832 ∧ i.lim ≤ 35184372088832
structure TabOK (P : Program) (C : Cfg) : Prop where
  ti : ∀ t i, C.info t = some i → TIOK P t i
structure Fr where
  E0 : Env
  h0 : Heap
  w0 : World
  B0 : Nat → Prop
abbrev Fr.I0 (F : Fr) : Nat → Prop := F.E0.I
structure Bel (B0 : Nat → Prop) (w0 w : World) : Prop where
  os : w.os = w0.os
  tape : w.tape = w0.tape
  output : w.output = w0.output ∧ w0.drawn ≤ w.drawn
  size : w0.heap.size ≤ w.heap.size
  blk : ∀ b, b < w0.heap.size → ¬ B0 b → w.heap[b]? = w0.heap[b]?
  asz : ∀ b, B0 b → ∀ arr ty, w0.heap[b]? = some (.cells arr ty (0, 0)) → ∃ arr', w.heap[b]? = some (.cells arr' ty (0, 0)) ∧ arr'.size = arr.size
theorem Bel.refl (B0 : Nat → Prop) (w : World) : Bel B0 w w := ⟨rfl, rfl, ⟨rfl, Nat.le_refl _⟩, Nat.le_refl _, fun _ _ _ => rfl, fun b _ arr ty h => ⟨arr, h, rfl⟩⟩
theorem Bel.step {B0 D : Nat → Prop} {w0 w w' : World} (h : Bel B0 w0 w) (k : Bel D w w') (hD : ∀ b, D b → B0 b ∨ w0.heap.size ≤ b) (hB : ∀ b, B0 b → b < w0.heap.size) : Bel B0 w0 w' where
  os := k.os.trans h.os
  tape := k.tape.trans h.tape
  output := ⟨k.output.1.trans h.output.1, Nat.le_trans h.output.2 k.output.2⟩
  size := Nat.le_trans h.size k.size
  blk := fun b hb hn => by
    rw [k.blk b (Nat.lt_of_lt_of_le hb h.size) (fun hd => (hD b hd).elim hn (fun h1 => by omega))]
    exact h.blk b hb hn
  asz := fun b hb arr ty ha => by
    obtain ⟨a1, h1, h2⟩ := h.asz b hb arr ty ha
    rcases Classical.em (D b) with hd | hd
    · obtain ⟨a2, h3, h4⟩ := k.asz b hd a1 ty h1
      exact ⟨a2, h3, h4.trans h2⟩
    · exact ⟨a1, by rw [k.blk b (Nat.lt_of_lt_of_le (hB b hb) h.size) hd]; exact h1, h2⟩
structure Kept (E : Env) (h : Heap) (w : World) (E' : Env) (h' : Heap) (w' : World) : Prop where
  stab : Stab E.I w E'.I w'
  on : ∀ r s c, stat h r s = .on c → stat h' r s = .off ∨ ∃ c', stat h' r s = .on c' ∧ c'.len = c.len ∧ c'.sz = c.sz ∧ E'.ι r (key s) = E.ι r (key s) ∧
    ∀ b, E.ι r (key s) = some (b, c.sz) → ∀ arr ty, w.heap[b]? = some (.cells arr ty (0, 0)) → ∃ arr', w'.heap[b]? = some (.cells arr' ty (0, 0)) ∧ arr'.size = arr.size
theorem Kept.trans {E E' E'' : Env} {h h' h'' : Heap} {w w' w'' : World} (a : Kept E h w E' h' w') (b : Keep E' h' w' E'' h'' w'') : Kept E h w E'' h'' w'' := by
  refine ⟨fun k hk => ⟨(b.stab k (a.stab k hk).1).1, ((b.stab k (a.stab k hk).1).2).trans (a.stab k hk).2⟩, fun r s c e => ?_⟩
  rcases a.on r s c e with h1 | ⟨c', h1, hl, hs, hι, hb⟩
  · exact .inl (b.off r s h1)
  · rcases b.on r s c' h1 with h2 | ⟨c'', h2, hl', hs', hι', hb'⟩
    · exact .inl h2
    · refine .inr ⟨c'', h2, hl'.trans hl, hs'.trans hs, hι'.trans hι, fun k hk arr ty ha => ?_⟩
      obtain ⟨a1, m1, m2⟩ := hb k hk arr ty ha
      obtain ⟨a2, m3, m4⟩ := hb' k (by rw [hs, hι]; exact hk) a1 ty m1
      exact ⟨a2, m3, m4.trans m2⟩
theorem Keep.kept {E E' : Env} {h h' : Heap} {w w' : World} (a : Keep E h w E' h' w') : Kept E h w E' h' w' := ⟨a.stab, a.on⟩
structure Inv (F : Fr) (E : Env) (h : Heap) (w : World) : Prop where
  heap : HeapOK E h w
  bel : Bel F.B0 F.w0 w
  B_lt : ∀ b, F.B0 b → b < F.w0.heap.size
  own_new : ∀ r κ b n, E.ι r κ = some (b, n) → roAt h r = false → F.B0 b ∨ F.w0.heap.size ≤ b
  I_new : ∀ b, E.I b → F.I0 b ∨ F.B0 b ∨ F.w0.heap.size ≤ b
  kept : Kept F.E0 F.h0 F.w0 E h w
  fixed : ∀ r, roAt F.h0 r = true → h.getD r none = F.h0.getD r none ∨ h.getD r none = some .dead
theorem Inv.I_sub {F : Fr} {E : Env} {h : Heap} {w : World} (H : Inv F E h w) : ∀ b, F.I0 b → E.I b := fun b hb => (H.kept.stab b hb).1
def QSem (P : Program) (T : List AV) (h : Heap) (o : Oper) (v : AV) : Prop :=
  ∀ (F : Fr) (E : Env) (w : World) (a : Act) (next : Act → World → Prop) (Q : Exit → Act → World → Prop), Inv F E h w → (∀ x ∈ o.op.operands, RepAV E h w (ev T x) (a.eval x)) →
    (∀ val E' w', Inv F E' h w' → Keep E h w E' h w' → RepAV E' h w' v val → next (a.put o.dst val) w') → o.wp P a w next Q
theorem QSem.of_run {P : Program} {T : List AV} {h : Heap} {o : Oper} {v : AV}
    (hr : ∀ (E : Env) (w : World) (ρ : Operand → Value), HeapOK E h w → (∀ x ∈ o.op.operands, RepAV E h w (ev T x) (ρ x)) → ∃ val, (execOp ρ o).run P w = .ok (.value val) w ∧ RepAV E h w v val) : QSem P T h o v := by
  intro F E w a next Q hI hop hk
  obtain ⟨val, h1, h2⟩ := hr E w a.eval hI.heap hop
  unfold Oper.wp
  rw [h1]
  exact hk val E w hI (Keep.refl E h w) h2
theorem keep_draw (E : Env) (h : Heap) (w : World) : Keep E h w E h { w with drawn := w.drawn + 1 } :=
  ⟨fun b hb => ⟨hb, rfl⟩, fun _ _ e => e, fun r s c e => .inr ⟨c, e, rfl, rfl, rfl, fun b hb arr ty ha => ⟨arr, ha, rfl⟩⟩⟩
theorem HeapOK.ext {E E' : Env} {h : Heap} {w w' : World} (H : HeapOK E h w) (hx : Keep E h w E' h w') (hι : E'.ι = E.ι) (hb : ∀ b, BlkB E b → w'.heap[b]? = w.heap[b]?) (hI : ∀ b, E'.I b → b < w'.heap.size) (hs : w.heap.size ≤ w'.heap.size)
    (hap : ∀ r κ b n, E.ι r κ = some (b, n) → roAt h r = false → ¬ E'.I b) : HeapOK E' h w' where
  obj := fun r s c hc => (H.obj r s c hc).imp id fun ⟨b, arr, ty, h1, h2, h3, h4⟩ => ⟨b, arr, ty, by rw [hι]; exact h1, by rw [hb b ⟨_, _, _, h1⟩]; exact h2, h3, fun i hi => by
    obtain ⟨cs, vs, k1, k2, k3, k4⟩ := h4 i hi
    exact ⟨cs, vs, k1, k2, keep_repL hx cs k3, k4⟩⟩
  siz := fun r s c b n hc h1 => H.siz r s c b n hc (by rw [← hι]; exact h1)
  inj := fun r κ r' κ' b n n' h1 h2 => H.inj r κ r' κ' b n n' (by rw [← hι]; exact h1) (by rw [← hι]; exact h2)
  live := fun r κ x h1 => H.live r κ x (by rw [← hι]; exact h1)
  I_lt := hI
  own_lt := fun b ⟨r, κ, n, h1⟩ => Nat.lt_of_lt_of_le (H.own_lt b ⟨r, κ, n, by rw [← hι]; exact h1⟩) hs
  apart := fun r κ b n h1 h2 => hap r κ b n (by rw [← hι]; exact h1) h2
  roI := fun r κ b n h1 h2 => (hx.stab b (H.roI r κ b n (by rw [← hι]; exact h1) h2)).1
theorem Inv.draw {F : Fr} {E : Env} {h : Heap} {w : World} (H : Inv F E h w) : Inv F E h { w with drawn := w.drawn + 1 } :=
  ⟨H.heap.ext (keep_draw E h w) rfl (fun _ _ => rfl) H.heap.I_lt (Nat.le_refl _) H.heap.apart, ⟨H.bel.os, H.bel.tape, ⟨H.bel.output.1, Nat.le_succ_of_le H.bel.output.2⟩, H.bel.size, H.bel.blk, H.bel.asz⟩, H.B_lt, H.own_new, H.I_new, H.kept.trans (keep_draw E h w), H.fixed⟩
theorem rep_const {E : Env} {h : Heap} {w : World} (v : Value) : RepAV E h w (.const v) v := by
  unfold AV.const
  split <;> simp only [RepAV, RepC]
def RepT (E : Env) (h : Heap) (w : World) (t : List AV) (a : Array Value) : Prop := t.length = a.size ∧ ∀ (i : Nat) (c : AV), t[i]? = some c → ∃ v, a[i]? = some v ∧ RepAV E h w c v
theorem RepT.eval {E : Env} {h : Heap} {w : World} {t : List AV} {a : Act} (H : RepT E h w t a.tmps) (x : Operand) : RepAV E h w (ev t x) (a.eval x) := by
  cases x with
  | tmp i =>
    simp only [ev, Act.eval, List.getD_eq_getElem?_getD]
    cases e : t[i]? with
    | none => simp [RepAV]
    | some c =>
      obtain ⟨v, h1, h2⟩ := H.2 i c e
      simpa [h1] using h2
  | const v => exact rep_const v
  | global g => simp [ev, RepAV]
  | func f => simp only [ev, Act.eval, RepAV]; exact ⟨[], by simp, RepL.nil⟩
theorem RepT.put {E : Env} {h : Heap} {w : World} {t : List AV} {a : Act} (H : RepT E h w t a.tmps) (d : Option Tmp) {c : AV} {v : Value} (hv : RepAV E h w c v) : RepT E h w (put t d c) (a.put d v).tmps := by
  cases d with
  | none => exact H
  | some d =>
    refine ⟨by simp [Ab.put, Act.put, H.1], fun i c' hi => ?_⟩
    simp only [Ab.put, Act.put] at hi ⊢
    by_cases e : d = i
    · subst e
      rw [List.getElem?_set] at hi
      simp only [if_true] at hi
      split at hi
      · rename_i hlt
        obtain rfl : c = c' := by simpa using hi
        exact ⟨v, by simp [Array.getElem?_setIfInBounds, H.1 ▸ hlt], hv⟩
      · cases hi
    · rw [List.getElem?_set_ne e] at hi
      obtain ⟨u, h1, h2⟩ := H.2 i c' hi
      exact ⟨u, by rw [Array.getElem?_setIfInBounds_ne e]; exact h1, h2⟩
theorem RepT.keep {E E' : Env} {h h' : Heap} {w w' : World} {t : List AV} {a : Array Value} (H : RepT E h w t a) (hx : Keep E h w E' h' w') : RepT E' h' w' t a :=
  ⟨H.1, fun i c hi => let ⟨v, h1, h2⟩ := H.2 i c hi; ⟨v, h1, keep_rep hx c h2⟩⟩
theorem addr_add (b o j : Nat) : (⟨b, o, none⟩ : Addr).add j = ⟨b, o + j, none⟩ := by unfold Addr.add; split <;> simp_all
theorem tiok_agg {P : Program} {t : TypeId} {i : TI} (h : TIOK P t i) (w : World) : (isAgg t).run P w = .ok i.agg w := by
  obtain ⟨inf, d, h1, h2, _, h3, _⟩ := h
  unfold isAgg TI.agg
  simp only [Sem.run_bind, run_underlying h2, Result.andThen_ok]
  unfold UndOK at h3
  split at h3 <;> first
    | (subst h3; simp [*]; done)
    | (obtain ⟨_, rfl, _⟩ := h3; simp [*]; done)
    | (obtain ⟨_, _, _, rfl⟩ := h3; simp [*]; done)
    | (obtain ⟨_, rfl⟩ := h3; simp [*]; done)
    | (cases d <;> simp_all)
theorem tiok_size {P : Program} {t : TypeId} {i : TI} (h : TIOK P t i) (w : World) : (sizeOf t).run P w = .ok i.size w := by
  obtain ⟨inf, d, h1, h2, h3, _⟩ := h
  simp [sizeOf, typeInfo, h1, h3]
theorem run_loadAt {P : Program} {t : TypeId} {i : TI} (h : TIOK P t i) {E : Env} {hp : Heap} {w : World} {b o : Nat} {cs : List AV} {vs : List Value} (hr : RepL E hp w cs vs) (hc : cellsAt w b o vs) {v : AV} (hv : ldCells i cs = some v) :
    ∃ val, (Instr.loadAt t (.pointer (some ⟨b, o, none⟩))).run P w = .ok val w ∧ RepAV E hp w v val := by
  unfold ldCells at hv
  simp only [Instr.loadAt, Instr.sureAddr, loadVar, Sem.run_bind, Sem.run_pure, Result.andThen_ok, tiok_agg h, Sem.run_ite]
  split at hv
  · rename_i ha
    rw [if_pos ha]
    split at hv
    · rename_i hle
      obtain rfl : AV.agg (cs.take i.size) = v := by simpa using hv
      have hl := hr.length
      refine ⟨.agg (vs.take i.size).toArray, ?_, ?_⟩
      · rw [tiok_size h]
        simp only [Result.andThen_ok]
        have := run_loadCells_list (P := P) (w := w) ⟨b, o, none⟩ (vs.take i.size) (fun j v hj => by
          rw [addr_add]
          obtain ⟨hlt, rfl⟩ := List.getElem?_eq_some_iff.1 hj
          have hlt' : j < vs.length := by simp at hlt; omega
          rw [hc j hlt']; simp)
        have e : (vs.take i.size).length = i.size := by simp; omega
        rw [e] at this
        rw [this]; rfl
      · simp only [RepAV]; exact ⟨_, rfl, hr.take _⟩
    · cases hv
  · rename_i ha
    rw [if_neg ha]
    split at hv
    · rename_i c cs'
      obtain rfl : c = v := by simpa using hv
      simp only [RepL] at hr; obtain ⟨u, us, rfl, h1, h2⟩ := hr
      have := hc 0 (by simp)
      simp at this
      exact ⟨u, by simp [this], h1⟩
    · cases hv
theorem cellsAt_drop {w : World} {b o : Nat} {vs : List Value} (h : cellsAt w b o vs) (k : Nat) : cellsAt w b (o + k) (vs.drop k) := fun j hj => by
  simp only [List.length_drop] at hj
  rw [Nat.add_assoc, h (k + j) (by omega)]; simp
end Go.Ab
