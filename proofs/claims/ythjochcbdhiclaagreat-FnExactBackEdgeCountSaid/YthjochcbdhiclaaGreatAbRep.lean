import Derived.Test.YthjochcbdhiclaaGreatAbDefs
import Derived.Laws.StructEq
import Derived.Laws.Slices
import Derived.Laws.Append
set_option linter.unnecessarySimpa false
set_option linter.unusedVariables false
set_option linter.unusedSimpArgs false
namespace Go.Ab
open Go.RowKit
def cellsAt (w : World) (b o : Nat) (cs : List Value) : Prop := ∀ (j : Nat) (h : j < cs.length), w.cell? ⟨b, o + j, none⟩ = some cs[j]
def RepV' (agg : Bool) (R : List Value → Prop) (v : Value) : Prop := if agg then ∃ cs : List Value, v = .agg cs.toArray ∧ R cs else R [v]
mutual
def RepC (I : Nat → Prop) (w : World) : (t : Ty) → den t → List Value → Prop
  | .int k, n, vs => vs = [.int k n]
  | .bool, b, vs => vs = [.bool b]
  | .str, s, vs => vs = [.string s]
  | .err, e, vs => ∃ v, vs = [v] ∧ (if e then v = .nilIface else ∃ t u, v = .iface t u)
  | .unit, _, vs => vs = []
  | .idx, _, _ => False
  | .prod a b, x, vs => ∃ us ws, vs = us ++ ws ∧ RepC I w a x.1 us ∧ RepC I w b x.2 ws
  | .slice t, xs, vs => ∃ A c, vs = [.slice A (xs : List (den t)).length c] ∧ (xs : List (den t)).length ≤ c ∧ ((xs : List (den t)).length ≠ 0 → ∃ b o, A = some ⟨b, o, none⟩ ∧ I b ∧
      ∀ (i : Nat) (h : i < (xs : List (den t)).length), ∃ cs : List Value, cs.length = t.size ∧ RepC I w t (xs : List (den t))[i] cs ∧ cellsAt w b (o + i * t.size) cs)
  | .iref t, x, vs => match (x : Option (den t)) with
    | none => vs = [.pointer none]
    | some y => ∃ b o cs, vs = [.pointer (some ⟨b, o, none⟩)] ∧ I b ∧ cs.length = t.size ∧ RepC I w t y cs ∧ cellsAt w b o cs
  | .fn f t, x, vs => ∃ us : List Value, vs = [.func (.func f) #[] us.toArray] ∧ RepA I w t x us
def RepA (I : Nat → Prop) (w : World) : (t : Ty) → den t → List Value → Prop
  | .prod a b, x, vs => ∃ v us, vs = v :: us ∧ RepV' a.agg (RepC I w a x.1) v ∧ RepA I w b x.2 us
  | .unit, _, vs => vs = []
  | _, _, _ => False
end
def RepV (I : Nat → Prop) (w : World) (t : Ty) (x : den t) (v : Value) : Prop := RepV' t.agg (RepC I w t x) v
def Stab (I : Nat → Prop) (w : World) (I' : Nat → Prop) (w' : World) : Prop := ∀ b, I b → I' b ∧ w'.heap[b]? = w.heap[b]?
theorem cellsAt_of_block {w w' : World} {b o : Nat} {cs : List Value} (h : w'.heap[b]? = w.heap[b]?) (hc : cellsAt w b o cs) : cellsAt w' b o cs :=
  fun j hj => (World.cell?_of_block (w := w) (w' := w') (a := ⟨b, o + j, none⟩) h).trans (hc j hj)
theorem RepV'_mono {agg : Bool} {R R' : List Value → Prop} (h : ∀ cs, R cs → R' cs) {v : Value} (hv : RepV' agg R v) : RepV' agg R' v := by
  unfold RepV' at *
  split
  · rename_i e; rw [if_pos e] at hv; obtain ⟨cs, e1, e2⟩ := hv; exact ⟨cs, e1, h _ e2⟩
  · rename_i e; rw [if_neg e] at hv; exact h _ hv
theorem rep_mono {I I' : Nat → Prop} {w w' : World} (hs : Stab I w I' w') : (t : Ty) → (∀ (x : den t) vs, RepC I w t x vs → RepC I' w' t x vs) ∧ (∀ (x : den t) vs, RepA I w t x vs → RepA I' w' t x vs)
  | .int _ | .bool | .str | .err | .unit | .idx => ⟨fun _ _ h => by simpa only [RepC] using h, fun _ _ h => by simpa only [RepA] using h⟩
  | .prod a b => ⟨fun x vs h => by
      simp only [RepC] at h ⊢
      obtain ⟨us, ws, e, h1, h2⟩ := h
      exact ⟨us, ws, e, (rep_mono hs a).1 _ _ h1, (rep_mono hs b).1 _ _ h2⟩, fun x vs h => by
      simp only [RepA] at h ⊢
      obtain ⟨v, us, e, h1, h2⟩ := h
      exact ⟨v, us, e, RepV'_mono (fun cs hc => (rep_mono hs a).1 _ _ hc) h1, (rep_mono hs b).2 _ _ h2⟩⟩
  | .slice t => ⟨fun x vs h => by
      simp only [RepC] at h ⊢
      obtain ⟨A, c, e, hlc, h1⟩ := h
      refine ⟨A, c, e, hlc, fun hn => ?_⟩
      obtain ⟨b, o, e1, hI, h2⟩ := h1 hn
      refine ⟨b, o, e1, (hs b hI).1, fun i hi => ?_⟩
      obtain ⟨cs, e2, h3, h4⟩ := h2 i hi
      exact ⟨cs, e2, (rep_mono hs t).1 _ _ h3, cellsAt_of_block (hs b hI).2 h4⟩, fun _ _ h => by simpa only [RepA] using h⟩
  | .iref t => ⟨fun x vs h => by
      cases x with
      | none => simpa only [RepC] using h
      | some y =>
        simp only [RepC] at h ⊢
        obtain ⟨b, o, cs, e, hI, e2, h3, h4⟩ := h
        exact ⟨b, o, cs, e, (hs b hI).1, e2, (rep_mono hs t).1 _ _ h3, cellsAt_of_block (hs b hI).2 h4⟩, fun _ _ h => by simpa only [RepA] using h⟩
  | .fn f t => ⟨fun x vs h => by
      simp only [RepC] at h ⊢
      obtain ⟨us, e, h1⟩ := h
      exact ⟨us, e, (rep_mono hs t).2 _ _ h1⟩, fun _ _ h => by simpa only [RepA] using h⟩
theorem RepC.mono {I I' : Nat → Prop} {w w' : World} {t : Ty} {x : den t} {vs : List Value} (hs : Stab I w I' w') (h : RepC I w t x vs) : RepC I' w' t x vs := (rep_mono hs t).1 x vs h
theorem RepA.mono {I I' : Nat → Prop} {w w' : World} {t : Ty} {x : den t} {vs : List Value} (hs : Stab I w I' w') (h : RepA I w t x vs) : RepA I' w' t x vs := (rep_mono hs t).2 x vs h
theorem RepV.mono {I I' : Nat → Prop} {w w' : World} {t : Ty} {x : den t} {v : Value} (hs : Stab I w I' w') (h : RepV I w t x v) : RepV I' w' t x v := RepV'_mono (fun _ hc => hc.mono hs) h
theorem RepC.length {I : Nat → Prop} {w : World} : (t : Ty) → {x : den t} → {vs : List Value} → RepC I w t x vs → vs.length = t.size
  | .int _, _, _, h | .bool, _, _, h | .str, _, _, h | .unit, _, _, h => by simp only [RepC] at h; subst h; rfl
  | .err, _, _, h => by simp only [RepC] at h; obtain ⟨v, rfl, _⟩ := h; rfl
  | .idx, _, _, h => by simp only [RepC] at h
  | .prod a b, _, _, h => by
    simp only [RepC] at h; obtain ⟨us, ws, rfl, h1, h2⟩ := h
    rw [List.length_append, RepC.length a h1, RepC.length b h2]; rfl
  | .slice t, _, _, h => by simp only [RepC] at h; obtain ⟨A, c, rfl, _⟩ := h; rfl
  | .iref t, x, _, h => by
    cases x with
    | none => simp only [RepC] at h; subst h; rfl
    | some y => simp only [RepC] at h; obtain ⟨_, _, _, rfl, _⟩ := h; rfl
  | .fn f t, _, _, h => by simp only [RepC] at h; obtain ⟨us, rfl, _⟩ := h; rfl
structure Env where
  ι : Nat → Option (Nat × Nat) → Option (Nat × Nat)
  I : Nat → Prop
def nested (ro : Bool) (t : Ty) (xs : List (den t)) (i k : Nat) : Option Cont :=
  (xs[i]?).bind fun x => match (flat t x)[k]? with
    | some (.pv (.slice u) ys) => some (.lst ro u ys)
    | _ => none
inductive RefSt where
  | no | off | on (c : Cont)
def stat (h : Heap) (r : Nat) : Sub → RefSt
  | none => match h.getD r none with
    | none => .no
    | some .dead => .off
    | some c => .on c
  | some (i, k, v) => match h.getD r none with
    | none => .no
    | some (.tree ro ver t xs ho) => if ver < v then .no else if v < ver ∨ ho = some (i, k) then .off else match nested ro t xs i k with
      | some c => .on c
      | none => .no
    | some (.cells _ _) => .no
    | some (.lst _ _ _) => .off
    | some (.shp _ _) => .off
    | some .dead => .off
def key : Sub → Option (Nat × Nat)
  | none => none
  | some (i, k, _) => some (i, k)
def OwnRep (E : Env) (w : World) (r : Nat) (s : Sub) (c : Cont) (rg : Option (Nat × Nat)) (v : Value) : Prop :=
  (rg.getD (0, c.len)).1 + (rg.getD (0, c.len)).2 ≤ c.len ∧
    ((c.len = 0 ∧ v = .slice none 0 0) ∨
     ∃ b n a, E.ι r (key s) = some (b, c.sz) ∧ v = .slice (some a) (rg.getD (0, c.len)).2 n ∧ (rg.getD (0, c.len)).2 ≤ n ∧ (n ≠ 0 → a = ⟨b, (rg.getD (0, c.len)).1 * c.sz, none⟩) ∧
       ∃ arr ty, w.heap[b]? = some (.cells arr ty (0, 0)) ∧ (rg.getD (0, c.len)).1 * c.sz + n * c.sz ≤ arr.size)
def OwnAV (E : Env) (h : Heap) (w : World) (r : Nat) (s : Sub) (rg : Option (Nat × Nat)) (v : Value) : Prop :=
  match stat h r s with
  | .no => False
  | .off => v.oneCell' = true
  | .on c => OwnRep E w r s c rg v
def PtrAV (E : Env) (h : Heap) (r : Nat) (s : Sub) (i off : Nat) (v : Value) : Prop :=
  match stat h r s with
  | .no => False
  | .off => ∃ a, v = .pointer (some a)
  | .on c => ∃ b, E.ι r (key s) = some (b, c.sz) ∧ v = .pointer (some ⟨b, i * c.sz + off, none⟩)
mutual
def RepAV (E : Env) (h : Heap) (w : World) : AV → Value → Prop
  | .pv t x, v => RepC E.I w t x [v]
  | .agg cs, v => ∃ vs : List Value, v = .agg vs.toArray ∧ RepL E h w cs vs
  | .tup cs, v => ∃ vs : List Value, v = .tuple vs.toArray ∧ RepL E h w cs vs
  | .own r s rg, v => OwnAV E h w r s rg v
  | .ptr r s i off, v => PtrAV E h r s i off v
  | .mptr r k ver off o, v => match o with
    | none => v = .pointer none
    | some p => PtrAV E h r (some (p.1, k, ver)) p.2 off v
  | .iptr t x off, v => ∃ b o cs, v = .pointer (some ⟨b, o + off, none⟩) ∧ E.I b ∧ RepC E.I w t x cs ∧ cellsAt w b o cs
  | .nils, v => v = .slice none 0 0
  | .nilp, v => v = .pointer none
  | .nilf, v => v = .nilFunc
  | .nili, v => v = .nilIface
  | .fn f cap, v => ∃ us : List Value, v = .func (.func f) #[] us.toArray ∧ RepL E h w cap us
  | .unk, v => ∃ b, v = .bool b
  | .junk, _ => True
def RepL (E : Env) (h : Heap) (w : World) : List AV → List Value → Prop
  | [], vs => vs = []
  | c :: cs, vs => ∃ v us, vs = v :: us ∧ RepAV E h w c v ∧ RepL E h w cs us
end
theorem RepL.nil {E : Env} {h : Heap} {w : World} : RepL E h w [] [] := by simp [RepL]
theorem RepL.cons {E : Env} {h : Heap} {w : World} {c : AV} {cs : List AV} {v : Value} {vs : List Value} (h1 : RepAV E h w c v) (h2 : RepL E h w cs vs) : RepL E h w (c :: cs) (v :: vs) := by
  simp only [RepL]; exact ⟨v, vs, rfl, h1, h2⟩
theorem RepL.append {E : Env} {h : Heap} {w : World} : {cs ds : List AV} → {us vs : List Value} → RepL E h w cs us → RepL E h w ds vs → RepL E h w (cs ++ ds) (us ++ vs)
  | [], _, _, _, h1, h2 => by simp only [RepL] at h1; subst h1; simpa using h2
  | c :: cs, _, _, _, h1, h2 => by
    simp only [RepL] at h1; obtain ⟨v, us, rfl, h3, h4⟩ := h1
    exact RepL.cons h3 (RepL.append h4 h2)
theorem RepL.length {E : Env} {h : Heap} {w : World} : {cs : List AV} → {vs : List Value} → RepL E h w cs vs → cs.length = vs.length
  | [], _, h1 => by simp only [RepL] at h1; subst h1; rfl
  | c :: cs, _, h1 => by simp only [RepL] at h1; obtain ⟨v, us, rfl, _, h4⟩ := h1; simp [RepL.length h4]
theorem RepL.get {E : Env} {h : Heap} {w : World} : {cs : List AV} → {vs : List Value} → RepL E h w cs vs → (i : Nat) → {c : AV} → cs[i]? = some c → ∃ v, vs[i]? = some v ∧ RepAV E h w c v
  | [], _, _, _, _, e => by simp at e
  | c :: cs, _, h1, i, d, e => by
    simp only [RepL] at h1; obtain ⟨v, us, rfl, h3, h4⟩ := h1
    cases i with
    | zero => simp at e; subst e; exact ⟨v, rfl, h3⟩
    | succ i => simpa using RepL.get h4 i (by simpa using e)
theorem RepL.of {E : Env} {h : Heap} {w : World} : {cs : List AV} → {vs : List Value} → cs.length = vs.length → (∀ (i : Nat) (h1 : i < cs.length) (h2 : i < vs.length), RepAV E h w cs[i] vs[i]) → RepL E h w cs vs
  | [], [], _, _ => RepL.nil
  | c :: cs, v :: vs, e, hh => RepL.cons (hh 0 (by simp) (by simp)) (RepL.of (by simpa using e) (fun i h1 h2 => hh (i + 1) (by simpa using h1) (by simpa using h2)))
theorem RepL.take {E : Env} {h : Heap} {w : World} (n : Nat) : {cs : List AV} → {vs : List Value} → RepL E h w cs vs → RepL E h w (cs.take n) (vs.take n) := by
  induction n with
  | zero => intro cs vs _; simp [RepL.nil]
  | succ n ih =>
    intro cs vs h1
    cases cs with
    | nil => simp only [RepL] at h1; subst h1; simp [RepL.nil]
    | cons c cs => simp only [RepL] at h1; obtain ⟨v, us, rfl, h3, h4⟩ := h1; exact RepL.cons h3 (ih h4)
theorem RepL.drop {E : Env} {h : Heap} {w : World} (n : Nat) : {cs : List AV} → {vs : List Value} → RepL E h w cs vs → RepL E h w (cs.drop n) (vs.drop n) := by
  induction n with
  | zero => intro cs vs h1; simpa using h1
  | succ n ih =>
    intro cs vs h1
    cases cs with
    | nil => simp only [RepL] at h1; subst h1; simp [RepL.nil]
    | cons c cs => simp only [RepL] at h1; obtain ⟨v, us, rfl, h3, h4⟩ := h1; exact ih h4
theorem rep_flat {E : Env} {h : Heap} {w : World} : (t : Ty) → {x : den t} → {vs : List Value} → RepC E.I w t x vs → RepL E h w (flat t x) vs
  | .prod a b, x, _, h1 => by
    simp only [RepC] at h1; obtain ⟨us, ws, rfl, h2, h3⟩ := h1
    exact RepL.append (rep_flat a h2) (rep_flat b h3)
  | .unit, _, _, h1 => by simp only [RepC] at h1; subst h1; exact RepL.nil
  | .idx, _, _, h1 => by simp only [RepC] at h1
  | .int k, x, vs, h1 | .bool, x, vs, h1 | .str, x, vs, h1 => by
    have h2 := h1; simp only [RepC] at h2; subst h2
    exact RepL.cons (by simpa only [RepAV] using h1) RepL.nil
  | .err, x, vs, h1 => by
    have h2 := h1; simp only [RepC] at h2; obtain ⟨v, rfl, _⟩ := h2
    exact RepL.cons (by simpa only [RepAV] using h1) RepL.nil
  | .slice t, x, vs, h1 => by
    have h2 := h1; simp only [RepC] at h2; obtain ⟨A, c, rfl, _⟩ := h2
    exact RepL.cons (by simpa only [RepAV] using h1) RepL.nil
  | .iref t, x, vs, h1 => by
    have h2 : ∃ v, vs = [v] := by
      cases x with
      | none => simp only [RepC] at h1; exact ⟨_, h1⟩
      | some y => simp only [RepC] at h1; obtain ⟨_, _, _, e, _⟩ := h1; exact ⟨_, e⟩
    obtain ⟨v, rfl⟩ := h2
    exact RepL.cons (by simpa only [RepAV] using h1) RepL.nil
  | .fn f t, x, vs, h1 => by
    have h2 := h1; simp only [RepC] at h2; obtain ⟨us, rfl, _⟩ := h2
    exact RepL.cons (by simpa only [RepAV] using h1) RepL.nil
theorem flat_single {t : Ty} (x : den t) (ht : t.agg = false) : flat t x = [.pv t x] := by cases t <;> first | rfl | simp [Ty.agg] at ht
theorem rep_up {E : Env} {h : Heap} {w : World} {t : Ty} {x : den t} {v : Value} (hv : RepV E.I w t x v) : RepAV E h w (up t x) v := by
  unfold RepV RepV' at hv
  unfold up
  split
  · rename_i e; rw [if_pos e] at hv; obtain ⟨cs, rfl, h1⟩ := hv
    simp only [RepAV]; exact ⟨cs, rfl, rep_flat t h1⟩
  · rename_i e; rw [if_neg e] at hv
    rw [flat_single x (by simpa using e)]; simpa only [List.headD_cons, RepAV] using hv
theorem rep_ups {E : Env} {h : Heap} {w : World} : (t : Ty) → {x : den t} → {vs : List Value} → RepA E.I w t x vs → RepL E h w (ups t x) vs
  | .prod a b, x, _, h1 => by
    simp only [RepA] at h1; obtain ⟨v, us, rfl, h2, h3⟩ := h1
    exact RepL.cons (rep_up h2) (rep_ups b h3)
  | .unit, _, _, h1 => by simp only [RepA] at h1; subst h1; exact RepL.nil
  | .int _, _, _, h1 | .bool, _, _, h1 | .str, _, _, h1 | .err, _, _, h1 | .idx, _, _, h1 | .slice _, _, _, h1 | .iref _, _, _, h1 | .fn _ _, _, _, h1 => by simp only [RepA] at h1
end Go.Ab
