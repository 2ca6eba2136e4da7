import Derived.Test.YthjochcbdhiclaaGreatAbQ6
set_option linter.unnecessarySimpa false
set_option linter.unusedVariables false
set_option linter.unusedSimpArgs false
namespace Go.Ab
open Go.RowKit
def ObjOK (E : Env) (h : Heap) (w : World) (r : Nat) (s : Sub) (c : Cont) : Prop :=
  c.len = 0 ∨ ∃ b arr ty, E.ι r (key s) = some (b, c.sz) ∧ w.heap[b]? = some (.cells arr ty (0, 0)) ∧ c.len * c.sz ≤ arr.size ∧
    ∀ i, i < c.len → ∃ cs vs, c.at? r i = some cs ∧ vs.length = c.sz ∧ RepL E h w cs vs ∧ ∀ (j : Nat) (hj : j < vs.length), arr[i * c.sz + j]? = some vs[j]
theorem stat_congr {h h' : Heap} {r : Nat} (e : h'.getD r none = h.getD r none) (s : Sub) : stat h' r s = stat h r s := by
  cases s with
  | none => simp only [stat, e]
  | some p => simp only [stat, e]
theorem roAt_congr {h h' : Heap} {r : Nat} (e : h'.getD r none = h.getD r none) : roAt h' r = roAt h r := by unfold roAt; rw [e]
structure Touch (D : Nat → Prop) (E : Env) (h : Heap) (w : World) (E' : Env) (h' : Heap) (w' : World) : Prop where
  hh : ∀ r, ¬ D r → h'.getD r none = h.getD r none
  hι : ∀ r κ, ¬ D r → E'.ι r κ = E.ι r κ
  II : ∀ b, E.I b → E'.I b
  size : w.heap.size ≤ w'.heap.size
  os : w'.os = w.os
  tape : w'.tape = w.tape
  output : w'.output = w.output ∧ w.drawn ≤ w'.drawn
  blk : ∀ b, b < w.heap.size → (∀ r κ n, D r → roAt h r = false → E.ι r κ ≠ some (b, n)) → w'.heap[b]? = w.heap[b]?
  asz : ∀ (b : Nat) (arr : Array Value) (ty : TypeId), w.heap[b]? = some (Obj.cells arr ty (0, 0)) → ∃ arr' : Array Value, w'.heap[b]? = some (Obj.cells arr' ty (0, 0)) ∧ arr'.size = arr.size
  off : ∀ r s, D r → stat h r s = .off → stat h' r s = .off
  on : ∀ r s c, D r → stat h r s = .on c → stat h' r s = .off ∨ ∃ c', stat h' r s = .on c' ∧ c'.len = c.len ∧ c'.sz = c.sz ∧ E'.ι r (key s) = E.ι r (key s)
  som : ∀ r, D r → ∃ c, h'.getD r none = some c
  fix : ∀ r, D r → roAt h r = true → h'.getD r none = h.getD r none
  obj : Keep E h w E' h' w' → ∀ r s c, D r → stat h' r s = .on c → ObjOK E' h' w' r s c
  siz : ∀ r s c b n, D r → stat h' r s = .on c → E'.ι r (key s) = some (b, n) → n = c.sz
  from_ : ∀ r κ b n, D r → E'.ι r κ = some (b, n) → (w.heap.size ≤ b ∧ b < w'.heap.size) ∨ ∃ r0 κ0 n0, D r0 ∧ (roAt h r0 = false ∨ E.I b) ∧ E.ι r0 κ0 = some (b, n0)
  inj : ∀ r κ r' κ' b n n', D r → D r' → E'.ι r κ = some (b, n) → E'.ι r' κ' = some (b, n') → r = r' ∧ κ = κ'
  live : ∀ r κ x, D r → E'.ι r κ = some x → ∃ c, h'.getD r none = some c ∧ c ≠ .dead
  Inew : ∀ b, E'.I b → E.I b ∨ (w.heap.size ≤ b ∧ b < w'.heap.size) ∨ ∃ r0 κ0 n0, D r0 ∧ roAt h r0 = false ∧ E.ι r0 κ0 = some (b, n0)
  apart : ∀ r κ b n, D r → E'.ι r κ = some (b, n) → roAt h' r = false → ¬ E'.I b
  roI : ∀ r κ b n, D r → E'.ι r κ = some (b, n) → roAt h' r = true → E'.I b
section
variable {D : Nat → Prop} {E E' : Env} {h h' : Heap} {w w' : World}
theorem Touch.keep (H : HeapOK E h w) (T : Touch D E h w E' h' w') : Keep E h w E' h' w' := by
  have hb : ∀ r κ b n, ¬ D r → E.ι r κ = some (b, n) → w'.heap[b]? = w.heap[b]? := fun r κ b n hr h1 =>
    T.blk b (H.own_lt b ⟨r, κ, n, h1⟩) fun r0 κ0 n0 hD _ h2 => hr (by rw [(H.inj _ _ _ _ _ _ _ h1 h2).1]; exact hD)
  refine ⟨fun b hI => ⟨T.II b hI, T.blk b (H.I_lt b hI) fun r κ n hD hro h1 => H.apart r κ b n h1 hro hI⟩, fun r s e => ?_, fun r s c e => ?_⟩
  · rcases Classical.em (D r) with hr | hr
    · exact T.off r s hr e
    · rw [stat_congr (T.hh r hr)]; exact e
  · rcases Classical.em (D r) with hr | hr
    · rcases T.on r s c hr e with h1 | ⟨c', h1, h2, h3, h4⟩
      · exact .inl h1
      · exact .inr ⟨c', h1, h2, h3, h4, fun b hb arr ty ha => T.asz b arr ty ha⟩
    · exact .inr ⟨c, by rw [stat_congr (T.hh r hr)]; exact e, rfl, rfl, T.hι r _ hr, fun b hι arr ty ha => T.asz b arr ty ha⟩
theorem Touch.heap (H : HeapOK E h w) (T : Touch D E h w E' h' w') : HeapOK E' h' w' := by
  have K := T.keep H
  have hb : ∀ r κ b n, ¬ D r → E.ι r κ = some (b, n) → w'.heap[b]? = w.heap[b]? := fun r κ b n hr h1 =>
    T.blk b (H.own_lt b ⟨r, κ, n, h1⟩) fun r0 κ0 n0 hD _ h2 => hr (by rw [(H.inj _ _ _ _ _ _ _ h1 h2).1]; exact hD)
  have hcross : ∀ r κ r' κ' b n n', ¬ D r → D r' → E'.ι r κ = some (b, n) → E'.ι r' κ' = some (b, n') → False := by
    intro r κ r' κ' b n n' hr hr' h1 h2
    rw [T.hι r κ hr] at h1
    rcases T.from_ r' κ' b n' hr' h2 with ⟨h3, _⟩ | ⟨r0, κ0, n0, hD0, _, h3⟩
    · have := H.own_lt b ⟨r, κ, n, h1⟩; omega
    · exact hr (by rw [(H.inj _ _ _ _ _ _ _ h1 h3).1]; exact hD0)
  refine ⟨fun r s c e => ?_, fun r s c b n e hι => ?_, fun r κ r' κ' b n n' h1 h2 => ?_, fun r κ x h1 => ?_, fun b hI => ?_, fun b ⟨r, κ, n, h1⟩ => ?_, fun r κ b n h1 hro => ?_, fun r κ b n h1 hro => ?_⟩
  · rcases Classical.em (D r) with hr | hr
    · exact T.obj K r s c hr e
    · rw [stat_congr (T.hh r hr)] at e
      refine (H.obj r s c e).imp id ?_
      rintro ⟨b, arr, ty, h1, h2, h3, h4⟩
      refine ⟨b, arr, ty, (T.hι r _ hr).trans h1, by rw [hb r _ b _ hr h1]; exact h2, h3, fun i hi => ?_⟩
      obtain ⟨cs, vs, k1, k2, k3, k4⟩ := h4 i hi
      exact ⟨cs, vs, k1, k2, keep_repL K cs k3, k4⟩
  · rcases Classical.em (D r) with hr | hr
    · exact T.siz r s c b n hr e hι
    · rw [stat_congr (T.hh r hr)] at e; rw [T.hι r _ hr] at hι
      exact H.siz r s c b n e hι
  · rcases Classical.em (D r) with hr | hr <;> rcases Classical.em (D r') with hr' | hr'
    · exact T.inj r κ r' κ' b n n' hr hr' h1 h2
    · exact (hcross r' κ' r κ b n' n hr' hr h2 h1).elim
    · exact (hcross r κ r' κ' b n n' hr hr' h1 h2).elim
    · rw [T.hι r κ hr] at h1; rw [T.hι r' κ' hr'] at h2
      exact H.inj r κ r' κ' b n n' h1 h2
  · rcases Classical.em (D r) with hr | hr
    · exact T.live r κ x hr h1
    · rw [T.hι r κ hr] at h1; rw [T.hh r hr]; exact H.live r κ x h1
  · rcases T.Inew b hI with h1 | ⟨_, h1⟩ | ⟨r0, κ0, n0, _, _, h1⟩
    · exact Nat.lt_of_lt_of_le (H.I_lt b h1) T.size
    · exact h1
    · exact Nat.lt_of_lt_of_le (H.own_lt b ⟨_, _, _, h1⟩) T.size
  · rcases Classical.em (D r) with hr | hr
    · rcases T.from_ r κ b n hr h1 with ⟨_, h3⟩ | ⟨r0, κ0, n0, _, _, h3⟩
      · exact h3
      · exact Nat.lt_of_lt_of_le (H.own_lt b ⟨_, _, _, h3⟩) T.size
    · rw [T.hι r κ hr] at h1; exact Nat.lt_of_lt_of_le (H.own_lt b ⟨_, _, _, h1⟩) T.size
  · rcases Classical.em (D r) with hr | hr
    · exact T.apart r κ b n hr h1 hro
    · intro hI
      rw [T.hι r κ hr] at h1; rw [roAt_congr (T.hh r hr)] at hro
      rcases T.Inew b hI with h2 | ⟨h2, _⟩ | ⟨r0, κ0, n0, hD0, _, h2⟩
      · exact H.apart r κ b n h1 hro h2
      · have := H.own_lt b ⟨_, _, _, h1⟩; omega
      · exact hr (by rw [(H.inj _ _ _ _ _ _ _ h1 h2).1]; exact hD0)
  · rcases Classical.em (D r) with hr | hr
    · exact T.roI r κ b n hr h1 hro
    · rw [T.hι r κ hr] at h1; rw [roAt_congr (T.hh r hr)] at hro
      exact T.II b (H.roI r κ b n h1 hro)
theorem Touch.inv {F : Fr} (H : Inv F E h w) (T : Touch D E h w E' h' w') : Inv F E' h' w' ∧ Keep E h w E' h' w' := by
  have K := T.keep H.heap
  have hnew : ∀ b r0 κ0 n0, roAt h r0 = false ∨ E.I b → E.ι r0 κ0 = some (b, n0) → F.I0 b ∨ F.B0 b ∨ F.w0.heap.size ≤ b := by
    intro b r0 κ0 n0 h1 h2
    rcases h1 with h1 | h1
    · exact .inr (H.own_new r0 κ0 b n0 h2 h1)
    · exact H.I_new b h1
  refine ⟨⟨T.heap H.heap, ?_, H.B_lt, fun r κ b n h1 hro => ?_, fun b hb => ?_, H.kept.trans K, fun r hr => ?_⟩, K⟩
  · refine H.bel.step (D := fun b => ∃ r κ n, D r ∧ roAt h r = false ∧ E.ι r κ = some (b, n)) ⟨T.os, T.tape, T.output, T.size, fun b hb hn => T.blk b hb fun r κ n hD hro h1 => hn ⟨r, κ, n, hD, hro, h1⟩, fun b _ arr ty ha => T.asz b arr ty ha⟩ ?_ H.B_lt
    rintro b ⟨r, κ, n, hD, hro, h1⟩
    exact H.own_new r κ b n h1 hro
  · rcases Classical.em (D r) with hr | hr
    · rcases T.from_ r κ b n hr h1 with ⟨h3, _⟩ | ⟨r0, κ0, n0, _, h4, h3⟩
      · right; have := H.bel.size; omega
      · rcases h4 with h4 | h4
        · exact H.own_new r0 κ0 b n0 h3 h4
        · exact absurd (T.II b h4) (T.apart r κ b n hr h1 hro)
    · rw [T.hι r κ hr] at h1; rw [roAt_congr (T.hh r hr)] at hro
      exact H.own_new r κ b n h1 hro
  · rcases T.Inew b hb with h1 | ⟨h1, _⟩ | ⟨r0, κ0, n0, _, h2, h1⟩
    · exact H.I_new b h1
    · right; right; have := H.bel.size; omega
    · exact .inr (H.own_new r0 κ0 b n0 h1 h2)
  · rcases H.fixed r hr with h0 | h0
    · left
      rcases Classical.em (D r) with hD | hD
      · exact (T.fix r hD (by unfold roAt at hr ⊢; rw [h0]; exact hr)).trans h0
      · exact (T.hh r hD).trans h0
    · right
      rcases Classical.em (D r) with hD | hD
      · have h1 := T.off r none hD (by simp only [stat, h0])
        simp only [stat] at h1
        split at h1
        · cases h1
        · rename_i h2; exact h2
        · cases h1
      · exact (T.hh r hD).trans h0
end
theorem getD_setH : (h : Heap) → (r : Nat) → (c : Cont) → (q : Nat) → (setH h r c).getD q none = if q = r then some c else h.getD q none
  | [], 0, c, q => by cases q <;> simp [setH]
  | [], r + 1, c, q => by
    cases q with
    | zero => simp [setH]
    | succ q =>
      have := getD_setH [] r c q
      simp only [setH, List.getD_cons_succ, this, Nat.add_right_cancel_iff]
      simp
  | o :: h, 0, c, q => by cases q <;> simp [setH]
  | o :: h, r + 1, c, q => by
    cases q with
    | zero => simp [setH]
    | succ q =>
      have := getD_setH h r c q
      simp only [setH, List.getD_cons_succ, this, Nat.add_right_cancel_iff]
theorem getD_roH : (h : Heap) → (r : Nat) → (roH h).getD r none = match h.getD r none with | some c => (if c.ro then some c else none) | none => none
  | [], r => by simp [roH]
  | o :: h, r => by
    have ih := fun r => getD_roH h r
    cases r with
    | zero =>
      match o with
      | none => simp [roH]
      | some (.lst true _ _) => simp [roH, Cont.ro]
      | some (.lst false _ _) => simp [roH, Cont.ro]
      | some (.tree true _ _ _ _) => simp [roH, Cont.ro]
      | some (.tree false _ _ _ _) => simp [roH, Cont.ro]
      | some (.cells _ _) => simp [roH, Cont.ro]
      | some (.shp _ _) => simp [roH, Cont.ro]
      | some .dead => simp [roH, Cont.ro]
    | succ r =>
      match o with
      | none => simpa [roH] using ih r
      | some (.lst true _ _) => simpa [roH] using ih r
      | some (.lst false _ _) => simpa [roH] using ih r
      | some (.tree true _ _ _ _) => simpa [roH] using ih r
      | some (.tree false _ _ _ _) => simpa [roH] using ih r
      | some (.cells _ _) => simpa [roH] using ih r
      | some (.shp _ _) => simpa [roH] using ih r
      | some .dead => simpa [roH] using ih r
theorem SubH.setH {hp h : Heap} (hs : SubH hp h) (r : Nat) (c : Cont) : SubH (setH hp r c) (setH h r c) := by
  intro q d hq hd
  rw [getD_setH] at hq ⊢
  split at hq
  · rename_i e; subst e; rw [if_pos rfl]; exact .inl hq
  · rename_i e; rw [if_neg e]; exact hs q d hq hd
theorem SubH.apD {hp h : Heap} (hs : SubH hp h) : (δ : Delta) → SubH (apD hp δ) (apD h δ)
  | [] => hs
  | p :: δ => SubH.apD (hs.setH p.1 p.2) δ
theorem SubH.ro {hp h : Heap} (hs : SubH hp h) : SubH (roH hp) h := by
  intro q d hq hd
  rw [getD_roH] at hq
  split at hq
  · rename_i c hc
    split at hq
    · obtain rfl : c = d := by simpa using hq
      exact hs q c hc hd
    · cases hq
  · cases hq
theorem SubH.nil (h : Heap) : SubH [] h := fun r c e => by simp at e
theorem stat_setH (h : Heap) (r : Nat) (c : Cont) (q : Nat) (hne : q ≠ r) (s : Sub) : stat (setH h r c) q s = stat h q s := stat_congr (by rw [getD_setH, if_neg hne]) s
def Env.set (E : Env) (r : Nat) (κ : Option (Nat × Nat)) (x : Option (Nat × Nat)) : Env := ⟨fun q κ' => if q = r ∧ κ' = κ then x else E.ι q κ', E.I⟩
def Env.clr (E : Env) (r : Nat) : Env := ⟨fun q κ => if q = r then none else E.ι q κ, E.I⟩
def Cont.plain : Cont → Prop
  | .lst false _ _ => True
  | .cells _ _ => True
  | _ => False
theorem Cont.plain.ro {c : Cont} (h : c.plain) : c.ro = false ∧ c ≠ .dead := by
  cases c with
  | lst ro t xs => cases ro with
    | true => cases h
    | false => exact ⟨rfl, by simp⟩
  | cells n es => exact ⟨rfl, by simp⟩
  | _ => cases h
def Cont.past : Cont → RefSt
  | .cells _ _ => .no
  | _ => .off
theorem stat_plain {h : Heap} {r : Nat} {c : Cont} (e : h.getD r none = some c) (hp : c.plain) (s : Sub) : stat h r s = (match s with | none => .on c | some _ => c.past) := by
  cases s with
  | none => exact stat_root e hp.ro.2
  | some p =>
    simp only [stat, e]
    cases c with
    | tree _ _ _ _ _ => cases hp
    | _ => rfl
theorem past_on {c c' : Cont} (h : c.past = .on c') : False := by cases c <;> cases h
theorem stat_none {h : Heap} {r : Nat} (e : h.getD r none = none) (s : Sub) : stat h r s = .no := by
  cases s with
  | none => simp only [stat, e]
  | some p => simp only [stat, e]
theorem stat_dead {h : Heap} {r : Nat} (e : h.getD r none = some .dead) (s : Sub) : stat h r s = .off := by
  cases s with
  | none => simp only [stat, e]
  | some p => simp only [stat, e]
theorem roAt_of {h : Heap} {r : Nat} {c : Cont} (e : h.getD r none = some c) : roAt h r = c.ro := by unfold roAt; rw [e]
section
variable {F : Fr} {E : Env} {h : Heap} {w : World}
theorem inv_newW (H : Inv F E h w) {r : Nat} (hr : h.getD r none = none) (c : Cont) (hc : c.plain) {w' : World} {b : Nat} {arr : Array Value} {ty : TypeId} (hnew : w'.heap[b]? = some (.cells arr ty (0, 0))) (hbn : w.heap.size ≤ b) (hblt : b < w'.heap.size) (hsize : w.heap.size ≤ w'.heap.size)
    (hold : ∀ k, k < w.heap.size → w'.heap[k]? = w.heap[k]?) (hos : w'.os = w.os) (htape : w'.tape = w.tape) (hout : w'.output = w.output ∧ w.drawn ≤ w'.drawn) (hfit : c.len * c.sz ≤ arr.size)
    (hels : ∀ i, i < c.len → ∃ cs vs, c.at? r i = some cs ∧ vs.length = c.sz ∧ RepL E h w cs vs ∧ ∀ (j : Nat) (hj : j < vs.length), arr[i * c.sz + j]? = some vs[j]) :
    ∃ E', Inv F E' (setH h r c) w' ∧ Keep E h w E' (setH h r c) w' ∧ E'.ι r none = some (b, c.sz) := by
  have hg : (setH h r c).getD r none = some c := by rw [getD_setH, if_pos rfl]
  have hst := stat_plain hg hc
  have hno : ∀ κ x, E.ι r κ ≠ some x := fun κ x hx => by obtain ⟨c', h1, _⟩ := H.heap.live r κ x hx; rw [hr] at h1; cases h1
  have hι : ∀ κ k n, (E.set r none (some (b, c.sz))).ι r κ = some (k, n) → κ = none ∧ k = b ∧ n = c.sz := by
    intro κ k n h1
    simp only [Env.set, true_and] at h1
    split at h1
    · rename_i e; simp only [Option.some.injEq, Prod.mk.injEq] at h1; exact ⟨e, h1.1.symm, h1.2.symm⟩
    · exact absurd h1 (hno _ _)
  have T : Touch (fun q => q = r) E h w (E.set r none (some (b, c.sz))) (setH h r c) w' := by
    refine { hh := fun q hq => by rw [getD_setH, if_neg hq], hι := fun q κ hq => by simp only [Env.set]; rw [if_neg (fun e => hq e.1)], II := fun b hb => hb, size := hsize, os := hos, tape := htape, output := hout,
             blk := fun b hb _ => hold b hb, asz := fun b a t ha => ⟨a, by rw [hold b (Array.getElem?_eq_some_iff.1 ha).1]; exact ha, rfl⟩, off := ?_, on := ?_, som := ?_, fix := (fun q hq h1 => by subst hq; simp only [roAt, hr] at h1; cases h1), obj := ?_, siz := ?_, from_ := ?_, inj := ?_, live := ?_, Inew := fun b hb => .inl hb, apart := ?_, roI := ?_ }
    · rintro q s rfl e; rw [stat_none hr] at e; cases e
    · rintro q s c' rfl e; rw [stat_none hr] at e; cases e
    · rintro q rfl; exact ⟨c, hg⟩
    · rintro K q s c' rfl e
      rw [hst] at e
      cases s with
      | some p => exact (past_on e).elim
      | none =>
        obtain rfl : c = c' := by simpa using e
        right
        refine ⟨b, arr, ty, by simp [Env.set, key], hnew, hfit, fun i hi => ?_⟩
        obtain ⟨cs, vs, h1, h2, h3, h4⟩ := hels i hi
        exact ⟨cs, vs, h1, h2, keep_repL K cs h3, h4⟩
    · rintro q s c' k n rfl e h1
      rw [hst] at e
      cases s with
      | some p => exact (past_on e).elim
      | none => obtain rfl : c = c' := by simpa using e
                exact (hι _ _ _ h1).2.2
    · rintro q κ k n rfl h1; left; have := (hι _ _ _ h1).2.1; omega
    · rintro q κ q' κ' k n n' rfl rfl h1 h2; exact ⟨rfl, by rw [(hι _ _ _ h1).1, (hι _ _ _ h2).1]⟩
    · rintro q κ x rfl h1; exact ⟨c, hg, hc.ro.2⟩
    · rintro q κ k n rfl h1 _ hI; have := (hι _ _ _ h1).2.1; have := H.heap.I_lt k hI; omega
    · rintro q κ k n rfl h1 hro; rw [roAt_of hg, hc.ro.1] at hro; cases hro
  obtain ⟨h1, h2⟩ := T.inv H
  exact ⟨_, h1, h2, by simp [Env.set]⟩
theorem inv_new (H : Inv F E h w) {r : Nat} (hr : h.getD r none = none) (c : Cont) (hc : c.plain) (arr : Array Value) (ty : TypeId) (hfit : c.len * c.sz ≤ arr.size)
    (hels : ∀ i, i < c.len → ∃ cs vs, c.at? r i = some cs ∧ vs.length = c.sz ∧ RepL E h w cs vs ∧ ∀ (j : Nat) (hj : j < vs.length), arr[i * c.sz + j]? = some vs[j]) :
    ∃ E', Inv F E' (setH h r c) (w.alloc (.cells arr ty (0, 0))) ∧ Keep E h w E' (setH h r c) (w.alloc (.cells arr ty (0, 0))) ∧ E'.ι r none = some (w.heap.size, c.sz) :=
  inv_newW H hr c hc (arr := arr) (ty := ty) (by show (w.heap.push _)[w.heap.size]? = _; simp) (Nat.le_refl _) (by show _ < (w.heap.push _).size; simp) (by show _ ≤ (w.heap.push _).size; simp) (fun b hb => Below.heap_alloc w _ b hb) rfl rfl ⟨rfl, Nat.le_refl _⟩ hfit hels
theorem inv_none (H : Inv F E h w) {r : Nat} (hr : h.getD r none = none) (c : Cont) (hc : c.plain) (h0 : c.len = 0) : Inv F E (setH h r c) w ∧ Keep E h w E (setH h r c) w := by
  have hg : (setH h r c).getD r none = some c := by rw [getD_setH, if_pos rfl]
  have hst := stat_plain hg hc
  have hno : ∀ κ x, E.ι r κ ≠ some x := fun κ x hx => by obtain ⟨c', h1, _⟩ := H.heap.live r κ x hx; rw [hr] at h1; cases h1
  have T : Touch (fun q => q = r) E h w E (setH h r c) w := by
    refine { hh := fun q hq => by rw [getD_setH, if_neg hq], hι := fun q κ hq => rfl, II := fun b hb => hb, size := Nat.le_refl _, os := rfl, tape := rfl, output := ⟨rfl, Nat.le_refl _⟩,
             blk := fun b hb _ => rfl, asz := fun b a t ha => ⟨a, ha, rfl⟩, off := ?_, on := ?_, som := ?_, fix := (fun q hq h1 => by subst hq; simp only [roAt, hr] at h1; cases h1), obj := ?_, siz := ?_, from_ := ?_, inj := ?_, live := ?_, Inew := fun b hb => .inl hb, apart := ?_, roI := ?_ }
    · rintro q s rfl e; rw [stat_none hr] at e; cases e
    · rintro q s c' rfl e; rw [stat_none hr] at e; cases e
    · rintro q rfl; exact ⟨c, hg⟩
    · rintro K q s c' rfl e
      rw [hst] at e
      cases s with
      | some p => exact (past_on e).elim
      | none => obtain rfl : c = c' := by simpa using e
                exact .inl h0
    · rintro q s c' b n rfl e h1; exact absurd h1 (hno _ _)
    · rintro q κ b n rfl h1; exact absurd h1 (hno _ _)
    · rintro q κ q' κ' b n n' rfl rfl h1 h2; exact absurd h1 (hno _ _)
    · rintro q κ x rfl h1; exact ⟨c, hg, hc.ro.2⟩
    · rintro q κ b n rfl h1; exact absurd h1 (hno _ _)
    · rintro q κ b n rfl h1; exact absurd h1 (hno _ _)
  exact T.inv H
theorem inv_set (H : Inv F E h w) {r : Nat} {c c' : Cont} (hc : h.getD r none = some c) (hp : c.plain) (hp' : c'.plain) (hpast : c'.past = c.past) {b : Nat} {arr arr' : Array Value} {ty : TypeId} (hι : E.ι r none = some (b, c.sz)) (hb : w.heap[b]? = some (.cells arr ty (0, 0)))
    (hlen : c'.len = c.len) (hsz : c'.sz = c.sz) (harr : arr'.size = arr.size) (hfit : c.len * c.sz ≤ arr.size)
    (hels : ∀ i, i < c.len → ∃ cs vs, c'.at? r i = some cs ∧ vs.length = c.sz ∧ RepL E h w cs vs ∧ ∀ (j : Nat) (hj : j < vs.length), arr'[i * c.sz + j]? = some vs[j])
    {w' : World} (hw : ∀ k, k < w.heap.size → w'.heap[k]? = if k = b then some (.cells arr' ty (0, 0)) else w.heap[k]?) (hws : w.heap.size ≤ w'.heap.size) (hos : w'.os = w.os) (htape : w'.tape = w.tape) (hout : w'.output = w.output ∧ w.drawn ≤ w'.drawn) :
    Inv F E (setH h r c') w' ∧ Keep E h w E (setH h r c') w' := by
  have hg : (setH h r c').getD r none = some c' := by rw [getD_setH, if_pos rfl]
  have hst := stat_plain hg hp'
  have hst0 := stat_plain hc hp
  have hro : roAt h r = false := by rw [roAt_of hc]; exact hp.ro.1
  have T : Touch (fun q => q = r) E h w E (setH h r c') w' := by
    refine { hh := fun q hq => by rw [getD_setH, if_neg hq], hι := fun q κ hq => rfl, II := fun b hb => hb, size := hws, os := hos, tape := htape, output := hout,
             blk := fun k hk hn => by rw [hw k hk, if_neg (fun e => hn r none c.sz rfl hro (by rw [e]; exact hι))], asz := fun k a t ha => ?_, off := ?_, on := ?_, som := ?_, fix := (fun q hq h1 => by subst hq; rw [hro] at h1; cases h1), obj := ?_, siz := ?_, from_ := ?_, inj := ?_, live := ?_, Inew := fun b hb => .inl hb, apart := ?_, roI := ?_ }
    · rw [hw k (Array.getElem?_eq_some_iff.1 ha).1]
      by_cases e : k = b
      · subst e; rw [hb] at ha; obtain ⟨rfl, rfl⟩ : arr = a ∧ ty = t := by simpa using ha
        exact ⟨arr', by simp, harr⟩
      · exact ⟨a, by rw [if_neg e]; exact ha, rfl⟩
    · rintro q s rfl e
      rw [hst0] at e; rw [hst]
      cases s with
      | none => cases e
      | some p => exact hpast.trans e
    · rintro q s c0 rfl e
      rw [hst0] at e; rw [hst]
      cases s with
      | none => obtain rfl : c = c0 := by simpa using e
                exact .inr ⟨c', rfl, hlen, hsz, rfl⟩
      | some p => exact (past_on e).elim
    · rintro q rfl; exact ⟨c', hg⟩
    · rintro K q s c0 rfl e
      rw [hst] at e
      cases s with
      | some p => exact (past_on e).elim
      | none =>
        obtain rfl : c' = c0 := by simpa using e
        right
        refine ⟨b, arr', ty, by rw [hsz]; exact hι, by rw [hw b (Array.getElem?_eq_some_iff.1 hb).1, if_pos rfl], by rw [hlen, hsz, harr]; exact hfit, fun i hi => ?_⟩
        obtain ⟨cs, vs, h1, h2, h3, h4⟩ := hels i (by omega)
        exact ⟨cs, vs, h1, by rw [hsz]; exact h2, keep_repL K cs h3, fun j hj => by rw [hsz]; exact h4 j hj⟩
    · rintro q s c0 b0 n rfl e h1
      rw [hst] at e
      cases s with
      | some p => exact (past_on e).elim
      | none => obtain rfl : c' = c0 := by simpa using e
                simp only [key] at h1; rw [hι] at h1; rw [hsz]; simp only [Option.some.injEq, Prod.mk.injEq] at h1; exact h1.2.symm
    · rintro q κ b0 n rfl h1; exact .inr ⟨q, κ, n, rfl, .inl hro, h1⟩
    · rintro q κ q' κ' b0 n n' rfl rfl h1 h2; exact H.heap.inj _ _ _ _ _ _ _ h1 h2
    · rintro q κ x rfl h1; exact ⟨c', hg, hp'.ro.2⟩
    · rintro q κ b0 n rfl h1 _; exact H.heap.apart _ _ _ _ h1 hro
    · rintro q κ b0 n rfl h1 h2; rw [roAt_of hg, hp'.ro.1] at h2; cases h2
  exact T.inv H
theorem inv_kill (H : Inv F E h w) {r : Nat} {c : Cont} (hc : h.getD r none = some c) (hcr : c.ro = false) : Inv F (E.clr r) (setH h r .dead) w ∧ Keep E h w (E.clr r) (setH h r .dead) w := by
  have hg : (setH h r .dead).getD r none = some .dead := by rw [getD_setH, if_pos rfl]
  have hst := stat_dead hg
  have hno : ∀ κ x, (E.clr r).ι r κ ≠ some x := fun κ x hx => by simp [Env.clr] at hx
  have T : Touch (fun q => q = r) E h w (E.clr r) (setH h r .dead) w := by
    refine { hh := fun q hq => by rw [getD_setH, if_neg hq], hι := fun q κ hq => by simp only [Env.clr]; rw [if_neg hq], II := fun b hb => hb, size := Nat.le_refl _, os := rfl, tape := rfl, output := ⟨rfl, Nat.le_refl _⟩,
             blk := fun b hb _ => rfl, asz := fun b a t ha => ⟨a, ha, rfl⟩, off := ?_, on := ?_, som := ?_, fix := (fun q hq h1 => by subst hq; rw [roAt_of hc, hcr] at h1; cases h1), obj := ?_, siz := ?_, from_ := ?_, inj := ?_, live := ?_, Inew := fun b hb => .inl hb, apart := ?_, roI := ?_ }
    · rintro q s rfl e; exact hst s
    · rintro q s c' rfl e; exact .inl (hst s)
    · rintro q rfl; exact ⟨_, hg⟩
    · rintro K q s c' rfl e; rw [hst] at e; cases e
    · rintro q s c' b n rfl e h1; exact absurd h1 (hno _ _)
    · rintro q κ b n rfl h1; exact absurd h1 (hno _ _)
    · rintro q κ q' κ' b n n' rfl rfl h1 h2; exact absurd h1 (hno _ _)
    · rintro q κ x rfl h1; exact absurd h1 (hno _ _)
    · rintro q κ b n rfl h1; exact absurd h1 (hno _ _)
    · rintro q κ b n rfl h1; exact absurd h1 (hno _ _)
  exact T.inv H
end
end Go.Ab
