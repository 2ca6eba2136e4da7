import Derived.Test.YthjochcbdhiclaaGreatAbCall
import Derived.ProofKit
set_option linter.unnecessarySimpa false
set_option linter.unusedVariables false
set_option linter.unusedSimpArgs false
namespace Go.Ab
open Go.RowKit Go.ChangeShapes Go.WideShapes
def wf : (t : Ty) → den t → Prop
  | .int k, n => k.min ≤ n ∧ n ≤ k.max
  | .str, s => (s : ByteArray).size ≤ maxLen
  | .slice t, xs => (xs : List (den t)).length ≤ maxLen ∧ ∀ x ∈ (xs : List (den t)), wf t x
  | .prod a b, x => wf a x.1 ∧ wf b x.2
  | .bool, _ => True
  | .unit, _ => True
  | .err, _ => True
  | .iref _, _ => True
  | .fn _ _, _ => True
  | .idx, _ => True
def fitsB (P : Program) : Ty → TypeId ⊕ (List Field × Nat) → Bool
  | .int k, .inl t => match P.underlying t with | some (.int k') => k == k' | _ => false
  | .bool, .inl t => match P.underlying t with | some .bool => true | _ => false
  | .str, .inl t => match P.underlying t with | some .string => true | _ => false
  | .slice u, .inl t => match P.underlying t with | some (.slice e) => P.cellsOf e == u.size && decide (0 < u.size) && fitsB P u (.inl e) | _ => false
  | .prod a b, .inl t => match P.underlying t with
    | some (.struct fs) => P.cellsOf t == a.size + b.size && (match fs.toList with | f :: r => f.offset == 0 && P.cellsOf f.type == a.size && fitsB P a (.inl f.type) && fitsB P b (.inr (r, 0 + a.size)) | [] => false)
    | _ => false
  | .prod a b, .inr (fs, off) => match fs with | f :: r => f.offset == off && P.cellsOf f.type == a.size && fitsB P a (.inl f.type) && fitsB P b (.inr (r, off + a.size)) | [] => false
  | .unit, .inr (fs, off) => fs.isEmpty
  | _, _ => false
theorem exists_list {α : Type} {p : Nat → α → Prop} : (n : Nat) → (∀ i, i < n → ∃ x, p i x) → ∃ xs : List α, xs.length = n ∧ ∀ i (h : i < xs.length), p i xs[i]
  | 0, _ => ⟨[], rfl, fun i h => by simp at h⟩
  | n + 1, h => by
    obtain ⟨xs, h1, h2⟩ := exists_list n fun i hi => h i (by omega)
    obtain ⟨x, hx⟩ := h n (by omega)
    refine ⟨xs ++ [x], by simp [h1], fun i hi => ?_⟩
    by_cases hlt : i < xs.length
    · rw [List.getElem_append_left hlt]; exact h2 i hlt
    · have : i = n := by simp at hi; omega
      subst this
      rw [List.getElem_append_right (by omega)]
      simpa [h1] using hx
theorem mapM_spec {α β : Type} {f : α → Option β} : {l : List α} → {r : List β} → l.mapM f = some r → r.length = l.length ∧ ∀ (i : Nat) (h1 : i < r.length) (h2 : i < l.length), f l[i] = some r[i]
  | [], r, h => by simp at h; subst h; exact ⟨rfl, fun i h1 h2 => by simp at h1⟩
  | a :: l, r, h => by
    simp only [List.mapM_cons, Option.pure_def, Option.bind_eq_bind, Option.bind_eq_some_iff, Option.some.injEq] at h
    obtain ⟨b, h1, bs, h2, rfl⟩ := h
    obtain ⟨e, h3⟩ := mapM_spec h2
    refine ⟨by simp [e], fun i h4 h5 => ?_⟩
    cases i with
    | zero => exact h1
    | succ i => exact h3 i (by simpa using h4) (by simpa using h5)
theorem mapM_get {α β : Type} {f : α → Option β} {l : List α} {r : List β} (h : l.mapM f = some r) : r.length = l.length ∧ ∀ i (h1 : i < l.length), ∃ h2 : i < r.length, f l[i] = some r[i] := by
  obtain ⟨h1, h2⟩ := mapM_spec h
  exact ⟨h1, fun i hi => ⟨by omega, h2 i (by omega) hi⟩⟩
theorem cells?_some {w : World} {a : Addr} {n : Nat} {cs : List Value} (h : w.cells? 0 a n = some cs) : cs.length = n ∧ ∀ i (h1 : i < cs.length), w.cell? (a.add i) = some cs[i] := by
  unfold World.cells? at h
  rw [if_pos (Nat.zero_le _)] at h
  obtain ⟨h1, h2⟩ := mapM_get h
  simp at h1
  refine ⟨h1, fun i hi => ?_⟩
  obtain ⟨_, h3⟩ := h2 i (by simp; omega)
  simpa using h3
theorem cell?_lt {w : World} {a : Addr} {v : Value} (h : w.cell? a = some v) : a.block < w.heap.size ∧ a.spot = none := by
  unfold World.cell? at h
  split at h
  · rename_i hb
    split at h
    · cases h
    · rename_i hs
      exact ⟨(Array.getElem?_eq_some_iff.1 hb).1, by simpa using hs⟩
  · cases h
theorem open_fit {H : Type} {enc : TypeId × Value → H} {P : Program} {w : World} (ty : Ty) :
    (∀ t, fitsB P ty (.inl t) = true → ∀ fuel cs d ps, DataW.trod enc P w 0 (fun _ => true) true fuel t cs = some (d, ps) → ∃ x, RepC (fun b => b < w.heap.size) w ty x cs ∧ wf ty x) ∧
    (∀ (fs : List Field) (off : Nat), fitsB P ty (.inr (fs, off)) = true → ∀ fuel (cs : List Value) xs, cs.length = off + ty.size → (fs.mapM fun f : Field => DataW.trod enc P w 0 (fun _ => true) true fuel f.type ((cs.drop f.offset).take (P.cellsOf f.type))) = some xs → ∃ x, RepC (fun b => b < w.heap.size) w ty x (cs.drop off) ∧ wf ty x) := by
  induction ty with
  | int k =>
    refine ⟨fun t ht fuel cs d ps h => ?_, fun fs off h => by simp [fitsB] at h⟩
    simp only [fitsB] at ht
    split at ht
    · rename_i k' hu
      have : k = k' := by simpa using ht
      subst this
      cases fuel with
      | zero => simp [DataW.trod] at h
      | succ fuel =>
        unfold DataW.trod at h
        rw [hu] at h
        split at h <;> simp_all
        rename_i k2 n e
        simp [Lit.wf] at h
        obtain ⟨⟨e1, h1⟩, e2⟩ := h
        subst e
        exact ⟨n, by simp [RepC, e1], h1⟩
    · cases ht
  | bool =>
    refine ⟨fun t ht fuel cs d ps h => ?_, fun fs off h => by simp [fitsB] at h⟩
    simp only [fitsB] at ht
    split at ht
    · rename_i hu
      cases fuel with
      | zero => simp [DataW.trod] at h
      | succ fuel =>
        unfold DataW.trod at h
        rw [hu] at h
        split at h <;> try (simp_all; done)
        rename_i b hd
        exact ⟨b, by simp [RepC], trivial⟩
    · cases ht
  | str =>
    refine ⟨fun t ht fuel cs d ps h => ?_, fun fs off h => by simp [fitsB] at h⟩
    simp only [fitsB] at ht
    split at ht
    · rename_i hu
      cases fuel with
      | zero => simp [DataW.trod] at h
      | succ fuel =>
        unfold DataW.trod at h
        rw [hu] at h
        split at h <;> simp_all
        rename_i s
        exact ⟨s, by simp [RepC], h.1⟩
    · cases ht
  | err => exact ⟨fun t ht => by simp [fitsB] at ht, fun fs off h => by simp [fitsB] at h⟩
  | idx => exact ⟨fun t ht => by simp [fitsB] at ht, fun fs off h => by simp [fitsB] at h⟩
  | iref u => exact ⟨fun t ht => by simp [fitsB] at ht, fun fs off h => by simp [fitsB] at h⟩
  | fn f u => exact ⟨fun t ht => by simp [fitsB] at ht, fun fs off h => by simp [fitsB] at h⟩
  | unit =>
    refine ⟨fun t ht => by simp [fitsB] at ht, fun fs off h fuel cs xs hl hx => ?_⟩
    refine ⟨(), ?_, trivial⟩
    simp only [RepC, List.drop_eq_nil_iff]
    simp only [Ty.size] at hl; omega
  | slice u ih =>
    refine ⟨fun t ht fuel cs d ps h => ?_, fun fs off h => by simp [fitsB] at h⟩
    simp only [fitsB] at ht
    split at ht
    · rename_i e hu
      simp only [Bool.and_eq_true, beq_iff_eq, decide_eq_true_eq] at ht
      obtain ⟨⟨hsz, hpos⟩, hf⟩ := ht
      cases fuel with
      | zero => simp [DataW.trod] at h
      | succ fuel =>
        unfold DataW.trod at h
        rw [hu] at h
        split at h <;> try (simp_all; done)
        · exact ⟨[], by simp only [RepC]; exact ⟨none, 0, by simp, by simp, by simp⟩, by simp [wf, maxLen]⟩
        · rename_i x1 x2 e' a len cap hd
          obtain rfl : e = e' := by simpa using hd
          dsimp only at h
          split at h
          · rename_i hc
            obtain ⟨elems, h1, h2⟩ := bind_ok h
            obtain ⟨k1, k2⟩ := mapM_get h1
            simp only [List.length_range] at k1 k2
            have el : ∀ i, i < len → ∃ x : den u, (∃ cs : List Value, cs.length = u.size ∧ RepC (fun b => b < w.heap.size) w u x cs ∧ (∀ j (hj : j < cs.length), w.cell? ((a.add (i * P.cellsOf e)).add j) = some cs[j])) ∧ wf u x := by
              intro i hi
              obtain ⟨hi2, h3⟩ := k2 i hi
              simp only [List.getElem_range] at h3
              obtain ⟨cs, h4, h5⟩ := bind_ok h3
              obtain ⟨h6, h7⟩ := cells?_some h4
              obtain ⟨x, h8, h9⟩ := ih.1 e hf fuel cs _ _ h5
              exact ⟨x, ⟨cs, by omega, h8, h7⟩, h9⟩
            obtain ⟨xs, hxl, hxs⟩ := exists_list len el
            refine ⟨xs, ?_, ?_⟩
            · simp only [RepC]
              refine ⟨some a, cap, by rw [hxl], by rw [hxl]; exact hc.2.1, fun hne => ?_⟩
              obtain ⟨⟨cs0, q1, q2, q3⟩, _⟩ := hxs 0 (by omega)
              have hl0 := cell?_lt (q3 0 (by omega))
              have hspot : a.spot = none := by
                have := hl0.2
                unfold Addr.add at this
                cases hs : a.spot with
                | none => rfl
                | some p => simp [hs] at this
              have hblk : a.block < w.heap.size := by
                have := hl0.1
                unfold Addr.add at this
                simpa [hspot] using this
              obtain ⟨b, o, sp⟩ := a
              simp only at hspot hblk; subst hspot
              refine ⟨b, o, rfl, hblk, fun i hi => ?_⟩
              obtain ⟨⟨cs, r1, r2, r3⟩, _⟩ := hxs i hi
              refine ⟨cs, r1, r2, fun j hj => ?_⟩
              have := r3 j hj
              rw [addr_add, addr_add, hsz] at this
              exact this
            · simp only [wf]
              refine ⟨by rw [hxl]; exact Nat.le_trans hc.2.1 hc.2.2, fun x hx => ?_⟩
              obtain ⟨i, hi, rfl⟩ := List.getElem_of_mem hx
              exact (hxs i hi).2
          · cases h
    · cases ht
  | prod a b iha ihb =>
    have B : ∀ (fs : List Field) (off : Nat), (match fs with | f :: r => f.offset == off && P.cellsOf f.type == a.size && fitsB P a (.inl f.type) && fitsB P b (.inr (r, off + a.size)) | [] => false) = true → ∀ fuel (cs : List Value) xs, cs.length = off + (Ty.prod a b).size → (fs.mapM fun f : Field => DataW.trod enc P w 0 (fun _ => true) true fuel f.type ((cs.drop f.offset).take (P.cellsOf f.type))) = some xs → ∃ x, RepC (fun b => b < w.heap.size) w (.prod a b) x (cs.drop off) ∧ wf (.prod a b) x := by
      intro fs off hf fuel cs xs hl hx
      cases fs with
      | nil => cases hf
      | cons f r =>
        simp only [Bool.and_eq_true, beq_iff_eq] at hf
        obtain ⟨⟨⟨h1, h2⟩, h3⟩, h4⟩ := hf
        simp only [List.mapM_cons] at hx
        obtain ⟨y, h5, h6⟩ := Option.bind_eq_some_iff.1 hx
        obtain ⟨ys, h7, h8⟩ := Option.bind_eq_some_iff.1 h6
        simp only [Ty.size] at hl
        obtain ⟨x, q1, q2⟩ := iha.1 f.type h3 fuel _ y.1 y.2 h5
        obtain ⟨z, q3, q4⟩ := ihb.2 r (off + a.size) h4 fuel cs ys (by omega) h7
        refine ⟨(x, z), ?_, q2, q4⟩
        simp only [RepC]
        refine ⟨_, _, ?_, q1, q3⟩
        rw [h1, h2, ← List.drop_drop, List.take_append_drop]
    refine ⟨fun t ht fuel cs d ps h => ?_, fun fs off h => B fs off (by simpa only [fitsB] using h)⟩
    simp only [fitsB] at ht
    split at ht
    · rename_i fs hu
      simp only [Bool.and_eq_true, beq_iff_eq] at ht
      cases fuel with
      | zero => simp [DataW.trod] at h
      | succ fuel =>
        simp only [DataW.trod, hu] at h
        split at h
        · rename_i hl
          simp only [Option.map_eq_some_iff] at h
          obtain ⟨xs, h1, _⟩ := h
          have := B fs.toList 0 ht.2 fuel cs xs (by rw [hl, ht.1]; simp [Ty.size]) h1
          simpa using this
        · cases h
    · cases ht
theorem open_arg {H : Type} {enc : TypeId × Value → H} {P : Program} {w : World} {ty : Ty} {t : TypeId} (hf : fitsB P ty (.inl t) = true) {r : Reach} {b0 : Nat} {v : Value} {d : DataW H} {ps : List MemPlace} (hok : Value.okWide P w r b0 t v) (h : DataW.Trod enc P w 0 (fun _ => true) true t v d ps) :
    ∃ x, RepV (fun b => b < w.heap.size) w ty x v ∧ wf ty x := by
  obtain ⟨fuel, h⟩ := h
  obtain ⟨x, h1, h2⟩ := (open_fit (enc := enc) (w := w) ty).1 t hf fuel _ _ _ h
  refine ⟨x, ?_, h2⟩
  unfold RepV RepV'
  by_cases hag : ty.agg = true
  · rw [if_pos hag]
    have hst : ∃ fs, P.underlying t = some (.struct fs) := by
      cases ty <;> simp [Ty.agg] at hag
      · simp [fitsB] at hf
      · simp only [fitsB] at hf
        split at hf
        · exact ⟨_, by assumption⟩
        · cases hf
    obtain ⟨fs, hfs⟩ := hst
    obtain ⟨cs, rfl, _⟩ := okWide_struct hfs hok
    exact ⟨cs.toList, by simp, by simpa [Value.cells] using h1⟩
  · rw [if_neg hag]
    have hc : v.cells.toList = [v] := by
      cases v with
      | agg cs =>
        exfalso
        cases ty <;> simp [Ty.agg] at hag <;> simp only [fitsB] at hf <;> (try cases hf; done) <;> (split at hf <;> first | (rename_i hu; simp [Value.okWide, hu, Cell.okWide, Cell.ok] at hok; done) | cases hf)
      | _ => rfl
    rw [hc] at h1
    exact h1
def fitsA (P : Program) : Ty → List TypeId → Bool
  | .prod a b, t :: ts => fitsB P a (.inl t) && fitsA P b ts
  | .unit, [] => true
  | _, _ => false
theorem open_args {H : Type} {enc : TypeId × Value → H} {P : Program} {w : World} {r : Reach} {b0 : Nat} : (ps : Ty) → (ts : List TypeId) → fitsA P ps ts = true → (vs : List Value) → (ds : List (DataW H)) → (p : List MemPlace) →
    (∀ (j : Nat) t v, ts[j]? = some t → vs[j]? = some v → Value.okWide P w r b0 t v) → DataW.TrodAll enc P w 0 (fun _ => true) true ts vs ds p → ∃ x, RepA (fun b => b < w.heap.size) w ps x vs ∧ wf ps x
  | .prod a b, t :: ts, hf, vs, ds, p, hok, h => by
    simp only [fitsA, Bool.and_eq_true] at hf
    match vs, ds, h with
    | v :: vs, d :: ds, h =>
      obtain ⟨p1, q, h1, h2, _⟩ := h
      obtain ⟨x, k1, k2⟩ := open_arg hf.1 (hok 0 t v rfl rfl) h1
      obtain ⟨y, k3, k4⟩ := open_args b ts hf.2 vs ds q (fun j t v h1 h2 => hok (j + 1) t v (by simpa using h1) (by simpa using h2)) h2
      refine ⟨(x, y), ?_, k2, k4⟩
      simp only [RepA]
      exact ⟨v, vs, rfl, k1, k3⟩
    | [], _, h => exact h.elim
    | _ :: _, [], h => exact h.elim
  | .unit, [], hf, vs, ds, p, hok, h => by
    match vs, ds, h with
    | [], [], h => exact ⟨(), by simp [RepA], trivial⟩
    | [], _ :: _, h => exact h.elim
    | _ :: _, _, h => exact h.elim
  | .unit, _ :: _, hf, vs, ds, p, hok, h => by simp [fitsA] at hf
  | .prod _ _, [], hf, vs, ds, p, hok, h => by simp [fitsA] at hf
  | .int _, _, hf, vs, ds, p, hok, h | .bool, _, hf, vs, ds, p, hok, h | .str, _, hf, vs, ds, p, hok, h | .err, _, hf, vs, ds, p, hok, h | .slice _, _, hf, vs, ds, p, hok, h | .iref _, _, hf, vs, ds, p, hok, h | .fn _ _, _, hf, vs, ds, p, hok, h => by simp [fitsA] at hf
theorem trodAll_length {H : Type} {enc : TypeId × Value → H} {P : Program} {w : World} {b : Nat} {sp : Nat → Bool} {hd : Bool} : (ts : List TypeId) → (vs : List Value) → (ds : List (DataW H)) → (p : List MemPlace) → DataW.TrodAll enc P w b sp hd ts vs ds p → ds.length = ts.length
  | [], [], [], _, _ => rfl
  | t :: ts, v :: vs, d :: ds, p, h => by obtain ⟨p1, q, h1, h2, _⟩ := h; simp [trodAll_length ts vs ds q h2]
  | [], [], _ :: _, _, h => h.elim
  | [], _ :: _, _, _, h => h.elim
  | _ :: _, [], _, _, h => h.elim
  | _ :: _, _ :: _, [], _, h => h.elim
theorem trodAll_stays {H : Type} {enc : TypeId × Value → H} {P : Program} (hl : laidOutB P = true) {W W' : World} {sp : Nat → Bool} : (ts : List TypeId) → (∀ t ∈ ts, P.readableRec t = true ∧ t < P.types.size) → (vs : List Value) → (ds : List (DataW H)) → (p : List MemPlace) →
    DataW.TrodAll enc P W 0 (fun _ => true) true ts vs ds p → (∀ q ∈ p, W.sameAt W' q) → (∀ q ∈ p, sp q.block = true) → DataW.TrodAll enc P W' 0 sp true ts vs ds p
  | [], _, [], [], _, h, _, _ => h
  | t :: ts, ht, v :: vs, d :: ds, p, h, hs, hp => by
    obtain ⟨p1, q, h1, h2, rfl⟩ := h
    exact ⟨p1, q, WideElems.Trod_stays hl (ht t (by simp)).1 (ht t (by simp)).2 h1 (fun x hx => hs x (by simp [hx])) (fun x hx => hp x (by simp [hx])),
      trodAll_stays hl ts (fun t h => ht t (by simp [h])) vs ds q h2 (fun x hx => hs x (by simp [hx])) (fun x hx => hp x (by simp [hx])), rfl⟩
  | [], _, [], _ :: _, _, h, _, _ => h.elim
  | [], _, _ :: _, _, _, h, _, _ => h.elim
  | _ :: _, _, [], _, _, h, _, _ => h.elim
  | _ :: _, _, _ :: _, [], _, h, _, _ => h.elim
def slotsL : List Ty → TmL
  | [] => .nil
  | t :: ts => .slot t (slotsL ts)
def slotsT (ts : List Ty) : Tmpl := ⟨slotsL ts, .nil⟩
theorem slots_rep {E : Env} {h : Heap} {w : World} {ρ ν : Nat → Nat} : (ts : List Ty) → (x : den ((slotsL ts).ty .unit)) → (vs : List Value) → RepA E.I w ((slotsL ts).ty .unit) x vs → RepL E h w ((slotsL ts).write ρ ν .unit x).1 vs
  | [], x, vs, h1 => by simp only [slotsL, TmL.ty, RepA] at h1; subst h1; exact RepL.nil
  | t :: ts, x, vs, h1 => by
    simp only [slotsL, TmL.ty, RepA] at h1
    obtain ⟨v, us, rfl, h2, h3⟩ := h1
    exact RepL.cons (rep_up h2) (slots_rep ts x.2 us h3)
theorem law_true {H : Type} {enc : TypeId × Value → H} {C : Checked} {os : Os} {f : FuncId} {fn : Func} {s : ChangeSpec} {conds : List PathCond} {apart fresh handsOn again : Bool} {ts : List Ty} {S : den (slotsT ts).ty → Option (den (slotsT [.bool]).ty)} {tb : TypeId}
    (own : ownKnob C.prog.godebug = none) (started : os.Started) (noInit : C.prog.inits.idxOf? f = none) (hfn : C.prog.funcs[f]? = some fn)
    (witness : ∃ (w : World) (tape : Tape) (i : Input), w.os = os ∧ (w.forCall tape i).Shaped C.prog ∧ i.vars = [] ∧ Input.okWide C.prog (w.forCall tape i) .any w.heap.size f i ∧
      s.pre6 enc C.prog fn conds apart (w.forCall tape i).memory i.args ∧ ({} : Assume).holds C.prog (lone (Frame.enter C.prog f i.args .normal) [] (w.forCall tape i)))
    (E : EntOK C.prog ⟨f, slotsT ts, slotsT [.bool], S⟩) (hl : laidOutB C.prog = true) (hp : (fn.params.toList.all fun t => C.prog.readableRec t && decide (t < C.prog.types.size)) = true)
    (hfit : fitsA C.prog (slotsT ts).ty fn.params.toList = true) (hrt : fn.resultTypes = #[tb]) (hb : C.prog.underlying tb = some .bool) (hv : s.vars = [])
    (hs : ∀ ds : List (DataW H), ds.length = fn.params.toList.length → s.fn H ds = { results := [.lit (.bool true)], args := ds })
    (hS : ∀ x, wf (slotsT ts).ty x → S x = some (true, ())) :
    ReturnsInHanded {} C os f .any (s.pre6 enc C.prog fn conds apart) (s.post enc C.prog fn apart fresh handsOn again) := by
  refine returnsInHanded_of_change own started noInit hfn witness ?_
  intro W base args ds gs before hval hW hcnd _
  have hW' := hW
  obtain ⟨p, q, hA, hV, rfl, hfz, hnd⟩ := hW
  rw [hv] at hV
  obtain ⟨rfl, rfl⟩ := trodVars_none hV
  obtain ⟨x, hx, hwf⟩ := open_args (r := .any) (b0 := base) (slotsT ts).ty fn.params.toList hfit args.toList ds p (fun j t v h1 h2 => hval j t v (by simpa using h1) (by simpa using h2)) hA
  have hc := E.2 x _ (hS x hwf) ⟨fun _ _ => none, fun b => b < W.heap.size⟩ W args.toList (by
      constructor
      · intro r s c h1
        have h2 : ((slotsT ts).objs0 x).getD r none = none := getD_ge (Nat.zero_le _)
        obtain ⟨c0, h3⟩ := stat_some h1
        rw [h2] at h3; cases h3
      · intro r s c b n _ h1; cases h1
      · intro r κ r' κ' b n n' h1; cases h1
      · intro r κ x h1; cases h1
      · intro b h1; exact h1
      · rintro b ⟨r, κ, n, h1⟩; cases h1
      · intro r κ b n h1; cases h1
      · intro r κ b n h1; cases h1) (slots_rep (E := ⟨fun _ _ => none, fun b => b < W.heap.size⟩) ts x _ hx)
  simp only [Array.toArray_toList] at hc
  refine hc.mono ?_
  rintro e W' ⟨us, E', rfl, HI, hr⟩
  have hbel : Below W.heap.size W W' := ⟨HI.bel.os, HI.bel.tape, HI.bel.output.1, HI.bel.size, fun b hb => HI.bel.blk b hb (by rintro ⟨r, κ, n, h1, _⟩; cases h1)⟩
  have hvs : us = [.bool true] := by
    have hr' : RepL E' (mrg ((slotsT ts).objs0 x) ((slotsT [.bool]).objs0 (true, ()))) W' [.pv .bool true] us := hr
    simp only [RepL, RepAV, RepC] at hr'
    obtain ⟨v, us', rfl, h1, rfl⟩ := hr'
    simp at h1; rw [h1]
  subst hvs
  refine ⟨_, rfl, ?_⟩
  have hlen := trodAll_length _ _ _ _ hA
  have hpt : ∀ t ∈ fn.params.toList, C.prog.readableRec t = true ∧ t < C.prog.types.size := fun t ht => by
    have := List.all_eq_true.1 hp t ht
    simpa using this
  simp only [List.append_nil] at hW'
  have hsame : ∀ x ∈ p, W.sameAt W' x := fun x hx => hbel.same (hA.lt x hx)
  have hlt := hA.lt
  have args' : ∀ sp : Nat → Bool, (∀ x ∈ p, sp x.block = true) → DataW.TrodAll enc C.prog W' 0 sp true fn.params.toList args.toList ds p := fun sp hsp => trodAll_stays hl _ hpt _ _ _ hA hsame hsp
  have res' : ∀ (b : Nat) (sp : Nat → Bool) (hd : Bool), DataW.TrodAll enc C.prog W' b sp hd fn.resultTypes.toList ((Value.bool true).resultList fn.resultTypes.size) [.lit (.bool true)] [] := fun b sp hd => by
    rw [hrt]; exact trodAll_mk1 (shut_bool hb true)
  have hout : s.fn H (ds ++ []) = { results := [.lit (.bool true)], args := ds } := by rw [List.append_nil]; exact hs ds hlen
  have vars' : ∀ sp : Nat → Bool, DataW.TrodVars enc C.prog W' sp s.vars (s.fn H (ds ++ [])).vars [] := fun sp => by rw [hout, hv]; rfl
  refine ⟨ds, [], p, [], p, [], hW', by rw [hout]; exact res' _ _ _, by rw [hout]; exact args' _ (fun x hx => by simpa using hlt x hx), vars' _, World.keptBut_mono (fun x hx => ⟨hx, .inr (by simpa using hx)⟩) (hbel.frame _), fun _ => ?_⟩
  refine ⟨ok_one hrt rfl (okWide_bool_mk hb true), _, _, ([] ++ p) ++ [], ⟨[] ++ p, [], trodAll_append (args' _ fun _ _ => rfl) (res' _ _ _), vars' _, rfl, ?_, ?_⟩, ?_⟩
  · intro b off hx
    have hx' : MemPlace.cell b off ∈ p := by simpa using hx
    rw [hbel.frozen (hlt _ hx')]
    exact hfz b off (by simpa using hx')
  · intro ha
    have := hnd ha
    simpa using this
  · intro x hx _
    simpa using hx
end Go.Ab
