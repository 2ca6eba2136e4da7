import Derived.Test.YtfaonncpagjmkaaAbEff3
set_option linter.unnecessarySimpa false
set_option linter.unusedVariables false
set_option linter.unusedSimpArgs false
namespace Go.Ab
open Go.RowKit

section
variable {P : Program} {C : Cfg} (HC : CfgOK P C)

include HC in
theorem store_sem {R : Type} {s : St} {o : Oper} {t : TypeId} {x y : Operand} {K : AV → St → Option R} {r : R} (ho : o.op = .store t x y) (h : vopE C s o K = some r) : ∃ v s', K v s' = some r ∧ ESem P s o v s' := by
  unfold vopE at h; simp only [ho] at h
  split at h
  case h_2 => cases h
  rename_i i hi
  have hti := HC.ti t i hi
  unfold storeE at h
  split at h
  case isFalse => cases h
  rename_i hok
  split at h
  case h_2 => cases h
  rename_i q j off ex
  -- the machine's store
  have run : ∀ (c c' : Cont) (cs cs' : List AV), s.h.getD q none = some c → c.at? j = some cs → off + i.size ≤ c.sz → c'.len = c.len → c'.sz = c.sz → c'.at? j = some cs' →
      (∀ (E : Env) (w : World) (us ws : List Value), RepL E s.h w (ev s.t y).cells us → RepL E s.h w cs ws → RepL E s.h w cs' (ws.take off ++ us ++ ws.drop (off + us.length))) → (∀ k, k ≠ j → c'.at? k = c.at? k) → ESem P s o .undef ⟨s.t, s.h.set q (some c')⟩ := by
    intro c c' cs cs' hc hcs hfit hlen hsz hat hcs' hoth I0 w0 E w a next Q hI ht hk
    have h1 := ht.eval x; rw [ex] at h1
    simp only [RepAV] at h1
    obtain ⟨b, o', sz, hι, e1⟩ := h1
    obtain ⟨hr, hone⟩ := cells_rep hok.1 (ht.eval y)
    have hvs : (a.eval y).cells.size = i.size := by have := hr.length; rw [hok.2] at this; simpa using this.symm
    obtain ⟨arr', h2, h3, h4⟩ := store_obj (P := P) hI hι hc hcs hr (by rw [hok.2]; exact hfit) hlen hsz hat (fun ws hws => hcs' E w _ _ hr hws) hoth hone
    unfold Oper.wp
    have : (execOp a.eval o).run P w = .ok .skip (w.setRow b arr') := by
      simp only [execOp, ho, e1, Instr.storeAt, Instr.sureAddr, storeVar, Sem.run_bind, Sem.run_pure, Result.andThen_ok, tiok_size hti, hvs, ne_eq, not_true_eq_false, if_false, Sem.run_ite, h2]
    rw [this, Oper.upon_skip]
    exact hk undef E _ h3 (ht.grow h4) (by simp only [RepAV]; exact ⟨[], rfl, RepL.nil⟩)
  split at h
  · rename_i n es hc
    split at h
    · rename_i cs hcs
      split at h
      · rename_i hfit
        refine ⟨_, _, h, fun I0 w0 E w a next Q hI ht hk => ?_⟩
        have hj := (List.getElem?_eq_some_iff.1 hcs).1
        have hcsl : cs.length = n := by
          rcases hI.heap.obj q _ hc with h0 | ⟨b, o', arr, ty, _, _, _, hels⟩
          · simp only [Cont.len] at h0; omega
          · obtain ⟨ds, vs, e1, e2, e3, _⟩ := hels j hj
            simp only [Cont.at?, hcs, Option.some.injEq] at e1; subst e1
            rw [e3.length, e2]; rfl
        exact run (.cells n es) (.cells n (es.set j (splice cs off (ev s.t y).cells))) cs (splice cs off (ev s.t y).cells) hc hcs (by simp only [Cont.sz]; omega) (by simp [Cont.len]) rfl (by simp [Cont.at?, hj])
          (fun E w us ws h1 h2 => by unfold splice; rw [h1.length]; exact RepL.append (RepL.append (h2.take _) h1) (h2.drop _)) (fun k hk => by simp [Cont.at?, List.getElem?_set_ne (Ne.symm hk)]) I0 w0 E w a next Q hI ht hk
      · cases h
    · cases h
  · rename_i u xs hc
    obtain ⟨z, hz, hK⟩ := bind_ok h
    obtain ⟨hj, rfl⟩ := List.getElem?_eq_some_iff.1 hz
    split at hK
    · rename_i hfit
      split at hK
      · rename_i z' hz'
        refine ⟨_, _, hK, run (.lst u xs) (.lst u (xs.set j z')) (flat u xs[j]) (flat u z') hc (by simp [Cont.at?, hj]) hfit (by simp [Cont.len]) rfl (by simp [Cont.at?, hj]) (fun E w us ws h1 h2 => ?_) (fun k hk => by simp [Cont.at?, List.getElem?_set_ne (Ne.symm hk)])⟩
        have h3 : RepL E s.h w (splice (flat u xs[j]) off (ev s.t y).cells) (ws.take off ++ us ++ ws.drop (off + us.length)) := by
          unfold splice; rw [h1.length]; exact RepL.append (RepL.append (h2.take _) h1) (h2.drop _)
        obtain ⟨u1, u2, e, h4, h5⟩ := pack_flat u _ _ _ hz' h3
        simp only [RepL] at h5; subst h5
        rw [e, List.append_nil]; exact rep_flat u h4
      · cases hK
    · cases hK
  · cases h

/-! ### append -/
/-- The cells from a place on. -/
def memRow (w : World) (b o n : Nat) : List Value := (List.range n).map fun k => (w.cell? ⟨b, o + k, none⟩).getD undef

theorem memRow_length (w : World) (b o n : Nat) : (memRow w b o n).length = n := by simp [memRow]
theorem memRow_get {w : World} {b o n k : Nat} (hk : k < n) : (memRow w b o n)[k]? = some ((w.cell? ⟨b, o + k, none⟩).getD undef) := by simp [memRow, hk]

/-- Elements in memory. -/
structure Rows (E : Env) (h : List (Option Cont)) (w : World) (c : Cont) (b o : Nat) : Prop where
  el : ∀ i, i < c.len → ∃ cs vs, c.at? i = some cs ∧ vs.length = c.sz ∧ RepL E h w cs vs ∧ cellsAt w b (o + i * c.sz) vs

theorem Rows.cell {E : Env} {h : List (Option Cont)} {w : World} {c : Cont} {b o : Nat} (H : Rows E h w c b o) {k : Nat} (hk : k < c.len * c.sz) : ∃ v, w.cell? ⟨b, o + k, none⟩ = some v ∧ (memRow w b o (c.len * c.sz))[k]? = some v := by
  have hs : 0 < c.sz := by rcases Nat.eq_zero_or_pos c.sz with h | h; · rw [h] at hk; simp at hk
                           · exact h
  have hd : k / c.sz < c.len := Nat.div_lt_of_lt_mul (by rwa [Nat.mul_comm])
  obtain ⟨cs, vs, _, h2, _, h4⟩ := H.el (k / c.sz) hd
  have hm := Nat.mod_lt k hs
  have := h4 (k % c.sz) (by omega)
  rw [Nat.add_assoc, Nat.div_add_mod'] at this
  exact ⟨_, this, by rw [memRow_get hk, this]; rfl⟩
theorem Rows.seg {E : Env} {h : List (Option Cont)} {w : World} {c : Cont} {b o : Nat} (H : Rows E h w c b o) {i : Nat} (hi : i < c.len) : ∃ cs vs, c.at? i = some cs ∧ vs.length = c.sz ∧ RepL E h w cs vs ∧ ∀ (j : Nat) (hj : j < vs.length), (memRow w b o (c.len * c.sz))[i * c.sz + j]? = some vs[j] := by
  obtain ⟨cs, vs, h1, h2, h3, h4⟩ := H.el i hi
  refine ⟨cs, vs, h1, h2, h3, fun j hj => ?_⟩
  have : i * c.sz + c.sz ≤ c.len * c.sz := by rw [← Nat.succ_mul]; exact Nat.mul_le_mul_right _ hi
  rw [memRow_get (by omega), ← Nat.add_assoc, h4 j hj]; rfl

theorem flat_cell : (t : Ty) → (x : den t) → (flat t x).all AV.cell = true
  | .prod a b, x => by simp only [flat, List.all_append, flat_cell a x.1, flat_cell b x.2, Bool.and_self]
  | .unit, _ | .int _, _ | .bool, _ | .str, _ | .err, _ | .slice _, _ | .iref _, _ | .fn _ _, _ => rfl

theorem Rows.one {E : Env} {h : List (Option Cont)} {w : World} {c : Cont} {b o : Nat} (H : Rows E h w c b o) (hok : c.ok = true) : ∀ v ∈ memRow w b o (c.len * c.sz), v.oneCell' = true := by
  intro v hv
  obtain ⟨k, hk, rfl⟩ := List.getElem_of_mem hv
  rw [memRow_length] at hk
  have hs : 0 < c.sz := by rcases Nat.eq_zero_or_pos c.sz with h | h; · rw [h] at hk; simp at hk
                           · exact h
  have hd : k / c.sz < c.len := Nat.div_lt_of_lt_mul (by rwa [Nat.mul_comm])
  have hm := Nat.mod_lt k hs
  obtain ⟨cs, vs, h1, h2, h3, h4⟩ := H.seg hd
  have := h4 (k % c.sz) (by omega)
  rw [Nat.div_add_mod'] at this
  obtain ⟨_, e⟩ := List.getElem?_eq_some_iff.1 this
  rw [e]
  have hall : cs.all AV.cell = true := by
    cases c with
    | lst t xs => obtain ⟨hi, rfl⟩ := at_lst h1; exact flat_cell t _
    | cells n es =>
      simp only [Cont.ok] at hok
      have := List.all_eq_true.1 hok cs (List.mem_of_getElem? h1)
      simp only [Bool.and_eq_true] at this; exact this.2
  have hl := h3.length
  obtain ⟨u, h5, h6⟩ := h3.get (k % c.sz) (c := cs[k % c.sz]'(by omega)) (by simp [show k % c.sz < cs.length by omega])
  rw [List.getElem?_eq_getElem (by omega)] at h5
  obtain rfl := by simpa using h5
  exact cell_one (List.all_eq_true.1 hall _ (List.getElem_mem _)) h6

/-- An object's own elements. -/
theorem obj_rows {E : Env} {hp : List (Option Cont)} {w : World} (H : HeapOK E hp w) {r : Nat} {c : Cont} (hc : hp.getD r none = some c) {b o sz : Nat} (hι : E.ι r = some (b, o, sz)) : Rows E hp w c b o ∧ sz = c.sz := by
  have hs := H.siz r c b o sz hc hι
  refine ⟨⟨fun i hi => ?_⟩, hs⟩
  rcases H.obj r c hc with h0 | ⟨b', o', arr, ty, hι', hb, hfit, hels⟩
  · omega
  · rw [hι] at hι'; obtain ⟨rfl, rfl, _⟩ : b = b' ∧ o = o' ∧ sz = c.sz := by simpa using hι'
    obtain ⟨cs, vs, h1, h2, h3, h4⟩ := hels i hi
    refine ⟨cs, vs, h1, h2, h3, fun j hj => ?_⟩
    have := h4 j hj
    simp only [World.cell?, hb, Option.isSome_none, Bool.false_eq_true, if_false]
    exact this

/-- The source of an append. -/
theorem src_rows {s : St} {y : AV} {src : Cont} (hs : srcC s y = some src) {E : Env} {w : World} (H : HeapOK E s.h w) {v : Value} (hv : RepAV E s.h w y v) :
    ∃ A c', v = .slice A src.len c' ∧ src.len ≤ c' ∧ (src.len ≠ 0 → ∃ b o, A = some ⟨b, o, none⟩ ∧ Rows E s.h w src b o) := by
  unfold srcC at hs
  split at hs
  · rename_i u ys
    obtain rfl := by simpa using hs
    simp only [RepAV, RepC] at hv
    obtain ⟨A, c, e, hlc, h1⟩ := hv
    refine ⟨A, c, by simpa [Cont.len] using e, hlc, fun hne => ?_⟩
    obtain ⟨b, o, rfl, hI, h2⟩ := h1 hne
    refine ⟨b, o, rfl, ⟨fun i hi => ?_⟩⟩
    obtain ⟨cs, h3, h4, h5⟩ := h2 i hi
    exact ⟨flat u _, cs, by simp only [Cont.at?]; rw [List.getElem?_eq_getElem hi]; rfl, h3, rep_flat u h4, h5⟩
  · rename_i r
    simp only [RepAV, OwnRep] at hv
    obtain ⟨c, hc, hle, h1⟩ := hv
    rw [hs] at hc; obtain rfl : src = c := by simpa using hc
    simp only [Option.getD_none] at hle h1
    rcases h1 with ⟨h0, rfl⟩ | ⟨b, o, sz, n, a, hι, rfl, hn, ha, _⟩
    · exact ⟨none, 0, by rw [h0], by omega, fun hne => absurd h0 hne⟩
    · refine ⟨some a, n, rfl, hn, fun hne => ?_⟩
      obtain ⟨hr, rfl⟩ := obj_rows H hs hι
      exact ⟨b, o, by rw [ha (by omega)]; simp, hr⟩
  · rename_i r rg
    split at hs
    · rename_i u ys hobj
      obtain rfl := by simpa using hs
      simp only [RepAV, OwnRep] at hv
      obtain ⟨c, hc, hle, h1⟩ := hv
      rw [hobj] at hc; obtain rfl : Cont.lst u ys = c := by simpa using hc
      simp only [Option.getD_some, Cont.len] at hle h1
      have hlen : (sub? ys (some rg)).length = rg.2 := by simp [sub?]; omega
      rcases h1 with ⟨h0, rfl⟩ | ⟨b, o, sz, n, a, hι, rfl, hn, ha, _⟩
      · have : rg.2 = 0 := by omega
        exact ⟨none, 0, by simp only [Cont.len, hlen, this], by simp only [Cont.len, hlen]; omega, fun hne => absurd (by simp only [Cont.len, hlen]; exact this) hne⟩
      · refine ⟨some a, n, by simp only [Cont.len, hlen], by simp only [Cont.len, hlen]; exact hn, fun hne => ?_⟩
        simp only [Cont.len, hlen] at hne
        obtain ⟨hr, rfl⟩ := obj_rows H hobj hι
        refine ⟨b, o + rg.1 * (Cont.lst u ys).sz, by rw [ha (by omega)], ⟨fun i hi => ?_⟩⟩
        simp only [Cont.len, hlen] at hi
        obtain ⟨cs, vs, h2, h3, h4, h5⟩ := hr.el (rg.1 + i) (by simp only [Cont.len]; omega)
        refine ⟨cs, vs, ?_, h3, h4, ?_⟩
        · rw [← h2]; simp only [Cont.at?, sub?]; rw [List.getElem?_take_of_lt hi, List.getElem?_drop]
        · simp only [Cont.sz] at h5 ⊢; rw [Nat.add_assoc, ← Nat.add_mul]; exact h5
    · cases hs
  · cases hs
end
end Go.Ab
