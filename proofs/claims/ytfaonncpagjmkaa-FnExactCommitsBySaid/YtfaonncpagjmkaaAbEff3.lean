import Derived.Test.YtfaonncpagjmkaaAbEff2
import Derived.IntWalk
set_option linter.unnecessarySimpa false
set_option linter.unusedVariables false
set_option linter.unusedSimpArgs false
namespace Go.Ab
open Go.RowKit

section
variable {P : Program} {C : Cfg} (HC : CfgOK P C)

include HC in
theorem makeSlice_sem {R : Type} {s : St} {o : Oper} {t : TypeId} {l c : Operand} {K : AV → St → Option R} {r : R} (ho : o.op = .makeSlice t l c) (h : vopE C s o K = some r) : ∃ v s', K v s' = some r ∧ ESem P s o v s' := by
  unfold vopE at h; simp only [ho] at h
  split at h
  · rename_i size e code zero lim n m hti hn hm
    obtain ⟨_, d, _, hund, _, hu, _⟩ := HC.ti t _ hti
    simp only [UndOK] at hu; subst hu
    split at h
    · rename_i ie hie
      have hte := HC.ti e ie hie
      obtain ⟨inf, _, hinf, _, hsize, _, ⟨zv, hz1, hz2, hz3⟩, hlim1, hlim2⟩ := hte
      split at h
      · rename_i hb
        split at h
        · rename_i u hu
          split at h
          · rename_i z hz
            split at h
            · rename_i husz
              refine ⟨_, _, h, fun I0 w0 E w a next Q hI ht hk => ?_⟩
              have hzero : RepL E s.h w ie.zero zv.cells.toList := by
                rw [hz2]
                exact RepL.of (by simp) (fun j h1 h2 => by simpa using rep_const _)
              have e1 := ht.eval l; rw [isInt_spec hn] at e1; have e1 := rep_int e1
              have e2 := ht.eval c; rw [isInt_spec hm] at e2; have e2 := rep_int e2
              obtain ⟨us, ws, hsplit, h3, h4⟩ := pack_flat u _ _ _ hz hzero
              simp only [RepL] at h4; subst h4
              rw [List.append_nil] at hsplit
              obtain ⟨hb0, hb1, hb2⟩ := hb
              let N := n.toNat
              let M := m.toNat
              have hM : (M : Int) = m := Int.toNat_of_nonneg (by omega)
              have hN : (N : Int) = n := Int.toNat_of_nonneg hb0
              have harr : ((List.replicate M zv.cells.toList).flatten).length = M * ie.size := by
                rw [flatten_len (sz := ie.size) _ (by simp [hz3])]; simp
              obtain ⟨E', q1, q2, q3⟩ := row_new hI (.lst u (List.replicate N z)) ((List.replicate M zv.cells.toList).flatten.toArray) e M (by show (List.replicate N z).length ≤ M; rw [List.length_replicate]; omega) (by show M * u.size ≤ _; rw [List.size_toArray, harr, husz]; exact Nat.le_refl _) (fun i hi => by
                simp only [Cont.len, List.length_replicate] at hi
                refine ⟨flat u z, us, by simp [Cont.at?, hi], ?_, rep_flat u h3, fun j hj => ?_⟩
                · simp only [Cont.sz]; exact RepC.length u h3
                · simp only [Cont.sz, List.getElem?_toArray, husz]
                  rw [flatten_get (sz := ie.size) (List.replicate M zv.cells.toList) (by intro vs hvs; rw [(List.mem_replicate.1 hvs).2]; simpa using hz3) i j (vs := zv.cells.toList) (by rw [List.getElem?_replicate, if_pos (by omega)]) (by rw [← husz, ← RepC.length u h3]; exact hj), hsplit]
                  simp [hj])
              unfold Oper.wp
              have hw1 : IntKind.i64.wrap n = n := by exact IntWalk.i64_in _ (by omega)
              have hw2 : IntKind.i64.wrap m = m := by exact IntWalk.i64_in _ (by omega)
              have hbytes : (inf.bytes : Int) * m ≤ 281474976710656 := by
                have h1 : M * inf.bytes ≤ ie.lim * inf.bytes := Nat.mul_le_mul_right _ (by omega)
                have h2 : ((M * inf.bytes : Nat) : Int) = (inf.bytes : Int) * m := by rw [← hM]; simp [Int.mul_comm]
                omega
              have : (execOp a.eval o).run P w = .ok (.value (.slice (some ⟨w.heap.size, 0, none⟩) N M)) (w.alloc (.cells (List.replicate M zv.cells.toList).flatten.toArray e (0, 0))) := by
                simp only [execOp, ho, e1, e2, Instr.makeSlice, Sem.run_bind, run_underlying hund, Result.andThen_ok, asInt, asIntOf, Sem.run_pure, typeInfo, run_program, hinf, Sem.run_ite, hw1, hw2]
                have h48 : (2 : Int) ^ 48 = 281474976710656 := by decide
                rw [if_neg (by simp only [h48, Bool.or_eq_true, decide_eq_true_eq]; omega)]
                simp only [run_askRoom, Result.andThen_ok, tiok_size (HC.ti e ie hie)]
                have hz := zero_cells zv.cells M
                rw [hz3] at hz
                have hMn : m.toNat = M := rfl
                have hNn : n.toNat = N := rfl
                by_cases h0 : M * ie.size = 0
                · simp only [hMn, hNn, h0, if_true, Sem.run_pure, Result.andThen_ok, newRow, Sem.run_bind, run_newObj]
                  rw [h0] at hz
                  rw [← hz]
                  simp [show Array.range 0 = #[] from rfl]
                · simp only [hMn, hNn, h0, if_false, Sem.run_bind, zeroValue, typeInfo, run_program, hinf, hz1, Sem.run_pure, Result.andThen_ok, newRow, run_newObj, hz3]
                  rw [hz]; simp
              rw [this]
              simp only [Cont.len, List.length_replicate] at q3
              exact hk _ E' _ q1 (ht.grow q2) q3
            · cases h
          · cases h
        · cases h
      · cases h
    · cases h
  · cases h

theorem getD_set {h : List (Option Cont)} {o : Option Cont} {r q : Nat} (hr : r < h.length) : (h.set r o).getD q none = if q = r then o else h.getD q none := by
  by_cases e : q = r
  · subst e; rw [if_pos rfl]; simp [List.getD_eq_getElem?_getD, hr]
  · rw [if_neg e]; simp [List.getD_eq_getElem?_getD, List.getElem?_set_ne (Ne.symm e)]

theorem heap_setRow {w : World} {g : Nat} {cur cur' : Array Value} {ty : TypeId} (hg : w.heap[g]? = some (.cells cur ty (0, 0))) (b : Nat) : (w.setRow g cur').heap[b]? = if b = g then some (.cells cur' ty (0, 0)) else w.heap[b]? := by
  by_cases e : b = g
  · subst e; rw [if_pos rfl]; exact setRow_heap w b cur cur' ty (0, 0) hg
  · rw [if_neg e]
    simp only [World.setRow, Array.getElem?_modify, if_neg (Ne.symm e)]

/-- An object's cells change, its length does not. -/
theorem inv_set {I0 : Nat → Prop} {w0 : World} {E : Env} {h : List (Option Cont)} {w : World} (H : Inv I0 w0 E h w) {q : Nat} {c c' : Cont} {b o : Nat} {arr arr' : Array Value} {ty : TypeId} (hc : h.getD q none = some c) (hι : E.ι q = some (b, o, c.sz)) (hb : w.heap[b]? = some (.cells arr ty (0, 0)))
    (hlen : c'.len = c.len) (hsz : c'.sz = c.sz) (harr : arr'.size = arr.size) (hfit : o + c.len * c.sz ≤ arr.size)
    (hels : ∀ i, i < c.len → ∃ cs vs, c'.at? i = some cs ∧ vs.length = c.sz ∧ RepL E h w cs vs ∧ ∀ (j : Nat) (hj : j < vs.length), arr'[o + i * c.sz + j]? = some vs[j]) :
    Inv I0 w0 E (h.set q (some c')) (w.setRow b arr') ∧ Grow E h w E (h.set q (some c')) (w.setRow b arr') := by
  have hql := getD_obj hc
  have hheap := fun k => heap_setRow (cur' := arr') hb k
  have hg : Grow E h w E (h.set q (some c')) (w.setRow b arr') := by
    refine ⟨fun _ _ h => h, fun k hk => ⟨hk, ?_⟩, fun r d hr => ?_, fun k a' ty' hk ha' => ?_⟩
    · rw [hheap, if_neg (by rintro rfl; exact H.heap.apart k ⟨q, _, _, hι⟩ hk)]
    · rw [getD_set hql]
      by_cases e : r = q
      · subst e; rw [hc] at hr; obtain rfl : c = d := by simpa using hr
        exact ⟨c', by simp, hlen⟩
      · exact ⟨d, by rw [if_neg e]; exact hr, rfl⟩
    · rw [hheap]
      by_cases e : k = b
      · subst e; rw [hb] at ha'; obtain ⟨rfl, rfl⟩ : arr = a' ∧ ty = ty' := by simpa using ha'
        exact ⟨arr', by simp, harr⟩
      · exact ⟨a', by rw [if_neg e]; exact ha', rfl⟩
  refine ⟨⟨⟨?_, ?_, H.heap.inj, ?_, H.heap.base, ?_, ?_, H.heap.apart⟩, ?_, H.own_new, H.I_sub, H.I_new⟩, hg⟩
  · intro r d hr
    rw [getD_set hql] at hr
    by_cases e : r = q
    · subst e
      rw [if_pos rfl] at hr; obtain rfl : c' = d := by simpa using hr
      right
      refine ⟨b, o, arr', ty, by rw [hsz]; exact hι, by rw [hheap]; simp, by rw [hlen, hsz, harr]; exact hfit, fun i hi => ?_⟩
      rw [hlen] at hi
      obtain ⟨cs, vs, h1, h2, h3, h4⟩ := hels i hi
      exact ⟨cs, vs, h1, by rw [hsz]; exact h2, grow_repL hg cs h3, fun j hj => by rw [hsz]; exact h4 j hj⟩
    · rw [if_neg e] at hr
      refine (H.heap.obj r d hr).imp id ?_
      rintro ⟨b', o', a', ty', hι', hb', hfit', hels'⟩
      have hne : b' ≠ b := by rintro rfl; exact e (H.heap.inj r q b' _ _ _ _ hι' hι)
      refine ⟨b', o', a', ty', hι', by rw [hheap, if_neg hne]; exact hb', hfit', fun i hi => ?_⟩
      obtain ⟨cs, vs, h1, h2, h3, h4⟩ := hels' i hi
      exact ⟨cs, vs, h1, h2, grow_repL hg cs h3, h4⟩
  · intro r d b' o' s' hr hι'
    rw [getD_set hql] at hr
    split at hr
    · rename_i e; subst e
      obtain rfl : c' = d := by simpa using hr
      rw [hι] at hι'; simp only [Option.some.injEq, Prod.mk.injEq] at hι'
      rw [hsz]; exact hι'.2.2.symm
    · exact H.heap.siz r d b' o' s' hr hι'
  · intro r hr; exact H.heap.fresh r (by simpa using hr)
  · intro k hk; have := H.heap.I_lt k hk; simpa [World.setRow] using this
  · intro k hk; have := H.heap.own_lt k hk; simpa [World.setRow] using this
  · refine H.below.trans ⟨rfl, rfl, rfl, by simp [World.setRow], fun k hk => ?_⟩
    rw [hheap, if_neg (by rintro rfl; have := H.own_new k ⟨q, _, _, hι⟩; omega)]

theorem at_len {c : Cont} {i : Nat} {cs : List AV} (h : c.at? i = some cs) : i < c.len := by
  cases c with
  | lst t xs => obtain ⟨h1, _⟩ := at_lst h; exact h1
  | cells n es => exact (List.getElem?_eq_some_iff.1 h).1

/-- A store into an element of an object. -/
theorem store_obj {I0 : Nat → Prop} {w0 : World} {E : Env} {h : List (Option Cont)} {w : World} (H : Inv I0 w0 E h w) {q j off : Nat} {c c' : Cont} {cs cs' : List AV} {us : List Value} {vs : List AV} {b o sz : Nat} (hι : E.ι q = some (b, o, sz)) (hc : h.getD q none = some c) (hcs : c.at? j = some cs)
    (hr : RepL E h w vs us) (hfit : off + vs.length ≤ c.sz) (hlen : c'.len = c.len) (hsz : c'.sz = c.sz) (hat : c'.at? j = some cs') (hcs' : ∀ ws, RepL E h w cs ws → RepL E h w cs' (ws.take off ++ us ++ ws.drop (off + us.length))) (hother : ∀ i, i ≠ j → c'.at? i = c.at? i) (h1 : ∀ u ∈ us, u.oneCell' = true) :
    ∃ arr', (storeCells ⟨b, o + j * sz + off, none⟩ us).run P w = .ok () (w.setRow b arr') ∧ Inv I0 w0 E (h.set q (some c')) (w.setRow b arr') ∧ Grow E h w E (h.set q (some c')) (w.setRow b arr') := by
  have hs := H.heap.siz q c b o sz hc hι
  subst hs
  have hj := at_len hcs
  rcases H.heap.obj q c hc with h0 | ⟨b', o', arr, ty, hι', hb, hfit', hels⟩
  · omega
  rw [hι] at hι'; obtain ⟨rfl, rfl⟩ : b = b' ∧ o = o' := by simpa using hι'
  have hul := hr.length
  have hjs : j * c.sz + c.sz ≤ c.len * c.sz := by rw [← Nat.succ_mul]; exact Nat.mul_le_mul_right _ hj
  let pos := o + j * c.sz + off
  let arr' := (arr.toList.take pos ++ us ++ arr.toList.drop (pos + us.length)).toArray
  have hpos : pos + us.length ≤ arr.size := by simp only [pos]; omega
  have hasz : arr'.size = arr.size := by simp [arr']; omega
  have hrun := run_storeCells_at P b pos ty us 0 arr w hb (by simpa using hpos) h1
  simp only [Nat.add_zero] at hrun
  have hget : ∀ k, arr'[k]? = if k < pos then arr[k]? else if k < pos + us.length then us[k - pos]? else arr[k]? := by
    intro k
    have hl : (arr.toList.take pos).length = pos := by simp; omega
    simp only [arr', List.getElem?_toArray]
    by_cases h2 : k < pos
    · rw [if_pos h2, List.append_assoc, List.getElem?_append_left (by omega), List.getElem?_take, if_pos h2]; simp
    · rw [if_neg h2]
      by_cases h3 : k < pos + us.length
      · rw [if_pos h3, List.append_assoc, List.getElem?_append_right (by omega), List.getElem?_append_left (by omega), hl]
      · rw [if_neg h3, List.getElem?_append_right (by simp; omega)]
        simp only [List.length_append, hl, List.getElem?_drop]
        rw [show pos + us.length + (k - (pos + us.length)) = k by omega]; simp
  refine ⟨arr', hrun, inv_set H hc hι hb hlen hsz hasz hfit' fun i hi => ?_⟩
  obtain ⟨ds, ws, e1, e2, e3, e4⟩ := hels i hi
  by_cases hij : i = j
  · subst hij
    rw [hcs] at e1; obtain rfl : cs = ds := by simpa using e1
    refine ⟨cs', _, hat, ?_, hcs' ws e3, fun k hk => ?_⟩
    · simp; omega
    · have hk' : k < c.sz := by simp at hk; omega
      rw [hget]
      have hwl : (ws.take off).length = off := by simp; omega
      have hofs := e4 k (by omega)
      by_cases h2 : k < off
      · rw [if_pos (by simp only [pos]; omega), hofs]
        congr 1
        rw [List.getElem_append_left (by simp; omega), List.getElem_append_left (by omega)]; simp
      · rw [if_neg (by simp only [pos]; omega)]
        by_cases h3 : k < off + us.length
        · rw [if_pos (by simp only [pos]; omega)]
          rw [List.getElem_append_left (by simp; omega), List.getElem_append_right (by omega)]
          have : o + i * c.sz + k - pos = k - (ws.take off).length := by rw [hwl]; simp only [pos]; omega
          rw [this]; simp
        · rw [if_neg (by simp only [pos]; omega), hofs]
          congr 1
          rw [List.getElem_append_right (by simp; omega)]
          simp only [List.getElem_drop, List.length_append, hwl]
          congr 1; omega
  · refine ⟨ds, ws, by rw [hother i hij]; exact e1, e2, e3, fun k hk => ?_⟩
    rw [hget, e4 k hk]
    by_cases hlt : i < j
    · have : i * c.sz + c.sz ≤ j * c.sz := by rw [← Nat.succ_mul]; exact Nat.mul_le_mul_right _ hlt
      rw [if_pos (by simp only [pos]; omega)]
    · have : j * c.sz + c.sz ≤ i * c.sz := by rw [← Nat.succ_mul]; exact Nat.mul_le_mul_right _ (by omega)
      rw [if_neg (by simp only [pos]; omega), if_neg (by simp only [pos]; omega)]
end
end Go.Ab
