import Derived.Test.YtfaonncpagjmkaaAbApp
set_option linter.unnecessarySimpa false
set_option linter.unusedVariables false
set_option linter.unusedSimpArgs false
namespace Go.Ab
open Go.RowKit

section
variable {P : Program} {C : Cfg} (HC : CfgOK P C)

theorem size_zero (z : Array Value) (n : Nat) : (Builtin.zeroCells z n).size = n * z.size := by simp [Builtin.zeroCells]

/-- Nothing is appended. -/
theorem run_app0 {t e : TypeId} {ie : TI} (hund : P.underlying t = some (.slice e)) (hte : TIOK P e ie) {ty : TypeId} {w : World} {A B : Option Addr} {n c c' : Nat} (hnc : n ≤ c) :
    (Builtin.append_ #[t, t] ty #[.slice A n c, .slice B 0 c']).run P w = .ok (.slice A n c) w := by
  obtain ⟨inf, d, hinf, _, hsz, _⟩ := hte
  have hf : (Builtin.firstCells inf.size 0 (.slice B 0 c')).run P w = .ok #[] w := by
    cases B with
    | none => simp [Builtin.firstCells]
    | some b => simp [Builtin.firstCells, loadCells, loadCellsFrom]
  simp only [Builtin.append_, Sem.run_bind, Sem.run_pure, Result.andThen_ok, run_underlying hund, sizeOf, typeInfo, run_program, hinf, Builtin.lenOf]
  simp [hnc, hinf, Builtin.lenOf, run_underlying hund, hf, storeCells]
  cases A <;> simp [storeCells]

/-- The append to an object of the call's own, or to nil. -/
theorem app_own {I0 : Nat → Prop} {w0 : World} {E : Env} {s : St} {w : World} (H : Inv I0 w0 E s.h w) {t e : TypeId} {ie : TI} (hund : P.underlying t = some (.slice e)) (hte : TIOK P e ie) (ty : TypeId)
    {r : Nat} {c src d : Cont} (hc : s.h.getD r none = some c) (hcs : c.sz = ie.size) (hss : src.sz = ie.size) (hsok : src.ok = true) (hj : joinC c src = some d) (hlim : d.len ≤ ie.lim)
    {v u : Value} (hv : OwnRep E s.h w r none v) {A : Option Addr} {m' : Nat} (hu : u = .slice A src.len m') (hm' : src.len ≤ m') (hrows : src.len ≠ 0 → ∃ b o, A = some ⟨b, o, none⟩ ∧ Rows E s.h w src b o) :
    ∃ v' E' w', (Builtin.append_ #[t, t] ty #[v, u]).run P w = .ok v' w' ∧ Inv I0 w0 E' ((s.junkR r).h.set r (some (d.junkR r))) w' ∧ GrowBut r E s.h w E' ((s.junkR r).h.set r (some (d.junkR r))) w' ∧ OwnRep E' ((s.junkR r).h.set r (some (d.junkR r))) w' r none v' := by
  subst hu
  obtain ⟨hdl, hds, hdel⟩ := joinC_spec hj (by rw [hss, hcs])
  obtain ⟨inf, dd, hinf, _, hsz, _, ⟨zv, hz1, hz2, hz3⟩, hlim1, hlim2⟩ := id hte
  obtain ⟨c0, hc0, _, hv⟩ := hv
  rw [hc] at hc0; obtain rfl : c = c0 := by simpa using hc0
  simp only [Option.getD_none] at hv
  have hrl : r < (s.junkR r).h.length := by simp only [St.junkR, List.length_map]; exact getD_obj hc
  have hget : ((s.junkR r).h.set r (some (d.junkR r))).getD r none = some (d.junkR r) := by rw [getD_set hrl, if_pos rfl]
  have hbytes : d.len * inf.bytes ≤ 140737488355328 := by
    have := Nat.mul_le_mul_right inf.bytes hlim
    omega
  have mkOwn : ∀ (E' : Env) (w' : World) (b n : Nat) (arr : Array Value) (ty' : TypeId), E'.ι r = some (b, 0, d.sz) → d.len ≤ n → w'.heap[b]? = some (.cells arr ty' (0, 0)) → n * d.sz ≤ arr.size → OwnRep E' ((s.junkR r).h.set r (some (d.junkR r))) w' r none (.slice (some ⟨b, 0, none⟩) d.len n) := by
    intro E' w' b n arr ty' h1 h2 h3 h4
    refine ⟨d.junkR r, hget, by simp, .inr ⟨b, 0, d.sz, n, ⟨b, 0, none⟩, h1, by simp [Cont.junk_len], by simpa [Cont.junk_len] using h2, by simp, arr, ty', h3, by simpa using h4⟩⟩
  -- a new block for both
  have fresh : ∀ (olds : List Value) (n : Nat) (w1 : World), olds.length = c.len * c.sz → d.len ≤ n → w1.heap = w.heap → w1.os = w.os → w1.tape = w.tape → w1.output = w.output →
      (∀ i, i < c.len → ∃ cs vs, c.at? i = some cs ∧ vs.length = c.sz ∧ RepL E s.h w cs vs ∧ ∀ (j : Nat) (hj : j < vs.length), olds[i * c.sz + j]? = some vs[j]) →
      ∀ (news : List Value), news.length = src.len * src.sz → (∀ i, i < src.len → ∃ cs vs, src.at? i = some cs ∧ vs.length = src.sz ∧ RepL E s.h w cs vs ∧ ∀ (j : Nat) (hj : j < vs.length), news[i * src.sz + j]? = some vs[j]) →
      ∀ (arr : Array Value), (∀ k, k < d.len * d.sz → arr[k]? = (olds ++ news)[k]?) → n * d.sz ≤ arr.size →
      ∃ E', Inv I0 w0 E' ((s.junkR r).h.set r (some (d.junkR r))) (w1.alloc (.cells arr e (0, 0))) ∧ GrowBut r E s.h w E' ((s.junkR r).h.set r (some (d.junkR r))) (w1.alloc (.cells arr e (0, 0))) ∧ OwnRep E' ((s.junkR r).h.set r (some (d.junkR r))) (w1.alloc (.cells arr e (0, 0))) r none (.slice (some ⟨w.heap.size, 0, none⟩) d.len n) := by
    intro olds n w1 hol hdn hh hos htape hout holds news hnl hnews arr harr hasz
    let E' : Env := ⟨fun q => if q = r then some (w.heap.size, 0, d.sz) else E.ι q, E.I⟩
    have hnew : (w1.alloc (.cells arr e (0, 0))).heap[w.heap.size]? = some (.cells arr e (0, 0)) := by
      show (w1.heap.push _)[w.heap.size]? = _; rw [hh]; simp
    have hsize : (w1.alloc (.cells arr e (0, 0))).heap.size = w.heap.size + 1 := by show (w1.heap.push _).size = _; rw [hh]; simp
    have hfit : d.len * d.sz ≤ arr.size := Nat.le_trans (Nat.mul_le_mul_right _ hdn) hasz
    have key := inv_app H hc (d := d) (E' := E') (w' := w1.alloc (.cells arr e (0, 0))) (b := w.heap.size) (arr := arr) (ty := e) rfl (by show (if r = r then _ else _) = _; simp) (fun q hq => by show (if q = r then _ else _) = _; rw [if_neg hq]) hnew
      (fun k _ hk => by rw [Below.heap_alloc w1 _ k (by rw [hh]; exact hk), hh]) (.inr (Nat.le_refl _)) (by omega) (by omega) hos htape hout hfit (fun i hi => by
        rcases hdel (E := E) (hp := s.h) (w := w) i hi with ⟨hlt, hq⟩ | ⟨hge, hq⟩
        · obtain ⟨cs, vs, h1, h2, h3, h4⟩ := holds i hlt
          obtain ⟨ds, h5, h6⟩ := hq cs h1 vs h3
          refine ⟨ds, vs, h5, by rw [hds]; exact h2, h6, fun j hj => ?_⟩
          have hle : i * c.sz + c.sz ≤ c.len * c.sz := by rw [← Nat.succ_mul]; exact Nat.mul_le_mul_right _ hlt
          have hle2 : c.len * c.sz ≤ d.len * c.sz := Nat.mul_le_mul_right _ (by omega)
          rw [hds, harr _ (by rw [hds]; omega), List.getElem?_append_left (by omega)]
          exact h4 j hj
        · obtain ⟨cs, vs, h1, h2, h3, h4⟩ := hnews (i - c.len) (by omega)
          obtain ⟨ds, h5, h6⟩ := hq cs h1 vs h3
          have hsc : src.sz = c.sz := by rw [hss, hcs]
          refine ⟨ds, vs, h5, by rw [hds, ← hsc]; exact h2, h6, fun j hj => ?_⟩
          have hle : i * c.sz + c.sz ≤ d.len * c.sz := by rw [← Nat.succ_mul]; exact Nat.mul_le_mul_right _ hi
          have hmul : i * c.sz = c.len * c.sz + (i - c.len) * c.sz := by rw [← Nat.add_mul]; congr 1; omega
          rw [hds, harr _ (by rw [hds]; omega), List.getElem?_append_right (by omega), hol]
          have := h4 j hj
          rw [hsc] at this
          rw [← this]; congr 1; omega)
    exact ⟨E', key.1, key.2, mkOwn E' _ w.heap.size n arr e (by show (if r = r then _ else _) = _; simp) hdn hnew hasz⟩
  have hgc : ∀ w' need old, need ≤ 9223372036854775807 → need ≤ grownCap w' need old e := by
    intro w' need old _; unfold grownCap Question.cut; exact Nat.le_add_right _ _
  rcases hv with ⟨h0, rfl⟩ | ⟨b, o, sz, n, a, hι, rfl, hn, ha, arr, ty', hb, hcap⟩
  · -- the destination is nil
    by_cases hm0 : src.len = 0
    · -- nothing to append
      have hd0 : d.len = 0 := by omega
      refine ⟨.slice none 0 0, E, w, by rw [hm0]; exact run_app0 hund hte (Nat.le_refl _), ?_⟩
      -- the object stays without elements
      have hg : GrowBut r E s.h w E ((s.junkR r).h.set r (some (d.junkR r))) w := ⟨fun _ _ _ h => h, fun k hk => ⟨hk, rfl⟩, fun q c' hne hq => ⟨c'.junkR r, by rw [getD_set hrl, if_neg hne, St.junk_get, hq]; rfl, Cont.junk_len r c'⟩, fun _ _ _ _ _ _ _ _ h => h⟩
      refine ⟨⟨⟨?_, ?_, H.heap.inj, fun q hq => H.heap.fresh q (by simpa [St.junkR] using hq), H.heap.base, H.heap.I_lt, H.heap.own_lt, H.heap.apart⟩, H.below, H.own_new, H.I_sub, H.I_new⟩, hg, ⟨d.junkR r, hget, by simp, .inl ⟨by rw [Cont.junk_len]; exact hd0, rfl⟩⟩⟩
      · intro q c' hq
        rw [getD_set hrl] at hq
        by_cases ee : q = r
        · rw [if_pos ee] at hq; obtain rfl : d.junkR r = c' := by simpa using hq
          exact .inl (by rw [Cont.junk_len]; exact hd0)
        · rw [if_neg ee, St.junk_get] at hq
          obtain ⟨c'', hq', rfl⟩ := Option.map_eq_some_iff.1 hq
          rw [Cont.junk_len, Cont.junk_sz]
          refine (H.heap.obj q c'' hq').imp id ?_
          rintro ⟨b', o', a', ty'', hι', hb', hfit', hels'⟩
          exact ⟨b', o', a', ty'', hι', hb', hfit', fun i hi => let ⟨cs, vs, h1, h2, h3, h4⟩ := hels' i hi; ⟨junkL r cs, vs, by rw [Cont.junk_at, h1]; rfl, h2, junk_repL hg cs h3, h4⟩⟩
      · intro q c' b' o' z hq hι'
        rw [getD_set hrl] at hq
        by_cases ee : q = r
        · subst ee
          rw [if_pos rfl] at hq; obtain rfl : d.junkR q = c' := by simpa using hq
          rw [Cont.junk_sz, hds]; exact H.heap.siz q c b' o' z hc hι'
        · rw [if_neg ee, St.junk_get] at hq
          obtain ⟨c'', hq', rfl⟩ := Option.map_eq_some_iff.1 hq
          rw [Cont.junk_sz]; exact H.heap.siz q c'' b' o' z hq' hι'
    · obtain ⟨sb, so, rfl, hR⟩ := hrows hm0
      have hdl0 : d.len = src.len := by omega
      have hrun := run_append_nil (P := P) w t ty e inf zv hund hinf hz1 ⟨sb, so, none⟩ src.len m' (memRow w sb so (src.len * src.sz)) (by rw [memRow_length, hsz, hss]) (fun j v hj => by
        have hlt := (List.getElem?_eq_some_iff.1 hj).1
        rw [memRow_length] at hlt
        obtain ⟨x, h1, h2⟩ := hR.cell hlt
        rw [h2] at hj; obtain rfl : x = v := by simpa using hj
        rw [addr_add]; exact h1) (by omega) (by omega) (by rw [← hdl0]; omega)
      obtain ⟨E', q1, q2, q3⟩ := fresh [] (grownCap w src.len 0 e) w.drew (by simp [h0]) (by rw [hdl0]; exact hgc w _ _ (by omega)) rfl rfl rfl rfl (fun i hi => by omega) (memRow w sb so (src.len * src.sz)) (memRow_length _ _ _ _) (fun i hi => hR.seg hi) ((memRow w sb so (src.len * src.sz)).toArray ++ Builtin.zeroCells zv.cells (grownCap w src.len 0 e - src.len)) (fun k hk => by
          have hk' : k < src.len * src.sz := by rw [hds, hdl0, hcs, ← hss] at hk; exact hk
          rw [Array.getElem?_append_left (by simp [memRow_length]; exact hk')]; simp) (by
          have := hgc w src.len 0 (by omega)
          simp only [Array.size_append, List.size_toArray, memRow_length, size_zero, hz3, hds, hcs, hss]
          rw [← Nat.add_mul]; exact Nat.mul_le_mul_right _ (by omega))
      rw [hdl0] at q3
      exact ⟨_, E', _, hrun, q1, q2, by exact q3⟩
  · have hob := H.heap.base r b o sz hι
    subst hob
    have hszc := H.heap.siz r c b 0 sz hc hι
    subst hszc
    obtain ⟨hR, _⟩ := obj_rows H.heap hc hι
    simp only [Nat.zero_mul, Nat.zero_add] at ha hcap
    by_cases hm0 : src.len = 0
    · -- nothing to append
      refine ⟨.slice (some a) c.len n, E, w, by rw [hm0]; exact run_app0 hund hte hn, ?_⟩
      have hdl0 : d.len = c.len := by omega
      have hfit : d.len * d.sz ≤ arr.size := by rw [hdl0, hds]; exact Nat.le_trans (Nat.mul_le_mul_right _ hn) hcap
      have key := inv_app H hc (d := d) (E' := E) (w' := w) (b := b) (arr := arr) (ty := ty') rfl (by rw [hds]; exact hι) (fun q hq => rfl) hb (fun _ _ _ => rfl) (.inl (by rw [hds]; exact hι)) (Nat.le_refl _) (H.heap.own_lt b ⟨r, _, _, hι⟩) rfl rfl rfl hfit (fun i hi => by
        rcases hdel (E := E) (hp := s.h) (w := w) i hi with ⟨hlt, hq⟩ | ⟨hge, hq⟩
        · obtain ⟨cs, vs, h1, h2, h3, h4⟩ := hR.el i hlt
          obtain ⟨ds, h5, h6⟩ := hq cs h1 vs h3
          refine ⟨ds, vs, h5, by rw [hds]; exact h2, h6, fun j hj => ?_⟩
          have := h4 j hj
          simp only [World.cell?, hb, Option.isSome_none, Bool.false_eq_true, if_false, Nat.zero_add] at this
          rw [hds]; exact this
        · omega)
      refine ⟨key.1, key.2, d.junkR r, hget, by simp, .inr ⟨b, 0, d.sz, n, a, by rw [hds]; exact hι, by simp [Cont.junk_len, hdl0], by simpa [Cont.junk_len, hdl0] using hn, by simpa using ha, arr, ty', hb, by rw [hds]; simpa using hcap⟩⟩
    · obtain ⟨sb, so, rfl, hS⟩ := hrows hm0
      have hnewsl : (memRow w sb so (src.len * src.sz)).length = src.len * inf.size := by rw [memRow_length, hsz, hss]
      have hnewsc : ∀ j v, (memRow w sb so (src.len * src.sz))[j]? = some v → w.cell? ((⟨sb, so, none⟩ : Addr).add j) = some v := fun j v hj => by
        have hlt := (List.getElem?_eq_some_iff.1 hj).1
        rw [memRow_length] at hlt
        obtain ⟨x, h1, h2⟩ := hS.cell hlt
        rw [h2] at hj; obtain rfl : x = v := by simpa using hj
        rw [addr_add]; exact h1
      have hmul : d.len * c.sz = c.len * c.sz + src.len * c.sz := by rw [hdl, Nat.add_mul]
      have hsc : src.sz = c.sz := by rw [hss, hcs]
      by_cases hroom : c.len + src.len ≤ n
      · -- there is room
        have ha := ha (by omega)
        subst ha
        have hrm : (c.len + src.len) * c.sz ≤ n * c.sz := Nat.mul_le_mul_right _ hroom
        have hpos : c.len * inf.size + (memRow w sb so (src.len * src.sz)).length ≤ arr.size := by
          rw [memRow_length, hsz, ← hcs, hsc, ← Nat.add_mul]; omega
        have hst := run_storeCells_at P b (c.len * inf.size) ty' (memRow w sb so (src.len * src.sz)) 0 arr w hb (by simpa using hpos) (hS.one hsok)
        have hf := run_firstCells_some (P := P) w inf.size src.len ⟨sb, so, none⟩ src.len m' (memRow w sb so (src.len * src.sz)) hnewsl hnewsc
        simp only [Nat.add_zero] at hst
        let arr' := (arr.toList.take (c.len * inf.size) ++ memRow w sb so (src.len * src.sz) ++ arr.toList.drop (c.len * inf.size + (memRow w sb so (src.len * src.sz)).length)).toArray
        have hasz : arr'.size = arr.size := by simp only [arr', List.size_toArray, List.length_append, List.length_take, List.length_drop, Array.length_toList]; omega
        have hrun : (Builtin.append_ #[t, t] ty #[.slice (some ⟨b, 0, none⟩) c.len n, .slice (some ⟨sb, so, none⟩) src.len m']).run P w = .ok (.slice (some ⟨b, 0, none⟩) (c.len + src.len) n) (w.setRow b arr') := by
          simp [Builtin.append_, run_underlying hund, sizeOf, typeInfo, hinf, Builtin.lenOf, hroom, hf, addr_add, hst, arr']
        have hcur : c.len * inf.size = c.len * c.sz := by rw [hsz, ← hcs]
        have hgetA : ∀ k, k < d.len * c.sz → arr'[k]? = if k < c.len * c.sz then arr[k]? else (memRow w sb so (src.len * src.sz))[k - c.len * c.sz]? := by
          intro k hk
          have hl : (arr.toList.take (c.len * inf.size)).length = c.len * c.sz := by rw [hcur]; simp; omega
          simp only [arr', List.getElem?_toArray, List.append_assoc]
          by_cases h2 : k < c.len * c.sz
          · rw [if_pos h2, List.getElem?_append_left (by omega), List.getElem?_take, if_pos (by omega)]; simp
          · rw [if_neg h2, List.getElem?_append_right (by omega), List.getElem?_append_left (by rw [memRow_length, hsc]; omega), hl]
        have hheap := fun k => heap_setRow (cur' := arr') hb k
        have key := inv_app H hc (d := d) (E' := E) (w' := w.setRow b arr') (b := b) (arr := arr') (ty := ty') rfl (by rw [hds]; exact hι) (fun q hq => rfl) (by rw [hheap]; simp) (fun k hk _ => by rw [hheap, if_neg hk]) (.inl (by rw [hds]; exact hι)) (by simp [World.setRow]) (by have := H.heap.own_lt b ⟨r, _, _, hι⟩; simpa [World.setRow] using this) rfl rfl rfl (by rw [hasz, hds, hmul, ← Nat.add_mul]; omega) (fun i hi => by
          have hle : i * c.sz + c.sz ≤ d.len * c.sz := by rw [← Nat.succ_mul]; exact Nat.mul_le_mul_right _ hi
          rcases hdel (E := E) (hp := s.h) (w := w) i hi with ⟨hlt, hq⟩ | ⟨hge, hq⟩
          · obtain ⟨cs, vs, h1, h2, h3, h4⟩ := hR.el i hlt
            obtain ⟨ds, h5, h6⟩ := hq cs h1 vs h3
            refine ⟨ds, vs, h5, by rw [hds]; exact h2, h6, fun j hj => ?_⟩
            have h7 := h4 j hj
            simp only [World.cell?, hb, Option.isSome_none, Bool.false_eq_true, if_false, Nat.zero_add] at h7
            have hle' : i * c.sz + c.sz ≤ c.len * c.sz := by rw [← Nat.succ_mul]; exact Nat.mul_le_mul_right _ hlt
            rw [hds, hgetA _ (by omega), if_pos (by omega)]; exact h7
          · obtain ⟨cs, vs, h1, h2, h3, h4⟩ := hS.seg (i := i - c.len) (by omega)
            obtain ⟨ds, h5, h6⟩ := hq cs h1 vs h3
            refine ⟨ds, vs, h5, by rw [hds, ← hsc]; exact h2, h6, fun j hj => ?_⟩
            have hmul' : i * c.sz = c.len * c.sz + (i - c.len) * c.sz := by rw [← Nat.add_mul]; congr 1; omega
            rw [hds, hgetA _ (by omega), if_neg (by omega)]
            have h7 := h4 j hj
            rw [hsc] at h7 ⊢
            rw [← h7]; congr 1; omega)
        refine ⟨_, E, _, hrun, key.1, key.2, ?_⟩
        rw [← hdl]
        exact mkOwn E _ b n arr' ty' (by rw [hds]; exact hι) (by omega) (by rw [hheap]; simp) (by rw [hasz, hds]; exact hcap)
      · -- it grows
        have holdsl : (memRow w b 0 (c.len * c.sz)).length = c.len * inf.size := by rw [memRow_length, hsz, hcs]
        have hrun := run_append_grow (P := P) w t ty e inf zv hund hinf hz1 a c.len n (memRow w b 0 (c.len * c.sz)) holdsl (fun j v hj => by
            have hlt := (List.getElem?_eq_some_iff.1 hj).1
            rw [memRow_length] at hlt
            have hcl : c.len ≠ 0 := by rintro h; rw [h] at hlt; simp at hlt
            obtain ⟨x, h1, h2⟩ := hR.cell hlt
            rw [h2] at hj; obtain rfl : x = v := by simpa using hj
            rw [ha (by omega), addr_add]; exact h1)
          ⟨sb, so, none⟩ src.len m' (memRow w sb so (src.len * src.sz)) hnewsl hnewsc (by omega) (by omega) (growslice_fits (by omega) (by rw [← hdl]; exact hbytes))
        obtain ⟨E', q1, q2, q3⟩ := fresh (memRow w b 0 (c.len * c.sz)) (grownCap w (c.len + src.len) n e) w.drew (memRow_length _ _ _ _) (by rw [hdl]; exact hgc w _ _ (by omega)) rfl rfl rfl rfl (fun i hi => hR.seg hi) (memRow w sb so (src.len * src.sz)) (memRow_length _ _ _ _) (fun i hi => hS.seg hi) ((memRow w b 0 (c.len * c.sz)).toArray ++ (memRow w sb so (src.len * src.sz)).toArray ++ Builtin.zeroCells zv.cells (grownCap w (c.len + src.len) n e - (c.len + src.len))) (fun k hk => by
            have hk' : k < (memRow w b 0 (c.len * c.sz)).length + (memRow w sb so (src.len * src.sz)).length := by rw [memRow_length, memRow_length, hsc]; rw [hds, hmul] at hk; exact hk
            rw [Array.getElem?_append_left (by simpa using hk')]; simp) (by
            have := hgc w (c.len + src.len) n (by omega)
            simp only [Array.size_append, List.size_toArray, memRow_length, size_zero, hz3, hds, hsc, ← hcs]
            rw [← Nat.add_mul, ← Nat.add_mul]; exact Nat.mul_le_mul_right _ (by omega))
        rw [hdl] at q3
        exact ⟨_, E', _, hrun, q1, q2, q3⟩
end
end Go.Ab
