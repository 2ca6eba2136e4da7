import Derived.Test.YthjochcbdhiclaaGreatAbQ4
set_option linter.unnecessarySimpa false
set_option linter.unusedVariables false
set_option linter.unusedSimpArgs false
namespace Go.Ab
open Go.RowKit
section
variable {P : Program} {C : Cfg} (HC : TabOK P C)
theorem cell_one {E : Env} {h : Heap} {w : World} {c : AV} {v : Value} (hc : c.cell = true) (hv : RepAV E h w c v) : v.oneCell' = true := by
  cases c with
  | pv t x =>
    simp only [RepAV] at hv
    cases t with
    | prod a b => simp [AV.cell, Ty.agg] at hc
    | unit => simp [AV.cell, Ty.agg] at hc
    | int k => have := rep_int (E := E) (h := h) (w := w) (by simpa only [RepAV] using hv); subst this; rfl
    | bool => have := rep_bool (E := E) (h := h) (w := w) (by simpa only [RepAV] using hv); subst this; rfl
    | str => have := rep_str (E := E) (h := h) (w := w) (by simpa only [RepAV] using hv); subst this; rfl
    | err =>
      simp only [RepC] at hv; obtain ⟨u, e, hu⟩ := hv
      obtain rfl : v = u := by simpa using e
      split at hu
      · subst hu; rfl
      · obtain ⟨_, _, rfl⟩ := hu; rfl
    | slice t => simp only [RepC] at hv; obtain ⟨A, n, e, _⟩ := hv; obtain rfl : v = _ := (by simpa using e); rfl
    | iref t =>
      cases x with
      | none => simp only [RepC] at hv; obtain rfl : v = _ := (by simpa using hv); rfl
      | some y => simp only [RepC] at hv; obtain ⟨b, o, cs, e, _⟩ := hv; obtain rfl : v = _ := (by simpa using e); rfl
    | idx => simp only [RepC] at hv
    | fn f t => simp only [RepC] at hv; obtain ⟨us, e, _⟩ := hv; obtain rfl : v = _ := (by simpa using e); rfl
  | own r s rg =>
    simp only [RepAV] at hv
    unfold OwnAV at hv
    split at hv
    · cases hv
    · exact hv
    · exact hv.one
  | ptr r s i o => simp only [RepAV] at hv; obtain ⟨a, rfl⟩ := ptr_some hv; rfl
  | mptr r k v0 off o =>
    cases o with
    | none => simp only [RepAV] at hv; subst hv; rfl
    | some p => simp only [RepAV] at hv; obtain ⟨a, rfl⟩ := ptr_some hv; rfl
  | unk => simp only [RepAV] at hv; obtain ⟨b, rfl⟩ := hv; rfl
  | iptr t x o => simp only [RepAV] at hv; obtain ⟨_, _, _, rfl, _⟩ := hv; rfl
  | nils => simp only [RepAV] at hv; subst hv; rfl
  | nilp => simp only [RepAV] at hv; subst hv; rfl
  | nilf => simp only [RepAV] at hv; subst hv; rfl
  | nili => simp only [RepAV] at hv; subst hv; rfl
  | fn f cs => simp only [RepAV] at hv; obtain ⟨us, rfl, _⟩ := hv; rfl
  | agg cs => simp [AV.cell] at hc
  | tup cs => simp [AV.cell] at hc
  | junk => simp [AV.cell] at hc
theorem cells_rep {E : Env} {h : Heap} {w : World} {c : AV} {v : Value} (hc : c.ok = true) (hv : RepAV E h w c v) : RepL E h w c.cells v.cells.toList ∧ ∀ u ∈ v.cells.toList, u.oneCell' = true := by
  have key : RepL E h w c.cells v.cells.toList := by
    cases c with
    | agg cs => simp only [RepAV] at hv; obtain ⟨vs, rfl, h1⟩ := hv; simpa [AV.cells, Value.cells] using h1
    | _ =>
      simp only [AV.ok, AV.cells, List.all_cons, List.all_nil, Bool.and_true] at hc
      have h1 := cell_one hc hv
      cases v <;> first | (simp [Value.oneCell'] at h1; done) | exact RepL.cons hv RepL.nil
  refine ⟨key, ?_⟩
  unfold AV.ok at hc
  intro u hu
  obtain ⟨i, hi, rfl⟩ := List.getElem_of_mem hu
  have hl := key.length
  obtain ⟨u', h1, h2⟩ := key.get i (c := c.cells[i]'(by omega)) (by simp [hl ▸ hi])
  rw [List.getElem?_eq_getElem hi] at h1
  obtain rfl := by simpa using h1
  exact cell_one (List.all_eq_true.1 hc _ (List.getElem_mem _)) h2
theorem foldl_splice (cs : Array Value) (off : Nat) (us : List Value) : ∀ (k : Nat), off + k + us.length ≤ cs.size →
    (us.zipIdx k).foldl (fun (a : Array Value) (p : Value × Nat) => a.setIfInBounds (off + p.2) p.1) cs = (cs.toList.take (off + k) ++ us ++ cs.toList.drop (off + k + us.length)).toArray := by
  induction us generalizing cs with
  | nil => intro k _; simp
  | cons u us ih =>
    intro k hk
    simp only [List.length_cons] at hk
    simp only [List.zipIdx_cons, List.foldl_cons]
    rw [ih _ (k + 1) (by simp; omega)]
    congr 1
    simp only [Array.toList_setIfInBounds, List.length_cons]
    have e1 : (cs.toList.set (off + k) u).take (off + (k + 1)) = cs.toList.take (off + k) ++ [u] := by
      rw [← Nat.add_assoc, List.take_succ_eq_append_getElem (by simp; omega), List.take_set_of_le (by omega)]
      simp
    rw [e1, List.drop_set_of_lt (by omega)]
    have : off + (k + 1) + us.length = off + k + (us.length + 1) := by omega
    simp [this]
theorem fill_sem {fs : List (Nat × TypeId)} {places : Nat → Option (Nat × Nat)} (hpl : ∀ (i : Nat) (d : Nat × TypeId), fs[i]? = some d → ∀ n, (C.ti.find? fun x => x.1 == d.2).map (·.2.size) = some n → places i = some (d.1, n)) {E : Env} {h : Heap} {w : World} :
    ∀ (ps : List (Nat × AV)) (zero cs : List AV) (qs : List (Nat × Value)) (zv : List Value), fillF C.ti fs zero ps = some cs → RepL E h w zero zv → ps.length = qs.length → (∀ (i : Nat) (h1 : i < ps.length) (h2 : i < qs.length), ps[i].1 = qs[i].1 ∧ RepAV E h w ps[i].2 qs[i].2) →
      ∃ vs : List Value, Instr.fill places zv.toArray qs = some vs.toArray ∧ RepL E h w cs vs
  | [], zero, cs, [], zv, hf, hz, _, _ => by
    simp only [fillF, Option.some.injEq] at hf; subst hf
    exact ⟨zv, rfl, hz⟩
  | p :: ps, zero, cs, q :: qs, zv, hf, hz, hl, hq => by
    simp only [fillF] at hf
    split at hf
    · rename_i d hd
      split at hf
      · rename_i hc
        obtain ⟨hok, hsz, hle⟩ := hc
        obtain ⟨e1, hr⟩ := hq 0 (by simp) (by simp)
        simp only [List.getElem_cons_zero] at e1 hr
        obtain ⟨h1, _⟩ := cells_rep hok hr
        have hl1 := h1.length
        have hlz := hz.length
        have hpl' := hpl p.1 d hd _ hsz
        obtain ⟨vs, h2, h3⟩ := fill_sem hpl ps (splice zero d.1 p.2.cells) cs qs (zv.take d.1 ++ q.2.cells.toList ++ zv.drop (d.1 + q.2.cells.toList.length)) hf
          (by unfold splice; rw [hl1]; exact RepL.append (RepL.append (hz.take _) h1) (hz.drop _)) (by simpa using hl) (fun i h4 h5 => hq (i + 1) (by simpa using h4) (by simpa using h5))
        refine ⟨vs, ?_, h3⟩
        simp only [Instr.fill, ← e1, hpl']
        have : q.2.cells.size = p.2.cells.length := by simpa using hl1.symm
        rw [if_neg (by simp [this]; omega)]
        rw [← h2]
        congr 1
        have hf := foldl_splice zv.toArray d.1 q.2.cells.toList 0 (by simp only [Nat.add_zero]; have : q.2.cells.toList.length = p.2.cells.length := hl1.symm; simp [this]; omega)
        simp only [Nat.add_zero] at hf
        rw [← hf, ← Array.foldl_toList, Array.toList_zipIdx]
      · cases hf
    · cases hf
  | [], _, _, _ :: _, _, _, _, hl, _ => by simp at hl
  | _ :: _, _, _, [], _, _, _, hl, _ => by simp at hl
theorem run_mapM {α β : Type} {f : α → Sem β} {g : α → β} : (l : List α) → (∀ a ∈ l, ∀ w, (f a).run P w = .ok (g a) w) → {w : World} → (l.mapM f).run P w = .ok (l.map g) w
  | [], _, w => rfl
  | a :: l, h, w => by
    simp only [List.mapM_cons, Sem.run_bind, h a (by simp), Result.andThen_ok, run_mapM l (fun b hb => h b (by simp [hb])), Sem.run_pure, List.map_cons]
include HC in
theorem build_sem {R : Type} {s : St} {o : Oper} {t : TypeId} {ps : Array (Nat × Operand)} {K : AV → Option R} {r : R} (ho : o.op = .build t ps) (h : vopQ C s o K = some r) : ∃ v, K v = some r ∧ ∀ hp, SubH s.h hp → QSem P s.t hp o v := by
  unfold vopQ at h; simp only [ho] at h
  split at h
  · rename_i i hi
    obtain ⟨inf, d, hinf, hund, hsize, hu, ⟨zv, hz1, hz2, hz3⟩, _⟩ := HC.ti t i hi
    split at h
    · rename_i fs hfs'
      rw [hfs'] at hu
      simp only [UndOK] at hu
      obtain ⟨fields, rfl, hfs, hname, hstood, hguard, hinfo⟩ := hu
      split at h
      case h_2 => cases h
      rename_i cs hcs
      refine ⟨_, h, QSem.of_v fun hp hs E w ρ H hop => ?_⟩
      have hzero : RepL E hp w i.zero zv.cells.toList := by
        rw [hz2]
        exact RepL.of (by simp) (fun j h1 h2 => by simpa using rep_const _)
      have hplaces : ∃ places : Array (Nat × Nat), (fields.mapM fun f => do pure (f.offset, ← sizeOf f.type) : Sem (Array (Nat × Nat))).run P w = .ok places w ∧ ∀ (j : Nat) (d : Nat × TypeId), fs[j]? = some d → ∀ n, (C.ti.find? fun x => x.1 == d.2).map (·.2.size) = some n → places[j]? = some (d.1, n) := by
        refine ⟨(fields.toList.map fun f => (f.offset, ((P.info? f.type).map (·.size)).getD 0)).toArray, ?_, ?_⟩
        · rw [Array.mapM_eq_mapM_toList, Sem.run_map]
          rw [run_mapM (P := P) (g := fun f => (f.offset, ((P.info? f.type).map (·.size)).getD 0)) fields.toList (fun f hf w => by
            obtain ⟨inf, he⟩ := Option.isSome_iff_exists.1 (hinfo f (by simpa using hf))
            simp [sizeOf, typeInfo, he])]
          rfl
        · intro j d hd n hn
          rw [← hfs] at hd
          simp only [List.getElem?_map, Option.map_eq_some_iff] at hd
          obtain ⟨f, hf, rfl⟩ := hd
          simp only [List.getElem?_toArray, List.getElem?_map, hf, Option.map_some, Option.some.injEq, Prod.mk.injEq, true_and]
          simp only [Option.map_eq_some_iff] at hn
          obtain ⟨x, hx, rfl⟩ := hn
          obtain ⟨inf', _, h1, _, h2, _⟩ := HC.ti f.type x.2 (by simp only [Cfg.info]; rw [hx]; rfl)
          simp [h1, h2]
      obtain ⟨places, hpr, hpl⟩ := hplaces
      obtain ⟨vs, h1, h2⟩ := fill_sem (C := C) (places := fun j => places[j]?) hpl (ps.toList.map fun p => (p.1, ev s.t p.2)) i.zero cs (ps.toList.map fun p => (p.1, ρ p.2)) zv.cells.toList hcs hzero (by simp) (fun j h3 h4 => by
        simp only [List.getElem_map, true_and]
        exact hop _ (by rw [ho]; simp only [Op.operands, List.mem_toArray, List.mem_map]; exact ⟨_, List.getElem_mem (by simpa using h3), rfl⟩))
      refine ⟨.agg vs.toArray, ?_, by simp only [RepAV]; exact ⟨vs, rfl, h2⟩⟩
      simp only [execOp, ho]
      refine run_v ?_
      simp only [Instr.build, zeroValue, Sem.run_bind, Sem.run_pure, typeInfo, run_program, hinf, Result.andThen_ok, hz1, run_underlying hund, hpr]
      have : (ps.map fun p => (p.1, ρ p.2)).toList = ps.toList.map fun p => (p.1, ρ p.2) := by simp
      simp only [this]
      simp only [Array.toArray_toList] at h1
      rw [h1]; rfl
    · rename_i n e he
      rw [he] at hu; simp only [UndOK] at hu; subst hu
      split at h
      case isFalse => cases h
      rename_i hps
      split at h
      case h_2 => cases h
      rename_i ie hie
      have hps : ps = #[] := by simpa using hps
      subst hps
      refine ⟨_, h, QSem.of_v fun hp hs E w ρ H hop => ⟨.agg zv.cells, ?_, ?_⟩⟩
      · simp only [execOp, ho]
        refine run_v ?_
        simp only [Instr.build, zeroValue, Sem.run_bind, Sem.run_pure, typeInfo, run_program, hinf, Result.andThen_ok, hz1, run_underlying hund, tiok_size (HC.ti e ie hie)]
        simp [Instr.fill]
      · simp only [RepAV]
        exact ⟨zv.cells.toList, by simp, by rw [hz2]; exact RepL.of (by simp) (fun j h1 h2 => by simpa using rep_const _)⟩
    · cases h
  · cases h
end
end Go.Ab
