import Derived.Test.YthjochcbdhiclaaGreatAbCall
import Derived.Test.YthjochcbdhiclaaGreatAbSort0
import Derived.Shelf.SlSortCmp.NoneTotal
set_option linter.unnecessarySimpa false
set_option linter.unusedVariables false
set_option linter.unusedSimpArgs false
namespace Go.Ab
open Go.RowKit Go.Sort Go.Proofs Go.Shelf
def Ty.val : Ty → Bool
  | .int _ | .bool | .str | .unit => true
  | .prod a b => a.val && b.val
  | _ => false
def encC : (t : Ty) → den t → List Value
  | .prod a b, x => encC a x.1 ++ encC b x.2
  | .int k, n => [.int k n]
  | .bool, b => [.bool b]
  | .str, s => [.string s]
  | _, _ => []
theorem rep_enc {I : Nat → Prop} {w : World} : (t : Ty) → t.val = true → {x : den t} → {vs : List Value} → RepC I w t x vs → vs = encC t x
  | .int _, _, _, _, h | .bool, _, _, _, h | .str, _, _, _, h | .unit, _, _, _, h => by simpa only [RepC, encC] using h
  | .prod a b, hv, x, vs, h => by
    simp only [Ty.val, Bool.and_eq_true] at hv
    simp only [RepC] at h
    obtain ⟨us, ws, rfl, h1, h2⟩ := h
    rw [rep_enc a hv.1 h1, rep_enc b hv.2 h2]; rfl
  | .err, hv, _, _, _ | .idx, hv, _, _, _ | .slice _, hv, _, _, _ | .iref _, hv, _, _, _ | .fn _ _, hv, _, _, _ => by simp [Ty.val] at hv
theorem enc_rep (I : Nat → Prop) (w : World) : (t : Ty) → t.val = true → (x : den t) → RepC I w t x (encC t x)
  | .int _, _, _ | .bool, _, _ | .str, _, _ | .unit, _, _ => by simp only [RepC, encC]
  | .prod a b, hv, x => by
    simp only [Ty.val, Bool.and_eq_true] at hv
    simp only [RepC]
    exact ⟨_, _, rfl, enc_rep I w a hv.1 x.1, enc_rep I w b hv.2 x.2⟩
  | .err, hv, _ | .idx, hv, _ | .slice _, hv, _ | .iref _, hv, _ | .fn _ _, hv, _ => by simp [Ty.val] at hv
theorem enc_len {t : Ty} (hv : t.val = true) (x : den t) : (encC t x).length = t.size := RepC.length t (enc_rep (fun _ => False) default t hv x)
theorem enc_one {t : Ty} (hv : t.val = true) (x : den t) : ∀ v ∈ encC t x, v.oneCell' = true := by
  intro v hm
  have h1 := rep_flat (E := ⟨fun _ _ => none, fun _ => False⟩) (h := []) t (enc_rep (fun _ => False) default t hv x)
  obtain ⟨j, hj, rfl⟩ := List.getElem_of_mem hm
  have hl := h1.length
  exact cell_one (flat_cell t x _ (List.getElem_mem (show j < (flat t x).length by omega))) (h1.getAt j (by omega) hj)
theorem heap_empty (w : World) : HeapOK ⟨fun _ _ => none, fun _ => False⟩ [] w where
  obj := fun r s c h => by rw [stat_none (by simp)] at h; cases h
  siz := fun r s c b n _ h => by cases h
  inj := fun r κ r' κ' b n n' h => by cases h
  live := fun r κ x h => by cases h
  I_lt := fun b h => False.elim h
  own_lt := fun b h => by obtain ⟨r, κ, n, h⟩ := h; cases h
  apart := fun r κ b n h => by cases h
  roI := fun r κ b n h => by cases h
theorem inv_start {E : Env} {h : Heap} {w : World} (hH : HeapOK E h w) : Inv (frOf E h w) E h w :=
  ⟨hH, Bel.refl _ w, fun b ⟨r, κ, n, h1, _⟩ => hH.own_lt b ⟨r, κ, n, h1⟩, fun r κ b n h1 h2 => .inl ⟨r, κ, n, h1, h2⟩, fun b hb => .inl hb, (Keep.refl E _ w).kept, fun r _ => .inl rfl⟩
set_option maxHeartbeats 1000000 in
theorem sort_OK {P : Program} {ρ : Go.Shelf.Ren} (L : SlLaysF0.n6 P ρ) {t : Ty} (hv : t.val = true) (hagg : t.agg = true) (aE : ∀ w, (isAgg (ρ.t 24)).run P w = .ok true w) (zE : ∀ w, (Go.sizeOf (ρ.t 24)).run P w = .ok t.size w)
    {f g : FuncId} (hf : ρ.f 6 = f) {S : den (.prod t (.prod t .unit)) → Option (Int × Unit)} (hg : EntOK P ⟨g, ⟨.slot t (.slot t .nil), .nil⟩, ⟨.slot .i .nil, .nil⟩, S⟩) :
    EntOK P ⟨f, ⟨.own 0 (.fn g .nil .nil), .lst false t .nil⟩, ⟨.nil, .lst false t .nil⟩, sortS S⟩ := by
  subst hf
  obtain ⟨nm, hnm, hfn⟩ := L.f6
  refine ⟨⟨_, hfn, hnm, rfl⟩, fun x y hy E w vs hH hA => ?_⟩
  obtain ⟨xs, u⟩ := x
  change List (den t) at xs
  change sortS S (xs, u) = some y at hy
  unfold sortS at hy
  split at hy
  case isFalse => cases hy
  rename_i hSS
  obtain ⟨hS, hsz⟩ := hSS
  obtain rfl : _ = y := Option.some.inj hy
  obtain ⟨⟨gfn, hgf, hgn, hgb⟩, hgspec⟩ := hg
  have eg : ∀ args w, (callFunc g args).run P w = .ok (.enter g args) w := by
    cases hb : gfn.body with
    | none => rw [hb] at hgb; cases hgb
    | some c => exact enters_of hgf hgn hb
  change HeapOK E [some (.lst false t xs)] w at hH
  change RepL E [some (.lst false t xs)] w [.own 0 none none, .fn g []] vs at hA
  show Calls P (ρ.f 6) vs.toArray w fun e w' => ∃ us E', e = .returned (resV us) ∧ Inv (frOf E [some (.lst false t xs)] w) E' [some (.lst false t (xs.mergeSort fun a b => !ltS S b a))] w' ∧ RepL E' [some (.lst false t (xs.mergeSort fun a b => !ltS S b a))] w' [] us
  simp only [RepL, RepAV] at hA
  obtain ⟨p, us, rfl, h1, q, us2, rfl, ⟨us3, rfl, h2⟩, rfl⟩ := hA
  obtain rfl : us3 = [] := h2
  have hst : stat [some (.lst false t xs)] 0 none = .on (.lst false t xs) := rfl
  rw [own_on hst] at h1
  have hI := inv_start hH
  have nilc : xs.length = 0 → ∀ A c, p = .slice A 0 c → Calls P (ρ.f 6) [p, .func (.func g) #[] #[]].toArray w fun e w' => ∃ us E', e = .returned (resV us) ∧ Inv (frOf E [some (.lst false t xs)] w) E' [some (.lst false t (xs.mergeSort fun a b => !ltS S b a))] w' ∧ RepL E' [some (.lst false t (xs.mergeSort fun a b => !ltS S b a))] w' [] us := by
    rintro h0 A c rfl
    have hx : xs = [] := List.eq_nil_of_length_eq_zero h0
    subst hx
    refine (AnyF.slices_SortFunc_none { L with } A c (.func (.func g) #[] #[]) w).mono ?_
    rintro e w' ⟨rfl, rfl⟩
    exact ⟨[], E, rfl, by simpa using hI, RepL.nil⟩
  rcases own_raw h1 with ⟨h0, rfl⟩ | ⟨b, n, a, arr, ty, rfl, hn, ha, hb, hcap, hι⟩
  · exact nilc h0 none 0 rfl
  simp only [Cont.len, Cont.sz] at hn hcap hι
  by_cases h0 : xs.length = 0
  · exact nilc h0 (some a) n (by simp [Cont.len, h0])
  obtain rfl := ha (by omega)
  have hpos : 0 < xs.length := by omega
  haveI : Inhabited (den t) := ⟨xs[0]⟩
  have hbl := (Array.getElem?_eq_some_iff.1 hb).1
  have hfit : xs.length * t.size ≤ arr.size := Nat.le_trans (Nat.mul_le_mul_right _ hn) hcap
  have hcells : ∀ i (hi : i < xs.length) j (hj : j < t.size), arr[i * t.size + j]? = some ((encC t xs[i])[j]'(by rw [enc_len hv]; exact hj)) := by
    intro i hi j hj
    rcases hH.obj 0 none _ hst with h3 | ⟨b', arr', ty', hι', hb', _, hels⟩
    · exact absurd h3 h0
    simp only [key, Cont.sz] at hι'
    rw [hι] at hι'; obtain rfl : b = b' := by simpa using hι'
    rw [hb] at hb'
    simp only [Option.some.injEq, Obj.cells.injEq] at hb'
    obtain ⟨rfl, _⟩ := hb'
    obtain ⟨cs, ws, g1, g2, g3, g4⟩ := hels i hi
    obtain ⟨_, rfl⟩ := at_lst g1
    have := rep_enc t hv (flat_rep t g3)
    subst this
    exact g4 j (by rw [enc_len hv]; exact hj)
  have hflat : ∀ (d : Array (den t)) m, m < d.size * t.size → ∃ hi : m / t.size < d.size, ∃ hj : m % t.size < (encC t d[m / t.size]).length, (flatK (encC t) t.size d)[m]! = (encC t d[m / t.size])[m % t.size] := by
    intro d m hm
    have hs : 0 < t.size := by rcases Nat.eq_zero_or_pos t.size with h | h; · rw [h] at hm; simp at hm
                               · exact h
    have hi : m / t.size < d.size := Nat.div_lt_of_lt_mul (by rwa [Nat.mul_comm])
    have hj : m % t.size < (encC t d[m / t.size]).length := by rw [enc_len hv]; exact Nat.mod_lt _ hs
    refine ⟨hi, hj, ?_⟩
    rw [get_flatK _ _ _ m hm, getElem!_pos d _ hi, getElem!_pos (encC t d[m / t.size]) _ hj]
  have hH' : HoldsK (encC t) t.size w b 0 xs.toArray := by
    intro m hm
    have hm' : m < xs.toArray.size * t.size := by simpa using hm
    obtain ⟨hi, hj, e1⟩ := hflat xs.toArray m hm'
    rw [e1]
    have hi' : m / t.size < xs.length := by simpa using hi
    have hj' : m % t.size < t.size := by rw [enc_len hv] at hj; exact hj
    have := hcells (m / t.size) hi' (m % t.size) hj'
    rw [Nat.div_add_mod'] at this
    refine ⟨?_, by simp [World.frozen?, hb]⟩
    simp only [World.cell?, hb, Nat.zero_add, Option.isSome_none, Bool.false_eq_true, if_false, id]
    simpa using this
  have hcmp : CmpLays P g #[] (encC t) t.size (cfOf S) b 0 xs.toArray.size w := by
    intro m os dk _ x y
    obtain ⟨c, hc⟩ := hS.tot x y
    have hcf : cfOf S x y = c := by unfold cfOf; rw [hc]
    have h3 := hgspec (x, y, ()) (c, ()) hc ⟨fun _ _ => none, fun _ => False⟩ (sortWorldK (encC t) t.size w b 0 m dk os) [.agg (encC t x).toArray, .agg (encC t y).toArray]
      (heap_empty _)
      (RepL.cons (rep_up (by unfold RepV RepV'; rw [if_pos hagg]; exact ⟨_, rfl, enc_rep _ _ t hv x⟩)) (RepL.cons (rep_up (by unfold RepV RepV'; rw [if_pos hagg]; exact ⟨_, rfl, enc_rep _ _ t hv y⟩)) RepL.nil))
    refine (show Calls P g (#[.agg (encC t x).toArray, .agg (encC t y).toArray] ++ #[]) _ _ from h3.mono ?_)
    rintro e w' ⟨us, E', rfl, hI', hr⟩
    simp only [Tmpl.vals0, Tmpl.vals, TmL.write, RepL] at hr
    obtain ⟨v, us', rfl, hr1, rfl⟩ := hr
    have := rep_int hr1
    subst this
    refine ⟨by rw [hcf]; rfl, w'.drawn - (sortWorldK (encC t) t.size w b 0 m dk os).drawn, w'.heap.extract (sortWorldK (encC t) t.size w b 0 m dk os).heap.size w'.heap.size, ?_⟩
    obtain ⟨bo, bt, ⟨bu, bd⟩, bs, bb, _⟩ := hI'.bel
    generalize hW : sortWorldK (encC t) t.size w b 0 m dk os = W at *
    obtain ⟨wh, wt, wd, wo, wu⟩ := w'
    obtain ⟨Wh, Wt, Wd, Wo, Wu⟩ := W
    simp only [frOf] at bo bt bu bd bs bb
    subst bo; subst bt; subst bu
    simp only [grow, World.drewN]
    congr 1
    · apply Array.ext_getElem?
      intro j
      by_cases hj : j < Wh.size
      · rw [Array.getElem?_append_left hj]
        exact bb j hj (by rintro ⟨r, κ, n, h, _⟩; cases h)
      · rw [Array.getElem?_append_right (by omega), Array.getElem?_extract]
        have : min wh.size wh.size - Wh.size = wh.size - Wh.size := by simp
        by_cases hj2 : j < wh.size
        · rw [if_pos (by omega)]; congr 1; omega
        · rw [if_neg (by omega), Array.getElem?_eq_none (by omega)]
    · omega
  refine (AnyQ.slices_SortFunc_total L t.size aE zE (encC t) (enc_len hv) (enc_one hv) (cfOf S) ⟨hS.irrefl, hS.trans, hS.ntrans⟩ g #[] b 0 n xs.toArray w eg hcmp hH' hbl (by simpa using hsz) hS.anti).mono ?_
  rintro e w' ⟨rfl, m, os, rfl⟩
  let ys := xs.mergeSort fun a b => !ltS S b a
  have hyl : ys.length = xs.length := List.length_mergeSort _
  let F := flatK (encC t) t.size ys.toArray
  have hFs : F.size = xs.length * t.size := by simp only [F, size_flatK, List.size_toArray, hyl]
  let arr' := putCells id 0 F arr
  have hget : ∀ k, arr'[k]? = if k < xs.length * t.size then some F[k]! else arr[k]? := by
    intro k
    simp only [arr', putCells, Array.getElem?_mapIdx, Nat.zero_le, true_and, Nat.zero_add, Nat.sub_zero, id, hFs]
    by_cases hk : k < arr.size
    · rw [Array.getElem?_eq_getElem hk]
      simp only [Option.map_some]
      by_cases h : k < xs.length * t.size
      · simp [h]
      · simp [h]
    · rw [Array.getElem?_eq_none (by omega), if_neg (by omega)]; rfl
  have hbk : (sortWorldK (encC t) t.size w b 0 m ys.toArray os).heap.size = w.heap.size + os.size := by simp [sortWorldK, grow, putRowK, putRow, mapBlock, ahead]
  have hbw : ∀ k, k < w.heap.size → (sortWorldK (encC t) t.size w b 0 m ys.toArray os).heap[k]? = if k = b then some (.cells arr' ty (0, 0)) else w.heap[k]? := by
    intro k hk
    simp only [sortWorldK, grow, putRowK, putRow, mapBlock, ahead]
    rw [Array.getElem?_append_left (by simpa using hk), Array.getElem?_modify]
    by_cases e : b = k
    · subst e; rw [if_pos rfl, if_pos rfl, show (Sort.ahead w m).heap[b]? = w.heap[b]? from rfl, hb]; rfl
    · rw [if_neg e, if_neg (Ne.symm e)]; rfl
  obtain ⟨k1, k2⟩ := inv_set hI (r := 0) (c := .lst false t xs) rfl trivial (c' := .lst false t ys) trivial rfl (arr' := arr') hι hb hyl rfl (by simp [arr', putCells]) hfit (fun i hi => by
    have hi : i < xs.length := hi
    have hi2 : i < ys.length := by omega
    refine ⟨flat t ys[i], encC t ys[i], by simp [Cont.at?, hi2], enc_len hv _, rep_flat t (enc_rep _ _ t hv _), fun j hj => ?_⟩
    rw [enc_len hv] at hj
    have hm : i * t.size + j < xs.length * t.size := by
      have : i * t.size + t.size ≤ xs.length * t.size := by rw [← Nat.succ_mul]; exact Nat.mul_le_mul_right _ hi
      omega
    have hs : 0 < t.size := by omega
    show arr'[i * t.size + j]? = _
    rw [hget, if_pos hm]
    obtain ⟨hi3, hj3, e1⟩ := hflat ys.toArray (i * t.size + j) (by simpa [hyl] using hm)
    have hd : (i * t.size + j) / t.size = i := by rw [Nat.mul_comm, Nat.mul_add_div hs, Nat.div_eq_of_lt hj]; rfl
    have hmm : (i * t.size + j) % t.size = j := by rw [Nat.mul_comm, Nat.mul_add_mod, Nat.mod_eq_of_lt hj]
    show some (flatK (encC t) t.size ys.toArray)[i * t.size + j]! = _
    rw [e1]
    simp only [hd, hmm, List.getElem_toArray]) hbw (by rw [hbk]; omega) rfl rfl ⟨rfl, by simp [sortWorldK, grow, putRowK, putRow, mapBlock, ahead]⟩
  exact ⟨[], E, rfl, k1, RepL.nil⟩
end Go.Ab
