import Derived.Test.YthjochcbdhiclaaGreatAbEff
set_option linter.unnecessarySimpa false
set_option linter.unusedVariables false
set_option linter.unusedSimpArgs false
namespace Go.Ab
open Go.RowKit
def CellIs (c d : AV) : Prop := c = d ∨ (c = .nils ∧ ∃ u, d = .pv (.slice u) ([] : List (den u)))
theorem cell1 {c d : AV} (h : CellIs c d) : ∀ (j : Nat) (h1 : j < [c].length) (h2 : j < [d].length), CellIs [c][j] [d][j] := fun j h1 h2 => by
  have : j = 0 := by simpa using h1
  subst this; exact h
theorem pack_cells : (t : Ty) → {R : Type} → {cs : List AV} → {K : den t → List AV → Option R} → {r : R} → packK [] t cs K = some r → (∀ c ∈ cs, (∃ u x, c = .pv u x) ∨ c = .nils) →
    ∃ x rest pre, K x rest = some r ∧ cs = pre ++ rest ∧ pre.length = t.size ∧ ∀ (j : Nat) (h1 : j < pre.length) (h2 : j < (flat t x).length), CellIs pre[j] (flat t x)[j]
  | .prod a b, R, cs, K, r, h, hc => by
    simp only [packK] at h
    obtain ⟨x, r1, p1, h1, rfl, h2, h3⟩ := pack_cells a h hc
    obtain ⟨y, r2, p2, h4, rfl, h5, h6⟩ := pack_cells b h1 (fun c hcm => hc c (by simp [hcm]))
    refine ⟨(x, y), r2, p1 ++ p2, h4, by simp, by simp [h2, h5, Ty.size], fun j h7 h8 => ?_⟩
    simp only [flat]
    have hl : (flat a x).length = p1.length := by rw [flat_len, h2]
    by_cases hlt : j < p1.length
    · rw [List.getElem_append_left hlt, List.getElem_append_left (by omega)]; exact h3 j hlt (by omega)
    · rw [List.getElem_append_right (by omega), List.getElem_append_right (by omega)]
      simp only [hl]
      exact h6 (j - p1.length) (by simp at h7; omega) (by simp only [flat, List.length_append] at h8; omega)
  | .unit, R, cs, K, r, h, hc => by
    simp only [packK] at h
    exact ⟨(), cs, [], h, rfl, rfl, fun j h1 => by simp at h1⟩
  | .slice t, R, cs, K, r, h, hc => by
    simp only [packK] at h
    split at h
    · obtain ⟨z, h3, hK⟩ := bind_ok h
      obtain ⟨rfl, rfl⟩ := cast?_spec h3
      exact ⟨_, _, [_], hK, rfl, rfl, cell1 (.inl rfl)⟩
    · exact ⟨_, _, [_], h, rfl, rfl, cell1 (.inr ⟨rfl, t, rfl⟩)⟩
    · have := hc _ (List.mem_cons_self ..)
      rcases this with ⟨u, x, e⟩ | e <;> cases e
    · cases h
  | .int _, R, cs, K, r, h, hc | .bool, R, cs, K, r, h, hc | .str, R, cs, K, r, h, hc | .idx, R, cs, K, r, h, hc => by
    simp only [packK] at h
    split at h
    · obtain ⟨z, h3, hK⟩ := bind_ok h
      obtain ⟨rfl, rfl⟩ := cast?_spec h3
      exact ⟨_, _, [_], hK, rfl, rfl, cell1 (.inl rfl)⟩
    · cases h
  | .err, R, cs, K, r, h, hc => by
    simp only [packK] at h
    split at h
    · obtain ⟨z, h3, hK⟩ := bind_ok h
      obtain ⟨rfl, rfl⟩ := cast?_spec h3
      exact ⟨_, _, [_], hK, rfl, rfl, cell1 (.inl rfl)⟩
    · rcases hc _ (List.mem_cons_self ..) with ⟨u, x, e⟩ | e <;> cases e
    · cases h
  | .iref t, R, cs, K, r, h, hc => by
    simp only [packK] at h
    split at h
    · obtain ⟨z, h3, hK⟩ := bind_ok h
      obtain ⟨rfl, rfl⟩ := cast?_spec h3
      exact ⟨_, _, [_], hK, rfl, rfl, cell1 (.inl rfl)⟩
    · rcases hc _ (List.mem_cons_self ..) with ⟨u, x, e⟩ | e <;> cases e
    · rcases hc _ (List.mem_cons_self ..) with ⟨u, x, e⟩ | e <;> cases e
    · rcases hc _ (List.mem_cons_self ..) with ⟨u, x, e⟩ | e <;> cases e
    · cases h
  | .fn f t, R, cs, K, r, h, hc => by
    simp only [packK] at h
    split at h
    · obtain ⟨z, h3, hK⟩ := bind_ok h
      obtain ⟨rfl, rfl⟩ := cast?_spec h3
      exact ⟨_, _, [_], hK, rfl, rfl, cell1 (.inl rfl)⟩
    · rcases hc _ (List.mem_cons_self ..) with ⟨u, x, e⟩ | e <;> cases e
    · cases h
theorem pack_all {t : Ty} {R : Type} {cs : List AV} {K : den t → Option R} {r : R} (h : packK [] t cs (fun x rest => if rest.isEmpty then K x else none) = some r) (hc : ∀ c ∈ cs, (∃ u x, c = .pv u x) ∨ c = .nils) :
    ∃ x, K x = some r ∧ cs.length = t.size ∧ ∀ (j : Nat) (h1 : j < cs.length) (h2 : j < (flat t x).length), CellIs cs[j] (flat t x)[j] := by
  obtain ⟨x, rest, pre, h1, rfl, h2, h3⟩ := pack_cells t h hc
  split at h1
  · rename_i he
    obtain rfl : rest = [] := by simpa using he
    refine ⟨x, h1, by simpa using h2, fun j h4 h5 => ?_⟩
    have := h3 j (by simpa using h4) h5
    simpa using this
  · cases h1
def PlantIs (h : Heap) (c d : AV) : Prop :=
  (∃ q u ys, c = .own q none none ∧ h.getD q none = some (.lst false u ys) ∧ d = .pv (.slice u) ys) ∨ (c = .nils ∧ d = .nils) ∨ (∃ t x, c = .pv t x ∧ t.scalar = true ∧ d = .pv t x)
theorem plantC_spec {h : Heap} : (cs : List AV) → {ds : List AV} → plantC h cs = some ds → ds.length = cs.length ∧ ∀ (j : Nat) (h1 : j < cs.length) (h2 : j < ds.length), PlantIs h cs[j] ds[j]
  | [], ds, e => by simp [plantC] at e; subst e; exact ⟨rfl, fun j h1 => by simp at h1⟩
  | c :: cs, ds, e => by
    simp only [plantC] at e
    split at e
    · cases e
    · rename_i ds' e'
      obtain ⟨hl, hh⟩ := plantC_spec cs e'
      have fin : ∀ d, PlantIs h c d → some (d :: ds') = some ds → ds.length = (c :: cs).length ∧ ∀ (j : Nat) (h1 : j < (c :: cs).length) (h2 : j < ds.length), PlantIs h (c :: cs)[j] ds[j] := by
        intro d hd e
        obtain rfl : d :: ds' = ds := by simpa using e
        refine ⟨by simp [hl], fun j h1 h2 => ?_⟩
        cases j with
        | zero => exact hd
        | succ j => exact hh j (by simpa using h1) (by simpa using h2)
      split at e
      · split at e
        · rename_i q u ys hq; exact fin _ (.inl ⟨_, _, _, rfl, hq, rfl⟩) e
        · cases e
      · exact fin _ (.inr (.inl ⟨rfl, rfl⟩)) e
      · split at e
        · rename_i hs; exact fin _ (.inr (.inr ⟨_, _, rfl, hs, rfl⟩)) e
        · cases e
      · cases e
theorem plantC_pv {h : Heap} {cs ds : List AV} (e : plantC h cs = some ds) : ∀ d ∈ ds, (∃ u x, d = .pv u x) ∨ d = .nils := by
  obtain ⟨hl, hh⟩ := plantC_spec cs e
  intro d hd
  obtain ⟨j, hj, rfl⟩ := List.getElem_of_mem hd
  rcases hh j (by omega) hj with ⟨q, u, ys, _, _, h1⟩ | ⟨_, h1⟩ | ⟨t, x, _, _, h1⟩
  · exact .inl ⟨_, _, h1⟩
  · exact .inr h1
  · exact .inl ⟨_, _, h1⟩
theorem flat_pv (t : Ty) (x : den t) : ∀ c ∈ flat t x, ∃ u y, c = .pv u y := by
  induction t with
  | prod a b iha ihb =>
    intro c hc
    simp only [flat, List.mem_append] at hc
    rcases hc with hc | hc
    · exact iha x.1 c hc
    · exact ihb x.2 c hc
  | unit => intro c hc; simp [flat] at hc
  | _ => intro c hc; simp only [flat, List.mem_singleton] at hc; exact ⟨_, _, hc⟩
theorem rootOf_some {c : AV} {q : Nat} (h : rootOf c = some q) : c = .own q none none := by
  unfold rootOf at h
  split at h
  · obtain rfl := by simpa using h
    rfl
  · cases h
theorem mem_rootsOf : (cs : List AV) → (q : Nat) → q ∈ rootsOf cs ↔ ∃ j : Nat, cs[j]? = some (AV.own q none none)
  | [], q => by simp [rootsOf]
  | c :: cs, q => by
    have ih := mem_rootsOf cs q
    have step : (∃ j : Nat, (c :: cs)[j]? = some (AV.own q none none)) ↔ c = AV.own q none none ∨ ∃ j : Nat, cs[j]? = some (AV.own q none none) := by
      constructor
      · rintro ⟨j, hj⟩
        cases j with
        | zero => left; simpa using hj
        | succ j => right; exact ⟨j, by simpa using hj⟩
      · rintro (rfl | ⟨j, hj⟩)
        · exact ⟨0, rfl⟩
        · exact ⟨j + 1, by simpa using hj⟩
    rw [step, ← ih, show rootsOf (c :: cs) = (match rootOf c with | some r => r :: rootsOf cs | none => rootsOf cs) from rfl]
    split
    · rename_i r e
      have := rootOf_some e
      subst this
      simp only [List.mem_cons, AV.own.injEq, and_true]
      constructor
      · rintro (h | h)
        · exact .inl h.symm
        · exact .inr h
      · rintro (h | h)
        · exact .inl h.symm
        · exact .inr h
    · rename_i e
      constructor
      · exact .inr
      · rintro (rfl | h)
        · simp [rootOf] at e
        · exact h
theorem nodupB_cons {a : Nat} {l : List Nat} (h : nodupB (a :: l) = true) : a ∉ l ∧ nodupB l = true := by
  simp only [nodupB, Bool.and_eq_true] at h
  refine ⟨fun hm => ?_, h.2⟩
  have := h.1; simp [hm] at this
theorem nodup_pos : (cs : List AV) → nodupB (rootsOf cs) = true → ∀ (j k : Nat) (q : Nat), cs[j]? = some (AV.own q none none) → cs[k]? = some (AV.own q none none) → j = k
  | [], _, j, k, q, h, _ => by simp at h
  | c :: cs, hn, j, k, q, hj, hk => by
    have hn' : nodupB (rootsOf cs) = true := by
      unfold rootsOf at hn
      split at hn
      · exact (nodupB_cons hn).2
      · exact hn
    have hno : c = .own q none none → ∀ i : Nat, cs[i]? ≠ some (AV.own q none none) := by
      rintro rfl i hi
      have : rootsOf (AV.own q none none :: cs) = q :: rootsOf cs := rfl
      rw [this] at hn
      exact (nodupB_cons hn).1 ((mem_rootsOf cs q).2 ⟨i, hi⟩)
    cases j with
    | zero => cases k with
      | zero => rfl
      | succ k => exact absurd (by simpa using hk) (hno (by simpa using hj) k)
    | succ j => cases k with
      | zero => exact absurd (by simpa using hj) (hno (by simpa using hk) j)
      | succ k => rw [nodup_pos cs hn' j k q (by simpa using hj) (by simpa using hk)]
end Go.Ab
