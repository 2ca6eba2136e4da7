import Derived.Test.YthjochcbdhiclaaGreatAbRunD
import Derived.Test.YthjochcbdhiclaaGreatAbCal6
set_option linter.unnecessarySimpa false
set_option linter.unusedVariables false
set_option linter.unusedSimpArgs false
namespace Go.Ab
open Go.RowKit
theorem zipIdx_all {α : Type} {l : List α} {f : α × Nat → Bool} (h : l.zipIdx.all f = true) {i : Nat} {a : α} (hi : l[i]? = some a) : f (a, i) = true := by
  refine List.all_eq_true.1 h _ ?_
  rw [List.mem_iff_getElem?]
  exact ⟨i, by simp [hi]⟩
section
variable {ops : Array Oper} (H : regOK ops = true)
include H
theorem reg_lt {i : Nat} {o : Oper} (ho : ops[i]? = some o) {e : Edge} (he : e ∈ o.after) (hb : Region.binds .any e = true) : e.on < i := by
  unfold regOK at H; simp only [Bool.and_eq_true] at H
  have := zipIdx_all H.1.1 (show ops.toList[i]? = some o by simpa using ho)
  have := Array.all_eq_true_iff_forall_mem.1 this e he
  simpa [hb] using this
theorem reg_dst {i j : Nat} {o p : Oper} (ho : ops[i]? = some o) (hp : ops[j]? = some p) {d : Tmp} (h1 : o.dst = some d) (h2 : p.dst = some d) : i = j := by
  unfold regOK at H; simp only [Bool.and_eq_true] at H
  have := zipIdx_all H.1.2 (show ops.toList[i]? = some o by simpa using ho)
  have := zipIdx_all this (show ops.toList[j]? = some p by simpa using hp)
  simpa [h1, h2] using this
theorem reg_look {i j : Nat} {o p : Oper} (ho : ops[j]? = some o) (hp : ops[i]? = some p) {t : Tmp} (ht : t ∈ looks ops o) (hd : p.dst = some t) (hne : j ≠ i) : (i < j ∧ aft o i = true) ∨ (j < i ∧ aft p j = true) := by
  unfold regOK at H; simp only [Bool.and_eq_true] at H
  have := zipIdx_all H.2 (show ops.toList[j]? = some o by simpa using ho)
  have := List.all_eq_true.1 this t ht
  have := zipIdx_all this (show ops.toList[i]? = some p by simpa using hp)
  simpa [hne, hd] using this
end
theorem aft_spec {o : Oper} {i : Nat} (h : aft o i = true) : ∃ e ∈ o.after, Region.binds .any e = true ∧ e.on = i := by
  unfold aft at h
  obtain ⟨e, he, hb⟩ := Array.any_eq_true'.1 h
  simp only [Bool.and_eq_true, beq_iff_eq] at hb
  exact ⟨e, he, hb.1, hb.2⟩
inductive Anc (ops : Array Oper) (k : Nat) : Nat → Prop
  | one {i : Nat} {o : Oper} {e : Edge} : ops[i]? = some o → e ∈ o.after → Region.binds .any e = true → e.on = k → Anc ops k i
  | step {i : Nat} {o : Oper} {e : Edge} : ops[i]? = some o → e ∈ o.after → Region.binds .any e = true → Anc ops k e.on → Anc ops k i
theorem maskE_spec {acc : List Nat} {k : Nat} : (es : List Edge) → Nat.testBit (maskE acc es) k = true → ∃ e ∈ es, Region.binds .any e = true ∧ (e.on = k ∨ Nat.testBit (acc.getD e.on 0) k = true)
  | [], h => by simp [maskE] at h
  | e :: es, h => by
    unfold maskE at h
    split at h
    · rename_i hb
      have h : Nat.testBit ((2 ^ e.on ||| acc.getD e.on 0) ||| maskE acc es) k = true := h
      rw [Nat.testBit_or, Nat.testBit_or, Bool.or_eq_true, Bool.or_eq_true] at h
      rcases h with (h | h) | h
      · rw [Nat.testBit_two_pow] at h
        exact ⟨e, by simp, hb, .inl (by simpa using h)⟩
      · exact ⟨e, by simp, hb, .inr h⟩
      · obtain ⟨e', h1, h2⟩ := maskE_spec es h
        exact ⟨e', by simp [h1], h2⟩
    · obtain ⟨e', h1, h2⟩ := maskE_spec es h
      exact ⟨e', by simp [h1], h2⟩
theorem masks_spec {ops : Array Oper} : (l : List Oper) → (acc : List Nat) → (∀ i, i < acc.length → ∀ k, Nat.testBit (acc.getD i 0) k = true → Anc ops k i) → (∀ i o, l[i]? = some o → ops[acc.length + i]? = some o) →
    ∀ i k, Nat.testBit ((masks l acc).getD i 0) k = true → Anc ops k i
  | [], acc, ha, _, i, k, h => by
    unfold masks at h
    by_cases hi : i < acc.length
    · exact ha i hi k h
    · rw [List.getD_eq_getElem?_getD, List.getElem?_eq_none (by omega)] at h; simp at h
  | o :: l, acc, ha, hl, i, k, h => by
    unfold masks at h
    refine masks_spec l _ (fun j hj k' hk' => ?_) (fun j o' ho' => ?_) i k h
    · by_cases hj2 : j < acc.length
      · rw [List.getD_eq_getElem?_getD, List.getElem?_append_left hj2, ← List.getD_eq_getElem?_getD] at hk'
        exact ha j hj2 k' hk'
      · have hj3 : j = acc.length := by simp at hj; omega
        subst hj3
        rw [List.getD_eq_getElem?_getD, List.getElem?_append_right (by omega)] at hk'
        simp only [Nat.sub_self, List.getElem?_cons_zero, Option.getD_some] at hk'
        obtain ⟨e, h1, h2, h3⟩ := maskE_spec _ hk'
        have ho := hl 0 o (by simp)
        rw [Nat.add_zero] at ho
        rcases h3 with h3 | h3
        · exact .one ho (by simpa using h1) h2 h3
        · by_cases hlt : e.on < acc.length
          · exact .step ho (by simpa using h1) h2 (ha _ hlt _ h3)
          · rw [List.getD_eq_getElem?_getD, List.getElem?_eq_none (by omega)] at h3; simp at h3
    · have := hl (j + 1) o' (by simpa using ho')
      simp only [List.length_append, List.length_cons, List.length_nil]
      rw [show acc.length + (0 + 1) + j = acc.length + (j + 1) by omega]; exact this
theorem Anc.down {ops : Array Oper} {L : Array Bool} (hd : ∀ (i : Nat) (o : Oper) (e : Edge), L.getD i false = true → ops[i]? = some o → e ∈ o.after → Region.binds .any e = true → L.getD e.on false = true) {k i : Nat} (h : Anc ops k i) : L.getD i false = true → L.getD k false = true := by
  induction h with
  | one h1 h2 h3 h4 => intro hi; subst h4; exact hd _ _ _ hi h1 h2 h3
  | step h1 h2 h3 _ ih => intro hi; exact ih (hd _ _ _ hi h1 h2 h3)
theorem Anc.ready {ops : Array Oper} {L : Array Bool} (hd : ∀ (i : Nat) (o : Oper) (e : Edge), L.getD i false = true → ops[i]? = some o → e ∈ o.after → Region.binds .any e = true → L.getD e.on false = true) {k i : Nat} (h : Anc ops k i) {o : Oper} (ho : ops[i]? = some o) (hr : ∀ e ∈ o.after, Region.binds .any e = true → L.getD e.on false = true) : L.getD k false = true := by
  cases h with
  | one h1 h2 h3 h4 => rw [ho] at h1; obtain rfl : o = _ := by simpa using h1
                       subst h4; exact hr _ h2 h3
  | step h1 h2 h3 h4 => rw [ho] at h1; obtain rfl : o = _ := by simpa using h1
                        exact h4.down hd (hr _ h2 h3)
end Go.Ab
