import Derived.Test.YtehjknclkaobhaaGen67
import Derived.Test.YtehjknclkaobhaaAbPlain
import Derived.Test.YtehjknclkaobhaaAbLaw
set_option linter.unusedVariables false
set_option linter.unusedSimpArgs false
namespace Go.Ab

/-- A store's rows that the laws' size test lets through. -/
def SmallC (a : List (den Y65)) : Prop := a.length ≤ 1048576
def SmallCs (a : List (List (den Y65))) : Prop := a.length ≤ 1048576 ∧ ∀ e ∈ a, SmallC e

instance decCs : DecidableEq (List (List (den Y65))) := @instDecidableEqList _ (@instDecidableEqList _ (inferInstanceAs (DecidableEq (Int × Int × Int × Int × Int × Unit))))
instance decC : DecidableEq (List (den Y65)) := @instDecidableEqList _ (inferInstanceAs (DecidableEq (Int × Int × Int × Int × Int × Unit)))

theorem p_S65 {a : List (den Y65)} {l : Int} (ha : a.length ≤ maxLen) (h0 : 0 ≤ l) (h1 : l ≤ 1048576) : SzOK (SmallC a) (g_S65 a l) := sz_flat ha h0 h1
theorem p_S50 {a : List (List (den Y65))} {l : Int} (ha : wf (.slice (.slice Y65)) a) (h0 : 0 ≤ l) (h1 : l ≤ 1048576) : SzOK (SmallCs a) (g_S50 a l) :=
  sz_listF (F := g_S65) ha.1 (fun e he l => p_S65 (ha.2 e he).1) (fun l i => rfl) h0 h1
theorem p_S35 {a : den Y41} {l : Int} (ha : wf Y41 a) (h0 : 0 ≤ l) (h1 : l ≤ 1048576) : SzOK (SmallCs a.1) (g_S35 a l) := sz_again (p_S50 ha.1 h0 h1)
theorem p_S18 {a : den Y43} {l : Int} (ha : wf Y43 a) (h0 : 0 ≤ l) (h1 : l ≤ 1048576) : SzOK (SmallCs a.2.2.1.1) (g_S18 a l) := sz_again (p_S35 ha.2.2.1 h0 h1)

theorem p_S66 {a : List (den Y65)} (ha : SmallC a) : g_S66 a = some (a, ()) := by
  have := copy_listF (F := g_S72) (f := id) (a := a) (z := ((0, 0, 0, 0, 0, ()) : den Y65)) (M := 879609302220) (by unfold SmallC at ha; omega) (by omega) (fun x _ => rfl) (B := fun v => g_L66_0 a v.1 v.2 _ some) (fun i out => rfl)
  rw [List.map_id] at this
  exact this
theorem p_S52 {a : List (List (den Y65))} (ha : SmallCs a) : g_S52 a = some (a, ()) := by
  have := copy_listF (F := g_S66) (f := id) (a := a) (z := ([] : List (den Y65))) (M := 1466015503701) (by have := ha.1; omega) (by omega) (fun x hx => p_S66 (ha.2 x hx)) (B := fun v => g_L52_0 a v.1 v.2 _ some) (fun i out => rfl)
  rw [List.map_id] at this
  exact this
theorem p_S37 {a : den Y41} (ha : SmallCs a.1) : g_S37 a = some (a, ()) := by
  unfold g_S37
  rw [p_S52 ha]; rfl
theorem p_S20 {a : den Y43} (ha : SmallCs a.2.2.1.1) : g_S20 a = some (a, ()) := by
  unfold g_S20
  rw [p_S37 ha]; rfl

theorem eqV (x y : den Y65) : ((x.1 == y.1) && ((x.2.1 == y.2.1) && ((x.2.2.1 == y.2.2.1) && ((x.2.2.2.1 == y.2.2.2.1) && ((x.2.2.2.2.1 == y.2.2.2.2.1) && true))))) = decide (x = y) := by
  obtain ⟨x1, x2, x3, x4, x5, _⟩ := x
  obtain ⟨y1, y2, y3, y4, y5, _⟩ := y
  simp only [eq_int, Bool.and_true]
  by_cases h1 : x1 = y1 <;> by_cases h2 : x2 = y2 <;> by_cases h3 : x3 = y3 <;> by_cases h4 : x4 = y4 <;> by_cases h5 : x5 = y5 <;> simp [h1, h2, h3, h4, h5]




theorem p_S71 {a b : den Y65} : g_S71 a b = some (decide (a = b), ()) := by
  unfold g_S71
  obtain ⟨x1, x2, x3, x4, x5, _⟩ := a
  obtain ⟨y1, y2, y3, y4, y5, _⟩ := b
  simp only [ne_int]
  by_cases h1 : x1 = y1 <;> by_cases h2 : x2 = y2 <;> by_cases h3 : x3 = y3 <;> by_cases h4 : x4 = y4 <;> by_cases h5 : x5 = y5 <;> simp [h1, h2, h3, h4, h5]
theorem p_S62 {a b : List (den Y65)} (ha : SmallC a) : g_S62 a b = some (decide (a = b), ()) :=
  eq_listF (F := g_S71) (by unfold SmallC at ha; omega) (fun x _ y => p_S71) fun i => rfl
theorem p_S47 {a b : List (List (den Y65))} (ha : SmallCs a) : g_S47 a b = some (decide (a = b), ()) :=
  eq_listF (F := g_S62) (by have := ha.1; omega) (fun x hx y => p_S62 (ha.2 x hx)) fun i => rfl



theorem p_S32 {a b : den Y41} (ha : SmallCs a.1) : g_S32 a b = some (decide (a.1 = b.1), ()) := by
  unfold g_S32; rw [p_S47 ha]
  by_cases h : a.1 = b.1 <;> simp [h]

/-- Two replicas are the same. -/
def SameR (a b : den Y43) : Prop := a.1 = b.1 ∧ a.2.1 = b.2.1 ∧ a.2.2.1.1 = b.2.2.1.1
instance (a b : den Y43) : Decidable (SameR a b) := by unfold SameR; infer_instance


theorem p_S15 {a : den Y43} (ha : SmallCs a.2.2.1.1) : g_S15 a a = some (true, ()) := by
  unfold g_S15; rw [p_S32 ha]; simp
end Go.Ab
