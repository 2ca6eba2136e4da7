import Derived.Test.YtfaonncpagjmkaaGenA
import Derived.Test.YtfaonncpagjmkaaAbPlain
import Derived.Test.YtfaonncpagjmkaaAbLaw
set_option linter.unusedVariables false
set_option linter.unusedSimpArgs false
namespace Go.Ab

/-- laws.szVersionS -/
theorem sz60 {a : (List (den Y111))} {l : Int} (ha : wf (.slice Y111) a) (h0 : 0 ≤ l) (h1 : l ≤ 1048576) : SzOK (small (.slice Y111) a) (g_S60 a l) :=
  (sz_flat ha.1 h0 h1).mono fun h => ⟨h, fun x _ => small_flat _ rfl x⟩

/-- laws.szVersionSS -/
theorem sz31 {a : (List (List (den Y111)))} {l : Int} (ha : wf (.slice (.slice Y111)) a) (h0 : 0 ≤ l) (h1 : l ≤ 1048576) : SzOK (small (.slice (.slice Y111)) a) (g_S31 a l) :=
  sz_listF (F := g_S60) ha.1 (fun e he l => sz60 (ha.2 e he)) (B := fun v => g_L31_0 a v.1 v.2 _ some) (fun l i => rfl) h0 h1

/-- laws.szStore -/
theorem sz15 {a : (den Y24)} {l : Int} (ha : wf Y24 a) (h0 : 0 ≤ l) (h1 : l ≤ 1048576) : SzOK (small Y24 a) (g_S15 a l) :=
  SzOK.mono (sz_again (sz31 (ha.1) h0 h1)) fun k0 => ⟨k0, trivial⟩

/-- laws.szReadMarkS -/
theorem sz61 {a : (List (den Y113))} {l : Int} (ha : wf (.slice Y113) a) (h0 : 0 ≤ l) (h1 : l ≤ 1048576) : SzOK (small (.slice Y113) a) (g_S61 a l) :=
  (sz_flat ha.1 h0 h1).mono fun h => ⟨h, fun x _ => small_flat _ rfl x⟩

/-- laws.szWriteS -/
theorem sz62 {a : (List (den Y113))} {l : Int} (ha : wf (.slice Y113) a) (h0 : 0 ≤ l) (h1 : l ≤ 1048576) : SzOK (small (.slice Y113) a) (g_S62 a l) :=
  (sz_flat ha.1 h0 h1).mono fun h => ⟨h, fun x _ => small_flat _ rfl x⟩

/-- laws.szTransaction -/
theorem sz32 {a : (den Y68)} {l : Int} (ha : wf Y68 a) (h0 : 0 ≤ l) (h1 : l ≤ 1048576) : SzOK (small Y68 a) (g_S32 a l) :=
  SzOK.mono (sz_then (sz61 (ha.2.2.2.2.2.2.2.1) h0 h1) fun n0 p0 q0 => sz_again (sz62 (ha.2.2.2.2.2.2.2.2.1) p0 q0)) fun ⟨k0, k1⟩ => ⟨small_flat _ rfl _, small_flat _ rfl _, small_flat _ rfl _, small_flat _ rfl _, small_flat _ rfl _, small_flat _ rfl _, small_flat _ rfl _, k0, k1, trivial⟩

/-- laws.szTransactionS -/
theorem sz16 {a : (List (den Y68))} {l : Int} (ha : wf (.slice Y68) a) (h0 : 0 ≤ l) (h1 : l ≤ 1048576) : SzOK (small (.slice Y68) a) (g_S16 a l) :=
  sz_listF (F := g_S32) ha.1 (fun e he l => sz32 (ha.2 e he)) (B := fun v => g_L16_0 a v.1 v.2 _ some) (fun l i => rfl) h0 h1

/-- laws.szLockS -/
theorem sz17 {a : (List (den Y113))} {l : Int} (ha : wf (.slice Y113) a) (h0 : 0 ≤ l) (h1 : l ≤ 1048576) : SzOK (small (.slice Y113) a) (g_S17 a l) :=
  (sz_flat ha.1 h0 h1).mono fun h => ⟨h, fun x _ => small_flat _ rfl x⟩

/-- laws.szWaitS -/
theorem sz18 {a : (List (den Y113))} {l : Int} (ha : wf (.slice Y113) a) (h0 : 0 ≤ l) (h1 : l ≤ 1048576) : SzOK (small (.slice Y113) a) (g_S18 a l) :=
  (sz_flat ha.1 h0 h1).mono fun h => ⟨h, fun x _ => small_flat _ rfl x⟩

/-- laws.szEngine -/
theorem sz6 {a : (den Y29)} {l : Int} (ha : wf Y29 a) (h0 : 0 ≤ l) (h1 : l ≤ 1048576) : SzOK (small Y29 a) (g_S6 a l) :=
  SzOK.mono (sz_then (sz15 (ha.2.1) h0 h1) fun n0 p0 q0 => sz_then (sz16 (ha.2.2.1) p0 q0) fun n1 p1 q1 => sz_then (sz17 (ha.2.2.2.1) p1 q1) fun n2 p2 q2 => sz_again (sz18 (ha.2.2.2.2.1) p2 q2)) fun ⟨k0, k1, k2, k3⟩ => ⟨small_flat _ rfl _, k0, k1, k2, k3, small_flat _ rfl _, trivial⟩

/-- laws.toVersion -/
theorem to83 {a : (den Y111)} (ha : small Y111 a) : g_S83 a = some (a, ()) := rfl

/-- laws.toVersionS -/
theorem to63 {a : (List (den Y111))} (ha : small (.slice Y111) a) : g_S63 a = some (a, ()) := by
  have := copy_listF (F := g_S83) (f := id) (a := a) (z := ((0, 0, 0, 0, 0, ()) : (den Y111))) (M := 879609302220) (by have := ha.1; omega) (by omega) (fun x hx => to83 (ha.2 x hx)) (B := fun v => g_L63_0 a v.1 v.2 _ some) (fun i out => rfl)
  rw [List.map_id] at this
  exact this

/-- laws.toVersionSS -/
theorem to33 {a : (List (List (den Y111)))} (ha : small (.slice (.slice Y111)) a) : g_S33 a = some (a, ()) := by
  have := copy_listF (F := g_S63) (f := id) (a := a) (z := ([] : (List (den Y111)))) (M := 1466015503701) (by have := ha.1; omega) (by omega) (fun x hx => to63 (ha.2 x hx)) (B := fun v => g_L33_0 a v.1 v.2 _ some) (fun i out => rfl)
  rw [List.map_id] at this
  exact this

/-- laws.toStore -/
theorem to20 {a : (den Y24)} (ha : small Y24 a) : g_S20 a = some (a, ()) := by
  unfold g_S20
  simp only [to33 ha.1, Option.bind_some]
  try rfl

/-- laws.toReadMark -/
theorem to84 {a : (den Y113)} (ha : small Y113 a) : g_S84 a = some (a, ()) := rfl

/-- laws.toReadMarkS -/
theorem to64 {a : (List (den Y113))} (ha : small (.slice Y113) a) : g_S64 a = some (a, ()) := by
  have := copy_listF (F := g_S84) (f := id) (a := a) (z := ((0, 0, ()) : (den Y113))) (M := 2199023255552) (by have := ha.1; omega) (by omega) (fun x hx => to84 (ha.2 x hx)) (B := fun v => g_L64_0 a v.1 v.2 _ some) (fun i out => rfl)
  rw [List.map_id] at this
  exact this

/-- laws.toWrite -/
theorem to85 {a : (den Y113)} (ha : small Y113 a) : g_S85 a = some (a, ()) := rfl

/-- laws.toWriteS -/
theorem to65 {a : (List (den Y113))} (ha : small (.slice Y113) a) : g_S65 a = some (a, ()) := by
  have := copy_listF (F := g_S85) (f := id) (a := a) (z := ((0, 0, ()) : (den Y113))) (M := 2199023255552) (by have := ha.1; omega) (by omega) (fun x hx => to85 (ha.2 x hx)) (B := fun v => g_L65_0 a v.1 v.2 _ some) (fun i out => rfl)
  rw [List.map_id] at this
  exact this

/-- laws.toTransaction -/
theorem to34 {a : (den Y68)} (ha : small Y68 a) : g_S34 a = some (a, ()) := by
  unfold g_S34
  simp only [to64 ha.2.2.2.2.2.2.2.1, to65 ha.2.2.2.2.2.2.2.2.1, Option.bind_some]
  try rfl

/-- laws.toTransactionS -/
theorem to21 {a : (List (den Y68))} (ha : small (.slice Y68) a) : g_S21 a = some (a, ()) := by
  have := copy_listF (F := g_S34) (f := id) (a := a) (z := ((0, 0, 0, 0, 0, 0, 0, [], [], ()) : (den Y68))) (M := 338311270084) (by have := ha.1; omega) (by omega) (fun x hx => to34 (ha.2 x hx)) (B := fun v => g_L21_0 a v.1 v.2 _ some) (fun i out => rfl)
  rw [List.map_id] at this
  exact this

/-- laws.toLock -/
theorem to35 {a : (den Y113)} (ha : small Y113 a) : g_S35 a = some (a, ()) := rfl

/-- laws.toLockS -/
theorem to22 {a : (List (den Y113))} (ha : small (.slice Y113) a) : g_S22 a = some (a, ()) := by
  have := copy_listF (F := g_S35) (f := id) (a := a) (z := ((0, 0, ()) : (den Y113))) (M := 2199023255552) (by have := ha.1; omega) (by omega) (fun x hx => to35 (ha.2 x hx)) (B := fun v => g_L22_0 a v.1 v.2 _ some) (fun i out => rfl)
  rw [List.map_id] at this
  exact this

/-- laws.toWait -/
theorem to36 {a : (den Y113)} (ha : small Y113 a) : g_S36 a = some (a, ()) := rfl

/-- laws.toWaitS -/
theorem to23 {a : (List (den Y113))} (ha : small (.slice Y113) a) : g_S23 a = some (a, ()) := by
  have := copy_listF (F := g_S36) (f := id) (a := a) (z := ((0, 0, ()) : (den Y113))) (M := 2199023255552) (by have := ha.1; omega) (by omega) (fun x hx => to36 (ha.2 x hx)) (B := fun v => g_L23_0 a v.1 v.2 _ some) (fun i out => rfl)
  rw [List.map_id] at this
  exact this

/-- laws.toEngine -/
theorem to8 {a : (den Y29)} (ha : small Y29 a) : g_S8 a = some (a, ()) := by
  unfold g_S8
  simp only [to20 ha.2.1, to21 ha.2.2.1, to22 ha.2.2.2.1, to23 ha.2.2.2.2.1, Option.bind_some]
  try rfl

/-- laws.eqVersion -/
theorem eq86 {a : (den Y111)} (ha : small Y111 a) : g_S86 a a = some (true, ()) := by
  unfold g_S86
  simp []

/-- laws.eqVersionS -/
theorem eq66 {a : (List (den Y111))} (ha : small (.slice Y111) a) : g_S66 a a = some (true, ()) := 
  eq_listR (F := g_S86) (by have := ha.1; omega) (fun x hx => eq86 (ha.2 x hx)) fun i => rfl

/-- laws.eqVersionSS -/
theorem eq37 {a : (List (List (den Y111)))} (ha : small (.slice (.slice Y111)) a) : g_S37 a a = some (true, ()) := 
  eq_listR (F := g_S66) (by have := ha.1; omega) (fun x hx => eq66 (ha.2 x hx)) fun i => rfl

/-- laws.eqStore -/
theorem eq25 {a : (den Y24)} (ha : small Y24 a) : g_S25 a a = some (true, ()) := by
  unfold g_S25
  simp [eq37 ha.1]

/-- laws.eqReadMark -/
theorem eq87 {a : (den Y113)} (ha : small Y113 a) : g_S87 a a = some (true, ()) := by
  unfold g_S87
  simp []

/-- laws.eqReadMarkS -/
theorem eq67 {a : (List (den Y113))} (ha : small (.slice Y113) a) : g_S67 a a = some (true, ()) := 
  eq_listR (F := g_S87) (by have := ha.1; omega) (fun x hx => eq87 (ha.2 x hx)) fun i => rfl

/-- laws.eqWrite -/
theorem eq88 {a : (den Y113)} (ha : small Y113 a) : g_S88 a a = some (true, ()) := by
  unfold g_S88
  simp []

/-- laws.eqWriteS -/
theorem eq68 {a : (List (den Y113))} (ha : small (.slice Y113) a) : g_S68 a a = some (true, ()) := 
  eq_listR (F := g_S88) (by have := ha.1; omega) (fun x hx => eq88 (ha.2 x hx)) fun i => rfl

/-- laws.eqTransaction -/
theorem eq38 {a : (den Y68)} (ha : small Y68 a) : g_S38 a a = some (true, ()) := by
  unfold g_S38
  simp [eq67 ha.2.2.2.2.2.2.2.1, eq68 ha.2.2.2.2.2.2.2.2.1]

/-- laws.eqTransactionS -/
theorem eq26 {a : (List (den Y68))} (ha : small (.slice Y68) a) : g_S26 a a = some (true, ()) := 
  eq_listR (F := g_S38) (by have := ha.1; omega) (fun x hx => eq38 (ha.2 x hx)) fun i => rfl

/-- laws.eqLock -/
theorem eq39 {a : (den Y113)} (ha : small Y113 a) : g_S39 a a = some (true, ()) := by
  unfold g_S39
  simp []

/-- laws.eqLockS -/
theorem eq27 {a : (List (den Y113))} (ha : small (.slice Y113) a) : g_S27 a a = some (true, ()) := 
  eq_listR (F := g_S39) (by have := ha.1; omega) (fun x hx => eq39 (ha.2 x hx)) fun i => rfl

/-- laws.eqWait -/
theorem eq40 {a : (den Y113)} (ha : small Y113 a) : g_S40 a a = some (true, ()) := by
  unfold g_S40
  simp []

/-- laws.eqWaitS -/
theorem eq28 {a : (List (den Y113))} (ha : small (.slice Y113) a) : g_S28 a a = some (true, ()) := 
  eq_listR (F := g_S40) (by have := ha.1; omega) (fun x hx => eq40 (ha.2 x hx)) fun i => rfl

/-- laws.eqEngine -/
theorem eq10 {a : (den Y29)} (ha : small Y29 a) : g_S10 a a = some (true, ()) := by
  unfold g_S10
  simp [eq25 ha.2.1, eq26 ha.2.2.1, eq27 ha.2.2.2.1, eq28 ha.2.2.2.2.1]
/-- How a count goes on at a transaction. -/
def cnt (scheme state : Int) (n : Int) (t : den Y68) : Int := bif (t.2.1 == scheme) then (bif (t.2.2.1 == state) then IntKind.i64.wrap (n + 1) else n) else n
theorem p_S19 {e : den Y29} (he : small Y29 e) (scheme state : Int) : g_S19 e scheme state = some (e.2.2.1.foldl (cnt scheme state) 0, ()) := by
  have hn : e.2.2.1.length ≤ 1048576 := he.2.2.1.1
  unfold g_S19
  rw [fold_loop (l := e.2.2.1) (f := cnt scheme state) (B := fun v => g_L19_0 scheme state e v.1 v.2 _ some) (fun i h n => ?_) (fun n => ?_) 0]
  · rfl
  · unfold g_L19_0 cnt
    simp only
    rw [decide_eq_true (by omega), lAt_nat h, wrap_succ h (by omega)]
    simp only [cond_true, Option.bind_some]
    cases (e.2.2.1[i].2.1 == scheme) <;> cases (e.2.2.1[i].2.2.1 == state) <;> rfl
  · unfold g_L19_0
    simp only
    rw [decide_eq_false (by omega)]; rfl
theorem p_S24 {e : den Y29} (he : small Y29 e) (scheme state : Int) : g_S24 e state scheme = some (e.2.2.1.foldl (cnt scheme state) 0, ()) := by
  have hn : e.2.2.1.length ≤ 1048576 := he.2.2.1.1
  unfold g_S24
  rw [fold_loop (l := e.2.2.1) (f := cnt scheme state) (B := fun v => g_L24_0 state scheme e.2.2.1 ((e.2.2.1.length : Nat) : Int) v.1 v.2 _ some) (fun i h n => ?_) (fun n => ?_) 0]
  · rfl
  · unfold g_L24_0 cnt
    simp only
    rw [decide_eq_true (by omega), lAt_nat h, wrap_succ h (by omega)]
    simp only [cond_true, Option.bind_some]
    cases (e.2.2.1[i].2.1 == scheme) <;> cases (e.2.2.1[i].2.2.1 == state) <;> rfl
  · unfold g_L24_0
    simp only
    rw [decide_eq_false (by omega)]; rfl
/-- **FnExactAbortsBy's function answers true.** -/
theorem p_law3 (x : den (.prod Y29 (.prod .i .unit))) (hx : wf (.prod Y29 (.prod .i .unit)) x) : g_S3 x.1 x.2.1 = some (true, ()) := by
  refine law_sz (sz6 hx.1 (by omega) (by omega)) fun n h0 h1 hA => ?_
  unfold g_S7 g_S9
  simp only [to8 hA, Option.bind_some, p_S19 hA, p_S24 hA, eq10 hA]
  simp
/-- **FnExactCommitsBy's function answers true.** -/
theorem p_law4 (x : den (.prod Y29 (.prod .i .unit))) (hx : wf (.prod Y29 (.prod .i .unit)) x) : g_S4 x.1 x.2.1 = some (true, ()) := by
  refine law_sz (sz6 hx.1 (by omega) (by omega)) fun n h0 h1 hA => ?_
  unfold g_S11 g_S12
  simp only [to8 hA, Option.bind_some, p_S19 hA, p_S24 hA, eq10 hA]
  simp
end Go.Ab
