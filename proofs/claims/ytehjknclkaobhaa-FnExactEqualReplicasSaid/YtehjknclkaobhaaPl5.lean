import Derived.Test.YtehjknclkaobhaaPlS
set_option linter.unusedVariables false
set_option linter.unusedSimpArgs false
namespace Go.Ab
/-- **The law's function answers true.** -/
theorem p_law5 (x : den (.prod Y43 (.prod Y43 .unit))) (hx : wf (.prod Y43 (.prod Y43 .unit)) x) : g_S5 x.1 x.2.1 = some (true, ()) := by
  refine law_sz (p_S18 hx.1 (by omega) (by omega)) fun n h0 h1 hA => ?_
  refine law_sz (p_S18 hx.2.1 h0 h1) fun m _ _ hB => ?_
  simp only [p_S20 hA, p_S20 hB, Option.bind_some, p_S19 hA, p_S21 hA, p_S15 hA, p_S15 hB]
  simp
end Go.Ab
