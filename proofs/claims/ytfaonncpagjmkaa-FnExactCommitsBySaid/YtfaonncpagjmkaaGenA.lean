import Derived.Test.YtfaonncpagjmkaaAbCall
import Derived.Test.YtfaonncpagjmkaaProg
import Derived.KernelRfl
set_option linter.unusedVariables false
set_option maxRecDepth 100000
namespace Go.Ab
abbrev Y29 : Ty := (.prod .bool (.prod (.prod (.slice (.slice (.prod .i (.prod .i (.prod .i (.prod .i (.prod .i .unit))))))) .unit) (.prod (.slice (.prod .i (.prod .i (.prod .i (.prod .i (.prod .i (.prod .i (.prod .i (.prod (.slice (.prod .i (.prod .i .unit))) (.prod (.slice (.prod .i (.prod .i .unit))) .unit)))))))))) (.prod (.slice (.prod .i (.prod .i .unit))) (.prod (.slice (.prod .i (.prod .i .unit))) (.prod .i .unit))))))

abbrev Y24 : Ty := (.prod (.slice (.slice (.prod .i (.prod .i (.prod .i (.prod .i (.prod .i .unit))))))) .unit)

abbrev Y68 : Ty := (.prod .i (.prod .i (.prod .i (.prod .i (.prod .i (.prod .i (.prod .i (.prod (.slice (.prod .i (.prod .i .unit))) (.prod (.slice (.prod .i (.prod .i .unit))) .unit)))))))))

abbrev Y111 : Ty := (.prod .i (.prod .i (.prod .i (.prod .i (.prod .i .unit)))))

abbrev Y113 : Ty := (.prod .i (.prod .i .unit))

noncomputable def g_tis : List (TypeId × TI) := [(3, ⟨1, (.int .i64), (some .i), [.pv (.int .i64) 0], 4398046511104⟩), (4, ⟨1, .bool, (some .bool), [.b false], 35184372088832⟩), (22, ⟨1, (.slice 99), (some (.slice (.slice Y111))), [.nils], 1466015503701⟩), (24, ⟨1, (.struct [(0, 22)]), (some Y24), [.nils], 1466015503701⟩), (25, ⟨1, (.slice 68), (some (.slice Y68)), [.nils], 1466015503701⟩), (26, ⟨1, (.slice 74), (some (.slice Y113)), [.nils], 1466015503701⟩), (27, ⟨1, (.slice 78), (some (.slice Y113)), [.nils], 1466015503701⟩), (29, ⟨6, (.struct [(0, 4), (1, 24), (2, 25), (3, 26), (4, 27), (5, 3)]), (some Y29), [.b false, .nils, .nils, .nils, .nils, .pv (.int .i64) 0], 314146179364⟩), (32, ⟨1, (.slice 102), (some (.slice (.slice Y111))), [.nils], 1466015503701⟩), (34, ⟨1, (.struct [(0, 32)]), (some Y24), [.nils], 1466015503701⟩), (35, ⟨1, (.slice 62), (some (.slice Y68)), [.nils], 1466015503701⟩), (36, ⟨1, (.slice 72), (some (.slice Y113)), [.nils], 1466015503701⟩), (37, ⟨1, (.slice 76), (some (.slice Y113)), [.nils], 1466015503701⟩), (39, ⟨6, (.struct [(0, 4), (1, 34), (2, 35), (3, 36), (4, 37), (5, 3)]), (some Y29), [.b false, .nils, .nils, .nils, .nils, .pv (.int .i64) 0], 314146179364⟩), (59, ⟨1, (.slice 113), (some (.slice Y113)), [.nils], 1466015503701⟩), (60, ⟨1, (.slice 116), (some (.slice Y113)), [.nils], 1466015503701⟩), (62, ⟨9, (.struct [(0, 3), (1, 3), (2, 3), (3, 3), (4, 3), (5, 3), (6, 3), (7, 59), (8, 60)]), (some Y68), [.pv (.int .i64) 0, .pv (.int .i64) 0, .pv (.int .i64) 0, .pv (.int .i64) 0, .pv (.int .i64) 0, .pv (.int .i64) 0, .pv (.int .i64) 0, .nils, .nils], 338311270084⟩), (65, ⟨1, (.slice 125), (some (.slice Y113)), [.nils], 1466015503701⟩), (66, ⟨1, (.slice 127), (some (.slice Y113)), [.nils], 1466015503701⟩), (68, ⟨9, (.struct [(0, 3), (1, 3), (2, 3), (3, 3), (4, 3), (5, 3), (6, 3), (7, 65), (8, 66)]), (some Y68), [.pv (.int .i64) 0, .pv (.int .i64) 0, .pv (.int .i64) 0, .pv (.int .i64) 0, .pv (.int .i64) 0, .pv (.int .i64) 0, .pv (.int .i64) 0, .nils, .nils], 338311270084⟩), (72, ⟨2, (.struct [(0, 3), (1, 3)]), (some Y113), [.pv (.int .i64) 0, .pv (.int .i64) 0], 2199023255552⟩), (74, ⟨2, (.struct [(0, 3), (1, 3)]), (some Y113), [.pv (.int .i64) 0, .pv (.int .i64) 0], 2199023255552⟩), (76, ⟨2, (.struct [(0, 3), (1, 3)]), (some Y113), [.pv (.int .i64) 0, .pv (.int .i64) 0], 2199023255552⟩), (78, ⟨2, (.struct [(0, 3), (1, 3)]), (some Y113), [.pv (.int .i64) 0, .pv (.int .i64) 0], 2199023255552⟩), (99, ⟨1, (.slice 123), (some (.slice Y111)), [.nils], 1466015503701⟩), (102, ⟨1, (.slice 111), (some (.slice Y111)), [.nils], 1466015503701⟩), (111, ⟨5, (.struct [(0, 3), (1, 3), (2, 3), (3, 3), (4, 3)]), (some Y111), [.pv (.int .i64) 0, .pv (.int .i64) 0, .pv (.int .i64) 0, .pv (.int .i64) 0, .pv (.int .i64) 0], 879609302220⟩), (113, ⟨2, (.struct [(0, 3), (1, 3)]), (some Y113), [.pv (.int .i64) 0, .pv (.int .i64) 0], 2199023255552⟩), (116, ⟨2, (.struct [(0, 3), (1, 3)]), (some Y113), [.pv (.int .i64) 0, .pv (.int .i64) 0], 2199023255552⟩), (123, ⟨5, (.struct [(0, 3), (1, 3), (2, 3), (3, 3), (4, 3)]), (some Y111), [.pv (.int .i64) 0, .pv (.int .i64) 0, .pv (.int .i64) 0, .pv (.int .i64) 0, .pv (.int .i64) 0], 879609302220⟩), (125, ⟨2, (.struct [(0, 3), (1, 3)]), (some Y113), [.pv (.int .i64) 0, .pv (.int .i64) 0], 2199023255552⟩), (127, ⟨2, (.struct [(0, 3), (1, 3)]), (some Y113), [.pv (.int .i64) 0, .pv (.int .i64) 0], 2199023255552⟩)]

theorem g_ti3 : TIOK Go.Proofs.Try.prog 3 ⟨1, (.int .i64), (some .i), [.pv (.int .i64) 0], 4398046511104⟩ :=
  ⟨Go.Proofs.Try.t3, _, by kernel_rfl, Go.Proofs.Try.underlying3, by kernel_rfl, rfl, ⟨_, rfl, by kernel_rfl, by kernel_rfl⟩, of_decide_eq_true (by kernel_rfl), of_decide_eq_true (by kernel_rfl)⟩

theorem g_ti4 : TIOK Go.Proofs.Try.prog 4 ⟨1, .bool, (some .bool), [.b false], 35184372088832⟩ :=
  ⟨Go.Proofs.Try.t4, _, by kernel_rfl, Go.Proofs.Try.underlying4, by kernel_rfl, rfl, ⟨_, rfl, by kernel_rfl, by kernel_rfl⟩, of_decide_eq_true (by kernel_rfl), of_decide_eq_true (by kernel_rfl)⟩

theorem g_ti22 : TIOK Go.Proofs.Try.prog 22 ⟨1, (.slice 99), (some (.slice (.slice Y111))), [.nils], 1466015503701⟩ :=
  ⟨Go.Proofs.Try.t22, _, by kernel_rfl, Go.Proofs.Try.underlying22, by kernel_rfl, rfl, ⟨_, rfl, by kernel_rfl, by kernel_rfl⟩, of_decide_eq_true (by kernel_rfl), of_decide_eq_true (by kernel_rfl)⟩

theorem g_ti24 : TIOK Go.Proofs.Try.prog 24 ⟨1, (.struct [(0, 22)]), (some Y24), [.nils], 1466015503701⟩ :=
  ⟨Go.Proofs.Try.t24, _, by kernel_rfl, Go.Proofs.Try.underlying24, by kernel_rfl, ⟨_, rfl, by kernel_rfl, by kernel_rfl, by kernel_rfl, by kernel_rfl, of_decide_eq_true (by kernel_rfl)⟩, ⟨_, rfl, by kernel_rfl, by kernel_rfl⟩, of_decide_eq_true (by kernel_rfl), of_decide_eq_true (by kernel_rfl)⟩

theorem g_ti25 : TIOK Go.Proofs.Try.prog 25 ⟨1, (.slice 68), (some (.slice Y68)), [.nils], 1466015503701⟩ :=
  ⟨Go.Proofs.Try.t25, _, by kernel_rfl, Go.Proofs.Try.underlying25, by kernel_rfl, rfl, ⟨_, rfl, by kernel_rfl, by kernel_rfl⟩, of_decide_eq_true (by kernel_rfl), of_decide_eq_true (by kernel_rfl)⟩

theorem g_ti26 : TIOK Go.Proofs.Try.prog 26 ⟨1, (.slice 74), (some (.slice Y113)), [.nils], 1466015503701⟩ :=
  ⟨Go.Proofs.Try.t26, _, by kernel_rfl, Go.Proofs.Try.underlying26, by kernel_rfl, rfl, ⟨_, rfl, by kernel_rfl, by kernel_rfl⟩, of_decide_eq_true (by kernel_rfl), of_decide_eq_true (by kernel_rfl)⟩

theorem g_ti27 : TIOK Go.Proofs.Try.prog 27 ⟨1, (.slice 78), (some (.slice Y113)), [.nils], 1466015503701⟩ :=
  ⟨Go.Proofs.Try.t27, _, by kernel_rfl, Go.Proofs.Try.underlying27, by kernel_rfl, rfl, ⟨_, rfl, by kernel_rfl, by kernel_rfl⟩, of_decide_eq_true (by kernel_rfl), of_decide_eq_true (by kernel_rfl)⟩

theorem g_ti29 : TIOK Go.Proofs.Try.prog 29 ⟨6, (.struct [(0, 4), (1, 24), (2, 25), (3, 26), (4, 27), (5, 3)]), (some Y29), [.b false, .nils, .nils, .nils, .nils, .pv (.int .i64) 0], 314146179364⟩ :=
  ⟨Go.Proofs.Try.t29, _, by kernel_rfl, Go.Proofs.Try.underlying29, by kernel_rfl, ⟨_, rfl, by kernel_rfl, by kernel_rfl, by kernel_rfl, by kernel_rfl, of_decide_eq_true (by kernel_rfl)⟩, ⟨_, rfl, by kernel_rfl, by kernel_rfl⟩, of_decide_eq_true (by kernel_rfl), of_decide_eq_true (by kernel_rfl)⟩

theorem g_ti32 : TIOK Go.Proofs.Try.prog 32 ⟨1, (.slice 102), (some (.slice (.slice Y111))), [.nils], 1466015503701⟩ :=
  ⟨Go.Proofs.Try.t32, _, by kernel_rfl, Go.Proofs.Try.underlying32, by kernel_rfl, rfl, ⟨_, rfl, by kernel_rfl, by kernel_rfl⟩, of_decide_eq_true (by kernel_rfl), of_decide_eq_true (by kernel_rfl)⟩

theorem g_ti34 : TIOK Go.Proofs.Try.prog 34 ⟨1, (.struct [(0, 32)]), (some Y24), [.nils], 1466015503701⟩ :=
  ⟨Go.Proofs.Try.t34, _, by kernel_rfl, Go.Proofs.Try.underlying34, by kernel_rfl, ⟨_, rfl, by kernel_rfl, by kernel_rfl, by kernel_rfl, by kernel_rfl, of_decide_eq_true (by kernel_rfl)⟩, ⟨_, rfl, by kernel_rfl, by kernel_rfl⟩, of_decide_eq_true (by kernel_rfl), of_decide_eq_true (by kernel_rfl)⟩

theorem g_ti35 : TIOK Go.Proofs.Try.prog 35 ⟨1, (.slice 62), (some (.slice Y68)), [.nils], 1466015503701⟩ :=
  ⟨Go.Proofs.Try.t35, _, by kernel_rfl, Go.Proofs.Try.underlying35, by kernel_rfl, rfl, ⟨_, rfl, by kernel_rfl, by kernel_rfl⟩, of_decide_eq_true (by kernel_rfl), of_decide_eq_true (by kernel_rfl)⟩

theorem g_ti36 : TIOK Go.Proofs.Try.prog 36 ⟨1, (.slice 72), (some (.slice Y113)), [.nils], 1466015503701⟩ :=
  ⟨Go.Proofs.Try.t36, _, by kernel_rfl, Go.Proofs.Try.underlying36, by kernel_rfl, rfl, ⟨_, rfl, by kernel_rfl, by kernel_rfl⟩, of_decide_eq_true (by kernel_rfl), of_decide_eq_true (by kernel_rfl)⟩

theorem g_ti37 : TIOK Go.Proofs.Try.prog 37 ⟨1, (.slice 76), (some (.slice Y113)), [.nils], 1466015503701⟩ :=
  ⟨Go.Proofs.Try.t37, _, by kernel_rfl, Go.Proofs.Try.underlying37, by kernel_rfl, rfl, ⟨_, rfl, by kernel_rfl, by kernel_rfl⟩, of_decide_eq_true (by kernel_rfl), of_decide_eq_true (by kernel_rfl)⟩

theorem g_ti39 : TIOK Go.Proofs.Try.prog 39 ⟨6, (.struct [(0, 4), (1, 34), (2, 35), (3, 36), (4, 37), (5, 3)]), (some Y29), [.b false, .nils, .nils, .nils, .nils, .pv (.int .i64) 0], 314146179364⟩ :=
  ⟨Go.Proofs.Try.t39, _, by kernel_rfl, Go.Proofs.Try.underlying39, by kernel_rfl, ⟨_, rfl, by kernel_rfl, by kernel_rfl, by kernel_rfl, by kernel_rfl, of_decide_eq_true (by kernel_rfl)⟩, ⟨_, rfl, by kernel_rfl, by kernel_rfl⟩, of_decide_eq_true (by kernel_rfl), of_decide_eq_true (by kernel_rfl)⟩

theorem g_ti59 : TIOK Go.Proofs.Try.prog 59 ⟨1, (.slice 113), (some (.slice Y113)), [.nils], 1466015503701⟩ :=
  ⟨Go.Proofs.Try.t59, _, by kernel_rfl, Go.Proofs.Try.underlying59, by kernel_rfl, rfl, ⟨_, rfl, by kernel_rfl, by kernel_rfl⟩, of_decide_eq_true (by kernel_rfl), of_decide_eq_true (by kernel_rfl)⟩

theorem g_ti60 : TIOK Go.Proofs.Try.prog 60 ⟨1, (.slice 116), (some (.slice Y113)), [.nils], 1466015503701⟩ :=
  ⟨Go.Proofs.Try.t60, _, by kernel_rfl, Go.Proofs.Try.underlying60, by kernel_rfl, rfl, ⟨_, rfl, by kernel_rfl, by kernel_rfl⟩, of_decide_eq_true (by kernel_rfl), of_decide_eq_true (by kernel_rfl)⟩

theorem g_ti62 : TIOK Go.Proofs.Try.prog 62 ⟨9, (.struct [(0, 3), (1, 3), (2, 3), (3, 3), (4, 3), (5, 3), (6, 3), (7, 59), (8, 60)]), (some Y68), [.pv (.int .i64) 0, .pv (.int .i64) 0, .pv (.int .i64) 0, .pv (.int .i64) 0, .pv (.int .i64) 0, .pv (.int .i64) 0, .pv (.int .i64) 0, .nils, .nils], 338311270084⟩ :=
  ⟨Go.Proofs.Try.t62, _, by kernel_rfl, Go.Proofs.Try.underlying62, by kernel_rfl, ⟨_, rfl, by kernel_rfl, by kernel_rfl, by kernel_rfl, by kernel_rfl, of_decide_eq_true (by kernel_rfl)⟩, ⟨_, rfl, by kernel_rfl, by kernel_rfl⟩, of_decide_eq_true (by kernel_rfl), of_decide_eq_true (by kernel_rfl)⟩

theorem g_ti65 : TIOK Go.Proofs.Try.prog 65 ⟨1, (.slice 125), (some (.slice Y113)), [.nils], 1466015503701⟩ :=
  ⟨Go.Proofs.Try.t65, _, by kernel_rfl, Go.Proofs.Try.underlying65, by kernel_rfl, rfl, ⟨_, rfl, by kernel_rfl, by kernel_rfl⟩, of_decide_eq_true (by kernel_rfl), of_decide_eq_true (by kernel_rfl)⟩

theorem g_ti66 : TIOK Go.Proofs.Try.prog 66 ⟨1, (.slice 127), (some (.slice Y113)), [.nils], 1466015503701⟩ :=
  ⟨Go.Proofs.Try.t66, _, by kernel_rfl, Go.Proofs.Try.underlying66, by kernel_rfl, rfl, ⟨_, rfl, by kernel_rfl, by kernel_rfl⟩, of_decide_eq_true (by kernel_rfl), of_decide_eq_true (by kernel_rfl)⟩

theorem g_ti68 : TIOK Go.Proofs.Try.prog 68 ⟨9, (.struct [(0, 3), (1, 3), (2, 3), (3, 3), (4, 3), (5, 3), (6, 3), (7, 65), (8, 66)]), (some Y68), [.pv (.int .i64) 0, .pv (.int .i64) 0, .pv (.int .i64) 0, .pv (.int .i64) 0, .pv (.int .i64) 0, .pv (.int .i64) 0, .pv (.int .i64) 0, .nils, .nils], 338311270084⟩ :=
  ⟨Go.Proofs.Try.t68, _, by kernel_rfl, Go.Proofs.Try.underlying68, by kernel_rfl, ⟨_, rfl, by kernel_rfl, by kernel_rfl, by kernel_rfl, by kernel_rfl, of_decide_eq_true (by kernel_rfl)⟩, ⟨_, rfl, by kernel_rfl, by kernel_rfl⟩, of_decide_eq_true (by kernel_rfl), of_decide_eq_true (by kernel_rfl)⟩

theorem g_ti72 : TIOK Go.Proofs.Try.prog 72 ⟨2, (.struct [(0, 3), (1, 3)]), (some Y113), [.pv (.int .i64) 0, .pv (.int .i64) 0], 2199023255552⟩ :=
  ⟨Go.Proofs.Try.t72, _, by kernel_rfl, Go.Proofs.Try.underlying72, by kernel_rfl, ⟨_, rfl, by kernel_rfl, by kernel_rfl, by kernel_rfl, by kernel_rfl, of_decide_eq_true (by kernel_rfl)⟩, ⟨_, rfl, by kernel_rfl, by kernel_rfl⟩, of_decide_eq_true (by kernel_rfl), of_decide_eq_true (by kernel_rfl)⟩

theorem g_ti74 : TIOK Go.Proofs.Try.prog 74 ⟨2, (.struct [(0, 3), (1, 3)]), (some Y113), [.pv (.int .i64) 0, .pv (.int .i64) 0], 2199023255552⟩ :=
  ⟨Go.Proofs.Try.t74, _, by kernel_rfl, Go.Proofs.Try.underlying74, by kernel_rfl, ⟨_, rfl, by kernel_rfl, by kernel_rfl, by kernel_rfl, by kernel_rfl, of_decide_eq_true (by kernel_rfl)⟩, ⟨_, rfl, by kernel_rfl, by kernel_rfl⟩, of_decide_eq_true (by kernel_rfl), of_decide_eq_true (by kernel_rfl)⟩

theorem g_ti76 : TIOK Go.Proofs.Try.prog 76 ⟨2, (.struct [(0, 3), (1, 3)]), (some Y113), [.pv (.int .i64) 0, .pv (.int .i64) 0], 2199023255552⟩ :=
  ⟨Go.Proofs.Try.t76, _, by kernel_rfl, Go.Proofs.Try.underlying76, by kernel_rfl, ⟨_, rfl, by kernel_rfl, by kernel_rfl, by kernel_rfl, by kernel_rfl, of_decide_eq_true (by kernel_rfl)⟩, ⟨_, rfl, by kernel_rfl, by kernel_rfl⟩, of_decide_eq_true (by kernel_rfl), of_decide_eq_true (by kernel_rfl)⟩

theorem g_ti78 : TIOK Go.Proofs.Try.prog 78 ⟨2, (.struct [(0, 3), (1, 3)]), (some Y113), [.pv (.int .i64) 0, .pv (.int .i64) 0], 2199023255552⟩ :=
  ⟨Go.Proofs.Try.t78, _, by kernel_rfl, Go.Proofs.Try.underlying78, by kernel_rfl, ⟨_, rfl, by kernel_rfl, by kernel_rfl, by kernel_rfl, by kernel_rfl, of_decide_eq_true (by kernel_rfl)⟩, ⟨_, rfl, by kernel_rfl, by kernel_rfl⟩, of_decide_eq_true (by kernel_rfl), of_decide_eq_true (by kernel_rfl)⟩

theorem g_ti99 : TIOK Go.Proofs.Try.prog 99 ⟨1, (.slice 123), (some (.slice Y111)), [.nils], 1466015503701⟩ :=
  ⟨Go.Proofs.Try.t99, _, by kernel_rfl, Go.Proofs.Try.underlying99, by kernel_rfl, rfl, ⟨_, rfl, by kernel_rfl, by kernel_rfl⟩, of_decide_eq_true (by kernel_rfl), of_decide_eq_true (by kernel_rfl)⟩

theorem g_ti102 : TIOK Go.Proofs.Try.prog 102 ⟨1, (.slice 111), (some (.slice Y111)), [.nils], 1466015503701⟩ :=
  ⟨Go.Proofs.Try.t102, _, by kernel_rfl, Go.Proofs.Try.underlying102, by kernel_rfl, rfl, ⟨_, rfl, by kernel_rfl, by kernel_rfl⟩, of_decide_eq_true (by kernel_rfl), of_decide_eq_true (by kernel_rfl)⟩

theorem g_ti111 : TIOK Go.Proofs.Try.prog 111 ⟨5, (.struct [(0, 3), (1, 3), (2, 3), (3, 3), (4, 3)]), (some Y111), [.pv (.int .i64) 0, .pv (.int .i64) 0, .pv (.int .i64) 0, .pv (.int .i64) 0, .pv (.int .i64) 0], 879609302220⟩ :=
  ⟨Go.Proofs.Try.t111, _, by kernel_rfl, Go.Proofs.Try.underlying111, by kernel_rfl, ⟨_, rfl, by kernel_rfl, by kernel_rfl, by kernel_rfl, by kernel_rfl, of_decide_eq_true (by kernel_rfl)⟩, ⟨_, rfl, by kernel_rfl, by kernel_rfl⟩, of_decide_eq_true (by kernel_rfl), of_decide_eq_true (by kernel_rfl)⟩

theorem g_ti113 : TIOK Go.Proofs.Try.prog 113 ⟨2, (.struct [(0, 3), (1, 3)]), (some Y113), [.pv (.int .i64) 0, .pv (.int .i64) 0], 2199023255552⟩ :=
  ⟨Go.Proofs.Try.t113, _, by kernel_rfl, Go.Proofs.Try.underlying113, by kernel_rfl, ⟨_, rfl, by kernel_rfl, by kernel_rfl, by kernel_rfl, by kernel_rfl, of_decide_eq_true (by kernel_rfl)⟩, ⟨_, rfl, by kernel_rfl, by kernel_rfl⟩, of_decide_eq_true (by kernel_rfl), of_decide_eq_true (by kernel_rfl)⟩

theorem g_ti116 : TIOK Go.Proofs.Try.prog 116 ⟨2, (.struct [(0, 3), (1, 3)]), (some Y113), [.pv (.int .i64) 0, .pv (.int .i64) 0], 2199023255552⟩ :=
  ⟨Go.Proofs.Try.t116, _, by kernel_rfl, Go.Proofs.Try.underlying116, by kernel_rfl, ⟨_, rfl, by kernel_rfl, by kernel_rfl, by kernel_rfl, by kernel_rfl, of_decide_eq_true (by kernel_rfl)⟩, ⟨_, rfl, by kernel_rfl, by kernel_rfl⟩, of_decide_eq_true (by kernel_rfl), of_decide_eq_true (by kernel_rfl)⟩

theorem g_ti123 : TIOK Go.Proofs.Try.prog 123 ⟨5, (.struct [(0, 3), (1, 3), (2, 3), (3, 3), (4, 3)]), (some Y111), [.pv (.int .i64) 0, .pv (.int .i64) 0, .pv (.int .i64) 0, .pv (.int .i64) 0, .pv (.int .i64) 0], 879609302220⟩ :=
  ⟨Go.Proofs.Try.t123, _, by kernel_rfl, Go.Proofs.Try.underlying123, by kernel_rfl, ⟨_, rfl, by kernel_rfl, by kernel_rfl, by kernel_rfl, by kernel_rfl, of_decide_eq_true (by kernel_rfl)⟩, ⟨_, rfl, by kernel_rfl, by kernel_rfl⟩, of_decide_eq_true (by kernel_rfl), of_decide_eq_true (by kernel_rfl)⟩

theorem g_ti125 : TIOK Go.Proofs.Try.prog 125 ⟨2, (.struct [(0, 3), (1, 3)]), (some Y113), [.pv (.int .i64) 0, .pv (.int .i64) 0], 2199023255552⟩ :=
  ⟨Go.Proofs.Try.t125, _, by kernel_rfl, Go.Proofs.Try.underlying125, by kernel_rfl, ⟨_, rfl, by kernel_rfl, by kernel_rfl, by kernel_rfl, by kernel_rfl, of_decide_eq_true (by kernel_rfl)⟩, ⟨_, rfl, by kernel_rfl, by kernel_rfl⟩, of_decide_eq_true (by kernel_rfl), of_decide_eq_true (by kernel_rfl)⟩

theorem g_ti127 : TIOK Go.Proofs.Try.prog 127 ⟨2, (.struct [(0, 3), (1, 3)]), (some Y113), [.pv (.int .i64) 0, .pv (.int .i64) 0], 2199023255552⟩ :=
  ⟨Go.Proofs.Try.t127, _, by kernel_rfl, Go.Proofs.Try.underlying127, by kernel_rfl, ⟨_, rfl, by kernel_rfl, by kernel_rfl, by kernel_rfl, by kernel_rfl, of_decide_eq_true (by kernel_rfl)⟩, ⟨_, rfl, by kernel_rfl, by kernel_rfl⟩, of_decide_eq_true (by kernel_rfl), of_decide_eq_true (by kernel_rfl)⟩

theorem g_tisOK : ∀ p ∈ g_tis, TIOK Go.Proofs.Try.prog p.1 p.2 := (all_cons g_ti3 (all_cons g_ti4 (all_cons g_ti22 (all_cons g_ti24 (all_cons g_ti25 (all_cons g_ti26 (all_cons g_ti27 (all_cons g_ti29 (all_cons g_ti32 (all_cons g_ti34 (all_cons g_ti35 (all_cons g_ti36 (all_cons g_ti37 (all_cons g_ti39 (all_cons g_ti59 (all_cons g_ti60 (all_cons g_ti62 (all_cons g_ti65 (all_cons g_ti66 (all_cons g_ti68 (all_cons g_ti72 (all_cons g_ti74 (all_cons g_ti76 (all_cons g_ti78 (all_cons g_ti99 (all_cons g_ti102 (all_cons g_ti111 (all_cons g_ti113 (all_cons g_ti116 (all_cons g_ti123 (all_cons g_ti125 (all_cons g_ti127 all_nil))))))))))))))))))))))))))))))))

theorem g_wide : Go.Proofs.Try.prog.follows .mixedOrders = true := by kernel_rfl

/-! ### loop.example/g01924/laws.szVersionS -/

noncomputable def g_C60 : Cfg := ⟨g_tis, [], []⟩

theorem g_HC60 : CfgOK Go.Proofs.Try.prog g_C60 := ⟨info_ok g_tisOK, all_nil, g_wide⟩

/-- loop.example/g01924/laws.szVersionS -/
noncomputable def g_S60 (a0 : (List (den Y111))) (left1 : Int) : Option (den (.prod .i .unit)) :=
  bif (decide ((IntKind.i64.wrap (left1 - ((a0.length : Nat) : Int))) < 0)) then
    some ((-1), ())
  else
    some ((IntKind.i64.wrap (left1 - ((a0.length : Nat) : Int))), ())

noncomputable def g_Ent60 : Ent := ⟨60, (.prod (.slice Y111) (.prod .i .unit)), (.prod .i .unit), fun x => g_S60 x.1 x.2.1⟩

theorem g_VC60 : ∀ x : den (.prod (.slice Y111) (.prod .i .unit)), vcall g_C60 Go.Proofs.Try.f60 (.prod (.slice Y111) (.prod .i .unit)) (.prod .i .unit) x = g_S60 x.1 x.2.1 := fun x => by kernel_rfl

theorem g_OK60 : EntOK Go.Proofs.Try.prog g_Ent60 := EntOK.of_vcall g_HC60 Go.Proofs.Try.func60
  (body_loops (by kernel_rfl) (loops_all 0 (by kernel_rfl) fun k hk => absurd hk (Nat.not_lt_zero k)))
  (by kernel_rfl) (by kernel_rfl) g_VC60

/-! ### loop.example/g01924/laws.szVersionSS -/

noncomputable def g_L31_0 (a' : (List (List (den Y111)))) (left' : Int) (i' : Int) (R : Type) (K : (Int × Int) ⊕ ((Int) ⊕ (Int)) → Option R) : Option R :=
  bif (decide (i' < ((a'.length : Nat) : Int))) then
    (lAt a' i').bind fun e1 =>
    (g_S60 e1 (left')).bind fun r2 =>
    bif (decide (r2.1 < 0)) then
      K (.inr (.inl r2.1))
    else
      K (.inl (r2.1, (IntKind.i64.wrap (i' + 1))))
  else
    K (.inr (.inr (left')))

theorem g_L31_0_nat (a' : (List (List (den Y111)))) (left' : Int) (i' : Int) (R : Type) (K : (Int × Int) ⊕ ((Int) ⊕ (Int)) → Option R) : g_L31_0 a' left' i' R K = (g_L31_0 a' left' i' _ some).bind K := by
  unfold g_L31_0
  repeat' first | exact nat_none | exact nat_some | apply nat_bif | (refine nat_bind fun _ => ?_) | apply nat_ite | (refine nat_sum (fun _ => ?_) fun _ => ?_) | rfl

def g_T31_0 : Tmpl := ⟨(.slot (.slice (.slice Y111)) (.slot .i (.junk (.junk (.junk (.slot .i (.junk (.junk (.junk (.junk (.junk (.junk (.junk (.junk (.junk (.junk (.junk (.junk (.junk (.junk (.junk (.junk (.junk (.junk (.junk (.junk (.junk .nil))))))))))))))))))))))))))), .nil⟩

abbrev g_I31_0 : Type := (List (List (den Y111)))
abbrev g_V31_0 : Type := Int × Int
abbrev g_X31_0 : Type := (Int) ⊕ (Int)

def g_M31_0 : g_I31_0 → g_V31_0 → den g_T31_0.ty := fun I v => (I, v.1, v.2, ())

def g_P31_0 : den g_T31_0.ty → g_I31_0 × g_V31_0 := fun x => (x.1, (x.2.1, x.2.2.1))

noncomputable def g_D31_0 : g_I31_0 → g_V31_0 → (R : Type) → ((g_V31_0 ⊕ g_X31_0) → Option R) → Option R := fun I v R K => g_L31_0 I v.1 v.2 R K

def g_E31_0 : g_I31_0 → g_X31_0 → (R : Type) → (Ex → St → Option R) → Option R := fun I p R K => sumC p (fun a => K .ret ⟨[.junk, (.pv .i a), .junk, .junk, (.pv .i (-1)), .junk, .junk, .junk, .junk, .junk, .junk, .junk, .junk, .junk, .junk, .junk, .junk, .junk, .junk, .junk, .junk, .junk, .junk, .junk, .junk, .junk, .junk], []⟩) (fun b => K (.exit 0) ⟨[.junk, (.pv .i b), .junk, .junk, .junk, .junk, .junk, .junk, .junk, .junk, .junk, .junk, .junk, .junk, .junk, .junk, .junk, .junk, .junk, .junk, .junk, .junk, .junk, .junk, .junk, .junk, .junk], []⟩)

def g_K31_0 : g_I31_0 → g_X31_0 → Ex × St := fun I p => sumC p (fun a => (.ret, ⟨[.junk, (.pv .i a), .junk, .junk, (.pv .i (-1)), .junk, .junk, .junk, .junk, .junk, .junk, .junk, .junk, .junk, .junk, .junk, .junk, .junk, .junk, .junk, .junk, .junk, .junk, .junk, .junk, .junk, .junk], []⟩)) (fun b => ((.exit 0), ⟨[.junk, (.pv .i b), .junk, .junk, .junk, .junk, .junk, .junk, .junk, .junk, .junk, .junk, .junk, .junk, .junk, .junk, .junk, .junk, .junk, .junk, .junk, .junk, .junk, .junk, .junk, .junk, .junk], []⟩))

noncomputable def g_F31_0 : LoopFn := fun s R K => (Tmpl.read g_T31_0 s).bind fun x => (iter (fun v => g_D31_0 (g_P31_0 x).1 v _ some) (g_P31_0 x).2).bind fun p => g_E31_0 (g_P31_0 x).1 p R K

noncomputable def g_C31 : Cfg := ⟨g_tis, [g_Ent60], [(5, g_F31_0)]⟩

theorem g_HC31 : CfgOK Go.Proofs.Try.prog g_C31 := ⟨info_ok g_tisOK, (all_cons g_OK60 all_nil), g_wide⟩

theorem g_lk31_0 : ∀ F, ((g_C31).ann.find? fun x => x.1 == firstId ((loopsOf (codeOf Go.Proofs.Try.f31)).getD 0 .skip)).map (·.2) = some F → LoopOK Go.Proofs.Try.prog ((loopsOf (codeOf Go.Proofs.Try.f31)).getD 0 .skip) F := by
  refine lookup_ok (show ((g_C31).ann.find? fun x => x.1 == firstId ((loopsOf (codeOf Go.Proofs.Try.f31)).getD 0 .skip)).map (·.2) = some g_F31_0 from by kernel_rfl) ?_
  exact loop_ok g_HC31 (loops_all 0 (by kernel_rfl) fun k hk => absurd hk (Nat.not_lt_zero k)) g_T31_0 [1, 4] g_M31_0 g_P31_0 (fun x => rfl) g_D31_0
    (fun I v R K => g_L31_0_nat _ _ _ R K) g_E31_0 g_K31_0 (fun I p R K => by
      rcases p with p | p <;> rfl) (fun I v => by kernel_rfl)

/-- loop.example/g01924/laws.szVersionSS -/
noncomputable def g_S31 (a0 : (List (List (den Y111)))) (left1 : Int) : Option (den (.prod .i .unit)) :=
  bif (decide ((IntKind.i64.wrap (left1 - ((a0.length : Nat) : Int))) < 0)) then
    some ((-1), ())
  else
    (iter (fun v => g_L31_0 a0 v.1 v.2 _ some) ((IntKind.i64.wrap (left1 - ((a0.length : Nat) : Int))), 0)).bind fun q3 =>
    sumC q3
      (fun a4 =>
        some ((-1), ()))
      (fun b5 =>
        some (b5, ()))

noncomputable def g_Ent31 : Ent := ⟨31, (.prod (.slice (.slice Y111)) (.prod .i .unit)), (.prod .i .unit), fun x => g_S31 x.1 x.2.1⟩

theorem g_VC31 : ∀ x : den (.prod (.slice (.slice Y111)) (.prod .i .unit)), vcall g_C31 Go.Proofs.Try.f31 (.prod (.slice (.slice Y111)) (.prod .i .unit)) (.prod .i .unit) x = g_S31 x.1 x.2.1 := fun x => by kernel_rfl

theorem g_OK31 : EntOK Go.Proofs.Try.prog g_Ent31 := EntOK.of_vcall g_HC31 Go.Proofs.Try.func31
  (body_loops (by kernel_rfl) (loops_all 1 (by kernel_rfl) (fun k hk => match k, hk with
    | 0, _ => g_lk31_0)))
  (by kernel_rfl) (by kernel_rfl) g_VC31

/-! ### loop.example/g01924/laws.szStore -/

noncomputable def g_C15 : Cfg := ⟨g_tis, [g_Ent31], []⟩

theorem g_HC15 : CfgOK Go.Proofs.Try.prog g_C15 := ⟨info_ok g_tisOK, (all_cons g_OK31 all_nil), g_wide⟩

/-- loop.example/g01924/laws.szStore -/
noncomputable def g_S15 (a0 : (den Y24)) (left1 : Int) : Option (den (.prod .i .unit)) :=
  (g_S31 a0.1 left1).bind fun r1 =>
  bif (decide (r1.1 < 0)) then
    some ((-1), ())
  else
    some (r1.1, ())

noncomputable def g_Ent15 : Ent := ⟨15, (.prod Y24 (.prod .i .unit)), (.prod .i .unit), fun x => g_S15 x.1 x.2.1⟩

theorem g_VC15 : ∀ x : den (.prod Y24 (.prod .i .unit)), vcall g_C15 Go.Proofs.Try.f15 (.prod Y24 (.prod .i .unit)) (.prod .i .unit) x = g_S15 x.1 x.2.1 := fun x => by kernel_rfl

theorem g_OK15 : EntOK Go.Proofs.Try.prog g_Ent15 := EntOK.of_vcall g_HC15 Go.Proofs.Try.func15
  (body_loops (by kernel_rfl) (loops_all 0 (by kernel_rfl) fun k hk => absurd hk (Nat.not_lt_zero k)))
  (by kernel_rfl) (by kernel_rfl) g_VC15

/-! ### loop.example/g01924/laws.szReadMarkS -/

noncomputable def g_C61 : Cfg := ⟨g_tis, [], []⟩

theorem g_HC61 : CfgOK Go.Proofs.Try.prog g_C61 := ⟨info_ok g_tisOK, all_nil, g_wide⟩

/-- loop.example/g01924/laws.szReadMarkS -/
noncomputable def g_S61 (a0 : (List (den Y113))) (left1 : Int) : Option (den (.prod .i .unit)) :=
  bif (decide ((IntKind.i64.wrap (left1 - ((a0.length : Nat) : Int))) < 0)) then
    some ((-1), ())
  else
    some ((IntKind.i64.wrap (left1 - ((a0.length : Nat) : Int))), ())

noncomputable def g_Ent61 : Ent := ⟨61, (.prod (.slice Y113) (.prod .i .unit)), (.prod .i .unit), fun x => g_S61 x.1 x.2.1⟩

theorem g_VC61 : ∀ x : den (.prod (.slice Y113) (.prod .i .unit)), vcall g_C61 Go.Proofs.Try.f61 (.prod (.slice Y113) (.prod .i .unit)) (.prod .i .unit) x = g_S61 x.1 x.2.1 := fun x => by kernel_rfl

theorem g_OK61 : EntOK Go.Proofs.Try.prog g_Ent61 := EntOK.of_vcall g_HC61 Go.Proofs.Try.func61
  (body_loops (by kernel_rfl) (loops_all 0 (by kernel_rfl) fun k hk => absurd hk (Nat.not_lt_zero k)))
  (by kernel_rfl) (by kernel_rfl) g_VC61

/-! ### loop.example/g01924/laws.szWriteS -/

noncomputable def g_C62 : Cfg := ⟨g_tis, [], []⟩

theorem g_HC62 : CfgOK Go.Proofs.Try.prog g_C62 := ⟨info_ok g_tisOK, all_nil, g_wide⟩

/-- loop.example/g01924/laws.szWriteS -/
noncomputable def g_S62 (a0 : (List (den Y113))) (left1 : Int) : Option (den (.prod .i .unit)) :=
  bif (decide ((IntKind.i64.wrap (left1 - ((a0.length : Nat) : Int))) < 0)) then
    some ((-1), ())
  else
    some ((IntKind.i64.wrap (left1 - ((a0.length : Nat) : Int))), ())

noncomputable def g_Ent62 : Ent := ⟨62, (.prod (.slice Y113) (.prod .i .unit)), (.prod .i .unit), fun x => g_S62 x.1 x.2.1⟩

theorem g_VC62 : ∀ x : den (.prod (.slice Y113) (.prod .i .unit)), vcall g_C62 Go.Proofs.Try.f62 (.prod (.slice Y113) (.prod .i .unit)) (.prod .i .unit) x = g_S62 x.1 x.2.1 := fun x => by kernel_rfl

theorem g_OK62 : EntOK Go.Proofs.Try.prog g_Ent62 := EntOK.of_vcall g_HC62 Go.Proofs.Try.func62
  (body_loops (by kernel_rfl) (loops_all 0 (by kernel_rfl) fun k hk => absurd hk (Nat.not_lt_zero k)))
  (by kernel_rfl) (by kernel_rfl) g_VC62

/-! ### loop.example/g01924/laws.szTransaction -/

noncomputable def g_C32 : Cfg := ⟨g_tis, [g_Ent61, g_Ent62], []⟩

theorem g_HC32 : CfgOK Go.Proofs.Try.prog g_C32 := ⟨info_ok g_tisOK, (all_cons g_OK61 (all_cons g_OK62 all_nil)), g_wide⟩

/-- loop.example/g01924/laws.szTransaction -/
noncomputable def g_S32 (a0 : (den Y68)) (left1 : Int) : Option (den (.prod .i .unit)) :=
  (g_S61 a0.2.2.2.2.2.2.2.1 left1).bind fun r1 =>
  bif (decide (r1.1 < 0)) then
    some ((-1), ())
  else
    (g_S62 a0.2.2.2.2.2.2.2.2.1 r1.1).bind fun r2 =>
    bif (decide (r2.1 < 0)) then
      some ((-1), ())
    else
      some (r2.1, ())

noncomputable def g_Ent32 : Ent := ⟨32, (.prod Y68 (.prod .i .unit)), (.prod .i .unit), fun x => g_S32 x.1 x.2.1⟩

theorem g_VC32 : ∀ x : den (.prod Y68 (.prod .i .unit)), vcall g_C32 Go.Proofs.Try.f32 (.prod Y68 (.prod .i .unit)) (.prod .i .unit) x = g_S32 x.1 x.2.1 := fun x => by kernel_rfl

theorem g_OK32 : EntOK Go.Proofs.Try.prog g_Ent32 := EntOK.of_vcall g_HC32 Go.Proofs.Try.func32
  (body_loops (by kernel_rfl) (loops_all 0 (by kernel_rfl) fun k hk => absurd hk (Nat.not_lt_zero k)))
  (by kernel_rfl) (by kernel_rfl) g_VC32

/-! ### loop.example/g01924/laws.szTransactionS -/

noncomputable def g_L16_0 (a' : (List (den Y68))) (left' : Int) (i' : Int) (R : Type) (K : (Int × Int) ⊕ ((Int) ⊕ (Int)) → Option R) : Option R :=
  bif (decide (i' < ((a'.length : Nat) : Int))) then
    (lAt a' i').bind fun e1 =>
    (g_S32 e1 (left')).bind fun r2 =>
    bif (decide (r2.1 < 0)) then
      K (.inr (.inl r2.1))
    else
      K (.inl (r2.1, (IntKind.i64.wrap (i' + 1))))
  else
    K (.inr (.inr (left')))

theorem g_L16_0_nat (a' : (List (den Y68))) (left' : Int) (i' : Int) (R : Type) (K : (Int × Int) ⊕ ((Int) ⊕ (Int)) → Option R) : g_L16_0 a' left' i' R K = (g_L16_0 a' left' i' _ some).bind K := by
  unfold g_L16_0
  repeat' first | exact nat_none | exact nat_some | apply nat_bif | (refine nat_bind fun _ => ?_) | apply nat_ite | (refine nat_sum (fun _ => ?_) fun _ => ?_) | rfl

def g_T16_0 : Tmpl := ⟨(.slot (.slice Y68) (.slot .i (.junk (.junk (.junk (.slot .i (.junk (.junk (.junk (.junk (.junk (.junk (.junk (.junk (.junk (.junk (.junk (.junk (.junk (.junk (.junk (.junk (.junk (.junk (.junk (.junk (.junk .nil))))))))))))))))))))))))))), .nil⟩

abbrev g_I16_0 : Type := (List (den Y68))
abbrev g_V16_0 : Type := Int × Int
abbrev g_X16_0 : Type := (Int) ⊕ (Int)

def g_M16_0 : g_I16_0 → g_V16_0 → den g_T16_0.ty := fun I v => (I, v.1, v.2, ())

def g_P16_0 : den g_T16_0.ty → g_I16_0 × g_V16_0 := fun x => (x.1, (x.2.1, x.2.2.1))

noncomputable def g_D16_0 : g_I16_0 → g_V16_0 → (R : Type) → ((g_V16_0 ⊕ g_X16_0) → Option R) → Option R := fun I v R K => g_L16_0 I v.1 v.2 R K

def g_E16_0 : g_I16_0 → g_X16_0 → (R : Type) → (Ex → St → Option R) → Option R := fun I p R K => sumC p (fun a => K .ret ⟨[.junk, (.pv .i a), .junk, .junk, (.pv .i (-1)), .junk, .junk, .junk, .junk, .junk, .junk, .junk, .junk, .junk, .junk, .junk, .junk, .junk, .junk, .junk, .junk, .junk, .junk, .junk, .junk, .junk, .junk], []⟩) (fun b => K (.exit 0) ⟨[.junk, (.pv .i b), .junk, .junk, .junk, .junk, .junk, .junk, .junk, .junk, .junk, .junk, .junk, .junk, .junk, .junk, .junk, .junk, .junk, .junk, .junk, .junk, .junk, .junk, .junk, .junk, .junk], []⟩)

def g_K16_0 : g_I16_0 → g_X16_0 → Ex × St := fun I p => sumC p (fun a => (.ret, ⟨[.junk, (.pv .i a), .junk, .junk, (.pv .i (-1)), .junk, .junk, .junk, .junk, .junk, .junk, .junk, .junk, .junk, .junk, .junk, .junk, .junk, .junk, .junk, .junk, .junk, .junk, .junk, .junk, .junk, .junk], []⟩)) (fun b => ((.exit 0), ⟨[.junk, (.pv .i b), .junk, .junk, .junk, .junk, .junk, .junk, .junk, .junk, .junk, .junk, .junk, .junk, .junk, .junk, .junk, .junk, .junk, .junk, .junk, .junk, .junk, .junk, .junk, .junk, .junk], []⟩))

noncomputable def g_F16_0 : LoopFn := fun s R K => (Tmpl.read g_T16_0 s).bind fun x => (iter (fun v => g_D16_0 (g_P16_0 x).1 v _ some) (g_P16_0 x).2).bind fun p => g_E16_0 (g_P16_0 x).1 p R K

noncomputable def g_C16 : Cfg := ⟨g_tis, [g_Ent32], [(5, g_F16_0)]⟩

theorem g_HC16 : CfgOK Go.Proofs.Try.prog g_C16 := ⟨info_ok g_tisOK, (all_cons g_OK32 all_nil), g_wide⟩

theorem g_lk16_0 : ∀ F, ((g_C16).ann.find? fun x => x.1 == firstId ((loopsOf (codeOf Go.Proofs.Try.f16)).getD 0 .skip)).map (·.2) = some F → LoopOK Go.Proofs.Try.prog ((loopsOf (codeOf Go.Proofs.Try.f16)).getD 0 .skip) F := by
  refine lookup_ok (show ((g_C16).ann.find? fun x => x.1 == firstId ((loopsOf (codeOf Go.Proofs.Try.f16)).getD 0 .skip)).map (·.2) = some g_F16_0 from by kernel_rfl) ?_
  exact loop_ok g_HC16 (loops_all 0 (by kernel_rfl) fun k hk => absurd hk (Nat.not_lt_zero k)) g_T16_0 [1, 4] g_M16_0 g_P16_0 (fun x => rfl) g_D16_0
    (fun I v R K => g_L16_0_nat _ _ _ R K) g_E16_0 g_K16_0 (fun I p R K => by
      rcases p with p | p <;> rfl) (fun I v => by kernel_rfl)

/-- loop.example/g01924/laws.szTransactionS -/
noncomputable def g_S16 (a0 : (List (den Y68))) (left1 : Int) : Option (den (.prod .i .unit)) :=
  bif (decide ((IntKind.i64.wrap (left1 - ((a0.length : Nat) : Int))) < 0)) then
    some ((-1), ())
  else
    (iter (fun v => g_L16_0 a0 v.1 v.2 _ some) ((IntKind.i64.wrap (left1 - ((a0.length : Nat) : Int))), 0)).bind fun q3 =>
    sumC q3
      (fun a4 =>
        some ((-1), ()))
      (fun b5 =>
        some (b5, ()))

noncomputable def g_Ent16 : Ent := ⟨16, (.prod (.slice Y68) (.prod .i .unit)), (.prod .i .unit), fun x => g_S16 x.1 x.2.1⟩

theorem g_VC16 : ∀ x : den (.prod (.slice Y68) (.prod .i .unit)), vcall g_C16 Go.Proofs.Try.f16 (.prod (.slice Y68) (.prod .i .unit)) (.prod .i .unit) x = g_S16 x.1 x.2.1 := fun x => by kernel_rfl

theorem g_OK16 : EntOK Go.Proofs.Try.prog g_Ent16 := EntOK.of_vcall g_HC16 Go.Proofs.Try.func16
  (body_loops (by kernel_rfl) (loops_all 1 (by kernel_rfl) (fun k hk => match k, hk with
    | 0, _ => g_lk16_0)))
  (by kernel_rfl) (by kernel_rfl) g_VC16

/-! ### loop.example/g01924/laws.szLockS -/

noncomputable def g_C17 : Cfg := ⟨g_tis, [], []⟩

theorem g_HC17 : CfgOK Go.Proofs.Try.prog g_C17 := ⟨info_ok g_tisOK, all_nil, g_wide⟩

/-- loop.example/g01924/laws.szLockS -/
noncomputable def g_S17 (a0 : (List (den Y113))) (left1 : Int) : Option (den (.prod .i .unit)) :=
  bif (decide ((IntKind.i64.wrap (left1 - ((a0.length : Nat) : Int))) < 0)) then
    some ((-1), ())
  else
    some ((IntKind.i64.wrap (left1 - ((a0.length : Nat) : Int))), ())

noncomputable def g_Ent17 : Ent := ⟨17, (.prod (.slice Y113) (.prod .i .unit)), (.prod .i .unit), fun x => g_S17 x.1 x.2.1⟩

theorem g_VC17 : ∀ x : den (.prod (.slice Y113) (.prod .i .unit)), vcall g_C17 Go.Proofs.Try.f17 (.prod (.slice Y113) (.prod .i .unit)) (.prod .i .unit) x = g_S17 x.1 x.2.1 := fun x => by kernel_rfl

theorem g_OK17 : EntOK Go.Proofs.Try.prog g_Ent17 := EntOK.of_vcall g_HC17 Go.Proofs.Try.func17
  (body_loops (by kernel_rfl) (loops_all 0 (by kernel_rfl) fun k hk => absurd hk (Nat.not_lt_zero k)))
  (by kernel_rfl) (by kernel_rfl) g_VC17

/-! ### loop.example/g01924/laws.szWaitS -/

noncomputable def g_C18 : Cfg := ⟨g_tis, [], []⟩

theorem g_HC18 : CfgOK Go.Proofs.Try.prog g_C18 := ⟨info_ok g_tisOK, all_nil, g_wide⟩

/-- loop.example/g01924/laws.szWaitS -/
noncomputable def g_S18 (a0 : (List (den Y113))) (left1 : Int) : Option (den (.prod .i .unit)) :=
  bif (decide ((IntKind.i64.wrap (left1 - ((a0.length : Nat) : Int))) < 0)) then
    some ((-1), ())
  else
    some ((IntKind.i64.wrap (left1 - ((a0.length : Nat) : Int))), ())

noncomputable def g_Ent18 : Ent := ⟨18, (.prod (.slice Y113) (.prod .i .unit)), (.prod .i .unit), fun x => g_S18 x.1 x.2.1⟩

theorem g_VC18 : ∀ x : den (.prod (.slice Y113) (.prod .i .unit)), vcall g_C18 Go.Proofs.Try.f18 (.prod (.slice Y113) (.prod .i .unit)) (.prod .i .unit) x = g_S18 x.1 x.2.1 := fun x => by kernel_rfl

theorem g_OK18 : EntOK Go.Proofs.Try.prog g_Ent18 := EntOK.of_vcall g_HC18 Go.Proofs.Try.func18
  (body_loops (by kernel_rfl) (loops_all 0 (by kernel_rfl) fun k hk => absurd hk (Nat.not_lt_zero k)))
  (by kernel_rfl) (by kernel_rfl) g_VC18

/-! ### loop.example/g01924/laws.szEngine -/

noncomputable def g_C6 : Cfg := ⟨g_tis, [g_Ent15, g_Ent16, g_Ent17, g_Ent18], []⟩

theorem g_HC6 : CfgOK Go.Proofs.Try.prog g_C6 := ⟨info_ok g_tisOK, (all_cons g_OK15 (all_cons g_OK16 (all_cons g_OK17 (all_cons g_OK18 all_nil)))), g_wide⟩

/-- loop.example/g01924/laws.szEngine -/
noncomputable def g_S6 (a0 : (den Y29)) (left1 : Int) : Option (den (.prod .i .unit)) :=
  (g_S15 a0.2.1 left1).bind fun r1 =>
  bif (decide (r1.1 < 0)) then
    some ((-1), ())
  else
    (g_S16 a0.2.2.1 r1.1).bind fun r2 =>
    bif (decide (r2.1 < 0)) then
      some ((-1), ())
    else
      (g_S17 a0.2.2.2.1 r2.1).bind fun r3 =>
      bif (decide (r3.1 < 0)) then
        some ((-1), ())
      else
        (g_S18 a0.2.2.2.2.1 r3.1).bind fun r4 =>
        bif (decide (r4.1 < 0)) then
          some ((-1), ())
        else
          some (r4.1, ())

noncomputable def g_Ent6 : Ent := ⟨6, (.prod Y29 (.prod .i .unit)), (.prod .i .unit), fun x => g_S6 x.1 x.2.1⟩

theorem g_VC6 : ∀ x : den (.prod Y29 (.prod .i .unit)), vcall g_C6 Go.Proofs.Try.f6 (.prod Y29 (.prod .i .unit)) (.prod .i .unit) x = g_S6 x.1 x.2.1 := fun x => by kernel_rfl

theorem g_OK6 : EntOK Go.Proofs.Try.prog g_Ent6 := EntOK.of_vcall g_HC6 Go.Proofs.Try.func6
  (body_loops (by kernel_rfl) (loops_all 0 (by kernel_rfl) fun k hk => absurd hk (Nat.not_lt_zero k)))
  (by kernel_rfl) (by kernel_rfl) g_VC6

/-! ### loop.example/g01924/laws.toVersion -/

noncomputable def g_C83 : Cfg := ⟨g_tis, [], []⟩

theorem g_HC83 : CfgOK Go.Proofs.Try.prog g_C83 := ⟨info_ok g_tisOK, all_nil, g_wide⟩

/-- loop.example/g01924/laws.toVersion -/
noncomputable def g_S83 (a0 : (den Y111)) : Option (den (.prod Y111 .unit)) :=
  some (a0, ())

noncomputable def g_Ent83 : Ent := ⟨83, (.prod Y111 .unit), (.prod Y111 .unit), fun x => g_S83 x.1⟩

theorem g_VC83 : ∀ x : den (.prod Y111 .unit), vcall g_C83 Go.Proofs.Try.f83 (.prod Y111 .unit) (.prod Y111 .unit) x = g_S83 x.1 := fun x => by kernel_rfl

theorem g_OK83 : EntOK Go.Proofs.Try.prog g_Ent83 := EntOK.of_vcall g_HC83 Go.Proofs.Try.func83
  (body_loops (by kernel_rfl) (loops_all 0 (by kernel_rfl) fun k hk => absurd hk (Nat.not_lt_zero k)))
  (by kernel_rfl) (by kernel_rfl) g_VC83

/-! ### loop.example/g01924/laws.toVersionS -/

noncomputable def g_L63_0 (a' : (List (den Y111))) (i' : Int) (out' : (List (den Y111))) (R : Type) (K : (Int × (List (den Y111))) ⊕ (((List (den Y111)))) → Option R) : Option R :=
  bif (decide (i' < ((a'.length : Nat) : Int))) then
    (lAt a' i').bind fun e1 =>
    (g_S83 e1).bind fun r2 =>
    if 0 ≤ i' ∧ i' < ((out'.length : Nat) : Int) then
      (out'[(i').toNat]?).bind fun e3 =>
      K (.inl ((IntKind.i64.wrap (i' + 1)), (out'.set (i').toNat r2.1)))
    else none
  else
    K (.inr (out'))

theorem g_L63_0_nat (a' : (List (den Y111))) (i' : Int) (out' : (List (den Y111))) (R : Type) (K : (Int × (List (den Y111))) ⊕ (((List (den Y111)))) → Option R) : g_L63_0 a' i' out' R K = (g_L63_0 a' i' out' _ some).bind K := by
  unfold g_L63_0
  repeat' first | exact nat_none | exact nat_some | apply nat_bif | (refine nat_bind fun _ => ?_) | apply nat_ite | (refine nat_sum (fun _ => ?_) fun _ => ?_) | rfl

def g_T63_0 : Tmpl := ⟨(.slot (.slice Y111) (.junk (.junk (.own 0 (.slot .i (.junk (.junk (.junk (.junk (.junk (.junk (.junk (.junk (.junk (.junk (.junk (.junk (.junk (.junk (.junk (.junk (.junk (.junk .nil))))))))))))))))))))))), (.lst Y111 .nil)⟩

abbrev g_I63_0 : Type := (List (den Y111))
abbrev g_V63_0 : Type := Int × (List (den Y111))
abbrev g_X63_0 : Type := ((List (den Y111)))

def g_M63_0 : g_I63_0 → g_V63_0 → den g_T63_0.ty := fun I v => (I, v.1, v.2, ())

def g_P63_0 : den g_T63_0.ty → g_I63_0 × g_V63_0 := fun x => (x.1, (x.2.1, x.2.2.1))

noncomputable def g_D63_0 : g_I63_0 → g_V63_0 → (R : Type) → ((g_V63_0 ⊕ g_X63_0) → Option R) → Option R := fun I v R K => g_L63_0 I v.1 v.2 R K

def g_E63_0 : g_I63_0 → g_X63_0 → (R : Type) → (Ex → St → Option R) → Option R := fun I p R K => K (.exit 0) ⟨[.junk, .junk, .junk, (.own 0 none), .junk, .junk, .junk, .junk, .junk, .junk, .junk, .junk, .junk, .junk, .junk, .junk, .junk, .junk, .junk, .junk, .junk, .junk, .junk], [some (.lst Y111 p)]⟩

def g_K63_0 : g_I63_0 → g_X63_0 → Ex × St := fun I p => ((.exit 0), ⟨[.junk, .junk, .junk, (.own 0 none), .junk, .junk, .junk, .junk, .junk, .junk, .junk, .junk, .junk, .junk, .junk, .junk, .junk, .junk, .junk, .junk, .junk, .junk, .junk], [some (.lst Y111 p)]⟩)

noncomputable def g_F63_0 : LoopFn := fun s R K => (Tmpl.read g_T63_0 s).bind fun x => (iter (fun v => g_D63_0 (g_P63_0 x).1 v _ some) (g_P63_0 x).2).bind fun p => g_E63_0 (g_P63_0 x).1 p R K

noncomputable def g_C63 : Cfg := ⟨g_tis, [g_Ent83], [(3, g_F63_0)]⟩

theorem g_HC63 : CfgOK Go.Proofs.Try.prog g_C63 := ⟨info_ok g_tisOK, (all_cons g_OK83 all_nil), g_wide⟩

theorem g_lk63_0 : ∀ F, ((g_C63).ann.find? fun x => x.1 == firstId ((loopsOf (codeOf Go.Proofs.Try.f63)).getD 0 .skip)).map (·.2) = some F → LoopOK Go.Proofs.Try.prog ((loopsOf (codeOf Go.Proofs.Try.f63)).getD 0 .skip) F := by
  refine lookup_ok (show ((g_C63).ann.find? fun x => x.1 == firstId ((loopsOf (codeOf Go.Proofs.Try.f63)).getD 0 .skip)).map (·.2) = some g_F63_0 from by kernel_rfl) ?_
  exact loop_ok g_HC63 (loops_all 0 (by kernel_rfl) fun k hk => absurd hk (Nat.not_lt_zero k)) g_T63_0 [3] g_M63_0 g_P63_0 (fun x => rfl) g_D63_0
    (fun I v R K => g_L63_0_nat _ _ _ R K) g_E63_0 g_K63_0 (fun I p R K => rfl) (fun I v => by kernel_rfl)

/-- loop.example/g01924/laws.toVersionS -/
noncomputable def g_S63 (a0 : (List (den Y111))) : Option (den (.prod (.slice Y111) .unit)) :=
  if 0 ≤ ((a0.length : Nat) : Int) ∧ ((a0.length : Nat) : Int) ≤ ((a0.length : Nat) : Int) ∧ ((a0.length : Nat) : Int) ≤ 879609302220 then
    (iter (fun v => g_L63_0 a0 v.1 v.2 _ some) (0, (List.replicate (((a0.length : Nat) : Int) : Int).toNat ((0, 0, 0, 0, 0, ()) : (den Y111))))).bind fun q4 =>
    some (q4, ())
  else none

noncomputable def g_Ent63 : Ent := ⟨63, (.prod (.slice Y111) .unit), (.prod (.slice Y111) .unit), fun x => g_S63 x.1⟩

theorem g_VC63 : ∀ x : den (.prod (.slice Y111) .unit), vcall g_C63 Go.Proofs.Try.f63 (.prod (.slice Y111) .unit) (.prod (.slice Y111) .unit) x = g_S63 x.1 := fun x => by kernel_rfl

theorem g_OK63 : EntOK Go.Proofs.Try.prog g_Ent63 := EntOK.of_vcall g_HC63 Go.Proofs.Try.func63
  (body_loops (by kernel_rfl) (loops_all 1 (by kernel_rfl) (fun k hk => match k, hk with
    | 0, _ => g_lk63_0)))
  (by kernel_rfl) (by kernel_rfl) g_VC63

/-! ### loop.example/g01924/laws.toVersionSS -/

noncomputable def g_L33_0 (a' : (List (List (den Y111)))) (i' : Int) (out' : (List (List (den Y111)))) (R : Type) (K : (Int × (List (List (den Y111)))) ⊕ (((List (List (den Y111))))) → Option R) : Option R :=
  bif (decide (i' < ((a'.length : Nat) : Int))) then
    (lAt a' i').bind fun e1 =>
    (g_S63 e1).bind fun r2 =>
    if 0 ≤ i' ∧ i' < ((out'.length : Nat) : Int) then
      (out'[(i').toNat]?).bind fun e3 =>
      K (.inl ((IntKind.i64.wrap (i' + 1)), (out'.set (i').toNat r2.1)))
    else none
  else
    K (.inr (out'))

theorem g_L33_0_nat (a' : (List (List (den Y111)))) (i' : Int) (out' : (List (List (den Y111)))) (R : Type) (K : (Int × (List (List (den Y111)))) ⊕ (((List (List (den Y111))))) → Option R) : g_L33_0 a' i' out' R K = (g_L33_0 a' i' out' _ some).bind K := by
  unfold g_L33_0
  repeat' first | exact nat_none | exact nat_some | apply nat_bif | (refine nat_bind fun _ => ?_) | apply nat_ite | (refine nat_sum (fun _ => ?_) fun _ => ?_) | rfl

def g_T33_0 : Tmpl := ⟨(.slot (.slice (.slice Y111)) (.junk (.junk (.own 0 (.slot .i (.junk (.junk (.junk (.junk (.junk (.junk (.junk (.junk (.junk (.junk (.junk (.junk (.junk (.junk (.junk (.junk (.junk (.junk .nil))))))))))))))))))))))), (.lst (.slice Y111) .nil)⟩

abbrev g_I33_0 : Type := (List (List (den Y111)))
abbrev g_V33_0 : Type := Int × (List (List (den Y111)))
abbrev g_X33_0 : Type := ((List (List (den Y111))))

def g_M33_0 : g_I33_0 → g_V33_0 → den g_T33_0.ty := fun I v => (I, v.1, v.2, ())

def g_P33_0 : den g_T33_0.ty → g_I33_0 × g_V33_0 := fun x => (x.1, (x.2.1, x.2.2.1))

noncomputable def g_D33_0 : g_I33_0 → g_V33_0 → (R : Type) → ((g_V33_0 ⊕ g_X33_0) → Option R) → Option R := fun I v R K => g_L33_0 I v.1 v.2 R K

def g_E33_0 : g_I33_0 → g_X33_0 → (R : Type) → (Ex → St → Option R) → Option R := fun I p R K => K (.exit 0) ⟨[.junk, .junk, .junk, (.own 0 none), .junk, .junk, .junk, .junk, .junk, .junk, .junk, .junk, .junk, .junk, .junk, .junk, .junk, .junk, .junk, .junk, .junk, .junk, .junk], [some (.lst (.slice Y111) p)]⟩

def g_K33_0 : g_I33_0 → g_X33_0 → Ex × St := fun I p => ((.exit 0), ⟨[.junk, .junk, .junk, (.own 0 none), .junk, .junk, .junk, .junk, .junk, .junk, .junk, .junk, .junk, .junk, .junk, .junk, .junk, .junk, .junk, .junk, .junk, .junk, .junk], [some (.lst (.slice Y111) p)]⟩)

noncomputable def g_F33_0 : LoopFn := fun s R K => (Tmpl.read g_T33_0 s).bind fun x => (iter (fun v => g_D33_0 (g_P33_0 x).1 v _ some) (g_P33_0 x).2).bind fun p => g_E33_0 (g_P33_0 x).1 p R K

noncomputable def g_C33 : Cfg := ⟨g_tis, [g_Ent63], [(3, g_F33_0)]⟩

theorem g_HC33 : CfgOK Go.Proofs.Try.prog g_C33 := ⟨info_ok g_tisOK, (all_cons g_OK63 all_nil), g_wide⟩

theorem g_lk33_0 : ∀ F, ((g_C33).ann.find? fun x => x.1 == firstId ((loopsOf (codeOf Go.Proofs.Try.f33)).getD 0 .skip)).map (·.2) = some F → LoopOK Go.Proofs.Try.prog ((loopsOf (codeOf Go.Proofs.Try.f33)).getD 0 .skip) F := by
  refine lookup_ok (show ((g_C33).ann.find? fun x => x.1 == firstId ((loopsOf (codeOf Go.Proofs.Try.f33)).getD 0 .skip)).map (·.2) = some g_F33_0 from by kernel_rfl) ?_
  exact loop_ok g_HC33 (loops_all 0 (by kernel_rfl) fun k hk => absurd hk (Nat.not_lt_zero k)) g_T33_0 [3] g_M33_0 g_P33_0 (fun x => rfl) g_D33_0
    (fun I v R K => g_L33_0_nat _ _ _ R K) g_E33_0 g_K33_0 (fun I p R K => rfl) (fun I v => by kernel_rfl)

/-- loop.example/g01924/laws.toVersionSS -/
noncomputable def g_S33 (a0 : (List (List (den Y111)))) : Option (den Y24) :=
  if 0 ≤ ((a0.length : Nat) : Int) ∧ ((a0.length : Nat) : Int) ≤ ((a0.length : Nat) : Int) ∧ ((a0.length : Nat) : Int) ≤ 1466015503701 then
    (iter (fun v => g_L33_0 a0 v.1 v.2 _ some) (0, (List.replicate (((a0.length : Nat) : Int) : Int).toNat []))).bind fun q4 =>
    some (q4, ())
  else none

noncomputable def g_Ent33 : Ent := ⟨33, Y24, Y24, fun x => g_S33 x.1⟩

theorem g_VC33 : ∀ x : den Y24, vcall g_C33 Go.Proofs.Try.f33 Y24 Y24 x = g_S33 x.1 := fun x => by kernel_rfl

theorem g_OK33 : EntOK Go.Proofs.Try.prog g_Ent33 := EntOK.of_vcall g_HC33 Go.Proofs.Try.func33
  (body_loops (by kernel_rfl) (loops_all 1 (by kernel_rfl) (fun k hk => match k, hk with
    | 0, _ => g_lk33_0)))
  (by kernel_rfl) (by kernel_rfl) g_VC33

/-! ### loop.example/g01924/laws.toStore -/

noncomputable def g_C20 : Cfg := ⟨g_tis, [g_Ent33], []⟩

theorem g_HC20 : CfgOK Go.Proofs.Try.prog g_C20 := ⟨info_ok g_tisOK, (all_cons g_OK33 all_nil), g_wide⟩

/-- loop.example/g01924/laws.toStore -/
noncomputable def g_S20 (a0 : (den Y24)) : Option (den (.prod Y24 .unit)) :=
  (g_S33 a0.1).bind fun r1 =>
  some (r1, ())

noncomputable def g_Ent20 : Ent := ⟨20, (.prod Y24 .unit), (.prod Y24 .unit), fun x => g_S20 x.1⟩

theorem g_VC20 : ∀ x : den (.prod Y24 .unit), vcall g_C20 Go.Proofs.Try.f20 (.prod Y24 .unit) (.prod Y24 .unit) x = g_S20 x.1 := fun x => by kernel_rfl

theorem g_OK20 : EntOK Go.Proofs.Try.prog g_Ent20 := EntOK.of_vcall g_HC20 Go.Proofs.Try.func20
  (body_loops (by kernel_rfl) (loops_all 0 (by kernel_rfl) fun k hk => absurd hk (Nat.not_lt_zero k)))
  (by kernel_rfl) (by kernel_rfl) g_VC20

/-! ### loop.example/g01924/laws.toReadMark -/

noncomputable def g_C84 : Cfg := ⟨g_tis, [], []⟩

theorem g_HC84 : CfgOK Go.Proofs.Try.prog g_C84 := ⟨info_ok g_tisOK, all_nil, g_wide⟩

/-- loop.example/g01924/laws.toReadMark -/
noncomputable def g_S84 (a0 : (den Y113)) : Option (den (.prod Y113 .unit)) :=
  some (a0, ())

noncomputable def g_Ent84 : Ent := ⟨84, (.prod Y113 .unit), (.prod Y113 .unit), fun x => g_S84 x.1⟩

theorem g_VC84 : ∀ x : den (.prod Y113 .unit), vcall g_C84 Go.Proofs.Try.f84 (.prod Y113 .unit) (.prod Y113 .unit) x = g_S84 x.1 := fun x => by kernel_rfl

theorem g_OK84 : EntOK Go.Proofs.Try.prog g_Ent84 := EntOK.of_vcall g_HC84 Go.Proofs.Try.func84
  (body_loops (by kernel_rfl) (loops_all 0 (by kernel_rfl) fun k hk => absurd hk (Nat.not_lt_zero k)))
  (by kernel_rfl) (by kernel_rfl) g_VC84

/-! ### loop.example/g01924/laws.toReadMarkS -/

noncomputable def g_L64_0 (a' : (List (den Y113))) (i' : Int) (out' : (List (den Y113))) (R : Type) (K : (Int × (List (den Y113))) ⊕ (((List (den Y113)))) → Option R) : Option R :=
  bif (decide (i' < ((a'.length : Nat) : Int))) then
    (lAt a' i').bind fun e1 =>
    (g_S84 e1).bind fun r2 =>
    if 0 ≤ i' ∧ i' < ((out'.length : Nat) : Int) then
      (out'[(i').toNat]?).bind fun e3 =>
      K (.inl ((IntKind.i64.wrap (i' + 1)), (out'.set (i').toNat r2.1)))
    else none
  else
    K (.inr (out'))

theorem g_L64_0_nat (a' : (List (den Y113))) (i' : Int) (out' : (List (den Y113))) (R : Type) (K : (Int × (List (den Y113))) ⊕ (((List (den Y113)))) → Option R) : g_L64_0 a' i' out' R K = (g_L64_0 a' i' out' _ some).bind K := by
  unfold g_L64_0
  repeat' first | exact nat_none | exact nat_some | apply nat_bif | (refine nat_bind fun _ => ?_) | apply nat_ite | (refine nat_sum (fun _ => ?_) fun _ => ?_) | rfl

def g_T64_0 : Tmpl := ⟨(.slot (.slice Y113) (.junk (.junk (.own 0 (.slot .i (.junk (.junk (.junk (.junk (.junk (.junk (.junk (.junk (.junk (.junk (.junk (.junk (.junk (.junk (.junk (.junk (.junk (.junk .nil))))))))))))))))))))))), (.lst Y113 .nil)⟩

abbrev g_I64_0 : Type := (List (den Y113))
abbrev g_V64_0 : Type := Int × (List (den Y113))
abbrev g_X64_0 : Type := ((List (den Y113)))

def g_M64_0 : g_I64_0 → g_V64_0 → den g_T64_0.ty := fun I v => (I, v.1, v.2, ())

def g_P64_0 : den g_T64_0.ty → g_I64_0 × g_V64_0 := fun x => (x.1, (x.2.1, x.2.2.1))

noncomputable def g_D64_0 : g_I64_0 → g_V64_0 → (R : Type) → ((g_V64_0 ⊕ g_X64_0) → Option R) → Option R := fun I v R K => g_L64_0 I v.1 v.2 R K

def g_E64_0 : g_I64_0 → g_X64_0 → (R : Type) → (Ex → St → Option R) → Option R := fun I p R K => K (.exit 0) ⟨[.junk, .junk, .junk, (.own 0 none), .junk, .junk, .junk, .junk, .junk, .junk, .junk, .junk, .junk, .junk, .junk, .junk, .junk, .junk, .junk, .junk, .junk, .junk, .junk], [some (.lst Y113 p)]⟩

def g_K64_0 : g_I64_0 → g_X64_0 → Ex × St := fun I p => ((.exit 0), ⟨[.junk, .junk, .junk, (.own 0 none), .junk, .junk, .junk, .junk, .junk, .junk, .junk, .junk, .junk, .junk, .junk, .junk, .junk, .junk, .junk, .junk, .junk, .junk, .junk], [some (.lst Y113 p)]⟩)

noncomputable def g_F64_0 : LoopFn := fun s R K => (Tmpl.read g_T64_0 s).bind fun x => (iter (fun v => g_D64_0 (g_P64_0 x).1 v _ some) (g_P64_0 x).2).bind fun p => g_E64_0 (g_P64_0 x).1 p R K

noncomputable def g_C64 : Cfg := ⟨g_tis, [g_Ent84], [(3, g_F64_0)]⟩

theorem g_HC64 : CfgOK Go.Proofs.Try.prog g_C64 := ⟨info_ok g_tisOK, (all_cons g_OK84 all_nil), g_wide⟩

theorem g_lk64_0 : ∀ F, ((g_C64).ann.find? fun x => x.1 == firstId ((loopsOf (codeOf Go.Proofs.Try.f64)).getD 0 .skip)).map (·.2) = some F → LoopOK Go.Proofs.Try.prog ((loopsOf (codeOf Go.Proofs.Try.f64)).getD 0 .skip) F := by
  refine lookup_ok (show ((g_C64).ann.find? fun x => x.1 == firstId ((loopsOf (codeOf Go.Proofs.Try.f64)).getD 0 .skip)).map (·.2) = some g_F64_0 from by kernel_rfl) ?_
  exact loop_ok g_HC64 (loops_all 0 (by kernel_rfl) fun k hk => absurd hk (Nat.not_lt_zero k)) g_T64_0 [3] g_M64_0 g_P64_0 (fun x => rfl) g_D64_0
    (fun I v R K => g_L64_0_nat _ _ _ R K) g_E64_0 g_K64_0 (fun I p R K => rfl) (fun I v => by kernel_rfl)

/-- loop.example/g01924/laws.toReadMarkS -/
noncomputable def g_S64 (a0 : (List (den Y113))) : Option (den (.prod (.slice Y113) .unit)) :=
  if 0 ≤ ((a0.length : Nat) : Int) ∧ ((a0.length : Nat) : Int) ≤ ((a0.length : Nat) : Int) ∧ ((a0.length : Nat) : Int) ≤ 2199023255552 then
    (iter (fun v => g_L64_0 a0 v.1 v.2 _ some) (0, (List.replicate (((a0.length : Nat) : Int) : Int).toNat ((0, 0, ()) : (den Y113))))).bind fun q4 =>
    some (q4, ())
  else none

noncomputable def g_Ent64 : Ent := ⟨64, (.prod (.slice Y113) .unit), (.prod (.slice Y113) .unit), fun x => g_S64 x.1⟩

theorem g_VC64 : ∀ x : den (.prod (.slice Y113) .unit), vcall g_C64 Go.Proofs.Try.f64 (.prod (.slice Y113) .unit) (.prod (.slice Y113) .unit) x = g_S64 x.1 := fun x => by kernel_rfl

theorem g_OK64 : EntOK Go.Proofs.Try.prog g_Ent64 := EntOK.of_vcall g_HC64 Go.Proofs.Try.func64
  (body_loops (by kernel_rfl) (loops_all 1 (by kernel_rfl) (fun k hk => match k, hk with
    | 0, _ => g_lk64_0)))
  (by kernel_rfl) (by kernel_rfl) g_VC64

/-! ### loop.example/g01924/laws.toWrite -/

noncomputable def g_C85 : Cfg := ⟨g_tis, [], []⟩

theorem g_HC85 : CfgOK Go.Proofs.Try.prog g_C85 := ⟨info_ok g_tisOK, all_nil, g_wide⟩

/-- loop.example/g01924/laws.toWrite -/
noncomputable def g_S85 (a0 : (den Y113)) : Option (den (.prod Y113 .unit)) :=
  some (a0, ())

noncomputable def g_Ent85 : Ent := ⟨85, (.prod Y113 .unit), (.prod Y113 .unit), fun x => g_S85 x.1⟩

theorem g_VC85 : ∀ x : den (.prod Y113 .unit), vcall g_C85 Go.Proofs.Try.f85 (.prod Y113 .unit) (.prod Y113 .unit) x = g_S85 x.1 := fun x => by kernel_rfl

theorem g_OK85 : EntOK Go.Proofs.Try.prog g_Ent85 := EntOK.of_vcall g_HC85 Go.Proofs.Try.func85
  (body_loops (by kernel_rfl) (loops_all 0 (by kernel_rfl) fun k hk => absurd hk (Nat.not_lt_zero k)))
  (by kernel_rfl) (by kernel_rfl) g_VC85

/-! ### loop.example/g01924/laws.toWriteS -/

noncomputable def g_L65_0 (a' : (List (den Y113))) (i' : Int) (out' : (List (den Y113))) (R : Type) (K : (Int × (List (den Y113))) ⊕ (((List (den Y113)))) → Option R) : Option R :=
  bif (decide (i' < ((a'.length : Nat) : Int))) then
    (lAt a' i').bind fun e1 =>
    (g_S85 e1).bind fun r2 =>
    if 0 ≤ i' ∧ i' < ((out'.length : Nat) : Int) then
      (out'[(i').toNat]?).bind fun e3 =>
      K (.inl ((IntKind.i64.wrap (i' + 1)), (out'.set (i').toNat r2.1)))
    else none
  else
    K (.inr (out'))

theorem g_L65_0_nat (a' : (List (den Y113))) (i' : Int) (out' : (List (den Y113))) (R : Type) (K : (Int × (List (den Y113))) ⊕ (((List (den Y113)))) → Option R) : g_L65_0 a' i' out' R K = (g_L65_0 a' i' out' _ some).bind K := by
  unfold g_L65_0
  repeat' first | exact nat_none | exact nat_some | apply nat_bif | (refine nat_bind fun _ => ?_) | apply nat_ite | (refine nat_sum (fun _ => ?_) fun _ => ?_) | rfl

def g_T65_0 : Tmpl := ⟨(.slot (.slice Y113) (.junk (.junk (.own 0 (.slot .i (.junk (.junk (.junk (.junk (.junk (.junk (.junk (.junk (.junk (.junk (.junk (.junk (.junk (.junk (.junk (.junk (.junk (.junk .nil))))))))))))))))))))))), (.lst Y113 .nil)⟩

abbrev g_I65_0 : Type := (List (den Y113))
abbrev g_V65_0 : Type := Int × (List (den Y113))
abbrev g_X65_0 : Type := ((List (den Y113)))

def g_M65_0 : g_I65_0 → g_V65_0 → den g_T65_0.ty := fun I v => (I, v.1, v.2, ())

def g_P65_0 : den g_T65_0.ty → g_I65_0 × g_V65_0 := fun x => (x.1, (x.2.1, x.2.2.1))

noncomputable def g_D65_0 : g_I65_0 → g_V65_0 → (R : Type) → ((g_V65_0 ⊕ g_X65_0) → Option R) → Option R := fun I v R K => g_L65_0 I v.1 v.2 R K

def g_E65_0 : g_I65_0 → g_X65_0 → (R : Type) → (Ex → St → Option R) → Option R := fun I p R K => K (.exit 0) ⟨[.junk, .junk, .junk, (.own 0 none), .junk, .junk, .junk, .junk, .junk, .junk, .junk, .junk, .junk, .junk, .junk, .junk, .junk, .junk, .junk, .junk, .junk, .junk, .junk], [some (.lst Y113 p)]⟩

def g_K65_0 : g_I65_0 → g_X65_0 → Ex × St := fun I p => ((.exit 0), ⟨[.junk, .junk, .junk, (.own 0 none), .junk, .junk, .junk, .junk, .junk, .junk, .junk, .junk, .junk, .junk, .junk, .junk, .junk, .junk, .junk, .junk, .junk, .junk, .junk], [some (.lst Y113 p)]⟩)

noncomputable def g_F65_0 : LoopFn := fun s R K => (Tmpl.read g_T65_0 s).bind fun x => (iter (fun v => g_D65_0 (g_P65_0 x).1 v _ some) (g_P65_0 x).2).bind fun p => g_E65_0 (g_P65_0 x).1 p R K

noncomputable def g_C65 : Cfg := ⟨g_tis, [g_Ent85], [(3, g_F65_0)]⟩

theorem g_HC65 : CfgOK Go.Proofs.Try.prog g_C65 := ⟨info_ok g_tisOK, (all_cons g_OK85 all_nil), g_wide⟩

theorem g_lk65_0 : ∀ F, ((g_C65).ann.find? fun x => x.1 == firstId ((loopsOf (codeOf Go.Proofs.Try.f65)).getD 0 .skip)).map (·.2) = some F → LoopOK Go.Proofs.Try.prog ((loopsOf (codeOf Go.Proofs.Try.f65)).getD 0 .skip) F := by
  refine lookup_ok (show ((g_C65).ann.find? fun x => x.1 == firstId ((loopsOf (codeOf Go.Proofs.Try.f65)).getD 0 .skip)).map (·.2) = some g_F65_0 from by kernel_rfl) ?_
  exact loop_ok g_HC65 (loops_all 0 (by kernel_rfl) fun k hk => absurd hk (Nat.not_lt_zero k)) g_T65_0 [3] g_M65_0 g_P65_0 (fun x => rfl) g_D65_0
    (fun I v R K => g_L65_0_nat _ _ _ R K) g_E65_0 g_K65_0 (fun I p R K => rfl) (fun I v => by kernel_rfl)

/-- loop.example/g01924/laws.toWriteS -/
noncomputable def g_S65 (a0 : (List (den Y113))) : Option (den (.prod (.slice Y113) .unit)) :=
  if 0 ≤ ((a0.length : Nat) : Int) ∧ ((a0.length : Nat) : Int) ≤ ((a0.length : Nat) : Int) ∧ ((a0.length : Nat) : Int) ≤ 2199023255552 then
    (iter (fun v => g_L65_0 a0 v.1 v.2 _ some) (0, (List.replicate (((a0.length : Nat) : Int) : Int).toNat ((0, 0, ()) : (den Y113))))).bind fun q4 =>
    some (q4, ())
  else none

noncomputable def g_Ent65 : Ent := ⟨65, (.prod (.slice Y113) .unit), (.prod (.slice Y113) .unit), fun x => g_S65 x.1⟩

theorem g_VC65 : ∀ x : den (.prod (.slice Y113) .unit), vcall g_C65 Go.Proofs.Try.f65 (.prod (.slice Y113) .unit) (.prod (.slice Y113) .unit) x = g_S65 x.1 := fun x => by kernel_rfl

theorem g_OK65 : EntOK Go.Proofs.Try.prog g_Ent65 := EntOK.of_vcall g_HC65 Go.Proofs.Try.func65
  (body_loops (by kernel_rfl) (loops_all 1 (by kernel_rfl) (fun k hk => match k, hk with
    | 0, _ => g_lk65_0)))
  (by kernel_rfl) (by kernel_rfl) g_VC65

/-! ### loop.example/g01924/laws.toTransaction -/

noncomputable def g_C34 : Cfg := ⟨g_tis, [g_Ent64, g_Ent65], []⟩

theorem g_HC34 : CfgOK Go.Proofs.Try.prog g_C34 := ⟨info_ok g_tisOK, (all_cons g_OK64 (all_cons g_OK65 all_nil)), g_wide⟩

/-- loop.example/g01924/laws.toTransaction -/
noncomputable def g_S34 (a0 : (den Y68)) : Option (den (.prod Y68 .unit)) :=
  (g_S64 a0.2.2.2.2.2.2.2.1).bind fun r1 =>
  (g_S65 a0.2.2.2.2.2.2.2.2.1).bind fun r2 =>
  some ((a0.1, a0.2.1, a0.2.2.1, a0.2.2.2.1, a0.2.2.2.2.1, a0.2.2.2.2.2.1, a0.2.2.2.2.2.2.1, r1.1, r2.1, ()), ())

noncomputable def g_Ent34 : Ent := ⟨34, (.prod Y68 .unit), (.prod Y68 .unit), fun x => g_S34 x.1⟩

theorem g_VC34 : ∀ x : den (.prod Y68 .unit), vcall g_C34 Go.Proofs.Try.f34 (.prod Y68 .unit) (.prod Y68 .unit) x = g_S34 x.1 := fun x => by kernel_rfl

theorem g_OK34 : EntOK Go.Proofs.Try.prog g_Ent34 := EntOK.of_vcall g_HC34 Go.Proofs.Try.func34
  (body_loops (by kernel_rfl) (loops_all 0 (by kernel_rfl) fun k hk => absurd hk (Nat.not_lt_zero k)))
  (by kernel_rfl) (by kernel_rfl) g_VC34

/-! ### loop.example/g01924/laws.toTransactionS -/

noncomputable def g_L21_0 (a' : (List (den Y68))) (i' : Int) (out' : (List (den Y68))) (R : Type) (K : (Int × (List (den Y68))) ⊕ (((List (den Y68)))) → Option R) : Option R :=
  bif (decide (i' < ((a'.length : Nat) : Int))) then
    (lAt a' i').bind fun e1 =>
    (g_S34 e1).bind fun r2 =>
    if 0 ≤ i' ∧ i' < ((out'.length : Nat) : Int) then
      (out'[(i').toNat]?).bind fun e3 =>
      K (.inl ((IntKind.i64.wrap (i' + 1)), (out'.set (i').toNat r2.1)))
    else none
  else
    K (.inr (out'))

theorem g_L21_0_nat (a' : (List (den Y68))) (i' : Int) (out' : (List (den Y68))) (R : Type) (K : (Int × (List (den Y68))) ⊕ (((List (den Y68)))) → Option R) : g_L21_0 a' i' out' R K = (g_L21_0 a' i' out' _ some).bind K := by
  unfold g_L21_0
  repeat' first | exact nat_none | exact nat_some | apply nat_bif | (refine nat_bind fun _ => ?_) | apply nat_ite | (refine nat_sum (fun _ => ?_) fun _ => ?_) | rfl

def g_T21_0 : Tmpl := ⟨(.slot (.slice Y68) (.junk (.junk (.own 0 (.slot .i (.junk (.junk (.junk (.junk (.junk (.junk (.junk (.junk (.junk (.junk (.junk (.junk (.junk (.junk (.junk (.junk (.junk (.junk .nil))))))))))))))))))))))), (.lst Y68 .nil)⟩

abbrev g_I21_0 : Type := (List (den Y68))
abbrev g_V21_0 : Type := Int × (List (den Y68))
abbrev g_X21_0 : Type := ((List (den Y68)))

def g_M21_0 : g_I21_0 → g_V21_0 → den g_T21_0.ty := fun I v => (I, v.1, v.2, ())

def g_P21_0 : den g_T21_0.ty → g_I21_0 × g_V21_0 := fun x => (x.1, (x.2.1, x.2.2.1))

noncomputable def g_D21_0 : g_I21_0 → g_V21_0 → (R : Type) → ((g_V21_0 ⊕ g_X21_0) → Option R) → Option R := fun I v R K => g_L21_0 I v.1 v.2 R K

def g_E21_0 : g_I21_0 → g_X21_0 → (R : Type) → (Ex → St → Option R) → Option R := fun I p R K => K (.exit 0) ⟨[.junk, .junk, .junk, (.own 0 none), .junk, .junk, .junk, .junk, .junk, .junk, .junk, .junk, .junk, .junk, .junk, .junk, .junk, .junk, .junk, .junk, .junk, .junk, .junk], [some (.lst Y68 p)]⟩

def g_K21_0 : g_I21_0 → g_X21_0 → Ex × St := fun I p => ((.exit 0), ⟨[.junk, .junk, .junk, (.own 0 none), .junk, .junk, .junk, .junk, .junk, .junk, .junk, .junk, .junk, .junk, .junk, .junk, .junk, .junk, .junk, .junk, .junk, .junk, .junk], [some (.lst Y68 p)]⟩)

noncomputable def g_F21_0 : LoopFn := fun s R K => (Tmpl.read g_T21_0 s).bind fun x => (iter (fun v => g_D21_0 (g_P21_0 x).1 v _ some) (g_P21_0 x).2).bind fun p => g_E21_0 (g_P21_0 x).1 p R K

noncomputable def g_C21 : Cfg := ⟨g_tis, [g_Ent34], [(3, g_F21_0)]⟩

theorem g_HC21 : CfgOK Go.Proofs.Try.prog g_C21 := ⟨info_ok g_tisOK, (all_cons g_OK34 all_nil), g_wide⟩

theorem g_lk21_0 : ∀ F, ((g_C21).ann.find? fun x => x.1 == firstId ((loopsOf (codeOf Go.Proofs.Try.f21)).getD 0 .skip)).map (·.2) = some F → LoopOK Go.Proofs.Try.prog ((loopsOf (codeOf Go.Proofs.Try.f21)).getD 0 .skip) F := by
  refine lookup_ok (show ((g_C21).ann.find? fun x => x.1 == firstId ((loopsOf (codeOf Go.Proofs.Try.f21)).getD 0 .skip)).map (·.2) = some g_F21_0 from by kernel_rfl) ?_
  exact loop_ok g_HC21 (loops_all 0 (by kernel_rfl) fun k hk => absurd hk (Nat.not_lt_zero k)) g_T21_0 [3] g_M21_0 g_P21_0 (fun x => rfl) g_D21_0
    (fun I v R K => g_L21_0_nat _ _ _ R K) g_E21_0 g_K21_0 (fun I p R K => rfl) (fun I v => by kernel_rfl)

/-- loop.example/g01924/laws.toTransactionS -/
noncomputable def g_S21 (a0 : (List (den Y68))) : Option (den (.prod (.slice Y68) .unit)) :=
  if 0 ≤ ((a0.length : Nat) : Int) ∧ ((a0.length : Nat) : Int) ≤ ((a0.length : Nat) : Int) ∧ ((a0.length : Nat) : Int) ≤ 338311270084 then
    (iter (fun v => g_L21_0 a0 v.1 v.2 _ some) (0, (List.replicate (((a0.length : Nat) : Int) : Int).toNat ((0, 0, 0, 0, 0, 0, 0, [], [], ()) : (den Y68))))).bind fun q4 =>
    some (q4, ())
  else none

noncomputable def g_Ent21 : Ent := ⟨21, (.prod (.slice Y68) .unit), (.prod (.slice Y68) .unit), fun x => g_S21 x.1⟩

theorem g_VC21 : ∀ x : den (.prod (.slice Y68) .unit), vcall g_C21 Go.Proofs.Try.f21 (.prod (.slice Y68) .unit) (.prod (.slice Y68) .unit) x = g_S21 x.1 := fun x => by kernel_rfl

theorem g_OK21 : EntOK Go.Proofs.Try.prog g_Ent21 := EntOK.of_vcall g_HC21 Go.Proofs.Try.func21
  (body_loops (by kernel_rfl) (loops_all 1 (by kernel_rfl) (fun k hk => match k, hk with
    | 0, _ => g_lk21_0)))
  (by kernel_rfl) (by kernel_rfl) g_VC21

/-! ### loop.example/g01924/laws.toLock -/

noncomputable def g_C35 : Cfg := ⟨g_tis, [], []⟩

theorem g_HC35 : CfgOK Go.Proofs.Try.prog g_C35 := ⟨info_ok g_tisOK, all_nil, g_wide⟩

/-- loop.example/g01924/laws.toLock -/
noncomputable def g_S35 (a0 : (den Y113)) : Option (den (.prod Y113 .unit)) :=
  some (a0, ())

noncomputable def g_Ent35 : Ent := ⟨35, (.prod Y113 .unit), (.prod Y113 .unit), fun x => g_S35 x.1⟩

theorem g_VC35 : ∀ x : den (.prod Y113 .unit), vcall g_C35 Go.Proofs.Try.f35 (.prod Y113 .unit) (.prod Y113 .unit) x = g_S35 x.1 := fun x => by kernel_rfl

theorem g_OK35 : EntOK Go.Proofs.Try.prog g_Ent35 := EntOK.of_vcall g_HC35 Go.Proofs.Try.func35
  (body_loops (by kernel_rfl) (loops_all 0 (by kernel_rfl) fun k hk => absurd hk (Nat.not_lt_zero k)))
  (by kernel_rfl) (by kernel_rfl) g_VC35

/-! ### loop.example/g01924/laws.toLockS -/

noncomputable def g_L22_0 (a' : (List (den Y113))) (i' : Int) (out' : (List (den Y113))) (R : Type) (K : (Int × (List (den Y113))) ⊕ (((List (den Y113)))) → Option R) : Option R :=
  bif (decide (i' < ((a'.length : Nat) : Int))) then
    (lAt a' i').bind fun e1 =>
    (g_S35 e1).bind fun r2 =>
    if 0 ≤ i' ∧ i' < ((out'.length : Nat) : Int) then
      (out'[(i').toNat]?).bind fun e3 =>
      K (.inl ((IntKind.i64.wrap (i' + 1)), (out'.set (i').toNat r2.1)))
    else none
  else
    K (.inr (out'))

theorem g_L22_0_nat (a' : (List (den Y113))) (i' : Int) (out' : (List (den Y113))) (R : Type) (K : (Int × (List (den Y113))) ⊕ (((List (den Y113)))) → Option R) : g_L22_0 a' i' out' R K = (g_L22_0 a' i' out' _ some).bind K := by
  unfold g_L22_0
  repeat' first | exact nat_none | exact nat_some | apply nat_bif | (refine nat_bind fun _ => ?_) | apply nat_ite | (refine nat_sum (fun _ => ?_) fun _ => ?_) | rfl

def g_T22_0 : Tmpl := ⟨(.slot (.slice Y113) (.junk (.junk (.own 0 (.slot .i (.junk (.junk (.junk (.junk (.junk (.junk (.junk (.junk (.junk (.junk (.junk (.junk (.junk (.junk (.junk (.junk (.junk (.junk .nil))))))))))))))))))))))), (.lst Y113 .nil)⟩

abbrev g_I22_0 : Type := (List (den Y113))
abbrev g_V22_0 : Type := Int × (List (den Y113))
abbrev g_X22_0 : Type := ((List (den Y113)))

def g_M22_0 : g_I22_0 → g_V22_0 → den g_T22_0.ty := fun I v => (I, v.1, v.2, ())

def g_P22_0 : den g_T22_0.ty → g_I22_0 × g_V22_0 := fun x => (x.1, (x.2.1, x.2.2.1))

noncomputable def g_D22_0 : g_I22_0 → g_V22_0 → (R : Type) → ((g_V22_0 ⊕ g_X22_0) → Option R) → Option R := fun I v R K => g_L22_0 I v.1 v.2 R K

def g_E22_0 : g_I22_0 → g_X22_0 → (R : Type) → (Ex → St → Option R) → Option R := fun I p R K => K (.exit 0) ⟨[.junk, .junk, .junk, (.own 0 none), .junk, .junk, .junk, .junk, .junk, .junk, .junk, .junk, .junk, .junk, .junk, .junk, .junk, .junk, .junk, .junk, .junk, .junk, .junk], [some (.lst Y113 p)]⟩

def g_K22_0 : g_I22_0 → g_X22_0 → Ex × St := fun I p => ((.exit 0), ⟨[.junk, .junk, .junk, (.own 0 none), .junk, .junk, .junk, .junk, .junk, .junk, .junk, .junk, .junk, .junk, .junk, .junk, .junk, .junk, .junk, .junk, .junk, .junk, .junk], [some (.lst Y113 p)]⟩)

noncomputable def g_F22_0 : LoopFn := fun s R K => (Tmpl.read g_T22_0 s).bind fun x => (iter (fun v => g_D22_0 (g_P22_0 x).1 v _ some) (g_P22_0 x).2).bind fun p => g_E22_0 (g_P22_0 x).1 p R K

noncomputable def g_C22 : Cfg := ⟨g_tis, [g_Ent35], [(3, g_F22_0)]⟩

theorem g_HC22 : CfgOK Go.Proofs.Try.prog g_C22 := ⟨info_ok g_tisOK, (all_cons g_OK35 all_nil), g_wide⟩

theorem g_lk22_0 : ∀ F, ((g_C22).ann.find? fun x => x.1 == firstId ((loopsOf (codeOf Go.Proofs.Try.f22)).getD 0 .skip)).map (·.2) = some F → LoopOK Go.Proofs.Try.prog ((loopsOf (codeOf Go.Proofs.Try.f22)).getD 0 .skip) F := by
  refine lookup_ok (show ((g_C22).ann.find? fun x => x.1 == firstId ((loopsOf (codeOf Go.Proofs.Try.f22)).getD 0 .skip)).map (·.2) = some g_F22_0 from by kernel_rfl) ?_
  exact loop_ok g_HC22 (loops_all 0 (by kernel_rfl) fun k hk => absurd hk (Nat.not_lt_zero k)) g_T22_0 [3] g_M22_0 g_P22_0 (fun x => rfl) g_D22_0
    (fun I v R K => g_L22_0_nat _ _ _ R K) g_E22_0 g_K22_0 (fun I p R K => rfl) (fun I v => by kernel_rfl)

/-- loop.example/g01924/laws.toLockS -/
noncomputable def g_S22 (a0 : (List (den Y113))) : Option (den (.prod (.slice Y113) .unit)) :=
  if 0 ≤ ((a0.length : Nat) : Int) ∧ ((a0.length : Nat) : Int) ≤ ((a0.length : Nat) : Int) ∧ ((a0.length : Nat) : Int) ≤ 2199023255552 then
    (iter (fun v => g_L22_0 a0 v.1 v.2 _ some) (0, (List.replicate (((a0.length : Nat) : Int) : Int).toNat ((0, 0, ()) : (den Y113))))).bind fun q4 =>
    some (q4, ())
  else none

noncomputable def g_Ent22 : Ent := ⟨22, (.prod (.slice Y113) .unit), (.prod (.slice Y113) .unit), fun x => g_S22 x.1⟩

theorem g_VC22 : ∀ x : den (.prod (.slice Y113) .unit), vcall g_C22 Go.Proofs.Try.f22 (.prod (.slice Y113) .unit) (.prod (.slice Y113) .unit) x = g_S22 x.1 := fun x => by kernel_rfl

theorem g_OK22 : EntOK Go.Proofs.Try.prog g_Ent22 := EntOK.of_vcall g_HC22 Go.Proofs.Try.func22
  (body_loops (by kernel_rfl) (loops_all 1 (by kernel_rfl) (fun k hk => match k, hk with
    | 0, _ => g_lk22_0)))
  (by kernel_rfl) (by kernel_rfl) g_VC22

/-! ### loop.example/g01924/laws.toWait -/

noncomputable def g_C36 : Cfg := ⟨g_tis, [], []⟩

theorem g_HC36 : CfgOK Go.Proofs.Try.prog g_C36 := ⟨info_ok g_tisOK, all_nil, g_wide⟩

/-- loop.example/g01924/laws.toWait -/
noncomputable def g_S36 (a0 : (den Y113)) : Option (den (.prod Y113 .unit)) :=
  some (a0, ())

noncomputable def g_Ent36 : Ent := ⟨36, (.prod Y113 .unit), (.prod Y113 .unit), fun x => g_S36 x.1⟩

theorem g_VC36 : ∀ x : den (.prod Y113 .unit), vcall g_C36 Go.Proofs.Try.f36 (.prod Y113 .unit) (.prod Y113 .unit) x = g_S36 x.1 := fun x => by kernel_rfl

theorem g_OK36 : EntOK Go.Proofs.Try.prog g_Ent36 := EntOK.of_vcall g_HC36 Go.Proofs.Try.func36
  (body_loops (by kernel_rfl) (loops_all 0 (by kernel_rfl) fun k hk => absurd hk (Nat.not_lt_zero k)))
  (by kernel_rfl) (by kernel_rfl) g_VC36

/-! ### loop.example/g01924/laws.toWaitS -/

noncomputable def g_L23_0 (a' : (List (den Y113))) (i' : Int) (out' : (List (den Y113))) (R : Type) (K : (Int × (List (den Y113))) ⊕ (((List (den Y113)))) → Option R) : Option R :=
  bif (decide (i' < ((a'.length : Nat) : Int))) then
    (lAt a' i').bind fun e1 =>
    (g_S36 e1).bind fun r2 =>
    if 0 ≤ i' ∧ i' < ((out'.length : Nat) : Int) then
      (out'[(i').toNat]?).bind fun e3 =>
      K (.inl ((IntKind.i64.wrap (i' + 1)), (out'.set (i').toNat r2.1)))
    else none
  else
    K (.inr (out'))

theorem g_L23_0_nat (a' : (List (den Y113))) (i' : Int) (out' : (List (den Y113))) (R : Type) (K : (Int × (List (den Y113))) ⊕ (((List (den Y113)))) → Option R) : g_L23_0 a' i' out' R K = (g_L23_0 a' i' out' _ some).bind K := by
  unfold g_L23_0
  repeat' first | exact nat_none | exact nat_some | apply nat_bif | (refine nat_bind fun _ => ?_) | apply nat_ite | (refine nat_sum (fun _ => ?_) fun _ => ?_) | rfl

def g_T23_0 : Tmpl := ⟨(.slot (.slice Y113) (.junk (.junk (.own 0 (.slot .i (.junk (.junk (.junk (.junk (.junk (.junk (.junk (.junk (.junk (.junk (.junk (.junk (.junk (.junk (.junk (.junk (.junk (.junk .nil))))))))))))))))))))))), (.lst Y113 .nil)⟩

abbrev g_I23_0 : Type := (List (den Y113))
abbrev g_V23_0 : Type := Int × (List (den Y113))
abbrev g_X23_0 : Type := ((List (den Y113)))

def g_M23_0 : g_I23_0 → g_V23_0 → den g_T23_0.ty := fun I v => (I, v.1, v.2, ())

def g_P23_0 : den g_T23_0.ty → g_I23_0 × g_V23_0 := fun x => (x.1, (x.2.1, x.2.2.1))

noncomputable def g_D23_0 : g_I23_0 → g_V23_0 → (R : Type) → ((g_V23_0 ⊕ g_X23_0) → Option R) → Option R := fun I v R K => g_L23_0 I v.1 v.2 R K

def g_E23_0 : g_I23_0 → g_X23_0 → (R : Type) → (Ex → St → Option R) → Option R := fun I p R K => K (.exit 0) ⟨[.junk, .junk, .junk, (.own 0 none), .junk, .junk, .junk, .junk, .junk, .junk, .junk, .junk, .junk, .junk, .junk, .junk, .junk, .junk, .junk, .junk, .junk, .junk, .junk], [some (.lst Y113 p)]⟩

def g_K23_0 : g_I23_0 → g_X23_0 → Ex × St := fun I p => ((.exit 0), ⟨[.junk, .junk, .junk, (.own 0 none), .junk, .junk, .junk, .junk, .junk, .junk, .junk, .junk, .junk, .junk, .junk, .junk, .junk, .junk, .junk, .junk, .junk, .junk, .junk], [some (.lst Y113 p)]⟩)

noncomputable def g_F23_0 : LoopFn := fun s R K => (Tmpl.read g_T23_0 s).bind fun x => (iter (fun v => g_D23_0 (g_P23_0 x).1 v _ some) (g_P23_0 x).2).bind fun p => g_E23_0 (g_P23_0 x).1 p R K

noncomputable def g_C23 : Cfg := ⟨g_tis, [g_Ent36], [(3, g_F23_0)]⟩

theorem g_HC23 : CfgOK Go.Proofs.Try.prog g_C23 := ⟨info_ok g_tisOK, (all_cons g_OK36 all_nil), g_wide⟩

theorem g_lk23_0 : ∀ F, ((g_C23).ann.find? fun x => x.1 == firstId ((loopsOf (codeOf Go.Proofs.Try.f23)).getD 0 .skip)).map (·.2) = some F → LoopOK Go.Proofs.Try.prog ((loopsOf (codeOf Go.Proofs.Try.f23)).getD 0 .skip) F := by
  refine lookup_ok (show ((g_C23).ann.find? fun x => x.1 == firstId ((loopsOf (codeOf Go.Proofs.Try.f23)).getD 0 .skip)).map (·.2) = some g_F23_0 from by kernel_rfl) ?_
  exact loop_ok g_HC23 (loops_all 0 (by kernel_rfl) fun k hk => absurd hk (Nat.not_lt_zero k)) g_T23_0 [3] g_M23_0 g_P23_0 (fun x => rfl) g_D23_0
    (fun I v R K => g_L23_0_nat _ _ _ R K) g_E23_0 g_K23_0 (fun I p R K => rfl) (fun I v => by kernel_rfl)

/-- loop.example/g01924/laws.toWaitS -/
noncomputable def g_S23 (a0 : (List (den Y113))) : Option (den (.prod (.slice Y113) .unit)) :=
  if 0 ≤ ((a0.length : Nat) : Int) ∧ ((a0.length : Nat) : Int) ≤ ((a0.length : Nat) : Int) ∧ ((a0.length : Nat) : Int) ≤ 2199023255552 then
    (iter (fun v => g_L23_0 a0 v.1 v.2 _ some) (0, (List.replicate (((a0.length : Nat) : Int) : Int).toNat ((0, 0, ()) : (den Y113))))).bind fun q4 =>
    some (q4, ())
  else none

noncomputable def g_Ent23 : Ent := ⟨23, (.prod (.slice Y113) .unit), (.prod (.slice Y113) .unit), fun x => g_S23 x.1⟩

theorem g_VC23 : ∀ x : den (.prod (.slice Y113) .unit), vcall g_C23 Go.Proofs.Try.f23 (.prod (.slice Y113) .unit) (.prod (.slice Y113) .unit) x = g_S23 x.1 := fun x => by kernel_rfl

theorem g_OK23 : EntOK Go.Proofs.Try.prog g_Ent23 := EntOK.of_vcall g_HC23 Go.Proofs.Try.func23
  (body_loops (by kernel_rfl) (loops_all 1 (by kernel_rfl) (fun k hk => match k, hk with
    | 0, _ => g_lk23_0)))
  (by kernel_rfl) (by kernel_rfl) g_VC23

/-! ### loop.example/g01924/laws.toEngine -/

noncomputable def g_C8 : Cfg := ⟨g_tis, [g_Ent20, g_Ent21, g_Ent22, g_Ent23], []⟩

theorem g_HC8 : CfgOK Go.Proofs.Try.prog g_C8 := ⟨info_ok g_tisOK, (all_cons g_OK20 (all_cons g_OK21 (all_cons g_OK22 (all_cons g_OK23 all_nil)))), g_wide⟩

/-- loop.example/g01924/laws.toEngine -/
noncomputable def g_S8 (a0 : (den Y29)) : Option (den (.prod Y29 .unit)) :=
  (g_S20 a0.2.1).bind fun r1 =>
  (g_S21 a0.2.2.1).bind fun r2 =>
  (g_S22 a0.2.2.2.1).bind fun r3 =>
  (g_S23 a0.2.2.2.2.1).bind fun r4 =>
  some ((a0.1, r1.1, r2.1, r3.1, r4.1, a0.2.2.2.2.2.1, ()), ())

noncomputable def g_Ent8 : Ent := ⟨8, (.prod Y29 .unit), (.prod Y29 .unit), fun x => g_S8 x.1⟩

theorem g_VC8 : ∀ x : den (.prod Y29 .unit), vcall g_C8 Go.Proofs.Try.f8 (.prod Y29 .unit) (.prod Y29 .unit) x = g_S8 x.1 := fun x => by kernel_rfl

theorem g_OK8 : EntOK Go.Proofs.Try.prog g_Ent8 := EntOK.of_vcall g_HC8 Go.Proofs.Try.func8
  (body_loops (by kernel_rfl) (loops_all 0 (by kernel_rfl) fun k hk => absurd hk (Nat.not_lt_zero k)))
  (by kernel_rfl) (by kernel_rfl) g_VC8

/-! ### loop.example/g01924/spec.l33Count -/

noncomputable def g_L19_0 (scheme' : Int) (state' : Int) (e' : (den Y29)) (n' : Int) (i' : Int) (R : Type) (K : (Int × Int) ⊕ ((Int)) → Option R) : Option R :=
  bif (decide (i' < ((e'.2.2.1.length : Nat) : Int))) then
    (lAt e'.2.2.1 i').bind fun e1 =>
    bif (e1.2.1 == scheme') then
      (lAt e'.2.2.1 i').bind fun e2 =>
      bif (e2.2.2.1 == state') then
        K (.inl ((IntKind.i64.wrap (n' + 1)), (IntKind.i64.wrap (i' + 1))))
      else
        K (.inl (n', (IntKind.i64.wrap (i' + 1))))
    else
      K (.inl (n', (IntKind.i64.wrap (i' + 1))))
  else
    K (.inr (n'))

theorem g_L19_0_nat (scheme' : Int) (state' : Int) (e' : (den Y29)) (n' : Int) (i' : Int) (R : Type) (K : (Int × Int) ⊕ ((Int)) → Option R) : g_L19_0 scheme' state' e' n' i' R K = (g_L19_0 scheme' state' e' n' i' _ some).bind K := by
  unfold g_L19_0
  repeat' first | exact nat_none | exact nat_some | apply nat_bif | (refine nat_bind fun _ => ?_) | apply nat_ite | (refine nat_sum (fun _ => ?_) fun _ => ?_) | rfl

def g_T19_0 : Tmpl := ⟨(.junk (.slot .i (.slot .i (.ptr 0 0 0 (.junk (.junk (.junk (.slot .i (.slot .i (.junk (.junk (.junk (.junk (.junk (.junk (.junk (.junk (.junk (.junk (.junk (.junk (.junk (.junk (.junk (.junk (.junk (.junk (.junk (.junk (.junk (.junk (.junk (.junk (.junk (.junk (.junk (.junk .nil))))))))))))))))))))))))))))))))))))), (.one Y29 .nil)⟩

abbrev g_I19_0 : Type := Int × Int × (den Y29)
abbrev g_V19_0 : Type := Int × Int
abbrev g_X19_0 : Type := (Int)

def g_M19_0 : g_I19_0 → g_V19_0 → den g_T19_0.ty := fun I v => (I.1, I.2.1, v.1, v.2, I.2.2, ())

def g_P19_0 : den g_T19_0.ty → g_I19_0 × g_V19_0 := fun x => ((x.1, x.2.1, x.2.2.2.2.1), (x.2.2.1, x.2.2.2.1))

noncomputable def g_D19_0 : g_I19_0 → g_V19_0 → (R : Type) → ((g_V19_0 ⊕ g_X19_0) → Option R) → Option R := fun I v R K => g_L19_0 I.1 I.2.1 I.2.2 v.1 v.2 R K

def g_E19_0 : g_I19_0 → g_X19_0 → (R : Type) → (Ex → St → Option R) → Option R := fun I p R K => K (.exit 0) ⟨[.junk, .junk, .junk, .junk, .junk, .junk, .junk, (.pv .i p), .junk, .junk, .junk, .junk, .junk, .junk, .junk, .junk, .junk, .junk, .junk, .junk, .junk, .junk, .junk, .junk, .junk, .junk, .junk, .junk, .junk, .junk, .junk, .junk, .junk, .junk, .junk, .junk, .junk], [some (.cells 6 [[(.pv .bool I.2.2.1), (.pv (.slice (.slice Y111)) I.2.2.2.1.1), (.pv (.slice Y68) I.2.2.2.2.1), (.pv (.slice Y113) I.2.2.2.2.2.1), (.pv (.slice Y113) I.2.2.2.2.2.2.1), (.pv .i I.2.2.2.2.2.2.2.1)]])]⟩

def g_K19_0 : g_I19_0 → g_X19_0 → Ex × St := fun I p => ((.exit 0), ⟨[.junk, .junk, .junk, .junk, .junk, .junk, .junk, (.pv .i p), .junk, .junk, .junk, .junk, .junk, .junk, .junk, .junk, .junk, .junk, .junk, .junk, .junk, .junk, .junk, .junk, .junk, .junk, .junk, .junk, .junk, .junk, .junk, .junk, .junk, .junk, .junk, .junk, .junk], [some (.cells 6 [[(.pv .bool I.2.2.1), (.pv (.slice (.slice Y111)) I.2.2.2.1.1), (.pv (.slice Y68) I.2.2.2.2.1), (.pv (.slice Y113) I.2.2.2.2.2.1), (.pv (.slice Y113) I.2.2.2.2.2.2.1), (.pv .i I.2.2.2.2.2.2.2.1)]])]⟩)

noncomputable def g_F19_0 : LoopFn := fun s R K => (Tmpl.read g_T19_0 s).bind fun x => (iter (fun v => g_D19_0 (g_P19_0 x).1 v _ some) (g_P19_0 x).2).bind fun p => g_E19_0 (g_P19_0 x).1 p R K

noncomputable def g_C19 : Cfg := ⟨g_tis, [], [(3, g_F19_0)]⟩

theorem g_HC19 : CfgOK Go.Proofs.Try.prog g_C19 := ⟨info_ok g_tisOK, all_nil, g_wide⟩

theorem g_lk19_0 : ∀ F, ((g_C19).ann.find? fun x => x.1 == firstId ((loopsOf (codeOf Go.Proofs.Try.f19)).getD 0 .skip)).map (·.2) = some F → LoopOK Go.Proofs.Try.prog ((loopsOf (codeOf Go.Proofs.Try.f19)).getD 0 .skip) F := by
  refine lookup_ok (show ((g_C19).ann.find? fun x => x.1 == firstId ((loopsOf (codeOf Go.Proofs.Try.f19)).getD 0 .skip)).map (·.2) = some g_F19_0 from by kernel_rfl) ?_
  exact loop_ok g_HC19 (loops_all 0 (by kernel_rfl) fun k hk => absurd hk (Nat.not_lt_zero k)) g_T19_0 [7] g_M19_0 g_P19_0 (fun x => rfl) g_D19_0
    (fun I v R K => g_L19_0_nat _ _ _ _ _ R K) g_E19_0 g_K19_0 (fun I p R K => rfl) (fun I v => by kernel_rfl)

/-- loop.example/g01924/spec.l33Count -/
noncomputable def g_S19 (e0 : (den Y29)) (scheme1 : Int) (state2 : Int) : Option (den (.prod .i .unit)) :=
  (iter (fun v => g_L19_0 scheme1 state2 e0 v.1 v.2 _ some) (0, 0)).bind fun q3 =>
  some (q3, ())

noncomputable def g_Ent19 : Ent := ⟨19, (.prod Y29 Y113), (.prod .i .unit), fun x => g_S19 x.1 x.2.1 x.2.2.1⟩

theorem g_VC19 : ∀ x : den (.prod Y29 Y113), vcall g_C19 Go.Proofs.Try.f19 (.prod Y29 Y113) (.prod .i .unit) x = g_S19 x.1 x.2.1 x.2.2.1 := fun x => by kernel_rfl

theorem g_OK19 : EntOK Go.Proofs.Try.prog g_Ent19 := EntOK.of_vcall g_HC19 Go.Proofs.Try.func19
  (body_loops (by kernel_rfl) (loops_all 1 (by kernel_rfl) (fun k hk => match k, hk with
    | 0, _ => g_lk19_0)))
  (by kernel_rfl) (by kernel_rfl) g_VC19

/-! ### loop.example/g01924/spec.AbortsBy -/

noncomputable def g_C7 : Cfg := ⟨g_tis, [g_Ent19], []⟩

theorem g_HC7 : CfgOK Go.Proofs.Try.prog g_C7 := ⟨info_ok g_tisOK, (all_cons g_OK19 all_nil), g_wide⟩

/-- loop.example/g01924/spec.AbortsBy -/
noncomputable def g_S7 (e0 : (den Y29)) (scheme1 : Int) : Option (den (.prod .i .unit)) :=
  (g_S19 e0 scheme1 3).bind fun r1 =>
  some (r1.1, ())

noncomputable def g_Ent7 : Ent := ⟨7, (.prod Y29 (.prod .i .unit)), (.prod .i .unit), fun x => g_S7 x.1 x.2.1⟩

theorem g_VC7 : ∀ x : den (.prod Y29 (.prod .i .unit)), vcall g_C7 Go.Proofs.Try.f7 (.prod Y29 (.prod .i .unit)) (.prod .i .unit) x = g_S7 x.1 x.2.1 := fun x => by kernel_rfl

theorem g_OK7 : EntOK Go.Proofs.Try.prog g_Ent7 := EntOK.of_vcall g_HC7 Go.Proofs.Try.func7
  (body_loops (by kernel_rfl) (loops_all 0 (by kernel_rfl) fun k hk => absurd hk (Nat.not_lt_zero k)))
  (by kernel_rfl) (by kernel_rfl) g_VC7

/-! ### loop.example/g01924/impl.countBy -/

noncomputable def g_L24_0 (state' : Int) (scheme' : Int) (x' : (List (den Y68))) (x_2' : Int) (count' : Int) (x_3' : Int) (R : Type) (K : (Int × Int) ⊕ ((Int)) → Option R) : Option R :=
  bif (decide (x_3' < x_2')) then
    (lAt x' x_3').bind fun e1 =>
    bif (e1.2.2.1 == state') then
      bif (e1.2.1 == scheme') then
        K (.inl ((IntKind.i64.wrap (count' + 1)), (IntKind.i64.wrap (x_3' + 1))))
      else
        K (.inl (count', (IntKind.i64.wrap (x_3' + 1))))
    else
      K (.inl (count', (IntKind.i64.wrap (x_3' + 1))))
  else
    K (.inr (count'))

theorem g_L24_0_nat (state' : Int) (scheme' : Int) (x' : (List (den Y68))) (x_2' : Int) (count' : Int) (x_3' : Int) (R : Type) (K : (Int × Int) ⊕ ((Int)) → Option R) : g_L24_0 state' scheme' x' x_2' count' x_3' R K = (g_L24_0 state' scheme' x' x_2' count' x_3' _ some).bind K := by
  unfold g_L24_0
  repeat' first | exact nat_none | exact nat_some | apply nat_bif | (refine nat_bind fun _ => ?_) | apply nat_ite | (refine nat_sum (fun _ => ?_) fun _ => ?_) | rfl

def g_T24_0 : Tmpl := ⟨(.junk (.slot .i (.slot .i (.junk (.junk (.junk (.junk (.slot .i (.junk (.junk (.junk (.slot (.slice Y68) (.slot .i (.slot .i (.junk (.junk (.junk (.junk (.junk (.junk (.junk (.junk (.junk (.junk (.junk (.junk (.junk (.junk (.junk (.junk (.junk .nil))))))))))))))))))))))))))))))), (.gone .nil)⟩

abbrev g_I24_0 : Type := Int × Int × (List (den Y68)) × Int
abbrev g_V24_0 : Type := Int × Int
abbrev g_X24_0 : Type := (Int)

def g_M24_0 : g_I24_0 → g_V24_0 → den g_T24_0.ty := fun I v => (I.1, I.2.1, v.1, I.2.2.1, I.2.2.2, v.2, ())

def g_P24_0 : den g_T24_0.ty → g_I24_0 × g_V24_0 := fun x => ((x.1, x.2.1, x.2.2.2.1, x.2.2.2.2.1), (x.2.2.1, x.2.2.2.2.2.1))

noncomputable def g_D24_0 : g_I24_0 → g_V24_0 → (R : Type) → ((g_V24_0 ⊕ g_X24_0) → Option R) → Option R := fun I v R K => g_L24_0 I.1 I.2.1 I.2.2.1 I.2.2.2 v.1 v.2 R K

def g_E24_0 : g_I24_0 → g_X24_0 → (R : Type) → (Ex → St → Option R) → Option R := fun I p R K => K (.exit 0) ⟨[.junk, .junk, .junk, .junk, .junk, .junk, .junk, (.pv .i p), .junk, .junk, .junk, .junk, .junk, .junk, .junk, .junk, .junk, .junk, .junk, .junk, .junk, .junk, .junk, .junk, .junk, .junk, .junk, .junk, .junk, .junk, .junk], [none]⟩

def g_K24_0 : g_I24_0 → g_X24_0 → Ex × St := fun I p => ((.exit 0), ⟨[.junk, .junk, .junk, .junk, .junk, .junk, .junk, (.pv .i p), .junk, .junk, .junk, .junk, .junk, .junk, .junk, .junk, .junk, .junk, .junk, .junk, .junk, .junk, .junk, .junk, .junk, .junk, .junk, .junk, .junk, .junk, .junk], [none]⟩)

noncomputable def g_F24_0 : LoopFn := fun s R K => (Tmpl.read g_T24_0 s).bind fun x => (iter (fun v => g_D24_0 (g_P24_0 x).1 v _ some) (g_P24_0 x).2).bind fun p => g_E24_0 (g_P24_0 x).1 p R K

noncomputable def g_C24 : Cfg := ⟨g_tis, [], [(3, g_F24_0)]⟩

theorem g_HC24 : CfgOK Go.Proofs.Try.prog g_C24 := ⟨info_ok g_tisOK, all_nil, g_wide⟩

theorem g_lk24_0 : ∀ F, ((g_C24).ann.find? fun x => x.1 == firstId ((loopsOf (codeOf Go.Proofs.Try.f24)).getD 0 .skip)).map (·.2) = some F → LoopOK Go.Proofs.Try.prog ((loopsOf (codeOf Go.Proofs.Try.f24)).getD 0 .skip) F := by
  refine lookup_ok (show ((g_C24).ann.find? fun x => x.1 == firstId ((loopsOf (codeOf Go.Proofs.Try.f24)).getD 0 .skip)).map (·.2) = some g_F24_0 from by kernel_rfl) ?_
  exact loop_ok g_HC24 (loops_all 0 (by kernel_rfl) fun k hk => absurd hk (Nat.not_lt_zero k)) g_T24_0 [7] g_M24_0 g_P24_0 (fun x => rfl) g_D24_0
    (fun I v R K => g_L24_0_nat _ _ _ _ _ _ R K) g_E24_0 g_K24_0 (fun I p R K => rfl) (fun I v => by kernel_rfl)

/-- loop.example/g01924/impl.countBy -/
noncomputable def g_S24 (e0 : (den Y29)) (state1 : Int) (scheme2 : Int) : Option (den (.prod .i .unit)) :=
  (iter (fun v => g_L24_0 state1 scheme2 e0.2.2.1 ((e0.2.2.1.length : Nat) : Int) v.1 v.2 _ some) (0, 0)).bind fun q2 =>
  some (q2, ())

noncomputable def g_Ent24 : Ent := ⟨24, (.prod Y29 Y113), (.prod .i .unit), fun x => g_S24 x.1 x.2.1 x.2.2.1⟩

theorem g_VC24 : ∀ x : den (.prod Y29 Y113), vcall g_C24 Go.Proofs.Try.f24 (.prod Y29 Y113) (.prod .i .unit) x = g_S24 x.1 x.2.1 x.2.2.1 := fun x => by kernel_rfl

theorem g_OK24 : EntOK Go.Proofs.Try.prog g_Ent24 := EntOK.of_vcall g_HC24 Go.Proofs.Try.func24
  (body_loops (by kernel_rfl) (loops_all 1 (by kernel_rfl) (fun k hk => match k, hk with
    | 0, _ => g_lk24_0)))
  (by kernel_rfl) (by kernel_rfl) g_VC24

/-! ### loop.example/g01924/impl.AbortsBy -/

noncomputable def g_C9 : Cfg := ⟨g_tis, [g_Ent24], []⟩

theorem g_HC9 : CfgOK Go.Proofs.Try.prog g_C9 := ⟨info_ok g_tisOK, (all_cons g_OK24 all_nil), g_wide⟩

/-- loop.example/g01924/impl.AbortsBy -/
noncomputable def g_S9 (e0 : (den Y29)) (scheme1 : Int) : Option (den (.prod .i .unit)) :=
  (g_S24 e0 3 scheme1).bind fun r1 =>
  some (r1.1, ())

noncomputable def g_Ent9 : Ent := ⟨9, (.prod Y29 (.prod .i .unit)), (.prod .i .unit), fun x => g_S9 x.1 x.2.1⟩

theorem g_VC9 : ∀ x : den (.prod Y29 (.prod .i .unit)), vcall g_C9 Go.Proofs.Try.f9 (.prod Y29 (.prod .i .unit)) (.prod .i .unit) x = g_S9 x.1 x.2.1 := fun x => by kernel_rfl

theorem g_OK9 : EntOK Go.Proofs.Try.prog g_Ent9 := EntOK.of_vcall g_HC9 Go.Proofs.Try.func9
  (body_loops (by kernel_rfl) (loops_all 0 (by kernel_rfl) fun k hk => absurd hk (Nat.not_lt_zero k)))
  (by kernel_rfl) (by kernel_rfl) g_VC9

/-! ### loop.example/g01924/laws.eqVersion -/

noncomputable def g_C86 : Cfg := ⟨g_tis, [], []⟩

theorem g_HC86 : CfgOK Go.Proofs.Try.prog g_C86 := ⟨info_ok g_tisOK, all_nil, g_wide⟩

/-- loop.example/g01924/laws.eqVersion -/
noncomputable def g_S86 (a0 : (den Y111)) (b1 : (den Y111)) : Option (den (.prod .bool .unit)) :=
  bif (a0.1 != b1.1) then
    some (false, ())
  else
    bif (a0.2.1 != b1.2.1) then
      some (false, ())
    else
      bif (a0.2.2.1 != b1.2.2.1) then
        some (false, ())
      else
        bif (a0.2.2.2.1 != b1.2.2.2.1) then
          some (false, ())
        else
          bif (a0.2.2.2.2.1 != b1.2.2.2.2.1) then
            some (false, ())
          else
            some (true, ())

noncomputable def g_Ent86 : Ent := ⟨86, (.prod Y111 (.prod Y111 .unit)), (.prod .bool .unit), fun x => g_S86 x.1 x.2.1⟩

theorem g_VC86 : ∀ x : den (.prod Y111 (.prod Y111 .unit)), vcall g_C86 Go.Proofs.Try.f86 (.prod Y111 (.prod Y111 .unit)) (.prod .bool .unit) x = g_S86 x.1 x.2.1 := fun x => by kernel_rfl

theorem g_OK86 : EntOK Go.Proofs.Try.prog g_Ent86 := EntOK.of_vcall g_HC86 Go.Proofs.Try.func86
  (body_loops (by kernel_rfl) (loops_all 0 (by kernel_rfl) fun k hk => absurd hk (Nat.not_lt_zero k)))
  (by kernel_rfl) (by kernel_rfl) g_VC86

/-! ### loop.example/g01924/laws.eqVersionS -/

noncomputable def g_L66_0 (a' : (List (den Y111))) (b' : (List (den Y111))) (i' : Int) (R : Type) (K : (Int) ⊕ ((Unit) ⊕ (Unit)) → Option R) : Option R :=
  bif (decide (i' < ((a'.length : Nat) : Int))) then
    (lAt a' i').bind fun e1 =>
    (lAt b' i').bind fun e2 =>
    (g_S86 e1 e2).bind fun r3 =>
    bif (!r3.1) then
      K (.inr (.inl ()))
    else
      K (.inl (IntKind.i64.wrap (i' + 1)))
  else
    K (.inr (.inr ()))

theorem g_L66_0_nat (a' : (List (den Y111))) (b' : (List (den Y111))) (i' : Int) (R : Type) (K : (Int) ⊕ ((Unit) ⊕ (Unit)) → Option R) : g_L66_0 a' b' i' R K = (g_L66_0 a' b' i' _ some).bind K := by
  unfold g_L66_0
  repeat' first | exact nat_none | exact nat_some | apply nat_bif | (refine nat_bind fun _ => ?_) | apply nat_ite | (refine nat_sum (fun _ => ?_) fun _ => ?_) | rfl

def g_T66_0 : Tmpl := ⟨(.slot (.slice Y111) (.slot (.slice Y111) (.junk (.junk (.junk (.slot .i (.junk (.junk (.junk (.junk (.junk (.junk (.junk (.junk (.junk (.junk (.junk (.junk (.junk (.junk (.junk (.junk (.junk (.junk (.junk (.junk (.junk .nil))))))))))))))))))))))))))), .nil⟩

abbrev g_I66_0 : Type := (List (den Y111)) × (List (den Y111))
abbrev g_V66_0 : Type := Int
abbrev g_X66_0 : Type := (Unit) ⊕ (Unit)

def g_M66_0 : g_I66_0 → g_V66_0 → den g_T66_0.ty := fun I v => (I.1, I.2, v, ())

def g_P66_0 : den g_T66_0.ty → g_I66_0 × g_V66_0 := fun x => ((x.1, x.2.1), x.2.2.1)

noncomputable def g_D66_0 : g_I66_0 → g_V66_0 → (R : Type) → ((g_V66_0 ⊕ g_X66_0) → Option R) → Option R := fun I v R K => g_L66_0 I.1 I.2 v R K

def g_E66_0 : g_I66_0 → g_X66_0 → (R : Type) → (Ex → St → Option R) → Option R := fun I p R K => sumC p (fun a => K .ret ⟨[.junk, .junk, .junk, .junk, (.pv .bool false), .junk, .junk, .junk, .junk, .junk, .junk, .junk, .junk, .junk, .junk, .junk, .junk, .junk, .junk, .junk, .junk, .junk, .junk, .junk, .junk, .junk, .junk], []⟩) (fun b => K (.exit 0) ⟨[.junk, .junk, .junk, .junk, .junk, .junk, .junk, .junk, .junk, .junk, .junk, .junk, .junk, .junk, .junk, .junk, .junk, .junk, .junk, .junk, .junk, .junk, .junk, .junk, .junk, .junk, .junk], []⟩)

def g_K66_0 : g_I66_0 → g_X66_0 → Ex × St := fun I p => sumC p (fun a => (.ret, ⟨[.junk, .junk, .junk, .junk, (.pv .bool false), .junk, .junk, .junk, .junk, .junk, .junk, .junk, .junk, .junk, .junk, .junk, .junk, .junk, .junk, .junk, .junk, .junk, .junk, .junk, .junk, .junk, .junk], []⟩)) (fun b => ((.exit 0), ⟨[.junk, .junk, .junk, .junk, .junk, .junk, .junk, .junk, .junk, .junk, .junk, .junk, .junk, .junk, .junk, .junk, .junk, .junk, .junk, .junk, .junk, .junk, .junk, .junk, .junk, .junk, .junk], []⟩))

noncomputable def g_F66_0 : LoopFn := fun s R K => (Tmpl.read g_T66_0 s).bind fun x => (iter (fun v => g_D66_0 (g_P66_0 x).1 v _ some) (g_P66_0 x).2).bind fun p => g_E66_0 (g_P66_0 x).1 p R K

noncomputable def g_C66 : Cfg := ⟨g_tis, [g_Ent86], [(4, g_F66_0)]⟩

theorem g_HC66 : CfgOK Go.Proofs.Try.prog g_C66 := ⟨info_ok g_tisOK, (all_cons g_OK86 all_nil), g_wide⟩

theorem g_lk66_0 : ∀ F, ((g_C66).ann.find? fun x => x.1 == firstId ((loopsOf (codeOf Go.Proofs.Try.f66)).getD 0 .skip)).map (·.2) = some F → LoopOK Go.Proofs.Try.prog ((loopsOf (codeOf Go.Proofs.Try.f66)).getD 0 .skip) F := by
  refine lookup_ok (show ((g_C66).ann.find? fun x => x.1 == firstId ((loopsOf (codeOf Go.Proofs.Try.f66)).getD 0 .skip)).map (·.2) = some g_F66_0 from by kernel_rfl) ?_
  exact loop_ok g_HC66 (loops_all 0 (by kernel_rfl) fun k hk => absurd hk (Nat.not_lt_zero k)) g_T66_0 [4] g_M66_0 g_P66_0 (fun x => rfl) g_D66_0
    (fun I v R K => g_L66_0_nat _ _ _ R K) g_E66_0 g_K66_0 (fun I p R K => by
      rcases p with p | p <;> rfl) (fun I v => by kernel_rfl)

/-- loop.example/g01924/laws.eqVersionS -/
noncomputable def g_S66 (a0 : (List (den Y111))) (b1 : (List (den Y111))) : Option (den (.prod .bool .unit)) :=
  bif (((a0.length : Nat) : Int) != ((b1.length : Nat) : Int)) then
    some (false, ())
  else
    (iter (fun v => g_L66_0 a0 b1 v _ some) (0)).bind fun q4 =>
    sumC q4
      (fun a5 =>
        some (false, ()))
      (fun b6 =>
        some (true, ()))

noncomputable def g_Ent66 : Ent := ⟨66, (.prod (.slice Y111) (.prod (.slice Y111) .unit)), (.prod .bool .unit), fun x => g_S66 x.1 x.2.1⟩

theorem g_VC66 : ∀ x : den (.prod (.slice Y111) (.prod (.slice Y111) .unit)), vcall g_C66 Go.Proofs.Try.f66 (.prod (.slice Y111) (.prod (.slice Y111) .unit)) (.prod .bool .unit) x = g_S66 x.1 x.2.1 := fun x => by kernel_rfl

theorem g_OK66 : EntOK Go.Proofs.Try.prog g_Ent66 := EntOK.of_vcall g_HC66 Go.Proofs.Try.func66
  (body_loops (by kernel_rfl) (loops_all 1 (by kernel_rfl) (fun k hk => match k, hk with
    | 0, _ => g_lk66_0)))
  (by kernel_rfl) (by kernel_rfl) g_VC66

/-! ### loop.example/g01924/laws.eqVersionSS -/

noncomputable def g_L37_0 (a' : (List (List (den Y111)))) (b' : (List (List (den Y111)))) (i' : Int) (R : Type) (K : (Int) ⊕ ((Unit) ⊕ (Unit)) → Option R) : Option R :=
  bif (decide (i' < ((a'.length : Nat) : Int))) then
    (lAt a' i').bind fun e1 =>
    (lAt b' i').bind fun e2 =>
    (g_S66 e1 e2).bind fun r3 =>
    bif (!r3.1) then
      K (.inr (.inl ()))
    else
      K (.inl (IntKind.i64.wrap (i' + 1)))
  else
    K (.inr (.inr ()))

theorem g_L37_0_nat (a' : (List (List (den Y111)))) (b' : (List (List (den Y111)))) (i' : Int) (R : Type) (K : (Int) ⊕ ((Unit) ⊕ (Unit)) → Option R) : g_L37_0 a' b' i' R K = (g_L37_0 a' b' i' _ some).bind K := by
  unfold g_L37_0
  repeat' first | exact nat_none | exact nat_some | apply nat_bif | (refine nat_bind fun _ => ?_) | apply nat_ite | (refine nat_sum (fun _ => ?_) fun _ => ?_) | rfl

def g_T37_0 : Tmpl := ⟨(.slot (.slice (.slice Y111)) (.slot (.slice (.slice Y111)) (.junk (.junk (.junk (.slot .i (.junk (.junk (.junk (.junk (.junk (.junk (.junk (.junk (.junk (.junk (.junk (.junk (.junk (.junk (.junk (.junk (.junk (.junk (.junk (.junk (.junk .nil))))))))))))))))))))))))))), .nil⟩

abbrev g_I37_0 : Type := (List (List (den Y111))) × (List (List (den Y111)))
abbrev g_V37_0 : Type := Int
abbrev g_X37_0 : Type := (Unit) ⊕ (Unit)

def g_M37_0 : g_I37_0 → g_V37_0 → den g_T37_0.ty := fun I v => (I.1, I.2, v, ())

def g_P37_0 : den g_T37_0.ty → g_I37_0 × g_V37_0 := fun x => ((x.1, x.2.1), x.2.2.1)

noncomputable def g_D37_0 : g_I37_0 → g_V37_0 → (R : Type) → ((g_V37_0 ⊕ g_X37_0) → Option R) → Option R := fun I v R K => g_L37_0 I.1 I.2 v R K

def g_E37_0 : g_I37_0 → g_X37_0 → (R : Type) → (Ex → St → Option R) → Option R := fun I p R K => sumC p (fun a => K .ret ⟨[.junk, .junk, .junk, .junk, (.pv .bool false), .junk, .junk, .junk, .junk, .junk, .junk, .junk, .junk, .junk, .junk, .junk, .junk, .junk, .junk, .junk, .junk, .junk, .junk, .junk, .junk, .junk, .junk], []⟩) (fun b => K (.exit 0) ⟨[.junk, .junk, .junk, .junk, .junk, .junk, .junk, .junk, .junk, .junk, .junk, .junk, .junk, .junk, .junk, .junk, .junk, .junk, .junk, .junk, .junk, .junk, .junk, .junk, .junk, .junk, .junk], []⟩)

def g_K37_0 : g_I37_0 → g_X37_0 → Ex × St := fun I p => sumC p (fun a => (.ret, ⟨[.junk, .junk, .junk, .junk, (.pv .bool false), .junk, .junk, .junk, .junk, .junk, .junk, .junk, .junk, .junk, .junk, .junk, .junk, .junk, .junk, .junk, .junk, .junk, .junk, .junk, .junk, .junk, .junk], []⟩)) (fun b => ((.exit 0), ⟨[.junk, .junk, .junk, .junk, .junk, .junk, .junk, .junk, .junk, .junk, .junk, .junk, .junk, .junk, .junk, .junk, .junk, .junk, .junk, .junk, .junk, .junk, .junk, .junk, .junk, .junk, .junk], []⟩))

noncomputable def g_F37_0 : LoopFn := fun s R K => (Tmpl.read g_T37_0 s).bind fun x => (iter (fun v => g_D37_0 (g_P37_0 x).1 v _ some) (g_P37_0 x).2).bind fun p => g_E37_0 (g_P37_0 x).1 p R K

noncomputable def g_C37 : Cfg := ⟨g_tis, [g_Ent66], [(4, g_F37_0)]⟩

theorem g_HC37 : CfgOK Go.Proofs.Try.prog g_C37 := ⟨info_ok g_tisOK, (all_cons g_OK66 all_nil), g_wide⟩

theorem g_lk37_0 : ∀ F, ((g_C37).ann.find? fun x => x.1 == firstId ((loopsOf (codeOf Go.Proofs.Try.f37)).getD 0 .skip)).map (·.2) = some F → LoopOK Go.Proofs.Try.prog ((loopsOf (codeOf Go.Proofs.Try.f37)).getD 0 .skip) F := by
  refine lookup_ok (show ((g_C37).ann.find? fun x => x.1 == firstId ((loopsOf (codeOf Go.Proofs.Try.f37)).getD 0 .skip)).map (·.2) = some g_F37_0 from by kernel_rfl) ?_
  exact loop_ok g_HC37 (loops_all 0 (by kernel_rfl) fun k hk => absurd hk (Nat.not_lt_zero k)) g_T37_0 [4] g_M37_0 g_P37_0 (fun x => rfl) g_D37_0
    (fun I v R K => g_L37_0_nat _ _ _ R K) g_E37_0 g_K37_0 (fun I p R K => by
      rcases p with p | p <;> rfl) (fun I v => by kernel_rfl)

/-- loop.example/g01924/laws.eqVersionSS -/
noncomputable def g_S37 (a0 : (List (List (den Y111)))) (b1 : (List (List (den Y111)))) : Option (den (.prod .bool .unit)) :=
  bif (((a0.length : Nat) : Int) != ((b1.length : Nat) : Int)) then
    some (false, ())
  else
    (iter (fun v => g_L37_0 a0 b1 v _ some) (0)).bind fun q4 =>
    sumC q4
      (fun a5 =>
        some (false, ()))
      (fun b6 =>
        some (true, ()))

noncomputable def g_Ent37 : Ent := ⟨37, (.prod (.slice (.slice Y111)) Y24), (.prod .bool .unit), fun x => g_S37 x.1 x.2.1⟩

theorem g_VC37 : ∀ x : den (.prod (.slice (.slice Y111)) Y24), vcall g_C37 Go.Proofs.Try.f37 (.prod (.slice (.slice Y111)) Y24) (.prod .bool .unit) x = g_S37 x.1 x.2.1 := fun x => by kernel_rfl

theorem g_OK37 : EntOK Go.Proofs.Try.prog g_Ent37 := EntOK.of_vcall g_HC37 Go.Proofs.Try.func37
  (body_loops (by kernel_rfl) (loops_all 1 (by kernel_rfl) (fun k hk => match k, hk with
    | 0, _ => g_lk37_0)))
  (by kernel_rfl) (by kernel_rfl) g_VC37

/-! ### loop.example/g01924/laws.eqStore -/

noncomputable def g_C25 : Cfg := ⟨g_tis, [g_Ent37], []⟩

theorem g_HC25 : CfgOK Go.Proofs.Try.prog g_C25 := ⟨info_ok g_tisOK, (all_cons g_OK37 all_nil), g_wide⟩

/-- loop.example/g01924/laws.eqStore -/
noncomputable def g_S25 (a0 : (den Y24)) (b1 : (den Y24)) : Option (den (.prod .bool .unit)) :=
  (g_S37 a0.1 b1.1).bind fun r1 =>
  bif (!r1.1) then
    some (false, ())
  else
    some (true, ())

noncomputable def g_Ent25 : Ent := ⟨25, (.prod Y24 (.prod Y24 .unit)), (.prod .bool .unit), fun x => g_S25 x.1 x.2.1⟩

theorem g_VC25 : ∀ x : den (.prod Y24 (.prod Y24 .unit)), vcall g_C25 Go.Proofs.Try.f25 (.prod Y24 (.prod Y24 .unit)) (.prod .bool .unit) x = g_S25 x.1 x.2.1 := fun x => by kernel_rfl

theorem g_OK25 : EntOK Go.Proofs.Try.prog g_Ent25 := EntOK.of_vcall g_HC25 Go.Proofs.Try.func25
  (body_loops (by kernel_rfl) (loops_all 0 (by kernel_rfl) fun k hk => absurd hk (Nat.not_lt_zero k)))
  (by kernel_rfl) (by kernel_rfl) g_VC25

/-! ### loop.example/g01924/laws.eqReadMark -/

noncomputable def g_C87 : Cfg := ⟨g_tis, [], []⟩

theorem g_HC87 : CfgOK Go.Proofs.Try.prog g_C87 := ⟨info_ok g_tisOK, all_nil, g_wide⟩

/-- loop.example/g01924/laws.eqReadMark -/
noncomputable def g_S87 (a0 : (den Y113)) (b1 : (den Y113)) : Option (den (.prod .bool .unit)) :=
  bif (a0.1 != b1.1) then
    some (false, ())
  else
    bif (a0.2.1 != b1.2.1) then
      some (false, ())
    else
      some (true, ())

noncomputable def g_Ent87 : Ent := ⟨87, (.prod Y113 (.prod Y113 .unit)), (.prod .bool .unit), fun x => g_S87 x.1 x.2.1⟩

theorem g_VC87 : ∀ x : den (.prod Y113 (.prod Y113 .unit)), vcall g_C87 Go.Proofs.Try.f87 (.prod Y113 (.prod Y113 .unit)) (.prod .bool .unit) x = g_S87 x.1 x.2.1 := fun x => by kernel_rfl

theorem g_OK87 : EntOK Go.Proofs.Try.prog g_Ent87 := EntOK.of_vcall g_HC87 Go.Proofs.Try.func87
  (body_loops (by kernel_rfl) (loops_all 0 (by kernel_rfl) fun k hk => absurd hk (Nat.not_lt_zero k)))
  (by kernel_rfl) (by kernel_rfl) g_VC87

/-! ### loop.example/g01924/laws.eqReadMarkS -/

noncomputable def g_L67_0 (a' : (List (den Y113))) (b' : (List (den Y113))) (i' : Int) (R : Type) (K : (Int) ⊕ ((Unit) ⊕ (Unit)) → Option R) : Option R :=
  bif (decide (i' < ((a'.length : Nat) : Int))) then
    (lAt a' i').bind fun e1 =>
    (lAt b' i').bind fun e2 =>
    (g_S87 e1 e2).bind fun r3 =>
    bif (!r3.1) then
      K (.inr (.inl ()))
    else
      K (.inl (IntKind.i64.wrap (i' + 1)))
  else
    K (.inr (.inr ()))

theorem g_L67_0_nat (a' : (List (den Y113))) (b' : (List (den Y113))) (i' : Int) (R : Type) (K : (Int) ⊕ ((Unit) ⊕ (Unit)) → Option R) : g_L67_0 a' b' i' R K = (g_L67_0 a' b' i' _ some).bind K := by
  unfold g_L67_0
  repeat' first | exact nat_none | exact nat_some | apply nat_bif | (refine nat_bind fun _ => ?_) | apply nat_ite | (refine nat_sum (fun _ => ?_) fun _ => ?_) | rfl

def g_T67_0 : Tmpl := ⟨(.slot (.slice Y113) (.slot (.slice Y113) (.junk (.junk (.junk (.slot .i (.junk (.junk (.junk (.junk (.junk (.junk (.junk (.junk (.junk (.junk (.junk (.junk (.junk (.junk (.junk (.junk (.junk (.junk (.junk (.junk (.junk .nil))))))))))))))))))))))))))), .nil⟩

abbrev g_I67_0 : Type := (List (den Y113)) × (List (den Y113))
abbrev g_V67_0 : Type := Int
abbrev g_X67_0 : Type := (Unit) ⊕ (Unit)

def g_M67_0 : g_I67_0 → g_V67_0 → den g_T67_0.ty := fun I v => (I.1, I.2, v, ())

def g_P67_0 : den g_T67_0.ty → g_I67_0 × g_V67_0 := fun x => ((x.1, x.2.1), x.2.2.1)

noncomputable def g_D67_0 : g_I67_0 → g_V67_0 → (R : Type) → ((g_V67_0 ⊕ g_X67_0) → Option R) → Option R := fun I v R K => g_L67_0 I.1 I.2 v R K

def g_E67_0 : g_I67_0 → g_X67_0 → (R : Type) → (Ex → St → Option R) → Option R := fun I p R K => sumC p (fun a => K .ret ⟨[.junk, .junk, .junk, .junk, (.pv .bool false), .junk, .junk, .junk, .junk, .junk, .junk, .junk, .junk, .junk, .junk, .junk, .junk, .junk, .junk, .junk, .junk, .junk, .junk, .junk, .junk, .junk, .junk], []⟩) (fun b => K (.exit 0) ⟨[.junk, .junk, .junk, .junk, .junk, .junk, .junk, .junk, .junk, .junk, .junk, .junk, .junk, .junk, .junk, .junk, .junk, .junk, .junk, .junk, .junk, .junk, .junk, .junk, .junk, .junk, .junk], []⟩)

def g_K67_0 : g_I67_0 → g_X67_0 → Ex × St := fun I p => sumC p (fun a => (.ret, ⟨[.junk, .junk, .junk, .junk, (.pv .bool false), .junk, .junk, .junk, .junk, .junk, .junk, .junk, .junk, .junk, .junk, .junk, .junk, .junk, .junk, .junk, .junk, .junk, .junk, .junk, .junk, .junk, .junk], []⟩)) (fun b => ((.exit 0), ⟨[.junk, .junk, .junk, .junk, .junk, .junk, .junk, .junk, .junk, .junk, .junk, .junk, .junk, .junk, .junk, .junk, .junk, .junk, .junk, .junk, .junk, .junk, .junk, .junk, .junk, .junk, .junk], []⟩))

noncomputable def g_F67_0 : LoopFn := fun s R K => (Tmpl.read g_T67_0 s).bind fun x => (iter (fun v => g_D67_0 (g_P67_0 x).1 v _ some) (g_P67_0 x).2).bind fun p => g_E67_0 (g_P67_0 x).1 p R K

noncomputable def g_C67 : Cfg := ⟨g_tis, [g_Ent87], [(4, g_F67_0)]⟩

theorem g_HC67 : CfgOK Go.Proofs.Try.prog g_C67 := ⟨info_ok g_tisOK, (all_cons g_OK87 all_nil), g_wide⟩

theorem g_lk67_0 : ∀ F, ((g_C67).ann.find? fun x => x.1 == firstId ((loopsOf (codeOf Go.Proofs.Try.f67)).getD 0 .skip)).map (·.2) = some F → LoopOK Go.Proofs.Try.prog ((loopsOf (codeOf Go.Proofs.Try.f67)).getD 0 .skip) F := by
  refine lookup_ok (show ((g_C67).ann.find? fun x => x.1 == firstId ((loopsOf (codeOf Go.Proofs.Try.f67)).getD 0 .skip)).map (·.2) = some g_F67_0 from by kernel_rfl) ?_
  exact loop_ok g_HC67 (loops_all 0 (by kernel_rfl) fun k hk => absurd hk (Nat.not_lt_zero k)) g_T67_0 [4] g_M67_0 g_P67_0 (fun x => rfl) g_D67_0
    (fun I v R K => g_L67_0_nat _ _ _ R K) g_E67_0 g_K67_0 (fun I p R K => by
      rcases p with p | p <;> rfl) (fun I v => by kernel_rfl)

/-- loop.example/g01924/laws.eqReadMarkS -/
noncomputable def g_S67 (a0 : (List (den Y113))) (b1 : (List (den Y113))) : Option (den (.prod .bool .unit)) :=
  bif (((a0.length : Nat) : Int) != ((b1.length : Nat) : Int)) then
    some (false, ())
  else
    (iter (fun v => g_L67_0 a0 b1 v _ some) (0)).bind fun q4 =>
    sumC q4
      (fun a5 =>
        some (false, ()))
      (fun b6 =>
        some (true, ()))

noncomputable def g_Ent67 : Ent := ⟨67, (.prod (.slice Y113) (.prod (.slice Y113) .unit)), (.prod .bool .unit), fun x => g_S67 x.1 x.2.1⟩

theorem g_VC67 : ∀ x : den (.prod (.slice Y113) (.prod (.slice Y113) .unit)), vcall g_C67 Go.Proofs.Try.f67 (.prod (.slice Y113) (.prod (.slice Y113) .unit)) (.prod .bool .unit) x = g_S67 x.1 x.2.1 := fun x => by kernel_rfl

theorem g_OK67 : EntOK Go.Proofs.Try.prog g_Ent67 := EntOK.of_vcall g_HC67 Go.Proofs.Try.func67
  (body_loops (by kernel_rfl) (loops_all 1 (by kernel_rfl) (fun k hk => match k, hk with
    | 0, _ => g_lk67_0)))
  (by kernel_rfl) (by kernel_rfl) g_VC67

/-! ### loop.example/g01924/laws.eqWrite -/

noncomputable def g_C88 : Cfg := ⟨g_tis, [], []⟩

theorem g_HC88 : CfgOK Go.Proofs.Try.prog g_C88 := ⟨info_ok g_tisOK, all_nil, g_wide⟩

/-- loop.example/g01924/laws.eqWrite -/
noncomputable def g_S88 (a0 : (den Y113)) (b1 : (den Y113)) : Option (den (.prod .bool .unit)) :=
  bif (a0.1 != b1.1) then
    some (false, ())
  else
    bif (a0.2.1 != b1.2.1) then
      some (false, ())
    else
      some (true, ())

noncomputable def g_Ent88 : Ent := ⟨88, (.prod Y113 (.prod Y113 .unit)), (.prod .bool .unit), fun x => g_S88 x.1 x.2.1⟩

theorem g_VC88 : ∀ x : den (.prod Y113 (.prod Y113 .unit)), vcall g_C88 Go.Proofs.Try.f88 (.prod Y113 (.prod Y113 .unit)) (.prod .bool .unit) x = g_S88 x.1 x.2.1 := fun x => by kernel_rfl

theorem g_OK88 : EntOK Go.Proofs.Try.prog g_Ent88 := EntOK.of_vcall g_HC88 Go.Proofs.Try.func88
  (body_loops (by kernel_rfl) (loops_all 0 (by kernel_rfl) fun k hk => absurd hk (Nat.not_lt_zero k)))
  (by kernel_rfl) (by kernel_rfl) g_VC88

/-! ### loop.example/g01924/laws.eqWriteS -/

noncomputable def g_L68_0 (a' : (List (den Y113))) (b' : (List (den Y113))) (i' : Int) (R : Type) (K : (Int) ⊕ ((Unit) ⊕ (Unit)) → Option R) : Option R :=
  bif (decide (i' < ((a'.length : Nat) : Int))) then
    (lAt a' i').bind fun e1 =>
    (lAt b' i').bind fun e2 =>
    (g_S88 e1 e2).bind fun r3 =>
    bif (!r3.1) then
      K (.inr (.inl ()))
    else
      K (.inl (IntKind.i64.wrap (i' + 1)))
  else
    K (.inr (.inr ()))

theorem g_L68_0_nat (a' : (List (den Y113))) (b' : (List (den Y113))) (i' : Int) (R : Type) (K : (Int) ⊕ ((Unit) ⊕ (Unit)) → Option R) : g_L68_0 a' b' i' R K = (g_L68_0 a' b' i' _ some).bind K := by
  unfold g_L68_0
  repeat' first | exact nat_none | exact nat_some | apply nat_bif | (refine nat_bind fun _ => ?_) | apply nat_ite | (refine nat_sum (fun _ => ?_) fun _ => ?_) | rfl

def g_T68_0 : Tmpl := ⟨(.slot (.slice Y113) (.slot (.slice Y113) (.junk (.junk (.junk (.slot .i (.junk (.junk (.junk (.junk (.junk (.junk (.junk (.junk (.junk (.junk (.junk (.junk (.junk (.junk (.junk (.junk (.junk (.junk (.junk (.junk (.junk .nil))))))))))))))))))))))))))), .nil⟩

abbrev g_I68_0 : Type := (List (den Y113)) × (List (den Y113))
abbrev g_V68_0 : Type := Int
abbrev g_X68_0 : Type := (Unit) ⊕ (Unit)

def g_M68_0 : g_I68_0 → g_V68_0 → den g_T68_0.ty := fun I v => (I.1, I.2, v, ())

def g_P68_0 : den g_T68_0.ty → g_I68_0 × g_V68_0 := fun x => ((x.1, x.2.1), x.2.2.1)

noncomputable def g_D68_0 : g_I68_0 → g_V68_0 → (R : Type) → ((g_V68_0 ⊕ g_X68_0) → Option R) → Option R := fun I v R K => g_L68_0 I.1 I.2 v R K

def g_E68_0 : g_I68_0 → g_X68_0 → (R : Type) → (Ex → St → Option R) → Option R := fun I p R K => sumC p (fun a => K .ret ⟨[.junk, .junk, .junk, .junk, (.pv .bool false), .junk, .junk, .junk, .junk, .junk, .junk, .junk, .junk, .junk, .junk, .junk, .junk, .junk, .junk, .junk, .junk, .junk, .junk, .junk, .junk, .junk, .junk], []⟩) (fun b => K (.exit 0) ⟨[.junk, .junk, .junk, .junk, .junk, .junk, .junk, .junk, .junk, .junk, .junk, .junk, .junk, .junk, .junk, .junk, .junk, .junk, .junk, .junk, .junk, .junk, .junk, .junk, .junk, .junk, .junk], []⟩)

def g_K68_0 : g_I68_0 → g_X68_0 → Ex × St := fun I p => sumC p (fun a => (.ret, ⟨[.junk, .junk, .junk, .junk, (.pv .bool false), .junk, .junk, .junk, .junk, .junk, .junk, .junk, .junk, .junk, .junk, .junk, .junk, .junk, .junk, .junk, .junk, .junk, .junk, .junk, .junk, .junk, .junk], []⟩)) (fun b => ((.exit 0), ⟨[.junk, .junk, .junk, .junk, .junk, .junk, .junk, .junk, .junk, .junk, .junk, .junk, .junk, .junk, .junk, .junk, .junk, .junk, .junk, .junk, .junk, .junk, .junk, .junk, .junk, .junk, .junk], []⟩))

noncomputable def g_F68_0 : LoopFn := fun s R K => (Tmpl.read g_T68_0 s).bind fun x => (iter (fun v => g_D68_0 (g_P68_0 x).1 v _ some) (g_P68_0 x).2).bind fun p => g_E68_0 (g_P68_0 x).1 p R K

noncomputable def g_C68 : Cfg := ⟨g_tis, [g_Ent88], [(4, g_F68_0)]⟩

theorem g_HC68 : CfgOK Go.Proofs.Try.prog g_C68 := ⟨info_ok g_tisOK, (all_cons g_OK88 all_nil), g_wide⟩

theorem g_lk68_0 : ∀ F, ((g_C68).ann.find? fun x => x.1 == firstId ((loopsOf (codeOf Go.Proofs.Try.f68)).getD 0 .skip)).map (·.2) = some F → LoopOK Go.Proofs.Try.prog ((loopsOf (codeOf Go.Proofs.Try.f68)).getD 0 .skip) F := by
  refine lookup_ok (show ((g_C68).ann.find? fun x => x.1 == firstId ((loopsOf (codeOf Go.Proofs.Try.f68)).getD 0 .skip)).map (·.2) = some g_F68_0 from by kernel_rfl) ?_
  exact loop_ok g_HC68 (loops_all 0 (by kernel_rfl) fun k hk => absurd hk (Nat.not_lt_zero k)) g_T68_0 [4] g_M68_0 g_P68_0 (fun x => rfl) g_D68_0
    (fun I v R K => g_L68_0_nat _ _ _ R K) g_E68_0 g_K68_0 (fun I p R K => by
      rcases p with p | p <;> rfl) (fun I v => by kernel_rfl)

/-- loop.example/g01924/laws.eqWriteS -/
noncomputable def g_S68 (a0 : (List (den Y113))) (b1 : (List (den Y113))) : Option (den (.prod .bool .unit)) :=
  bif (((a0.length : Nat) : Int) != ((b1.length : Nat) : Int)) then
    some (false, ())
  else
    (iter (fun v => g_L68_0 a0 b1 v _ some) (0)).bind fun q4 =>
    sumC q4
      (fun a5 =>
        some (false, ()))
      (fun b6 =>
        some (true, ()))

noncomputable def g_Ent68 : Ent := ⟨68, (.prod (.slice Y113) (.prod (.slice Y113) .unit)), (.prod .bool .unit), fun x => g_S68 x.1 x.2.1⟩

theorem g_VC68 : ∀ x : den (.prod (.slice Y113) (.prod (.slice Y113) .unit)), vcall g_C68 Go.Proofs.Try.f68 (.prod (.slice Y113) (.prod (.slice Y113) .unit)) (.prod .bool .unit) x = g_S68 x.1 x.2.1 := fun x => by kernel_rfl

theorem g_OK68 : EntOK Go.Proofs.Try.prog g_Ent68 := EntOK.of_vcall g_HC68 Go.Proofs.Try.func68
  (body_loops (by kernel_rfl) (loops_all 1 (by kernel_rfl) (fun k hk => match k, hk with
    | 0, _ => g_lk68_0)))
  (by kernel_rfl) (by kernel_rfl) g_VC68

/-! ### loop.example/g01924/laws.eqTransaction -/

noncomputable def g_C38 : Cfg := ⟨g_tis, [g_Ent67, g_Ent68], []⟩

theorem g_HC38 : CfgOK Go.Proofs.Try.prog g_C38 := ⟨info_ok g_tisOK, (all_cons g_OK67 (all_cons g_OK68 all_nil)), g_wide⟩

/-- loop.example/g01924/laws.eqTransaction -/
noncomputable def g_S38 (a0 : (den Y68)) (b1 : (den Y68)) : Option (den (.prod .bool .unit)) :=
  bif (a0.1 != b1.1) then
    some (false, ())
  else
    bif (a0.2.1 != b1.2.1) then
      some (false, ())
    else
      bif (a0.2.2.1 != b1.2.2.1) then
        some (false, ())
      else
        bif (a0.2.2.2.1 != b1.2.2.2.1) then
          some (false, ())
        else
          bif (a0.2.2.2.2.1 != b1.2.2.2.2.1) then
            some (false, ())
          else
            bif (a0.2.2.2.2.2.1 != b1.2.2.2.2.2.1) then
              some (false, ())
            else
              bif (a0.2.2.2.2.2.2.1 != b1.2.2.2.2.2.2.1) then
                some (false, ())
              else
                (g_S67 a0.2.2.2.2.2.2.2.1 b1.2.2.2.2.2.2.2.1).bind fun r1 =>
                bif (!r1.1) then
                  some (false, ())
                else
                  (g_S68 a0.2.2.2.2.2.2.2.2.1 b1.2.2.2.2.2.2.2.2.1).bind fun r2 =>
                  bif (!r2.1) then
                    some (false, ())
                  else
                    some (true, ())

noncomputable def g_Ent38 : Ent := ⟨38, (.prod Y68 (.prod Y68 .unit)), (.prod .bool .unit), fun x => g_S38 x.1 x.2.1⟩

theorem g_VC38 : ∀ x : den (.prod Y68 (.prod Y68 .unit)), vcall g_C38 Go.Proofs.Try.f38 (.prod Y68 (.prod Y68 .unit)) (.prod .bool .unit) x = g_S38 x.1 x.2.1 := fun x => by kernel_rfl

theorem g_OK38 : EntOK Go.Proofs.Try.prog g_Ent38 := EntOK.of_vcall g_HC38 Go.Proofs.Try.func38
  (body_loops (by kernel_rfl) (loops_all 0 (by kernel_rfl) fun k hk => absurd hk (Nat.not_lt_zero k)))
  (by kernel_rfl) (by kernel_rfl) g_VC38

/-! ### loop.example/g01924/laws.eqTransactionS -/

noncomputable def g_L26_0 (a' : (List (den Y68))) (b' : (List (den Y68))) (i' : Int) (R : Type) (K : (Int) ⊕ ((Unit) ⊕ (Unit)) → Option R) : Option R :=
  bif (decide (i' < ((a'.length : Nat) : Int))) then
    (lAt a' i').bind fun e1 =>
    (lAt b' i').bind fun e2 =>
    (g_S38 e1 e2).bind fun r3 =>
    bif (!r3.1) then
      K (.inr (.inl ()))
    else
      K (.inl (IntKind.i64.wrap (i' + 1)))
  else
    K (.inr (.inr ()))

theorem g_L26_0_nat (a' : (List (den Y68))) (b' : (List (den Y68))) (i' : Int) (R : Type) (K : (Int) ⊕ ((Unit) ⊕ (Unit)) → Option R) : g_L26_0 a' b' i' R K = (g_L26_0 a' b' i' _ some).bind K := by
  unfold g_L26_0
  repeat' first | exact nat_none | exact nat_some | apply nat_bif | (refine nat_bind fun _ => ?_) | apply nat_ite | (refine nat_sum (fun _ => ?_) fun _ => ?_) | rfl

def g_T26_0 : Tmpl := ⟨(.slot (.slice Y68) (.slot (.slice Y68) (.junk (.junk (.junk (.slot .i (.junk (.junk (.junk (.junk (.junk (.junk (.junk (.junk (.junk (.junk (.junk (.junk (.junk (.junk (.junk (.junk (.junk (.junk (.junk (.junk (.junk .nil))))))))))))))))))))))))))), .nil⟩

abbrev g_I26_0 : Type := (List (den Y68)) × (List (den Y68))
abbrev g_V26_0 : Type := Int
abbrev g_X26_0 : Type := (Unit) ⊕ (Unit)

def g_M26_0 : g_I26_0 → g_V26_0 → den g_T26_0.ty := fun I v => (I.1, I.2, v, ())

def g_P26_0 : den g_T26_0.ty → g_I26_0 × g_V26_0 := fun x => ((x.1, x.2.1), x.2.2.1)

noncomputable def g_D26_0 : g_I26_0 → g_V26_0 → (R : Type) → ((g_V26_0 ⊕ g_X26_0) → Option R) → Option R := fun I v R K => g_L26_0 I.1 I.2 v R K

def g_E26_0 : g_I26_0 → g_X26_0 → (R : Type) → (Ex → St → Option R) → Option R := fun I p R K => sumC p (fun a => K .ret ⟨[.junk, .junk, .junk, .junk, (.pv .bool false), .junk, .junk, .junk, .junk, .junk, .junk, .junk, .junk, .junk, .junk, .junk, .junk, .junk, .junk, .junk, .junk, .junk, .junk, .junk, .junk, .junk, .junk], []⟩) (fun b => K (.exit 0) ⟨[.junk, .junk, .junk, .junk, .junk, .junk, .junk, .junk, .junk, .junk, .junk, .junk, .junk, .junk, .junk, .junk, .junk, .junk, .junk, .junk, .junk, .junk, .junk, .junk, .junk, .junk, .junk], []⟩)

def g_K26_0 : g_I26_0 → g_X26_0 → Ex × St := fun I p => sumC p (fun a => (.ret, ⟨[.junk, .junk, .junk, .junk, (.pv .bool false), .junk, .junk, .junk, .junk, .junk, .junk, .junk, .junk, .junk, .junk, .junk, .junk, .junk, .junk, .junk, .junk, .junk, .junk, .junk, .junk, .junk, .junk], []⟩)) (fun b => ((.exit 0), ⟨[.junk, .junk, .junk, .junk, .junk, .junk, .junk, .junk, .junk, .junk, .junk, .junk, .junk, .junk, .junk, .junk, .junk, .junk, .junk, .junk, .junk, .junk, .junk, .junk, .junk, .junk, .junk], []⟩))

noncomputable def g_F26_0 : LoopFn := fun s R K => (Tmpl.read g_T26_0 s).bind fun x => (iter (fun v => g_D26_0 (g_P26_0 x).1 v _ some) (g_P26_0 x).2).bind fun p => g_E26_0 (g_P26_0 x).1 p R K

noncomputable def g_C26 : Cfg := ⟨g_tis, [g_Ent38], [(4, g_F26_0)]⟩

theorem g_HC26 : CfgOK Go.Proofs.Try.prog g_C26 := ⟨info_ok g_tisOK, (all_cons g_OK38 all_nil), g_wide⟩

theorem g_lk26_0 : ∀ F, ((g_C26).ann.find? fun x => x.1 == firstId ((loopsOf (codeOf Go.Proofs.Try.f26)).getD 0 .skip)).map (·.2) = some F → LoopOK Go.Proofs.Try.prog ((loopsOf (codeOf Go.Proofs.Try.f26)).getD 0 .skip) F := by
  refine lookup_ok (show ((g_C26).ann.find? fun x => x.1 == firstId ((loopsOf (codeOf Go.Proofs.Try.f26)).getD 0 .skip)).map (·.2) = some g_F26_0 from by kernel_rfl) ?_
  exact loop_ok g_HC26 (loops_all 0 (by kernel_rfl) fun k hk => absurd hk (Nat.not_lt_zero k)) g_T26_0 [4] g_M26_0 g_P26_0 (fun x => rfl) g_D26_0
    (fun I v R K => g_L26_0_nat _ _ _ R K) g_E26_0 g_K26_0 (fun I p R K => by
      rcases p with p | p <;> rfl) (fun I v => by kernel_rfl)

/-- loop.example/g01924/laws.eqTransactionS -/
noncomputable def g_S26 (a0 : (List (den Y68))) (b1 : (List (den Y68))) : Option (den (.prod .bool .unit)) :=
  bif (((a0.length : Nat) : Int) != ((b1.length : Nat) : Int)) then
    some (false, ())
  else
    (iter (fun v => g_L26_0 a0 b1 v _ some) (0)).bind fun q4 =>
    sumC q4
      (fun a5 =>
        some (false, ()))
      (fun b6 =>
        some (true, ()))

noncomputable def g_Ent26 : Ent := ⟨26, (.prod (.slice Y68) (.prod (.slice Y68) .unit)), (.prod .bool .unit), fun x => g_S26 x.1 x.2.1⟩

theorem g_VC26 : ∀ x : den (.prod (.slice Y68) (.prod (.slice Y68) .unit)), vcall g_C26 Go.Proofs.Try.f26 (.prod (.slice Y68) (.prod (.slice Y68) .unit)) (.prod .bool .unit) x = g_S26 x.1 x.2.1 := fun x => by kernel_rfl

theorem g_OK26 : EntOK Go.Proofs.Try.prog g_Ent26 := EntOK.of_vcall g_HC26 Go.Proofs.Try.func26
  (body_loops (by kernel_rfl) (loops_all 1 (by kernel_rfl) (fun k hk => match k, hk with
    | 0, _ => g_lk26_0)))
  (by kernel_rfl) (by kernel_rfl) g_VC26

/-! ### loop.example/g01924/laws.eqLock -/

noncomputable def g_C39 : Cfg := ⟨g_tis, [], []⟩

theorem g_HC39 : CfgOK Go.Proofs.Try.prog g_C39 := ⟨info_ok g_tisOK, all_nil, g_wide⟩

/-- loop.example/g01924/laws.eqLock -/
noncomputable def g_S39 (a0 : (den Y113)) (b1 : (den Y113)) : Option (den (.prod .bool .unit)) :=
  bif (a0.1 != b1.1) then
    some (false, ())
  else
    bif (a0.2.1 != b1.2.1) then
      some (false, ())
    else
      some (true, ())

noncomputable def g_Ent39 : Ent := ⟨39, (.prod Y113 (.prod Y113 .unit)), (.prod .bool .unit), fun x => g_S39 x.1 x.2.1⟩

theorem g_VC39 : ∀ x : den (.prod Y113 (.prod Y113 .unit)), vcall g_C39 Go.Proofs.Try.f39 (.prod Y113 (.prod Y113 .unit)) (.prod .bool .unit) x = g_S39 x.1 x.2.1 := fun x => by kernel_rfl

theorem g_OK39 : EntOK Go.Proofs.Try.prog g_Ent39 := EntOK.of_vcall g_HC39 Go.Proofs.Try.func39
  (body_loops (by kernel_rfl) (loops_all 0 (by kernel_rfl) fun k hk => absurd hk (Nat.not_lt_zero k)))
  (by kernel_rfl) (by kernel_rfl) g_VC39

/-! ### loop.example/g01924/laws.eqLockS -/

noncomputable def g_L27_0 (a' : (List (den Y113))) (b' : (List (den Y113))) (i' : Int) (R : Type) (K : (Int) ⊕ ((Unit) ⊕ (Unit)) → Option R) : Option R :=
  bif (decide (i' < ((a'.length : Nat) : Int))) then
    (lAt a' i').bind fun e1 =>
    (lAt b' i').bind fun e2 =>
    (g_S39 e1 e2).bind fun r3 =>
    bif (!r3.1) then
      K (.inr (.inl ()))
    else
      K (.inl (IntKind.i64.wrap (i' + 1)))
  else
    K (.inr (.inr ()))

theorem g_L27_0_nat (a' : (List (den Y113))) (b' : (List (den Y113))) (i' : Int) (R : Type) (K : (Int) ⊕ ((Unit) ⊕ (Unit)) → Option R) : g_L27_0 a' b' i' R K = (g_L27_0 a' b' i' _ some).bind K := by
  unfold g_L27_0
  repeat' first | exact nat_none | exact nat_some | apply nat_bif | (refine nat_bind fun _ => ?_) | apply nat_ite | (refine nat_sum (fun _ => ?_) fun _ => ?_) | rfl

def g_T27_0 : Tmpl := ⟨(.slot (.slice Y113) (.slot (.slice Y113) (.junk (.junk (.junk (.slot .i (.junk (.junk (.junk (.junk (.junk (.junk (.junk (.junk (.junk (.junk (.junk (.junk (.junk (.junk (.junk (.junk (.junk (.junk (.junk (.junk (.junk .nil))))))))))))))))))))))))))), .nil⟩

abbrev g_I27_0 : Type := (List (den Y113)) × (List (den Y113))
abbrev g_V27_0 : Type := Int
abbrev g_X27_0 : Type := (Unit) ⊕ (Unit)

def g_M27_0 : g_I27_0 → g_V27_0 → den g_T27_0.ty := fun I v => (I.1, I.2, v, ())

def g_P27_0 : den g_T27_0.ty → g_I27_0 × g_V27_0 := fun x => ((x.1, x.2.1), x.2.2.1)

noncomputable def g_D27_0 : g_I27_0 → g_V27_0 → (R : Type) → ((g_V27_0 ⊕ g_X27_0) → Option R) → Option R := fun I v R K => g_L27_0 I.1 I.2 v R K

def g_E27_0 : g_I27_0 → g_X27_0 → (R : Type) → (Ex → St → Option R) → Option R := fun I p R K => sumC p (fun a => K .ret ⟨[.junk, .junk, .junk, .junk, (.pv .bool false), .junk, .junk, .junk, .junk, .junk, .junk, .junk, .junk, .junk, .junk, .junk, .junk, .junk, .junk, .junk, .junk, .junk, .junk, .junk, .junk, .junk, .junk], []⟩) (fun b => K (.exit 0) ⟨[.junk, .junk, .junk, .junk, .junk, .junk, .junk, .junk, .junk, .junk, .junk, .junk, .junk, .junk, .junk, .junk, .junk, .junk, .junk, .junk, .junk, .junk, .junk, .junk, .junk, .junk, .junk], []⟩)

def g_K27_0 : g_I27_0 → g_X27_0 → Ex × St := fun I p => sumC p (fun a => (.ret, ⟨[.junk, .junk, .junk, .junk, (.pv .bool false), .junk, .junk, .junk, .junk, .junk, .junk, .junk, .junk, .junk, .junk, .junk, .junk, .junk, .junk, .junk, .junk, .junk, .junk, .junk, .junk, .junk, .junk], []⟩)) (fun b => ((.exit 0), ⟨[.junk, .junk, .junk, .junk, .junk, .junk, .junk, .junk, .junk, .junk, .junk, .junk, .junk, .junk, .junk, .junk, .junk, .junk, .junk, .junk, .junk, .junk, .junk, .junk, .junk, .junk, .junk], []⟩))

noncomputable def g_F27_0 : LoopFn := fun s R K => (Tmpl.read g_T27_0 s).bind fun x => (iter (fun v => g_D27_0 (g_P27_0 x).1 v _ some) (g_P27_0 x).2).bind fun p => g_E27_0 (g_P27_0 x).1 p R K

noncomputable def g_C27 : Cfg := ⟨g_tis, [g_Ent39], [(4, g_F27_0)]⟩

theorem g_HC27 : CfgOK Go.Proofs.Try.prog g_C27 := ⟨info_ok g_tisOK, (all_cons g_OK39 all_nil), g_wide⟩

theorem g_lk27_0 : ∀ F, ((g_C27).ann.find? fun x => x.1 == firstId ((loopsOf (codeOf Go.Proofs.Try.f27)).getD 0 .skip)).map (·.2) = some F → LoopOK Go.Proofs.Try.prog ((loopsOf (codeOf Go.Proofs.Try.f27)).getD 0 .skip) F := by
  refine lookup_ok (show ((g_C27).ann.find? fun x => x.1 == firstId ((loopsOf (codeOf Go.Proofs.Try.f27)).getD 0 .skip)).map (·.2) = some g_F27_0 from by kernel_rfl) ?_
  exact loop_ok g_HC27 (loops_all 0 (by kernel_rfl) fun k hk => absurd hk (Nat.not_lt_zero k)) g_T27_0 [4] g_M27_0 g_P27_0 (fun x => rfl) g_D27_0
    (fun I v R K => g_L27_0_nat _ _ _ R K) g_E27_0 g_K27_0 (fun I p R K => by
      rcases p with p | p <;> rfl) (fun I v => by kernel_rfl)

/-- loop.example/g01924/laws.eqLockS -/
noncomputable def g_S27 (a0 : (List (den Y113))) (b1 : (List (den Y113))) : Option (den (.prod .bool .unit)) :=
  bif (((a0.length : Nat) : Int) != ((b1.length : Nat) : Int)) then
    some (false, ())
  else
    (iter (fun v => g_L27_0 a0 b1 v _ some) (0)).bind fun q4 =>
    sumC q4
      (fun a5 =>
        some (false, ()))
      (fun b6 =>
        some (true, ()))

noncomputable def g_Ent27 : Ent := ⟨27, (.prod (.slice Y113) (.prod (.slice Y113) .unit)), (.prod .bool .unit), fun x => g_S27 x.1 x.2.1⟩

theorem g_VC27 : ∀ x : den (.prod (.slice Y113) (.prod (.slice Y113) .unit)), vcall g_C27 Go.Proofs.Try.f27 (.prod (.slice Y113) (.prod (.slice Y113) .unit)) (.prod .bool .unit) x = g_S27 x.1 x.2.1 := fun x => by kernel_rfl

theorem g_OK27 : EntOK Go.Proofs.Try.prog g_Ent27 := EntOK.of_vcall g_HC27 Go.Proofs.Try.func27
  (body_loops (by kernel_rfl) (loops_all 1 (by kernel_rfl) (fun k hk => match k, hk with
    | 0, _ => g_lk27_0)))
  (by kernel_rfl) (by kernel_rfl) g_VC27

/-! ### loop.example/g01924/laws.eqWait -/

noncomputable def g_C40 : Cfg := ⟨g_tis, [], []⟩

theorem g_HC40 : CfgOK Go.Proofs.Try.prog g_C40 := ⟨info_ok g_tisOK, all_nil, g_wide⟩

/-- loop.example/g01924/laws.eqWait -/
noncomputable def g_S40 (a0 : (den Y113)) (b1 : (den Y113)) : Option (den (.prod .bool .unit)) :=
  bif (a0.1 != b1.1) then
    some (false, ())
  else
    bif (a0.2.1 != b1.2.1) then
      some (false, ())
    else
      some (true, ())

noncomputable def g_Ent40 : Ent := ⟨40, (.prod Y113 (.prod Y113 .unit)), (.prod .bool .unit), fun x => g_S40 x.1 x.2.1⟩

theorem g_VC40 : ∀ x : den (.prod Y113 (.prod Y113 .unit)), vcall g_C40 Go.Proofs.Try.f40 (.prod Y113 (.prod Y113 .unit)) (.prod .bool .unit) x = g_S40 x.1 x.2.1 := fun x => by kernel_rfl

theorem g_OK40 : EntOK Go.Proofs.Try.prog g_Ent40 := EntOK.of_vcall g_HC40 Go.Proofs.Try.func40
  (body_loops (by kernel_rfl) (loops_all 0 (by kernel_rfl) fun k hk => absurd hk (Nat.not_lt_zero k)))
  (by kernel_rfl) (by kernel_rfl) g_VC40

/-! ### loop.example/g01924/laws.eqWaitS -/

noncomputable def g_L28_0 (a' : (List (den Y113))) (b' : (List (den Y113))) (i' : Int) (R : Type) (K : (Int) ⊕ ((Unit) ⊕ (Unit)) → Option R) : Option R :=
  bif (decide (i' < ((a'.length : Nat) : Int))) then
    (lAt a' i').bind fun e1 =>
    (lAt b' i').bind fun e2 =>
    (g_S40 e1 e2).bind fun r3 =>
    bif (!r3.1) then
      K (.inr (.inl ()))
    else
      K (.inl (IntKind.i64.wrap (i' + 1)))
  else
    K (.inr (.inr ()))

theorem g_L28_0_nat (a' : (List (den Y113))) (b' : (List (den Y113))) (i' : Int) (R : Type) (K : (Int) ⊕ ((Unit) ⊕ (Unit)) → Option R) : g_L28_0 a' b' i' R K = (g_L28_0 a' b' i' _ some).bind K := by
  unfold g_L28_0
  repeat' first | exact nat_none | exact nat_some | apply nat_bif | (refine nat_bind fun _ => ?_) | apply nat_ite | (refine nat_sum (fun _ => ?_) fun _ => ?_) | rfl

def g_T28_0 : Tmpl := ⟨(.slot (.slice Y113) (.slot (.slice Y113) (.junk (.junk (.junk (.slot .i (.junk (.junk (.junk (.junk (.junk (.junk (.junk (.junk (.junk (.junk (.junk (.junk (.junk (.junk (.junk (.junk (.junk (.junk (.junk (.junk (.junk .nil))))))))))))))))))))))))))), .nil⟩

abbrev g_I28_0 : Type := (List (den Y113)) × (List (den Y113))
abbrev g_V28_0 : Type := Int
abbrev g_X28_0 : Type := (Unit) ⊕ (Unit)

def g_M28_0 : g_I28_0 → g_V28_0 → den g_T28_0.ty := fun I v => (I.1, I.2, v, ())

def g_P28_0 : den g_T28_0.ty → g_I28_0 × g_V28_0 := fun x => ((x.1, x.2.1), x.2.2.1)

noncomputable def g_D28_0 : g_I28_0 → g_V28_0 → (R : Type) → ((g_V28_0 ⊕ g_X28_0) → Option R) → Option R := fun I v R K => g_L28_0 I.1 I.2 v R K

def g_E28_0 : g_I28_0 → g_X28_0 → (R : Type) → (Ex → St → Option R) → Option R := fun I p R K => sumC p (fun a => K .ret ⟨[.junk, .junk, .junk, .junk, (.pv .bool false), .junk, .junk, .junk, .junk, .junk, .junk, .junk, .junk, .junk, .junk, .junk, .junk, .junk, .junk, .junk, .junk, .junk, .junk, .junk, .junk, .junk, .junk], []⟩) (fun b => K (.exit 0) ⟨[.junk, .junk, .junk, .junk, .junk, .junk, .junk, .junk, .junk, .junk, .junk, .junk, .junk, .junk, .junk, .junk, .junk, .junk, .junk, .junk, .junk, .junk, .junk, .junk, .junk, .junk, .junk], []⟩)

def g_K28_0 : g_I28_0 → g_X28_0 → Ex × St := fun I p => sumC p (fun a => (.ret, ⟨[.junk, .junk, .junk, .junk, (.pv .bool false), .junk, .junk, .junk, .junk, .junk, .junk, .junk, .junk, .junk, .junk, .junk, .junk, .junk, .junk, .junk, .junk, .junk, .junk, .junk, .junk, .junk, .junk], []⟩)) (fun b => ((.exit 0), ⟨[.junk, .junk, .junk, .junk, .junk, .junk, .junk, .junk, .junk, .junk, .junk, .junk, .junk, .junk, .junk, .junk, .junk, .junk, .junk, .junk, .junk, .junk, .junk, .junk, .junk, .junk, .junk], []⟩))

noncomputable def g_F28_0 : LoopFn := fun s R K => (Tmpl.read g_T28_0 s).bind fun x => (iter (fun v => g_D28_0 (g_P28_0 x).1 v _ some) (g_P28_0 x).2).bind fun p => g_E28_0 (g_P28_0 x).1 p R K

noncomputable def g_C28 : Cfg := ⟨g_tis, [g_Ent40], [(4, g_F28_0)]⟩

theorem g_HC28 : CfgOK Go.Proofs.Try.prog g_C28 := ⟨info_ok g_tisOK, (all_cons g_OK40 all_nil), g_wide⟩

theorem g_lk28_0 : ∀ F, ((g_C28).ann.find? fun x => x.1 == firstId ((loopsOf (codeOf Go.Proofs.Try.f28)).getD 0 .skip)).map (·.2) = some F → LoopOK Go.Proofs.Try.prog ((loopsOf (codeOf Go.Proofs.Try.f28)).getD 0 .skip) F := by
  refine lookup_ok (show ((g_C28).ann.find? fun x => x.1 == firstId ((loopsOf (codeOf Go.Proofs.Try.f28)).getD 0 .skip)).map (·.2) = some g_F28_0 from by kernel_rfl) ?_
  exact loop_ok g_HC28 (loops_all 0 (by kernel_rfl) fun k hk => absurd hk (Nat.not_lt_zero k)) g_T28_0 [4] g_M28_0 g_P28_0 (fun x => rfl) g_D28_0
    (fun I v R K => g_L28_0_nat _ _ _ R K) g_E28_0 g_K28_0 (fun I p R K => by
      rcases p with p | p <;> rfl) (fun I v => by kernel_rfl)

/-- loop.example/g01924/laws.eqWaitS -/
noncomputable def g_S28 (a0 : (List (den Y113))) (b1 : (List (den Y113))) : Option (den (.prod .bool .unit)) :=
  bif (((a0.length : Nat) : Int) != ((b1.length : Nat) : Int)) then
    some (false, ())
  else
    (iter (fun v => g_L28_0 a0 b1 v _ some) (0)).bind fun q4 =>
    sumC q4
      (fun a5 =>
        some (false, ()))
      (fun b6 =>
        some (true, ()))

noncomputable def g_Ent28 : Ent := ⟨28, (.prod (.slice Y113) (.prod (.slice Y113) .unit)), (.prod .bool .unit), fun x => g_S28 x.1 x.2.1⟩

theorem g_VC28 : ∀ x : den (.prod (.slice Y113) (.prod (.slice Y113) .unit)), vcall g_C28 Go.Proofs.Try.f28 (.prod (.slice Y113) (.prod (.slice Y113) .unit)) (.prod .bool .unit) x = g_S28 x.1 x.2.1 := fun x => by kernel_rfl

theorem g_OK28 : EntOK Go.Proofs.Try.prog g_Ent28 := EntOK.of_vcall g_HC28 Go.Proofs.Try.func28
  (body_loops (by kernel_rfl) (loops_all 1 (by kernel_rfl) (fun k hk => match k, hk with
    | 0, _ => g_lk28_0)))
  (by kernel_rfl) (by kernel_rfl) g_VC28

/-! ### loop.example/g01924/laws.eqEngine -/

noncomputable def g_C10 : Cfg := ⟨g_tis, [g_Ent25, g_Ent26, g_Ent27, g_Ent28], []⟩

theorem g_HC10 : CfgOK Go.Proofs.Try.prog g_C10 := ⟨info_ok g_tisOK, (all_cons g_OK25 (all_cons g_OK26 (all_cons g_OK27 (all_cons g_OK28 all_nil)))), g_wide⟩

/-- loop.example/g01924/laws.eqEngine -/
noncomputable def g_S10 (a0 : (den Y29)) (b1 : (den Y29)) : Option (den (.prod .bool .unit)) :=
  bif (!(a0.1 == b1.1)) then
    some (false, ())
  else
    (g_S25 a0.2.1 b1.2.1).bind fun r1 =>
    bif (!r1.1) then
      some (false, ())
    else
      (g_S26 a0.2.2.1 b1.2.2.1).bind fun r2 =>
      bif (!r2.1) then
        some (false, ())
      else
        (g_S27 a0.2.2.2.1 b1.2.2.2.1).bind fun r3 =>
        bif (!r3.1) then
          some (false, ())
        else
          (g_S28 a0.2.2.2.2.1 b1.2.2.2.2.1).bind fun r4 =>
          bif (!r4.1) then
            some (false, ())
          else
            bif (a0.2.2.2.2.2.1 != b1.2.2.2.2.2.1) then
              some (false, ())
            else
              some (true, ())

noncomputable def g_Ent10 : Ent := ⟨10, (.prod Y29 (.prod Y29 .unit)), (.prod .bool .unit), fun x => g_S10 x.1 x.2.1⟩

theorem g_VC10 : ∀ x : den (.prod Y29 (.prod Y29 .unit)), vcall g_C10 Go.Proofs.Try.f10 (.prod Y29 (.prod Y29 .unit)) (.prod .bool .unit) x = g_S10 x.1 x.2.1 := fun x => by kernel_rfl

theorem g_OK10 : EntOK Go.Proofs.Try.prog g_Ent10 := EntOK.of_vcall g_HC10 Go.Proofs.Try.func10
  (body_loops (by kernel_rfl) (loops_all 0 (by kernel_rfl) fun k hk => absurd hk (Nat.not_lt_zero k)))
  (by kernel_rfl) (by kernel_rfl) g_VC10

/-! ### loop.example/g01924/laws.FnExactAbortsBy -/

noncomputable def g_C3 : Cfg := ⟨g_tis, [g_Ent6, g_Ent8, g_Ent7, g_Ent9, g_Ent10], []⟩

theorem g_HC3 : CfgOK Go.Proofs.Try.prog g_C3 := ⟨info_ok g_tisOK, (all_cons g_OK6 (all_cons g_OK8 (all_cons g_OK7 (all_cons g_OK9 (all_cons g_OK10 all_nil))))), g_wide⟩

/-- loop.example/g01924/laws.FnExactAbortsBy -/
noncomputable def g_S3 (aE0 : (den Y29)) (aScheme1 : Int) : Option (den (.prod .bool .unit)) :=
  (g_S6 aE0 1048576).bind fun r1 =>
  bif (decide (r1.1 < 0)) then
    some (true, ())
  else
    (g_S8 aE0).bind fun r2 =>
    (g_S7 r2.1 aScheme1).bind fun r3 =>
    (g_S8 aE0).bind fun r4 =>
    (g_S9 r4.1 aScheme1).bind fun r5 =>
    bif (r5.1 != r3.1) then
      some (false, ())
    else
      (g_S8 aE0).bind fun r6 =>
      (g_S10 r4.1 r6.1).bind fun r7 =>
      bif (!r7.1) then
        some (false, ())
      else
        some (true, ())

noncomputable def g_Ent3 : Ent := ⟨3, (.prod Y29 (.prod .i .unit)), (.prod .bool .unit), fun x => g_S3 x.1 x.2.1⟩

theorem g_VC3 : ∀ x : den (.prod Y29 (.prod .i .unit)), vcall g_C3 Go.Proofs.Try.f3 (.prod Y29 (.prod .i .unit)) (.prod .bool .unit) x = g_S3 x.1 x.2.1 := fun x => by kernel_rfl

theorem g_OK3 : EntOK Go.Proofs.Try.prog g_Ent3 := EntOK.of_vcall g_HC3 Go.Proofs.Try.func3
  (body_loops (by kernel_rfl) (loops_all 0 (by kernel_rfl) fun k hk => absurd hk (Nat.not_lt_zero k)))
  (by kernel_rfl) (by kernel_rfl) g_VC3

/-! ### loop.example/g01924/spec.CommitsBy -/

noncomputable def g_C11 : Cfg := ⟨g_tis, [g_Ent19], []⟩

theorem g_HC11 : CfgOK Go.Proofs.Try.prog g_C11 := ⟨info_ok g_tisOK, (all_cons g_OK19 all_nil), g_wide⟩

/-- loop.example/g01924/spec.CommitsBy -/
noncomputable def g_S11 (e0 : (den Y29)) (scheme1 : Int) : Option (den (.prod .i .unit)) :=
  (g_S19 e0 scheme1 2).bind fun r1 =>
  some (r1.1, ())

noncomputable def g_Ent11 : Ent := ⟨11, (.prod Y29 (.prod .i .unit)), (.prod .i .unit), fun x => g_S11 x.1 x.2.1⟩

theorem g_VC11 : ∀ x : den (.prod Y29 (.prod .i .unit)), vcall g_C11 Go.Proofs.Try.f11 (.prod Y29 (.prod .i .unit)) (.prod .i .unit) x = g_S11 x.1 x.2.1 := fun x => by kernel_rfl

theorem g_OK11 : EntOK Go.Proofs.Try.prog g_Ent11 := EntOK.of_vcall g_HC11 Go.Proofs.Try.func11
  (body_loops (by kernel_rfl) (loops_all 0 (by kernel_rfl) fun k hk => absurd hk (Nat.not_lt_zero k)))
  (by kernel_rfl) (by kernel_rfl) g_VC11

/-! ### loop.example/g01924/impl.CommitsBy -/

noncomputable def g_C12 : Cfg := ⟨g_tis, [g_Ent24], []⟩

theorem g_HC12 : CfgOK Go.Proofs.Try.prog g_C12 := ⟨info_ok g_tisOK, (all_cons g_OK24 all_nil), g_wide⟩

/-- loop.example/g01924/impl.CommitsBy -/
noncomputable def g_S12 (e0 : (den Y29)) (scheme1 : Int) : Option (den (.prod .i .unit)) :=
  (g_S24 e0 2 scheme1).bind fun r1 =>
  some (r1.1, ())

noncomputable def g_Ent12 : Ent := ⟨12, (.prod Y29 (.prod .i .unit)), (.prod .i .unit), fun x => g_S12 x.1 x.2.1⟩

theorem g_VC12 : ∀ x : den (.prod Y29 (.prod .i .unit)), vcall g_C12 Go.Proofs.Try.f12 (.prod Y29 (.prod .i .unit)) (.prod .i .unit) x = g_S12 x.1 x.2.1 := fun x => by kernel_rfl

theorem g_OK12 : EntOK Go.Proofs.Try.prog g_Ent12 := EntOK.of_vcall g_HC12 Go.Proofs.Try.func12
  (body_loops (by kernel_rfl) (loops_all 0 (by kernel_rfl) fun k hk => absurd hk (Nat.not_lt_zero k)))
  (by kernel_rfl) (by kernel_rfl) g_VC12

/-! ### loop.example/g01924/laws.FnExactCommitsBy -/

noncomputable def g_C4 : Cfg := ⟨g_tis, [g_Ent6, g_Ent8, g_Ent11, g_Ent12, g_Ent10], []⟩

theorem g_HC4 : CfgOK Go.Proofs.Try.prog g_C4 := ⟨info_ok g_tisOK, (all_cons g_OK6 (all_cons g_OK8 (all_cons g_OK11 (all_cons g_OK12 (all_cons g_OK10 all_nil))))), g_wide⟩

/-- loop.example/g01924/laws.FnExactCommitsBy -/
noncomputable def g_S4 (aE0 : (den Y29)) (aScheme1 : Int) : Option (den (.prod .bool .unit)) :=
  (g_S6 aE0 1048576).bind fun r1 =>
  bif (decide (r1.1 < 0)) then
    some (true, ())
  else
    (g_S8 aE0).bind fun r2 =>
    (g_S11 r2.1 aScheme1).bind fun r3 =>
    (g_S8 aE0).bind fun r4 =>
    (g_S12 r4.1 aScheme1).bind fun r5 =>
    bif (r5.1 != r3.1) then
      some (false, ())
    else
      (g_S8 aE0).bind fun r6 =>
      (g_S10 r4.1 r6.1).bind fun r7 =>
      bif (!r7.1) then
        some (false, ())
      else
        some (true, ())

noncomputable def g_Ent4 : Ent := ⟨4, (.prod Y29 (.prod .i .unit)), (.prod .bool .unit), fun x => g_S4 x.1 x.2.1⟩

theorem g_VC4 : ∀ x : den (.prod Y29 (.prod .i .unit)), vcall g_C4 Go.Proofs.Try.f4 (.prod Y29 (.prod .i .unit)) (.prod .bool .unit) x = g_S4 x.1 x.2.1 := fun x => by kernel_rfl

theorem g_OK4 : EntOK Go.Proofs.Try.prog g_Ent4 := EntOK.of_vcall g_HC4 Go.Proofs.Try.func4
  (body_loops (by kernel_rfl) (loops_all 0 (by kernel_rfl) fun k hk => absurd hk (Nat.not_lt_zero k)))
  (by kernel_rfl) (by kernel_rfl) g_VC4
end Go.Ab
