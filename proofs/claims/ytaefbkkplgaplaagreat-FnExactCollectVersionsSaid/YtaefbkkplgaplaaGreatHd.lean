import Derived.Test.YtaefbkkplgaplaaGreatAbPlain
import Derived.Test.YtaefbkkplgaplaaGreatProg
import Derived.KernelRfl
set_option maxRecDepth 100000
namespace Go.Ab

abbrev YVersion : Ty := (.prod .i (.prod .i (.prod .i (.prod .i (.prod .i .unit)))))

abbrev YStore : Ty := (.prod (.slice (.slice YVersion)) .unit)

abbrev YReadMark : Ty := (.prod .i (.prod .i .unit))

abbrev YTransaction : Ty := (.prod .i (.prod .i (.prod .i (.prod .i (.prod .i (.prod .i (.prod .i (.prod (.slice YReadMark) (.prod (.slice YReadMark) .unit)))))))))

abbrev YEngine : Ty := (.prod .bool (.prod YStore (.prod (.slice YTransaction) (.prod (.slice YReadMark) (.prod (.slice YReadMark) (.prod .i .unit))))))

noncomputable def g_tis : List (TypeId × TI) := [(3, ⟨1, (.int .i64), (some .i), [.pv (.int .i64) 0], 4398046511104⟩),
 (4, ⟨1, .bool, (some .bool), [.b false], 35184372088832⟩),
 (22, ⟨1, (.slice 123), (some (.slice (.slice YVersion))), [.nils], 1466015503701⟩),
 (24, ⟨1, (.struct [(0, 22)]), (some YStore), [.nils], 1466015503701⟩),
 (25, ⟨1, (.slice 75), (some (.slice YTransaction)), [.nils], 1466015503701⟩),
 (26, ⟨1, (.slice 102), (some (.slice YReadMark)), [.nils], 1466015503701⟩),
 (27, ⟨1, (.slice 104), (some (.slice YReadMark)), [.nils], 1466015503701⟩),
 (29, ⟨6, (.struct [(0, 4), (1, 24), (2, 25), (3, 26), (4, 27), (5, 3)]), (some YEngine), [.b false, .nils, .nils, .nils, .nils, .pv (.int .i64) 0], 314146179364⟩),
 (31, ⟨1, (.slice 51), (some (.slice (.slice YVersion))), [.nils], 1466015503701⟩),
 (33, ⟨1, (.struct [(0, 31)]), (some YStore), [.nils], 1466015503701⟩),
 (34, ⟨1, (.slice 81), (some (.slice YTransaction)), [.nils], 1466015503701⟩),
 (35, ⟨1, (.slice 91), (some (.slice YReadMark)), [.nils], 1466015503701⟩),
 (36, ⟨1, (.slice 93), (some (.slice YReadMark)), [.nils], 1466015503701⟩),
 (38, ⟨6, (.struct [(0, 4), (1, 33), (2, 34), (3, 35), (4, 36), (5, 3)]), (some YEngine), [.b false, .nils, .nils, .nils, .nils, .pv (.int .i64) 0], 314146179364⟩),
 (51, ⟨1, (.slice 53), (some (.slice YVersion)), [.nils], 1466015503701⟩),
 (53, ⟨5, (.struct [(0, 3), (1, 3), (2, 3), (3, 3), (4, 3)]), (some YVersion), [.pv (.int .i64) 0, .pv (.int .i64) 0, .pv (.int .i64) 0, .pv (.int .i64) 0, .pv (.int .i64) 0], 879609302220⟩),
 (72, ⟨1, (.slice 150), (some (.slice YReadMark)), [.nils], 1466015503701⟩),
 (73, ⟨1, (.slice 152), (some (.slice YReadMark)), [.nils], 1466015503701⟩),
 (75, ⟨9, (.struct [(0, 3), (1, 3), (2, 3), (3, 3), (4, 3), (5, 3), (6, 3), (7, 72), (8, 73)]), (some YTransaction), [.pv (.int .i64) 0, .pv (.int .i64) 0, .pv (.int .i64) 0, .pv (.int .i64) 0, .pv (.int .i64) 0, .pv (.int .i64) 0, .pv (.int .i64) 0, .nils, .nils], 338311270084⟩),
 (78, ⟨1, (.slice 98), (some (.slice YReadMark)), [.nils], 1466015503701⟩),
 (79, ⟨1, (.slice 130), (some (.slice YReadMark)), [.nils], 1466015503701⟩),
 (81, ⟨9, (.struct [(0, 3), (1, 3), (2, 3), (3, 3), (4, 3), (5, 3), (6, 3), (7, 78), (8, 79)]), (some YTransaction), [.pv (.int .i64) 0, .pv (.int .i64) 0, .pv (.int .i64) 0, .pv (.int .i64) 0, .pv (.int .i64) 0, .pv (.int .i64) 0, .pv (.int .i64) 0, .nils, .nils], 338311270084⟩),
 (87, ⟨1, .func, none, [.nilf], 4398046511104⟩),
 (91, ⟨2, (.struct [(0, 3), (1, 3)]), (some YReadMark), [.pv (.int .i64) 0, .pv (.int .i64) 0], 2199023255552⟩),
 (93, ⟨2, (.struct [(0, 3), (1, 3)]), (some YReadMark), [.pv (.int .i64) 0, .pv (.int .i64) 0], 2199023255552⟩),
 (98, ⟨2, (.struct [(0, 3), (1, 3)]), (some YReadMark), [.pv (.int .i64) 0, .pv (.int .i64) 0], 2199023255552⟩),
 (102, ⟨2, (.struct [(0, 3), (1, 3)]), (some YReadMark), [.pv (.int .i64) 0, .pv (.int .i64) 0], 2199023255552⟩),
 (104, ⟨2, (.struct [(0, 3), (1, 3)]), (some YReadMark), [.pv (.int .i64) 0, .pv (.int .i64) 0], 2199023255552⟩),
 (111, ⟨1, .func, none, [.nilf], 4398046511104⟩),
 (113, ⟨1, .func, none, [.nilf], 4398046511104⟩),
 (123, ⟨1, (.slice 148), (some (.slice YVersion)), [.nils], 1466015503701⟩),
 (127, ⟨1, .func, none, [.nilf], 4398046511104⟩),
 (130, ⟨2, (.struct [(0, 3), (1, 3)]), (some YReadMark), [.pv (.int .i64) 0, .pv (.int .i64) 0], 2199023255552⟩),
 (146, ⟨1, .func, none, [.nilf], 4398046511104⟩),
 (148, ⟨5, (.struct [(0, 3), (1, 3), (2, 3), (3, 3), (4, 3)]), (some YVersion), [.pv (.int .i64) 0, .pv (.int .i64) 0, .pv (.int .i64) 0, .pv (.int .i64) 0, .pv (.int .i64) 0], 879609302220⟩),
 (150, ⟨2, (.struct [(0, 3), (1, 3)]), (some YReadMark), [.pv (.int .i64) 0, .pv (.int .i64) 0], 2199023255552⟩),
 (152, ⟨2, (.struct [(0, 3), (1, 3)]), (some YReadMark), [.pv (.int .i64) 0, .pv (.int .i64) 0], 2199023255552⟩),
 (156, ⟨1, (.ptr 53), (some (.iref YVersion)), [.nilp], 4398046511104⟩),
 (158, ⟨1, .func, none, [.nilf], 4398046511104⟩),
 (170, ⟨1, (.slice 3), (some (.slice .i)), [.nils], 1466015503701⟩)]

theorem g_ti3 : TIOK Go.Proofs.Tryz.prog 3 ⟨1, (.int .i64), (some .i), [.pv (.int .i64) 0], 4398046511104⟩ :=
  ⟨Go.Proofs.Tryz.t3, _, by kernel_rfl, Go.Proofs.Tryz.underlying3, by kernel_rfl, rfl, ⟨_, rfl, by kernel_rfl, by kernel_rfl⟩, of_decide_eq_true (by kernel_rfl), of_decide_eq_true (by kernel_rfl)⟩

theorem g_ti4 : TIOK Go.Proofs.Tryz.prog 4 ⟨1, .bool, (some .bool), [.b false], 35184372088832⟩ :=
  ⟨Go.Proofs.Tryz.t4, _, by kernel_rfl, Go.Proofs.Tryz.underlying4, by kernel_rfl, rfl, ⟨_, rfl, by kernel_rfl, by kernel_rfl⟩, of_decide_eq_true (by kernel_rfl), of_decide_eq_true (by kernel_rfl)⟩

theorem g_ti22 : TIOK Go.Proofs.Tryz.prog 22 ⟨1, (.slice 123), (some (.slice (.slice YVersion))), [.nils], 1466015503701⟩ :=
  ⟨Go.Proofs.Tryz.t22, _, by kernel_rfl, Go.Proofs.Tryz.underlying22, by kernel_rfl, rfl, ⟨_, rfl, by kernel_rfl, by kernel_rfl⟩, of_decide_eq_true (by kernel_rfl), of_decide_eq_true (by kernel_rfl)⟩

theorem g_ti24 : TIOK Go.Proofs.Tryz.prog 24 ⟨1, (.struct [(0, 22)]), (some YStore), [.nils], 1466015503701⟩ :=
  ⟨Go.Proofs.Tryz.t24, _, by kernel_rfl, Go.Proofs.Tryz.underlying24, by kernel_rfl, ⟨_, rfl, by kernel_rfl, by kernel_rfl, by kernel_rfl, by kernel_rfl, of_decide_eq_true (by kernel_rfl)⟩, ⟨_, rfl, by kernel_rfl, by kernel_rfl⟩, of_decide_eq_true (by kernel_rfl), of_decide_eq_true (by kernel_rfl)⟩

theorem g_ti25 : TIOK Go.Proofs.Tryz.prog 25 ⟨1, (.slice 75), (some (.slice YTransaction)), [.nils], 1466015503701⟩ :=
  ⟨Go.Proofs.Tryz.t25, _, by kernel_rfl, Go.Proofs.Tryz.underlying25, by kernel_rfl, rfl, ⟨_, rfl, by kernel_rfl, by kernel_rfl⟩, of_decide_eq_true (by kernel_rfl), of_decide_eq_true (by kernel_rfl)⟩

theorem g_ti26 : TIOK Go.Proofs.Tryz.prog 26 ⟨1, (.slice 102), (some (.slice YReadMark)), [.nils], 1466015503701⟩ :=
  ⟨Go.Proofs.Tryz.t26, _, by kernel_rfl, Go.Proofs.Tryz.underlying26, by kernel_rfl, rfl, ⟨_, rfl, by kernel_rfl, by kernel_rfl⟩, of_decide_eq_true (by kernel_rfl), of_decide_eq_true (by kernel_rfl)⟩

theorem g_ti27 : TIOK Go.Proofs.Tryz.prog 27 ⟨1, (.slice 104), (some (.slice YReadMark)), [.nils], 1466015503701⟩ :=
  ⟨Go.Proofs.Tryz.t27, _, by kernel_rfl, Go.Proofs.Tryz.underlying27, by kernel_rfl, rfl, ⟨_, rfl, by kernel_rfl, by kernel_rfl⟩, of_decide_eq_true (by kernel_rfl), of_decide_eq_true (by kernel_rfl)⟩

theorem g_ti29 : TIOK Go.Proofs.Tryz.prog 29 ⟨6, (.struct [(0, 4), (1, 24), (2, 25), (3, 26), (4, 27), (5, 3)]), (some YEngine), [.b false, .nils, .nils, .nils, .nils, .pv (.int .i64) 0], 314146179364⟩ :=
  ⟨Go.Proofs.Tryz.t29, _, by kernel_rfl, Go.Proofs.Tryz.underlying29, by kernel_rfl, ⟨_, rfl, by kernel_rfl, by kernel_rfl, by kernel_rfl, by kernel_rfl, of_decide_eq_true (by kernel_rfl)⟩, ⟨_, rfl, by kernel_rfl, by kernel_rfl⟩, of_decide_eq_true (by kernel_rfl), of_decide_eq_true (by kernel_rfl)⟩

theorem g_ti31 : TIOK Go.Proofs.Tryz.prog 31 ⟨1, (.slice 51), (some (.slice (.slice YVersion))), [.nils], 1466015503701⟩ :=
  ⟨Go.Proofs.Tryz.t31, _, by kernel_rfl, Go.Proofs.Tryz.underlying31, by kernel_rfl, rfl, ⟨_, rfl, by kernel_rfl, by kernel_rfl⟩, of_decide_eq_true (by kernel_rfl), of_decide_eq_true (by kernel_rfl)⟩

theorem g_ti33 : TIOK Go.Proofs.Tryz.prog 33 ⟨1, (.struct [(0, 31)]), (some YStore), [.nils], 1466015503701⟩ :=
  ⟨Go.Proofs.Tryz.t33, _, by kernel_rfl, Go.Proofs.Tryz.underlying33, by kernel_rfl, ⟨_, rfl, by kernel_rfl, by kernel_rfl, by kernel_rfl, by kernel_rfl, of_decide_eq_true (by kernel_rfl)⟩, ⟨_, rfl, by kernel_rfl, by kernel_rfl⟩, of_decide_eq_true (by kernel_rfl), of_decide_eq_true (by kernel_rfl)⟩

theorem g_ti34 : TIOK Go.Proofs.Tryz.prog 34 ⟨1, (.slice 81), (some (.slice YTransaction)), [.nils], 1466015503701⟩ :=
  ⟨Go.Proofs.Tryz.t34, _, by kernel_rfl, Go.Proofs.Tryz.underlying34, by kernel_rfl, rfl, ⟨_, rfl, by kernel_rfl, by kernel_rfl⟩, of_decide_eq_true (by kernel_rfl), of_decide_eq_true (by kernel_rfl)⟩

theorem g_ti35 : TIOK Go.Proofs.Tryz.prog 35 ⟨1, (.slice 91), (some (.slice YReadMark)), [.nils], 1466015503701⟩ :=
  ⟨Go.Proofs.Tryz.t35, _, by kernel_rfl, Go.Proofs.Tryz.underlying35, by kernel_rfl, rfl, ⟨_, rfl, by kernel_rfl, by kernel_rfl⟩, of_decide_eq_true (by kernel_rfl), of_decide_eq_true (by kernel_rfl)⟩

theorem g_ti36 : TIOK Go.Proofs.Tryz.prog 36 ⟨1, (.slice 93), (some (.slice YReadMark)), [.nils], 1466015503701⟩ :=
  ⟨Go.Proofs.Tryz.t36, _, by kernel_rfl, Go.Proofs.Tryz.underlying36, by kernel_rfl, rfl, ⟨_, rfl, by kernel_rfl, by kernel_rfl⟩, of_decide_eq_true (by kernel_rfl), of_decide_eq_true (by kernel_rfl)⟩

theorem g_ti38 : TIOK Go.Proofs.Tryz.prog 38 ⟨6, (.struct [(0, 4), (1, 33), (2, 34), (3, 35), (4, 36), (5, 3)]), (some YEngine), [.b false, .nils, .nils, .nils, .nils, .pv (.int .i64) 0], 314146179364⟩ :=
  ⟨Go.Proofs.Tryz.t38, _, by kernel_rfl, Go.Proofs.Tryz.underlying38, by kernel_rfl, ⟨_, rfl, by kernel_rfl, by kernel_rfl, by kernel_rfl, by kernel_rfl, of_decide_eq_true (by kernel_rfl)⟩, ⟨_, rfl, by kernel_rfl, by kernel_rfl⟩, of_decide_eq_true (by kernel_rfl), of_decide_eq_true (by kernel_rfl)⟩

theorem g_ti51 : TIOK Go.Proofs.Tryz.prog 51 ⟨1, (.slice 53), (some (.slice YVersion)), [.nils], 1466015503701⟩ :=
  ⟨Go.Proofs.Tryz.t51, _, by kernel_rfl, Go.Proofs.Tryz.underlying51, by kernel_rfl, rfl, ⟨_, rfl, by kernel_rfl, by kernel_rfl⟩, of_decide_eq_true (by kernel_rfl), of_decide_eq_true (by kernel_rfl)⟩

theorem g_ti53 : TIOK Go.Proofs.Tryz.prog 53 ⟨5, (.struct [(0, 3), (1, 3), (2, 3), (3, 3), (4, 3)]), (some YVersion), [.pv (.int .i64) 0, .pv (.int .i64) 0, .pv (.int .i64) 0, .pv (.int .i64) 0, .pv (.int .i64) 0], 879609302220⟩ :=
  ⟨Go.Proofs.Tryz.t53, _, by kernel_rfl, Go.Proofs.Tryz.underlying53, by kernel_rfl, ⟨_, rfl, by kernel_rfl, by kernel_rfl, by kernel_rfl, by kernel_rfl, of_decide_eq_true (by kernel_rfl)⟩, ⟨_, rfl, by kernel_rfl, by kernel_rfl⟩, of_decide_eq_true (by kernel_rfl), of_decide_eq_true (by kernel_rfl)⟩

theorem g_ti72 : TIOK Go.Proofs.Tryz.prog 72 ⟨1, (.slice 150), (some (.slice YReadMark)), [.nils], 1466015503701⟩ :=
  ⟨Go.Proofs.Tryz.t72, _, by kernel_rfl, Go.Proofs.Tryz.underlying72, by kernel_rfl, rfl, ⟨_, rfl, by kernel_rfl, by kernel_rfl⟩, of_decide_eq_true (by kernel_rfl), of_decide_eq_true (by kernel_rfl)⟩

theorem g_ti73 : TIOK Go.Proofs.Tryz.prog 73 ⟨1, (.slice 152), (some (.slice YReadMark)), [.nils], 1466015503701⟩ :=
  ⟨Go.Proofs.Tryz.t73, _, by kernel_rfl, Go.Proofs.Tryz.underlying73, by kernel_rfl, rfl, ⟨_, rfl, by kernel_rfl, by kernel_rfl⟩, of_decide_eq_true (by kernel_rfl), of_decide_eq_true (by kernel_rfl)⟩

theorem g_ti75 : TIOK Go.Proofs.Tryz.prog 75 ⟨9, (.struct [(0, 3), (1, 3), (2, 3), (3, 3), (4, 3), (5, 3), (6, 3), (7, 72), (8, 73)]), (some YTransaction), [.pv (.int .i64) 0, .pv (.int .i64) 0, .pv (.int .i64) 0, .pv (.int .i64) 0, .pv (.int .i64) 0, .pv (.int .i64) 0, .pv (.int .i64) 0, .nils, .nils], 338311270084⟩ :=
  ⟨Go.Proofs.Tryz.t75, _, by kernel_rfl, Go.Proofs.Tryz.underlying75, by kernel_rfl, ⟨_, rfl, by kernel_rfl, by kernel_rfl, by kernel_rfl, by kernel_rfl, of_decide_eq_true (by kernel_rfl)⟩, ⟨_, rfl, by kernel_rfl, by kernel_rfl⟩, of_decide_eq_true (by kernel_rfl), of_decide_eq_true (by kernel_rfl)⟩

theorem g_ti78 : TIOK Go.Proofs.Tryz.prog 78 ⟨1, (.slice 98), (some (.slice YReadMark)), [.nils], 1466015503701⟩ :=
  ⟨Go.Proofs.Tryz.t78, _, by kernel_rfl, Go.Proofs.Tryz.underlying78, by kernel_rfl, rfl, ⟨_, rfl, by kernel_rfl, by kernel_rfl⟩, of_decide_eq_true (by kernel_rfl), of_decide_eq_true (by kernel_rfl)⟩

theorem g_ti79 : TIOK Go.Proofs.Tryz.prog 79 ⟨1, (.slice 130), (some (.slice YReadMark)), [.nils], 1466015503701⟩ :=
  ⟨Go.Proofs.Tryz.t79, _, by kernel_rfl, Go.Proofs.Tryz.underlying79, by kernel_rfl, rfl, ⟨_, rfl, by kernel_rfl, by kernel_rfl⟩, of_decide_eq_true (by kernel_rfl), of_decide_eq_true (by kernel_rfl)⟩

theorem g_ti81 : TIOK Go.Proofs.Tryz.prog 81 ⟨9, (.struct [(0, 3), (1, 3), (2, 3), (3, 3), (4, 3), (5, 3), (6, 3), (7, 78), (8, 79)]), (some YTransaction), [.pv (.int .i64) 0, .pv (.int .i64) 0, .pv (.int .i64) 0, .pv (.int .i64) 0, .pv (.int .i64) 0, .pv (.int .i64) 0, .pv (.int .i64) 0, .nils, .nils], 338311270084⟩ :=
  ⟨Go.Proofs.Tryz.t81, _, by kernel_rfl, Go.Proofs.Tryz.underlying81, by kernel_rfl, ⟨_, rfl, by kernel_rfl, by kernel_rfl, by kernel_rfl, by kernel_rfl, of_decide_eq_true (by kernel_rfl)⟩, ⟨_, rfl, by kernel_rfl, by kernel_rfl⟩, of_decide_eq_true (by kernel_rfl), of_decide_eq_true (by kernel_rfl)⟩

theorem g_ti87 : TIOK Go.Proofs.Tryz.prog 87 ⟨1, .func, none, [.nilf], 4398046511104⟩ :=
  ⟨Go.Proofs.Tryz.t87, _, by kernel_rfl, Go.Proofs.Tryz.underlying87, by kernel_rfl, ⟨_, _, _, rfl⟩, ⟨_, rfl, by kernel_rfl, by kernel_rfl⟩, of_decide_eq_true (by kernel_rfl), of_decide_eq_true (by kernel_rfl)⟩

theorem g_ti91 : TIOK Go.Proofs.Tryz.prog 91 ⟨2, (.struct [(0, 3), (1, 3)]), (some YReadMark), [.pv (.int .i64) 0, .pv (.int .i64) 0], 2199023255552⟩ :=
  ⟨Go.Proofs.Tryz.t91, _, by kernel_rfl, Go.Proofs.Tryz.underlying91, by kernel_rfl, ⟨_, rfl, by kernel_rfl, by kernel_rfl, by kernel_rfl, by kernel_rfl, of_decide_eq_true (by kernel_rfl)⟩, ⟨_, rfl, by kernel_rfl, by kernel_rfl⟩, of_decide_eq_true (by kernel_rfl), of_decide_eq_true (by kernel_rfl)⟩

theorem g_ti93 : TIOK Go.Proofs.Tryz.prog 93 ⟨2, (.struct [(0, 3), (1, 3)]), (some YReadMark), [.pv (.int .i64) 0, .pv (.int .i64) 0], 2199023255552⟩ :=
  ⟨Go.Proofs.Tryz.t93, _, by kernel_rfl, Go.Proofs.Tryz.underlying93, by kernel_rfl, ⟨_, rfl, by kernel_rfl, by kernel_rfl, by kernel_rfl, by kernel_rfl, of_decide_eq_true (by kernel_rfl)⟩, ⟨_, rfl, by kernel_rfl, by kernel_rfl⟩, of_decide_eq_true (by kernel_rfl), of_decide_eq_true (by kernel_rfl)⟩

theorem g_ti98 : TIOK Go.Proofs.Tryz.prog 98 ⟨2, (.struct [(0, 3), (1, 3)]), (some YReadMark), [.pv (.int .i64) 0, .pv (.int .i64) 0], 2199023255552⟩ :=
  ⟨Go.Proofs.Tryz.t98, _, by kernel_rfl, Go.Proofs.Tryz.underlying98, by kernel_rfl, ⟨_, rfl, by kernel_rfl, by kernel_rfl, by kernel_rfl, by kernel_rfl, of_decide_eq_true (by kernel_rfl)⟩, ⟨_, rfl, by kernel_rfl, by kernel_rfl⟩, of_decide_eq_true (by kernel_rfl), of_decide_eq_true (by kernel_rfl)⟩

theorem g_ti102 : TIOK Go.Proofs.Tryz.prog 102 ⟨2, (.struct [(0, 3), (1, 3)]), (some YReadMark), [.pv (.int .i64) 0, .pv (.int .i64) 0], 2199023255552⟩ :=
  ⟨Go.Proofs.Tryz.t102, _, by kernel_rfl, Go.Proofs.Tryz.underlying102, by kernel_rfl, ⟨_, rfl, by kernel_rfl, by kernel_rfl, by kernel_rfl, by kernel_rfl, of_decide_eq_true (by kernel_rfl)⟩, ⟨_, rfl, by kernel_rfl, by kernel_rfl⟩, of_decide_eq_true (by kernel_rfl), of_decide_eq_true (by kernel_rfl)⟩

theorem g_ti104 : TIOK Go.Proofs.Tryz.prog 104 ⟨2, (.struct [(0, 3), (1, 3)]), (some YReadMark), [.pv (.int .i64) 0, .pv (.int .i64) 0], 2199023255552⟩ :=
  ⟨Go.Proofs.Tryz.t104, _, by kernel_rfl, Go.Proofs.Tryz.underlying104, by kernel_rfl, ⟨_, rfl, by kernel_rfl, by kernel_rfl, by kernel_rfl, by kernel_rfl, of_decide_eq_true (by kernel_rfl)⟩, ⟨_, rfl, by kernel_rfl, by kernel_rfl⟩, of_decide_eq_true (by kernel_rfl), of_decide_eq_true (by kernel_rfl)⟩

theorem g_ti111 : TIOK Go.Proofs.Tryz.prog 111 ⟨1, .func, none, [.nilf], 4398046511104⟩ :=
  ⟨Go.Proofs.Tryz.t111, _, by kernel_rfl, Go.Proofs.Tryz.underlying111, by kernel_rfl, ⟨_, _, _, rfl⟩, ⟨_, rfl, by kernel_rfl, by kernel_rfl⟩, of_decide_eq_true (by kernel_rfl), of_decide_eq_true (by kernel_rfl)⟩

theorem g_ti113 : TIOK Go.Proofs.Tryz.prog 113 ⟨1, .func, none, [.nilf], 4398046511104⟩ :=
  ⟨Go.Proofs.Tryz.t113, _, by kernel_rfl, Go.Proofs.Tryz.underlying113, by kernel_rfl, ⟨_, _, _, rfl⟩, ⟨_, rfl, by kernel_rfl, by kernel_rfl⟩, of_decide_eq_true (by kernel_rfl), of_decide_eq_true (by kernel_rfl)⟩

theorem g_ti123 : TIOK Go.Proofs.Tryz.prog 123 ⟨1, (.slice 148), (some (.slice YVersion)), [.nils], 1466015503701⟩ :=
  ⟨Go.Proofs.Tryz.t123, _, by kernel_rfl, Go.Proofs.Tryz.underlying123, by kernel_rfl, rfl, ⟨_, rfl, by kernel_rfl, by kernel_rfl⟩, of_decide_eq_true (by kernel_rfl), of_decide_eq_true (by kernel_rfl)⟩

theorem g_ti127 : TIOK Go.Proofs.Tryz.prog 127 ⟨1, .func, none, [.nilf], 4398046511104⟩ :=
  ⟨Go.Proofs.Tryz.t127, _, by kernel_rfl, Go.Proofs.Tryz.underlying127, by kernel_rfl, ⟨_, _, _, rfl⟩, ⟨_, rfl, by kernel_rfl, by kernel_rfl⟩, of_decide_eq_true (by kernel_rfl), of_decide_eq_true (by kernel_rfl)⟩

theorem g_ti130 : TIOK Go.Proofs.Tryz.prog 130 ⟨2, (.struct [(0, 3), (1, 3)]), (some YReadMark), [.pv (.int .i64) 0, .pv (.int .i64) 0], 2199023255552⟩ :=
  ⟨Go.Proofs.Tryz.t130, _, by kernel_rfl, Go.Proofs.Tryz.underlying130, by kernel_rfl, ⟨_, rfl, by kernel_rfl, by kernel_rfl, by kernel_rfl, by kernel_rfl, of_decide_eq_true (by kernel_rfl)⟩, ⟨_, rfl, by kernel_rfl, by kernel_rfl⟩, of_decide_eq_true (by kernel_rfl), of_decide_eq_true (by kernel_rfl)⟩

theorem g_ti146 : TIOK Go.Proofs.Tryz.prog 146 ⟨1, .func, none, [.nilf], 4398046511104⟩ :=
  ⟨Go.Proofs.Tryz.t146, _, by kernel_rfl, Go.Proofs.Tryz.underlying146, by kernel_rfl, ⟨_, _, _, rfl⟩, ⟨_, rfl, by kernel_rfl, by kernel_rfl⟩, of_decide_eq_true (by kernel_rfl), of_decide_eq_true (by kernel_rfl)⟩

theorem g_ti148 : TIOK Go.Proofs.Tryz.prog 148 ⟨5, (.struct [(0, 3), (1, 3), (2, 3), (3, 3), (4, 3)]), (some YVersion), [.pv (.int .i64) 0, .pv (.int .i64) 0, .pv (.int .i64) 0, .pv (.int .i64) 0, .pv (.int .i64) 0], 879609302220⟩ :=
  ⟨Go.Proofs.Tryz.t148, _, by kernel_rfl, Go.Proofs.Tryz.underlying148, by kernel_rfl, ⟨_, rfl, by kernel_rfl, by kernel_rfl, by kernel_rfl, by kernel_rfl, of_decide_eq_true (by kernel_rfl)⟩, ⟨_, rfl, by kernel_rfl, by kernel_rfl⟩, of_decide_eq_true (by kernel_rfl), of_decide_eq_true (by kernel_rfl)⟩

theorem g_ti150 : TIOK Go.Proofs.Tryz.prog 150 ⟨2, (.struct [(0, 3), (1, 3)]), (some YReadMark), [.pv (.int .i64) 0, .pv (.int .i64) 0], 2199023255552⟩ :=
  ⟨Go.Proofs.Tryz.t150, _, by kernel_rfl, Go.Proofs.Tryz.underlying150, by kernel_rfl, ⟨_, rfl, by kernel_rfl, by kernel_rfl, by kernel_rfl, by kernel_rfl, of_decide_eq_true (by kernel_rfl)⟩, ⟨_, rfl, by kernel_rfl, by kernel_rfl⟩, of_decide_eq_true (by kernel_rfl), of_decide_eq_true (by kernel_rfl)⟩

theorem g_ti152 : TIOK Go.Proofs.Tryz.prog 152 ⟨2, (.struct [(0, 3), (1, 3)]), (some YReadMark), [.pv (.int .i64) 0, .pv (.int .i64) 0], 2199023255552⟩ :=
  ⟨Go.Proofs.Tryz.t152, _, by kernel_rfl, Go.Proofs.Tryz.underlying152, by kernel_rfl, ⟨_, rfl, by kernel_rfl, by kernel_rfl, by kernel_rfl, by kernel_rfl, of_decide_eq_true (by kernel_rfl)⟩, ⟨_, rfl, by kernel_rfl, by kernel_rfl⟩, of_decide_eq_true (by kernel_rfl), of_decide_eq_true (by kernel_rfl)⟩

theorem g_ti156 : TIOK Go.Proofs.Tryz.prog 156 ⟨1, (.ptr 53), (some (.iref YVersion)), [.nilp], 4398046511104⟩ :=
  ⟨Go.Proofs.Tryz.t156, _, by kernel_rfl, Go.Proofs.Tryz.underlying156, by kernel_rfl, rfl, ⟨_, rfl, by kernel_rfl, by kernel_rfl⟩, of_decide_eq_true (by kernel_rfl), of_decide_eq_true (by kernel_rfl)⟩

theorem g_ti158 : TIOK Go.Proofs.Tryz.prog 158 ⟨1, .func, none, [.nilf], 4398046511104⟩ :=
  ⟨Go.Proofs.Tryz.t158, _, by kernel_rfl, Go.Proofs.Tryz.underlying158, by kernel_rfl, ⟨_, _, _, rfl⟩, ⟨_, rfl, by kernel_rfl, by kernel_rfl⟩, of_decide_eq_true (by kernel_rfl), of_decide_eq_true (by kernel_rfl)⟩

theorem g_ti170 : TIOK Go.Proofs.Tryz.prog 170 ⟨1, (.slice 3), (some (.slice .i)), [.nils], 1466015503701⟩ :=
  ⟨Go.Proofs.Tryz.t170, _, by kernel_rfl, Go.Proofs.Tryz.underlying170, by kernel_rfl, rfl, ⟨_, rfl, by kernel_rfl, by kernel_rfl⟩, of_decide_eq_true (by kernel_rfl), of_decide_eq_true (by kernel_rfl)⟩

theorem g_tisOK : ∀ p ∈ g_tis, TIOK Go.Proofs.Tryz.prog p.1 p.2 := (all_cons g_ti3 (all_cons g_ti4 (all_cons g_ti22 (all_cons g_ti24 (all_cons g_ti25 (all_cons g_ti26 (all_cons g_ti27 (all_cons g_ti29 (all_cons g_ti31 (all_cons g_ti33 (all_cons g_ti34 (all_cons g_ti35 (all_cons g_ti36 (all_cons g_ti38 (all_cons g_ti51 (all_cons g_ti53 (all_cons g_ti72 (all_cons g_ti73 (all_cons g_ti75 (all_cons g_ti78 (all_cons g_ti79 (all_cons g_ti81 (all_cons g_ti87 (all_cons g_ti91 (all_cons g_ti93 (all_cons g_ti98 (all_cons g_ti102 (all_cons g_ti104 (all_cons g_ti111 (all_cons g_ti113 (all_cons g_ti123 (all_cons g_ti127 (all_cons g_ti130 (all_cons g_ti146 (all_cons g_ti148 (all_cons g_ti150 (all_cons g_ti152 (all_cons g_ti156 (all_cons g_ti158 (all_cons g_ti170 all_nil))))))))))))))))))))))))))))))))))))))))

theorem g_wide : Go.Proofs.Tryz.prog.follows .mixedOrders = true := by kernel_rfl

end Go.Ab
