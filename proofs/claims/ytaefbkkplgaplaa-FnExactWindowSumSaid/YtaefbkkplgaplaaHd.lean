import Derived.Test.YtaefbkkplgaplaaAbPlain
import Derived.Test.YtaefbkkplgaplaaProg
import Derived.KernelRfl
set_option maxRecDepth 100000
namespace Go.Ab

abbrev YVersion : Ty := (.prod .i (.prod .i (.prod .i (.prod .i (.prod .i .unit)))))

abbrev YStore : Ty := (.prod (.slice (.slice YVersion)) .unit)

abbrev YReplica : Ty := (.prod .i (.prod .i (.prod YStore .unit)))

abbrev YReadMark : Ty := (.prod .i (.prod .i .unit))

abbrev YEntry : Ty := (.prod .i (.prod .i (.prod (.slice YReadMark) (.prod (.slice YReadMark) .unit))))

abbrev YLogRecord : Ty := (.prod .i (.prod .i YEntry))

abbrev YTransaction : Ty := (.prod .i (.prod .i (.prod .i YLogRecord)))

abbrev YEngine : Ty := (.prod .bool (.prod YStore (.prod (.slice YTransaction) (.prod (.slice YReadMark) (.prod (.slice YReadMark) (.prod .i .unit))))))

noncomputable def g_tis : List (TypeId × TI) := [(3, ⟨1, (.int .i64), (some .i), [.pv (.int .i64) 0], 4398046511104⟩),
 (4, ⟨1, .bool, (some .bool), [.b false], 35184372088832⟩),
 (22, ⟨1, (.slice 112), (some (.slice (.slice YVersion))), [.nils], 1466015503701⟩),
 (24, ⟨1, (.struct [(0, 22)]), (some YStore), [.nils], 1466015503701⟩),
 (26, ⟨3, (.struct [(0, 3), (1, 3), (2, 24)]), (some YReplica), [.pv (.int .i64) 0, .pv (.int .i64) 0, .nils], 879609302220⟩),
 (31, ⟨1, (.slice 139), (some (.slice (.slice YVersion))), [.nils], 1466015503701⟩),
 (33, ⟨1, (.struct [(0, 31)]), (some YStore), [.nils], 1466015503701⟩),
 (35, ⟨3, (.struct [(0, 3), (1, 3), (2, 33)]), (some YReplica), [.pv (.int .i64) 0, .pv (.int .i64) 0, .nils], 879609302220⟩),
 (37, ⟨1, (.slice 115), (some (.slice YReadMark)), [.nils], 1466015503701⟩),
 (38, ⟨1, (.slice 111), (some (.slice YReadMark)), [.nils], 1466015503701⟩),
 (40, ⟨4, (.struct [(0, 3), (1, 3), (2, 37), (3, 38)]), (some YEntry), [.pv (.int .i64) 0, .pv (.int .i64) 0, .nils, .nils], 549755813888⟩),
 (47, ⟨1, (.slice 147), (some (.slice YReadMark)), [.nils], 1466015503701⟩),
 (48, ⟨1, (.slice 149), (some (.slice YReadMark)), [.nils], 1466015503701⟩),
 (50, ⟨6, (.struct [(0, 3), (1, 3), (2, 3), (3, 3), (4, 47), (5, 48)]), (some YLogRecord), [.pv (.int .i64) 0, .pv (.int .i64) 0, .pv (.int .i64) 0, .pv (.int .i64) 0, .nils, .nils], 439804651110⟩),
 (57, ⟨6, (.struct [(0, 3), (1, 3), (2, 3), (3, 3), (4, 37), (5, 38)]), (some YLogRecord), [.pv (.int .i64) 0, .pv (.int .i64) 0, .pv (.int .i64) 0, .pv (.int .i64) 0, .nils, .nils], 439804651110⟩),
 (67, ⟨1, (.slice 158), (some (.slice YTransaction)), [.nils], 1466015503701⟩),
 (68, ⟨1, (.slice 168), (some (.slice YReadMark)), [.nils], 1466015503701⟩),
 (69, ⟨1, (.slice 170), (some (.slice YReadMark)), [.nils], 1466015503701⟩),
 (71, ⟨6, (.struct [(0, 4), (1, 33), (2, 67), (3, 68), (4, 69), (5, 3)]), (some YEngine), [.b false, .nils, .nils, .nils, .nils, .pv (.int .i64) 0], 314146179364⟩),
 (74, ⟨1, (.slice 99), (some (.slice YTransaction)), [.nils], 1466015503701⟩),
 (75, ⟨1, (.slice 163), (some (.slice YReadMark)), [.nils], 1466015503701⟩),
 (76, ⟨1, (.slice 165), (some (.slice YReadMark)), [.nils], 1466015503701⟩),
 (78, ⟨6, (.struct [(0, 4), (1, 24), (2, 74), (3, 75), (4, 76), (5, 3)]), (some YEngine), [.b false, .nils, .nils, .nils, .nils, .pv (.int .i64) 0], 314146179364⟩),
 (99, ⟨9, (.struct [(0, 3), (1, 3), (2, 3), (3, 3), (4, 3), (5, 3), (6, 3), (7, 37), (8, 38)]), (some YTransaction), [.pv (.int .i64) 0, .pv (.int .i64) 0, .pv (.int .i64) 0, .pv (.int .i64) 0, .pv (.int .i64) 0, .pv (.int .i64) 0, .pv (.int .i64) 0, .nils, .nils], 338311270084⟩),
 (111, ⟨2, (.struct [(0, 3), (1, 3)]), (some YReadMark), [.pv (.int .i64) 0, .pv (.int .i64) 0], 2199023255552⟩),
 (112, ⟨1, (.slice 119), (some (.slice YVersion)), [.nils], 1466015503701⟩),
 (113, ⟨1, .func, none, [.nilf], 4398046511104⟩),
 (115, ⟨2, (.struct [(0, 3), (1, 3)]), (some YReadMark), [.pv (.int .i64) 0, .pv (.int .i64) 0], 2199023255552⟩),
 (116, ⟨1, (.ptr 119), (some (.iref YVersion)), [.nilp], 4398046511104⟩),
 (119, ⟨5, (.struct [(0, 3), (1, 3), (2, 3), (3, 3), (4, 3)]), (some YVersion), [.pv (.int .i64) 0, .pv (.int .i64) 0, .pv (.int .i64) 0, .pv (.int .i64) 0, .pv (.int .i64) 0], 879609302220⟩),
 (139, ⟨1, (.slice 180), (some (.slice YVersion)), [.nils], 1466015503701⟩),
 (140, ⟨1, .func, none, [.nilf], 4398046511104⟩),
 (141, ⟨1, .func, none, [.nilf], 4398046511104⟩),
 (147, ⟨2, (.struct [(0, 3), (1, 3)]), (some YReadMark), [.pv (.int .i64) 0, .pv (.int .i64) 0], 2199023255552⟩),
 (149, ⟨2, (.struct [(0, 3), (1, 3)]), (some YReadMark), [.pv (.int .i64) 0, .pv (.int .i64) 0], 2199023255552⟩),
 (153, ⟨1, .func, none, [.nilf], 4398046511104⟩),
 (158, ⟨9, (.struct [(0, 3), (1, 3), (2, 3), (3, 3), (4, 3), (5, 3), (6, 3), (7, 47), (8, 48)]), (some YTransaction), [.pv (.int .i64) 0, .pv (.int .i64) 0, .pv (.int .i64) 0, .pv (.int .i64) 0, .pv (.int .i64) 0, .pv (.int .i64) 0, .pv (.int .i64) 0, .nils, .nils], 338311270084⟩),
 (163, ⟨2, (.struct [(0, 3), (1, 3)]), (some YReadMark), [.pv (.int .i64) 0, .pv (.int .i64) 0], 2199023255552⟩),
 (165, ⟨2, (.struct [(0, 3), (1, 3)]), (some YReadMark), [.pv (.int .i64) 0, .pv (.int .i64) 0], 2199023255552⟩),
 (168, ⟨2, (.struct [(0, 3), (1, 3)]), (some YReadMark), [.pv (.int .i64) 0, .pv (.int .i64) 0], 2199023255552⟩),
 (170, ⟨2, (.struct [(0, 3), (1, 3)]), (some YReadMark), [.pv (.int .i64) 0, .pv (.int .i64) 0], 2199023255552⟩),
 (172, ⟨1, .func, none, [.nilf], 4398046511104⟩),
 (174, ⟨1, .func, none, [.nilf], 4398046511104⟩),
 (178, ⟨1, .func, none, [.nilf], 4398046511104⟩),
 (180, ⟨5, (.struct [(0, 3), (1, 3), (2, 3), (3, 3), (4, 3)]), (some YVersion), [.pv (.int .i64) 0, .pv (.int .i64) 0, .pv (.int .i64) 0, .pv (.int .i64) 0, .pv (.int .i64) 0], 879609302220⟩),
 (192, ⟨1, (.slice 3), (some (.slice .i)), [.nils], 1466015503701⟩)]

theorem g_ti3 : TIOK Go.Proofs.Try.prog 3 ⟨1, (.int .i64), (some .i), [.pv (.int .i64) 0], 4398046511104⟩ :=
  ⟨Go.Proofs.Try.t3, _, by kernel_rfl, Go.Proofs.Try.underlying3, by kernel_rfl, rfl, ⟨_, rfl, by kernel_rfl, by kernel_rfl⟩, of_decide_eq_true (by kernel_rfl), of_decide_eq_true (by kernel_rfl)⟩

theorem g_ti4 : TIOK Go.Proofs.Try.prog 4 ⟨1, .bool, (some .bool), [.b false], 35184372088832⟩ :=
  ⟨Go.Proofs.Try.t4, _, by kernel_rfl, Go.Proofs.Try.underlying4, by kernel_rfl, rfl, ⟨_, rfl, by kernel_rfl, by kernel_rfl⟩, of_decide_eq_true (by kernel_rfl), of_decide_eq_true (by kernel_rfl)⟩

theorem g_ti22 : TIOK Go.Proofs.Try.prog 22 ⟨1, (.slice 112), (some (.slice (.slice YVersion))), [.nils], 1466015503701⟩ :=
  ⟨Go.Proofs.Try.t22, _, by kernel_rfl, Go.Proofs.Try.underlying22, by kernel_rfl, rfl, ⟨_, rfl, by kernel_rfl, by kernel_rfl⟩, of_decide_eq_true (by kernel_rfl), of_decide_eq_true (by kernel_rfl)⟩

theorem g_ti24 : TIOK Go.Proofs.Try.prog 24 ⟨1, (.struct [(0, 22)]), (some YStore), [.nils], 1466015503701⟩ :=
  ⟨Go.Proofs.Try.t24, _, by kernel_rfl, Go.Proofs.Try.underlying24, by kernel_rfl, ⟨_, rfl, by kernel_rfl, by kernel_rfl, by kernel_rfl, by kernel_rfl, of_decide_eq_true (by kernel_rfl)⟩, ⟨_, rfl, by kernel_rfl, by kernel_rfl⟩, of_decide_eq_true (by kernel_rfl), of_decide_eq_true (by kernel_rfl)⟩

theorem g_ti26 : TIOK Go.Proofs.Try.prog 26 ⟨3, (.struct [(0, 3), (1, 3), (2, 24)]), (some YReplica), [.pv (.int .i64) 0, .pv (.int .i64) 0, .nils], 879609302220⟩ :=
  ⟨Go.Proofs.Try.t26, _, by kernel_rfl, Go.Proofs.Try.underlying26, by kernel_rfl, ⟨_, rfl, by kernel_rfl, by kernel_rfl, by kernel_rfl, by kernel_rfl, of_decide_eq_true (by kernel_rfl)⟩, ⟨_, rfl, by kernel_rfl, by kernel_rfl⟩, of_decide_eq_true (by kernel_rfl), of_decide_eq_true (by kernel_rfl)⟩

theorem g_ti31 : TIOK Go.Proofs.Try.prog 31 ⟨1, (.slice 139), (some (.slice (.slice YVersion))), [.nils], 1466015503701⟩ :=
  ⟨Go.Proofs.Try.t31, _, by kernel_rfl, Go.Proofs.Try.underlying31, by kernel_rfl, rfl, ⟨_, rfl, by kernel_rfl, by kernel_rfl⟩, of_decide_eq_true (by kernel_rfl), of_decide_eq_true (by kernel_rfl)⟩

theorem g_ti33 : TIOK Go.Proofs.Try.prog 33 ⟨1, (.struct [(0, 31)]), (some YStore), [.nils], 1466015503701⟩ :=
  ⟨Go.Proofs.Try.t33, _, by kernel_rfl, Go.Proofs.Try.underlying33, by kernel_rfl, ⟨_, rfl, by kernel_rfl, by kernel_rfl, by kernel_rfl, by kernel_rfl, of_decide_eq_true (by kernel_rfl)⟩, ⟨_, rfl, by kernel_rfl, by kernel_rfl⟩, of_decide_eq_true (by kernel_rfl), of_decide_eq_true (by kernel_rfl)⟩

theorem g_ti35 : TIOK Go.Proofs.Try.prog 35 ⟨3, (.struct [(0, 3), (1, 3), (2, 33)]), (some YReplica), [.pv (.int .i64) 0, .pv (.int .i64) 0, .nils], 879609302220⟩ :=
  ⟨Go.Proofs.Try.t35, _, by kernel_rfl, Go.Proofs.Try.underlying35, by kernel_rfl, ⟨_, rfl, by kernel_rfl, by kernel_rfl, by kernel_rfl, by kernel_rfl, of_decide_eq_true (by kernel_rfl)⟩, ⟨_, rfl, by kernel_rfl, by kernel_rfl⟩, of_decide_eq_true (by kernel_rfl), of_decide_eq_true (by kernel_rfl)⟩

theorem g_ti37 : TIOK Go.Proofs.Try.prog 37 ⟨1, (.slice 115), (some (.slice YReadMark)), [.nils], 1466015503701⟩ :=
  ⟨Go.Proofs.Try.t37, _, by kernel_rfl, Go.Proofs.Try.underlying37, by kernel_rfl, rfl, ⟨_, rfl, by kernel_rfl, by kernel_rfl⟩, of_decide_eq_true (by kernel_rfl), of_decide_eq_true (by kernel_rfl)⟩

theorem g_ti38 : TIOK Go.Proofs.Try.prog 38 ⟨1, (.slice 111), (some (.slice YReadMark)), [.nils], 1466015503701⟩ :=
  ⟨Go.Proofs.Try.t38, _, by kernel_rfl, Go.Proofs.Try.underlying38, by kernel_rfl, rfl, ⟨_, rfl, by kernel_rfl, by kernel_rfl⟩, of_decide_eq_true (by kernel_rfl), of_decide_eq_true (by kernel_rfl)⟩

theorem g_ti40 : TIOK Go.Proofs.Try.prog 40 ⟨4, (.struct [(0, 3), (1, 3), (2, 37), (3, 38)]), (some YEntry), [.pv (.int .i64) 0, .pv (.int .i64) 0, .nils, .nils], 549755813888⟩ :=
  ⟨Go.Proofs.Try.t40, _, by kernel_rfl, Go.Proofs.Try.underlying40, by kernel_rfl, ⟨_, rfl, by kernel_rfl, by kernel_rfl, by kernel_rfl, by kernel_rfl, of_decide_eq_true (by kernel_rfl)⟩, ⟨_, rfl, by kernel_rfl, by kernel_rfl⟩, of_decide_eq_true (by kernel_rfl), of_decide_eq_true (by kernel_rfl)⟩

theorem g_ti47 : TIOK Go.Proofs.Try.prog 47 ⟨1, (.slice 147), (some (.slice YReadMark)), [.nils], 1466015503701⟩ :=
  ⟨Go.Proofs.Try.t47, _, by kernel_rfl, Go.Proofs.Try.underlying47, by kernel_rfl, rfl, ⟨_, rfl, by kernel_rfl, by kernel_rfl⟩, of_decide_eq_true (by kernel_rfl), of_decide_eq_true (by kernel_rfl)⟩

theorem g_ti48 : TIOK Go.Proofs.Try.prog 48 ⟨1, (.slice 149), (some (.slice YReadMark)), [.nils], 1466015503701⟩ :=
  ⟨Go.Proofs.Try.t48, _, by kernel_rfl, Go.Proofs.Try.underlying48, by kernel_rfl, rfl, ⟨_, rfl, by kernel_rfl, by kernel_rfl⟩, of_decide_eq_true (by kernel_rfl), of_decide_eq_true (by kernel_rfl)⟩

theorem g_ti50 : TIOK Go.Proofs.Try.prog 50 ⟨6, (.struct [(0, 3), (1, 3), (2, 3), (3, 3), (4, 47), (5, 48)]), (some YLogRecord), [.pv (.int .i64) 0, .pv (.int .i64) 0, .pv (.int .i64) 0, .pv (.int .i64) 0, .nils, .nils], 439804651110⟩ :=
  ⟨Go.Proofs.Try.t50, _, by kernel_rfl, Go.Proofs.Try.underlying50, by kernel_rfl, ⟨_, rfl, by kernel_rfl, by kernel_rfl, by kernel_rfl, by kernel_rfl, of_decide_eq_true (by kernel_rfl)⟩, ⟨_, rfl, by kernel_rfl, by kernel_rfl⟩, of_decide_eq_true (by kernel_rfl), of_decide_eq_true (by kernel_rfl)⟩

theorem g_ti57 : TIOK Go.Proofs.Try.prog 57 ⟨6, (.struct [(0, 3), (1, 3), (2, 3), (3, 3), (4, 37), (5, 38)]), (some YLogRecord), [.pv (.int .i64) 0, .pv (.int .i64) 0, .pv (.int .i64) 0, .pv (.int .i64) 0, .nils, .nils], 439804651110⟩ :=
  ⟨Go.Proofs.Try.t57, _, by kernel_rfl, Go.Proofs.Try.underlying57, by kernel_rfl, ⟨_, rfl, by kernel_rfl, by kernel_rfl, by kernel_rfl, by kernel_rfl, of_decide_eq_true (by kernel_rfl)⟩, ⟨_, rfl, by kernel_rfl, by kernel_rfl⟩, of_decide_eq_true (by kernel_rfl), of_decide_eq_true (by kernel_rfl)⟩

theorem g_ti67 : TIOK Go.Proofs.Try.prog 67 ⟨1, (.slice 158), (some (.slice YTransaction)), [.nils], 1466015503701⟩ :=
  ⟨Go.Proofs.Try.t67, _, by kernel_rfl, Go.Proofs.Try.underlying67, by kernel_rfl, rfl, ⟨_, rfl, by kernel_rfl, by kernel_rfl⟩, of_decide_eq_true (by kernel_rfl), of_decide_eq_true (by kernel_rfl)⟩

theorem g_ti68 : TIOK Go.Proofs.Try.prog 68 ⟨1, (.slice 168), (some (.slice YReadMark)), [.nils], 1466015503701⟩ :=
  ⟨Go.Proofs.Try.t68, _, by kernel_rfl, Go.Proofs.Try.underlying68, by kernel_rfl, rfl, ⟨_, rfl, by kernel_rfl, by kernel_rfl⟩, of_decide_eq_true (by kernel_rfl), of_decide_eq_true (by kernel_rfl)⟩

theorem g_ti69 : TIOK Go.Proofs.Try.prog 69 ⟨1, (.slice 170), (some (.slice YReadMark)), [.nils], 1466015503701⟩ :=
  ⟨Go.Proofs.Try.t69, _, by kernel_rfl, Go.Proofs.Try.underlying69, by kernel_rfl, rfl, ⟨_, rfl, by kernel_rfl, by kernel_rfl⟩, of_decide_eq_true (by kernel_rfl), of_decide_eq_true (by kernel_rfl)⟩

theorem g_ti71 : TIOK Go.Proofs.Try.prog 71 ⟨6, (.struct [(0, 4), (1, 33), (2, 67), (3, 68), (4, 69), (5, 3)]), (some YEngine), [.b false, .nils, .nils, .nils, .nils, .pv (.int .i64) 0], 314146179364⟩ :=
  ⟨Go.Proofs.Try.t71, _, by kernel_rfl, Go.Proofs.Try.underlying71, by kernel_rfl, ⟨_, rfl, by kernel_rfl, by kernel_rfl, by kernel_rfl, by kernel_rfl, of_decide_eq_true (by kernel_rfl)⟩, ⟨_, rfl, by kernel_rfl, by kernel_rfl⟩, of_decide_eq_true (by kernel_rfl), of_decide_eq_true (by kernel_rfl)⟩

theorem g_ti74 : TIOK Go.Proofs.Try.prog 74 ⟨1, (.slice 99), (some (.slice YTransaction)), [.nils], 1466015503701⟩ :=
  ⟨Go.Proofs.Try.t74, _, by kernel_rfl, Go.Proofs.Try.underlying74, by kernel_rfl, rfl, ⟨_, rfl, by kernel_rfl, by kernel_rfl⟩, of_decide_eq_true (by kernel_rfl), of_decide_eq_true (by kernel_rfl)⟩

theorem g_ti75 : TIOK Go.Proofs.Try.prog 75 ⟨1, (.slice 163), (some (.slice YReadMark)), [.nils], 1466015503701⟩ :=
  ⟨Go.Proofs.Try.t75, _, by kernel_rfl, Go.Proofs.Try.underlying75, by kernel_rfl, rfl, ⟨_, rfl, by kernel_rfl, by kernel_rfl⟩, of_decide_eq_true (by kernel_rfl), of_decide_eq_true (by kernel_rfl)⟩

theorem g_ti76 : TIOK Go.Proofs.Try.prog 76 ⟨1, (.slice 165), (some (.slice YReadMark)), [.nils], 1466015503701⟩ :=
  ⟨Go.Proofs.Try.t76, _, by kernel_rfl, Go.Proofs.Try.underlying76, by kernel_rfl, rfl, ⟨_, rfl, by kernel_rfl, by kernel_rfl⟩, of_decide_eq_true (by kernel_rfl), of_decide_eq_true (by kernel_rfl)⟩

theorem g_ti78 : TIOK Go.Proofs.Try.prog 78 ⟨6, (.struct [(0, 4), (1, 24), (2, 74), (3, 75), (4, 76), (5, 3)]), (some YEngine), [.b false, .nils, .nils, .nils, .nils, .pv (.int .i64) 0], 314146179364⟩ :=
  ⟨Go.Proofs.Try.t78, _, by kernel_rfl, Go.Proofs.Try.underlying78, by kernel_rfl, ⟨_, rfl, by kernel_rfl, by kernel_rfl, by kernel_rfl, by kernel_rfl, of_decide_eq_true (by kernel_rfl)⟩, ⟨_, rfl, by kernel_rfl, by kernel_rfl⟩, of_decide_eq_true (by kernel_rfl), of_decide_eq_true (by kernel_rfl)⟩

theorem g_ti99 : TIOK Go.Proofs.Try.prog 99 ⟨9, (.struct [(0, 3), (1, 3), (2, 3), (3, 3), (4, 3), (5, 3), (6, 3), (7, 37), (8, 38)]), (some YTransaction), [.pv (.int .i64) 0, .pv (.int .i64) 0, .pv (.int .i64) 0, .pv (.int .i64) 0, .pv (.int .i64) 0, .pv (.int .i64) 0, .pv (.int .i64) 0, .nils, .nils], 338311270084⟩ :=
  ⟨Go.Proofs.Try.t99, _, by kernel_rfl, Go.Proofs.Try.underlying99, by kernel_rfl, ⟨_, rfl, by kernel_rfl, by kernel_rfl, by kernel_rfl, by kernel_rfl, of_decide_eq_true (by kernel_rfl)⟩, ⟨_, rfl, by kernel_rfl, by kernel_rfl⟩, of_decide_eq_true (by kernel_rfl), of_decide_eq_true (by kernel_rfl)⟩

theorem g_ti111 : TIOK Go.Proofs.Try.prog 111 ⟨2, (.struct [(0, 3), (1, 3)]), (some YReadMark), [.pv (.int .i64) 0, .pv (.int .i64) 0], 2199023255552⟩ :=
  ⟨Go.Proofs.Try.t111, _, by kernel_rfl, Go.Proofs.Try.underlying111, by kernel_rfl, ⟨_, rfl, by kernel_rfl, by kernel_rfl, by kernel_rfl, by kernel_rfl, of_decide_eq_true (by kernel_rfl)⟩, ⟨_, rfl, by kernel_rfl, by kernel_rfl⟩, of_decide_eq_true (by kernel_rfl), of_decide_eq_true (by kernel_rfl)⟩

theorem g_ti112 : TIOK Go.Proofs.Try.prog 112 ⟨1, (.slice 119), (some (.slice YVersion)), [.nils], 1466015503701⟩ :=
  ⟨Go.Proofs.Try.t112, _, by kernel_rfl, Go.Proofs.Try.underlying112, by kernel_rfl, rfl, ⟨_, rfl, by kernel_rfl, by kernel_rfl⟩, of_decide_eq_true (by kernel_rfl), of_decide_eq_true (by kernel_rfl)⟩

theorem g_ti113 : TIOK Go.Proofs.Try.prog 113 ⟨1, .func, none, [.nilf], 4398046511104⟩ :=
  ⟨Go.Proofs.Try.t113, _, by kernel_rfl, Go.Proofs.Try.underlying113, by kernel_rfl, ⟨_, _, _, rfl⟩, ⟨_, rfl, by kernel_rfl, by kernel_rfl⟩, of_decide_eq_true (by kernel_rfl), of_decide_eq_true (by kernel_rfl)⟩

theorem g_ti115 : TIOK Go.Proofs.Try.prog 115 ⟨2, (.struct [(0, 3), (1, 3)]), (some YReadMark), [.pv (.int .i64) 0, .pv (.int .i64) 0], 2199023255552⟩ :=
  ⟨Go.Proofs.Try.t115, _, by kernel_rfl, Go.Proofs.Try.underlying115, by kernel_rfl, ⟨_, rfl, by kernel_rfl, by kernel_rfl, by kernel_rfl, by kernel_rfl, of_decide_eq_true (by kernel_rfl)⟩, ⟨_, rfl, by kernel_rfl, by kernel_rfl⟩, of_decide_eq_true (by kernel_rfl), of_decide_eq_true (by kernel_rfl)⟩

theorem g_ti116 : TIOK Go.Proofs.Try.prog 116 ⟨1, (.ptr 119), (some (.iref YVersion)), [.nilp], 4398046511104⟩ :=
  ⟨Go.Proofs.Try.t116, _, by kernel_rfl, Go.Proofs.Try.underlying116, by kernel_rfl, rfl, ⟨_, rfl, by kernel_rfl, by kernel_rfl⟩, of_decide_eq_true (by kernel_rfl), of_decide_eq_true (by kernel_rfl)⟩

theorem g_ti119 : TIOK Go.Proofs.Try.prog 119 ⟨5, (.struct [(0, 3), (1, 3), (2, 3), (3, 3), (4, 3)]), (some YVersion), [.pv (.int .i64) 0, .pv (.int .i64) 0, .pv (.int .i64) 0, .pv (.int .i64) 0, .pv (.int .i64) 0], 879609302220⟩ :=
  ⟨Go.Proofs.Try.t119, _, by kernel_rfl, Go.Proofs.Try.underlying119, by kernel_rfl, ⟨_, rfl, by kernel_rfl, by kernel_rfl, by kernel_rfl, by kernel_rfl, of_decide_eq_true (by kernel_rfl)⟩, ⟨_, rfl, by kernel_rfl, by kernel_rfl⟩, of_decide_eq_true (by kernel_rfl), of_decide_eq_true (by kernel_rfl)⟩

theorem g_ti139 : TIOK Go.Proofs.Try.prog 139 ⟨1, (.slice 180), (some (.slice YVersion)), [.nils], 1466015503701⟩ :=
  ⟨Go.Proofs.Try.t139, _, by kernel_rfl, Go.Proofs.Try.underlying139, by kernel_rfl, rfl, ⟨_, rfl, by kernel_rfl, by kernel_rfl⟩, of_decide_eq_true (by kernel_rfl), of_decide_eq_true (by kernel_rfl)⟩

theorem g_ti140 : TIOK Go.Proofs.Try.prog 140 ⟨1, .func, none, [.nilf], 4398046511104⟩ :=
  ⟨Go.Proofs.Try.t140, _, by kernel_rfl, Go.Proofs.Try.underlying140, by kernel_rfl, ⟨_, _, _, rfl⟩, ⟨_, rfl, by kernel_rfl, by kernel_rfl⟩, of_decide_eq_true (by kernel_rfl), of_decide_eq_true (by kernel_rfl)⟩

theorem g_ti141 : TIOK Go.Proofs.Try.prog 141 ⟨1, .func, none, [.nilf], 4398046511104⟩ :=
  ⟨Go.Proofs.Try.t141, _, by kernel_rfl, Go.Proofs.Try.underlying141, by kernel_rfl, ⟨_, _, _, rfl⟩, ⟨_, rfl, by kernel_rfl, by kernel_rfl⟩, of_decide_eq_true (by kernel_rfl), of_decide_eq_true (by kernel_rfl)⟩

theorem g_ti147 : TIOK Go.Proofs.Try.prog 147 ⟨2, (.struct [(0, 3), (1, 3)]), (some YReadMark), [.pv (.int .i64) 0, .pv (.int .i64) 0], 2199023255552⟩ :=
  ⟨Go.Proofs.Try.t147, _, by kernel_rfl, Go.Proofs.Try.underlying147, by kernel_rfl, ⟨_, rfl, by kernel_rfl, by kernel_rfl, by kernel_rfl, by kernel_rfl, of_decide_eq_true (by kernel_rfl)⟩, ⟨_, rfl, by kernel_rfl, by kernel_rfl⟩, of_decide_eq_true (by kernel_rfl), of_decide_eq_true (by kernel_rfl)⟩

theorem g_ti149 : TIOK Go.Proofs.Try.prog 149 ⟨2, (.struct [(0, 3), (1, 3)]), (some YReadMark), [.pv (.int .i64) 0, .pv (.int .i64) 0], 2199023255552⟩ :=
  ⟨Go.Proofs.Try.t149, _, by kernel_rfl, Go.Proofs.Try.underlying149, by kernel_rfl, ⟨_, rfl, by kernel_rfl, by kernel_rfl, by kernel_rfl, by kernel_rfl, of_decide_eq_true (by kernel_rfl)⟩, ⟨_, rfl, by kernel_rfl, by kernel_rfl⟩, of_decide_eq_true (by kernel_rfl), of_decide_eq_true (by kernel_rfl)⟩

theorem g_ti153 : TIOK Go.Proofs.Try.prog 153 ⟨1, .func, none, [.nilf], 4398046511104⟩ :=
  ⟨Go.Proofs.Try.t153, _, by kernel_rfl, Go.Proofs.Try.underlying153, by kernel_rfl, ⟨_, _, _, rfl⟩, ⟨_, rfl, by kernel_rfl, by kernel_rfl⟩, of_decide_eq_true (by kernel_rfl), of_decide_eq_true (by kernel_rfl)⟩

theorem g_ti158 : TIOK Go.Proofs.Try.prog 158 ⟨9, (.struct [(0, 3), (1, 3), (2, 3), (3, 3), (4, 3), (5, 3), (6, 3), (7, 47), (8, 48)]), (some YTransaction), [.pv (.int .i64) 0, .pv (.int .i64) 0, .pv (.int .i64) 0, .pv (.int .i64) 0, .pv (.int .i64) 0, .pv (.int .i64) 0, .pv (.int .i64) 0, .nils, .nils], 338311270084⟩ :=
  ⟨Go.Proofs.Try.t158, _, by kernel_rfl, Go.Proofs.Try.underlying158, by kernel_rfl, ⟨_, rfl, by kernel_rfl, by kernel_rfl, by kernel_rfl, by kernel_rfl, of_decide_eq_true (by kernel_rfl)⟩, ⟨_, rfl, by kernel_rfl, by kernel_rfl⟩, of_decide_eq_true (by kernel_rfl), of_decide_eq_true (by kernel_rfl)⟩

theorem g_ti163 : TIOK Go.Proofs.Try.prog 163 ⟨2, (.struct [(0, 3), (1, 3)]), (some YReadMark), [.pv (.int .i64) 0, .pv (.int .i64) 0], 2199023255552⟩ :=
  ⟨Go.Proofs.Try.t163, _, by kernel_rfl, Go.Proofs.Try.underlying163, by kernel_rfl, ⟨_, rfl, by kernel_rfl, by kernel_rfl, by kernel_rfl, by kernel_rfl, of_decide_eq_true (by kernel_rfl)⟩, ⟨_, rfl, by kernel_rfl, by kernel_rfl⟩, of_decide_eq_true (by kernel_rfl), of_decide_eq_true (by kernel_rfl)⟩

theorem g_ti165 : TIOK Go.Proofs.Try.prog 165 ⟨2, (.struct [(0, 3), (1, 3)]), (some YReadMark), [.pv (.int .i64) 0, .pv (.int .i64) 0], 2199023255552⟩ :=
  ⟨Go.Proofs.Try.t165, _, by kernel_rfl, Go.Proofs.Try.underlying165, by kernel_rfl, ⟨_, rfl, by kernel_rfl, by kernel_rfl, by kernel_rfl, by kernel_rfl, of_decide_eq_true (by kernel_rfl)⟩, ⟨_, rfl, by kernel_rfl, by kernel_rfl⟩, of_decide_eq_true (by kernel_rfl), of_decide_eq_true (by kernel_rfl)⟩

theorem g_ti168 : TIOK Go.Proofs.Try.prog 168 ⟨2, (.struct [(0, 3), (1, 3)]), (some YReadMark), [.pv (.int .i64) 0, .pv (.int .i64) 0], 2199023255552⟩ :=
  ⟨Go.Proofs.Try.t168, _, by kernel_rfl, Go.Proofs.Try.underlying168, by kernel_rfl, ⟨_, rfl, by kernel_rfl, by kernel_rfl, by kernel_rfl, by kernel_rfl, of_decide_eq_true (by kernel_rfl)⟩, ⟨_, rfl, by kernel_rfl, by kernel_rfl⟩, of_decide_eq_true (by kernel_rfl), of_decide_eq_true (by kernel_rfl)⟩

theorem g_ti170 : TIOK Go.Proofs.Try.prog 170 ⟨2, (.struct [(0, 3), (1, 3)]), (some YReadMark), [.pv (.int .i64) 0, .pv (.int .i64) 0], 2199023255552⟩ :=
  ⟨Go.Proofs.Try.t170, _, by kernel_rfl, Go.Proofs.Try.underlying170, by kernel_rfl, ⟨_, rfl, by kernel_rfl, by kernel_rfl, by kernel_rfl, by kernel_rfl, of_decide_eq_true (by kernel_rfl)⟩, ⟨_, rfl, by kernel_rfl, by kernel_rfl⟩, of_decide_eq_true (by kernel_rfl), of_decide_eq_true (by kernel_rfl)⟩

theorem g_ti172 : TIOK Go.Proofs.Try.prog 172 ⟨1, .func, none, [.nilf], 4398046511104⟩ :=
  ⟨Go.Proofs.Try.t172, _, by kernel_rfl, Go.Proofs.Try.underlying172, by kernel_rfl, ⟨_, _, _, rfl⟩, ⟨_, rfl, by kernel_rfl, by kernel_rfl⟩, of_decide_eq_true (by kernel_rfl), of_decide_eq_true (by kernel_rfl)⟩

theorem g_ti174 : TIOK Go.Proofs.Try.prog 174 ⟨1, .func, none, [.nilf], 4398046511104⟩ :=
  ⟨Go.Proofs.Try.t174, _, by kernel_rfl, Go.Proofs.Try.underlying174, by kernel_rfl, ⟨_, _, _, rfl⟩, ⟨_, rfl, by kernel_rfl, by kernel_rfl⟩, of_decide_eq_true (by kernel_rfl), of_decide_eq_true (by kernel_rfl)⟩

theorem g_ti178 : TIOK Go.Proofs.Try.prog 178 ⟨1, .func, none, [.nilf], 4398046511104⟩ :=
  ⟨Go.Proofs.Try.t178, _, by kernel_rfl, Go.Proofs.Try.underlying178, by kernel_rfl, ⟨_, _, _, rfl⟩, ⟨_, rfl, by kernel_rfl, by kernel_rfl⟩, of_decide_eq_true (by kernel_rfl), of_decide_eq_true (by kernel_rfl)⟩

theorem g_ti180 : TIOK Go.Proofs.Try.prog 180 ⟨5, (.struct [(0, 3), (1, 3), (2, 3), (3, 3), (4, 3)]), (some YVersion), [.pv (.int .i64) 0, .pv (.int .i64) 0, .pv (.int .i64) 0, .pv (.int .i64) 0, .pv (.int .i64) 0], 879609302220⟩ :=
  ⟨Go.Proofs.Try.t180, _, by kernel_rfl, Go.Proofs.Try.underlying180, by kernel_rfl, ⟨_, rfl, by kernel_rfl, by kernel_rfl, by kernel_rfl, by kernel_rfl, of_decide_eq_true (by kernel_rfl)⟩, ⟨_, rfl, by kernel_rfl, by kernel_rfl⟩, of_decide_eq_true (by kernel_rfl), of_decide_eq_true (by kernel_rfl)⟩

theorem g_ti192 : TIOK Go.Proofs.Try.prog 192 ⟨1, (.slice 3), (some (.slice .i)), [.nils], 1466015503701⟩ :=
  ⟨Go.Proofs.Try.t192, _, by kernel_rfl, Go.Proofs.Try.underlying192, by kernel_rfl, rfl, ⟨_, rfl, by kernel_rfl, by kernel_rfl⟩, of_decide_eq_true (by kernel_rfl), of_decide_eq_true (by kernel_rfl)⟩

theorem g_tisOK : ∀ p ∈ g_tis, TIOK Go.Proofs.Try.prog p.1 p.2 := (all_cons g_ti3 (all_cons g_ti4 (all_cons g_ti22 (all_cons g_ti24 (all_cons g_ti26 (all_cons g_ti31 (all_cons g_ti33 (all_cons g_ti35 (all_cons g_ti37 (all_cons g_ti38 (all_cons g_ti40 (all_cons g_ti47 (all_cons g_ti48 (all_cons g_ti50 (all_cons g_ti57 (all_cons g_ti67 (all_cons g_ti68 (all_cons g_ti69 (all_cons g_ti71 (all_cons g_ti74 (all_cons g_ti75 (all_cons g_ti76 (all_cons g_ti78 (all_cons g_ti99 (all_cons g_ti111 (all_cons g_ti112 (all_cons g_ti113 (all_cons g_ti115 (all_cons g_ti116 (all_cons g_ti119 (all_cons g_ti139 (all_cons g_ti140 (all_cons g_ti141 (all_cons g_ti147 (all_cons g_ti149 (all_cons g_ti153 (all_cons g_ti158 (all_cons g_ti163 (all_cons g_ti165 (all_cons g_ti168 (all_cons g_ti170 (all_cons g_ti172 (all_cons g_ti174 (all_cons g_ti178 (all_cons g_ti180 (all_cons g_ti192 all_nil))))))))))))))))))))))))))))))))))))))))))))))

theorem g_wide : Go.Proofs.Try.prog.follows .mixedOrders = true := by kernel_rfl

end Go.Ab
