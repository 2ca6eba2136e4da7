import Derived.Test.YthjochcbdhiclaaGreatAbPlain
import Derived.Test.YthjochcbdhiclaaGreatAbSort
import Derived.Test.YthjochcbdhiclaaGreatProg
import Derived.KernelRfl
set_option maxRecDepth 100000
namespace Go.Ab
open Go.Proofs
abbrev YReadMark : Ty := (.prod .i (.prod .i .unit))
abbrev YEntry : Ty := (.prod .i (.prod .i (.prod (.slice YReadMark) (.prod (.slice YReadMark) .unit))))
abbrev YReport : Ty := (.prod (.slice .i) (.prod (.slice .i) (.prod .i .unit)))
abbrev YVersion : Ty := (.prod .i (.prod .i (.prod .i YReadMark)))
abbrev YStore : Ty := (.prod (.slice (.slice YVersion)) .unit)
abbrev YTransaction : Ty := (.prod .i (.prod .i (.prod .i (.prod .i (.prod .i YEntry)))))
abbrev YEngine : Ty := (.prod .bool (.prod YStore (.prod (.slice YTransaction) (.prod (.slice YReadMark) (.prod (.slice YReadMark) (.prod .i .unit))))))
abbrev YOp : Ty := (.prod .i YVersion)
abbrev YStep : Ty := (.prod .i (.prod (.slice .i) .unit))
abbrev YEdge : Ty := (.prod .i (.prod .i YReadMark))
noncomputable def g_tis : List (TypeId × TI) := [(3, ⟨1, (.int .i64), (some .i), [.pv (.int .i64) 0], 4398046511104⟩),
 (4, ⟨1, .bool, (some .bool), [.b false], 35184372088832⟩),
 (5, ⟨1, (.int .u8), (some (.int .u8)), [.pv (.int .u8) 0], 35184372088832⟩),
 (9, ⟨1, .str, (some .str), [.pv .str ⟨#[]⟩], 2199023255552⟩),
 (22, ⟨1, (.slice 104), (some (.slice YEntry)), [.nils], 1466015503701⟩),
 (24, ⟨1, (.slice 3), (some (.slice .i)), [.nils], 1466015503701⟩),
 (26, ⟨3, (.struct [(0, 24), (1, 24), (2, 3)]), (some YReport), [.nils, .nils, .pv (.int .i64) 0], 628292358729⟩),
 (29, ⟨1, (.slice 113), (some (.slice YEntry)), [.nils], 1466015503701⟩),
 (36, ⟨3, (.struct [(0, 24), (1, 24), (2, 3)]), (some YReport), [.nils, .nils, .pv (.int .i64) 0], 628292358729⟩),
 (41, ⟨1, (.slice 295), (some (.slice (.slice YVersion))), [.nils], 1466015503701⟩),
 (43, ⟨1, (.struct [(0, 41)]), (some YStore), [.nils], 1466015503701⟩),
 (44, ⟨1, (.slice 204), (some (.slice YTransaction)), [.nils], 1466015503701⟩),
 (45, ⟨1, (.slice 211), (some (.slice YReadMark)), [.nils], 1466015503701⟩),
 (46, ⟨1, (.slice 215), (some (.slice YReadMark)), [.nils], 1466015503701⟩),
 (48, ⟨6, (.struct [(0, 4), (1, 43), (2, 44), (3, 45), (4, 46), (5, 3)]), (some YEngine), [.b false, .nils, .nils, .nils, .nils, .pv (.int .i64) 0], 314146179364⟩),
 (51, ⟨1, (.slice 296), (some (.slice (.slice YVersion))), [.nils], 1466015503701⟩),
 (53, ⟨1, (.struct [(0, 51)]), (some YStore), [.nils], 1466015503701⟩),
 (54, ⟨1, (.slice 139), (some (.slice YTransaction)), [.nils], 1466015503701⟩),
 (55, ⟨1, (.slice 209), (some (.slice YReadMark)), [.nils], 1466015503701⟩),
 (56, ⟨1, (.slice 213), (some (.slice YReadMark)), [.nils], 1466015503701⟩),
 (58, ⟨6, (.struct [(0, 4), (1, 53), (2, 54), (3, 55), (4, 56), (5, 3)]), (some YEngine), [.b false, .nils, .nils, .nils, .nils, .pv (.int .i64) 0], 314146179364⟩),
 (62, ⟨1, (.slice 72), (some (.slice (.slice YOp))), [.nils], 1466015503701⟩),
 (65, ⟨1, (.slice 77), (some (.slice (.slice YOp))), [.nils], 1466015503701⟩),
 (72, ⟨1, (.slice 90), (some (.slice YOp)), [.nils], 1466015503701⟩),
 (74, ⟨1, (.slice 92), (some (.slice YStep)), [.nils], 1466015503701⟩),
 (77, ⟨1, (.slice 95), (some (.slice YOp)), [.nils], 1466015503701⟩),
 (90, ⟨6, (.struct [(0, 3), (1, 3), (2, 3), (3, 3), (4, 3), (5, 3)]), (some YOp), [.pv (.int .i64) 0, .pv (.int .i64) 0, .pv (.int .i64) 0, .pv (.int .i64) 0, .pv (.int .i64) 0, .pv (.int .i64) 0], 733007751850⟩),
 (92, ⟨2, (.struct [(0, 3), (1, 24)]), (some YStep), [.pv (.int .i64) 0, .nils], 1099511627776⟩),
 (95, ⟨6, (.struct [(0, 3), (1, 3), (2, 3), (3, 3), (4, 3), (5, 3)]), (some YOp), [.pv (.int .i64) 0, .pv (.int .i64) 0, .pv (.int .i64) 0, .pv (.int .i64) 0, .pv (.int .i64) 0, .pv (.int .i64) 0], 733007751850⟩),
 (101, ⟨1, (.slice 274), (some (.slice YReadMark)), [.nils], 1466015503701⟩),
 (102, ⟨1, (.slice 276), (some (.slice YReadMark)), [.nils], 1466015503701⟩),
 (104, ⟨4, (.struct [(0, 3), (1, 3), (2, 101), (3, 102)]), (some YEntry), [.pv (.int .i64) 0, .pv (.int .i64) 0, .nils, .nils], 549755813888⟩),
 (110, ⟨1, (.slice 169), (some (.slice YReadMark)), [.nils], 1466015503701⟩),
 (111, ⟨1, (.slice 181), (some (.slice YReadMark)), [.nils], 1466015503701⟩),
 (113, ⟨4, (.struct [(0, 3), (1, 3), (2, 110), (3, 111)]), (some YEntry), [.pv (.int .i64) 0, .pv (.int .i64) 0, .nils, .nils], 549755813888⟩),
 (119, ⟨1, (.slice 186), (some (.slice YEdge)), [.nils], 1466015503701⟩),
 (139, ⟨9, (.struct [(0, 3), (1, 3), (2, 3), (3, 3), (4, 3), (5, 3), (6, 3), (7, 110), (8, 111)]), (some YTransaction), [.pv (.int .i64) 0, .pv (.int .i64) 0, .pv (.int .i64) 0, .pv (.int .i64) 0, .pv (.int .i64) 0, .pv (.int .i64) 0, .pv (.int .i64) 0, .nils, .nils], 338311270084⟩),
 (157, ⟨1, (.ptr 58), (some (.iref YEngine)), [.nilp], 4398046511104⟩),
 (165, ⟨1, .func, none, [.nilf], 4398046511104⟩),
 (169, ⟨2, (.struct [(0, 3), (1, 3)]), (some YReadMark), [.pv (.int .i64) 0, .pv (.int .i64) 0], 2199023255552⟩),
 (175, ⟨1, .func, none, [.nilf], 4398046511104⟩),
 (181, ⟨2, (.struct [(0, 3), (1, 3)]), (some YReadMark), [.pv (.int .i64) 0, .pv (.int .i64) 0], 2199023255552⟩),
 (186, ⟨4, (.struct [(0, 3), (1, 3), (2, 3), (3, 3)]), (some YEdge), [.pv (.int .i64) 0, .pv (.int .i64) 0, .pv (.int .i64) 0, .pv (.int .i64) 0], 1099511627776⟩),
 (192, ⟨1, .func, none, [.nilf], 4398046511104⟩),
 (194, ⟨1, .func, none, [.nilf], 4398046511104⟩),
 (196, ⟨1, .func, none, [.nilf], 4398046511104⟩),
 (197, ⟨1, .func, none, [.nilf], 4398046511104⟩),
 (199, ⟨1, .func, none, [.nilf], 4398046511104⟩),
 (204, ⟨9, (.struct [(0, 3), (1, 3), (2, 3), (3, 3), (4, 3), (5, 3), (6, 3), (7, 101), (8, 102)]), (some YTransaction), [.pv (.int .i64) 0, .pv (.int .i64) 0, .pv (.int .i64) 0, .pv (.int .i64) 0, .pv (.int .i64) 0, .pv (.int .i64) 0, .pv (.int .i64) 0, .nils, .nils], 338311270084⟩),
 (209, ⟨2, (.struct [(0, 3), (1, 3)]), (some YReadMark), [.pv (.int .i64) 0, .pv (.int .i64) 0], 2199023255552⟩),
 (211, ⟨2, (.struct [(0, 3), (1, 3)]), (some YReadMark), [.pv (.int .i64) 0, .pv (.int .i64) 0], 2199023255552⟩),
 (213, ⟨2, (.struct [(0, 3), (1, 3)]), (some YReadMark), [.pv (.int .i64) 0, .pv (.int .i64) 0], 2199023255552⟩),
 (215, ⟨2, (.struct [(0, 3), (1, 3)]), (some YReadMark), [.pv (.int .i64) 0, .pv (.int .i64) 0], 2199023255552⟩),
 (220, ⟨1, .func, none, [.nilf], 4398046511104⟩),
 (229, ⟨1, (.ptr 139), (some (.iref YTransaction)), [.nilp], 4398046511104⟩),
 (232, ⟨1, .func, none, [.nilf], 4398046511104⟩),
 (248, ⟨1, .func, none, [.nilf], 4398046511104⟩),
 (250, ⟨5, (.struct [(0, 3), (1, 3), (2, 3), (3, 3), (4, 3)]), (some YVersion), [.pv (.int .i64) 0, .pv (.int .i64) 0, .pv (.int .i64) 0, .pv (.int .i64) 0, .pv (.int .i64) 0], 879609302220⟩),
 (268, ⟨1, .func, none, [.nilf], 4398046511104⟩),
 (274, ⟨2, (.struct [(0, 3), (1, 3)]), (some YReadMark), [.pv (.int .i64) 0, .pv (.int .i64) 0], 2199023255552⟩),
 (276, ⟨2, (.struct [(0, 3), (1, 3)]), (some YReadMark), [.pv (.int .i64) 0, .pv (.int .i64) 0], 2199023255552⟩),
 (279, ⟨10, (.arr 10 3), none, [.pv (.int .i64) 0, .pv (.int .i64) 0, .pv (.int .i64) 0, .pv (.int .i64) 0, .pv (.int .i64) 0, .pv (.int .i64) 0, .pv (.int .i64) 0, .pv (.int .i64) 0, .pv (.int .i64) 0, .pv (.int .i64) 0], 439804651110⟩),
 (287, ⟨1, (.int .u64), (some (.int .u64)), [.pv (.int .u64) 0], 4398046511104⟩),
 (295, ⟨1, (.slice 348), (some (.slice YVersion)), [.nils], 1466015503701⟩),
 (296, ⟨1, (.slice 250), (some (.slice YVersion)), [.nils], 1466015503701⟩),
 (316, ⟨1, .func, none, [.nilf], 4398046511104⟩),
 (321, ⟨1, .func, none, [.nilf], 4398046511104⟩),
 (331, ⟨1, .func, none, [.nilf], 4398046511104⟩),
 (333, ⟨1, (.int .i64), (some .i), [.pv (.int .i64) 0], 4398046511104⟩),
 (340, ⟨1, (.int .u32), (some (.int .u32)), [.pv (.int .u32) 0], 8796093022208⟩),
 (342, ⟨1, (.int .u64), (some (.int .u64)), [.pv (.int .u64) 0], 4398046511104⟩),
 (344, ⟨1, .func, none, [.nilf], 4398046511104⟩),
 (348, ⟨5, (.struct [(0, 3), (1, 3), (2, 3), (3, 3), (4, 3)]), (some YVersion), [.pv (.int .i64) 0, .pv (.int .i64) 0, .pv (.int .i64) 0, .pv (.int .i64) 0, .pv (.int .i64) 0], 879609302220⟩),
 (355, ⟨1, (.ptr 250), (some (.iref YVersion)), [.nilp], 4398046511104⟩),
 (358, ⟨1, .func, none, [.nilf], 4398046511104⟩),
 (361, ⟨1, .func, none, [.nilf], 4398046511104⟩),
 (364, ⟨1, .func, none, [.nilf], 4398046511104⟩),
 (366, ⟨1, (.ptr 53), (some (.iref YStore)), [.nilp], 4398046511104⟩),
 (369, ⟨1, (.int .u64), (some (.int .u64)), [.pv (.int .u64) 0], 4398046511104⟩),
 (373, ⟨1, (.ptr 3), (some (.iref .i)), [.nilp], 4398046511104⟩),
 (386, ⟨1, (.ptr 369), (some (.iref (.int .u64))), [.nilp], 4398046511104⟩)]
theorem g_ti3 : TIOK Tryz.prog 3 ⟨1, (.int .i64), (some .i), [.pv (.int .i64) 0], 4398046511104⟩ :=
  ⟨Tryz.t3, _, by kernel_rfl, Tryz.underlying3, by kernel_rfl, rfl, ⟨_, rfl, by kernel_rfl, by kernel_rfl⟩, of_decide_eq_true (by kernel_rfl), of_decide_eq_true (by kernel_rfl)⟩
theorem g_ti4 : TIOK Tryz.prog 4 ⟨1, .bool, (some .bool), [.b false], 35184372088832⟩ :=
  ⟨Tryz.t4, _, by kernel_rfl, Tryz.underlying4, by kernel_rfl, rfl, ⟨_, rfl, by kernel_rfl, by kernel_rfl⟩, of_decide_eq_true (by kernel_rfl), of_decide_eq_true (by kernel_rfl)⟩
theorem g_ti5 : TIOK Tryz.prog 5 ⟨1, (.int .u8), (some (.int .u8)), [.pv (.int .u8) 0], 35184372088832⟩ :=
  ⟨Tryz.t5, _, by kernel_rfl, Tryz.underlying5, by kernel_rfl, rfl, ⟨_, rfl, by kernel_rfl, by kernel_rfl⟩, of_decide_eq_true (by kernel_rfl), of_decide_eq_true (by kernel_rfl)⟩
theorem g_ti9 : TIOK Tryz.prog 9 ⟨1, .str, (some .str), [.pv .str ⟨#[]⟩], 2199023255552⟩ :=
  ⟨Tryz.t9, _, by kernel_rfl, Tryz.underlying9, by kernel_rfl, rfl, ⟨_, rfl, by kernel_rfl, by kernel_rfl⟩, of_decide_eq_true (by kernel_rfl), of_decide_eq_true (by kernel_rfl)⟩
theorem g_ti22 : TIOK Tryz.prog 22 ⟨1, (.slice 104), (some (.slice YEntry)), [.nils], 1466015503701⟩ :=
  ⟨Tryz.t22, _, by kernel_rfl, Tryz.underlying22, by kernel_rfl, rfl, ⟨_, rfl, by kernel_rfl, by kernel_rfl⟩, of_decide_eq_true (by kernel_rfl), of_decide_eq_true (by kernel_rfl)⟩
theorem g_ti24 : TIOK Tryz.prog 24 ⟨1, (.slice 3), (some (.slice .i)), [.nils], 1466015503701⟩ :=
  ⟨Tryz.t24, _, by kernel_rfl, Tryz.underlying24, by kernel_rfl, rfl, ⟨_, rfl, by kernel_rfl, by kernel_rfl⟩, of_decide_eq_true (by kernel_rfl), of_decide_eq_true (by kernel_rfl)⟩
theorem g_ti26 : TIOK Tryz.prog 26 ⟨3, (.struct [(0, 24), (1, 24), (2, 3)]), (some YReport), [.nils, .nils, .pv (.int .i64) 0], 628292358729⟩ :=
  ⟨Tryz.t26, _, by kernel_rfl, Tryz.underlying26, by kernel_rfl, ⟨_, rfl, by kernel_rfl, by kernel_rfl, by kernel_rfl, by kernel_rfl, of_decide_eq_true (by kernel_rfl)⟩, ⟨_, rfl, by kernel_rfl, by kernel_rfl⟩, of_decide_eq_true (by kernel_rfl), of_decide_eq_true (by kernel_rfl)⟩
theorem g_ti29 : TIOK Tryz.prog 29 ⟨1, (.slice 113), (some (.slice YEntry)), [.nils], 1466015503701⟩ :=
  ⟨Tryz.t29, _, by kernel_rfl, Tryz.underlying29, by kernel_rfl, rfl, ⟨_, rfl, by kernel_rfl, by kernel_rfl⟩, of_decide_eq_true (by kernel_rfl), of_decide_eq_true (by kernel_rfl)⟩
theorem g_ti36 : TIOK Tryz.prog 36 ⟨3, (.struct [(0, 24), (1, 24), (2, 3)]), (some YReport), [.nils, .nils, .pv (.int .i64) 0], 628292358729⟩ :=
  ⟨Tryz.t36, _, by kernel_rfl, Tryz.underlying36, by kernel_rfl, ⟨_, rfl, by kernel_rfl, by kernel_rfl, by kernel_rfl, by kernel_rfl, of_decide_eq_true (by kernel_rfl)⟩, ⟨_, rfl, by kernel_rfl, by kernel_rfl⟩, of_decide_eq_true (by kernel_rfl), of_decide_eq_true (by kernel_rfl)⟩
theorem g_ti41 : TIOK Tryz.prog 41 ⟨1, (.slice 295), (some (.slice (.slice YVersion))), [.nils], 1466015503701⟩ :=
  ⟨Tryz.t41, _, by kernel_rfl, Tryz.underlying41, by kernel_rfl, rfl, ⟨_, rfl, by kernel_rfl, by kernel_rfl⟩, of_decide_eq_true (by kernel_rfl), of_decide_eq_true (by kernel_rfl)⟩
theorem g_ti43 : TIOK Tryz.prog 43 ⟨1, (.struct [(0, 41)]), (some YStore), [.nils], 1466015503701⟩ :=
  ⟨Tryz.t43, _, by kernel_rfl, Tryz.underlying43, by kernel_rfl, ⟨_, rfl, by kernel_rfl, by kernel_rfl, by kernel_rfl, by kernel_rfl, of_decide_eq_true (by kernel_rfl)⟩, ⟨_, rfl, by kernel_rfl, by kernel_rfl⟩, of_decide_eq_true (by kernel_rfl), of_decide_eq_true (by kernel_rfl)⟩
theorem g_ti44 : TIOK Tryz.prog 44 ⟨1, (.slice 204), (some (.slice YTransaction)), [.nils], 1466015503701⟩ :=
  ⟨Tryz.t44, _, by kernel_rfl, Tryz.underlying44, by kernel_rfl, rfl, ⟨_, rfl, by kernel_rfl, by kernel_rfl⟩, of_decide_eq_true (by kernel_rfl), of_decide_eq_true (by kernel_rfl)⟩
theorem g_ti45 : TIOK Tryz.prog 45 ⟨1, (.slice 211), (some (.slice YReadMark)), [.nils], 1466015503701⟩ :=
  ⟨Tryz.t45, _, by kernel_rfl, Tryz.underlying45, by kernel_rfl, rfl, ⟨_, rfl, by kernel_rfl, by kernel_rfl⟩, of_decide_eq_true (by kernel_rfl), of_decide_eq_true (by kernel_rfl)⟩
theorem g_ti46 : TIOK Tryz.prog 46 ⟨1, (.slice 215), (some (.slice YReadMark)), [.nils], 1466015503701⟩ :=
  ⟨Tryz.t46, _, by kernel_rfl, Tryz.underlying46, by kernel_rfl, rfl, ⟨_, rfl, by kernel_rfl, by kernel_rfl⟩, of_decide_eq_true (by kernel_rfl), of_decide_eq_true (by kernel_rfl)⟩
theorem g_ti48 : TIOK Tryz.prog 48 ⟨6, (.struct [(0, 4), (1, 43), (2, 44), (3, 45), (4, 46), (5, 3)]), (some YEngine), [.b false, .nils, .nils, .nils, .nils, .pv (.int .i64) 0], 314146179364⟩ :=
  ⟨Tryz.t48, _, by kernel_rfl, Tryz.underlying48, by kernel_rfl, ⟨_, rfl, by kernel_rfl, by kernel_rfl, by kernel_rfl, by kernel_rfl, of_decide_eq_true (by kernel_rfl)⟩, ⟨_, rfl, by kernel_rfl, by kernel_rfl⟩, of_decide_eq_true (by kernel_rfl), of_decide_eq_true (by kernel_rfl)⟩
theorem g_ti51 : TIOK Tryz.prog 51 ⟨1, (.slice 296), (some (.slice (.slice YVersion))), [.nils], 1466015503701⟩ :=
  ⟨Tryz.t51, _, by kernel_rfl, Tryz.underlying51, by kernel_rfl, rfl, ⟨_, rfl, by kernel_rfl, by kernel_rfl⟩, of_decide_eq_true (by kernel_rfl), of_decide_eq_true (by kernel_rfl)⟩
theorem g_ti53 : TIOK Tryz.prog 53 ⟨1, (.struct [(0, 51)]), (some YStore), [.nils], 1466015503701⟩ :=
  ⟨Tryz.t53, _, by kernel_rfl, Tryz.underlying53, by kernel_rfl, ⟨_, rfl, by kernel_rfl, by kernel_rfl, by kernel_rfl, by kernel_rfl, of_decide_eq_true (by kernel_rfl)⟩, ⟨_, rfl, by kernel_rfl, by kernel_rfl⟩, of_decide_eq_true (by kernel_rfl), of_decide_eq_true (by kernel_rfl)⟩
theorem g_ti54 : TIOK Tryz.prog 54 ⟨1, (.slice 139), (some (.slice YTransaction)), [.nils], 1466015503701⟩ :=
  ⟨Tryz.t54, _, by kernel_rfl, Tryz.underlying54, by kernel_rfl, rfl, ⟨_, rfl, by kernel_rfl, by kernel_rfl⟩, of_decide_eq_true (by kernel_rfl), of_decide_eq_true (by kernel_rfl)⟩
theorem g_ti55 : TIOK Tryz.prog 55 ⟨1, (.slice 209), (some (.slice YReadMark)), [.nils], 1466015503701⟩ :=
  ⟨Tryz.t55, _, by kernel_rfl, Tryz.underlying55, by kernel_rfl, rfl, ⟨_, rfl, by kernel_rfl, by kernel_rfl⟩, of_decide_eq_true (by kernel_rfl), of_decide_eq_true (by kernel_rfl)⟩
theorem g_ti56 : TIOK Tryz.prog 56 ⟨1, (.slice 213), (some (.slice YReadMark)), [.nils], 1466015503701⟩ :=
  ⟨Tryz.t56, _, by kernel_rfl, Tryz.underlying56, by kernel_rfl, rfl, ⟨_, rfl, by kernel_rfl, by kernel_rfl⟩, of_decide_eq_true (by kernel_rfl), of_decide_eq_true (by kernel_rfl)⟩
theorem g_ti58 : TIOK Tryz.prog 58 ⟨6, (.struct [(0, 4), (1, 53), (2, 54), (3, 55), (4, 56), (5, 3)]), (some YEngine), [.b false, .nils, .nils, .nils, .nils, .pv (.int .i64) 0], 314146179364⟩ :=
  ⟨Tryz.t58, _, by kernel_rfl, Tryz.underlying58, by kernel_rfl, ⟨_, rfl, by kernel_rfl, by kernel_rfl, by kernel_rfl, by kernel_rfl, of_decide_eq_true (by kernel_rfl)⟩, ⟨_, rfl, by kernel_rfl, by kernel_rfl⟩, of_decide_eq_true (by kernel_rfl), of_decide_eq_true (by kernel_rfl)⟩
theorem g_ti62 : TIOK Tryz.prog 62 ⟨1, (.slice 72), (some (.slice (.slice YOp))), [.nils], 1466015503701⟩ :=
  ⟨Tryz.t62, _, by kernel_rfl, Tryz.underlying62, by kernel_rfl, rfl, ⟨_, rfl, by kernel_rfl, by kernel_rfl⟩, of_decide_eq_true (by kernel_rfl), of_decide_eq_true (by kernel_rfl)⟩
theorem g_ti65 : TIOK Tryz.prog 65 ⟨1, (.slice 77), (some (.slice (.slice YOp))), [.nils], 1466015503701⟩ :=
  ⟨Tryz.t65, _, by kernel_rfl, Tryz.underlying65, by kernel_rfl, rfl, ⟨_, rfl, by kernel_rfl, by kernel_rfl⟩, of_decide_eq_true (by kernel_rfl), of_decide_eq_true (by kernel_rfl)⟩
theorem g_ti72 : TIOK Tryz.prog 72 ⟨1, (.slice 90), (some (.slice YOp)), [.nils], 1466015503701⟩ :=
  ⟨Tryz.t72, _, by kernel_rfl, Tryz.underlying72, by kernel_rfl, rfl, ⟨_, rfl, by kernel_rfl, by kernel_rfl⟩, of_decide_eq_true (by kernel_rfl), of_decide_eq_true (by kernel_rfl)⟩
theorem g_ti74 : TIOK Tryz.prog 74 ⟨1, (.slice 92), (some (.slice YStep)), [.nils], 1466015503701⟩ :=
  ⟨Tryz.t74, _, by kernel_rfl, Tryz.underlying74, by kernel_rfl, rfl, ⟨_, rfl, by kernel_rfl, by kernel_rfl⟩, of_decide_eq_true (by kernel_rfl), of_decide_eq_true (by kernel_rfl)⟩
theorem g_ti77 : TIOK Tryz.prog 77 ⟨1, (.slice 95), (some (.slice YOp)), [.nils], 1466015503701⟩ :=
  ⟨Tryz.t77, _, by kernel_rfl, Tryz.underlying77, by kernel_rfl, rfl, ⟨_, rfl, by kernel_rfl, by kernel_rfl⟩, of_decide_eq_true (by kernel_rfl), of_decide_eq_true (by kernel_rfl)⟩
theorem g_ti90 : TIOK Tryz.prog 90 ⟨6, (.struct [(0, 3), (1, 3), (2, 3), (3, 3), (4, 3), (5, 3)]), (some YOp), [.pv (.int .i64) 0, .pv (.int .i64) 0, .pv (.int .i64) 0, .pv (.int .i64) 0, .pv (.int .i64) 0, .pv (.int .i64) 0], 733007751850⟩ :=
  ⟨Tryz.t90, _, by kernel_rfl, Tryz.underlying90, by kernel_rfl, ⟨_, rfl, by kernel_rfl, by kernel_rfl, by kernel_rfl, by kernel_rfl, of_decide_eq_true (by kernel_rfl)⟩, ⟨_, rfl, by kernel_rfl, by kernel_rfl⟩, of_decide_eq_true (by kernel_rfl), of_decide_eq_true (by kernel_rfl)⟩
theorem g_ti92 : TIOK Tryz.prog 92 ⟨2, (.struct [(0, 3), (1, 24)]), (some YStep), [.pv (.int .i64) 0, .nils], 1099511627776⟩ :=
  ⟨Tryz.t92, _, by kernel_rfl, Tryz.underlying92, by kernel_rfl, ⟨_, rfl, by kernel_rfl, by kernel_rfl, by kernel_rfl, by kernel_rfl, of_decide_eq_true (by kernel_rfl)⟩, ⟨_, rfl, by kernel_rfl, by kernel_rfl⟩, of_decide_eq_true (by kernel_rfl), of_decide_eq_true (by kernel_rfl)⟩
theorem g_ti95 : TIOK Tryz.prog 95 ⟨6, (.struct [(0, 3), (1, 3), (2, 3), (3, 3), (4, 3), (5, 3)]), (some YOp), [.pv (.int .i64) 0, .pv (.int .i64) 0, .pv (.int .i64) 0, .pv (.int .i64) 0, .pv (.int .i64) 0, .pv (.int .i64) 0], 733007751850⟩ :=
  ⟨Tryz.t95, _, by kernel_rfl, Tryz.underlying95, by kernel_rfl, ⟨_, rfl, by kernel_rfl, by kernel_rfl, by kernel_rfl, by kernel_rfl, of_decide_eq_true (by kernel_rfl)⟩, ⟨_, rfl, by kernel_rfl, by kernel_rfl⟩, of_decide_eq_true (by kernel_rfl), of_decide_eq_true (by kernel_rfl)⟩
theorem g_ti101 : TIOK Tryz.prog 101 ⟨1, (.slice 274), (some (.slice YReadMark)), [.nils], 1466015503701⟩ :=
  ⟨Tryz.t101, _, by kernel_rfl, Tryz.underlying101, by kernel_rfl, rfl, ⟨_, rfl, by kernel_rfl, by kernel_rfl⟩, of_decide_eq_true (by kernel_rfl), of_decide_eq_true (by kernel_rfl)⟩
theorem g_ti102 : TIOK Tryz.prog 102 ⟨1, (.slice 276), (some (.slice YReadMark)), [.nils], 1466015503701⟩ :=
  ⟨Tryz.t102, _, by kernel_rfl, Tryz.underlying102, by kernel_rfl, rfl, ⟨_, rfl, by kernel_rfl, by kernel_rfl⟩, of_decide_eq_true (by kernel_rfl), of_decide_eq_true (by kernel_rfl)⟩
theorem g_ti104 : TIOK Tryz.prog 104 ⟨4, (.struct [(0, 3), (1, 3), (2, 101), (3, 102)]), (some YEntry), [.pv (.int .i64) 0, .pv (.int .i64) 0, .nils, .nils], 549755813888⟩ :=
  ⟨Tryz.t104, _, by kernel_rfl, Tryz.underlying104, by kernel_rfl, ⟨_, rfl, by kernel_rfl, by kernel_rfl, by kernel_rfl, by kernel_rfl, of_decide_eq_true (by kernel_rfl)⟩, ⟨_, rfl, by kernel_rfl, by kernel_rfl⟩, of_decide_eq_true (by kernel_rfl), of_decide_eq_true (by kernel_rfl)⟩
theorem g_ti110 : TIOK Tryz.prog 110 ⟨1, (.slice 169), (some (.slice YReadMark)), [.nils], 1466015503701⟩ :=
  ⟨Tryz.t110, _, by kernel_rfl, Tryz.underlying110, by kernel_rfl, rfl, ⟨_, rfl, by kernel_rfl, by kernel_rfl⟩, of_decide_eq_true (by kernel_rfl), of_decide_eq_true (by kernel_rfl)⟩
theorem g_ti111 : TIOK Tryz.prog 111 ⟨1, (.slice 181), (some (.slice YReadMark)), [.nils], 1466015503701⟩ :=
  ⟨Tryz.t111, _, by kernel_rfl, Tryz.underlying111, by kernel_rfl, rfl, ⟨_, rfl, by kernel_rfl, by kernel_rfl⟩, of_decide_eq_true (by kernel_rfl), of_decide_eq_true (by kernel_rfl)⟩
theorem g_ti113 : TIOK Tryz.prog 113 ⟨4, (.struct [(0, 3), (1, 3), (2, 110), (3, 111)]), (some YEntry), [.pv (.int .i64) 0, .pv (.int .i64) 0, .nils, .nils], 549755813888⟩ :=
  ⟨Tryz.t113, _, by kernel_rfl, Tryz.underlying113, by kernel_rfl, ⟨_, rfl, by kernel_rfl, by kernel_rfl, by kernel_rfl, by kernel_rfl, of_decide_eq_true (by kernel_rfl)⟩, ⟨_, rfl, by kernel_rfl, by kernel_rfl⟩, of_decide_eq_true (by kernel_rfl), of_decide_eq_true (by kernel_rfl)⟩
theorem g_ti119 : TIOK Tryz.prog 119 ⟨1, (.slice 186), (some (.slice YEdge)), [.nils], 1466015503701⟩ :=
  ⟨Tryz.t119, _, by kernel_rfl, Tryz.underlying119, by kernel_rfl, rfl, ⟨_, rfl, by kernel_rfl, by kernel_rfl⟩, of_decide_eq_true (by kernel_rfl), of_decide_eq_true (by kernel_rfl)⟩
theorem g_ti139 : TIOK Tryz.prog 139 ⟨9, (.struct [(0, 3), (1, 3), (2, 3), (3, 3), (4, 3), (5, 3), (6, 3), (7, 110), (8, 111)]), (some YTransaction), [.pv (.int .i64) 0, .pv (.int .i64) 0, .pv (.int .i64) 0, .pv (.int .i64) 0, .pv (.int .i64) 0, .pv (.int .i64) 0, .pv (.int .i64) 0, .nils, .nils], 338311270084⟩ :=
  ⟨Tryz.t139, _, by kernel_rfl, Tryz.underlying139, by kernel_rfl, ⟨_, rfl, by kernel_rfl, by kernel_rfl, by kernel_rfl, by kernel_rfl, of_decide_eq_true (by kernel_rfl)⟩, ⟨_, rfl, by kernel_rfl, by kernel_rfl⟩, of_decide_eq_true (by kernel_rfl), of_decide_eq_true (by kernel_rfl)⟩
theorem g_ti157 : TIOK Tryz.prog 157 ⟨1, (.ptr 58), (some (.iref YEngine)), [.nilp], 4398046511104⟩ :=
  ⟨Tryz.t157, _, by kernel_rfl, Tryz.underlying157, by kernel_rfl, rfl, ⟨_, rfl, by kernel_rfl, by kernel_rfl⟩, of_decide_eq_true (by kernel_rfl), of_decide_eq_true (by kernel_rfl)⟩
theorem g_ti165 : TIOK Tryz.prog 165 ⟨1, .func, none, [.nilf], 4398046511104⟩ :=
  ⟨Tryz.t165, _, by kernel_rfl, Tryz.underlying165, by kernel_rfl, ⟨_, _, _, rfl⟩, ⟨_, rfl, by kernel_rfl, by kernel_rfl⟩, of_decide_eq_true (by kernel_rfl), of_decide_eq_true (by kernel_rfl)⟩
theorem g_ti169 : TIOK Tryz.prog 169 ⟨2, (.struct [(0, 3), (1, 3)]), (some YReadMark), [.pv (.int .i64) 0, .pv (.int .i64) 0], 2199023255552⟩ :=
  ⟨Tryz.t169, _, by kernel_rfl, Tryz.underlying169, by kernel_rfl, ⟨_, rfl, by kernel_rfl, by kernel_rfl, by kernel_rfl, by kernel_rfl, of_decide_eq_true (by kernel_rfl)⟩, ⟨_, rfl, by kernel_rfl, by kernel_rfl⟩, of_decide_eq_true (by kernel_rfl), of_decide_eq_true (by kernel_rfl)⟩
theorem g_ti175 : TIOK Tryz.prog 175 ⟨1, .func, none, [.nilf], 4398046511104⟩ :=
  ⟨Tryz.t175, _, by kernel_rfl, Tryz.underlying175, by kernel_rfl, ⟨_, _, _, rfl⟩, ⟨_, rfl, by kernel_rfl, by kernel_rfl⟩, of_decide_eq_true (by kernel_rfl), of_decide_eq_true (by kernel_rfl)⟩
theorem g_ti181 : TIOK Tryz.prog 181 ⟨2, (.struct [(0, 3), (1, 3)]), (some YReadMark), [.pv (.int .i64) 0, .pv (.int .i64) 0], 2199023255552⟩ :=
  ⟨Tryz.t181, _, by kernel_rfl, Tryz.underlying181, by kernel_rfl, ⟨_, rfl, by kernel_rfl, by kernel_rfl, by kernel_rfl, by kernel_rfl, of_decide_eq_true (by kernel_rfl)⟩, ⟨_, rfl, by kernel_rfl, by kernel_rfl⟩, of_decide_eq_true (by kernel_rfl), of_decide_eq_true (by kernel_rfl)⟩
theorem g_ti186 : TIOK Tryz.prog 186 ⟨4, (.struct [(0, 3), (1, 3), (2, 3), (3, 3)]), (some YEdge), [.pv (.int .i64) 0, .pv (.int .i64) 0, .pv (.int .i64) 0, .pv (.int .i64) 0], 1099511627776⟩ :=
  ⟨Tryz.t186, _, by kernel_rfl, Tryz.underlying186, by kernel_rfl, ⟨_, rfl, by kernel_rfl, by kernel_rfl, by kernel_rfl, by kernel_rfl, of_decide_eq_true (by kernel_rfl)⟩, ⟨_, rfl, by kernel_rfl, by kernel_rfl⟩, of_decide_eq_true (by kernel_rfl), of_decide_eq_true (by kernel_rfl)⟩
theorem g_ti192 : TIOK Tryz.prog 192 ⟨1, .func, none, [.nilf], 4398046511104⟩ :=
  ⟨Tryz.t192, _, by kernel_rfl, Tryz.underlying192, by kernel_rfl, ⟨_, _, _, rfl⟩, ⟨_, rfl, by kernel_rfl, by kernel_rfl⟩, of_decide_eq_true (by kernel_rfl), of_decide_eq_true (by kernel_rfl)⟩
theorem g_ti194 : TIOK Tryz.prog 194 ⟨1, .func, none, [.nilf], 4398046511104⟩ :=
  ⟨Tryz.t194, _, by kernel_rfl, Tryz.underlying194, by kernel_rfl, ⟨_, _, _, rfl⟩, ⟨_, rfl, by kernel_rfl, by kernel_rfl⟩, of_decide_eq_true (by kernel_rfl), of_decide_eq_true (by kernel_rfl)⟩
theorem g_ti196 : TIOK Tryz.prog 196 ⟨1, .func, none, [.nilf], 4398046511104⟩ :=
  ⟨Tryz.t196, _, by kernel_rfl, Tryz.underlying196, by kernel_rfl, ⟨_, _, _, rfl⟩, ⟨_, rfl, by kernel_rfl, by kernel_rfl⟩, of_decide_eq_true (by kernel_rfl), of_decide_eq_true (by kernel_rfl)⟩
theorem g_ti197 : TIOK Tryz.prog 197 ⟨1, .func, none, [.nilf], 4398046511104⟩ :=
  ⟨Tryz.t197, _, by kernel_rfl, Tryz.underlying197, by kernel_rfl, ⟨_, _, _, rfl⟩, ⟨_, rfl, by kernel_rfl, by kernel_rfl⟩, of_decide_eq_true (by kernel_rfl), of_decide_eq_true (by kernel_rfl)⟩
theorem g_ti199 : TIOK Tryz.prog 199 ⟨1, .func, none, [.nilf], 4398046511104⟩ :=
  ⟨Tryz.t199, _, by kernel_rfl, Tryz.underlying199, by kernel_rfl, ⟨_, _, _, rfl⟩, ⟨_, rfl, by kernel_rfl, by kernel_rfl⟩, of_decide_eq_true (by kernel_rfl), of_decide_eq_true (by kernel_rfl)⟩
theorem g_ti204 : TIOK Tryz.prog 204 ⟨9, (.struct [(0, 3), (1, 3), (2, 3), (3, 3), (4, 3), (5, 3), (6, 3), (7, 101), (8, 102)]), (some YTransaction), [.pv (.int .i64) 0, .pv (.int .i64) 0, .pv (.int .i64) 0, .pv (.int .i64) 0, .pv (.int .i64) 0, .pv (.int .i64) 0, .pv (.int .i64) 0, .nils, .nils], 338311270084⟩ :=
  ⟨Tryz.t204, _, by kernel_rfl, Tryz.underlying204, by kernel_rfl, ⟨_, rfl, by kernel_rfl, by kernel_rfl, by kernel_rfl, by kernel_rfl, of_decide_eq_true (by kernel_rfl)⟩, ⟨_, rfl, by kernel_rfl, by kernel_rfl⟩, of_decide_eq_true (by kernel_rfl), of_decide_eq_true (by kernel_rfl)⟩
theorem g_ti209 : TIOK Tryz.prog 209 ⟨2, (.struct [(0, 3), (1, 3)]), (some YReadMark), [.pv (.int .i64) 0, .pv (.int .i64) 0], 2199023255552⟩ :=
  ⟨Tryz.t209, _, by kernel_rfl, Tryz.underlying209, by kernel_rfl, ⟨_, rfl, by kernel_rfl, by kernel_rfl, by kernel_rfl, by kernel_rfl, of_decide_eq_true (by kernel_rfl)⟩, ⟨_, rfl, by kernel_rfl, by kernel_rfl⟩, of_decide_eq_true (by kernel_rfl), of_decide_eq_true (by kernel_rfl)⟩
theorem g_ti211 : TIOK Tryz.prog 211 ⟨2, (.struct [(0, 3), (1, 3)]), (some YReadMark), [.pv (.int .i64) 0, .pv (.int .i64) 0], 2199023255552⟩ :=
  ⟨Tryz.t211, _, by kernel_rfl, Tryz.underlying211, by kernel_rfl, ⟨_, rfl, by kernel_rfl, by kernel_rfl, by kernel_rfl, by kernel_rfl, of_decide_eq_true (by kernel_rfl)⟩, ⟨_, rfl, by kernel_rfl, by kernel_rfl⟩, of_decide_eq_true (by kernel_rfl), of_decide_eq_true (by kernel_rfl)⟩
theorem g_ti213 : TIOK Tryz.prog 213 ⟨2, (.struct [(0, 3), (1, 3)]), (some YReadMark), [.pv (.int .i64) 0, .pv (.int .i64) 0], 2199023255552⟩ :=
  ⟨Tryz.t213, _, by kernel_rfl, Tryz.underlying213, by kernel_rfl, ⟨_, rfl, by kernel_rfl, by kernel_rfl, by kernel_rfl, by kernel_rfl, of_decide_eq_true (by kernel_rfl)⟩, ⟨_, rfl, by kernel_rfl, by kernel_rfl⟩, of_decide_eq_true (by kernel_rfl), of_decide_eq_true (by kernel_rfl)⟩
theorem g_ti215 : TIOK Tryz.prog 215 ⟨2, (.struct [(0, 3), (1, 3)]), (some YReadMark), [.pv (.int .i64) 0, .pv (.int .i64) 0], 2199023255552⟩ :=
  ⟨Tryz.t215, _, by kernel_rfl, Tryz.underlying215, by kernel_rfl, ⟨_, rfl, by kernel_rfl, by kernel_rfl, by kernel_rfl, by kernel_rfl, of_decide_eq_true (by kernel_rfl)⟩, ⟨_, rfl, by kernel_rfl, by kernel_rfl⟩, of_decide_eq_true (by kernel_rfl), of_decide_eq_true (by kernel_rfl)⟩
theorem g_ti220 : TIOK Tryz.prog 220 ⟨1, .func, none, [.nilf], 4398046511104⟩ :=
  ⟨Tryz.t220, _, by kernel_rfl, Tryz.underlying220, by kernel_rfl, ⟨_, _, _, rfl⟩, ⟨_, rfl, by kernel_rfl, by kernel_rfl⟩, of_decide_eq_true (by kernel_rfl), of_decide_eq_true (by kernel_rfl)⟩
theorem g_ti229 : TIOK Tryz.prog 229 ⟨1, (.ptr 139), (some (.iref YTransaction)), [.nilp], 4398046511104⟩ :=
  ⟨Tryz.t229, _, by kernel_rfl, Tryz.underlying229, by kernel_rfl, rfl, ⟨_, rfl, by kernel_rfl, by kernel_rfl⟩, of_decide_eq_true (by kernel_rfl), of_decide_eq_true (by kernel_rfl)⟩
theorem g_ti232 : TIOK Tryz.prog 232 ⟨1, .func, none, [.nilf], 4398046511104⟩ :=
  ⟨Tryz.t232, _, by kernel_rfl, Tryz.underlying232, by kernel_rfl, ⟨_, _, _, rfl⟩, ⟨_, rfl, by kernel_rfl, by kernel_rfl⟩, of_decide_eq_true (by kernel_rfl), of_decide_eq_true (by kernel_rfl)⟩
theorem g_ti248 : TIOK Tryz.prog 248 ⟨1, .func, none, [.nilf], 4398046511104⟩ :=
  ⟨Tryz.t248, _, by kernel_rfl, Tryz.underlying248, by kernel_rfl, ⟨_, _, _, rfl⟩, ⟨_, rfl, by kernel_rfl, by kernel_rfl⟩, of_decide_eq_true (by kernel_rfl), of_decide_eq_true (by kernel_rfl)⟩
theorem g_ti250 : TIOK Tryz.prog 250 ⟨5, (.struct [(0, 3), (1, 3), (2, 3), (3, 3), (4, 3)]), (some YVersion), [.pv (.int .i64) 0, .pv (.int .i64) 0, .pv (.int .i64) 0, .pv (.int .i64) 0, .pv (.int .i64) 0], 879609302220⟩ :=
  ⟨Tryz.t250, _, by kernel_rfl, Tryz.underlying250, by kernel_rfl, ⟨_, rfl, by kernel_rfl, by kernel_rfl, by kernel_rfl, by kernel_rfl, of_decide_eq_true (by kernel_rfl)⟩, ⟨_, rfl, by kernel_rfl, by kernel_rfl⟩, of_decide_eq_true (by kernel_rfl), of_decide_eq_true (by kernel_rfl)⟩
theorem g_ti268 : TIOK Tryz.prog 268 ⟨1, .func, none, [.nilf], 4398046511104⟩ :=
  ⟨Tryz.t268, _, by kernel_rfl, Tryz.underlying268, by kernel_rfl, ⟨_, _, _, rfl⟩, ⟨_, rfl, by kernel_rfl, by kernel_rfl⟩, of_decide_eq_true (by kernel_rfl), of_decide_eq_true (by kernel_rfl)⟩
theorem g_ti274 : TIOK Tryz.prog 274 ⟨2, (.struct [(0, 3), (1, 3)]), (some YReadMark), [.pv (.int .i64) 0, .pv (.int .i64) 0], 2199023255552⟩ :=
  ⟨Tryz.t274, _, by kernel_rfl, Tryz.underlying274, by kernel_rfl, ⟨_, rfl, by kernel_rfl, by kernel_rfl, by kernel_rfl, by kernel_rfl, of_decide_eq_true (by kernel_rfl)⟩, ⟨_, rfl, by kernel_rfl, by kernel_rfl⟩, of_decide_eq_true (by kernel_rfl), of_decide_eq_true (by kernel_rfl)⟩
theorem g_ti276 : TIOK Tryz.prog 276 ⟨2, (.struct [(0, 3), (1, 3)]), (some YReadMark), [.pv (.int .i64) 0, .pv (.int .i64) 0], 2199023255552⟩ :=
  ⟨Tryz.t276, _, by kernel_rfl, Tryz.underlying276, by kernel_rfl, ⟨_, rfl, by kernel_rfl, by kernel_rfl, by kernel_rfl, by kernel_rfl, of_decide_eq_true (by kernel_rfl)⟩, ⟨_, rfl, by kernel_rfl, by kernel_rfl⟩, of_decide_eq_true (by kernel_rfl), of_decide_eq_true (by kernel_rfl)⟩
theorem g_ti279 : TIOK Tryz.prog 279 ⟨10, (.arr 10 3), none, [.pv (.int .i64) 0, .pv (.int .i64) 0, .pv (.int .i64) 0, .pv (.int .i64) 0, .pv (.int .i64) 0, .pv (.int .i64) 0, .pv (.int .i64) 0, .pv (.int .i64) 0, .pv (.int .i64) 0, .pv (.int .i64) 0], 439804651110⟩ :=
  ⟨Tryz.t279, _, by kernel_rfl, Tryz.underlying279, by kernel_rfl, rfl, ⟨_, rfl, by kernel_rfl, by kernel_rfl⟩, of_decide_eq_true (by kernel_rfl), of_decide_eq_true (by kernel_rfl)⟩
theorem g_ti287 : TIOK Tryz.prog 287 ⟨1, (.int .u64), (some (.int .u64)), [.pv (.int .u64) 0], 4398046511104⟩ :=
  ⟨Tryz.t287, _, by kernel_rfl, Tryz.underlying287, by kernel_rfl, rfl, ⟨_, rfl, by kernel_rfl, by kernel_rfl⟩, of_decide_eq_true (by kernel_rfl), of_decide_eq_true (by kernel_rfl)⟩
theorem g_ti295 : TIOK Tryz.prog 295 ⟨1, (.slice 348), (some (.slice YVersion)), [.nils], 1466015503701⟩ :=
  ⟨Tryz.t295, _, by kernel_rfl, Tryz.underlying295, by kernel_rfl, rfl, ⟨_, rfl, by kernel_rfl, by kernel_rfl⟩, of_decide_eq_true (by kernel_rfl), of_decide_eq_true (by kernel_rfl)⟩
theorem g_ti296 : TIOK Tryz.prog 296 ⟨1, (.slice 250), (some (.slice YVersion)), [.nils], 1466015503701⟩ :=
  ⟨Tryz.t296, _, by kernel_rfl, Tryz.underlying296, by kernel_rfl, rfl, ⟨_, rfl, by kernel_rfl, by kernel_rfl⟩, of_decide_eq_true (by kernel_rfl), of_decide_eq_true (by kernel_rfl)⟩
theorem g_ti316 : TIOK Tryz.prog 316 ⟨1, .func, none, [.nilf], 4398046511104⟩ :=
  ⟨Tryz.t316, _, by kernel_rfl, Tryz.underlying316, by kernel_rfl, ⟨_, _, _, rfl⟩, ⟨_, rfl, by kernel_rfl, by kernel_rfl⟩, of_decide_eq_true (by kernel_rfl), of_decide_eq_true (by kernel_rfl)⟩
theorem g_ti321 : TIOK Tryz.prog 321 ⟨1, .func, none, [.nilf], 4398046511104⟩ :=
  ⟨Tryz.t321, _, by kernel_rfl, Tryz.underlying321, by kernel_rfl, ⟨_, _, _, rfl⟩, ⟨_, rfl, by kernel_rfl, by kernel_rfl⟩, of_decide_eq_true (by kernel_rfl), of_decide_eq_true (by kernel_rfl)⟩
theorem g_ti331 : TIOK Tryz.prog 331 ⟨1, .func, none, [.nilf], 4398046511104⟩ :=
  ⟨Tryz.t331, _, by kernel_rfl, Tryz.underlying331, by kernel_rfl, ⟨_, _, _, rfl⟩, ⟨_, rfl, by kernel_rfl, by kernel_rfl⟩, of_decide_eq_true (by kernel_rfl), of_decide_eq_true (by kernel_rfl)⟩
theorem g_ti333 : TIOK Tryz.prog 333 ⟨1, (.int .i64), (some .i), [.pv (.int .i64) 0], 4398046511104⟩ :=
  ⟨Tryz.t333, _, by kernel_rfl, Tryz.underlying333, by kernel_rfl, rfl, ⟨_, rfl, by kernel_rfl, by kernel_rfl⟩, of_decide_eq_true (by kernel_rfl), of_decide_eq_true (by kernel_rfl)⟩
theorem g_ti340 : TIOK Tryz.prog 340 ⟨1, (.int .u32), (some (.int .u32)), [.pv (.int .u32) 0], 8796093022208⟩ :=
  ⟨Tryz.t340, _, by kernel_rfl, Tryz.underlying340, by kernel_rfl, rfl, ⟨_, rfl, by kernel_rfl, by kernel_rfl⟩, of_decide_eq_true (by kernel_rfl), of_decide_eq_true (by kernel_rfl)⟩
theorem g_ti342 : TIOK Tryz.prog 342 ⟨1, (.int .u64), (some (.int .u64)), [.pv (.int .u64) 0], 4398046511104⟩ :=
  ⟨Tryz.t342, _, by kernel_rfl, Tryz.underlying342, by kernel_rfl, rfl, ⟨_, rfl, by kernel_rfl, by kernel_rfl⟩, of_decide_eq_true (by kernel_rfl), of_decide_eq_true (by kernel_rfl)⟩
theorem g_ti344 : TIOK Tryz.prog 344 ⟨1, .func, none, [.nilf], 4398046511104⟩ :=
  ⟨Tryz.t344, _, by kernel_rfl, Tryz.underlying344, by kernel_rfl, ⟨_, _, _, rfl⟩, ⟨_, rfl, by kernel_rfl, by kernel_rfl⟩, of_decide_eq_true (by kernel_rfl), of_decide_eq_true (by kernel_rfl)⟩
theorem g_ti348 : TIOK Tryz.prog 348 ⟨5, (.struct [(0, 3), (1, 3), (2, 3), (3, 3), (4, 3)]), (some YVersion), [.pv (.int .i64) 0, .pv (.int .i64) 0, .pv (.int .i64) 0, .pv (.int .i64) 0, .pv (.int .i64) 0], 879609302220⟩ :=
  ⟨Tryz.t348, _, by kernel_rfl, Tryz.underlying348, by kernel_rfl, ⟨_, rfl, by kernel_rfl, by kernel_rfl, by kernel_rfl, by kernel_rfl, of_decide_eq_true (by kernel_rfl)⟩, ⟨_, rfl, by kernel_rfl, by kernel_rfl⟩, of_decide_eq_true (by kernel_rfl), of_decide_eq_true (by kernel_rfl)⟩
theorem g_ti355 : TIOK Tryz.prog 355 ⟨1, (.ptr 250), (some (.iref YVersion)), [.nilp], 4398046511104⟩ :=
  ⟨Tryz.t355, _, by kernel_rfl, Tryz.underlying355, by kernel_rfl, rfl, ⟨_, rfl, by kernel_rfl, by kernel_rfl⟩, of_decide_eq_true (by kernel_rfl), of_decide_eq_true (by kernel_rfl)⟩
theorem g_ti358 : TIOK Tryz.prog 358 ⟨1, .func, none, [.nilf], 4398046511104⟩ :=
  ⟨Tryz.t358, _, by kernel_rfl, Tryz.underlying358, by kernel_rfl, ⟨_, _, _, rfl⟩, ⟨_, rfl, by kernel_rfl, by kernel_rfl⟩, of_decide_eq_true (by kernel_rfl), of_decide_eq_true (by kernel_rfl)⟩
theorem g_ti361 : TIOK Tryz.prog 361 ⟨1, .func, none, [.nilf], 4398046511104⟩ :=
  ⟨Tryz.t361, _, by kernel_rfl, Tryz.underlying361, by kernel_rfl, ⟨_, _, _, rfl⟩, ⟨_, rfl, by kernel_rfl, by kernel_rfl⟩, of_decide_eq_true (by kernel_rfl), of_decide_eq_true (by kernel_rfl)⟩
theorem g_ti364 : TIOK Tryz.prog 364 ⟨1, .func, none, [.nilf], 4398046511104⟩ :=
  ⟨Tryz.t364, _, by kernel_rfl, Tryz.underlying364, by kernel_rfl, ⟨_, _, _, rfl⟩, ⟨_, rfl, by kernel_rfl, by kernel_rfl⟩, of_decide_eq_true (by kernel_rfl), of_decide_eq_true (by kernel_rfl)⟩
theorem g_ti366 : TIOK Tryz.prog 366 ⟨1, (.ptr 53), (some (.iref YStore)), [.nilp], 4398046511104⟩ :=
  ⟨Tryz.t366, _, by kernel_rfl, Tryz.underlying366, by kernel_rfl, rfl, ⟨_, rfl, by kernel_rfl, by kernel_rfl⟩, of_decide_eq_true (by kernel_rfl), of_decide_eq_true (by kernel_rfl)⟩
theorem g_ti369 : TIOK Tryz.prog 369 ⟨1, (.int .u64), (some (.int .u64)), [.pv (.int .u64) 0], 4398046511104⟩ :=
  ⟨Tryz.t369, _, by kernel_rfl, Tryz.underlying369, by kernel_rfl, rfl, ⟨_, rfl, by kernel_rfl, by kernel_rfl⟩, of_decide_eq_true (by kernel_rfl), of_decide_eq_true (by kernel_rfl)⟩
theorem g_ti373 : TIOK Tryz.prog 373 ⟨1, (.ptr 3), (some (.iref .i)), [.nilp], 4398046511104⟩ :=
  ⟨Tryz.t373, _, by kernel_rfl, Tryz.underlying373, by kernel_rfl, rfl, ⟨_, rfl, by kernel_rfl, by kernel_rfl⟩, of_decide_eq_true (by kernel_rfl), of_decide_eq_true (by kernel_rfl)⟩
theorem g_ti386 : TIOK Tryz.prog 386 ⟨1, (.ptr 369), (some (.iref (.int .u64))), [.nilp], 4398046511104⟩ :=
  ⟨Tryz.t386, _, by kernel_rfl, Tryz.underlying386, by kernel_rfl, rfl, ⟨_, rfl, by kernel_rfl, by kernel_rfl⟩, of_decide_eq_true (by kernel_rfl), of_decide_eq_true (by kernel_rfl)⟩
theorem g_tisOK : ∀ p ∈ g_tis, TIOK Tryz.prog p.1 p.2 := (all_cons g_ti3 (all_cons g_ti4 (all_cons g_ti5 (all_cons g_ti9 (all_cons g_ti22 (all_cons g_ti24 (all_cons g_ti26 (all_cons g_ti29 (all_cons g_ti36 (all_cons g_ti41 (all_cons g_ti43 (all_cons g_ti44 (all_cons g_ti45 (all_cons g_ti46 (all_cons g_ti48 (all_cons g_ti51 (all_cons g_ti53 (all_cons g_ti54 (all_cons g_ti55 (all_cons g_ti56 (all_cons g_ti58 (all_cons g_ti62 (all_cons g_ti65 (all_cons g_ti72 (all_cons g_ti74 (all_cons g_ti77 (all_cons g_ti90 (all_cons g_ti92 (all_cons g_ti95 (all_cons g_ti101 (all_cons g_ti102 (all_cons g_ti104 (all_cons g_ti110 (all_cons g_ti111 (all_cons g_ti113 (all_cons g_ti119 (all_cons g_ti139 (all_cons g_ti157 (all_cons g_ti165 (all_cons g_ti169 (all_cons g_ti175 (all_cons g_ti181 (all_cons g_ti186 (all_cons g_ti192 (all_cons g_ti194 (all_cons g_ti196 (all_cons g_ti197 (all_cons g_ti199 (all_cons g_ti204 (all_cons g_ti209 (all_cons g_ti211 (all_cons g_ti213 (all_cons g_ti215 (all_cons g_ti220 (all_cons g_ti229 (all_cons g_ti232 (all_cons g_ti248 (all_cons g_ti250 (all_cons g_ti268 (all_cons g_ti274 (all_cons g_ti276 (all_cons g_ti279 (all_cons g_ti287 (all_cons g_ti295 (all_cons g_ti296 (all_cons g_ti316 (all_cons g_ti321 (all_cons g_ti331 (all_cons g_ti333 (all_cons g_ti340 (all_cons g_ti342 (all_cons g_ti344 (all_cons g_ti348 (all_cons g_ti355 (all_cons g_ti358 (all_cons g_ti361 (all_cons g_ti364 (all_cons g_ti366 (all_cons g_ti369 (all_cons g_ti373 (all_cons g_ti386 all_nil)))))))))))))))))))))))))))))))))))))))))))))))))))))))))))))))))))))))))))))))))
theorem g_wide : Tryz.prog.follows .mixedOrders = true := by kernel_rfl
end Go.Ab
