import Derived.Test.YtbehajdnamaeaaaGreatF4
import Derived.Test.YtbehajdnamaeaaaGreatProg
import Derived.KernelRfl
set_option linter.all false
set_option maxRecDepth 100000
namespace Go.Ab
abbrev YOp:Ty:=(.prod .i (.prod .i (.prod .i (.prod .i (.prod .i (.prod .i .unit))))))
abbrev Am:Ty:=(.prod .i (.prod .i (.prod .i (.prod .i (.prod .i .unit)))))
abbrev Dl:Ty:=(.prod (.slice (.slice Am)) .unit)
abbrev A0:Ty:=(.prod .i (.prod .i .unit))
abbrev Af:Ty:=(.prod .i (.prod .i (.prod .i (.prod .i (.prod .i (.prod .i (.prod .i (.prod (.slice A0) (.prod (.slice A0) .unit)))))))))
abbrev IG:Ty:=(.prod .bool (.prod Dl (.prod (.slice Af) (.prod (.slice A0) (.prod (.slice A0) (.prod .i .unit))))))
abbrev Lm:Ty:=(.prod .i (.prod (.slice .i) .unit))
abbrev N3:Ty:=(.prod (.slice (.int .u8)) A0)
noncomputable def Bw:List (TypeId×TI):=[(3,⟨1,(.int .i64),(some .i),[.pv (.int .i64) 0],4398046511104⟩),
 (4,⟨1,.bool,(some .bool),[.b false],35184372088832⟩),
 (5,⟨1,(.int .u8),(some (.int .u8)),[.pv (.int .u8) 0],35184372088832⟩),
 (22,⟨1,(.slice 5),(some (.slice (.int .u8))),[.nils],1466015503701⟩),
 (24,⟨1,(.slice 54),(some (.slice YOp)),[.nils],1466015503701⟩),
 (27,⟨1,(.slice 38),(some (.slice (.slice Am))),[.nils],1466015503701⟩),
 (29,⟨1,(.struct [(0,27)]),(some Dl),[.nils],1466015503701⟩),
 (30,⟨1,(.slice 45),(some (.slice Af)),[.nils],1466015503701⟩),
 (31,⟨1,(.slice 122),(some (.slice A0)),[.nils],1466015503701⟩),
 (32,⟨1,(.slice 78),(some (.slice A0)),[.nils],1466015503701⟩),
 (34,⟨6,(.struct [(0,4),(1,29),(2,30),(3,31),(4,32),(5,3)]),(some IG),[.b false,.nils,.nils,.nils,.nils,.pv (.int .i64) 0],314146179364⟩),
 (35,⟨1,(.slice 60),(some (.slice Lm)),[.nils],1466015503701⟩),
 (38,⟨1,(.slice 41),(some (.slice Am)),[.nils],1466015503701⟩),
 (41,⟨5,(.struct [(0,3),(1,3),(2,3),(3,3),(4,3)]),(some Am),[.pv (.int .i64) 0,.pv (.int .i64) 0,.pv (.int .i64) 0,.pv (.int .i64) 0,.pv (.int .i64) 0],879609302220⟩),
 (42,⟨1,(.slice 48),(some (.slice A0)),[.nils],1466015503701⟩),
 (43,⟨1,(.slice 114),(some (.slice A0)),[.nils],1466015503701⟩),
 (45,⟨9,(.struct [(0,3),(1,3),(2,3),(3,3),(4,3),(5,3),(6,3),(7,42),(8,43)]),(some Af),[.pv (.int .i64) 0,.pv (.int .i64) 0,.pv (.int .i64) 0,.pv (.int .i64) 0,.pv (.int .i64) 0,.pv (.int .i64) 0,.pv (.int .i64) 0,.nils,.nils],338311270084⟩),
 (48,⟨2,(.struct [(0,3),(1,3)]),(some A0),[.pv (.int .i64) 0,.pv (.int .i64) 0],2199023255552⟩),
 (49,⟨1,(.ptr 65),(some (.iref N3)),[.nilp],4398046511104⟩),
 (54,⟨6,(.struct [(0,3),(1,3),(2,3),(3,3),(4,3),(5,3)]),(some YOp),[.pv (.int .i64) 0,.pv (.int .i64) 0,.pv (.int .i64) 0,.pv (.int .i64) 0,.pv (.int .i64) 0,.pv (.int .i64) 0],733007751850⟩),
 (58,⟨1,(.slice 3),(some (.slice .i)),[.nils],1466015503701⟩),
 (60,⟨2,(.struct [(0,3),(1,58)]),(some Lm),[.pv (.int .i64) 0,.nils],1099511627776⟩),
 (62,⟨1,.func,none,[.nilf],4398046511104⟩),
 (65,⟨3,(.struct [(0,22),(1,3),(2,3)]),(some N3),[.nils,.pv (.int .i64) 0,.pv (.int .i64) 0],879609302220⟩),
 (67,⟨1,(.slice 4),(some (.slice .bool)),[.nils],1466015503701⟩),
 (73,⟨1,(.ptr 34),(some (.iref IG)),[.nilp],4398046511104⟩),
 (74,⟨1,(.ptr 45),(some (.iref Af)),[.nilp],4398046511104⟩),
 (78,⟨2,(.struct [(0,3),(1,3)]),(some A0),[.pv (.int .i64) 0,.pv (.int .i64) 0],2199023255552⟩),
 (80,⟨1,.func,none,[.nilf],4398046511104⟩),
 (89,⟨1,.func,none,[.nilf],4398046511104⟩),
 (94,⟨1,.func,none,[.nilf],4398046511104⟩),
 (110,⟨1,(.int .u64),(some (.int .u64)),[.pv (.int .u64) 0],4398046511104⟩),
 (114,⟨2,(.struct [(0,3),(1,3)]),(some A0),[.pv (.int .i64) 0,.pv (.int .i64) 0],2199023255552⟩),
 (118,⟨1,(.ptr 41),(some (.iref Am)),[.nilp],4398046511104⟩),
 (122,⟨2,(.struct [(0,3),(1,3)]),(some A0),[.pv (.int .i64) 0,.pv (.int .i64) 0],2199023255552⟩),
 (123,⟨1,.func,none,[.nilf],4398046511104⟩),
 (127,⟨1,.func,none,[.nilf],4398046511104⟩),
 (132,⟨1,.func,none,[.nilf],4398046511104⟩),
 (135,⟨1,.func,none,[.nilf],4398046511104⟩),
 (139,⟨1,.func,none,[.nilf],4398046511104⟩),
 (140,⟨1,(.ptr 29),(some (.iref Dl)),[.nilp],4398046511104⟩),
 (149,⟨1,.func,none,[.nilf],4398046511104⟩)]
theorem eD:BU Go.Proofs.Tryz.prog 3 ⟨1,(.int .i64),(some .i),[.pv (.int .i64) 0],4398046511104⟩:=
 ⟨Go.Proofs.Tryz.t3,_,by kernel_rfl,Go.Proofs.Tryz.underlying3,by kernel_rfl,rfl,⟨_,rfl,by kernel_rfl,by kernel_rfl⟩,of_decide_eq_true (by kernel_rfl),of_decide_eq_true (by kernel_rfl)⟩
theorem eC:BU Go.Proofs.Tryz.prog 4 ⟨1,.bool,(some .bool),[.b false],35184372088832⟩:=
 ⟨Go.Proofs.Tryz.t4,_,by kernel_rfl,Go.Proofs.Tryz.underlying4,by kernel_rfl,rfl,⟨_,rfl,by kernel_rfl,by kernel_rfl⟩,of_decide_eq_true (by kernel_rfl),of_decide_eq_true (by kernel_rfl)⟩
theorem eB:BU Go.Proofs.Tryz.prog 5 ⟨1,(.int .u8),(some (.int .u8)),[.pv (.int .u8) 0],35184372088832⟩:=
 ⟨Go.Proofs.Tryz.t5,_,by kernel_rfl,Go.Proofs.Tryz.underlying5,by kernel_rfl,rfl,⟨_,rfl,by kernel_rfl,by kernel_rfl⟩,of_decide_eq_true (by kernel_rfl),of_decide_eq_true (by kernel_rfl)⟩
theorem dx:BU Go.Proofs.Tryz.prog 22 ⟨1,(.slice 5),(some (.slice (.int .u8))),[.nils],1466015503701⟩:=
 ⟨Go.Proofs.Tryz.t22,_,by kernel_rfl,Go.Proofs.Tryz.underlying22,by kernel_rfl,rfl,⟨_,rfl,by kernel_rfl,by kernel_rfl⟩,of_decide_eq_true (by kernel_rfl),of_decide_eq_true (by kernel_rfl)⟩
theorem dw:BU Go.Proofs.Tryz.prog 24 ⟨1,(.slice 54),(some (.slice YOp)),[.nils],1466015503701⟩:=
 ⟨Go.Proofs.Tryz.t24,_,by kernel_rfl,Go.Proofs.Tryz.underlying24,by kernel_rfl,rfl,⟨_,rfl,by kernel_rfl,by kernel_rfl⟩,of_decide_eq_true (by kernel_rfl),of_decide_eq_true (by kernel_rfl)⟩
theorem dv:BU Go.Proofs.Tryz.prog 27 ⟨1,(.slice 38),(some (.slice (.slice Am))),[.nils],1466015503701⟩:=
 ⟨Go.Proofs.Tryz.t27,_,by kernel_rfl,Go.Proofs.Tryz.underlying27,by kernel_rfl,rfl,⟨_,rfl,by kernel_rfl,by kernel_rfl⟩,of_decide_eq_true (by kernel_rfl),of_decide_eq_true (by kernel_rfl)⟩
theorem du:BU Go.Proofs.Tryz.prog 29 ⟨1,(.struct [(0,27)]),(some Dl),[.nils],1466015503701⟩:=
 ⟨Go.Proofs.Tryz.t29,_,by kernel_rfl,Go.Proofs.Tryz.underlying29,by kernel_rfl,⟨_,rfl,by kernel_rfl,by kernel_rfl,by kernel_rfl,by kernel_rfl,of_decide_eq_true (by kernel_rfl)⟩,⟨_,rfl,by kernel_rfl,by kernel_rfl⟩,of_decide_eq_true (by kernel_rfl),of_decide_eq_true (by kernel_rfl)⟩
theorem dt:BU Go.Proofs.Tryz.prog 30 ⟨1,(.slice 45),(some (.slice Af)),[.nils],1466015503701⟩:=
 ⟨Go.Proofs.Tryz.t30,_,by kernel_rfl,Go.Proofs.Tryz.underlying30,by kernel_rfl,rfl,⟨_,rfl,by kernel_rfl,by kernel_rfl⟩,of_decide_eq_true (by kernel_rfl),of_decide_eq_true (by kernel_rfl)⟩
theorem dr:BU Go.Proofs.Tryz.prog 31 ⟨1,(.slice 122),(some (.slice A0)),[.nils],1466015503701⟩:=
 ⟨Go.Proofs.Tryz.t31,_,by kernel_rfl,Go.Proofs.Tryz.underlying31,by kernel_rfl,rfl,⟨_,rfl,by kernel_rfl,by kernel_rfl⟩,of_decide_eq_true (by kernel_rfl),of_decide_eq_true (by kernel_rfl)⟩
theorem dq:BU Go.Proofs.Tryz.prog 32 ⟨1,(.slice 78),(some (.slice A0)),[.nils],1466015503701⟩:=
 ⟨Go.Proofs.Tryz.t32,_,by kernel_rfl,Go.Proofs.Tryz.underlying32,by kernel_rfl,rfl,⟨_,rfl,by kernel_rfl,by kernel_rfl⟩,of_decide_eq_true (by kernel_rfl),of_decide_eq_true (by kernel_rfl)⟩
theorem dp:BU Go.Proofs.Tryz.prog 34 ⟨6,(.struct [(0,4),(1,29),(2,30),(3,31),(4,32),(5,3)]),(some IG),[.b false,.nils,.nils,.nils,.nils,.pv (.int .i64) 0],314146179364⟩:=
 ⟨Go.Proofs.Tryz.t34,_,by kernel_rfl,Go.Proofs.Tryz.underlying34,by kernel_rfl,⟨_,rfl,by kernel_rfl,by kernel_rfl,by kernel_rfl,by kernel_rfl,of_decide_eq_true (by kernel_rfl)⟩,⟨_,rfl,by kernel_rfl,by kernel_rfl⟩,of_decide_eq_true (by kernel_rfl),of_decide_eq_true (by kernel_rfl)⟩
theorem dn:BU Go.Proofs.Tryz.prog 35 ⟨1,(.slice 60),(some (.slice Lm)),[.nils],1466015503701⟩:=
 ⟨Go.Proofs.Tryz.t35,_,by kernel_rfl,Go.Proofs.Tryz.underlying35,by kernel_rfl,rfl,⟨_,rfl,by kernel_rfl,by kernel_rfl⟩,of_decide_eq_true (by kernel_rfl),of_decide_eq_true (by kernel_rfl)⟩
theorem dm:BU Go.Proofs.Tryz.prog 38 ⟨1,(.slice 41),(some (.slice Am)),[.nils],1466015503701⟩:=
 ⟨Go.Proofs.Tryz.t38,_,by kernel_rfl,Go.Proofs.Tryz.underlying38,by kernel_rfl,rfl,⟨_,rfl,by kernel_rfl,by kernel_rfl⟩,of_decide_eq_true (by kernel_rfl),of_decide_eq_true (by kernel_rfl)⟩
theorem dl:BU Go.Proofs.Tryz.prog 41 ⟨5,(.struct [(0,3),(1,3),(2,3),(3,3),(4,3)]),(some Am),[.pv (.int .i64) 0,.pv (.int .i64) 0,.pv (.int .i64) 0,.pv (.int .i64) 0,.pv (.int .i64) 0],879609302220⟩:=
 ⟨Go.Proofs.Tryz.t41,_,by kernel_rfl,Go.Proofs.Tryz.underlying41,by kernel_rfl,⟨_,rfl,by kernel_rfl,by kernel_rfl,by kernel_rfl,by kernel_rfl,of_decide_eq_true (by kernel_rfl)⟩,⟨_,rfl,by kernel_rfl,by kernel_rfl⟩,of_decide_eq_true (by kernel_rfl),of_decide_eq_true (by kernel_rfl)⟩
theorem dk:BU Go.Proofs.Tryz.prog 42 ⟨1,(.slice 48),(some (.slice A0)),[.nils],1466015503701⟩:=
 ⟨Go.Proofs.Tryz.t42,_,by kernel_rfl,Go.Proofs.Tryz.underlying42,by kernel_rfl,rfl,⟨_,rfl,by kernel_rfl,by kernel_rfl⟩,of_decide_eq_true (by kernel_rfl),of_decide_eq_true (by kernel_rfl)⟩
theorem dj:BU Go.Proofs.Tryz.prog 43 ⟨1,(.slice 114),(some (.slice A0)),[.nils],1466015503701⟩:=
 ⟨Go.Proofs.Tryz.t43,_,by kernel_rfl,Go.Proofs.Tryz.underlying43,by kernel_rfl,rfl,⟨_,rfl,by kernel_rfl,by kernel_rfl⟩,of_decide_eq_true (by kernel_rfl),of_decide_eq_true (by kernel_rfl)⟩
theorem XB:BU Go.Proofs.Tryz.prog 45 ⟨9,(.struct [(0,3),(1,3),(2,3),(3,3),(4,3),(5,3),(6,3),(7,42),(8,43)]),(some Af),[.pv (.int .i64) 0,.pv (.int .i64) 0,.pv (.int .i64) 0,.pv (.int .i64) 0,.pv (.int .i64) 0,.pv (.int .i64) 0,.pv (.int .i64) 0,.nils,.nils],338311270084⟩:=
 ⟨Go.Proofs.Tryz.t45,_,by kernel_rfl,Go.Proofs.Tryz.underlying45,by kernel_rfl,⟨_,rfl,by kernel_rfl,by kernel_rfl,by kernel_rfl,by kernel_rfl,of_decide_eq_true (by kernel_rfl)⟩,⟨_,rfl,by kernel_rfl,by kernel_rfl⟩,of_decide_eq_true (by kernel_rfl),of_decide_eq_true (by kernel_rfl)⟩
theorem XA:BU Go.Proofs.Tryz.prog 48 ⟨2,(.struct [(0,3),(1,3)]),(some A0),[.pv (.int .i64) 0,.pv (.int .i64) 0],2199023255552⟩:=
 ⟨Go.Proofs.Tryz.t48,_,by kernel_rfl,Go.Proofs.Tryz.underlying48,by kernel_rfl,⟨_,rfl,by kernel_rfl,by kernel_rfl,by kernel_rfl,by kernel_rfl,of_decide_eq_true (by kernel_rfl)⟩,⟨_,rfl,by kernel_rfl,by kernel_rfl⟩,of_decide_eq_true (by kernel_rfl),of_decide_eq_true (by kernel_rfl)⟩
theorem di:BU Go.Proofs.Tryz.prog 49 ⟨1,(.ptr 65),(some (.iref N3)),[.nilp],4398046511104⟩:=
 ⟨Go.Proofs.Tryz.t49,_,by kernel_rfl,Go.Proofs.Tryz.underlying49,by kernel_rfl,rfl,⟨_,rfl,by kernel_rfl,by kernel_rfl⟩,of_decide_eq_true (by kernel_rfl),of_decide_eq_true (by kernel_rfl)⟩
theorem dh:BU Go.Proofs.Tryz.prog 54 ⟨6,(.struct [(0,3),(1,3),(2,3),(3,3),(4,3),(5,3)]),(some YOp),[.pv (.int .i64) 0,.pv (.int .i64) 0,.pv (.int .i64) 0,.pv (.int .i64) 0,.pv (.int .i64) 0,.pv (.int .i64) 0],733007751850⟩:=
 ⟨Go.Proofs.Tryz.t54,_,by kernel_rfl,Go.Proofs.Tryz.underlying54,by kernel_rfl,⟨_,rfl,by kernel_rfl,by kernel_rfl,by kernel_rfl,by kernel_rfl,of_decide_eq_true (by kernel_rfl)⟩,⟨_,rfl,by kernel_rfl,by kernel_rfl⟩,of_decide_eq_true (by kernel_rfl),of_decide_eq_true (by kernel_rfl)⟩
theorem dg:BU Go.Proofs.Tryz.prog 58 ⟨1,(.slice 3),(some (.slice .i)),[.nils],1466015503701⟩:=
 ⟨Go.Proofs.Tryz.t58,_,by kernel_rfl,Go.Proofs.Tryz.underlying58,by kernel_rfl,rfl,⟨_,rfl,by kernel_rfl,by kernel_rfl⟩,of_decide_eq_true (by kernel_rfl),of_decide_eq_true (by kernel_rfl)⟩
theorem df:BU Go.Proofs.Tryz.prog 60 ⟨2,(.struct [(0,3),(1,58)]),(some Lm),[.pv (.int .i64) 0,.nils],1099511627776⟩:=
 ⟨Go.Proofs.Tryz.t60,_,by kernel_rfl,Go.Proofs.Tryz.underlying60,by kernel_rfl,⟨_,rfl,by kernel_rfl,by kernel_rfl,by kernel_rfl,by kernel_rfl,of_decide_eq_true (by kernel_rfl)⟩,⟨_,rfl,by kernel_rfl,by kernel_rfl⟩,of_decide_eq_true (by kernel_rfl),of_decide_eq_true (by kernel_rfl)⟩
theorem de:BU Go.Proofs.Tryz.prog 62 ⟨1,.func,none,[.nilf],4398046511104⟩:=
 ⟨Go.Proofs.Tryz.t62,_,by kernel_rfl,Go.Proofs.Tryz.underlying62,by kernel_rfl,⟨_,_,_,rfl⟩,⟨_,rfl,by kernel_rfl,by kernel_rfl⟩,of_decide_eq_true (by kernel_rfl),of_decide_eq_true (by kernel_rfl)⟩
theorem db:BU Go.Proofs.Tryz.prog 65 ⟨3,(.struct [(0,22),(1,3),(2,3)]),(some N3),[.nils,.pv (.int .i64) 0,.pv (.int .i64) 0],879609302220⟩:=
 ⟨Go.Proofs.Tryz.t65,_,by kernel_rfl,Go.Proofs.Tryz.underlying65,by kernel_rfl,⟨_,rfl,by kernel_rfl,by kernel_rfl,by kernel_rfl,by kernel_rfl,of_decide_eq_true (by kernel_rfl)⟩,⟨_,rfl,by kernel_rfl,by kernel_rfl⟩,of_decide_eq_true (by kernel_rfl),of_decide_eq_true (by kernel_rfl)⟩
theorem da:BU Go.Proofs.Tryz.prog 67 ⟨1,(.slice 4),(some (.slice .bool)),[.nils],1466015503701⟩:=
 ⟨Go.Proofs.Tryz.t67,_,by kernel_rfl,Go.Proofs.Tryz.underlying67,by kernel_rfl,rfl,⟨_,rfl,by kernel_rfl,by kernel_rfl⟩,of_decide_eq_true (by kernel_rfl),of_decide_eq_true (by kernel_rfl)⟩
theorem d9:BU Go.Proofs.Tryz.prog 73 ⟨1,(.ptr 34),(some (.iref IG)),[.nilp],4398046511104⟩:=
 ⟨Go.Proofs.Tryz.t73,_,by kernel_rfl,Go.Proofs.Tryz.underlying73,by kernel_rfl,rfl,⟨_,rfl,by kernel_rfl,by kernel_rfl⟩,of_decide_eq_true (by kernel_rfl),of_decide_eq_true (by kernel_rfl)⟩
theorem d8:BU Go.Proofs.Tryz.prog 74 ⟨1,(.ptr 45),(some (.iref Af)),[.nilp],4398046511104⟩:=
 ⟨Go.Proofs.Tryz.t74,_,by kernel_rfl,Go.Proofs.Tryz.underlying74,by kernel_rfl,rfl,⟨_,rfl,by kernel_rfl,by kernel_rfl⟩,of_decide_eq_true (by kernel_rfl),of_decide_eq_true (by kernel_rfl)⟩
theorem Xz:BU Go.Proofs.Tryz.prog 78 ⟨2,(.struct [(0,3),(1,3)]),(some A0),[.pv (.int .i64) 0,.pv (.int .i64) 0],2199023255552⟩:=
 ⟨Go.Proofs.Tryz.t78,_,by kernel_rfl,Go.Proofs.Tryz.underlying78,by kernel_rfl,⟨_,rfl,by kernel_rfl,by kernel_rfl,by kernel_rfl,by kernel_rfl,of_decide_eq_true (by kernel_rfl)⟩,⟨_,rfl,by kernel_rfl,by kernel_rfl⟩,of_decide_eq_true (by kernel_rfl),of_decide_eq_true (by kernel_rfl)⟩
theorem d7:BU Go.Proofs.Tryz.prog 80 ⟨1,.func,none,[.nilf],4398046511104⟩:=
 ⟨Go.Proofs.Tryz.t80,_,by kernel_rfl,Go.Proofs.Tryz.underlying80,by kernel_rfl,⟨_,_,_,rfl⟩,⟨_,rfl,by kernel_rfl,by kernel_rfl⟩,of_decide_eq_true (by kernel_rfl),of_decide_eq_true (by kernel_rfl)⟩
theorem d6:BU Go.Proofs.Tryz.prog 89 ⟨1,.func,none,[.nilf],4398046511104⟩:=
 ⟨Go.Proofs.Tryz.t89,_,by kernel_rfl,Go.Proofs.Tryz.underlying89,by kernel_rfl,⟨_,_,_,rfl⟩,⟨_,rfl,by kernel_rfl,by kernel_rfl⟩,of_decide_eq_true (by kernel_rfl),of_decide_eq_true (by kernel_rfl)⟩
theorem d5:BU Go.Proofs.Tryz.prog 94 ⟨1,.func,none,[.nilf],4398046511104⟩:=
 ⟨Go.Proofs.Tryz.t94,_,by kernel_rfl,Go.Proofs.Tryz.underlying94,by kernel_rfl,⟨_,_,_,rfl⟩,⟨_,rfl,by kernel_rfl,by kernel_rfl⟩,of_decide_eq_true (by kernel_rfl),of_decide_eq_true (by kernel_rfl)⟩
theorem ZE:BU Go.Proofs.Tryz.prog 110 ⟨1,(.int .u64),(some (.int .u64)),[.pv (.int .u64) 0],4398046511104⟩:=
 ⟨Go.Proofs.Tryz.t110,_,by kernel_rfl,Go.Proofs.Tryz.underlying110,by kernel_rfl,rfl,⟨_,rfl,by kernel_rfl,by kernel_rfl⟩,of_decide_eq_true (by kernel_rfl),of_decide_eq_true (by kernel_rfl)⟩
theorem RP:BU Go.Proofs.Tryz.prog 114 ⟨2,(.struct [(0,3),(1,3)]),(some A0),[.pv (.int .i64) 0,.pv (.int .i64) 0],2199023255552⟩:=
 ⟨Go.Proofs.Tryz.t114,_,by kernel_rfl,Go.Proofs.Tryz.underlying114,by kernel_rfl,⟨_,rfl,by kernel_rfl,by kernel_rfl,by kernel_rfl,by kernel_rfl,of_decide_eq_true (by kernel_rfl)⟩,⟨_,rfl,by kernel_rfl,by kernel_rfl⟩,of_decide_eq_true (by kernel_rfl),of_decide_eq_true (by kernel_rfl)⟩
theorem ZD:BU Go.Proofs.Tryz.prog 118 ⟨1,(.ptr 41),(some (.iref Am)),[.nilp],4398046511104⟩:=
 ⟨Go.Proofs.Tryz.t118,_,by kernel_rfl,Go.Proofs.Tryz.underlying118,by kernel_rfl,rfl,⟨_,rfl,by kernel_rfl,by kernel_rfl⟩,of_decide_eq_true (by kernel_rfl),of_decide_eq_true (by kernel_rfl)⟩
theorem RO:BU Go.Proofs.Tryz.prog 122 ⟨2,(.struct [(0,3),(1,3)]),(some A0),[.pv (.int .i64) 0,.pv (.int .i64) 0],2199023255552⟩:=
 ⟨Go.Proofs.Tryz.t122,_,by kernel_rfl,Go.Proofs.Tryz.underlying122,by kernel_rfl,⟨_,rfl,by kernel_rfl,by kernel_rfl,by kernel_rfl,by kernel_rfl,of_decide_eq_true (by kernel_rfl)⟩,⟨_,rfl,by kernel_rfl,by kernel_rfl⟩,of_decide_eq_true (by kernel_rfl),of_decide_eq_true (by kernel_rfl)⟩
theorem ZC:BU Go.Proofs.Tryz.prog 123 ⟨1,.func,none,[.nilf],4398046511104⟩:=
 ⟨Go.Proofs.Tryz.t123,_,by kernel_rfl,Go.Proofs.Tryz.underlying123,by kernel_rfl,⟨_,_,_,rfl⟩,⟨_,rfl,by kernel_rfl,by kernel_rfl⟩,of_decide_eq_true (by kernel_rfl),of_decide_eq_true (by kernel_rfl)⟩
theorem ZB:BU Go.Proofs.Tryz.prog 127 ⟨1,.func,none,[.nilf],4398046511104⟩:=
 ⟨Go.Proofs.Tryz.t127,_,by kernel_rfl,Go.Proofs.Tryz.underlying127,by kernel_rfl,⟨_,_,_,rfl⟩,⟨_,rfl,by kernel_rfl,by kernel_rfl⟩,of_decide_eq_true (by kernel_rfl),of_decide_eq_true (by kernel_rfl)⟩
theorem ZA:BU Go.Proofs.Tryz.prog 132 ⟨1,.func,none,[.nilf],4398046511104⟩:=
 ⟨Go.Proofs.Tryz.t132,_,by kernel_rfl,Go.Proofs.Tryz.underlying132,by kernel_rfl,⟨_,_,_,rfl⟩,⟨_,rfl,by kernel_rfl,by kernel_rfl⟩,of_decide_eq_true (by kernel_rfl),of_decide_eq_true (by kernel_rfl)⟩
theorem Zz:BU Go.Proofs.Tryz.prog 135 ⟨1,.func,none,[.nilf],4398046511104⟩:=
 ⟨Go.Proofs.Tryz.t135,_,by kernel_rfl,Go.Proofs.Tryz.underlying135,by kernel_rfl,⟨_,_,_,rfl⟩,⟨_,rfl,by kernel_rfl,by kernel_rfl⟩,of_decide_eq_true (by kernel_rfl),of_decide_eq_true (by kernel_rfl)⟩
theorem Zy:BU Go.Proofs.Tryz.prog 139 ⟨1,.func,none,[.nilf],4398046511104⟩:=
 ⟨Go.Proofs.Tryz.t139,_,by kernel_rfl,Go.Proofs.Tryz.underlying139,by kernel_rfl,⟨_,_,_,rfl⟩,⟨_,rfl,by kernel_rfl,by kernel_rfl⟩,of_decide_eq_true (by kernel_rfl),of_decide_eq_true (by kernel_rfl)⟩
theorem Zx:BU Go.Proofs.Tryz.prog 140 ⟨1,(.ptr 29),(some (.iref Dl)),[.nilp],4398046511104⟩:=
 ⟨Go.Proofs.Tryz.t140,_,by kernel_rfl,Go.Proofs.Tryz.underlying140,by kernel_rfl,rfl,⟨_,rfl,by kernel_rfl,by kernel_rfl⟩,of_decide_eq_true (by kernel_rfl),of_decide_eq_true (by kernel_rfl)⟩
theorem Zw:BU Go.Proofs.Tryz.prog 149 ⟨1,.func,none,[.nilf],4398046511104⟩:=
 ⟨Go.Proofs.Tryz.t149,_,by kernel_rfl,Go.Proofs.Tryz.underlying149,by kernel_rfl,⟨_,_,_,rfl⟩,⟨_,rfl,by kernel_rfl,by kernel_rfl⟩,of_decide_eq_true (by kernel_rfl),of_decide_eq_true (by kernel_rfl)⟩
theorem RN:∀p∈Bw,BU Go.Proofs.Tryz.prog p.1 p.2:=(all_cons eD (all_cons eC (all_cons eB (all_cons dx (all_cons dw (all_cons dv (all_cons du (all_cons dt (all_cons dr (all_cons dq (all_cons dp (all_cons dn (all_cons dm (all_cons dl (all_cons dk (all_cons dj (all_cons XB (all_cons XA (all_cons di (all_cons dh (all_cons dg (all_cons df (all_cons de (all_cons db (all_cons da (all_cons d9 (all_cons d8 (all_cons Xz (all_cons d7 (all_cons d6 (all_cons d5 (all_cons ZE (all_cons RP (all_cons ZD (all_cons RO (all_cons ZC (all_cons ZB (all_cons ZA (all_cons Zz (all_cons Zy (all_cons Zx (all_cons Zw all_nil))))))))))))))))))))))))))))))))))))))))))
theorem Xy:Go.Proofs.Tryz.prog.follows .mixedOrders=true:=by kernel_rfl
end Go.Ab
