import Derived.Test.YtchkllapojehpaaGreatF4
import Derived.Test.YtchkllapojehpaaGreatProg
import Derived.KernelRfl
set_option linter.all false
set_option maxRecDepth 100000
namespace Go.Ab
abbrev Af:Ty:=(.prod .i (.prod .i (.prod .i (.prod .i (.prod .i .unit)))))
abbrev Bp:Ty:=(.prod (.slice (.slice Af)) .unit)
abbrev A0:Ty:=(.prod .i (.prod .i .unit))
abbrev Ad:Ty:=(.prod .i (.prod .i (.prod .i (.prod .i (.prod .i (.prod .i (.prod .i (.prod (.slice A0) (.prod (.slice A0) .unit)))))))))
abbrev D9:Ty:=(.prod .bool (.prod Bp (.prod (.slice Ad) (.prod (.slice A0) (.prod (.slice A0) (.prod .i .unit))))))
abbrev YOp:Ty:=(.prod .i Af)
abbrev LB:Ty:=(.prod .i (.prod (.slice .i) .unit))
noncomputable def Aw:List (TypeId×TI):=[(3,⟨1,(.int .i64),(some .i),[.pv (.int .i64) 0],4398046511104⟩),
 (4,⟨1,.bool,(some .bool),[.b false],35184372088832⟩),
 (22,⟨1,(.slice 197),(some (.slice (.slice Af))),[.nils],1466015503701⟩),
 (24,⟨1,(.struct [(0,22)]),(some Bp),[.nils],1466015503701⟩),
 (25,⟨1,(.slice 129),(some (.slice Ad)),[.nils],1466015503701⟩),
 (26,⟨1,(.slice 168),(some (.slice A0)),[.nils],1466015503701⟩),
 (27,⟨1,(.slice 170),(some (.slice A0)),[.nils],1466015503701⟩),
 (29,⟨6,(.struct [(0,4),(1,24),(2,25),(3,26),(4,27),(5,3)]),(some D9),[.b false,.nils,.nils,.nils,.nils,.pv (.int .i64) 0],314146179364⟩),
 (31,⟨6,(.struct [(0,3),(1,3),(2,3),(3,3),(4,3),(5,3)]),(some YOp),[.pv (.int .i64) 0,.pv (.int .i64) 0,.pv (.int .i64) 0,.pv (.int .i64) 0,.pv (.int .i64) 0,.pv (.int .i64) 0],733007751850⟩),
 (33,⟨1,(.slice 200),(some (.slice (.slice Af))),[.nils],1466015503701⟩),
 (35,⟨1,(.struct [(0,33)]),(some Bp),[.nils],1466015503701⟩),
 (36,⟨1,(.slice 93),(some (.slice Ad)),[.nils],1466015503701⟩),
 (37,⟨1,(.slice 142),(some (.slice A0)),[.nils],1466015503701⟩),
 (38,⟨1,(.slice 144),(some (.slice A0)),[.nils],1466015503701⟩),
 (40,⟨6,(.struct [(0,4),(1,35),(2,36),(3,37),(4,38),(5,3)]),(some D9),[.b false,.nils,.nils,.nils,.nils,.pv (.int .i64) 0],314146179364⟩),
 (41,⟨1,(.slice 3),(some (.slice .i)),[.nils],1466015503701⟩),
 (43,⟨2,(.struct [(0,3),(1,41)]),(some LB),[.pv (.int .i64) 0,.nils],1099511627776⟩),
 (47,⟨6,(.struct [(0,3),(1,3),(2,3),(3,3),(4,3),(5,3)]),(some YOp),[.pv (.int .i64) 0,.pv (.int .i64) 0,.pv (.int .i64) 0,.pv (.int .i64) 0,.pv (.int .i64) 0,.pv (.int .i64) 0],733007751850⟩),
 (54,⟨1,(.slice 64),(some (.slice (.slice YOp))),[.nils],1466015503701⟩),
 (57,⟨1,(.slice 69),(some (.slice (.slice YOp))),[.nils],1466015503701⟩),
 (64,⟨1,(.slice 31),(some (.slice YOp)),[.nils],1466015503701⟩),
 (66,⟨1,(.slice 43),(some (.slice LB)),[.nils],1466015503701⟩),
 (69,⟨1,(.slice 47),(some (.slice YOp)),[.nils],1466015503701⟩),
 (90,⟨1,(.slice 204),(some (.slice A0)),[.nils],1466015503701⟩),
 (91,⟨1,(.slice 147),(some (.slice A0)),[.nils],1466015503701⟩),
 (93,⟨9,(.struct [(0,3),(1,3),(2,3),(3,3),(4,3),(5,3),(6,3),(7,90),(8,91)]),(some Ad),[.pv (.int .i64) 0,.pv (.int .i64) 0,.pv (.int .i64) 0,.pv (.int .i64) 0,.pv (.int .i64) 0,.pv (.int .i64) 0,.pv (.int .i64) 0,.nils,.nils],338311270084⟩),
 (99,⟨1,(.ptr 40),(some (.iref D9)),[.nilp],4398046511104⟩),
 (126,⟨1,(.slice 246),(some (.slice A0)),[.nils],1466015503701⟩),
 (127,⟨1,(.slice 248),(some (.slice A0)),[.nils],1466015503701⟩),
 (129,⟨9,(.struct [(0,3),(1,3),(2,3),(3,3),(4,3),(5,3),(6,3),(7,126),(8,127)]),(some Ad),[.pv (.int .i64) 0,.pv (.int .i64) 0,.pv (.int .i64) 0,.pv (.int .i64) 0,.pv (.int .i64) 0,.pv (.int .i64) 0,.pv (.int .i64) 0,.nils,.nils],338311270084⟩),
 (138,⟨1,.func,none,[.nilf],4398046511104⟩),
 (142,⟨2,(.struct [(0,3),(1,3)]),(some A0),[.pv (.int .i64) 0,.pv (.int .i64) 0],2199023255552⟩),
 (144,⟨2,(.struct [(0,3),(1,3)]),(some A0),[.pv (.int .i64) 0,.pv (.int .i64) 0],2199023255552⟩),
 (145,⟨1,.func,none,[.nilf],4398046511104⟩),
 (147,⟨2,(.struct [(0,3),(1,3)]),(some A0),[.pv (.int .i64) 0,.pv (.int .i64) 0],2199023255552⟩),
 (149,⟨5,(.struct [(0,3),(1,3),(2,3),(3,3),(4,3)]),(some Af),[.pv (.int .i64) 0,.pv (.int .i64) 0,.pv (.int .i64) 0,.pv (.int .i64) 0,.pv (.int .i64) 0],879609302220⟩),
 (168,⟨2,(.struct [(0,3),(1,3)]),(some A0),[.pv (.int .i64) 0,.pv (.int .i64) 0],2199023255552⟩),
 (170,⟨2,(.struct [(0,3),(1,3)]),(some A0),[.pv (.int .i64) 0,.pv (.int .i64) 0],2199023255552⟩),
 (177,⟨1,.func,none,[.nilf],4398046511104⟩),
 (179,⟨1,.func,none,[.nilf],4398046511104⟩),
 (180,⟨1,(.ptr 93),(some (.iref Ad)),[.nilp],4398046511104⟩),
 (197,⟨1,(.slice 244),(some (.slice Af)),[.nils],1466015503701⟩),
 (200,⟨1,(.slice 149),(some (.slice Af)),[.nils],1466015503701⟩),
 (202,⟨1,.func,none,[.nilf],4398046511104⟩),
 (204,⟨2,(.struct [(0,3),(1,3)]),(some A0),[.pv (.int .i64) 0,.pv (.int .i64) 0],2199023255552⟩),
 (211,⟨1,.func,none,[.nilf],4398046511104⟩),
 (244,⟨5,(.struct [(0,3),(1,3),(2,3),(3,3),(4,3)]),(some Af),[.pv (.int .i64) 0,.pv (.int .i64) 0,.pv (.int .i64) 0,.pv (.int .i64) 0,.pv (.int .i64) 0],879609302220⟩),
 (246,⟨2,(.struct [(0,3),(1,3)]),(some A0),[.pv (.int .i64) 0,.pv (.int .i64) 0],2199023255552⟩),
 (248,⟨2,(.struct [(0,3),(1,3)]),(some A0),[.pv (.int .i64) 0,.pv (.int .i64) 0],2199023255552⟩),
 (252,⟨1,(.ptr 149),(some (.iref Af)),[.nilp],4398046511104⟩),
 (254,⟨1,.func,none,[.nilf],4398046511104⟩),
 (255,⟨1,(.int .u64),(some (.int .u64)),[.pv (.int .u64) 0],4398046511104⟩),
 (261,⟨1,.func,none,[.nilf],4398046511104⟩),
 (264,⟨1,.func,none,[.nilf],4398046511104⟩),
 (267,⟨1,.func,none,[.nilf],4398046511104⟩),
 (270,⟨1,.func,none,[.nilf],4398046511104⟩),
 (271,⟨1,(.ptr 35),(some (.iref Bp)),[.nilp],4398046511104⟩),
 (274,⟨1,.func,none,[.nilf],4398046511104⟩)]
theorem Ab1:BD Go.Proofs.Tryz.prog 3 ⟨1,(.int .i64),(some .i),[.pv (.int .i64) 0],4398046511104⟩:=
 ⟨Go.Proofs.Tryz.t3,_,by kernel_rfl,Go.Proofs.Tryz.underlying3,by kernel_rfl,rfl,⟨_,rfl,by kernel_rfl,by kernel_rfl⟩,of_decide_eq_true (by kernel_rfl),of_decide_eq_true (by kernel_rfl)⟩
theorem Ab0:BD Go.Proofs.Tryz.prog 4 ⟨1,.bool,(some .bool),[.b false],35184372088832⟩:=
 ⟨Go.Proofs.Tryz.t4,_,by kernel_rfl,Go.Proofs.Tryz.underlying4,by kernel_rfl,rfl,⟨_,rfl,by kernel_rfl,by kernel_rfl⟩,of_decide_eq_true (by kernel_rfl),of_decide_eq_true (by kernel_rfl)⟩
theorem yP:BD Go.Proofs.Tryz.prog 22 ⟨1,(.slice 197),(some (.slice (.slice Af))),[.nils],1466015503701⟩:=
 ⟨Go.Proofs.Tryz.t22,_,by kernel_rfl,Go.Proofs.Tryz.underlying22,by kernel_rfl,rfl,⟨_,rfl,by kernel_rfl,by kernel_rfl⟩,of_decide_eq_true (by kernel_rfl),of_decide_eq_true (by kernel_rfl)⟩
theorem yO:BD Go.Proofs.Tryz.prog 24 ⟨1,(.struct [(0,22)]),(some Bp),[.nils],1466015503701⟩:=
 ⟨Go.Proofs.Tryz.t24,_,by kernel_rfl,Go.Proofs.Tryz.underlying24,by kernel_rfl,⟨_,rfl,by kernel_rfl,by kernel_rfl,by kernel_rfl,by kernel_rfl,of_decide_eq_true (by kernel_rfl)⟩,⟨_,rfl,by kernel_rfl,by kernel_rfl⟩,of_decide_eq_true (by kernel_rfl),of_decide_eq_true (by kernel_rfl)⟩
theorem yN:BD Go.Proofs.Tryz.prog 25 ⟨1,(.slice 129),(some (.slice Ad)),[.nils],1466015503701⟩:=
 ⟨Go.Proofs.Tryz.t25,_,by kernel_rfl,Go.Proofs.Tryz.underlying25,by kernel_rfl,rfl,⟨_,rfl,by kernel_rfl,by kernel_rfl⟩,of_decide_eq_true (by kernel_rfl),of_decide_eq_true (by kernel_rfl)⟩
theorem yM:BD Go.Proofs.Tryz.prog 26 ⟨1,(.slice 168),(some (.slice A0)),[.nils],1466015503701⟩:=
 ⟨Go.Proofs.Tryz.t26,_,by kernel_rfl,Go.Proofs.Tryz.underlying26,by kernel_rfl,rfl,⟨_,rfl,by kernel_rfl,by kernel_rfl⟩,of_decide_eq_true (by kernel_rfl),of_decide_eq_true (by kernel_rfl)⟩
theorem yL:BD Go.Proofs.Tryz.prog 27 ⟨1,(.slice 170),(some (.slice A0)),[.nils],1466015503701⟩:=
 ⟨Go.Proofs.Tryz.t27,_,by kernel_rfl,Go.Proofs.Tryz.underlying27,by kernel_rfl,rfl,⟨_,rfl,by kernel_rfl,by kernel_rfl⟩,of_decide_eq_true (by kernel_rfl),of_decide_eq_true (by kernel_rfl)⟩
theorem yK:BD Go.Proofs.Tryz.prog 29 ⟨6,(.struct [(0,4),(1,24),(2,25),(3,26),(4,27),(5,3)]),(some D9),[.b false,.nils,.nils,.nils,.nils,.pv (.int .i64) 0],314146179364⟩:=
 ⟨Go.Proofs.Tryz.t29,_,by kernel_rfl,Go.Proofs.Tryz.underlying29,by kernel_rfl,⟨_,rfl,by kernel_rfl,by kernel_rfl,by kernel_rfl,by kernel_rfl,of_decide_eq_true (by kernel_rfl)⟩,⟨_,rfl,by kernel_rfl,by kernel_rfl⟩,of_decide_eq_true (by kernel_rfl),of_decide_eq_true (by kernel_rfl)⟩
theorem yJ:BD Go.Proofs.Tryz.prog 31 ⟨6,(.struct [(0,3),(1,3),(2,3),(3,3),(4,3),(5,3)]),(some YOp),[.pv (.int .i64) 0,.pv (.int .i64) 0,.pv (.int .i64) 0,.pv (.int .i64) 0,.pv (.int .i64) 0,.pv (.int .i64) 0],733007751850⟩:=
 ⟨Go.Proofs.Tryz.t31,_,by kernel_rfl,Go.Proofs.Tryz.underlying31,by kernel_rfl,⟨_,rfl,by kernel_rfl,by kernel_rfl,by kernel_rfl,by kernel_rfl,of_decide_eq_true (by kernel_rfl)⟩,⟨_,rfl,by kernel_rfl,by kernel_rfl⟩,of_decide_eq_true (by kernel_rfl),of_decide_eq_true (by kernel_rfl)⟩
theorem yI:BD Go.Proofs.Tryz.prog 33 ⟨1,(.slice 200),(some (.slice (.slice Af))),[.nils],1466015503701⟩:=
 ⟨Go.Proofs.Tryz.t33,_,by kernel_rfl,Go.Proofs.Tryz.underlying33,by kernel_rfl,rfl,⟨_,rfl,by kernel_rfl,by kernel_rfl⟩,of_decide_eq_true (by kernel_rfl),of_decide_eq_true (by kernel_rfl)⟩
theorem yH:BD Go.Proofs.Tryz.prog 35 ⟨1,(.struct [(0,33)]),(some Bp),[.nils],1466015503701⟩:=
 ⟨Go.Proofs.Tryz.t35,_,by kernel_rfl,Go.Proofs.Tryz.underlying35,by kernel_rfl,⟨_,rfl,by kernel_rfl,by kernel_rfl,by kernel_rfl,by kernel_rfl,of_decide_eq_true (by kernel_rfl)⟩,⟨_,rfl,by kernel_rfl,by kernel_rfl⟩,of_decide_eq_true (by kernel_rfl),of_decide_eq_true (by kernel_rfl)⟩
theorem yG:BD Go.Proofs.Tryz.prog 36 ⟨1,(.slice 93),(some (.slice Ad)),[.nils],1466015503701⟩:=
 ⟨Go.Proofs.Tryz.t36,_,by kernel_rfl,Go.Proofs.Tryz.underlying36,by kernel_rfl,rfl,⟨_,rfl,by kernel_rfl,by kernel_rfl⟩,of_decide_eq_true (by kernel_rfl),of_decide_eq_true (by kernel_rfl)⟩
theorem yF:BD Go.Proofs.Tryz.prog 37 ⟨1,(.slice 142),(some (.slice A0)),[.nils],1466015503701⟩:=
 ⟨Go.Proofs.Tryz.t37,_,by kernel_rfl,Go.Proofs.Tryz.underlying37,by kernel_rfl,rfl,⟨_,rfl,by kernel_rfl,by kernel_rfl⟩,of_decide_eq_true (by kernel_rfl),of_decide_eq_true (by kernel_rfl)⟩
theorem yE:BD Go.Proofs.Tryz.prog 38 ⟨1,(.slice 144),(some (.slice A0)),[.nils],1466015503701⟩:=
 ⟨Go.Proofs.Tryz.t38,_,by kernel_rfl,Go.Proofs.Tryz.underlying38,by kernel_rfl,rfl,⟨_,rfl,by kernel_rfl,by kernel_rfl⟩,of_decide_eq_true (by kernel_rfl),of_decide_eq_true (by kernel_rfl)⟩
theorem yD:BD Go.Proofs.Tryz.prog 40 ⟨6,(.struct [(0,4),(1,35),(2,36),(3,37),(4,38),(5,3)]),(some D9),[.b false,.nils,.nils,.nils,.nils,.pv (.int .i64) 0],314146179364⟩:=
 ⟨Go.Proofs.Tryz.t40,_,by kernel_rfl,Go.Proofs.Tryz.underlying40,by kernel_rfl,⟨_,rfl,by kernel_rfl,by kernel_rfl,by kernel_rfl,by kernel_rfl,of_decide_eq_true (by kernel_rfl)⟩,⟨_,rfl,by kernel_rfl,by kernel_rfl⟩,of_decide_eq_true (by kernel_rfl),of_decide_eq_true (by kernel_rfl)⟩
theorem yC:BD Go.Proofs.Tryz.prog 41 ⟨1,(.slice 3),(some (.slice .i)),[.nils],1466015503701⟩:=
 ⟨Go.Proofs.Tryz.t41,_,by kernel_rfl,Go.Proofs.Tryz.underlying41,by kernel_rfl,rfl,⟨_,rfl,by kernel_rfl,by kernel_rfl⟩,of_decide_eq_true (by kernel_rfl),of_decide_eq_true (by kernel_rfl)⟩
theorem yB:BD Go.Proofs.Tryz.prog 43 ⟨2,(.struct [(0,3),(1,41)]),(some LB),[.pv (.int .i64) 0,.nils],1099511627776⟩:=
 ⟨Go.Proofs.Tryz.t43,_,by kernel_rfl,Go.Proofs.Tryz.underlying43,by kernel_rfl,⟨_,rfl,by kernel_rfl,by kernel_rfl,by kernel_rfl,by kernel_rfl,of_decide_eq_true (by kernel_rfl)⟩,⟨_,rfl,by kernel_rfl,by kernel_rfl⟩,of_decide_eq_true (by kernel_rfl),of_decide_eq_true (by kernel_rfl)⟩
theorem rL:BD Go.Proofs.Tryz.prog 47 ⟨6,(.struct [(0,3),(1,3),(2,3),(3,3),(4,3),(5,3)]),(some YOp),[.pv (.int .i64) 0,.pv (.int .i64) 0,.pv (.int .i64) 0,.pv (.int .i64) 0,.pv (.int .i64) 0,.pv (.int .i64) 0],733007751850⟩:=
 ⟨Go.Proofs.Tryz.t47,_,by kernel_rfl,Go.Proofs.Tryz.underlying47,by kernel_rfl,⟨_,rfl,by kernel_rfl,by kernel_rfl,by kernel_rfl,by kernel_rfl,of_decide_eq_true (by kernel_rfl)⟩,⟨_,rfl,by kernel_rfl,by kernel_rfl⟩,of_decide_eq_true (by kernel_rfl),of_decide_eq_true (by kernel_rfl)⟩
theorem yA:BD Go.Proofs.Tryz.prog 54 ⟨1,(.slice 64),(some (.slice (.slice YOp))),[.nils],1466015503701⟩:=
 ⟨Go.Proofs.Tryz.t54,_,by kernel_rfl,Go.Proofs.Tryz.underlying54,by kernel_rfl,rfl,⟨_,rfl,by kernel_rfl,by kernel_rfl⟩,of_decide_eq_true (by kernel_rfl),of_decide_eq_true (by kernel_rfl)⟩
theorem yz:BD Go.Proofs.Tryz.prog 57 ⟨1,(.slice 69),(some (.slice (.slice YOp))),[.nils],1466015503701⟩:=
 ⟨Go.Proofs.Tryz.t57,_,by kernel_rfl,Go.Proofs.Tryz.underlying57,by kernel_rfl,rfl,⟨_,rfl,by kernel_rfl,by kernel_rfl⟩,of_decide_eq_true (by kernel_rfl),of_decide_eq_true (by kernel_rfl)⟩
theorem yx:BD Go.Proofs.Tryz.prog 64 ⟨1,(.slice 31),(some (.slice YOp)),[.nils],1466015503701⟩:=
 ⟨Go.Proofs.Tryz.t64,_,by kernel_rfl,Go.Proofs.Tryz.underlying64,by kernel_rfl,rfl,⟨_,rfl,by kernel_rfl,by kernel_rfl⟩,of_decide_eq_true (by kernel_rfl),of_decide_eq_true (by kernel_rfl)⟩
theorem yw:BD Go.Proofs.Tryz.prog 66 ⟨1,(.slice 43),(some (.slice LB)),[.nils],1466015503701⟩:=
 ⟨Go.Proofs.Tryz.t66,_,by kernel_rfl,Go.Proofs.Tryz.underlying66,by kernel_rfl,rfl,⟨_,rfl,by kernel_rfl,by kernel_rfl⟩,of_decide_eq_true (by kernel_rfl),of_decide_eq_true (by kernel_rfl)⟩
theorem yv:BD Go.Proofs.Tryz.prog 69 ⟨1,(.slice 47),(some (.slice YOp)),[.nils],1466015503701⟩:=
 ⟨Go.Proofs.Tryz.t69,_,by kernel_rfl,Go.Proofs.Tryz.underlying69,by kernel_rfl,rfl,⟨_,rfl,by kernel_rfl,by kernel_rfl⟩,of_decide_eq_true (by kernel_rfl),of_decide_eq_true (by kernel_rfl)⟩
theorem yu:BD Go.Proofs.Tryz.prog 90 ⟨1,(.slice 204),(some (.slice A0)),[.nils],1466015503701⟩:=
 ⟨Go.Proofs.Tryz.t90,_,by kernel_rfl,Go.Proofs.Tryz.underlying90,by kernel_rfl,rfl,⟨_,rfl,by kernel_rfl,by kernel_rfl⟩,of_decide_eq_true (by kernel_rfl),of_decide_eq_true (by kernel_rfl)⟩
theorem yt:BD Go.Proofs.Tryz.prog 91 ⟨1,(.slice 147),(some (.slice A0)),[.nils],1466015503701⟩:=
 ⟨Go.Proofs.Tryz.t91,_,by kernel_rfl,Go.Proofs.Tryz.underlying91,by kernel_rfl,rfl,⟨_,rfl,by kernel_rfl,by kernel_rfl⟩,of_decide_eq_true (by kernel_rfl),of_decide_eq_true (by kernel_rfl)⟩
theorem gy:BD Go.Proofs.Tryz.prog 93 ⟨9,(.struct [(0,3),(1,3),(2,3),(3,3),(4,3),(5,3),(6,3),(7,90),(8,91)]),(some Ad),[.pv (.int .i64) 0,.pv (.int .i64) 0,.pv (.int .i64) 0,.pv (.int .i64) 0,.pv (.int .i64) 0,.pv (.int .i64) 0,.pv (.int .i64) 0,.nils,.nils],338311270084⟩:=
 ⟨Go.Proofs.Tryz.t93,_,by kernel_rfl,Go.Proofs.Tryz.underlying93,by kernel_rfl,⟨_,rfl,by kernel_rfl,by kernel_rfl,by kernel_rfl,by kernel_rfl,of_decide_eq_true (by kernel_rfl)⟩,⟨_,rfl,by kernel_rfl,by kernel_rfl⟩,of_decide_eq_true (by kernel_rfl),of_decide_eq_true (by kernel_rfl)⟩
theorem yr:BD Go.Proofs.Tryz.prog 99 ⟨1,(.ptr 40),(some (.iref D9)),[.nilp],4398046511104⟩:=
 ⟨Go.Proofs.Tryz.t99,_,by kernel_rfl,Go.Proofs.Tryz.underlying99,by kernel_rfl,rfl,⟨_,rfl,by kernel_rfl,by kernel_rfl⟩,of_decide_eq_true (by kernel_rfl),of_decide_eq_true (by kernel_rfl)⟩
theorem qc:BD Go.Proofs.Tryz.prog 126 ⟨1,(.slice 246),(some (.slice A0)),[.nils],1466015503701⟩:=
 ⟨Go.Proofs.Tryz.t126,_,by kernel_rfl,Go.Proofs.Tryz.underlying126,by kernel_rfl,rfl,⟨_,rfl,by kernel_rfl,by kernel_rfl⟩,of_decide_eq_true (by kernel_rfl),of_decide_eq_true (by kernel_rfl)⟩
theorem qb:BD Go.Proofs.Tryz.prog 127 ⟨1,(.slice 248),(some (.slice A0)),[.nils],1466015503701⟩:=
 ⟨Go.Proofs.Tryz.t127,_,by kernel_rfl,Go.Proofs.Tryz.underlying127,by kernel_rfl,rfl,⟨_,rfl,by kernel_rfl,by kernel_rfl⟩,of_decide_eq_true (by kernel_rfl),of_decide_eq_true (by kernel_rfl)⟩
theorem qa:BD Go.Proofs.Tryz.prog 129 ⟨9,(.struct [(0,3),(1,3),(2,3),(3,3),(4,3),(5,3),(6,3),(7,126),(8,127)]),(some Ad),[.pv (.int .i64) 0,.pv (.int .i64) 0,.pv (.int .i64) 0,.pv (.int .i64) 0,.pv (.int .i64) 0,.pv (.int .i64) 0,.pv (.int .i64) 0,.nils,.nils],338311270084⟩:=
 ⟨Go.Proofs.Tryz.t129,_,by kernel_rfl,Go.Proofs.Tryz.underlying129,by kernel_rfl,⟨_,rfl,by kernel_rfl,by kernel_rfl,by kernel_rfl,by kernel_rfl,of_decide_eq_true (by kernel_rfl)⟩,⟨_,rfl,by kernel_rfl,by kernel_rfl⟩,of_decide_eq_true (by kernel_rfl),of_decide_eq_true (by kernel_rfl)⟩
theorem q9:BD Go.Proofs.Tryz.prog 138 ⟨1,.func,none,[.nilf],4398046511104⟩:=
 ⟨Go.Proofs.Tryz.t138,_,by kernel_rfl,Go.Proofs.Tryz.underlying138,by kernel_rfl,⟨_,_,_,rfl⟩,⟨_,rfl,by kernel_rfl,by kernel_rfl⟩,of_decide_eq_true (by kernel_rfl),of_decide_eq_true (by kernel_rfl)⟩
theorem YT:BD Go.Proofs.Tryz.prog 142 ⟨2,(.struct [(0,3),(1,3)]),(some A0),[.pv (.int .i64) 0,.pv (.int .i64) 0],2199023255552⟩:=
 ⟨Go.Proofs.Tryz.t142,_,by kernel_rfl,Go.Proofs.Tryz.underlying142,by kernel_rfl,⟨_,rfl,by kernel_rfl,by kernel_rfl,by kernel_rfl,by kernel_rfl,of_decide_eq_true (by kernel_rfl)⟩,⟨_,rfl,by kernel_rfl,by kernel_rfl⟩,of_decide_eq_true (by kernel_rfl),of_decide_eq_true (by kernel_rfl)⟩
theorem YS:BD Go.Proofs.Tryz.prog 144 ⟨2,(.struct [(0,3),(1,3)]),(some A0),[.pv (.int .i64) 0,.pv (.int .i64) 0],2199023255552⟩:=
 ⟨Go.Proofs.Tryz.t144,_,by kernel_rfl,Go.Proofs.Tryz.underlying144,by kernel_rfl,⟨_,rfl,by kernel_rfl,by kernel_rfl,by kernel_rfl,by kernel_rfl,of_decide_eq_true (by kernel_rfl)⟩,⟨_,rfl,by kernel_rfl,by kernel_rfl⟩,of_decide_eq_true (by kernel_rfl),of_decide_eq_true (by kernel_rfl)⟩
theorem q8:BD Go.Proofs.Tryz.prog 145 ⟨1,.func,none,[.nilf],4398046511104⟩:=
 ⟨Go.Proofs.Tryz.t145,_,by kernel_rfl,Go.Proofs.Tryz.underlying145,by kernel_rfl,⟨_,_,_,rfl⟩,⟨_,rfl,by kernel_rfl,by kernel_rfl⟩,of_decide_eq_true (by kernel_rfl),of_decide_eq_true (by kernel_rfl)⟩
theorem YR:BD Go.Proofs.Tryz.prog 147 ⟨2,(.struct [(0,3),(1,3)]),(some A0),[.pv (.int .i64) 0,.pv (.int .i64) 0],2199023255552⟩:=
 ⟨Go.Proofs.Tryz.t147,_,by kernel_rfl,Go.Proofs.Tryz.underlying147,by kernel_rfl,⟨_,rfl,by kernel_rfl,by kernel_rfl,by kernel_rfl,by kernel_rfl,of_decide_eq_true (by kernel_rfl)⟩,⟨_,rfl,by kernel_rfl,by kernel_rfl⟩,of_decide_eq_true (by kernel_rfl),of_decide_eq_true (by kernel_rfl)⟩
theorem q7:BD Go.Proofs.Tryz.prog 149 ⟨5,(.struct [(0,3),(1,3),(2,3),(3,3),(4,3)]),(some Af),[.pv (.int .i64) 0,.pv (.int .i64) 0,.pv (.int .i64) 0,.pv (.int .i64) 0,.pv (.int .i64) 0],879609302220⟩:=
 ⟨Go.Proofs.Tryz.t149,_,by kernel_rfl,Go.Proofs.Tryz.underlying149,by kernel_rfl,⟨_,rfl,by kernel_rfl,by kernel_rfl,by kernel_rfl,by kernel_rfl,of_decide_eq_true (by kernel_rfl)⟩,⟨_,rfl,by kernel_rfl,by kernel_rfl⟩,of_decide_eq_true (by kernel_rfl),of_decide_eq_true (by kernel_rfl)⟩
theorem q6:BD Go.Proofs.Tryz.prog 168 ⟨2,(.struct [(0,3),(1,3)]),(some A0),[.pv (.int .i64) 0,.pv (.int .i64) 0],2199023255552⟩:=
 ⟨Go.Proofs.Tryz.t168,_,by kernel_rfl,Go.Proofs.Tryz.underlying168,by kernel_rfl,⟨_,rfl,by kernel_rfl,by kernel_rfl,by kernel_rfl,by kernel_rfl,of_decide_eq_true (by kernel_rfl)⟩,⟨_,rfl,by kernel_rfl,by kernel_rfl⟩,of_decide_eq_true (by kernel_rfl),of_decide_eq_true (by kernel_rfl)⟩
theorem pZ:BD Go.Proofs.Tryz.prog 170 ⟨2,(.struct [(0,3),(1,3)]),(some A0),[.pv (.int .i64) 0,.pv (.int .i64) 0],2199023255552⟩:=
 ⟨Go.Proofs.Tryz.t170,_,by kernel_rfl,Go.Proofs.Tryz.underlying170,by kernel_rfl,⟨_,rfl,by kernel_rfl,by kernel_rfl,by kernel_rfl,by kernel_rfl,of_decide_eq_true (by kernel_rfl)⟩,⟨_,rfl,by kernel_rfl,by kernel_rfl⟩,of_decide_eq_true (by kernel_rfl),of_decide_eq_true (by kernel_rfl)⟩
theorem pY:BD Go.Proofs.Tryz.prog 177 ⟨1,.func,none,[.nilf],4398046511104⟩:=
 ⟨Go.Proofs.Tryz.t177,_,by kernel_rfl,Go.Proofs.Tryz.underlying177,by kernel_rfl,⟨_,_,_,rfl⟩,⟨_,rfl,by kernel_rfl,by kernel_rfl⟩,of_decide_eq_true (by kernel_rfl),of_decide_eq_true (by kernel_rfl)⟩
theorem pX:BD Go.Proofs.Tryz.prog 179 ⟨1,.func,none,[.nilf],4398046511104⟩:=
 ⟨Go.Proofs.Tryz.t179,_,by kernel_rfl,Go.Proofs.Tryz.underlying179,by kernel_rfl,⟨_,_,_,rfl⟩,⟨_,rfl,by kernel_rfl,by kernel_rfl⟩,of_decide_eq_true (by kernel_rfl),of_decide_eq_true (by kernel_rfl)⟩
theorem pW:BD Go.Proofs.Tryz.prog 180 ⟨1,(.ptr 93),(some (.iref Ad)),[.nilp],4398046511104⟩:=
 ⟨Go.Proofs.Tryz.t180,_,by kernel_rfl,Go.Proofs.Tryz.underlying180,by kernel_rfl,rfl,⟨_,rfl,by kernel_rfl,by kernel_rfl⟩,of_decide_eq_true (by kernel_rfl),of_decide_eq_true (by kernel_rfl)⟩
theorem pV:BD Go.Proofs.Tryz.prog 197 ⟨1,(.slice 244),(some (.slice Af)),[.nils],1466015503701⟩:=
 ⟨Go.Proofs.Tryz.t197,_,by kernel_rfl,Go.Proofs.Tryz.underlying197,by kernel_rfl,rfl,⟨_,rfl,by kernel_rfl,by kernel_rfl⟩,of_decide_eq_true (by kernel_rfl),of_decide_eq_true (by kernel_rfl)⟩
theorem pU:BD Go.Proofs.Tryz.prog 200 ⟨1,(.slice 149),(some (.slice Af)),[.nils],1466015503701⟩:=
 ⟨Go.Proofs.Tryz.t200,_,by kernel_rfl,Go.Proofs.Tryz.underlying200,by kernel_rfl,rfl,⟨_,rfl,by kernel_rfl,by kernel_rfl⟩,of_decide_eq_true (by kernel_rfl),of_decide_eq_true (by kernel_rfl)⟩
theorem pT:BD Go.Proofs.Tryz.prog 202 ⟨1,.func,none,[.nilf],4398046511104⟩:=
 ⟨Go.Proofs.Tryz.t202,_,by kernel_rfl,Go.Proofs.Tryz.underlying202,by kernel_rfl,⟨_,_,_,rfl⟩,⟨_,rfl,by kernel_rfl,by kernel_rfl⟩,of_decide_eq_true (by kernel_rfl),of_decide_eq_true (by kernel_rfl)⟩
theorem YQ:BD Go.Proofs.Tryz.prog 204 ⟨2,(.struct [(0,3),(1,3)]),(some A0),[.pv (.int .i64) 0,.pv (.int .i64) 0],2199023255552⟩:=
 ⟨Go.Proofs.Tryz.t204,_,by kernel_rfl,Go.Proofs.Tryz.underlying204,by kernel_rfl,⟨_,rfl,by kernel_rfl,by kernel_rfl,by kernel_rfl,by kernel_rfl,of_decide_eq_true (by kernel_rfl)⟩,⟨_,rfl,by kernel_rfl,by kernel_rfl⟩,of_decide_eq_true (by kernel_rfl),of_decide_eq_true (by kernel_rfl)⟩
theorem pS:BD Go.Proofs.Tryz.prog 211 ⟨1,.func,none,[.nilf],4398046511104⟩:=
 ⟨Go.Proofs.Tryz.t211,_,by kernel_rfl,Go.Proofs.Tryz.underlying211,by kernel_rfl,⟨_,_,_,rfl⟩,⟨_,rfl,by kernel_rfl,by kernel_rfl⟩,of_decide_eq_true (by kernel_rfl),of_decide_eq_true (by kernel_rfl)⟩
theorem pR:BD Go.Proofs.Tryz.prog 244 ⟨5,(.struct [(0,3),(1,3),(2,3),(3,3),(4,3)]),(some Af),[.pv (.int .i64) 0,.pv (.int .i64) 0,.pv (.int .i64) 0,.pv (.int .i64) 0,.pv (.int .i64) 0],879609302220⟩:=
 ⟨Go.Proofs.Tryz.t244,_,by kernel_rfl,Go.Proofs.Tryz.underlying244,by kernel_rfl,⟨_,rfl,by kernel_rfl,by kernel_rfl,by kernel_rfl,by kernel_rfl,of_decide_eq_true (by kernel_rfl)⟩,⟨_,rfl,by kernel_rfl,by kernel_rfl⟩,of_decide_eq_true (by kernel_rfl),of_decide_eq_true (by kernel_rfl)⟩
theorem pQ:BD Go.Proofs.Tryz.prog 246 ⟨2,(.struct [(0,3),(1,3)]),(some A0),[.pv (.int .i64) 0,.pv (.int .i64) 0],2199023255552⟩:=
 ⟨Go.Proofs.Tryz.t246,_,by kernel_rfl,Go.Proofs.Tryz.underlying246,by kernel_rfl,⟨_,rfl,by kernel_rfl,by kernel_rfl,by kernel_rfl,by kernel_rfl,of_decide_eq_true (by kernel_rfl)⟩,⟨_,rfl,by kernel_rfl,by kernel_rfl⟩,of_decide_eq_true (by kernel_rfl),of_decide_eq_true (by kernel_rfl)⟩
theorem pP:BD Go.Proofs.Tryz.prog 248 ⟨2,(.struct [(0,3),(1,3)]),(some A0),[.pv (.int .i64) 0,.pv (.int .i64) 0],2199023255552⟩:=
 ⟨Go.Proofs.Tryz.t248,_,by kernel_rfl,Go.Proofs.Tryz.underlying248,by kernel_rfl,⟨_,rfl,by kernel_rfl,by kernel_rfl,by kernel_rfl,by kernel_rfl,of_decide_eq_true (by kernel_rfl)⟩,⟨_,rfl,by kernel_rfl,by kernel_rfl⟩,of_decide_eq_true (by kernel_rfl),of_decide_eq_true (by kernel_rfl)⟩
theorem pO:BD Go.Proofs.Tryz.prog 252 ⟨1,(.ptr 149),(some (.iref Af)),[.nilp],4398046511104⟩:=
 ⟨Go.Proofs.Tryz.t252,_,by kernel_rfl,Go.Proofs.Tryz.underlying252,by kernel_rfl,rfl,⟨_,rfl,by kernel_rfl,by kernel_rfl⟩,of_decide_eq_true (by kernel_rfl),of_decide_eq_true (by kernel_rfl)⟩
theorem pN:BD Go.Proofs.Tryz.prog 254 ⟨1,.func,none,[.nilf],4398046511104⟩:=
 ⟨Go.Proofs.Tryz.t254,_,by kernel_rfl,Go.Proofs.Tryz.underlying254,by kernel_rfl,⟨_,_,_,rfl⟩,⟨_,rfl,by kernel_rfl,by kernel_rfl⟩,of_decide_eq_true (by kernel_rfl),of_decide_eq_true (by kernel_rfl)⟩
theorem pM:BD Go.Proofs.Tryz.prog 255 ⟨1,(.int .u64),(some (.int .u64)),[.pv (.int .u64) 0],4398046511104⟩:=
 ⟨Go.Proofs.Tryz.t255,_,by kernel_rfl,Go.Proofs.Tryz.underlying255,by kernel_rfl,rfl,⟨_,rfl,by kernel_rfl,by kernel_rfl⟩,of_decide_eq_true (by kernel_rfl),of_decide_eq_true (by kernel_rfl)⟩
theorem pL:BD Go.Proofs.Tryz.prog 261 ⟨1,.func,none,[.nilf],4398046511104⟩:=
 ⟨Go.Proofs.Tryz.t261,_,by kernel_rfl,Go.Proofs.Tryz.underlying261,by kernel_rfl,⟨_,_,_,rfl⟩,⟨_,rfl,by kernel_rfl,by kernel_rfl⟩,of_decide_eq_true (by kernel_rfl),of_decide_eq_true (by kernel_rfl)⟩
theorem pK:BD Go.Proofs.Tryz.prog 264 ⟨1,.func,none,[.nilf],4398046511104⟩:=
 ⟨Go.Proofs.Tryz.t264,_,by kernel_rfl,Go.Proofs.Tryz.underlying264,by kernel_rfl,⟨_,_,_,rfl⟩,⟨_,rfl,by kernel_rfl,by kernel_rfl⟩,of_decide_eq_true (by kernel_rfl),of_decide_eq_true (by kernel_rfl)⟩
theorem pJ:BD Go.Proofs.Tryz.prog 267 ⟨1,.func,none,[.nilf],4398046511104⟩:=
 ⟨Go.Proofs.Tryz.t267,_,by kernel_rfl,Go.Proofs.Tryz.underlying267,by kernel_rfl,⟨_,_,_,rfl⟩,⟨_,rfl,by kernel_rfl,by kernel_rfl⟩,of_decide_eq_true (by kernel_rfl),of_decide_eq_true (by kernel_rfl)⟩
theorem pI:BD Go.Proofs.Tryz.prog 270 ⟨1,.func,none,[.nilf],4398046511104⟩:=
 ⟨Go.Proofs.Tryz.t270,_,by kernel_rfl,Go.Proofs.Tryz.underlying270,by kernel_rfl,⟨_,_,_,rfl⟩,⟨_,rfl,by kernel_rfl,by kernel_rfl⟩,of_decide_eq_true (by kernel_rfl),of_decide_eq_true (by kernel_rfl)⟩
theorem pH:BD Go.Proofs.Tryz.prog 271 ⟨1,(.ptr 35),(some (.iref Bp)),[.nilp],4398046511104⟩:=
 ⟨Go.Proofs.Tryz.t271,_,by kernel_rfl,Go.Proofs.Tryz.underlying271,by kernel_rfl,rfl,⟨_,rfl,by kernel_rfl,by kernel_rfl⟩,of_decide_eq_true (by kernel_rfl),of_decide_eq_true (by kernel_rfl)⟩
theorem pG:BD Go.Proofs.Tryz.prog 274 ⟨1,.func,none,[.nilf],4398046511104⟩:=
 ⟨Go.Proofs.Tryz.t274,_,by kernel_rfl,Go.Proofs.Tryz.underlying274,by kernel_rfl,⟨_,_,_,rfl⟩,⟨_,rfl,by kernel_rfl,by kernel_rfl⟩,of_decide_eq_true (by kernel_rfl),of_decide_eq_true (by kernel_rfl)⟩
theorem YP:∀p∈Aw,BD Go.Proofs.Tryz.prog p.1 p.2:=(all_cons Ab1 (all_cons Ab0 (all_cons yP (all_cons yO (all_cons yN (all_cons yM (all_cons yL (all_cons yK (all_cons yJ (all_cons yI (all_cons yH (all_cons yG (all_cons yF (all_cons yE (all_cons yD (all_cons yC (all_cons yB (all_cons rL (all_cons yA (all_cons yz (all_cons yx (all_cons yw (all_cons yv (all_cons yu (all_cons yt (all_cons gy (all_cons yr (all_cons qc (all_cons qb (all_cons qa (all_cons q9 (all_cons YT (all_cons YS (all_cons q8 (all_cons YR (all_cons q7 (all_cons q6 (all_cons pZ (all_cons pY (all_cons pX (all_cons pW (all_cons pV (all_cons pU (all_cons pT (all_cons YQ (all_cons pS (all_cons pR (all_cons pQ (all_cons pP (all_cons pO (all_cons pN (all_cons pM (all_cons pL (all_cons pK (all_cons pJ (all_cons pI (all_cons pH (all_cons pG all_nil))))))))))))))))))))))))))))))))))))))))))))))))))))))))))
theorem gx:Go.Proofs.Tryz.prog.follows .mixedOrders=true:=by kernel_rfl
end Go.Ab
