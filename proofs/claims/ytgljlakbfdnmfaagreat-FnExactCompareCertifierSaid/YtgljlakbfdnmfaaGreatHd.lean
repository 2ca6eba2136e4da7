import Derived.Test.YtgljlakbfdnmfaaGreatF4
import Derived.Test.YtgljlakbfdnmfaaGreatProg
import Derived.KernelRfl
set_option linter.all false
set_option maxRecDepth 100000
namespace Go.Ab
open Go.Proofs.Tryz
abbrev YOp:Ty:=(.prod .i (.prod .i (.prod .i (.prod .i (.prod .i (.prod .i .unit))))))
abbrev Af:Ty:=(.prod .i (.prod .i (.prod .i (.prod .i (.prod .i .unit)))))
abbrev BW:Ty:=(.prod (.slice (.slice Af)) .unit)
abbrev A0:Ty:=(.prod .i (.prod .i .unit))
abbrev Ae:Ty:=(.prod .i (.prod .i (.prod .i (.prod .i (.prod .i (.prod .i (.prod .i (.prod (.slice A0) (.prod (.slice A0) .unit)))))))))
abbrev Dh:Ty:=(.prod .bool (.prod BW (.prod (.slice Ae) (.prod (.slice A0) (.prod (.slice A0) (.prod .i .unit))))))
abbrev AZ:Ty:=(.prod .i (.prod .i A0))
abbrev Aw:Ty:=(.prod .i (.prod .i (.prod (.slice A0) (.prod (.slice A0) .unit))))
abbrev Aj2:Ty:=(.prod .i (.prod (.slice .i) .unit))
noncomputable def Az:List (TypeId×TI):=[(3,⟨1,(.int .i64),(some .i),[.pv (.int .i64) 0],4398046511104⟩),
 (4,⟨1,.bool,(some .bool),[.b false],35184372088832⟩),
 (5,⟨1,(.int .u8),(some (.int .u8)),[.pv (.int .u8) 0],35184372088832⟩),
 (9,⟨1,.str,(some .str),[.pv .str ⟨#[]⟩],2199023255552⟩),
 (22,⟨1,(.slice 31),(some (.slice (.slice YOp))),[.nils],1466015503701⟩),
 (26,⟨1,(.slice 41),(some (.slice (.slice YOp))),[.nils],1466015503701⟩),
 (31,⟨1,(.slice 82),(some (.slice YOp)),[.nils],1466015503701⟩),
 (33,⟨1,(.slice 147),(some (.slice (.slice Af))),[.nils],1466015503701⟩),
 (35,⟨1,(.struct [(0,33)]),(some BW),[.nils],1466015503701⟩),
 (36,⟨1,(.slice 65),(some (.slice Ae)),[.nils],1466015503701⟩),
 (37,⟨1,(.slice 119),(some (.slice A0)),[.nils],1466015503701⟩),
 (38,⟨1,(.slice 121),(some (.slice A0)),[.nils],1466015503701⟩),
 (40,⟨6,(.struct [(0,4),(1,35),(2,36),(3,37),(4,38),(5,3)]),(some Dh),[.b false,.nils,.nils,.nils,.nils,.pv (.int .i64) 0],314146179364⟩),
 (41,⟨1,(.slice 56),(some (.slice YOp)),[.nils],1466015503701⟩),
 (44,⟨1,(.slice 3),(some (.slice .i)),[.nils],1466015503701⟩),
 (47,⟨1,(.slice 75),(some (.slice AZ)),[.nils],1466015503701⟩),
 (49,⟨1,(.slice 69),(some (.slice Aw)),[.nils],1466015503701⟩),
 (56,⟨6,(.struct [(0,3),(1,3),(2,3),(3,3),(4,3),(5,3)]),(some YOp),[.pv (.int .i64) 0,.pv (.int .i64) 0,.pv (.int .i64) 0,.pv (.int .i64) 0,.pv (.int .i64) 0,.pv (.int .i64) 0],733007751850⟩),
 (59,⟨2,(.struct [(0,3),(1,44)]),(some Aj2),[.pv (.int .i64) 0,.nils],1099511627776⟩),
 (62,⟨1,(.slice 71),(some (.slice A0)),[.nils],1466015503701⟩),
 (63,⟨1,(.slice 78),(some (.slice A0)),[.nils],1466015503701⟩),
 (65,⟨9,(.struct [(0,3),(1,3),(2,3),(3,3),(4,3),(5,3),(6,3),(7,62),(8,63)]),(some Ae),[.pv (.int .i64) 0,.pv (.int .i64) 0,.pv (.int .i64) 0,.pv (.int .i64) 0,.pv (.int .i64) 0,.pv (.int .i64) 0,.pv (.int .i64) 0,.nils,.nils],338311270084⟩),
 (69,⟨4,(.struct [(0,3),(1,3),(2,62),(3,63)]),(some Aw),[.pv (.int .i64) 0,.pv (.int .i64) 0,.nils,.nils],549755813888⟩),
 (71,⟨2,(.struct [(0,3),(1,3)]),(some A0),[.pv (.int .i64) 0,.pv (.int .i64) 0],2199023255552⟩),
 (75,⟨4,(.struct [(0,3),(1,3),(2,3),(3,3)]),(some AZ),[.pv (.int .i64) 0,.pv (.int .i64) 0,.pv (.int .i64) 0,.pv (.int .i64) 0],1099511627776⟩),
 (78,⟨2,(.struct [(0,3),(1,3)]),(some A0),[.pv (.int .i64) 0,.pv (.int .i64) 0],2199023255552⟩),
 (82,⟨6,(.struct [(0,3),(1,3),(2,3),(3,3),(4,3),(5,3)]),(some YOp),[.pv (.int .i64) 0,.pv (.int .i64) 0,.pv (.int .i64) 0,.pv (.int .i64) 0,.pv (.int .i64) 0,.pv (.int .i64) 0],733007751850⟩),
 (88,⟨1,.func,none,[.nilf],4398046511104⟩),
 (100,⟨1,(.ptr 40),(some (.iref Dh)),[.nilp],4398046511104⟩),
 (109,⟨1,.func,none,[.nilf],4398046511104⟩),
 (119,⟨2,(.struct [(0,3),(1,3)]),(some A0),[.pv (.int .i64) 0,.pv (.int .i64) 0],2199023255552⟩),
 (121,⟨2,(.struct [(0,3),(1,3)]),(some A0),[.pv (.int .i64) 0,.pv (.int .i64) 0],2199023255552⟩),
 (123,⟨1,(.ptr 65),(some (.iref Ae)),[.nilp],4398046511104⟩),
 (126,⟨1,.func,none,[.nilf],4398046511104⟩),
 (130,⟨1,.func,none,[.nilf],4398046511104⟩),
 (131,⟨10,(.arr 10 3),none,[.pv (.int .i64) 0,.pv (.int .i64) 0,.pv (.int .i64) 0,.pv (.int .i64) 0,.pv (.int .i64) 0,.pv (.int .i64) 0,.pv (.int .i64) 0,.pv (.int .i64) 0,.pv (.int .i64) 0,.pv (.int .i64) 0],439804651110⟩),
 (133,⟨1,.func,none,[.nilf],4398046511104⟩),
 (140,⟨1,.func,none,[.nilf],4398046511104⟩),
 (146,⟨5,(.struct [(0,3),(1,3),(2,3),(3,3),(4,3)]),(some Af),[.pv (.int .i64) 0,.pv (.int .i64) 0,.pv (.int .i64) 0,.pv (.int .i64) 0,.pv (.int .i64) 0],879609302220⟩),
 (147,⟨1,(.slice 146),(some (.slice Af)),[.nils],1466015503701⟩),
 (151,⟨1,.func,none,[.nilf],4398046511104⟩),
 (168,⟨1,.func,none,[.nilf],4398046511104⟩),
 (185,⟨1,.func,none,[.nilf],4398046511104⟩),
 (191,⟨1,(.int .u64),(some (.int .u64)),[.pv (.int .u64) 0],4398046511104⟩),
 (201,⟨1,.func,none,[.nilf],4398046511104⟩),
 (212,⟨1,(.ptr 146),(some (.iref Af)),[.nilp],4398046511104⟩),
 (215,⟨1,.func,none,[.nilf],4398046511104⟩),
 (218,⟨1,.func,none,[.nilf],4398046511104⟩),
 (221,⟨1,.func,none,[.nilf],4398046511104⟩),
 (224,⟨1,.func,none,[.nilf],4398046511104⟩),
 (225,⟨1,(.ptr 35),(some (.iref BW)),[.nilp],4398046511104⟩),
 (229,⟨1,.func,none,[.nilf],4398046511104⟩),
 (231,⟨1,(.int .i64),(some .i),[.pv (.int .i64) 0],4398046511104⟩),
 (238,⟨1,(.int .u32),(some (.int .u32)),[.pv (.int .u32) 0],8796093022208⟩),
 (240,⟨1,(.int .u64),(some (.int .u64)),[.pv (.int .u64) 0],4398046511104⟩),
 (243,⟨1,.func,none,[.nilf],4398046511104⟩),
 (255,⟨1,(.int .u64),(some (.int .u64)),[.pv (.int .u64) 0],4398046511104⟩),
 (259,⟨1,(.ptr 3),(some (.iref .i)),[.nilp],4398046511104⟩),
 (266,⟨1,(.ptr 255),(some (.iref (.int .u64))),[.nilp],4398046511104⟩)]
theorem Anq:C6 prog 3 ⟨1,(.int .i64),(some .i),[.pv (.int .i64) 0],4398046511104⟩:=
 ⟨t3,_,by kernel_rfl,underlying3,by kernel_rfl,rfl,⟨_,rfl,by kernel_rfl,by kernel_rfl⟩,of_decide_eq_true (by kernel_rfl),of_decide_eq_true (by kernel_rfl)⟩
theorem Anp:C6 prog 4 ⟨1,.bool,(some .bool),[.b false],35184372088832⟩:=
 ⟨t4,_,by kernel_rfl,underlying4,by kernel_rfl,rfl,⟨_,rfl,by kernel_rfl,by kernel_rfl⟩,of_decide_eq_true (by kernel_rfl),of_decide_eq_true (by kernel_rfl)⟩
theorem Ano:C6 prog 5 ⟨1,(.int .u8),(some (.int .u8)),[.pv (.int .u8) 0],35184372088832⟩:=
 ⟨t5,_,by kernel_rfl,underlying5,by kernel_rfl,rfl,⟨_,rfl,by kernel_rfl,by kernel_rfl⟩,of_decide_eq_true (by kernel_rfl),of_decide_eq_true (by kernel_rfl)⟩
theorem Ann:C6 prog 9 ⟨1,.str,(some .str),[.pv .str ⟨#[]⟩],2199023255552⟩:=
 ⟨t9,_,by kernel_rfl,underlying9,by kernel_rfl,rfl,⟨_,rfl,by kernel_rfl,by kernel_rfl⟩,of_decide_eq_true (by kernel_rfl),of_decide_eq_true (by kernel_rfl)⟩
theorem Amg:C6 prog 22 ⟨1,(.slice 31),(some (.slice (.slice YOp))),[.nils],1466015503701⟩:=
 ⟨t22,_,by kernel_rfl,underlying22,by kernel_rfl,rfl,⟨_,rfl,by kernel_rfl,by kernel_rfl⟩,of_decide_eq_true (by kernel_rfl),of_decide_eq_true (by kernel_rfl)⟩
theorem Amf:C6 prog 26 ⟨1,(.slice 41),(some (.slice (.slice YOp))),[.nils],1466015503701⟩:=
 ⟨t26,_,by kernel_rfl,underlying26,by kernel_rfl,rfl,⟨_,rfl,by kernel_rfl,by kernel_rfl⟩,of_decide_eq_true (by kernel_rfl),of_decide_eq_true (by kernel_rfl)⟩
theorem Ame:C6 prog 31 ⟨1,(.slice 82),(some (.slice YOp)),[.nils],1466015503701⟩:=
 ⟨t31,_,by kernel_rfl,underlying31,by kernel_rfl,rfl,⟨_,rfl,by kernel_rfl,by kernel_rfl⟩,of_decide_eq_true (by kernel_rfl),of_decide_eq_true (by kernel_rfl)⟩
theorem Amd:C6 prog 33 ⟨1,(.slice 147),(some (.slice (.slice Af))),[.nils],1466015503701⟩:=
 ⟨t33,_,by kernel_rfl,underlying33,by kernel_rfl,rfl,⟨_,rfl,by kernel_rfl,by kernel_rfl⟩,of_decide_eq_true (by kernel_rfl),of_decide_eq_true (by kernel_rfl)⟩
theorem Amc:C6 prog 35 ⟨1,(.struct [(0,33)]),(some BW),[.nils],1466015503701⟩:=
 ⟨t35,_,by kernel_rfl,underlying35,by kernel_rfl,⟨_,rfl,by kernel_rfl,by kernel_rfl,by kernel_rfl,by kernel_rfl,of_decide_eq_true (by kernel_rfl)⟩,⟨_,rfl,by kernel_rfl,by kernel_rfl⟩,of_decide_eq_true (by kernel_rfl),of_decide_eq_true (by kernel_rfl)⟩
theorem Amb:C6 prog 36 ⟨1,(.slice 65),(some (.slice Ae)),[.nils],1466015503701⟩:=
 ⟨t36,_,by kernel_rfl,underlying36,by kernel_rfl,rfl,⟨_,rfl,by kernel_rfl,by kernel_rfl⟩,of_decide_eq_true (by kernel_rfl),of_decide_eq_true (by kernel_rfl)⟩
theorem Ama:C6 prog 37 ⟨1,(.slice 119),(some (.slice A0)),[.nils],1466015503701⟩:=
 ⟨t37,_,by kernel_rfl,underlying37,by kernel_rfl,rfl,⟨_,rfl,by kernel_rfl,by kernel_rfl⟩,of_decide_eq_true (by kernel_rfl),of_decide_eq_true (by kernel_rfl)⟩
theorem Am9:C6 prog 38 ⟨1,(.slice 121),(some (.slice A0)),[.nils],1466015503701⟩:=
 ⟨t38,_,by kernel_rfl,underlying38,by kernel_rfl,rfl,⟨_,rfl,by kernel_rfl,by kernel_rfl⟩,of_decide_eq_true (by kernel_rfl),of_decide_eq_true (by kernel_rfl)⟩
theorem Am8:C6 prog 40 ⟨6,(.struct [(0,4),(1,35),(2,36),(3,37),(4,38),(5,3)]),(some Dh),[.b false,.nils,.nils,.nils,.nils,.pv (.int .i64) 0],314146179364⟩:=
 ⟨t40,_,by kernel_rfl,underlying40,by kernel_rfl,⟨_,rfl,by kernel_rfl,by kernel_rfl,by kernel_rfl,by kernel_rfl,of_decide_eq_true (by kernel_rfl)⟩,⟨_,rfl,by kernel_rfl,by kernel_rfl⟩,of_decide_eq_true (by kernel_rfl),of_decide_eq_true (by kernel_rfl)⟩
theorem Am7:C6 prog 41 ⟨1,(.slice 56),(some (.slice YOp)),[.nils],1466015503701⟩:=
 ⟨t41,_,by kernel_rfl,underlying41,by kernel_rfl,rfl,⟨_,rfl,by kernel_rfl,by kernel_rfl⟩,of_decide_eq_true (by kernel_rfl),of_decide_eq_true (by kernel_rfl)⟩
theorem Am6:C6 prog 44 ⟨1,(.slice 3),(some (.slice .i)),[.nils],1466015503701⟩:=
 ⟨t44,_,by kernel_rfl,underlying44,by kernel_rfl,rfl,⟨_,rfl,by kernel_rfl,by kernel_rfl⟩,of_decide_eq_true (by kernel_rfl),of_decide_eq_true (by kernel_rfl)⟩
theorem Am5:C6 prog 47 ⟨1,(.slice 75),(some (.slice AZ)),[.nils],1466015503701⟩:=
 ⟨t47,_,by kernel_rfl,underlying47,by kernel_rfl,rfl,⟨_,rfl,by kernel_rfl,by kernel_rfl⟩,of_decide_eq_true (by kernel_rfl),of_decide_eq_true (by kernel_rfl)⟩
theorem Am4:C6 prog 49 ⟨1,(.slice 69),(some (.slice Aw)),[.nils],1466015503701⟩:=
 ⟨t49,_,by kernel_rfl,underlying49,by kernel_rfl,rfl,⟨_,rfl,by kernel_rfl,by kernel_rfl⟩,of_decide_eq_true (by kernel_rfl),of_decide_eq_true (by kernel_rfl)⟩
theorem Am3:C6 prog 56 ⟨6,(.struct [(0,3),(1,3),(2,3),(3,3),(4,3),(5,3)]),(some YOp),[.pv (.int .i64) 0,.pv (.int .i64) 0,.pv (.int .i64) 0,.pv (.int .i64) 0,.pv (.int .i64) 0,.pv (.int .i64) 0],733007751850⟩:=
 ⟨t56,_,by kernel_rfl,underlying56,by kernel_rfl,⟨_,rfl,by kernel_rfl,by kernel_rfl,by kernel_rfl,by kernel_rfl,of_decide_eq_true (by kernel_rfl)⟩,⟨_,rfl,by kernel_rfl,by kernel_rfl⟩,of_decide_eq_true (by kernel_rfl),of_decide_eq_true (by kernel_rfl)⟩
theorem Am2:C6 prog 59 ⟨2,(.struct [(0,3),(1,44)]),(some Aj2),[.pv (.int .i64) 0,.nils],1099511627776⟩:=
 ⟨t59,_,by kernel_rfl,underlying59,by kernel_rfl,⟨_,rfl,by kernel_rfl,by kernel_rfl,by kernel_rfl,by kernel_rfl,of_decide_eq_true (by kernel_rfl)⟩,⟨_,rfl,by kernel_rfl,by kernel_rfl⟩,of_decide_eq_true (by kernel_rfl),of_decide_eq_true (by kernel_rfl)⟩
theorem Am1:C6 prog 62 ⟨1,(.slice 71),(some (.slice A0)),[.nils],1466015503701⟩:=
 ⟨t62,_,by kernel_rfl,underlying62,by kernel_rfl,rfl,⟨_,rfl,by kernel_rfl,by kernel_rfl⟩,of_decide_eq_true (by kernel_rfl),of_decide_eq_true (by kernel_rfl)⟩
theorem Am0:C6 prog 63 ⟨1,(.slice 78),(some (.slice A0)),[.nils],1466015503701⟩:=
 ⟨t63,_,by kernel_rfl,underlying63,by kernel_rfl,rfl,⟨_,rfl,by kernel_rfl,by kernel_rfl⟩,of_decide_eq_true (by kernel_rfl),of_decide_eq_true (by kernel_rfl)⟩
theorem A7y:C6 prog 65 ⟨9,(.struct [(0,3),(1,3),(2,3),(3,3),(4,3),(5,3),(6,3),(7,62),(8,63)]),(some Ae),[.pv (.int .i64) 0,.pv (.int .i64) 0,.pv (.int .i64) 0,.pv (.int .i64) 0,.pv (.int .i64) 0,.pv (.int .i64) 0,.pv (.int .i64) 0,.nils,.nils],338311270084⟩:=
 ⟨t65,_,by kernel_rfl,underlying65,by kernel_rfl,⟨_,rfl,by kernel_rfl,by kernel_rfl,by kernel_rfl,by kernel_rfl,of_decide_eq_true (by kernel_rfl)⟩,⟨_,rfl,by kernel_rfl,by kernel_rfl⟩,of_decide_eq_true (by kernel_rfl),of_decide_eq_true (by kernel_rfl)⟩
theorem Alz:C6 prog 69 ⟨4,(.struct [(0,3),(1,3),(2,62),(3,63)]),(some Aw),[.pv (.int .i64) 0,.pv (.int .i64) 0,.nils,.nils],549755813888⟩:=
 ⟨t69,_,by kernel_rfl,underlying69,by kernel_rfl,⟨_,rfl,by kernel_rfl,by kernel_rfl,by kernel_rfl,by kernel_rfl,of_decide_eq_true (by kernel_rfl)⟩,⟨_,rfl,by kernel_rfl,by kernel_rfl⟩,of_decide_eq_true (by kernel_rfl),of_decide_eq_true (by kernel_rfl)⟩
theorem A7x:C6 prog 71 ⟨2,(.struct [(0,3),(1,3)]),(some A0),[.pv (.int .i64) 0,.pv (.int .i64) 0],2199023255552⟩:=
 ⟨t71,_,by kernel_rfl,underlying71,by kernel_rfl,⟨_,rfl,by kernel_rfl,by kernel_rfl,by kernel_rfl,by kernel_rfl,of_decide_eq_true (by kernel_rfl)⟩,⟨_,rfl,by kernel_rfl,by kernel_rfl⟩,of_decide_eq_true (by kernel_rfl),of_decide_eq_true (by kernel_rfl)⟩
theorem Aly:C6 prog 75 ⟨4,(.struct [(0,3),(1,3),(2,3),(3,3)]),(some AZ),[.pv (.int .i64) 0,.pv (.int .i64) 0,.pv (.int .i64) 0,.pv (.int .i64) 0],1099511627776⟩:=
 ⟨t75,_,by kernel_rfl,underlying75,by kernel_rfl,⟨_,rfl,by kernel_rfl,by kernel_rfl,by kernel_rfl,by kernel_rfl,of_decide_eq_true (by kernel_rfl)⟩,⟨_,rfl,by kernel_rfl,by kernel_rfl⟩,of_decide_eq_true (by kernel_rfl),of_decide_eq_true (by kernel_rfl)⟩
theorem A7w:C6 prog 78 ⟨2,(.struct [(0,3),(1,3)]),(some A0),[.pv (.int .i64) 0,.pv (.int .i64) 0],2199023255552⟩:=
 ⟨t78,_,by kernel_rfl,underlying78,by kernel_rfl,⟨_,rfl,by kernel_rfl,by kernel_rfl,by kernel_rfl,by kernel_rfl,of_decide_eq_true (by kernel_rfl)⟩,⟨_,rfl,by kernel_rfl,by kernel_rfl⟩,of_decide_eq_true (by kernel_rfl),of_decide_eq_true (by kernel_rfl)⟩
theorem Alx:C6 prog 82 ⟨6,(.struct [(0,3),(1,3),(2,3),(3,3),(4,3),(5,3)]),(some YOp),[.pv (.int .i64) 0,.pv (.int .i64) 0,.pv (.int .i64) 0,.pv (.int .i64) 0,.pv (.int .i64) 0,.pv (.int .i64) 0],733007751850⟩:=
 ⟨t82,_,by kernel_rfl,underlying82,by kernel_rfl,⟨_,rfl,by kernel_rfl,by kernel_rfl,by kernel_rfl,by kernel_rfl,of_decide_eq_true (by kernel_rfl)⟩,⟨_,rfl,by kernel_rfl,by kernel_rfl⟩,of_decide_eq_true (by kernel_rfl),of_decide_eq_true (by kernel_rfl)⟩
theorem Alw:C6 prog 88 ⟨1,.func,none,[.nilf],4398046511104⟩:=
 ⟨t88,_,by kernel_rfl,underlying88,by kernel_rfl,⟨_,_,_,rfl⟩,⟨_,rfl,by kernel_rfl,by kernel_rfl⟩,of_decide_eq_true (by kernel_rfl),of_decide_eq_true (by kernel_rfl)⟩
theorem Ag5:C6 prog 100 ⟨1,(.ptr 40),(some (.iref Dh)),[.nilp],4398046511104⟩:=
 ⟨t100,_,by kernel_rfl,underlying100,by kernel_rfl,rfl,⟨_,rfl,by kernel_rfl,by kernel_rfl⟩,of_decide_eq_true (by kernel_rfl),of_decide_eq_true (by kernel_rfl)⟩
theorem Ag4:C6 prog 109 ⟨1,.func,none,[.nilf],4398046511104⟩:=
 ⟨t109,_,by kernel_rfl,underlying109,by kernel_rfl,⟨_,_,_,rfl⟩,⟨_,rfl,by kernel_rfl,by kernel_rfl⟩,of_decide_eq_true (by kernel_rfl),of_decide_eq_true (by kernel_rfl)⟩
theorem qR:C6 prog 119 ⟨2,(.struct [(0,3),(1,3)]),(some A0),[.pv (.int .i64) 0,.pv (.int .i64) 0],2199023255552⟩:=
 ⟨t119,_,by kernel_rfl,underlying119,by kernel_rfl,⟨_,rfl,by kernel_rfl,by kernel_rfl,by kernel_rfl,by kernel_rfl,of_decide_eq_true (by kernel_rfl)⟩,⟨_,rfl,by kernel_rfl,by kernel_rfl⟩,of_decide_eq_true (by kernel_rfl),of_decide_eq_true (by kernel_rfl)⟩
theorem qQ:C6 prog 121 ⟨2,(.struct [(0,3),(1,3)]),(some A0),[.pv (.int .i64) 0,.pv (.int .i64) 0],2199023255552⟩:=
 ⟨t121,_,by kernel_rfl,underlying121,by kernel_rfl,⟨_,rfl,by kernel_rfl,by kernel_rfl,by kernel_rfl,by kernel_rfl,of_decide_eq_true (by kernel_rfl)⟩,⟨_,rfl,by kernel_rfl,by kernel_rfl⟩,of_decide_eq_true (by kernel_rfl),of_decide_eq_true (by kernel_rfl)⟩
theorem Ag3:C6 prog 123 ⟨1,(.ptr 65),(some (.iref Ae)),[.nilp],4398046511104⟩:=
 ⟨t123,_,by kernel_rfl,underlying123,by kernel_rfl,rfl,⟨_,rfl,by kernel_rfl,by kernel_rfl⟩,of_decide_eq_true (by kernel_rfl),of_decide_eq_true (by kernel_rfl)⟩
theorem Ag2:C6 prog 126 ⟨1,.func,none,[.nilf],4398046511104⟩:=
 ⟨t126,_,by kernel_rfl,underlying126,by kernel_rfl,⟨_,_,_,rfl⟩,⟨_,rfl,by kernel_rfl,by kernel_rfl⟩,of_decide_eq_true (by kernel_rfl),of_decide_eq_true (by kernel_rfl)⟩
theorem Ag1:C6 prog 130 ⟨1,.func,none,[.nilf],4398046511104⟩:=
 ⟨t130,_,by kernel_rfl,underlying130,by kernel_rfl,⟨_,_,_,rfl⟩,⟨_,rfl,by kernel_rfl,by kernel_rfl⟩,of_decide_eq_true (by kernel_rfl),of_decide_eq_true (by kernel_rfl)⟩
theorem Ag0:C6 prog 131 ⟨10,(.arr 10 3),none,[.pv (.int .i64) 0,.pv (.int .i64) 0,.pv (.int .i64) 0,.pv (.int .i64) 0,.pv (.int .i64) 0,.pv (.int .i64) 0,.pv (.int .i64) 0,.pv (.int .i64) 0,.pv (.int .i64) 0,.pv (.int .i64) 0],439804651110⟩:=
 ⟨t131,_,by kernel_rfl,underlying131,by kernel_rfl,rfl,⟨_,rfl,by kernel_rfl,by kernel_rfl⟩,of_decide_eq_true (by kernel_rfl),of_decide_eq_true (by kernel_rfl)⟩
theorem Afz:C6 prog 133 ⟨1,.func,none,[.nilf],4398046511104⟩:=
 ⟨t133,_,by kernel_rfl,underlying133,by kernel_rfl,⟨_,_,_,rfl⟩,⟨_,rfl,by kernel_rfl,by kernel_rfl⟩,of_decide_eq_true (by kernel_rfl),of_decide_eq_true (by kernel_rfl)⟩
theorem Afy:C6 prog 140 ⟨1,.func,none,[.nilf],4398046511104⟩:=
 ⟨t140,_,by kernel_rfl,underlying140,by kernel_rfl,⟨_,_,_,rfl⟩,⟨_,rfl,by kernel_rfl,by kernel_rfl⟩,of_decide_eq_true (by kernel_rfl),of_decide_eq_true (by kernel_rfl)⟩
theorem Afx:C6 prog 146 ⟨5,(.struct [(0,3),(1,3),(2,3),(3,3),(4,3)]),(some Af),[.pv (.int .i64) 0,.pv (.int .i64) 0,.pv (.int .i64) 0,.pv (.int .i64) 0,.pv (.int .i64) 0],879609302220⟩:=
 ⟨t146,_,by kernel_rfl,underlying146,by kernel_rfl,⟨_,rfl,by kernel_rfl,by kernel_rfl,by kernel_rfl,by kernel_rfl,of_decide_eq_true (by kernel_rfl)⟩,⟨_,rfl,by kernel_rfl,by kernel_rfl⟩,of_decide_eq_true (by kernel_rfl),of_decide_eq_true (by kernel_rfl)⟩
theorem Afw:C6 prog 147 ⟨1,(.slice 146),(some (.slice Af)),[.nils],1466015503701⟩:=
 ⟨t147,_,by kernel_rfl,underlying147,by kernel_rfl,rfl,⟨_,rfl,by kernel_rfl,by kernel_rfl⟩,of_decide_eq_true (by kernel_rfl),of_decide_eq_true (by kernel_rfl)⟩
theorem Afv:C6 prog 151 ⟨1,.func,none,[.nilf],4398046511104⟩:=
 ⟨t151,_,by kernel_rfl,underlying151,by kernel_rfl,⟨_,_,_,rfl⟩,⟨_,rfl,by kernel_rfl,by kernel_rfl⟩,of_decide_eq_true (by kernel_rfl),of_decide_eq_true (by kernel_rfl)⟩
theorem Afu:C6 prog 168 ⟨1,.func,none,[.nilf],4398046511104⟩:=
 ⟨t168,_,by kernel_rfl,underlying168,by kernel_rfl,⟨_,_,_,rfl⟩,⟨_,rfl,by kernel_rfl,by kernel_rfl⟩,of_decide_eq_true (by kernel_rfl),of_decide_eq_true (by kernel_rfl)⟩
theorem Aft:C6 prog 185 ⟨1,.func,none,[.nilf],4398046511104⟩:=
 ⟨t185,_,by kernel_rfl,underlying185,by kernel_rfl,⟨_,_,_,rfl⟩,⟨_,rfl,by kernel_rfl,by kernel_rfl⟩,of_decide_eq_true (by kernel_rfl),of_decide_eq_true (by kernel_rfl)⟩
theorem Afs:C6 prog 191 ⟨1,(.int .u64),(some (.int .u64)),[.pv (.int .u64) 0],4398046511104⟩:=
 ⟨t191,_,by kernel_rfl,underlying191,by kernel_rfl,rfl,⟨_,rfl,by kernel_rfl,by kernel_rfl⟩,of_decide_eq_true (by kernel_rfl),of_decide_eq_true (by kernel_rfl)⟩
theorem Afr:C6 prog 201 ⟨1,.func,none,[.nilf],4398046511104⟩:=
 ⟨t201,_,by kernel_rfl,underlying201,by kernel_rfl,⟨_,_,_,rfl⟩,⟨_,rfl,by kernel_rfl,by kernel_rfl⟩,of_decide_eq_true (by kernel_rfl),of_decide_eq_true (by kernel_rfl)⟩
theorem Afq:C6 prog 212 ⟨1,(.ptr 146),(some (.iref Af)),[.nilp],4398046511104⟩:=
 ⟨t212,_,by kernel_rfl,underlying212,by kernel_rfl,rfl,⟨_,rfl,by kernel_rfl,by kernel_rfl⟩,of_decide_eq_true (by kernel_rfl),of_decide_eq_true (by kernel_rfl)⟩
theorem Afp:C6 prog 215 ⟨1,.func,none,[.nilf],4398046511104⟩:=
 ⟨t215,_,by kernel_rfl,underlying215,by kernel_rfl,⟨_,_,_,rfl⟩,⟨_,rfl,by kernel_rfl,by kernel_rfl⟩,of_decide_eq_true (by kernel_rfl),of_decide_eq_true (by kernel_rfl)⟩
theorem Afo:C6 prog 218 ⟨1,.func,none,[.nilf],4398046511104⟩:=
 ⟨t218,_,by kernel_rfl,underlying218,by kernel_rfl,⟨_,_,_,rfl⟩,⟨_,rfl,by kernel_rfl,by kernel_rfl⟩,of_decide_eq_true (by kernel_rfl),of_decide_eq_true (by kernel_rfl)⟩
theorem Afn:C6 prog 221 ⟨1,.func,none,[.nilf],4398046511104⟩:=
 ⟨t221,_,by kernel_rfl,underlying221,by kernel_rfl,⟨_,_,_,rfl⟩,⟨_,rfl,by kernel_rfl,by kernel_rfl⟩,of_decide_eq_true (by kernel_rfl),of_decide_eq_true (by kernel_rfl)⟩
theorem Afm:C6 prog 224 ⟨1,.func,none,[.nilf],4398046511104⟩:=
 ⟨t224,_,by kernel_rfl,underlying224,by kernel_rfl,⟨_,_,_,rfl⟩,⟨_,rfl,by kernel_rfl,by kernel_rfl⟩,of_decide_eq_true (by kernel_rfl),of_decide_eq_true (by kernel_rfl)⟩
theorem Afl:C6 prog 225 ⟨1,(.ptr 35),(some (.iref BW)),[.nilp],4398046511104⟩:=
 ⟨t225,_,by kernel_rfl,underlying225,by kernel_rfl,rfl,⟨_,rfl,by kernel_rfl,by kernel_rfl⟩,of_decide_eq_true (by kernel_rfl),of_decide_eq_true (by kernel_rfl)⟩
theorem Afk:C6 prog 229 ⟨1,.func,none,[.nilf],4398046511104⟩:=
 ⟨t229,_,by kernel_rfl,underlying229,by kernel_rfl,⟨_,_,_,rfl⟩,⟨_,rfl,by kernel_rfl,by kernel_rfl⟩,of_decide_eq_true (by kernel_rfl),of_decide_eq_true (by kernel_rfl)⟩
theorem Afj:C6 prog 231 ⟨1,(.int .i64),(some .i),[.pv (.int .i64) 0],4398046511104⟩:=
 ⟨t231,_,by kernel_rfl,underlying231,by kernel_rfl,rfl,⟨_,rfl,by kernel_rfl,by kernel_rfl⟩,of_decide_eq_true (by kernel_rfl),of_decide_eq_true (by kernel_rfl)⟩
theorem Afi:C6 prog 238 ⟨1,(.int .u32),(some (.int .u32)),[.pv (.int .u32) 0],8796093022208⟩:=
 ⟨t238,_,by kernel_rfl,underlying238,by kernel_rfl,rfl,⟨_,rfl,by kernel_rfl,by kernel_rfl⟩,of_decide_eq_true (by kernel_rfl),of_decide_eq_true (by kernel_rfl)⟩
theorem Afh:C6 prog 240 ⟨1,(.int .u64),(some (.int .u64)),[.pv (.int .u64) 0],4398046511104⟩:=
 ⟨t240,_,by kernel_rfl,underlying240,by kernel_rfl,rfl,⟨_,rfl,by kernel_rfl,by kernel_rfl⟩,of_decide_eq_true (by kernel_rfl),of_decide_eq_true (by kernel_rfl)⟩
theorem Afg:C6 prog 243 ⟨1,.func,none,[.nilf],4398046511104⟩:=
 ⟨t243,_,by kernel_rfl,underlying243,by kernel_rfl,⟨_,_,_,rfl⟩,⟨_,rfl,by kernel_rfl,by kernel_rfl⟩,of_decide_eq_true (by kernel_rfl),of_decide_eq_true (by kernel_rfl)⟩
theorem Aff:C6 prog 255 ⟨1,(.int .u64),(some (.int .u64)),[.pv (.int .u64) 0],4398046511104⟩:=
 ⟨t255,_,by kernel_rfl,underlying255,by kernel_rfl,rfl,⟨_,rfl,by kernel_rfl,by kernel_rfl⟩,of_decide_eq_true (by kernel_rfl),of_decide_eq_true (by kernel_rfl)⟩
theorem Afe:C6 prog 259 ⟨1,(.ptr 3),(some (.iref .i)),[.nilp],4398046511104⟩:=
 ⟨t259,_,by kernel_rfl,underlying259,by kernel_rfl,rfl,⟨_,rfl,by kernel_rfl,by kernel_rfl⟩,of_decide_eq_true (by kernel_rfl),of_decide_eq_true (by kernel_rfl)⟩
theorem Afd:C6 prog 266 ⟨1,(.ptr 255),(some (.iref (.int .u64))),[.nilp],4398046511104⟩:=
 ⟨t266,_,by kernel_rfl,underlying266,by kernel_rfl,rfl,⟨_,rfl,by kernel_rfl,by kernel_rfl⟩,of_decide_eq_true (by kernel_rfl),of_decide_eq_true (by kernel_rfl)⟩
theorem qP:∀p∈Az,C6 prog p.1 p.2:=(all_cons Anq (all_cons Anp (all_cons Ano (all_cons Ann (all_cons Amg (all_cons Amf (all_cons Ame (all_cons Amd (all_cons Amc (all_cons Amb (all_cons Ama (all_cons Am9 (all_cons Am8 (all_cons Am7 (all_cons Am6 (all_cons Am5 (all_cons Am4 (all_cons Am3 (all_cons Am2 (all_cons Am1 (all_cons Am0 (all_cons A7y (all_cons Alz (all_cons A7x (all_cons Aly (all_cons A7w (all_cons Alx (all_cons Alw (all_cons Ag5 (all_cons Ag4 (all_cons qR (all_cons qQ (all_cons Ag3 (all_cons Ag2 (all_cons Ag1 (all_cons Ag0 (all_cons Afz (all_cons Afy (all_cons Afx (all_cons Afw (all_cons Afv (all_cons Afu (all_cons Aft (all_cons Afs (all_cons Afr (all_cons Afq (all_cons Afp (all_cons Afo (all_cons Afn (all_cons Afm (all_cons Afl (all_cons Afk (all_cons Afj (all_cons Afi (all_cons Afh (all_cons Afg (all_cons Aff (all_cons Afe (all_cons Afd all_nil)))))))))))))))))))))))))))))))))))))))))))))))))))))))))))
theorem A7v:prog.follows .mixedOrders=true:=by kernel_rfl
end Go.Ab
