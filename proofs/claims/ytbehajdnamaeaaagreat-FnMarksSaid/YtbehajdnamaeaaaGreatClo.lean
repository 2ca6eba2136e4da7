import Derived.Test.YtbehajdnamaeaaaGreatRows
import Derived.JoinedOf
import Derived.KernelRfl
set_option linter.all false
namespace Go.Proofs.YtbehajdnamaeaaaGreat
open Go
theorem clo:Tryz.prog.closure 3=[3,4,5,9,10,18,38,11,19,20,12,6,13,21,14,22,25,23,24,26,15,27,39,40,41,60,42,61,92,93,100,116,94,43,62,63,95,115,28,29,45,44,31,32,30,46,33,47,64,97,96,65,98,36,59,90,75,113,112,68,91,114,66,99,102,101,117,118,125,129,34,48,49,69,67,50,51,71,72,73,74,105,106,120,126,70,103,104,119,52,53,76,77,78,79,107,108,121,127,54,80,81,82,83,109,110,122,128,35,55,85,84,56,86,87,89,111,124,123,57,88,58,7,16,8,17,37]:=by kernel_rfl
theorem inPlaceNone:Tryz.prog.inPlace 3=["slices.overlaps[loop.example/g01924/impl.Transaction]", "slices.overlaps[loop.example/g01924/impl.ReadMark]", "slices.overlaps[loop.example/g01924/impl.Wait]", "slices.overlaps[loop.example/g01924/impl.Lock]", "slices.overlaps[loop.example/g01924/impl.Write]"]:=by unfold Program.inPlace;rw[clo];kernel_rfl
theorem unfollowedSo:Tryz.prog.unfollowed 3=true:=by unfold Program.unfollowed;rw[clo];kernel_rfl
theorem recursesSo:Tryz.prog.recurses 3=true:=by unfold Program.recurses;rw[unfollowedSo];rfl
theorem varsNone:Tryz.prog.varsNamed 3=[]:=by unfold Program.varsNamed;rw[clo];kernel_rfl
theorem closed:joinedFacts Tryz.prog 3 Tryz.f3 Rows.fnMarksSpec Rows.fnMarksRow=true:=by
 unfold joinedFacts;rw[inPlaceNone,unfollowedSo,recursesSo,varsNone];kernel_rfl
end Go.Proofs.YtbehajdnamaeaaaGreat
