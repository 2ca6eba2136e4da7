import Derived.Test.YtchkllapojehpaaGreatRows
import Derived.JoinedOf
import Derived.KernelRfl
set_option linter.all false
namespace Go.Proofs.YtchkllapojehpaaGreat
open Go
theorem clo:Tryz.prog.closure 4=[4,20,29,22,31,12,21,38,82,162,80,88,52,100,10,49,94,169,95,96,50,51,97,170,176,98,99,101,102,171,103,172,104,53,54,55,105,106,173,174,175,222,59,117,118,107,177,56,57,108,109,110,111,178,223,112,113,114,179,58,115,116,180,224,225,181,182,23,39,83,163,85,90,130,66,138,139,140,141,67,142,196,197,198,237,199,192,231,232,265,284,233,200,238,239,268,287,135,143,202,201,125,145,144,195,146,203,240,270,269,241,271,149,215,260,124,282,281,194,261,283,242,272,187,273,288,289,293,297,147,204,205,244,243,206,207,129,246,247,248,275,276,290,294,245,274,161,221,208,209,128,249,250,251,277,278,291,295,210,252,253,188,254,279,280,292,296,148,211,256,255,212,257,258,236,267,286,285,213,259,214,81,160,24,25,34,84,26,35,27,28]:=by kernel_rfl
theorem inPlaceNone:Tryz.prog.inPlace 4=["slices.overlaps[loop.example/g01924/impl.Transaction]", "slices.overlaps[loop.example/g01924/impl.ReadMark]", "slices.overlaps[loop.example/g01924/impl.Wait]", "slices.overlaps[loop.example/g01924/impl.Lock]", "slices.overlaps[loop.example/g01924/impl.Write]"]:=by unfold Program.inPlace;rw[clo];kernel_rfl
theorem unfollowedSo:Tryz.prog.unfollowed 4=true:=by unfold Program.unfollowed;rw[clo];kernel_rfl
theorem recursesSo:Tryz.prog.recurses 4=true:=by unfold Program.recurses;rw[unfollowedSo];rfl
theorem varsNone:Tryz.prog.varsNamed 4=[]:=by unfold Program.varsNamed;rw[clo];kernel_rfl
theorem closed:joinedFacts Tryz.prog 4 Tryz.f4 Rows.fnExactRefusedIDsSpec Rows.fnExactRefusedIDsRow=true:=by
 unfold joinedFacts;rw[inPlaceNone,unfollowedSo,recursesSo,varsNone];kernel_rfl
end Go.Proofs.YtchkllapojehpaaGreat
