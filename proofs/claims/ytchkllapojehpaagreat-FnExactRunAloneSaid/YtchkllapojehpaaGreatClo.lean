import Derived.Test.YtchkllapojehpaaGreatRows
import Derived.JoinedOf
import Derived.KernelRfl
set_option linter.all false
namespace Go.Proofs.YtchkllapojehpaaGreat
open Go
theorem clo:Tryz.prog.closure 8=[8,9,45,92,166,46,93,167,168,47,48,29,11,60,119,183,226,61,120,184,227,185,228,62,121,63,122,31,12,43,49,94,169,95,96,87,51,97,170,176,100,98,99,101,102,171,103,172,104,50,165,88,52,10,53,54,55,105,106,173,174,175,222,59,117,118,107,177,56,57,108,109,110,111,178,223,112,113,114,179,58,115,116,180,224,225,181,182,44,64,123,186,124,125,126,187,188,89,65,127,189,229,190,191,230,140,130,141,128,139,129,131,132,192,138,231,232,265,198,237,284,233,193,235,236,267,286,285,234,266,134,135,143,202,201,133,194,137,136,195,160,90,66,67,142,196,197,199,200,238,239,268,287,145,144,146,203,240,270,269,241,271,149,215,260,282,281,261,283,242,272,273,288,289,293,297,147,204,205,244,243,206,207,246,247,248,275,276,290,294,245,274,161,221,208,209,249,250,251,277,278,291,295,210,252,253,254,279,280,292,296,148,211,256,255,212,257,258,213,259,214,91,14,68,150,216,262,69,151,217,263,218,264,70,152,71,153,33,15,24,34,84,16,72,154,219,73,155,156,74,75,35,36,27,18,76,157,220,77,158,159,78,79,37,28]:=by kernel_rfl
theorem inPlaceNone:Tryz.prog.inPlace 8=["slices.overlaps[loop.example/g01924/impl.Transaction]", "slices.overlaps[loop.example/g01924/impl.ReadMark]", "slices.overlaps[loop.example/g01924/impl.Wait]", "slices.overlaps[loop.example/g01924/impl.Lock]", "slices.overlaps[loop.example/g01924/impl.Write]"]:=by unfold Program.inPlace;rw[clo];kernel_rfl
theorem unfollowedSo:Tryz.prog.unfollowed 8=true:=by unfold Program.unfollowed;rw[clo];kernel_rfl
theorem recursesSo:Tryz.prog.recurses 8=true:=by unfold Program.recurses;rw[unfollowedSo];rfl
theorem varsNone:Tryz.prog.varsNamed 8=[]:=by unfold Program.varsNamed;rw[clo];kernel_rfl
theorem closed:joinedFacts Tryz.prog 8 Tryz.f8 Rows.fnExactRunAloneSpec Rows.fnExactRunAloneRow=true:=by
 unfold joinedFacts;rw[inPlaceNone,unfollowedSo,recursesSo,varsNone];kernel_rfl
end Go.Proofs.YtchkllapojehpaaGreat
