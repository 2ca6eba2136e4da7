import Derived.Test.YtgljlakbfdnmfaaGreatRows
import Derived.JoinedOf
import Derived.KernelRfl
set_option linter.all false
namespace Go.Proofs.YtgljlakbfdnmfaaGreat
open Go
theorem clo:Tryz.prog.closure 3=[3,4,9,6,16,36,5,10,25,50,51,11,26,52,27,53,113,175,114,115,54,34,69,131,179,70,71,72,66,130,73,132,74,55,56,57,116,117,176,177,178,231,61,128,129,118,180,58,59,119,120,121,122,181,232,123,124,125,182,60,126,127,183,233,234,184,185,12,15,35,14,30,67,68,32,31,62,33,13,28,29,63,64,65,7,17,37,75,76,133,89,134,88,18,38,77,39,78,135,136,48,112,137,170,159,160,214,155,161,138,186,187,235,259,79,80,140,139,82,83,81,141,84,142,188,237,236,189,238,87,154,210,197,250,249,172,211,251,190,239,109,240,260,261,268,272,85,143,144,192,191,145,146,102,194,195,196,242,243,262,269,193,241,156,212,147,148,101,198,199,200,244,245,263,270,149,201,202,110,203,246,247,264,271,86,150,205,204,151,206,207,209,248,266,265,152,208,153,19,20,23,44,100,167,226,168,169,227,103,104,171,229,228,257,106,105,108,107,45,46,111,173,174,230,258,47,22,42,93,94,163,162,95,164,215,43,96,97,98,166,224,225,165,216,217,252,218,253,254,219,255,256,267,220,221,222,223,90,99,21,40,41,91,92,158,157,213,8,24,49]:=by kernel_rfl
theorem inPlaceNone:Tryz.prog.inPlace 3=["slices.overlaps[loop.example/g01924/impl.Transaction]", "slices.overlaps[loop.example/g01924/impl.ReadMark]", "slices.overlaps[loop.example/g01924/impl.Wait]", "slices.overlaps[loop.example/g01924/impl.Lock]", "slices.overlaps[loop.example/g01924/impl.Write]"]:=by unfold Program.inPlace;rw[clo];kernel_rfl
theorem unfollowedSo:Tryz.prog.unfollowed 3=true:=by unfold Program.unfollowed;rw[clo];kernel_rfl
theorem recursesSo:Tryz.prog.recurses 3=true:=by unfold Program.recurses;rw[unfollowedSo];rfl
theorem varsNone:Tryz.prog.varsNamed 3=[]:=by unfold Program.varsNamed;rw[clo];kernel_rfl
theorem closed:joinedFacts Tryz.prog 3 Tryz.f3 Rows.fnExactCompareCertifierSpec Rows.fnExactCompareCertifierRow=true:=by
 unfold joinedFacts;rw[inPlaceNone,unfollowedSo,recursesSo,varsNone];kernel_rfl
end Go.Proofs.YtgljlakbfdnmfaaGreat
