import Derived.Test.YthjochcbdhiclaaGreatRows
import Derived.JoinedOf
import Derived.KernelRfl
namespace Go.Proofs.YthjochcbdhiclaaGreat
open Go

theorem clo : Tryz.prog.closure 4 = [4, 11, 60, 129, 130, 20, 71, 13, 64, 138, 258, 139, 259, 22, 77, 21, 61, 132, 131, 226, 255, 133, 134, 73, 153, 269, 154, 72, 151, 152, 74, 155, 75, 135, 136, 76, 156, 270, 271, 157, 23, 65, 140, 203, 202, 260, 261, 200, 333, 190, 289, 275, 262, 201, 141, 263, 143, 142, 171, 278, 169, 277, 79, 160, 161, 162, 274, 342, 343, 273, 334, 335, 382, 336, 383, 384, 337, 385, 386, 407, 338, 339, 340, 341, 163, 164, 78, 158, 145, 264, 159, 272, 172, 279, 80, 148, 165, 167, 166, 276, 168, 170, 173, 81, 174, 281, 280, 146, 265, 82, 175, 282, 283, 346, 388, 389, 345, 344, 387, 177, 176, 16, 68, 149, 267, 150, 268, 15, 33] := by kernel_rfl
theorem inPlaceNone : Tryz.prog.inPlace 4 = [] := by unfold Program.inPlace; rw [clo]; kernel_rfl
theorem unfollowedSo : Tryz.prog.unfollowed 4 = true := by unfold Program.unfollowed; rw [clo]; kernel_rfl
theorem recursesSo : Tryz.prog.recurses 4 = true := by unfold Program.recurses; rw [unfollowedSo]; rfl
theorem varsNone : Tryz.prog.varsNamed 4 = [] := by unfold Program.varsNamed; rw [clo]; kernel_rfl
theorem closed : joinedFacts Tryz.prog 4 Tryz.f4 Rows.fnExactCheckReportSpec Rows.fnExactCheckReportRow = true := by
  unfold joinedFacts; rw [inPlaceNone, unfollowedSo, recursesSo, varsNone]; kernel_rfl

end Go.Proofs.YthjochcbdhiclaaGreat
