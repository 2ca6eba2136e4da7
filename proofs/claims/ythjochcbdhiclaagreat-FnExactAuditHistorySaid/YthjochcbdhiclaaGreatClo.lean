import Derived.Test.YthjochcbdhiclaaGreatRows
import Derived.JoinedOf
import Derived.KernelRfl
namespace Go.Proofs.YthjochcbdhiclaaGreat
open Go

theorem clo : Tryz.prog.closure 3 = [3, 11, 60, 129, 130, 13, 64, 138, 258, 139, 259, 12, 61, 132, 131, 226, 255, 133, 134, 62, 73, 153, 269, 154, 135, 136, 63, 137, 256, 152, 257, 151, 74, 72, 155, 14, 65, 140, 203, 202, 260, 261, 200, 333, 190, 289, 275, 262, 201, 141, 263, 143, 142, 171, 278, 169, 277, 66, 79, 160, 161, 162, 274, 342, 343, 273, 334, 335, 382, 336, 383, 384, 337, 385, 386, 407, 338, 339, 340, 341, 163, 164, 144, 145, 264, 146, 265, 172, 279, 67, 148, 147, 158, 266, 159, 272, 80, 78, 165, 167, 166, 276, 168, 170, 173, 15, 33, 16, 68, 149, 267, 150, 268, 17, 69, 70, 18, 36, 19, 37] := by kernel_rfl
theorem inPlaceNone : Tryz.prog.inPlace 3 = [] := by unfold Program.inPlace; rw [clo]; kernel_rfl
theorem unfollowedSo : Tryz.prog.unfollowed 3 = true := by unfold Program.unfollowed; rw [clo]; kernel_rfl
theorem recursesSo : Tryz.prog.recurses 3 = true := by unfold Program.recurses; rw [unfollowedSo]; rfl
theorem varsNone : Tryz.prog.varsNamed 3 = [] := by unfold Program.varsNamed; rw [clo]; kernel_rfl
theorem closed : joinedFacts Tryz.prog 3 Tryz.f3 Rows.fnExactAuditHistorySpec Rows.fnExactAuditHistoryRow = true := by
  unfold joinedFacts; rw [inPlaceNone, unfollowedSo, recursesSo, varsNone]; kernel_rfl

end Go.Proofs.YthjochcbdhiclaaGreat
