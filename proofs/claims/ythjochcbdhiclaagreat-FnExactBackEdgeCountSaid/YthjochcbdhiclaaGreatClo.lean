import Derived.Test.YthjochcbdhiclaaGreatRows
import Derived.JoinedOf
import Derived.KernelRfl
namespace Go.Proofs.YthjochcbdhiclaaGreat
open Go
theorem clo : Tryz.prog.closure 5 = [5, 24, 83, 178, 284, 84, 179, 129, 130, 85, 86, 26, 89, 181, 285, 347, 90, 182, 138, 258, 139, 259, 91, 183, 92, 184, 25, 88, 118, 223, 314, 319, 226, 224, 225, 227, 131, 255, 228, 315, 229, 100, 180, 87, 73, 61, 132, 133, 134, 153, 269, 154, 27, 94, 128, 246, 327, 379, 328, 329, 380, 201, 202, 203, 247, 200, 248, 249, 250, 330, 199, 260, 261, 333, 190, 289, 275, 262, 331, 381, 372, 403, 416, 415, 344, 387, 252, 205, 206, 296, 295, 251, 332, 254, 253, 297, 187, 286, 287, 188, 288, 348, 349, 390, 408, 189, 93, 148, 65, 140, 141, 263, 143, 142, 171, 278, 169, 277, 79, 160, 161, 162, 274, 342, 343, 273, 334, 335, 382, 336, 383, 384, 337, 385, 386, 407, 338, 339, 340, 341, 163, 164, 186, 185, 279, 28, 95, 191, 290, 350, 96, 192, 149, 267, 150, 268, 97, 193, 98, 194] := by kernel_rfl
theorem inPlaceNone : Tryz.prog.inPlace 5 = [] := by unfold Program.inPlace; rw [clo]; kernel_rfl
theorem unfollowedSo : Tryz.prog.unfollowed 5 = true := by unfold Program.unfollowed; rw [clo]; kernel_rfl
theorem recursesSo : Tryz.prog.recurses 5 = true := by unfold Program.recurses; rw [unfollowedSo]; rfl
theorem varsNone : Tryz.prog.varsNamed 5 = [] := by unfold Program.varsNamed; rw [clo]; kernel_rfl
theorem closed : joinedFacts Tryz.prog 5 Tryz.f5 Rows.fnExactBackEdgeCountSpec Rows.fnExactBackEdgeCountRow = true := by
  unfold joinedFacts; rw [inPlaceNone, unfollowedSo, recursesSo, varsNone]; kernel_rfl
end Go.Proofs.YthjochcbdhiclaaGreat
