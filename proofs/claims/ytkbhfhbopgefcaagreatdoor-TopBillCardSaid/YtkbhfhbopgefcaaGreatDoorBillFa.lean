/- Part of a proof over the program's translation: TopBill: the closed facts of the row, in parts. Printed by a program (facts.py). -/
import Derived.Test.YtkbhfhbopgefcaaGreatDoorRows
import Derived.JoinedOf
/- TopBill: the closed facts of the row, in parts. Printed by a program (facts.py). -/
namespace Go.Proofs.YtkbhfhbopgefcaaGreatDoor.topBill
open Go
theorem clo : Tryz.prog.closure 3 = [3, 5, 15, 16, 38, 68, 122, 175, 176, 39, 69, 123, 70, 71, 125, 177, 246, 190, 191, 196, 252, 253, 192, 193, 254, 255, 297, 251, 124, 72, 17, 40, 73, 41, 6, 18, 14, 37, 19, 42, 74, 126, 43, 75, 127, 178, 247, 179, 180, 181, 248, 44, 77, 76, 78, 80, 128, 79, 82, 131, 184, 129, 182, 130, 183, 249, 250, 81, 45, 59, 90, 83, 63, 84, 103, 102, 60, 46, 47, 49, 31, 64, 48, 54, 55, 85, 61, 100, 58, 89, 135, 140, 101, 141, 142, 143, 189, 144, 132, 185, 88, 186, 187, 188, 20, 50, 62, 22, 29, 30, 32, 53, 21, 52, 51, 86, 133, 87, 134, 23, 7, 24, 8, 25, 9, 26, 28, 27, 56, 91, 136, 57, 94, 137, 95, 96, 138, 194, 139, 195, 97, 98, 99, 92, 93, 10, 33, 65, 104, 105, 145, 157, 205, 265, 206, 197, 151, 150, 106, 146, 198, 147, 149, 148, 199, 256, 257, 298, 338, 107, 108, 152, 154, 153, 155, 200, 258, 299, 259, 274, 314, 347, 272, 366, 367, 315, 316, 309, 308, 317, 318, 301, 339, 302, 264, 263, 203, 261, 305, 340, 262, 306, 307, 341, 342, 300, 240, 293, 260, 304, 303, 201, 202, 156, 204, 109, 158, 110, 159, 207, 266, 310, 267, 311, 268, 161, 160, 208, 210, 209, 162, 211, 214, 270, 212, 213, 269, 312, 343, 344, 345, 346, 363, 364, 365, 215, 221, 222, 223, 216, 271, 313, 111, 163, 217, 218, 219, 220, 273, 224, 164, 225, 112, 113, 165, 226, 227, 275, 228, 276, 277, 229, 278, 279, 230, 280, 231, 281, 319, 324, 349, 351, 291, 325, 352, 350, 368, 369, 282, 320, 232, 116, 168, 244, 167, 242, 294, 243, 296, 337, 295, 328, 334, 362, 329, 357, 330, 358, 359, 331, 360, 361, 377, 332, 333, 335, 336, 114, 166, 233, 283, 284, 234, 285, 286, 321, 241, 322, 323, 348, 235, 287, 288, 236, 290, 289, 237, 238, 239, 292, 326, 354, 353, 355, 327, 356, 370, 371, 378, 387, 379, 380, 388, 381, 389, 382, 383, 390, 391, 372, 384, 36, 385, 373, 374, 386, 392, 394, 396, 397, 399, 398, 400, 393, 395, 375, 376, 115, 117, 118, 119] := by kernel_rfl
theorem jIn : (Rows.topBillRow.inPlace == Tryz.prog.inPlace 3) = true := by
  unfold Program.inPlace
  rw [clo]
  kernel_rfl
theorem jNm : (Rows.topBillRow.named == Tryz.prog.varsNamed 3) = true := by
  unfold Program.varsNamed
  rw [clo]
  kernel_rfl
theorem unf : Tryz.prog.unfollowed 3 = true := by
  unfold Program.unfollowed
  rw [clo]
  kernel_rfl
theorem jUn : (Rows.topBillRow.unfollowed == Tryz.prog.unfollowed 3) = true := by rw [unf]; rfl
theorem jRe : (Rows.topBillRow.recurses == Tryz.prog.recurses 3) = true := by
  unfold Program.recurses
  rw [unf]
  rfl
theorem facts : joinedFacts Tryz.prog 3 Tryz.f3 Rows.topBillSpec Rows.topBillRow = true := by
  unfold joinedFacts
  rw [jIn, jNm, jUn, jRe]
  kernel_rfl
end Go.Proofs.YtkbhfhbopgefcaaGreatDoor.topBill

