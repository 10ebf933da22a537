/- Part of a proof over the program's translation: DeskNone: the closed facts of the row, in parts. Printed by a program (facts.py). -/
import Derived.Test.YtooafhbgdhjijaaGreatDoorRows
import Derived.JoinedOf
/- DeskNone: the closed facts of the row, in parts. Printed by a program (facts.py). -/
namespace Go.Proofs.YtooafhbgdhjijaaGreatDoor.deskNone
open Go
theorem clo : Tryz.prog.closure 7 = [7, 27, 56, 26, 71, 72, 115, 193, 268, 269, 320, 194, 270, 195, 271, 321, 364, 322, 323, 324, 365, 74, 73, 116, 118, 139, 212, 209, 281, 282, 266, 330, 331, 283, 284, 332, 333, 368, 369, 117, 75, 119, 122, 197, 148, 215, 291, 151, 150, 218, 217, 219, 221, 292, 220, 223, 294, 339, 293, 338, 371, 372, 222, 57, 106, 224, 295, 340, 341, 296, 342, 373, 343, 344, 374, 345, 62, 107, 109, 108, 58, 59, 69, 70, 61, 68, 99, 120, 121, 196, 272, 325, 366, 273, 289, 334, 288, 47, 101, 178, 179, 180, 181, 253, 254, 255, 123, 88, 149, 216, 152, 154, 226, 153, 225, 67, 110, 63, 111, 185, 186, 112, 187, 188, 189, 113, 190, 297, 346, 348, 347, 349, 350, 142, 143, 144, 124, 198, 86, 147, 274, 28, 76, 125, 199, 243, 287, 275, 213, 326, 327, 200, 201, 276, 89, 155, 60, 277, 159, 90, 157, 156, 158, 227, 97, 98, 64, 202, 203, 126, 204, 278, 205, 77, 36, 33, 87, 35, 91, 92, 160, 228, 298, 233, 232, 166, 237, 163, 230, 302, 351, 231, 303, 304, 352, 353, 308, 234, 299, 176, 252, 312, 361, 384, 290, 335, 370, 336, 135, 210, 285, 211, 286, 136, 337, 137, 362, 83, 229, 301, 300, 161, 162, 164, 93, 165, 235, 236, 94, 15, 46, 100, 127, 134, 78, 128, 16, 79, 129, 130, 80, 131, 24, 54, 105, 55, 66, 65, 114, 191, 192, 267, 319, 81, 132, 206, 279, 328, 355, 250, 309, 356, 329, 367, 375, 207, 280, 133, 208, 82, 20, 53, 104, 52, 102, 182, 103, 184, 265, 183, 256, 262, 318, 257, 313, 258, 314, 315, 259, 316, 317, 363, 260, 261, 263, 264, 29, 84, 138, 140, 141, 214, 145, 85, 146, 30, 37, 9, 8, 34, 38, 95, 167, 238, 239, 168, 240, 169, 241, 242, 170, 244, 245, 305, 177, 306, 307, 354, 171, 246, 247, 172, 249, 248, 173, 174, 175, 251, 310, 358, 357, 359, 311, 360, 376, 377, 385, 394, 386, 387, 395, 388, 396, 389, 390, 397, 398, 378, 391, 381, 392, 379, 380, 393, 399, 401, 403, 404, 406, 405, 407, 400, 402, 382, 383, 23, 32, 31, 22, 17] := by kernel_rfl
theorem jIn : (Rows.deskNoneRow.inPlace == Tryz.prog.inPlace 7) = true := by
  unfold Program.inPlace
  rw [clo]
  kernel_rfl
theorem jNm : (Rows.deskNoneRow.named == Tryz.prog.varsNamed 7) = true := by
  unfold Program.varsNamed
  rw [clo]
  kernel_rfl
theorem unf : Tryz.prog.unfollowed 7 = true := by
  unfold Program.unfollowed
  rw [clo]
  kernel_rfl
theorem jUn : (Rows.deskNoneRow.unfollowed == Tryz.prog.unfollowed 7) = true := by rw [unf]; rfl
theorem jRe : (Rows.deskNoneRow.recurses == Tryz.prog.recurses 7) = true := by
  unfold Program.recurses
  rw [unf]
  rfl
theorem facts : joinedFacts Tryz.prog 7 Tryz.f7 Rows.deskNoneSpec Rows.deskNoneRow = true := by
  unfold joinedFacts
  rw [jIn, jNm, jUn, jRe]
  kernel_rfl
end Go.Proofs.YtooafhbgdhjijaaGreatDoor.deskNone

