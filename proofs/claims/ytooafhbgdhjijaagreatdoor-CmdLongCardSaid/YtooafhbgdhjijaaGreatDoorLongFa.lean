/- Part of a proof over the program's translation: CmdLong: the closed facts of the row, in parts. Printed by a program (facts.py). -/
import Derived.Test.YtooafhbgdhjijaaGreatDoorRows
import Derived.JoinedOf
/- CmdLong: the closed facts of the row, in parts. Printed by a program (facts.py). -/
namespace Go.Proofs.YtooafhbgdhjijaaGreatDoor.cmdLong
open Go
theorem clo : Tryz.prog.closure 6 = [6, 8, 9, 15, 46, 56, 60, 57, 106, 69, 59, 107, 33, 86, 147, 87, 97, 99, 61, 98, 58, 108, 67, 110, 64, 113, 100, 70, 68, 24, 54, 105, 55, 62, 109, 63, 111, 185, 186, 266, 112, 187, 188, 189, 190, 66, 65, 114, 191, 192, 267, 319, 34, 35, 71, 88, 148, 215, 291, 149, 216, 271, 321, 364, 322, 323, 324, 365, 150, 218, 217, 219, 221, 292, 220, 223, 294, 339, 269, 320, 293, 338, 371, 372, 222, 151, 224, 295, 340, 341, 296, 342, 373, 343, 344, 139, 212, 209, 281, 282, 330, 331, 283, 284, 332, 333, 368, 369, 374, 345, 152, 154, 226, 153, 225, 297, 346, 348, 347, 349, 350, 89, 155, 91, 159, 90, 157, 156, 158, 227, 92, 160, 228, 298, 126, 125, 199, 243, 287, 275, 213, 288, 289, 334, 326, 327, 273, 200, 201, 276, 277, 202, 203, 204, 278, 205, 233, 232, 166, 237, 163, 230, 302, 351, 231, 303, 304, 352, 353, 308, 234, 299, 176, 252, 312, 361, 384, 290, 335, 370, 336, 135, 210, 285, 211, 286, 136, 337, 137, 362, 83, 229, 301, 300, 161, 162, 164, 93, 165, 235, 236, 36, 94, 26, 72, 115, 193, 268, 194, 270, 195, 74, 73, 116, 118, 117, 75, 119, 122, 197, 120, 121, 196, 272, 325, 366, 47, 101, 178, 179, 180, 181, 253, 254, 255, 123, 142, 143, 144, 124, 198, 274, 29, 84, 138, 134, 140, 141, 214, 145, 85, 146, 37, 27, 28, 76, 77, 127, 78, 128, 16, 79, 129, 130, 80, 131, 81, 132, 206, 279, 328, 355, 250, 309, 356, 329, 367, 375, 207, 280, 133, 208, 82, 20, 53, 104, 52, 102, 182, 103, 184, 265, 183, 256, 262, 318, 257, 313, 258, 314, 315, 259, 316, 317, 363, 260, 261, 263, 264, 38, 95, 167, 238, 239, 168, 240, 169, 241, 242, 170, 244, 245, 305, 177, 306, 307, 354, 171, 246, 247, 172, 249, 248, 173, 174, 175, 251, 310, 358, 357, 359, 311, 360, 376, 377, 385, 394, 386, 387, 395, 388, 396, 389, 390, 397, 398, 378, 391, 381, 392, 379, 380, 393, 399, 401, 403, 404, 406, 405, 407, 400, 402, 382, 383, 23, 32, 31, 22, 17] := by kernel_rfl
theorem jIn : (Rows.cmdLongRow.inPlace == Tryz.prog.inPlace 6) = true := by
  unfold Program.inPlace
  rw [clo]
  kernel_rfl
theorem jNm : (Rows.cmdLongRow.named == Tryz.prog.varsNamed 6) = true := by
  unfold Program.varsNamed
  rw [clo]
  kernel_rfl
theorem unf : Tryz.prog.unfollowed 6 = true := by
  unfold Program.unfollowed
  rw [clo]
  kernel_rfl
theorem jUn : (Rows.cmdLongRow.unfollowed == Tryz.prog.unfollowed 6) = true := by rw [unf]; rfl
theorem jRe : (Rows.cmdLongRow.recurses == Tryz.prog.recurses 6) = true := by
  unfold Program.recurses
  rw [unf]
  rfl
theorem facts : joinedFacts Tryz.prog 6 Tryz.f6 Rows.cmdLongSpec Rows.cmdLongRow = true := by
  unfold joinedFacts
  rw [jIn, jNm, jUn, jRe]
  kernel_rfl
end Go.Proofs.YtooafhbgdhjijaaGreatDoor.cmdLong

