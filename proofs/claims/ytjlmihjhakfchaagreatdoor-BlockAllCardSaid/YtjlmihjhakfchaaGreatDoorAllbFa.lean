/- Part of a proof over the program's translation: BlockAll: the closed facts of the row, in parts. Printed by a program (facts.py). -/
import Derived.Test.YtjlmihjhakfchaaGreatDoorRows
import Derived.JoinedOf
/- BlockAll: the closed facts of the row, in parts. Printed by a program (facts.py). -/
namespace Go.Proofs.YtjlmihjhakfchaaGreatDoor.blockAll
open Go
theorem clo : Tryz.prog.closure 5 = [5, 9, 30, 31, 93, 45, 49, 46, 107, 58, 48, 108, 100, 174, 250, 175, 152, 116, 50, 153, 47, 109, 56, 111, 53, 114, 154, 59, 57, 10, 43, 106, 44, 51, 110, 52, 112, 197, 198, 278, 113, 199, 200, 201, 202, 55, 54, 115, 203, 204, 279, 346, 32, 33, 72, 94, 155, 226, 301, 156, 227, 296, 356, 400, 357, 358, 359, 401, 157, 229, 228, 230, 232, 302, 231, 234, 304, 362, 294, 355, 303, 361, 403, 404, 233, 158, 235, 305, 363, 364, 306, 365, 405, 366, 367, 126, 212, 211, 285, 286, 347, 348, 287, 288, 349, 350, 397, 398, 406, 368, 159, 161, 237, 160, 236, 307, 369, 371, 370, 372, 373, 95, 162, 97, 166, 96, 164, 163, 165, 238, 98, 167, 239, 308, 240, 251, 319, 265, 289, 378, 213, 290, 291, 351, 407, 408, 298, 320, 321, 318, 317, 322, 323, 310, 374, 311, 245, 244, 173, 249, 170, 242, 314, 375, 243, 315, 316, 376, 377, 330, 246, 309, 192, 274, 335, 389, 419, 292, 352, 399, 353, 121, 209, 283, 210, 284, 122, 354, 123, 390, 68, 241, 313, 312, 168, 169, 171, 99, 172, 247, 248, 34, 101, 23, 73, 134, 215, 293, 216, 295, 217, 75, 74, 135, 137, 136, 76, 138, 141, 219, 139, 140, 218, 297, 360, 402, 67, 120, 205, 206, 207, 208, 280, 281, 282, 142, 129, 130, 131, 143, 220, 299, 20, 69, 124, 125, 127, 128, 214, 132, 70, 133, 35, 36, 102, 176, 177, 252, 178, 253, 254, 179, 255, 256, 180, 257, 181, 258, 324, 331, 381, 383, 272, 332, 384, 382, 409, 410, 325, 379, 259, 326, 182, 39, 105, 196, 104, 194, 275, 195, 277, 345, 276, 336, 342, 396, 337, 391, 338, 392, 393, 339, 394, 395, 420, 340, 341, 343, 344, 37, 103, 183, 260, 261, 184, 262, 185, 263, 264, 186, 266, 267, 327, 193, 328, 329, 380, 187, 268, 269, 188, 271, 270, 189, 190, 191, 273, 333, 386, 385, 387, 334, 388, 411, 412, 421, 430, 422, 423, 431, 424, 432, 425, 426, 433, 434, 413, 427, 416, 428, 414, 415, 429, 435, 437, 439, 27, 88, 440, 441, 436, 438, 417, 418, 38, 40, 41, 42, 12, 61, 60, 15, 63, 117, 62, 118, 18, 64, 65, 66, 119, 13, 14, 16, 17, 19] := by kernel_rfl
theorem jIn : (Rows.blockAllRow.inPlace == Tryz.prog.inPlace 5) = true := by
  unfold Program.inPlace
  rw [clo]
  kernel_rfl
theorem jNm : (Rows.blockAllRow.named == Tryz.prog.varsNamed 5) = true := by
  unfold Program.varsNamed
  rw [clo]
  kernel_rfl
theorem unf : Tryz.prog.unfollowed 5 = true := by
  unfold Program.unfollowed
  rw [clo]
  kernel_rfl
theorem jUn : (Rows.blockAllRow.unfollowed == Tryz.prog.unfollowed 5) = true := by rw [unf]; rfl
theorem jRe : (Rows.blockAllRow.recurses == Tryz.prog.recurses 5) = true := by
  unfold Program.recurses
  rw [unf]
  rfl
theorem facts : joinedFacts Tryz.prog 5 Tryz.f5 Rows.blockAllSpec Rows.blockAllRow = true := by
  unfold joinedFacts
  rw [jIn, jNm, jUn, jRe]
  kernel_rfl
end Go.Proofs.YtjlmihjhakfchaaGreatDoor.blockAll

