/- Part of a proof over the program's translation: LedgerBack: the closed facts of the row, in parts. Printed by a program (facts.py). -/
import Derived.Test.YtgpgegkoihalnaaGreatDoorRows
import Derived.JoinedOf
/- LedgerBack: the closed facts of the row, in parts. Printed by a program (facts.py). -/
namespace Go.Proofs.YtgpgegkoihalnaaGreatDoor.ledgerBack
open Go
theorem clo : Tryz.prog.closure 4 = [4, 8, 9, 15, 44, 55, 59, 56, 98, 68, 58, 99, 26, 51, 96, 52, 88, 90, 60, 89, 57, 100, 66, 102, 63, 105, 91, 69, 67, 27, 53, 97, 54, 61, 101, 62, 103, 174, 175, 254, 104, 176, 177, 178, 179, 65, 64, 106, 180, 181, 255, 314, 28, 29, 70, 71, 107, 182, 256, 108, 183, 257, 315, 360, 316, 317, 318, 361, 109, 185, 184, 186, 188, 258, 187, 190, 261, 321, 259, 319, 260, 320, 362, 363, 189, 110, 191, 262, 322, 323, 263, 324, 364, 325, 326, 141, 215, 214, 283, 284, 338, 339, 285, 286, 340, 341, 368, 366, 365, 327, 111, 113, 193, 112, 192, 264, 328, 330, 329, 331, 332, 72, 114, 74, 118, 73, 116, 115, 117, 194, 75, 119, 195, 265, 196, 218, 291, 231, 287, 346, 216, 288, 289, 342, 370, 371, 279, 292, 293, 275, 274, 294, 295, 267, 333, 268, 201, 200, 125, 205, 122, 198, 271, 334, 199, 272, 273, 335, 336, 302, 202, 266, 165, 240, 307, 357, 382, 290, 343, 369, 344, 136, 212, 281, 213, 282, 137, 345, 138, 358, 82, 197, 270, 269, 120, 121, 123, 76, 124, 203, 204, 30, 77, 31, 78, 126, 206, 276, 207, 277, 208, 80, 79, 127, 129, 128, 81, 130, 133, 210, 131, 132, 209, 278, 337, 367, 45, 92, 167, 168, 169, 170, 241, 242, 243, 134, 144, 145, 146, 135, 211, 280, 32, 83, 139, 140, 142, 143, 217, 147, 84, 148, 33, 34, 85, 149, 150, 219, 151, 220, 16, 152, 221, 222, 153, 223, 154, 224, 296, 303, 349, 351, 238, 304, 352, 350, 372, 373, 297, 347, 225, 298, 155, 20, 50, 95, 49, 93, 171, 94, 173, 253, 172, 244, 250, 313, 245, 308, 246, 309, 310, 247, 311, 312, 359, 248, 249, 251, 252, 35, 86, 156, 226, 227, 157, 228, 158, 229, 230, 159, 232, 233, 299, 166, 300, 301, 348, 160, 234, 235, 161, 237, 236, 162, 163, 164, 239, 305, 354, 353, 355, 306, 356, 374, 375, 383, 392, 384, 385, 393, 386, 394, 387, 388, 395, 396, 376, 389, 379, 390, 377, 378, 391, 397, 399, 401, 402, 404, 403, 405, 398, 400, 380, 381, 23, 36, 37, 22, 10, 24, 19] := by kernel_rfl
theorem jIn : (Rows.ledgerBackRow.inPlace == Tryz.prog.inPlace 4) = true := by
  unfold Program.inPlace
  rw [clo]
  kernel_rfl
theorem jNm : (Rows.ledgerBackRow.named == Tryz.prog.varsNamed 4) = true := by
  unfold Program.varsNamed
  rw [clo]
  kernel_rfl
theorem unf : Tryz.prog.unfollowed 4 = true := by
  unfold Program.unfollowed
  rw [clo]
  kernel_rfl
theorem jUn : (Rows.ledgerBackRow.unfollowed == Tryz.prog.unfollowed 4) = true := by rw [unf]; rfl
theorem jRe : (Rows.ledgerBackRow.recurses == Tryz.prog.recurses 4) = true := by
  unfold Program.recurses
  rw [unf]
  rfl
theorem facts : joinedFacts Tryz.prog 4 Tryz.f4 Rows.ledgerBackSpec Rows.ledgerBackRow = true := by
  unfold joinedFacts
  rw [jIn, jNm, jUn, jRe]
  kernel_rfl
end Go.Proofs.YtgpgegkoihalnaaGreatDoor.ledgerBack

