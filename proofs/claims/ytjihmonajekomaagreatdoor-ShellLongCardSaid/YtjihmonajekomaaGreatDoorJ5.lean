/- The closed facts of ShellLong's row: what the call can come to, and what the row's cells say of it, a theorem each. Conditions: none. -/
import Derived.Test.YtjihmonajekomaaGreatDoorRows
import Derived.KernelRfl
import Derived.JoinedOf
import GoSem.ClaimGoes
namespace Go.Proofs.YtjihmonajekomaaGreatDoor.shellLong
open Go
def clos : List FuncId := [5, 33, 34, 86, 155, 156, 157, 244, 351, 441, 352, 353, 354, 442, 35, 87, 158, 159, 245, 355, 356, 443, 88, 160, 246, 161, 247, 357, 444, 507, 55, 232, 327, 432, 358, 16, 53, 123, 229, 321,
  429, 322, 230, 323, 324, 231, 325, 430, 418, 326, 431, 487, 124, 233, 328, 234, 329, 54, 125, 126, 364, 454, 236, 330, 516, 550, 142, 154, 248, 175, 162, 163, 249, 315, 427, 317, 359, 445, 318, 508,
  298, 509, 320, 360, 361, 316, 428, 504, 547, 548, 446, 319, 226, 303, 420, 494, 539, 540, 495, 164, 165, 250, 251, 252, 167, 253, 362, 254, 363, 447, 448, 510, 514, 511, 512, 449, 450, 513, 451, 452,
  515, 549, 562, 453, 255, 166, 168, 192, 279, 396, 280, 281, 282, 397, 483, 484, 485, 535, 486, 536, 560, 537, 561, 570, 398, 399, 283, 400, 488, 401, 211, 297, 169, 121, 227, 171, 258, 365, 122, 228,
  455, 378, 468, 522, 469, 471, 470, 523, 551, 563, 571, 572, 573, 576, 564, 552, 565, 574, 503, 546, 575, 566, 379, 118, 222, 380, 191, 456, 472, 524, 301, 287, 411, 412, 406, 489, 553, 525, 554, 393,
  482, 424, 501, 543, 544, 502, 545, 567, 423, 500, 542, 216, 473, 526, 382, 474, 475, 476, 527, 478, 479, 388, 477, 528, 389, 529, 530, 556, 555, 568, 267, 383, 384, 457, 270, 385, 386, 387, 257, 170,
  256, 261, 367, 368, 369, 370, 458, 517, 172, 259, 260, 366, 173, 183, 271, 391, 481, 531, 557, 569, 558, 532, 533, 534, 559, 392, 390, 480, 272, 202, 284, 402, 403, 410, 198, 286, 288, 200, 185, 273,
  274, 275, 104, 195, 199, 201, 203, 204, 289, 413, 414, 205, 206, 291, 415, 490, 290, 292, 417, 493, 538, 416, 492, 491, 207, 208, 293, 209, 294, 295, 210, 296, 196, 285, 312, 425, 404, 405, 407, 408,
  409, 197, 108, 217, 218, 302, 174, 262, 371, 459, 460, 518, 519, 461, 464, 263, 372, 462, 373, 264, 374, 463, 520, 31, 83, 84, 375, 465, 521, 466, 20, 56, 58, 127, 64, 128, 21, 66, 65, 139,
  37, 89, 90, 176, 265, 182, 140, 235, 141, 22, 67, 39, 91, 177, 92, 28, 73, 70, 10, 11, 48, 49, 119, 102, 50, 120, 223, 224, 225, 107, 75, 147, 149, 81, 153, 80, 148, 241, 341, 342,
  240, 333, 334, 433, 335, 434, 435, 336, 436, 437, 505, 337, 338, 339, 340, 76, 74, 146, 467, 19, 59, 130, 131, 60, 132, 61, 133, 62, 134, 135, 136, 13, 52, 15, 51, 63, 137, 138, 18, 57,
  129, 27, 8, 71, 144, 237, 238, 332, 331, 12, 24, 69, 145, 239, 14, 9, 40, 41, 93, 179, 178, 266, 269, 381, 268, 180, 94, 181, 96, 97, 115, 184, 186, 187, 188, 95, 42, 98, 100, 99,
  189, 276, 394, 190, 214, 212, 299, 300, 419, 277, 278, 395, 43, 101, 193, 103, 194, 106, 105, 213, 215, 109, 44, 110, 45, 111, 112, 219, 304, 305, 306, 307, 421, 496, 541, 497, 498, 499, 422, 308,
  309, 310, 113, 46, 47, 114, 116, 117, 220, 311, 221, 313, 314, 426, 7, 72, 376, 23, 68, 143, 29, 78, 152, 77, 150, 242, 151, 243, 343, 344, 438, 345, 346, 439, 440, 506, 347, 348, 349, 350,
  79, 377, 30, 82, 85]
theorem clos_eq : Tryz.prog.closure 5 = clos := by kernel_rfl
theorem laidOut : laidOutB Tryz.prog = true := by kernel_rfl
theorem mapsRow : mapsRowed Tryz.prog = true := by kernel_rfl
theorem heard : Tryz.prog.stopsHeard = true := by kernel_rfl
theorem enters : Tryz.prog.mayEnter = true := by kernel_rfl
theorem fnm : Tryz.prog.funcNamed "abutment/abutmentlaw53.ShellLong" = some 5 := by kernel_rfl
theorem inp : (Rows.shellLongRow.inPlace == Tryz.prog.inPlace 5) = true := by
  unfold Program.inPlace
  rw [clos_eq]
  kernel_rfl
theorem unf0 : Tryz.prog.unfollowed 5 = true := by
  unfold Program.unfollowed
  rw [clos_eq]
  kernel_rfl
theorem unf : (Rows.shellLongRow.unfollowed == Tryz.prog.unfollowed 5) = true := by rw [unf0]; rfl
theorem rec : (Rows.shellLongRow.recurses == Tryz.prog.recurses 5) = true := by
  unfold Program.recurses
  rw [unf0]
  rfl
theorem nam : (Rows.shellLongRow.named == Tryz.prog.varsNamed 5) = true := by
  unfold Program.varsNamed
  rw [clos_eq]
  kernel_rfl
theorem goA : ((Tryz.prog.closure 5).any fun g => (Tryz.prog.funcs[g]?).any Func.goes) = false := by
  rw [clos_eq]
  kernel_rfl
theorem goB : Tryz.prog.funcs.any Func.goes = false := by kernel_rfl
end Go.Proofs.YtjihmonajekomaaGreatDoor.shellLong
