/- The closed facts of BridgeNone's row: what the call can come to, and what the row's cells say of it, a theorem each. Conditions: none. -/
import Derived.Test.YtjihmonajekomaaGreatDoorRows
import Derived.KernelRfl
import Derived.JoinedOf
import GoSem.ClaimGoes
namespace Go.Proofs.YtjihmonajekomaaGreatDoor.bridgeNone
open Go
def clos : List FuncId := [3, 6, 35, 36, 13, 52, 15, 16, 53, 123, 229, 321, 429, 322, 351, 441, 230, 323, 324, 231, 325, 430, 418, 326, 431, 487, 232, 327, 432, 124, 233, 328, 234, 329, 54, 125, 126, 55, 51, 122,
  228, 37, 89, 90, 176, 265, 182, 9, 11, 40, 41, 93, 179, 177, 178, 48, 118, 222, 266, 378, 468, 522, 469, 471, 470, 523, 551, 563, 357, 444, 507, 155, 356, 443, 86, 156, 157, 244, 352, 353,
  354, 442, 571, 279, 396, 572, 573, 298, 576, 564, 549, 562, 552, 565, 574, 397, 483, 484, 485, 535, 486, 536, 560, 537, 561, 570, 503, 546, 575, 566, 160, 246, 269, 379, 380, 191, 381, 472, 524, 301,
  287, 411, 412, 251, 406, 489, 553, 525, 554, 393, 482, 364, 454, 236, 330, 516, 550, 142, 154, 424, 501, 543, 544, 502, 545, 567, 363, 447, 448, 510, 514, 511, 512, 449, 450, 513, 451, 452, 515, 453,
  423, 500, 542, 159, 245, 355, 216, 473, 526, 382, 474, 475, 476, 527, 478, 479, 388, 477, 528, 389, 167, 253, 362, 254, 255, 529, 530, 556, 555, 568, 267, 383, 384, 268, 385, 386, 387, 180, 91, 94,
  181, 270, 49, 119, 102, 96, 97, 115, 183, 192, 280, 281, 282, 398, 399, 283, 400, 488, 401, 271, 391, 481, 531, 557, 569, 558, 532, 533, 534, 559, 392, 390, 480, 272, 202, 284, 402, 403, 410, 198,
  286, 288, 200, 184, 185, 273, 274, 275, 186, 187, 188, 223, 224, 108, 217, 218, 302, 303, 420, 494, 539, 540, 495, 107, 92, 95, 50, 121, 227, 120, 225, 226, 315, 427, 316, 428, 504, 547, 548, 317,
  318, 319, 320, 42, 98, 100, 99, 189, 276, 394, 368, 190, 214, 212, 299, 300, 419, 277, 278, 395, 43, 101, 193, 103, 194, 104, 195, 199, 201, 203, 204, 289, 413, 414, 163, 249, 359, 445, 508, 509,
  360, 361, 446, 205, 206, 291, 415, 490, 290, 292, 417, 493, 538, 416, 492, 491, 207, 208, 293, 209, 294, 295, 210, 296, 196, 285, 312, 425, 404, 405, 407, 408, 409, 197, 211, 297, 106, 105, 213, 215,
  109, 44, 110, 45, 111, 112, 219, 304, 305, 306, 307, 421, 496, 541, 497, 498, 499, 422, 308, 309, 310, 113, 46, 47, 114, 116, 117, 220, 311, 221, 313, 314, 426, 38, 8, 12, 39, 7, 10, 14]
theorem clos_eq : Tryz.prog.closure 3 = clos := by kernel_rfl
theorem laidOut : laidOutB Tryz.prog = true := by kernel_rfl
theorem mapsRow : mapsRowed Tryz.prog = true := by kernel_rfl
theorem heard : Tryz.prog.stopsHeard = true := by kernel_rfl
theorem enters : Tryz.prog.mayEnter = true := by kernel_rfl
theorem fnm : Tryz.prog.funcNamed "abutment/abutmentlaw39.BridgeNone" = some 3 := by kernel_rfl
theorem inp : (Rows.bridgeNoneRow.inPlace == Tryz.prog.inPlace 3) = true := by
  unfold Program.inPlace
  rw [clos_eq]
  kernel_rfl
theorem unf0 : Tryz.prog.unfollowed 3 = true := by
  unfold Program.unfollowed
  rw [clos_eq]
  kernel_rfl
theorem unf : (Rows.bridgeNoneRow.unfollowed == Tryz.prog.unfollowed 3) = true := by rw [unf0]; rfl
theorem rec : (Rows.bridgeNoneRow.recurses == Tryz.prog.recurses 3) = true := by
  unfold Program.recurses
  rw [unf0]
  rfl
theorem nam : (Rows.bridgeNoneRow.named == Tryz.prog.varsNamed 3) = true := by
  unfold Program.varsNamed
  rw [clos_eq]
  kernel_rfl
theorem goA : ((Tryz.prog.closure 3).any fun g => (Tryz.prog.funcs[g]?).any Func.goes) = false := by
  rw [clos_eq]
  kernel_rfl
theorem goB : Tryz.prog.funcs.any Func.goes = false := by kernel_rfl
end Go.Proofs.YtjihmonajekomaaGreatDoor.bridgeNone
