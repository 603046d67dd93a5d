/- The compiled text of some functions (printed by wip/tools/AxPrint2.lean), that it is what the compiler gives, and a table of them. Conditions: none. -/
import Derived.Test.YtjihmonajekomaaGreatDoorAx30
import Derived.Test.YtjihmonajekomaaGreatDoorProg
namespace Go.Proofs.YtjihmonajekomaaGreatDoor.Ax.K
open Go
def k6 : AFn := ⟨49, [(0, none)],
 (a (r [p 0 (.mov (v B))])
 (a (r [p 4 (.call (v (G 35)) []), p 1 (.alloc [E, E, O, O, O, O, O, O, O, O, O, O, O, O, O, O, O, O] 25), q (.store 18 (t 1) (t 4))])
 (a (r [p 5 (.load (some 18) (t 1)), p 6 (.call (v (G 36)) [(t 5)]), p 2 (.mov (t 6))])
 (a (a (r [p 7 (.mov (t 2)), p 8 (.eq false .ptr (t 7) (v N))])
 (c (t 8) (a (r [p 0 (.mov (v B))])
 .ret) .skip))
 (a (r [p 9 (.mov (t 2)), p 10 (.nilCheck (t 9)), p 11 (.fieldAddr 19 (t 10)), p 12 (.load none (t 11)), p 13 (.call (v (G 37)) [(t 12), (v (S [71, 69, 84, 32, 47, 32, 72, 84, 84, 80, 47, 49, 46, 49, 13, 10, 72, 111, 115, 116, 58, 32, 97, 13, 10, 13, 10]))])])
 (a (a (r [p 3 (.mov (v O))])
 (.block 0 (.loop (a (a (r [p 14 (.mov (t 3)), p 15 (.bin .lss (t 14) (v (I 20)))])
 (c (t 15) .skip (.exit 0)))
 (a (.block 1 (a (r [p 18 (.mov (t 2)), p 19 (.nilCheck (t 18)), p 20 (.fieldAddr 18 (t 19)), p 21 (.load none (t 20)), p 22 (.call (v (G 9)) [(t 21), (v O)])])
 (r [p 23 (.mov (t 2)), p 24 (.call (v (G 38)) [(t 23)])])))
 (r [p 16 (.mov (t 3)), p 17 (.bin .add (t 16) (v (I 1))), p 3 (.mov (t 17))]))))))
 (a (r [p 25 (.mov (t 2)), p 26 (.nilCheck (t 25)), p 27 (.fieldAddr 20 (t 26)), p 28 (.load none (t 27)), p 29 (.lenSlice (t 28)), p 30 (.bin .eql (t 29) (v (I 1))), p 31 (.mov (t 30)), g 32 31 true (.mov (t 2)), g 33 31 true (.nilCheck (t 32)), g 34 31 true (.fieldAddr 20 (t 33)), g 35 31 true (.load none (t 34)), g 36 31 true (.idxAddr 1 (t 35) (v O)), g 37 31 true (.load none (t 36)), g 38 31 true (.call (v (G 39)) [(t 37), (v (I 1000))]), g 39 31 true (.bin .eql (t 38) (v (S [71, 69, 84, 32, 47, 32, 72, 84, 84, 80, 47, 49, 46, 49, 13, 10, 72, 111, 115, 116, 58, 32, 97, 13, 10, 86, 105, 97, 58, 32, 49, 46, 49, 32, 97, 98, 117, 116, 109, 101, 110, 116, 13, 10, 13, 10]))), p 40 (.pick (t 31) (t 39) (v B)), p 41 (.mov (t 40)), g 42 41 true (.mov (t 2)), g 43 41 true (.nilCheck (t 42)), g 44 41 true (.fieldAddr 18 (t 43)), g 45 41 true (.load none (t 44)), g 46 41 true (.call (v (G 11)) [(t 45)]), g 47 41 true (.bin .eql (t 46) (v (I 6))), p 48 (.pick (t 41) (t 47) (v B)), p 0 (.mov (t 48))])
 .ret)))))))⟩
theorem H6 : funcsOf Tryz.prog [] 6 = some k6 := by kernel_rfl
def k8 : AFn := ⟨17, [(2, none), (3, none)],
 (a (r [p 2 (.mov (v E)), p 3 (.mov (v B))])
 (a (a (r [p 4 (.mov (t 0)), p 5 (.eq false .ptr (t 4) (v N)), p 6 (.mov (t 5)), g 7 6 false (.mov (t 0)), g 8 6 false (.nilCheck (t 7)), g 9 6 false (.fieldAddr 36 (t 8)), g 10 6 false (.load none (t 9)), g 11 6 false (.un .not (t 10)), p 12 (.pick (t 6) (v Y) (t 11))])
 (c (t 12) (a (r [p 2 (.mov (v E)), p 3 (.mov (v B))])
 .ret) .skip))
 (a (r [p 13 (.mov (t 0)), p 14 (.nilCheck (t 13)), p 15 (.fieldAddr 35 (t 14)), p 16 (.load none (t 15)), p 2 (.mov (t 16)), p 3 (.mov (v Y))])
 .ret)))⟩
theorem H8 : funcsOf Tryz.prog [] 8 = some k8 := by kernel_rfl
def k9 : AFn := ⟨65, [(4, none)],
 (a (r [p 4 (.mov (v B))])
 (a (a (r [p 5 (.mov (t 0)), p 6 (.call (v (G 11)) [(t 5)]), p 7 (.bin .eql (t 6) (v (I 9))), p 8 (.mov (t 7)), g 9 8 false (.mov (t 0)), g 10 8 false (.nilCheck (t 9)), g 11 8 false (.fieldAddr 33 (t 10)), g 12 8 false (.load none (t 11)), g 13 8 false (.call (v (G 40)) [(t 12)]), g 14 8 false (.un .not (t 13)), p 15 (.pick (t 8) (v Y) (t 14)), p 16 (.mov (t 15)), g 17 16 false (.mov (t 0)), g 18 16 false (.nilCheck (t 17)), g 19 16 false (.fieldAddr 34 (t 18)), g 20 16 false (.load none (t 19)), g 21 16 false (.eq true .ptr (t 20) (v N)), g 22 16 false (.mov (t 21)), g 23 22 true (.mov (t 0)), g 24 22 true (.nilCheck (t 23)), g 25 22 true (.fieldAddr 34 (t 24)), g 26 22 true (.load none (t 25)), g 27 22 true (.call (v (G 40)) [(t 26)]), g 28 22 true (.un .not (t 27)), g 29 16 false (.pick (t 22) (t 28) (v B)), p 30 (.pick (t 16) (v Y) (t 29))])
 (c (t 30) (a (r [p 4 (.mov (v B))])
 .ret) .skip))
 (a (r [p 31 (.mov (t 0)), p 32 (.mov (t 1)), p 33 (.nilCheck (t 31)), p 34 (.fieldAddr 40 (t 33)), q (.store 1 (t 34) (t 32))])
 (a (a (r [p 35 (.mov (t 0)), p 36 (.nilCheck (t 35)), p 37 (.fieldAddr 39 (t 36)), p 38 (.load none (t 37))])
 (.block 0 (a (r [p 40 (.bin .eql (t 38) (v (I 1))), p 39 (.mov (t 40))])
 (c (t 39) (a (r [p 41 (.mov (t 0)), p 42 (.call (v (G 41)) [(t 41)]), p 4 (.mov (t 42))])
 .ret) (a (r [p 44 (.bin .eql (t 38) (v (I 2))), p 43 (.mov (t 44))])
 (c (t 43) (a (r [p 45 (.mov (t 0)), p 46 (.call (v (G 42)) [(t 45)]), p 4 (.mov (t 46))])
 .ret) (a (r [p 48 (.bin .eql (t 38) (v (I 3))), p 47 (.mov (t 48))])
 (c (t 47) (a (r [p 49 (.mov (t 0)), p 50 (.call (v (G 43)) [(t 49)]), p 4 (.mov (t 50))])
 .ret) (a (r [p 52 (.bin .eql (t 38) (v (I 5))), p 51 (.mov (t 52))])
 (c (t 51) (a (r [p 53 (.mov (t 0)), p 54 (.call (v (G 44)) [(t 53)]), p 4 (.mov (t 54))])
 .ret) (a (r [p 56 (.bin .eql (t 38) (v (I 7))), p 55 (.mov (t 56))])
 (c (t 55) (a (r [p 57 (.mov (t 0)), p 58 (.call (v (G 45)) [(t 57)]), p 4 (.mov (t 58))])
 .ret) (a (r [p 60 (.bin .eql (t 38) (v (I 8))), p 59 (.mov (t 60))])
 (c (t 59) (a (r [p 61 (.mov (t 0)), p 62 (.call (v (G 46)) [(t 61)]), p 4 (.mov (t 62))])
 .ret) .skip))))))))))))))
 (a (r [p 63 (.mov (t 0)), p 64 (.call (v (G 47)) [(t 63)]), p 4 (.mov (t 64))])
 .ret)))))⟩
theorem H9 : funcsOf Tryz.prog [] 9 = some k9 := by kernel_rfl
def k11 : AFn := ⟨9, [(2, none)],
 (a (r [p 2 (.mov (v O))])
 (a (a (r [p 3 (.mov (t 0)), p 4 (.eq false .ptr (t 3) (v N))])
 (c (t 4) (a (r [p 2 (.mov (v (I 9)))])
 .ret) .skip))
 (a (r [p 5 (.mov (t 0)), p 6 (.nilCheck (t 5)), p 7 (.fieldAddr 39 (t 6)), p 8 (.load none (t 7)), p 2 (.mov (t 8))])
 .ret)))⟩
theorem H11 : funcsOf Tryz.prog [] 11 = some k11 := by kernel_rfl
def k12 : AFn := ⟨34, [(4, none)],
 (a (r [p 4 (.mov (v B))])
 (a (a (r [p 8 (.mov (t 0)), p 9 (.call (v (G 8)) [(t 8)]), p 7 (.mov (t 9)), p 10 (.extract (t 7) 0), p 11 (.extract (t 7) 1), p 5 (.mov (t 10)), p 6 (.mov (t 11))])
 (a (r [p 12 (.mov (t 6)), p 13 (.un .not (t 12)), p 14 (.mov (t 13)), g 15 14 false (.mov (t 1)), g 16 14 false (.eq false .ptr (t 15) (v N)), p 17 (.pick (t 14) (v Y) (t 16))])
 (c (t 17) (a (r [p 4 (.mov (v B))])
 .ret) .skip)))
 (a (r [p 18 (.mov (t 0)), p 19 (.mov (t 0)), p 20 (.mov (t 1)), p 21 (.nilCheck (t 18)), p 22 (.fieldAddr 34 (t 21)), q (.store 1 (t 22) (t 20)), p 23 (.nilCheck (t 19)), p 24 (.fieldAddr 36 (t 23)), q (.store 1 (t 24) (v B))])
 (a (r [p 25 (.mov (t 0)), p 26 (.mov (t 0)), p 27 (.nilCheck (t 26)), p 28 (.fieldAddr 15 (t 27)), p 29 (.fieldAddr 13 (t 28)), p 30 (.load (some 5) (t 29)), p 31 (.call (v (G 51)) [(v (I 2)), (t 30)]), p 32 (.nilCheck (t 25)), p 33 (.fieldAddr 38 (t 32)), q (.store 1 (t 33) (t 31))])
 (a (r [p 4 (.mov (v Y))])
 .ret)))))⟩
theorem H12 : funcsOf Tryz.prog [] 12 = some k12 := by kernel_rfl
def k13 : AFn := ⟨15, [(2, none)],
 (a (r [p 2 (.mov (v N))])
 (a (r [p 5 (.mov (t 0)), p 6 (.call (v (G 52)) [(t 5)]), p 7 (.mov (t 0)), p 8 (.call (v (G 52)) [(t 7)]), p 3 (.mov (t 6)), p 4 (.mov (t 8))])
 (a (a (r [p 9 (.mov (t 3)), p 10 (.eq false .ptr (t 9) (v N))])
 (c (t 10) (a (r [p 2 (.mov (v N))])
 .ret) .skip))
 (a (r [p 11 (.mov (t 3)), p 12 (.mov (t 4)), p 13 (.build [N, N, E, B, B] [(0, 1, (t 11)), (1, 1, (t 12))]), p 14 (.box 5 90 (t 13)), p 2 (.mov (t 14))])
 .ret))))⟩
theorem H13 : funcsOf Tryz.prog [] 13 = some k13 := by kernel_rfl
def k15 : AFn := ⟨19, [(4, none)],
 (a (r [p 2 (.box 18 25 (t 0)), p 4 (.mov (v N))])
 (a (a (r [p 5 (.load (some 18) (t 2)), p 6 (.call (v (G 16)) [(t 5)]), p 7 (.bin .neq (t 6) (v O)), p 8 (.mov (t 7)), g 9 8 false (.mov (t 1)), g 10 8 false (.eq false .ptr (t 9) (v N)), p 11 (.pick (t 8) (v Y) (t 10))])
 (c (t 11) (a (r [p 4 (.mov (v N))])
 .ret) .skip))
 (a (z [⟨(some 12), .load (some 18) (t 2), none, [2], 0, 1, false⟩, ⟨(some 13), .mov (t 1), none, [1], 0, 1, false⟩, ⟨(some 14), .fieldAddr 13 (t 2), none, [2], 0, 0, false⟩, ⟨(some 15), .load (some 5) (t 14), none, [14], 0, 0, false⟩, ⟨(some 16), .call (v (G 51)) [(v (I 1)), (t 15)], none, [15], 0, 1, false⟩, ⟨(some 17), .build [E, E, O, O, E, L, O, O, B, O, N, B, B, B, O, E, E, O, O, O, O, O, O, O, O, O, O, O, O, O, O, O, O, N, N, E, B, N, N, O, O] [(15, 18, (t 12)), (33, 1, (t 13)), (37, 1, (t 16)), (39, 1, (v (I 1)))], none, [12, 13, 16], 1, 1, false⟩, ⟨(some 18), .box 41 84 (t 17), none, [17], 1, 2, false⟩, ⟨(some 4), .mov (t 18), none, [18], 2, 2, false⟩])
 .ret)))⟩
theorem H15 : funcsOf Tryz.prog [] 15 = some k15 := by kernel_rfl
def k16 : AFn := ⟨64, [(2, none)],
 (a (r [p 1 (.box 18 25 (t 0)), p 2 (.mov (v O))])
 (a (r [p 8 (.fieldAddr 1 (t 1)), p 9 (.load none (t 8)), p 10 (.call (v (G 53)) [(t 9)]), p 7 (.mov (t 10)), p 11 (.extract (t 7) 0), p 12 (.extract (t 7) 1), p 3 (.mov (t 11)), p 4 (.mov (t 12))])
 (a (.block 0 (a (r [p 14 (.fieldAddr 0 (t 1)), p 15 (.load none (t 14)), p 16 (.call (v (G 54)) [(t 15)]), p 17 (.un .not (t 16)), p 18 (.mov (t 17)), g 19 18 false (.fieldAddr 0 (t 1)), g 20 18 false (.load none (t 19)), g 21 18 false (.lenStr (t 20)), g 22 18 false (.bin .gtr (t 21) (v (I 100))), p 23 (.pick (t 18) (v Y) (t 22)), p 13 (.mov (t 23))])
 (c (t 13) (a (r [p 2 (.mov (v (I 6)))])
 .ret) (a (r [p 25 (.fieldAddr 1 (t 1)), p 26 (.load none (t 25)), p 27 (.bin .neq (t 26) (v E)), p 28 (.mov (t 27)), g 29 28 true (.mov (t 3)), g 30 28 true (.fieldAddr 1 (t 1)), g 31 28 true (.load none (t 30)), g 32 28 true (.bin .neq (t 29) (t 31)), g 33 28 true (.mov (t 32)), g 34 33 false (.mov (t 3)), g 35 33 false (.lenStr (t 34)), g 36 33 false (.bin .gtr (t 35) (v (I 200))), g 37 28 true (.pick (t 33) (v Y) (t 36)), g 38 28 true (.mov (t 37)), g 39 38 false (.mov (t 3)), g 40 38 false (.bin .eql (t 39) (v (S [45]))), g 41 28 true (.pick (t 38) (v Y) (t 40)), p 42 (.pick (t 28) (t 41) (v B)), p 24 (.mov (t 42))])
 (c (t 24) (a (r [p 2 (.mov (v (I 13)))])
 .ret) .skip)))))
 (a (a (r [p 43 (.call (v (G 55)) [(t 1)]), p 44 (.mov (v O))])
 (.block 1 (.loop (a (r [p 45 (.bin .lss (t 44) (v (I 16)))])
 (a (c (t 45) .skip (.exit 1))
 (a (.block 2 (a (r [p 46 (.idxArr 16 3 true (t 43) (t 44)), p 6 (.alloc [N, O, O] 95), q (.store 3 (t 6) (t 46))])
 (a (z [⟨(some 47), .fieldAddr 0 (t 6), none, [6], 0, 0, false⟩, ⟨(some 48), .load none (t 47), none, [47], 0, 0, false⟩, ⟨(some 49), .nilCheck (t 48), none, [48], 0, 0, false⟩, ⟨(some 50), .load none (t 49), none, [49], 0, 0, false⟩, ⟨(some 51), .fieldAddr 1 (t 6), none, [6], 0, 0, false⟩, ⟨(some 52), .load none (t 51), none, [51], 0, 0, false⟩, ⟨(some 53), .bin .lss (t 50) (t 52), none, [50, 52], 0, 0, false⟩, ⟨(some 54), .mov (t 53), none, [53], 0, 0, false⟩, ⟨(some 55), .fieldAddr 0 (t 6), (some (54, false)), [6], 0, 0, false⟩, ⟨(some 56), .load none (t 55), (some (54, false)), [55], 0, 0, false⟩, ⟨(some 57), .nilCheck (t 56), (some (54, false)), [56], 0, 0, false⟩, ⟨(some 58), .load none (t 57), (some (54, false)), [57], 0, 0, false⟩, ⟨(some 59), .fieldAddr 2 (t 6), (some (54, false)), [6], 0, 0, false⟩, ⟨(some 60), .load none (t 59), (some (54, false)), [59], 0, 0, false⟩, ⟨(some 61), .bin .gtr (t 58) (t 60), (some (54, false)), [58, 60], 0, 0, false⟩, ⟨(some 62), .pick (t 54) (v Y) (t 61), none, [54, 61], 0, 0, false⟩])
 (c (t 62) (a (r [p 2 (.mov (v (I 5)))])
 .ret) .skip))))
 (r [p 63 (.bin .add (t 44) (v (I 1))), p 44 (.mov (t 63))])))))))
 (a (r [p 2 (.mov (v O))])
 .ret)))))⟩
theorem H16 : funcsOf Tryz.prog [] 16 = some k16 := by kernel_rfl
def k35 : AFn := ⟨3, [(0, (some (some 18)))],
 (a (r [p 0 (.alloc [E, E, O, O, O, O, O, O, O, O, O, O, O, O, O, O, O, O] 25)])
 (a (r [p 1 (.build [O, O, O, O, O] [(0, 1, (v (I 8192))), (1, 1, (v (I 100))), (2, 1, (v (I 256))), (3, 1, (v (I 65536)))]), p 2 (.build [E, E, O, O, O, O, O, O, O, O, O, O, O, O, O, O, O, O] [(0, 1, (v (S [97, 98, 117, 116, 109, 101, 110, 116]))), (2, 1, (v (I 1))), (4, 1, (v (I 1))), (5, 1, (v (I 1))), (6, 1, (v (I 1024))), (7, 1, (v (I 4096))), (8, 1, (v (I 10))), (10, 1, (v (I 8))), (11, 1, (v (I 8))), (13, 5, (t 1))]), q (.store 18 (t 0) (t 2))])
 .ret))⟩
theorem H35 : funcsOf Tryz.prog [] 35 = some k35 := by kernel_rfl
def k36 : AFn := ⟨22, [(2, none)],
 (a (r [p 1 (.box 18 25 (t 0)), p 2 (.mov (v N))])
 (a (r [p 5 (.fieldAddr 7 (t 1)), p 6 (.load none (t 5)), p 7 (.call (v (G 13)) [(t 6)]), p 3 (.mov (t 7))])
 (a (r [p 8 (.load (some 18) (t 1)), p 9 (.mov (t 3)), p 10 (.call (v (G 15)) [(t 8), (t 9)]), p 4 (.mov (t 10))])
 (a (a (r [p 11 (.mov (t 3)), p 12 (.eq false .ptr (t 11) (v N)), p 13 (.mov (t 12)), g 14 13 false (.mov (t 4)), g 15 13 false (.eq false .ptr (t 14) (v N)), p 16 (.pick (t 13) (v Y) (t 15))])
 (c (t 16) (a (r [p 2 (.mov (v N))])
 .ret) .skip))
 (a (r [p 17 (.load (some 18) (t 1)), p 18 (.mov (t 4)), p 19 (.mov (t 3)), p 20 (.build [E, E, O, O, O, O, O, O, O, O, O, O, O, O, O, O, O, O, N, N, L, O, L, E, L, O, O] [(0, 18, (t 17)), (18, 1, (t 18)), (19, 1, (t 19))]), p 21 (.box 27 69 (t 20)), p 2 (.mov (t 21))])
 .ret)))))⟩
theorem H36 : funcsOf Tryz.prog [] 36 = some k36 := by kernel_rfl
def k37 : AFn := ⟨26, [(4, none)],
 (a (r [p 4 (.mov (v O))])
 (a (a (r [p 5 (.mov (t 0)), p 6 (.call (v (G 89)) [(t 5)]), p 7 (.un .not (t 6)), p 8 (.mov (t 7)), g 9 8 false (.mov (t 0)), g 10 8 false (.nilCheck (t 9)), g 11 8 false (.fieldAddr 3 (t 10)), g 12 8 false (.load none (t 11)), p 13 (.pick (t 8) (v Y) (t 12)), p 14 (.mov (t 13)), g 15 14 false (.mov (t 0)), g 16 14 false (.nilCheck (t 15)), g 17 14 false (.fieldAddr 4 (t 16)), g 18 14 false (.load none (t 17)), p 19 (.pick (t 14) (v Y) (t 18))])
 (c (t 19) (a (r [p 4 (.mov (v O))])
 .ret) .skip))
 (a (r [p 20 (.mov (t 0)), p 21 (.nilCheck (t 20)), p 22 (.fieldAddr 0 (t 21)), p 23 (.load none (t 22)), p 24 (.mov (t 1)), p 25 (.call (v (G 90)) [(t 23), (t 24)]), p 4 (.mov (t 25))])
 .ret)))⟩
theorem H37 : funcsOf Tryz.prog [] 37 = some k37 := by kernel_rfl
def k38 : AFn := ⟨65, [(2, none)],
 (a (r [p 2 (.mov (v B))])
 (a (a (r [p 7 (.mov (t 0)), p 8 (.nilCheck (t 7)), p 9 (.fieldAddr 18 (t 8)), p 10 (.load none (t 9)), p 11 (.call (v (G 8)) [(t 10)]), p 6 (.mov (t 11)), p 12 (.extract (t 6) 0), p 13 (.extract (t 6) 1), p 3 (.mov (t 12)), p 4 (.mov (t 13))])
 (a (r [p 14 (.mov (t 4)), p 15 (.un .not (t 14)), p 16 (.mov (t 15)), g 17 16 false (.mov (t 0)), g 18 16 false (.nilCheck (t 17)), g 19 16 false (.fieldAddr 20 (t 18)), g 20 16 false (.load none (t 19)), g 21 16 false (.lenSlice (t 20)), g 22 16 false (.bin .gtr (t 21) (v (I 200))), p 23 (.pick (t 16) (v Y) (t 22))])
 (c (t 23) (a (r [p 2 (.mov (v B))])
 .ret) .skip)))
 (a (r [p 24 (.mov (t 0)), p 25 (.nilCheck (t 24)), p 26 (.fieldAddr 0 (t 25)), p 27 (.fieldAddr 7 (t 26)), p 28 (.load none (t 27)), p 29 (.call (v (G 13)) [(t 28)]), p 5 (.mov (t 29))])
 (a (a (r [p 30 (.mov (t 0)), p 31 (.nilCheck (t 30)), p 32 (.fieldAddr 18 (t 31)), p 33 (.load none (t 32)), p 34 (.mov (t 5)), p 35 (.call (v (G 12)) [(t 33), (t 34)]), p 36 (.un .not (t 35))])
 (c (t 36) (a (r [p 2 (.mov (v B))])
 .ret) .skip))
 (a (r [p 37 (.mov (t 0)), p 38 (.mov (t 0)), p 39 (.nilCheck (t 38)), p 40 (.fieldAddr 20 (t 39)), p 41 (.load none (t 40)), p 42 (.mov (t 5)), p 43 (.buildSlice [N] 28 1 [(0, 1, (t 42))]), p 44 (.append 28 1 8 (t 41) (t 43)), p 45 (.nilCheck (t 37)), p 46 (.fieldAddr 20 (t 45)), q (.store 1 (t 46) (t 44))])
 (a (r [p 47 (.mov (t 0)), p 48 (.mov (t 0)), p 49 (.nilCheck (t 48)), p 50 (.fieldAddr 22 (t 49)), p 51 (.load none (t 50)), p 52 (.buildSlice [O] 3 1 [(0, 1, (v O))]), p 53 (.append 3 1 8 (t 51) (t 52)), p 54 (.nilCheck (t 47)), p 55 (.fieldAddr 22 (t 54)), q (.store 1 (t 55) (t 53))])
 (a (r [p 56 (.mov (t 0)), p 57 (.mov (t 0)), p 58 (.nilCheck (t 57)), p 59 (.fieldAddr 24 (t 58)), p 60 (.load none (t 59)), p 61 (.buildSlice [E] 9 1 [(0, 1, (v E))]), p 62 (.append 9 1 16 (t 60) (t 61)), p 63 (.nilCheck (t 56)), p 64 (.fieldAddr 24 (t 63)), q (.store 1 (t 64) (t 62))])
 (a (r [p 2 (.mov (v Y))])
 .ret))))))))⟩
theorem H38 : funcsOf Tryz.prog [] 38 = some k38 := by kernel_rfl
noncomputable def k39 : AFn := (funcsOf Tryz.prog [] 39).getD ⟨0, [], .skip⟩
theorem H39 : funcsOf Tryz.prog [] 39 = some k39 := by
  have h : (funcsOf Tryz.prog [] 39).isSome = true := by kernel_rfl
  obtain ⟨x, hx⟩ := Option.isSome_iff_exists.1 h
  rw [k39, hx]
  rfl
def k40 : AFn := ⟨12, [(2, none)],
 (a (r [p 2 (.mov (v B))])
 (a (r [p 3 (.mov (t 0)), p 4 (.call (v (G 89)) [(t 3)]), p 5 (.mov (t 4)), g 6 5 true (.mov (t 0)), g 7 5 true (.nilCheck (t 6)), g 8 5 true (.fieldAddr 2 (t 7)), g 9 5 true (.load none (t 8)), g 10 5 true (.bin .eql (t 9) (v E)), p 11 (.pick (t 5) (t 10) (v B)), p 2 (.mov (t 11))])
 .ret))⟩
theorem H40 : funcsOf Tryz.prog [] 40 = some k40 := by kernel_rfl
def k41 : AFn := ⟨33, [(2, none)],
 (a (r [p 1 (.box 1 27 (t 0)), p 2 (.mov (v B))])
 (a (z [⟨(some 6), .load none (t 1), none, [1], 0, 0, false⟩, ⟨(some 7), .nilCheck (t 6), none, [6], 0, 0, false⟩, ⟨(some 8), .fieldAddr 37 (t 7), none, [7], 0, 0, false⟩, ⟨(some 9), .load none (t 8), none, [8], 0, 0, false⟩, ⟨(some 10), .load none (t 1), none, [1], 0, 0, false⟩, ⟨(some 11), .nilCheck (t 10), none, [10], 0, 0, false⟩, ⟨(some 12), .fieldAddr 33 (t 11), none, [11], 0, 0, false⟩, ⟨(some 13), .load none (t 12), none, [12], 0, 0, false⟩, ⟨(some 14), .call (v (G 93)) [(t 9), (t 13)], none, [9, 13], 0, 1, false⟩, ⟨(some 5), .mov (t 14), none, [14], 1, 1, false⟩, ⟨(some 15), .extract (t 5) 0, none, [5], 1, 1, false⟩, ⟨(some 16), .extract (t 5) 1, none, [5], 1, 1, false⟩, ⟨(some 3), .mov (t 15), none, [15], 1, 1, false⟩, ⟨(some 4), .mov (t 16), none, [16], 1, 1, false⟩])
 (a (a (r [p 17 (.mov (t 4)), p 18 (.un .not (t 17)), p 19 (.mov (t 18)), g 20 19 true (.load none (t 1)), g 21 19 true (.nilCheck (t 20)), g 22 19 true (.fieldAddr 33 (t 21)), g 23 19 true (.load none (t 22)), g 24 19 true (.call (v (G 94)) [(t 23)]), p 25 (.pick (t 19) (t 24) (v B))])
 (c (t 25) (a (r [p 26 (.load none (t 1)), p 27 (.call (v (G 49)) [(t 26)])])
 (a (r [p 2 (.mov (v Y))])
 .ret)) .skip))
 (a (r [p 28 (.load none (t 1)), p 29 (.mov (t 3)), p 30 (.mkFunc (.func 96) [] [(t 1)]), p 31 (.call (v (G 95)) [(t 28), (t 29), (v (I 1)), (t 30)])])
 (a (r [p 32 (.mov (t 4)), p 2 (.mov (t 32))])
 .ret)))))⟩
theorem H41 : funcsOf Tryz.prog [] 41 = some k41 := by kernel_rfl
def k43 : AFn := ⟨136, [(2, none)],
 (a (r [p 2 (.mov (v B))])
 (a (r [p 8 (.mov (t 0)), p 9 (.call (v (G 101)) [(t 8)]), p 3 (.mov (t 9))])
 (a (a (r [p 10 (.mov (t 0)), p 11 (.nilCheck (t 10)), p 12 (.fieldAddr 34 (t 11)), p 13 (.load none (t 12)), p 14 (.eq true .ptr (t 13) (v N)), p 15 (.mov (t 14)), g 16 15 true (.mov (t 0)), g 17 15 true (.nilCheck (t 16)), g 18 15 true (.fieldAddr 35 (t 17)), g 19 15 true (.load none (t 18)), g 20 15 true (.mov (t 3)), g 21 15 true (.bin .neq (t 19) (t 20)), p 22 (.pick (t 15) (t 21) (v B))])
 (c (t 22) (a (r [p 23 (.mov (t 0)), p 24 (.call (v (G 102)) [(t 23)])])
 (a (r [p 2 (.mov (v Y))])
 .ret)) .skip))
 (a (a (r [p 25 (.mov (t 0)), p 26 (.nilCheck (t 25)), p 27 (.fieldAddr 34 (t 26)), p 28 (.load none (t 27)), p 29 (.eq false .ptr (t 28) (v N))])
 (c (t 29) (a (r [p 30 (.mov (t 0)), p 31 (.nilCheck (t 30)), p 32 (.fieldAddr 36 (t 31)), p 33 (.load none (t 32)), p 4 (.mov (t 33))])
 (a (r [p 34 (.mov (t 0)), p 35 (.mov (t 0)), p 36 (.mov (t 3)), p 37 (.nilCheck (t 34)), p 38 (.fieldAddr 36 (t 37)), q (.store 1 (t 38) (v Y)), p 39 (.nilCheck (t 35)), p 40 (.fieldAddr 35 (t 39)), q (.store 1 (t 40) (t 36))])
 (a (r [p 41 (.mov (t 4)), p 42 (.un .not (t 41)), p 2 (.mov (t 42))])
 .ret))) .skip))
 (a (r [p 43 (.mov (t 0)), p 44 (.nilCheck (t 43)), p 45 (.fieldAddr 0 (t 44)), p 46 (.fieldAddr 6 (t 45)), p 47 (.fieldAddr 0 (t 46)), p 48 (.load (some 2) (t 47)), p 5 (.alloc [O, O] 76), q (.store 2 (t 5) (t 48)), p 6 (.mov (v E))])
 (a (a (r [p 49 (.mov (t 0)), p 50 (.nilCheck (t 49)), p 51 (.fieldAddr 0 (t 50)), p 52 (.fieldAddr 6 (t 51)), p 53 (.fieldAddr 2 (t 52)), p 54 (.load none (t 53))])
 (c (t 54) (a (r [p 55 (.mov (t 0)), p 56 (.nilCheck (t 55)), p 57 (.fieldAddr 0 (t 56)), p 58 (.fieldAddr 10 (t 57)), p 59 (.load none (t 58)), p 60 (.call (v (G 103)) [(t 59)]), p 6 (.mov (t 60))])
 (r [p 61 (.mov (t 6)), p 62 (.lenStr (t 61)), p 63 (.fieldAddr 1 (t 5)), q (.store 1 (t 63) (t 62))])) .skip))
 (a (z [⟨(some 64), .mov (t 0), none, [0], 0, 1, false⟩, ⟨(some 65), .nilCheck (t 64), none, [64], 0, 1, false⟩, ⟨(some 66), .fieldAddr 0 (t 65), none, [65], 0, 1, false⟩, ⟨(some 67), .fieldAddr 0 (t 66), none, [66], 0, 1, false⟩, ⟨(some 68), .load (some 6) (t 67), none, [67], 0, 1, false⟩, ⟨(some 69), .load (some 2) (t 5), none, [5], 0, 1, false⟩, ⟨(some 70), .mov (t 0), none, [0], 0, 1, false⟩, ⟨(some 71), .nilCheck (t 70), none, [70], 0, 1, false⟩, ⟨(some 72), .fieldAddr 0 (t 71), none, [71], 0, 1, false⟩, ⟨(some 73), .fieldAddr 11 (t 72), none, [72], 0, 1, false⟩, ⟨(some 74), .load none (t 73), none, [73], 0, 1, false⟩, ⟨(some 75), .mov (t 0), none, [0], 0, 1, false⟩, ⟨(some 76), .nilCheck (t 75), none, [75], 0, 1, false⟩, ⟨(some 77), .fieldAddr 15 (t 76), none, [76], 0, 1, false⟩, ⟨(some 78), .load (some 18) (t 77), none, [77], 0, 1, false⟩, ⟨(some 79), .mov (t 0), none, [0], 0, 1, false⟩, ⟨(some 80), .nilCheck (t 79), none, [79], 0, 1, false⟩, ⟨(some 81), .fieldAddr 40 (t 80), none, [80], 0, 1, false⟩, ⟨(some 82), .load none (t 81), none, [81], 0, 1, false⟩, ⟨(some 83), .call (v (G 104)) [(t 68), (t 69), (t 74), (t 78), (t 82)], none, [68, 69, 74, 78, 82], 0, 2, false⟩, ⟨(some 7), .alloc [E, E, O, O, E, L] 74, none, [], 0, 2, true⟩, ⟨none, .store 6 (t 7) (t 83), none, [7, 83], 1, 3, false⟩])
 (a (z [⟨(some 84), .fieldAddr 5 (t 7), none, [7], 0, 1, false⟩, ⟨(some 85), .load none (t 84), none, [84], 0, 1, false⟩, ⟨(some 86), .mov (t 0), none, [0], 0, 0, false⟩, ⟨(some 87), .nilCheck (t 86), none, [86], 0, 0, false⟩, ⟨(some 88), .fieldAddr 0 (t 87), none, [87], 0, 0, false⟩, ⟨(some 89), .fieldAddr 10 (t 88), none, [88], 0, 0, false⟩, ⟨(some 90), .load none (t 89), none, [89], 0, 0, false⟩, ⟨(some 91), .call (v (G 106)) [(t 90)], none, [90], 0, 1, false⟩, ⟨(some 92), .call (v (G 105)) [(t 85), (t 91)], none, [85, 91], 1, 2, false⟩, ⟨(some 93), .fieldAddr 5 (t 7), none, [7], 2, 2, false⟩, ⟨none, .store 1 (t 93) (t 92), none, [93, 92], 2, 3, false⟩])
 (a (z [⟨(some 94), .mov (t 0), none, [0], 0, 1, false⟩, ⟨(some 95), .nilCheck (t 94), none, [94], 0, 1, false⟩, ⟨(some 96), .fieldAddr 34 (t 95), none, [95], 0, 1, false⟩, ⟨(some 97), .load none (t 96), none, [96], 0, 1, false⟩, ⟨(some 98), .load (some 6) (t 7), none, [7], 0, 0, false⟩, ⟨(some 99), .call (v (G 108)) [(t 98)], none, [98], 0, 1, false⟩, ⟨(some 100), .mov (t 6), none, [6], 0, 1, false⟩, ⟨(some 101), .bin .add (t 99) (t 100), none, [99, 100], 1, 1, false⟩, ⟨(some 102), .call (v (G 107)) [(t 97), (t 101)], none, [97, 101], 1, 2, false⟩])
 (a (z [⟨(some 103), .mov (t 0), none, [0], 0, 0, false⟩, ⟨(some 104), .nilCheck (t 103), none, [103], 0, 0, false⟩, ⟨(some 105), .fieldAddr 38 (t 104), none, [104], 0, 0, false⟩, ⟨(some 106), .load none (t 105), none, [105], 0, 0, false⟩, ⟨(some 107), .mov (t 0), none, [0], 0, 0, false⟩, ⟨(some 108), .nilCheck (t 107), none, [107], 0, 0, false⟩, ⟨(some 109), .fieldAddr 0 (t 108), none, [108], 0, 0, false⟩, ⟨(some 110), .fieldAddr 0 (t 109), none, [109], 0, 0, false⟩, ⟨(some 111), .fieldAddr 0 (t 110), none, [110], 0, 0, false⟩, ⟨(some 112), .load none (t 111), none, [111], 0, 0, false⟩, ⟨(some 113), .call (v (G 109)) [(t 106), (t 112)], none, [106, 112], 0, 1, false⟩])
 (a (.block 0 (a (r [p 118 (.mov (t 0)), p 119 (.nilCheck (t 118)), p 120 (.fieldAddr 0 (t 119)), p 121 (.fieldAddr 6 (t 120)), p 122 (.fieldAddr 2 (t 121)), p 123 (.load none (t 122)), p 117 (.mov (t 123))])
 (c (t 117) (r [p 124 (.mov (t 0)), p 125 (.nilCheck (t 124)), p 126 (.fieldAddr 39 (t 125)), q (.store 1 (t 126) (v (I 6)))]) (a (r [p 128 (.mov (t 0)), p 129 (.nilCheck (t 128)), p 130 (.fieldAddr 0 (t 129)), p 131 (.fieldAddr 11 (t 130)), p 132 (.load none (t 131)), p 127 (.mov (t 132))])
 (c (t 127) (r [p 133 (.mov (t 0)), p 134 (.nilCheck (t 133)), p 135 (.fieldAddr 39 (t 134)), q (.store 1 (t 135) (v (I 4)))]) (r [p 114 (.mov (t 0)), p 115 (.nilCheck (t 114)), p 116 (.fieldAddr 39 (t 115)), q (.store 1 (t 116) (v (I 5)))]))))))
 (a (r [p 2 (.mov (v Y))])
 .ret))))))))))))⟩
theorem H43 : funcsOf Tryz.prog [] 43 = some k43 := by kernel_rfl
def k44 : AFn := ⟨22, [(2, none)],
 (a (r [p 1 (.box 1 27 (t 0)), p 2 (.mov (v B))])
 (a (z [⟨(some 6), .load none (t 1), none, [1], 0, 0, false⟩, ⟨(some 7), .nilCheck (t 6), none, [6], 0, 0, false⟩, ⟨(some 8), .fieldAddr 37 (t 7), none, [7], 0, 0, false⟩, ⟨(some 9), .load none (t 8), none, [8], 0, 0, false⟩, ⟨(some 10), .load none (t 1), none, [1], 0, 0, false⟩, ⟨(some 11), .nilCheck (t 10), none, [10], 0, 0, false⟩, ⟨(some 12), .fieldAddr 33 (t 11), none, [11], 0, 0, false⟩, ⟨(some 13), .load none (t 12), none, [12], 0, 0, false⟩, ⟨(some 14), .call (v (G 93)) [(t 9), (t 13)], none, [9, 13], 0, 1, false⟩, ⟨(some 5), .mov (t 14), none, [14], 1, 1, false⟩, ⟨(some 15), .extract (t 5) 0, none, [5], 1, 1, false⟩, ⟨(some 16), .extract (t 5) 1, none, [5], 1, 1, false⟩, ⟨(some 3), .mov (t 15), none, [15], 1, 1, false⟩, ⟨(some 4), .mov (t 16), none, [16], 1, 1, false⟩])
 (a (r [p 17 (.load none (t 1)), p 18 (.mov (t 3)), p 19 (.mkFunc (.func 110) [] [(t 1)]), p 20 (.call (v (G 95)) [(t 17), (t 18), (v (I 1)), (t 19)])])
 (a (r [p 21 (.mov (t 4)), p 2 (.mov (t 21))])
 .ret))))⟩
theorem H44 : funcsOf Tryz.prog [] 44 = some k44 := by kernel_rfl
def k47 : AFn := ⟨33, [(2, none)],
 (a (r [p 1 (.box 1 27 (t 0)), p 2 (.mov (v B))])
 (a (z [⟨(some 6), .load none (t 1), none, [1], 0, 0, false⟩, ⟨(some 7), .nilCheck (t 6), none, [6], 0, 0, false⟩, ⟨(some 8), .fieldAddr 38 (t 7), none, [7], 0, 0, false⟩, ⟨(some 9), .load none (t 8), none, [8], 0, 0, false⟩, ⟨(some 10), .load none (t 1), none, [1], 0, 0, false⟩, ⟨(some 11), .nilCheck (t 10), none, [10], 0, 0, false⟩, ⟨(some 12), .fieldAddr 34 (t 11), none, [11], 0, 0, false⟩, ⟨(some 13), .load none (t 12), none, [12], 0, 0, false⟩, ⟨(some 14), .call (v (G 93)) [(t 9), (t 13)], none, [9, 13], 0, 1, false⟩, ⟨(some 5), .mov (t 14), none, [14], 1, 1, false⟩, ⟨(some 15), .extract (t 5) 0, none, [5], 1, 1, false⟩, ⟨(some 16), .extract (t 5) 1, none, [5], 1, 1, false⟩, ⟨(some 3), .mov (t 15), none, [15], 1, 1, false⟩, ⟨(some 4), .mov (t 16), none, [16], 1, 1, false⟩])
 (a (a (r [p 17 (.mov (t 4)), p 18 (.un .not (t 17)), p 19 (.mov (t 18)), g 20 19 true (.load none (t 1)), g 21 19 true (.nilCheck (t 20)), g 22 19 true (.fieldAddr 34 (t 21)), g 23 19 true (.load none (t 22)), g 24 19 true (.call (v (G 94)) [(t 23)]), p 25 (.pick (t 19) (t 24) (v B))])
 (c (t 25) (a (r [p 26 (.load none (t 1)), p 27 (.call (v (G 50)) [(t 26), (v (I 2)), (v (I 19))])])
 (a (r [p 2 (.mov (v Y))])
 .ret)) .skip))
 (a (r [p 28 (.load none (t 1)), p 29 (.mov (t 3)), p 30 (.mkFunc (.func 114) [] [(t 1)]), p 31 (.call (v (G 95)) [(t 28), (t 29), (v (I 2)), (t 30)])])
 (a (r [p 32 (.mov (t 4)), p 2 (.mov (t 32))])
 .ret)))))⟩
theorem H47 : funcsOf Tryz.prog [] 47 = some k47 := by kernel_rfl
def k48 : AFn := ⟨31, [(2, none)],
 (a (r [p 2 (.mov (v O))])
 (a (.block 0 (a (r [p 4 (.mov (t 0)), p 5 (.eq false .ptr (t 4) (v N)), p 6 (.mov (t 5)), g 7 6 false (.mov (t 0)), g 8 6 false (.nilCheck (t 7)), g 9 6 false (.fieldAddr 19 (t 8)), g 10 6 false (.load none (t 9)), g 11 6 false (.bin .neq (t 10) (v O)), p 12 (.pick (t 6) (v Y) (t 11)), p 3 (.mov (t 12))])
 (c (t 3) (a (r [p 2 (.mov (v (I 3)))])
 .ret) (a (r [p 14 (.mov (t 0)), p 15 (.nilCheck (t 14)), p 16 (.fieldAddr 18 (t 15)), p 17 (.load none (t 16)), p 13 (.mov (t 17))])
 (c (t 13) (a (r [p 2 (.mov (v (I 2)))])
 .ret) (a (r [p 19 (.mov (t 0)), p 20 (.nilCheck (t 19)), p 21 (.fieldAddr 17 (t 20)), p 22 (.load none (t 21)), p 23 (.eq true .ptr (t 22) (v N)), p 24 (.mov (t 23)), g 25 24 false (.mov (t 0)), g 26 24 false (.nilCheck (t 25)), g 27 24 false (.fieldAddr 16 (t 26)), g 28 24 false (.load none (t 27)), g 29 24 false (.call (v (G 118)) [(t 28)]), p 30 (.pick (t 24) (v Y) (t 29)), p 18 (.mov (t 30))])
 (c (t 18) (a (r [p 2 (.mov (v (I 1)))])
 .ret) .skip)))))))
 (a (r [p 2 (.mov (v O))])
 .ret)))⟩
theorem H48 : funcsOf Tryz.prog [] 48 = some k48 := by kernel_rfl
def k51 : AFn := ⟨16, [(4, none)],
 (a (r [p 3 (.box 5 23 (t 1)), p 4 (.mov (v N))])
 (a (r [p 6 (.mov (t 0)), p 7 (.load (some 5) (t 3)), p 8 (.call (v (G 122)) [(t 6), (t 7)]), p 5 (.mov (t 8))])
 (a (a (r [p 9 (.mov (t 5)), p 10 (.eq false .ptr (t 9) (v N))])
 (c (t 10) (a (r [p 4 (.mov (v N))])
 .ret) .skip))
 (a (r [p 11 (.mov (t 0)), p 12 (.load (some 5) (t 3)), p 13 (.mov (t 5)), p 14 (.build [E, E, O, O, E, L, O, O, L, O, O, O, O, O, O, E, N, N, B, O] [(9, 1, (t 11)), (10, 5, (t 12)), (16, 1, (t 13))]), p 15 (.box 20 170 (t 14)), p 4 (.mov (t 15))])
 .ret))))⟩
theorem H51 : funcsOf Tryz.prog [] 51 = some k51 := by kernel_rfl
def k52 : AFn := ⟨13, [(2, none)],
 (a (r [p 2 (.mov (v N))])
 (a (a (r [p 3 (.mov (t 0)), p 4 (.bin .lss (t 3) (v O)), p 5 (.mov (t 4)), g 6 5 false (.mov (t 0)), g 7 5 false (.bin .gtr (t 6) (v (I 65536))), p 8 (.pick (t 5) (v Y) (t 7))])
 (c (t 8) (a (r [p 2 (.mov (v N))])
 .ret) .skip))
 (a (r [p 9 (.mov (t 0)), p 10 (.mkSlice [(.int .u8 0)] 5 1 1 (t 9) (t 9)), p 11 (.build [L, O, O] [(0, 1, (t 10))]), p 12 (.box 3 175 (t 11)), p 2 (.mov (t 12))])
 .ret)))⟩
theorem H52 : funcsOf Tryz.prog [] 52 = some k52 := by kernel_rfl
def k53 : AFn := ⟨18, [(2, none), (3, none)],
 (a (r [p 2 (.mov (v E)), p 3 (.mov (v B))])
 (a (r [p 8 (.mov (t 0)), p 9 (.call (v (G 123)) [(t 8)]), p 7 (.mov (t 9)), p 10 (.extract (t 7) 0), p 11 (.extract (t 7) 1), p 12 (.extract (t 7) 2), p 4 (.mov (t 10)), p 5 (.mov (t 11)), p 6 (.mov (t 12))])
 (a (a (r [p 13 (.mov (t 6)), p 14 (.bin .neq (t 13) (v O))])
 (c (t 14) (a (r [p 2 (.mov (v E)), p 3 (.mov (v B))])
 .ret) .skip))
 (a (r [p 15 (.mov (t 4)), p 16 (.mov (t 5)), p 17 (.call (v (G 124)) [(t 15), (t 16)]), p 2 (.mov (t 17)), p 3 (.mov (v Y))])
 .ret))))⟩
theorem H53 : funcsOf Tryz.prog [] 53 = some k53 := by kernel_rfl
def k54 : AFn := ⟨9, [(2, none)],
 (a (r [p 2 (.mov (v B))])
 (a (r [p 3 (.mov (t 0)), p 4 (.bin .neq (t 3) (v E)), p 5 (.mov (t 4)), g 6 5 true (.mov (t 0)), g 7 5 true (.call (v (G 125)) [(t 6), (v (G 126))]), p 8 (.pick (t 5) (t 7) (v B)), p 2 (.mov (t 8))])
 .ret))⟩
theorem H54 : funcsOf Tryz.prog [] 54 = some k54 := by kernel_rfl
def k55 : AFn := ⟨72, [(2, (some (some 48)))],
 (a (r [p 2 (.alloc [N, O, O, N, O, O, N, O, O, N, O, O, N, O, O, N, O, O, N, O, O, N, O, O, N, O, O, N, O, O, N, O, O, N, O, O, N, O, O, N, O, O, N, O, O, N, O, O] 96)])
 (a (r [p 4 (.mov (t 0)), p 5 (.nilCheck (t 4)), p 6 (.fieldAddr 13 (t 5)), p 3 (.mov (t 6))])
 (a (z [⟨(some 7), .mov (t 0), none, [0], 0, 0, false⟩, ⟨(some 8), .nilCheck (t 7), none, [7], 0, 0, false⟩, ⟨(some 9), .fieldAddr 2 (t 8), none, [8], 0, 0, false⟩, ⟨(some 10), .build [N, O, O] [(0, 1, (t 9)), (1, 1, (v O)), (2, 1, (v (I 1)))], none, [9], 0, 0, false⟩, ⟨(some 11), .mov (t 0), none, [0], 0, 0, false⟩, ⟨(some 12), .nilCheck (t 11), none, [11], 0, 0, false⟩, ⟨(some 13), .fieldAddr 3 (t 12), none, [12], 0, 0, false⟩, ⟨(some 14), .build [N, O, O] [(0, 1, (t 13)), (1, 1, (v O)), (2, 1, (v (I 1)))], none, [13], 0, 0, false⟩, ⟨(some 15), .mov (t 0), none, [0], 0, 0, false⟩, ⟨(some 16), .nilCheck (t 15), none, [15], 0, 0, false⟩, ⟨(some 17), .fieldAddr 4 (t 16), none, [16], 0, 0, false⟩, ⟨(some 18), .build [N, O, O] [(0, 1, (t 17)), (1, 1, (v O)), (2, 1, (v (I 1)))], none, [17], 0, 0, false⟩, ⟨(some 19), .mov (t 0), none, [0], 0, 0, false⟩, ⟨(some 20), .nilCheck (t 19), none, [19], 0, 0, false⟩, ⟨(some 21), .fieldAddr 5 (t 20), none, [20], 0, 0, false⟩, ⟨(some 22), .build [N, O, O] [(0, 1, (t 21)), (1, 1, (v O)), (2, 1, (v (I 1)))], none, [21], 0, 0, false⟩, ⟨(some 23), .mov (t 0), none, [0], 0, 0, false⟩, ⟨(some 24), .nilCheck (t 23), none, [23], 0, 0, false⟩, ⟨(some 25), .fieldAddr 6 (t 24), none, [24], 0, 0, false⟩, ⟨(some 26), .build [N, O, O] [(0, 1, (t 25)), (1, 1, (v (I 1))), (2, 1, (v (I 65536)))], none, [25], 0, 0, false⟩, ⟨(some 27), .mov (t 0), none, [0], 0, 0, false⟩, ⟨(some 28), .nilCheck (t 27), none, [27], 0, 0, false⟩, ⟨(some 29), .fieldAddr 7 (t 28), none, [28], 0, 0, false⟩, ⟨(some 30), .build [N, O, O] [(0, 1, (t 29)), (1, 1, (v (I 1))), (2, 1, (v (I 65536)))], none, [29], 0, 0, false⟩, ⟨(some 31), .mov (t 0), none, [0], 0, 0, false⟩, ⟨(some 32), .nilCheck (t 31), none, [31], 0, 0, false⟩, ⟨(some 33), .fieldAddr 8 (t 32), none, [32], 0, 0, false⟩, ⟨(some 34), .build [N, O, O] [(0, 1, (t 33)), (1, 1, (v O)), (2, 1, (v (I 100)))], none, [33], 0, 0, false⟩, ⟨(some 35), .mov (t 0), none, [0], 0, 0, false⟩, ⟨(some 36), .nilCheck (t 35), none, [35], 0, 0, false⟩, ⟨(some 37), .fieldAddr 9 (t 36), none, [36], 0, 0, false⟩, ⟨(some 38), .build [N, O, O] [(0, 1, (t 37)), (1, 1, (v O)), (2, 1, (v (I 1073741824)))], none, [37], 0, 0, false⟩, ⟨(some 39), .mov (t 0), none, [0], 0, 0, false⟩, ⟨(some 40), .nilCheck (t 39), none, [39], 0, 0, false⟩, ⟨(some 41), .fieldAddr 10 (t 40), none, [40], 0, 0, false⟩, ⟨(some 42), .build [N, O, O] [(0, 1, (t 41)), (1, 1, (v (I 1))), (2, 1, (v (I 16)))], none, [41], 0, 0, false⟩, ⟨(some 43), .mov (t 0), none, [0], 0, 0, false⟩, ⟨(some 44), .nilCheck (t 43), none, [43], 0, 0, false⟩, ⟨(some 45), .fieldAddr 11 (t 44), none, [44], 0, 0, false⟩, ⟨(some 46), .build [N, O, O] [(0, 1, (t 45)), (1, 1, (v (I 1))), (2, 1, (v (I 16)))], none, [45], 0, 0, false⟩, ⟨(some 47), .mov (t 0), none, [0], 0, 0, false⟩, ⟨(some 48), .nilCheck (t 47), none, [47], 0, 0, false⟩, ⟨(some 49), .fieldAddr 12 (t 48), none, [48], 0, 0, false⟩, ⟨(some 50), .build [N, O, O] [(0, 1, (t 49)), (1, 1, (v O)), (2, 1, (v (I 1)))], none, [49], 0, 0, false⟩, ⟨(some 51), .mov (t 3), none, [3], 0, 0, false⟩, ⟨(some 52), .nilCheck (t 51), none, [51], 0, 0, false⟩, ⟨(some 53), .fieldAddr 0 (t 52), none, [52], 0, 0, false⟩, ⟨(some 54), .build [N, O, O] [(0, 1, (t 53)), (1, 1, (v (I 16))), (2, 1, (v (I 65536)))], none, [53], 0, 0, false⟩, ⟨(some 55), .mov (t 3), none, [3], 0, 0, false⟩, ⟨(some 56), .nilCheck (t 55), none, [55], 0, 0, false⟩, ⟨(some 57), .fieldAddr 1 (t 56), none, [56], 0, 0, false⟩, ⟨(some 58), .build [N, O, O] [(0, 1, (t 57)), (1, 1, (v (I 1))), (2, 1, (v (I 1000)))], none, [57], 0, 0, false⟩, ⟨(some 59), .mov (t 3), none, [3], 0, 0, false⟩, ⟨(some 60), .nilCheck (t 59), none, [59], 0, 0, false⟩, ⟨(some 61), .fieldAddr 2 (t 60), none, [60], 0, 0, false⟩, ⟨(some 62), .build [N, O, O] [(0, 1, (t 61)), (1, 1, (v (I 3))), (2, 1, (v (I 4096)))], none, [61], 0, 0, false⟩, ⟨(some 63), .mov (t 3), none, [3], 0, 0, false⟩, ⟨(some 64), .nilCheck (t 63), none, [63], 0, 0, false⟩, ⟨(some 65), .fieldAddr 3 (t 64), none, [64], 0, 0, false⟩, ⟨(some 66), .build [N, O, O] [(0, 1, (t 65)), (1, 1, (v O)), (2, 1, (v (I 1048576)))], none, [65], 0, 0, false⟩, ⟨(some 67), .mov (t 3), none, [3], 0, 0, false⟩, ⟨(some 68), .nilCheck (t 67), none, [67], 0, 0, false⟩, ⟨(some 69), .fieldAddr 4 (t 68), none, [68], 0, 0, false⟩, ⟨(some 70), .build [N, O, O] [(0, 1, (t 69)), (1, 1, (v O)), (2, 1, (v (I 1)))], none, [69], 0, 0, false⟩, ⟨(some 71), .build [N, O, O, N, O, O, N, O, O, N, O, O, N, O, O, N, O, O, N, O, O, N, O, O, N, O, O, N, O, O, N, O, O, N, O, O, N, O, O, N, O, O, N, O, O, N, O, O] [(0, 3, (t 10)), (3, 3, (t 14)), (6, 3, (t 18)), (9, 3, (t 22)), (12, 3, (t 26)), (15, 3, (t 30)), (18, 3, (t 34)), (21, 3, (t 38)), (24, 3, (t 42)), (27, 3, (t 46)), (30, 3, (t 50)), (33, 3, (t 54)), (36, 3, (t 58)), (39, 3, (t 62)), (42, 3, (t 66)), (45, 3, (t 70))], none, [10, 14, 18, 22, 26, 30, 34, 38, 42, 46, 50, 54, 58, 62, 66, 70], 0, 0, false⟩, ⟨none, .store 48 (t 2) (t 71), none, [2, 71], 0, 1, false⟩])
 .ret)))⟩
theorem H55 : funcsOf Tryz.prog [] 55 = some k55 := by kernel_rfl
def k86 : AFn := ⟨34, [(4, none)],
 (a (r [p 4 (.mov (v O))])
 (a (a (r [p 7 (.mov (t 1)), p 8 (.lenStr (t 7)), p 9 (.bin .eql (t 8) (v O))])
 (c (t 9) (a (r [p 10 (.mov (t 0)), p 11 (.call (v (G 155)) [(t 10)]), p 12 (.bin .add (t 11) (v (I 1))), p 4 (.mov (t 12))])
 .ret) .skip))
 (a (a (r [p 13 (.mov (t 1)), p 14 (.lenStr (t 13)), p 15 (.bin .eql (t 14) (v (I 1)))])
 (c (t 15) (a (r [p 16 (.mov (t 0)), p 17 (.mov (t 1)), p 18 (.idxStr (t 17) (v O)), p 19 (.call (v (G 156)) [(t 16), (t 18)]), p 4 (.mov (t 19))])
 .ret) .skip))
 (a (r [p 5 (.mov (v O))])
 (.block 0 (.loop (.block 1 (a (r [p 20 (.mov (t 0)), p 21 (.mov (t 1)), p 22 (.call (v (G 157)) [(t 20), (t 21)]), p 6 (.mov (t 22))])
 (a (a (r [p 23 (.mov (t 6)), p 24 (.bin .eql (t 23) (v (I (-1))))])
 (c (t 24) (a (r [p 25 (.mov (t 5)), p 4 (.mov (t 25))])
 .ret) .skip))
 (a (r [p 26 (.mov (t 5)), p 27 (.bin .add (t 26) (v (I 1))), p 5 (.mov (t 27))])
 (r [p 28 (.mov (t 0)), p 29 (.mov (t 6)), p 30 (.mov (t 1)), p 31 (.lenStr (t 30)), p 32 (.bin .add (t 29) (t 31)), p 33 (.sliceStr (t 28) (some (t 32)) none), p 0 (.mov (t 33))])))))))))))⟩
theorem H86 : funcsOf Tryz.prog [] 86 = some k86 := by kernel_rfl
def k89 : AFn := ⟨12, [(2, none)],
 (a (r [p 2 (.mov (v B))])
 (a (r [p 3 (.mov (t 0)), p 4 (.eq true .ptr (t 3) (v N)), p 5 (.mov (t 4)), g 6 5 true (.mov (t 0)), g 7 5 true (.nilCheck (t 6)), g 8 5 true (.fieldAddr 0 (t 7)), g 9 5 true (.load none (t 8)), g 10 5 true (.eq true .ptr (t 9) (v N)), p 11 (.pick (t 5) (t 10) (v B)), p 2 (.mov (t 11))])
 .ret))⟩
theorem H89 : funcsOf Tryz.prog [] 89 = some k89 := by kernel_rfl
def k90 : AFn := ⟨58, [(4, none)],
 (a (r [p 4 (.mov (v O))])
 (a (r [p 7 (.mov (t 1)), p 8 (.mov (t 1)), p 9 (.lenStr (t 8)), p 10 (.mov (t 0)), p 11 (.call (v (G 176)) [(t 10)]), p 12 (.minmax false [(t 9), (t 11)]), p 13 (.sliceStr (t 7) none (some (t 12))), p 1 (.mov (t 13))])
 (a (a (r [p 14 (.mov (t 1)), p 15 (.bin .eql (t 14) (v E))])
 (c (t 15) (a (r [p 4 (.mov (v O))])
 .ret) .skip))
 (a (z [⟨(some 16), .mov (t 0), none, [0], 0, 0, false⟩, ⟨(some 17), .nilCheck (t 16), none, [16], 0, 0, false⟩, ⟨(some 18), .fieldAddr 1 (t 17), none, [17], 0, 0, false⟩, ⟨(some 19), .load none (t 18), none, [18], 0, 0, false⟩, ⟨(some 20), .mov (t 0), none, [0], 0, 0, false⟩, ⟨(some 21), .nilCheck (t 20), none, [20], 0, 0, false⟩, ⟨(some 22), .fieldAddr 2 (t 21), none, [21], 0, 0, false⟩, ⟨(some 23), .load none (t 22), none, [22], 0, 0, false⟩, ⟨(some 24), .bin .add (t 19) (t 23), none, [19, 23], 0, 0, false⟩, ⟨(some 25), .mov (t 0), none, [0], 0, 0, false⟩, ⟨(some 26), .nilCheck (t 25), none, [25], 0, 0, false⟩, ⟨(some 27), .fieldAddr 0 (t 26), none, [26], 0, 0, false⟩, ⟨(some 28), .load none (t 27), none, [27], 0, 0, false⟩, ⟨(some 29), .lenSlice (t 28), none, [28], 0, 0, false⟩, ⟨(some 30), .bin .rem (t 24) (t 29), none, [24, 29], 0, 0, false⟩, ⟨(some 5), .mov (t 30), none, [30], 0, 0, false⟩])
 (a (r [p 31 (.mov (t 0)), p 32 (.nilCheck (t 31)), p 33 (.fieldAddr 0 (t 32)), p 34 (.load none (t 33)), p 35 (.mov (t 5)), p 36 (.slice 1 (t 34) (some (t 35)) none none), p 37 (.mov (t 1)), p 38 (.copy 1 (t 36) (t 37)), p 6 (.mov (t 38))])
 (a (z [⟨(some 39), .mov (t 0), none, [0], 0, 0, false⟩, ⟨(some 40), .nilCheck (t 39), none, [39], 0, 0, false⟩, ⟨(some 41), .fieldAddr 0 (t 40), none, [40], 0, 0, false⟩, ⟨(some 42), .load none (t 41), none, [41], 0, 0, false⟩, ⟨(some 43), .mov (t 1), none, [1], 0, 0, false⟩, ⟨(some 44), .mov (t 6), none, [6], 0, 0, false⟩, ⟨(some 45), .sliceStr (t 43) (some (t 44)) none, none, [43, 44], 0, 0, false⟩, ⟨(some 46), .copy 1 (t 42) (t 45), none, [42, 45], 0, 1, false⟩])
 (a (r [p 47 (.mov (t 0)), p 48 (.nilCheck (t 47)), p 49 (.fieldAddr 2 (t 48)), p 50 (.load none (t 49)), p 51 (.mov (t 1)), p 52 (.lenStr (t 51)), p 53 (.bin .add (t 50) (t 52)), p 54 (.nilCheck (t 47)), p 55 (.fieldAddr 2 (t 54)), q (.store 1 (t 55) (t 53))])
 (a (r [p 56 (.mov (t 1)), p 57 (.lenStr (t 56)), p 4 (.mov (t 57))])
 .ret))))))))⟩
theorem H90 : funcsOf Tryz.prog [] 90 = some k90 := by kernel_rfl
def k91 : AFn := ⟨37, [(4, none)],
 (a (r [p 4 (.mov (v E))])
 (a (r [p 6 (.mov (t 0)), p 7 (.mov (t 1)), p 8 (.call (v (G 177)) [(t 6), (t 7)]), p 5 (.mov (t 8))])
 (a (a (r [p 9 (.mov (t 5)), p 10 (.bin .neq (t 9) (v E))])
 (c (t 10) (a (z [⟨(some 11), .mov (t 0), none, [0], 0, 0, false⟩, ⟨(some 12), .mov (t 0), none, [0], 0, 0, false⟩, ⟨(some 13), .nilCheck (t 12), none, [12], 0, 0, false⟩, ⟨(some 14), .fieldAddr 1 (t 13), none, [13], 0, 0, false⟩, ⟨(some 15), .load none (t 14), none, [14], 0, 0, false⟩, ⟨(some 16), .mov (t 5), none, [5], 0, 0, false⟩, ⟨(some 17), .lenStr (t 16), none, [16], 0, 0, false⟩, ⟨(some 18), .bin .add (t 15) (t 17), none, [15, 17], 0, 0, false⟩, ⟨(some 19), .mov (t 0), none, [0], 0, 0, false⟩, ⟨(some 20), .nilCheck (t 19), none, [19], 0, 0, false⟩, ⟨(some 21), .fieldAddr 0 (t 20), none, [20], 0, 0, false⟩, ⟨(some 22), .load none (t 21), none, [21], 0, 0, false⟩, ⟨(some 23), .lenSlice (t 22), none, [22], 0, 0, false⟩, ⟨(some 24), .bin .rem (t 18) (t 23), none, [18, 23], 0, 0, false⟩, ⟨(some 25), .nilCheck (t 11), none, [11], 0, 0, false⟩, ⟨(some 26), .fieldAddr 1 (t 25), none, [25], 0, 0, false⟩, ⟨none, .store 1 (t 26) (t 24), none, [26, 24], 0, 1, false⟩])
 (r [p 27 (.mov (t 0)), p 28 (.nilCheck (t 27)), p 29 (.fieldAddr 2 (t 28)), p 30 (.load none (t 29)), p 31 (.mov (t 5)), p 32 (.lenStr (t 31)), p 33 (.bin .sub (t 30) (t 32)), p 34 (.nilCheck (t 27)), p 35 (.fieldAddr 2 (t 34)), q (.store 1 (t 35) (t 33))])) .skip))
 (a (r [p 36 (.mov (t 5)), p 4 (.mov (t 36))])
 .ret))))⟩
theorem H91 : funcsOf Tryz.prog [] 91 = some k91 := by kernel_rfl
def k92 : AFn := ⟨19, [],
 (z [⟨(some 2), .mov (t 0), none, [0], 0, 1, false⟩, ⟨(some 3), .mov (t 0), none, [0], 0, 1, false⟩, ⟨(some 4), .nilCheck (t 3), none, [3], 0, 1, false⟩, ⟨(some 5), .fieldAddr 2 (t 4), none, [4], 0, 1, false⟩, ⟨(some 6), .load none (t 5), none, [5], 0, 1, false⟩, ⟨(some 7), .mov (t 0), none, [0], 0, 0, false⟩, ⟨(some 8), .nilCheck (t 7), none, [7], 0, 0, false⟩, ⟨(some 9), .fieldAddr 1 (t 8), none, [8], 0, 0, false⟩, ⟨(some 10), .load none (t 9), none, [9], 0, 0, false⟩, ⟨(some 11), .mov (t 0), none, [0], 0, 0, false⟩, ⟨(some 12), .nilCheck (t 11), none, [11], 0, 0, false⟩, ⟨(some 13), .fieldAddr 2 (t 12), none, [12], 0, 0, false⟩, ⟨(some 14), .load none (t 13), none, [13], 0, 0, false⟩, ⟨(some 15), .call (v (G 90)) [(t 10), (t 14)], none, [10, 14], 0, 1, false⟩, ⟨(some 16), .sliceStr (t 6) (some (t 15)) none, none, [6, 15], 1, 1, false⟩, ⟨(some 17), .nilCheck (t 2), none, [2], 1, 1, false⟩, ⟨(some 18), .fieldAddr 2 (t 17), none, [17], 1, 1, false⟩, ⟨none, .store 1 (t 18) (t 16), none, [18, 16], 1, 2, false⟩])⟩
theorem H92 : funcsOf Tryz.prog [] 92 = some k92 := by kernel_rfl
def k93 : AFn := ⟨33, [(4, none), (5, none)],
 (a (r [p 4 (.mov (v L)), p 5 (.mov (v B))])
 (a (r [p 8 (.mov (t 0)), p 9 (.mov (t 1)), p 10 (.call (v (G 179)) [(t 9)]), p 11 (.call (v (G 178)) [(t 8), (t 10)]), p 7 (.mov (t 11)), p 12 (.extract (t 7) 0), p 13 (.extract (t 7) 1), p 6 (.mov (t 12)), p 4 (.mov (t 13))])
 (a (r [p 14 (.mov (t 1)), p 15 (.mov (t 6)), p 16 (.call (v (G 180)) [(t 14), (t 15)])])
 (a (a (r [p 17 (.mov (t 6)), p 18 (.bin .gtr (t 17) (v O)), p 19 (.mov (t 18)), g 20 19 false (.mov (t 4)), g 21 19 false (.lenSlice (t 20)), g 22 19 false (.bin .gtr (t 21) (v O)), p 23 (.pick (t 19) (v Y) (t 22))])
 (c (t 23) (a (r [p 24 (.mov (t 4)), p 4 (.mov (t 24)), p 5 (.mov (v Y))])
 .ret) .skip))
 (a (a (r [p 25 (.mov (t 1)), p 26 (.call (v (G 94)) [(t 25)])])
 (c (t 26) (r [p 27 (.mov (t 0)), p 28 (.call (v (G 181)) [(t 27)]), p 4 (.mov (t 28))]) .skip))
 (a (r [p 29 (.mov (t 4)), p 30 (.mov (t 4)), p 31 (.lenSlice (t 30)), p 32 (.bin .gtr (t 31) (v O)), p 4 (.mov (t 29)), p 5 (.mov (t 32))])
 .ret))))))⟩
theorem H93 : funcsOf Tryz.prog [] 93 = some k93 := by kernel_rfl
def k94 : AFn := ⟨19, [(2, none)],
 (a (r [p 2 (.mov (v B))])
 (a (r [p 3 (.mov (t 0)), p 4 (.call (v (G 89)) [(t 3)]), p 5 (.mov (t 4)), g 6 5 true (.mov (t 0)), g 7 5 true (.nilCheck (t 6)), g 8 5 true (.fieldAddr 3 (t 7)), g 9 5 true (.load none (t 8)), p 10 (.pick (t 5) (t 9) (v B)), p 11 (.mov (t 10)), g 12 11 true (.mov (t 0)), g 13 11 true (.nilCheck (t 12)), g 14 11 true (.fieldAddr 0 (t 13)), g 15 11 true (.load none (t 14)), g 16 11 true (.call (v (G 182)) [(t 15)]), g 17 11 true (.bin .eql (t 16) (v O)), p 18 (.pick (t 11) (t 17) (v B)), p 2 (.mov (t 18))])
 .ret))⟩
theorem H94 : funcsOf Tryz.prog [] 94 = some k94 := by kernel_rfl
def k95 : AFn := ⟨32, [],
 (a (r [p 11 (.mov (t 1)), p 12 (.lenSlice (t 11)), p 13 (.mov (v O))])
 (.block 0 (.loop (a (r [p 14 (.bin .lss (t 13) (t 12))])
 (a (c (t 14) .skip (.exit 0))
 (a (.block 1 (a (r [p 15 (.idxAddr 3 (t 11) (t 13)), p 16 (.load (some 3) (t 15)), p 9 (.alloc [O, O, E] 152), q (.store 3 (t 9) (t 16))])
 (a (r [p 10 (.mov (v O))])
 (a (a (r [p 17 (.fieldAddr 0 (t 9)), p 18 (.load none (t 17)), p 19 (.bin .eql (t 18) (v (I 5)))])
 (c (t 19) (r [p 20 (.fieldAddr 1 (t 9)), p 21 (.load none (t 20)), p 10 (.mov (t 21))]) (r [p 22 (.mov (t 3)), p 23 (.load (some 3) (t 9)), p 24 (.call (t 22) [(t 23)]), p 10 (.mov (t 24))])))
 (a (r [p 25 (.mov (t 10)), p 26 (.bin .neq (t 25) (v O))])
 (c (t 26) (a (r [p 27 (.mov (t 0)), p 28 (.mov (t 2)), p 29 (.mov (t 10)), p 30 (.call (v (G 50)) [(t 27), (t 28), (t 29)])])
 .ret) .skip))))))
 (r [p 31 (.bin .add (t 13) (v (I 1))), p 13 (.mov (t 31))])))))))⟩
theorem H95 : funcsOf Tryz.prog [] 95 = some k95 := by kernel_rfl
def k96 : AFn := ⟨6, [(3, none)],
 (a (r [p 2 (.box 3 152 (t 0)), p 3 (.mov (v O))])
 (a (r [p 4 (.load none (t 1)), p 5 (.call (v (G 97)) [(t 4)]), p 3 (.mov (t 5))])
 .ret))⟩
theorem H96 : funcsOf Tryz.prog [] 96 = some k96 := by kernel_rfl
def k97 : AFn := ⟨110, [(2, none)],
 (a (r [p 2 (.mov (v O))])
 (a (r [p 5 (.mov (t 0)), p 6 (.mov (t 0)), p 7 (.nilCheck (t 6)), p 8 (.fieldAddr 37 (t 7)), p 9 (.load none (t 8)), p 10 (.call (v (G 115)) [(t 9)]), p 11 (.build [E, E, O, O, E, L, O, O, B, O, N, B, B, B, O] [(0, 6, (t 10))]), p 12 (.nilCheck (t 5)), p 13 (.fieldAddr 0 (t 12)), q (.store 15 (t 13) (t 11))])
 (a (a (z [⟨(some 14), .mov (t 0), none, [0], 0, 0, false⟩, ⟨(some 15), .nilCheck (t 14), none, [14], 0, 0, false⟩, ⟨(some 16), .fieldAddr 0 (t 15), none, [15], 0, 0, false⟩, ⟨(some 17), .fieldAddr 0 (t 16), none, [16], 0, 0, false⟩, ⟨(some 18), .load (some 6) (t 17), none, [17], 0, 0, false⟩, ⟨(some 19), .mov (t 0), none, [0], 0, 0, false⟩, ⟨(some 20), .nilCheck (t 19), none, [19], 0, 0, false⟩, ⟨(some 21), .fieldAddr 15 (t 20), none, [20], 0, 0, false⟩, ⟨(some 22), .load (some 18) (t 21), none, [21], 0, 0, false⟩, ⟨(some 23), .call (v (G 183)) [(t 18), (t 22)], none, [18, 22], 0, 1, false⟩, ⟨(some 3), .mov (t 23), none, [23], 1, 1, false⟩])
 (a (r [p 24 (.mov (t 3)), p 25 (.bin .neq (t 24) (v O))])
 (c (t 25) (a (r [p 26 (.mov (t 3)), p 2 (.mov (t 26))])
 .ret) .skip)))
 (a (r [p 27 (.mov (t 0)), p 28 (.nilCheck (t 27)), p 29 (.fieldAddr 37 (t 28)), p 30 (.load none (t 29)), p 31 (.call (v (G 184)) [(t 30)]), p 4 (.alloc [O, O] 76), q (.store 2 (t 4) (t 31))])
 (a (z [⟨(some 32), .mov (t 0), none, [0], 0, 1, false⟩, ⟨(some 33), .load (some 2) (t 4), none, [4], 0, 0, false⟩, ⟨(some 34), .mov (t 0), none, [0], 0, 0, false⟩, ⟨(some 35), .nilCheck (t 34), none, [34], 0, 0, false⟩, ⟨(some 36), .fieldAddr 15 (t 35), none, [35], 0, 0, false⟩, ⟨(some 37), .load (some 18) (t 36), none, [36], 0, 0, false⟩, ⟨(some 38), .call (v (G 185)) [(t 33), (t 37)], none, [33, 37], 0, 1, false⟩, ⟨(some 39), .nilCheck (t 32), none, [32], 1, 1, false⟩, ⟨(some 40), .fieldAddr 0 (t 39), none, [39], 1, 1, false⟩, ⟨(some 41), .fieldAddr 6 (t 40), none, [40], 1, 1, false⟩, ⟨none, .store 4 (t 41) (t 38), none, [41, 38], 1, 2, false⟩])
 (a (z [⟨(some 42), .mov (t 0), none, [0], 0, 1, false⟩, ⟨(some 43), .mov (t 0), none, [0], 0, 0, false⟩, ⟨(some 44), .nilCheck (t 43), none, [43], 0, 0, false⟩, ⟨(some 45), .fieldAddr 0 (t 44), none, [44], 0, 0, false⟩, ⟨(some 46), .fieldAddr 6 (t 45), none, [45], 0, 0, false⟩, ⟨(some 47), .load (some 4) (t 46), none, [46], 0, 0, false⟩, ⟨(some 48), .mov (t 0), none, [0], 0, 0, false⟩, ⟨(some 49), .nilCheck (t 48), none, [48], 0, 0, false⟩, ⟨(some 50), .fieldAddr 15 (t 49), none, [49], 0, 0, false⟩, ⟨(some 51), .fieldAddr 13 (t 50), none, [50], 0, 0, false⟩, ⟨(some 52), .fieldAddr 3 (t 51), none, [51], 0, 0, false⟩, ⟨(some 53), .load none (t 52), none, [52], 0, 0, false⟩, ⟨(some 54), .mov (t 0), none, [0], 0, 0, false⟩, ⟨(some 55), .nilCheck (t 54), none, [54], 0, 0, false⟩, ⟨(some 56), .fieldAddr 15 (t 55), none, [55], 0, 0, false⟩, ⟨(some 57), .fieldAddr 4 (t 56), none, [56], 0, 0, false⟩, ⟨(some 58), .load none (t 57), none, [57], 0, 0, false⟩, ⟨(some 59), .call (v (G 186)) [(t 47), (t 53), (t 58)], none, [47, 53, 58], 0, 1, false⟩, ⟨(some 60), .nilCheck (t 42), none, [42], 1, 1, false⟩, ⟨(some 61), .fieldAddr 0 (t 60), none, [60], 1, 1, false⟩, ⟨(some 62), .fieldAddr 10 (t 61), none, [61], 1, 1, false⟩, ⟨none, .store 1 (t 62) (t 59), none, [62, 59], 1, 2, false⟩])
 (a (z [⟨(some 63), .mov (t 0), none, [0], 0, 1, false⟩, ⟨(some 64), .mov (t 0), none, [0], 0, 0, false⟩, ⟨(some 65), .nilCheck (t 64), none, [64], 0, 0, false⟩, ⟨(some 66), .fieldAddr 0 (t 65), none, [65], 0, 0, false⟩, ⟨(some 67), .fieldAddr 0 (t 66), none, [66], 0, 0, false⟩, ⟨(some 68), .load (some 6) (t 67), none, [67], 0, 0, false⟩, ⟨(some 69), .load (some 2) (t 4), none, [4], 0, 0, false⟩, ⟨(some 70), .call (v (G 187)) [(t 68), (t 69)], none, [68, 69], 0, 1, false⟩, ⟨(some 71), .nilCheck (t 63), none, [63], 1, 1, false⟩, ⟨(some 72), .fieldAddr 0 (t 71), none, [71], 1, 1, false⟩, ⟨(some 73), .fieldAddr 11 (t 72), none, [72], 1, 1, false⟩, ⟨none, .store 1 (t 73) (t 70), none, [73, 70], 1, 2, false⟩])
 (a (a (r [p 74 (.mov (t 0)), p 75 (.nilCheck (t 74)), p 76 (.fieldAddr 0 (t 75)), p 77 (.fieldAddr 11 (t 76)), p 78 (.load none (t 77)), p 79 (.mov (t 78)), g 80 79 true (.mov (t 0)), g 81 79 true (.nilCheck (t 80)), g 82 79 true (.fieldAddr 15 (t 81)), g 83 79 true (.fieldAddr 2 (t 82)), g 84 79 true (.load none (t 83)), g 85 79 true (.bin .eql (t 84) (v O)), p 86 (.pick (t 79) (t 85) (v B))])
 (c (t 86) (a (z [⟨(some 87), .mov (t 0), none, [0], 0, 2, false⟩, ⟨(some 88), .nilCheck (t 87), none, [87], 0, 2, false⟩, ⟨(some 89), .fieldAddr 33 (t 88), none, [88], 0, 2, false⟩, ⟨(some 90), .load none (t 89), none, [89], 0, 2, false⟩, ⟨(some 91), .call (v (G 188)) [(v (I 1))], none, [], 0, 1, false⟩, ⟨(some 92), .call (v (G 108)) [(t 91)], none, [91], 1, 2, false⟩, ⟨(some 93), .call (v (G 107)) [(t 90), (t 92)], none, [90, 92], 2, 3, false⟩])
 (r [p 94 (.mov (t 0)), p 95 (.nilCheck (t 94)), p 96 (.fieldAddr 0 (t 95)), p 97 (.fieldAddr 11 (t 96)), q (.store 1 (t 97) (v B))])) .skip))
 (a (r [p 98 (.mov (t 0)), p 99 (.nilCheck (t 98)), p 100 (.fieldAddr 39 (t 99)), q (.store 1 (t 100) (v (I 3)))])
 (a (a (r [p 101 (.mov (t 0)), p 102 (.nilCheck (t 101)), p 103 (.fieldAddr 0 (t 102)), p 104 (.fieldAddr 6 (t 103)), p 105 (.fieldAddr 2 (t 104)), p 106 (.load none (t 105))])
 (c (t 106) (r [p 107 (.mov (t 0)), p 108 (.nilCheck (t 107)), p 109 (.fieldAddr 39 (t 108)), q (.store 1 (t 109) (v (I 2)))]) .skip))
 (a (r [p 2 (.mov (v O))])
 .ret)))))))))))⟩
theorem H97 : funcsOf Tryz.prog [] 97 = some k97 := by kernel_rfl
def k99 : AFn := ⟨68, [(6, none), (7, none)],
 (a (r [p 4 (.box 3 152 (t 1)), p 6 (.mov (v E)), p 7 (.mov (v O))])
 (a (.block 0 (a (r [p 10 (.mov (t 0)), p 11 (.eq false .ptr (t 10) (v N)), p 12 (.mov (t 11)), g 13 12 false (.mov (t 0)), g 14 12 false (.nilCheck (t 13)), g 15 12 false (.fieldAddr 0 (t 14)), g 16 12 false (.load none (t 15)), g 17 12 false (.eq false .iface (t 16) (v .nilIface)), p 18 (.pick (t 12) (v Y) (t 17)), p 9 (.mov (t 18))])
 (c (t 9) (a (r [p 6 (.mov (v E)), p 7 (.mov (v (I 1)))])
 .ret) (a (r [p 20 (.mov (t 0)), p 21 (.nilCheck (t 20)), p 22 (.fieldAddr 2 (t 21)), p 23 (.load none (t 22)), p 24 (.mov (t 23)), g 25 24 false (.mov (t 0)), g 26 24 false (.nilCheck (t 25)), g 27 24 false (.fieldAddr 3 (t 26)), g 28 24 false (.load none (t 27)), g 29 24 false (.bin .neq (t 28) (v O)), p 30 (.pick (t 24) (v Y) (t 29)), p 19 (.mov (t 30))])
 (c (t 19) (a (z [⟨(some 31), .mov (t 0), none, [0], 0, 0, false⟩, ⟨(some 32), .nilCheck (t 31), none, [31], 0, 0, false⟩, ⟨(some 33), .fieldAddr 3 (t 32), none, [32], 0, 0, false⟩, ⟨(some 34), .load none (t 33), none, [33], 0, 0, false⟩, p 6 (.mov (v E)), ⟨(some 7), .mov (t 34), none, [34], 0, 0, false⟩])
 .ret) .skip)))))
 (a (r [p 8 (.mov (v E))])
 (a (a (r [p 35 (.fieldAddr 0 (t 4)), p 36 (.load none (t 35))])
 (.block 1 (a (r [p 38 (.bin .eql (t 36) (v (I 2))), p 37 (.mov (t 38))])
 (c (t 37) (r [p 39 (.mov (t 0)), p 40 (.fieldAddr 1 (t 4)), p 41 (.load none (t 40)), p 42 (.call (v (G 189)) [(t 39), (t 41)]), p 8 (.mov (t 42))]) (a (r [p 44 (.bin .eql (t 36) (v (I 3))), p 43 (.mov (t 44))])
 (c (t 43) (z [⟨(some 46), .mov (t 0), none, [0], 0, 1, false⟩, ⟨(some 47), .mov (t 0), none, [0], 0, 0, false⟩, ⟨(some 48), .nilCheck (t 47), none, [47], 0, 0, false⟩, ⟨(some 49), .fieldAddr 0 (t 48), none, [48], 0, 0, false⟩, ⟨(some 50), .load none (t 49), none, [49], 0, 0, false⟩, ⟨(some 51), .fieldAddr 2 (t 4), none, [4], 0, 0, false⟩, ⟨(some 52), .load none (t 51), none, [51], 0, 0, false⟩, ⟨(some 53), .invoke (t 50) "abutment/relay.data" [(t 52)], none, [50, 52], 0, 1, false⟩, ⟨(some 45), .mov (t 53), none, [53], 1, 1, false⟩, ⟨(some 54), .extract (t 45) 0, none, [45], 1, 1, false⟩, ⟨(some 55), .extract (t 45) 1, none, [45], 1, 1, false⟩, ⟨(some 8), .mov (t 54), none, [54], 1, 1, false⟩, ⟨(some 56), .nilCheck (t 46), none, [46], 1, 1, false⟩, ⟨(some 57), .fieldAddr 3 (t 56), none, [56], 1, 1, false⟩, ⟨none, .store 1 (t 57) (t 55), none, [57, 55], 1, 2, false⟩]) (a (r [p 59 (.bin .eql (t 36) (v (I 4))), p 58 (.mov (t 59))])
 (c (t 58) (r [p 60 (.mov (t 0)), p 61 (.mov (t 2)), p 62 (.call (v (G 190)) [(t 60), (t 61)]), p 8 (.mov (t 62))]) .skip))))))))
 (a (z [⟨(some 63), .mov (t 8), none, [8], 0, 0, false⟩, ⟨(some 64), .mov (t 0), none, [0], 0, 0, false⟩, ⟨(some 65), .nilCheck (t 64), none, [64], 0, 0, false⟩, ⟨(some 66), .fieldAddr 3 (t 65), none, [65], 0, 0, false⟩, ⟨(some 67), .load none (t 66), none, [66], 0, 0, false⟩, ⟨(some 6), .mov (t 63), none, [63], 0, 0, false⟩, ⟨(some 7), .mov (t 67), none, [67], 0, 0, false⟩])
 .ret)))))⟩
theorem H99 : funcsOf Tryz.prog [] 99 = some k99 := by kernel_rfl
def k100 : AFn := ⟨11, [(2, none)],
 (a (r [p 2 (.mov (v L))])
 (a (a (r [p 3 (.mov (t 0)), p 4 (.eq false .ptr (t 3) (v N))])
 (c (t 4) (a (r [p 2 (.mov (v L))])
 .ret) .skip))
 (a (r [p 5 (.mov (t 0)), p 6 (.nilCheck (t 5)), p 7 (.fieldAddr 0 (t 6)), p 8 (.fieldAddr 8 (t 7)), p 9 (.load none (t 8)), p 10 (.call (v (G 191)) [(t 9)]), p 2 (.mov (t 10))])
 .ret)))⟩
theorem H100 : funcsOf Tryz.prog [] 100 = some k100 := by kernel_rfl
def k101 : AFn := ⟨34, [(2, none)],
 (a (r [p 2 (.mov (v E))])
 (a (z [⟨(some 6), .mov (t 0), none, [0], 0, 1, false⟩, ⟨(some 7), .nilCheck (t 6), none, [6], 0, 1, false⟩, ⟨(some 8), .fieldAddr 0 (t 7), none, [7], 0, 1, false⟩, ⟨(some 9), .fieldAddr 0 (t 8), none, [8], 0, 1, false⟩, ⟨(some 10), .fieldAddr 0 (t 9), none, [9], 0, 1, false⟩, ⟨(some 11), .load none (t 10), none, [10], 0, 1, false⟩, ⟨(some 12), .mov (t 0), none, [0], 0, 1, false⟩, ⟨(some 13), .nilCheck (t 12), none, [12], 0, 1, false⟩, ⟨(some 14), .fieldAddr 0 (t 13), none, [13], 0, 1, false⟩, ⟨(some 15), .fieldAddr 0 (t 14), none, [14], 0, 1, false⟩, ⟨(some 16), .fieldAddr 1 (t 15), none, [15], 0, 1, false⟩, ⟨(some 17), .load none (t 16), none, [16], 0, 1, false⟩, ⟨(some 18), .call (v (G 192)) [(t 11), (t 17)], none, [11, 17], 0, 2, false⟩, ⟨(some 5), .mov (t 18), none, [18], 1, 2, false⟩, ⟨(some 19), .extract (t 5) 0, none, [5], 1, 2, false⟩, ⟨(some 20), .extract (t 5) 1, none, [5], 1, 3, false⟩, ⟨(some 3), .alloc [O, E, E] 245, none, [], 0, 2, true⟩, ⟨none, .store 3 (t 3) (t 19), none, [3, 19], 1, 3, false⟩, ⟨(some 4), .mov (t 20), none, [20], 2, 3, false⟩])
 (a (z [⟨(some 21), .mov (t 0), none, [0], 0, 0, false⟩, ⟨(some 22), .nilCheck (t 21), none, [21], 0, 0, false⟩, ⟨(some 23), .fieldAddr 0 (t 22), none, [22], 0, 0, false⟩, ⟨(some 24), .fieldAddr 0 (t 23), none, [23], 0, 0, false⟩, ⟨(some 25), .fieldAddr 5 (t 24), none, [24], 0, 0, false⟩, ⟨(some 26), .load none (t 25), none, [25], 0, 0, false⟩, ⟨(some 27), .load (some 3) (t 3), none, [3], 0, 0, false⟩, ⟨(some 28), .mov (t 0), none, [0], 0, 0, false⟩, ⟨(some 29), .nilCheck (t 28), none, [28], 0, 0, false⟩, ⟨(some 30), .fieldAddr 15 (t 29), none, [29], 0, 0, false⟩, ⟨(some 31), .fieldAddr 1 (t 30), none, [30], 0, 0, false⟩, ⟨(some 32), .load none (t 31), none, [31], 0, 0, false⟩, ⟨(some 33), .call (v (G 193)) [(t 26), (t 27), (t 32)], none, [26, 27, 32], 0, 1, false⟩, ⟨(some 2), .mov (t 33), none, [33], 1, 1, false⟩])
 .ret)))⟩
theorem H101 : funcsOf Tryz.prog [] 101 = some k101 := by kernel_rfl
def k104 : AFn := ⟨55, [(10, (some (some 6)))],
 (a (r [p 5 (.box 6 74 (t 0)), p 6 (.box 2 76 (t 1)), p 7 (.box 1 4 (t 2)), p 8 (.box 18 25 (t 3)), p 9 (.box 1 3 (t 4)), p 10 (.alloc [E, E, O, O, E, L] 74)])
 (a (a (r [p 16 (.load (some 6) (t 5)), p 17 (.load (some 18) (t 8)), p 18 (.call (v (G 183)) [(t 16), (t 17)]), p 19 (.bin .neq (t 18) (v O))])
 (c (t 19) (a (r [p 20 (.build [E, E, O, O, E, L] []), q (.store 6 (t 10) (t 20))])
 .ret) .skip))
 (a (r [p 21 (.load (some 6) (t 5)), p 22 (.call (v (G 195)) [(t 21)]), p 11 (.alloc [O, E, E] 245), q (.store 3 (t 11) (t 22))])
 (a (z [⟨(some 23), .mkFunc (.func 199) [] [(t 7)], none, [7], 0, 2, false⟩, ⟨(some 24), .mkFunc (.func 201) [] [(t 11), (t 8)], none, [11, 8], 0, 2, false⟩, ⟨(some 25), .mkFunc (.func 203) [] [(t 9)], none, [9], 0, 2, false⟩, ⟨(some 26), .mkFunc (.func 205) [] [(t 5), (t 8)], none, [5, 8], 0, 2, false⟩, ⟨(some 27), .mkFunc (.func 207) [] [(t 5), (t 8)], none, [5, 8], 0, 2, false⟩, ⟨(some 28), .load (some 2) (t 6), none, [6], 0, 0, false⟩, ⟨(some 29), .call (v (G 209)) [(t 28)], none, [28], 0, 1, false⟩, ⟨(some 30), .load (some 18) (t 8), none, [8], 0, 1, false⟩, ⟨(some 31), .call (v (G 210)) [(t 30)], none, [30], 1, 2, false⟩, ⟨(some 32), .buildSlice [.nilFunc] 261 9 [(0, 1, (v (G 196))), (1, 1, (v (G 197))), (2, 1, (t 23)), (3, 1, (t 24)), (4, 1, (t 25)), (5, 1, (t 26)), (6, 1, (t 27)), (7, 1, (t 29)), (8, 1, (t 31))], none, [23, 24, 25, 26, 27, 29, 31], 2, 3, false⟩, ⟨(some 12), .mov (t 32), none, [32], 3, 3, false⟩])
 (a (r [p 33 (.fieldAddr 5 (t 5)), p 34 (.load none (t 33)), p 13 (.mov (t 34))])
 (a (a (r [p 35 (.mov (t 12)), p 36 (.lenSlice (t 35)), p 37 (.mov (v O))])
 (.block 0 (.loop (a (r [p 38 (.bin .lss (t 37) (t 36))])
 (a (c (t 38) .skip (.exit 0))
 (a (.block 1 (a (r [p 39 (.idxAddr 1 (t 35) (t 37)), p 40 (.load none (t 39)), p 15 (.mov (t 40))])
 (r [p 41 (.mov (t 15)), p 42 (.mov (t 13)), p 43 (.call (t 41) [(t 42)]), p 13 (.mov (t 43))])))
 (r [p 44 (.bin .add (t 37) (v (I 1))), p 37 (.mov (t 44))])))))))
 (a (z [⟨(some 45), .fieldAddr 0 (t 5), none, [5], 0, 1, false⟩, ⟨(some 46), .load none (t 45), none, [45], 0, 1, false⟩, ⟨(some 47), .fieldAddr 0 (t 5), none, [5], 0, 0, false⟩, ⟨(some 48), .load none (t 47), none, [47], 0, 0, false⟩, ⟨(some 49), .load (some 3) (t 11), none, [11], 0, 0, false⟩, ⟨(some 50), .call (v (G 211)) [(t 48), (t 49)], none, [48, 49], 0, 1, false⟩, ⟨(some 51), .fieldAddr 2 (t 8), none, [8], 0, 1, false⟩, ⟨(some 52), .load none (t 51), none, [51], 0, 1, false⟩, ⟨(some 53), .mov (t 13), none, [13], 0, 1, false⟩, ⟨(some 54), .build [E, E, O, O, E, L] [(0, 1, (t 46)), (1, 1, (t 50)), (2, 1, (t 52)), (5, 1, (t 53))], none, [46, 50, 52, 53], 1, 1, false⟩, ⟨none, .store 6 (t 10) (t 54), none, [10, 54], 1, 2, false⟩])
 .ret)))))))⟩
theorem H104 : funcsOf Tryz.prog [] 104 = some k104 := by kernel_rfl
def k105 : AFn := ⟨14, [(4, none)],
 (a (r [p 2 (.box 1 72 (t 0)), p 4 (.mov (v L))])
 (a (r [p 6 (.load none (t 2)), p 7 (.call (v (G 212)) [(t 6), (v (G 213))]), p 5 (.mov (t 7))])
 (a (r [p 8 (.mov (t 5)), p 9 (.mov (t 1)), p 10 (.call (v (G 214)) [(t 9)]), p 11 (.mkFunc (.func 215) [] [(t 2)]), p 12 (.call (v (G 212)) [(t 10), (t 11)]), p 13 (.append 243 2 32 (t 8) (t 12)), p 4 (.mov (t 13))])
 .ret)))⟩
theorem H105 : funcsOf Tryz.prog [] 105 = some k105 := by kernel_rfl
def k106 : AFn := ⟨11, [(2, none)],
 (a (r [p 2 (.mov (v L))])
 (a (a (r [p 3 (.mov (t 0)), p 4 (.call (v (G 194)) [(t 3)]), p 5 (.un .not (t 4))])
 (c (t 5) (a (r [p 2 (.mov (v L))])
 .ret) .skip))
 (a (r [p 6 (.mov (t 0)), p 7 (.nilCheck (t 6)), p 8 (.fieldAddr 4 (t 7)), p 9 (.load none (t 8)), p 10 (.call (v (G 191)) [(t 9)]), p 2 (.mov (t 10))])
 .ret)))⟩
theorem H106 : funcsOf Tryz.prog [] 106 = some k106 := by kernel_rfl
def k107 : AFn := ⟨23, [],
 (a (r [p 4 (.mov (t 0)), p 5 (.call (v (G 89)) [(t 4)]), p 6 (.mov (t 5)), g 7 6 true (.mov (t 0)), g 8 6 true (.nilCheck (t 7)), g 9 6 true (.fieldAddr 4 (t 8)), g 10 6 true (.load none (t 9)), g 11 6 true (.un .not (t 10)), p 12 (.pick (t 6) (t 11) (v B))])
 (c (t 12) (a (r [p 13 (.mov (t 0)), p 14 (.nilCheck (t 13)), p 15 (.fieldAddr 2 (t 14)), p 16 (.load none (t 15)), p 17 (.mov (t 1)), p 18 (.bin .add (t 16) (t 17)), p 19 (.nilCheck (t 13)), p 20 (.fieldAddr 2 (t 19)), q (.store 1 (t 20) (t 18))])
 (r [p 21 (.mov (t 0)), p 22 (.call (v (G 92)) [(t 21)])])) .skip))⟩
theorem H107 : funcsOf Tryz.prog [] 107 = some k107 := by kernel_rfl
def k108 : AFn := ⟨26, [(2, none)],
 (a (r [p 1 (.box 6 74 (t 0)), p 2 (.mov (v E))])
 (a (r [p 3 (.mov (v (G 217)))])
 (a (r [p 4 (.alloc [N, L] 186)])
 (a (r [p 7 (.load (some 6) (t 1)), p 8 (.call (v (G 218)) [(t 7)]), p 9 (.bin .add (t 8) (v (S [13, 10]))), p 10 (.call (v (G 142)) [(t 4), (t 9)])])
 (a (a (r [p 11 (.fieldAddr 5 (t 1)), p 12 (.load none (t 11)), p 13 (.lenSlice (t 12)), p 14 (.mov (v O))])
 (.block 0 (.loop (a (r [p 15 (.bin .lss (t 14) (t 13))])
 (a (c (t 15) .skip (.exit 0))
 (a (.block 1 (a (r [p 16 (.idxAddr 2 (t 12) (t 14)), p 17 (.load (some 2) (t 16)), p 6 (.alloc [E, E] 243), q (.store 2 (t 6) (t 17))])
 (r [p 18 (.mov (t 3)), p 19 (.load (some 2) (t 6)), p 20 (.call (t 18) [(t 19)]), p 21 (.bin .add (t 20) (v (S [13, 10]))), p 22 (.call (v (G 142)) [(t 4), (t 21)])])))
 (r [p 23 (.bin .add (t 14) (v (I 1))), p 14 (.mov (t 23))])))))))
 (a (r [p 24 (.call (v (G 142)) [(t 4), (v (S [13, 10]))])])
 (a (r [p 25 (.call (v (G 154)) [(t 4)]), p 2 (.mov (t 25))])
 .ret)))))))⟩
theorem H108 : funcsOf Tryz.prog [] 108 = some k108 := by kernel_rfl
def k109 : AFn := ⟨38, [(4, none)],
 (a (r [p 4 (.mov (v B))])
 (a (a (r [p 5 (.mov (t 0)), p 6 (.call (v (G 48)) [(t 5)])])
 (.block 0 (a (r [p 8 (.bin .eql (t 6) (v (I 2))), p 7 (.mov (t 8))])
 (c (t 7) (a (r [p 9 (.mov (t 0)), p 10 (.mov (t 0)), p 11 (.mov (t 0)), p 12 (.build [E, E, O, O, E, L, O, O, L] []), p 13 (.nilCheck (t 9)), p 14 (.fieldAddr 0 (t 13)), q (.store 9 (t 14) (t 12)), p 15 (.nilCheck (t 10)), p 16 (.fieldAddr 17 (t 15)), q (.store 1 (t 16) (v N)), p 17 (.nilCheck (t 11)), p 18 (.fieldAddr 18 (t 17)), q (.store 1 (t 18) (v B))])
 (z [⟨(some 19), .mov (t 0), none, [0], 0, 1, false⟩, ⟨(some 20), .mov (t 0), none, [0], 0, 0, false⟩, ⟨(some 21), .nilCheck (t 20), none, [20], 0, 0, false⟩, ⟨(some 22), .fieldAddr 9 (t 21), none, [21], 0, 0, false⟩, ⟨(some 23), .load none (t 22), none, [22], 0, 0, false⟩, ⟨(some 24), .mov (t 0), none, [0], 0, 0, false⟩, ⟨(some 25), .nilCheck (t 24), none, [24], 0, 0, false⟩, ⟨(some 26), .fieldAddr 10 (t 25), none, [25], 0, 0, false⟩, ⟨(some 27), .load (some 5) (t 26), none, [26], 0, 0, false⟩, ⟨(some 28), .call (v (G 122)) [(t 23), (t 27)], none, [23, 27], 0, 1, false⟩, ⟨(some 29), .nilCheck (t 19), none, [19], 1, 1, false⟩, ⟨(some 30), .fieldAddr 16 (t 29), none, [29], 1, 1, false⟩, ⟨none, .store 1 (t 30) (t 28), none, [30, 28], 1, 2, false⟩])) (a (a (r [p 32 (.bin .eql (t 6) (v (I 1))), p 31 (.mov (t 32))])
 (c (t 31) .skip (r [p 33 (.bin .eql (t 6) (v (I 3))), p 31 (.mov (t 33))])))
 (c (t 31) (a (r [p 4 (.mov (v B))])
 .ret) .skip))))))
 (a (r [p 34 (.mov (t 0)), p 35 (.mov (t 1)), p 36 (.nilCheck (t 34)), p 37 (.fieldAddr 15 (t 36)), q (.store 1 (t 37) (t 35))])
 (a (r [p 4 (.mov (v Y))])
 .ret))))⟩
theorem H109 : funcsOf Tryz.prog [] 109 = some k109 := by kernel_rfl
def k110 : AFn := ⟨34, [(3, none)],
 (a (r [p 2 (.box 3 152 (t 0)), p 3 (.mov (v O))])
 (a (z [⟨(some 7), .load none (t 1), none, [1], 0, 1, false⟩, ⟨(some 8), .nilCheck (t 7), none, [7], 0, 1, false⟩, ⟨(some 9), .fieldAddr 0 (t 8), none, [8], 0, 1, false⟩, ⟨(some 10), .fieldAddr 10 (t 9), none, [9], 0, 1, false⟩, ⟨(some 11), .load none (t 10), none, [10], 0, 1, false⟩, ⟨(some 12), .load (some 3) (t 2), none, [2], 0, 1, false⟩, ⟨(some 13), .load none (t 1), none, [1], 0, 0, false⟩, ⟨(some 14), .nilCheck (t 13), none, [13], 0, 0, false⟩, ⟨(some 15), .fieldAddr 37 (t 14), none, [14], 0, 0, false⟩, ⟨(some 16), .load none (t 15), none, [15], 0, 0, false⟩, ⟨(some 17), .call (v (G 100)) [(t 16)], none, [16], 0, 1, false⟩, ⟨(some 18), .call (v (G 99)) [(t 11), (t 12), (t 17)], none, [11, 12, 17], 1, 2, false⟩, ⟨(some 6), .mov (t 18), none, [18], 2, 2, false⟩, ⟨(some 19), .extract (t 6) 0, none, [6], 2, 2, false⟩, ⟨(some 20), .extract (t 6) 1, none, [6], 2, 2, false⟩, ⟨(some 4), .mov (t 19), none, [19], 2, 2, false⟩, ⟨(some 5), .mov (t 20), none, [20], 2, 2, false⟩])
 (a (r [p 21 (.load none (t 1)), p 22 (.nilCheck (t 21)), p 23 (.fieldAddr 34 (t 22)), p 24 (.load none (t 23)), p 25 (.mov (t 4)), p 26 (.call (v (G 107)) [(t 24), (t 25)])])
 (a (a (r [p 27 (.fieldAddr 0 (t 2)), p 28 (.load none (t 27)), p 29 (.bin .eql (t 28) (v (I 4)))])
 (c (t 29) (r [p 30 (.load none (t 1)), p 31 (.nilCheck (t 30)), p 32 (.fieldAddr 39 (t 31)), q (.store 1 (t 32) (v (I 6)))]) .skip))
 (a (r [p 33 (.mov (t 5)), p 3 (.mov (t 33))])
 .ret)))))⟩
theorem H110 : funcsOf Tryz.prog [] 110 = some k110 := by kernel_rfl
def k115 : AFn := ⟨17, [(2, (some (some 6)))],
 (a (r [p 2 (.alloc [E, E, O, O, E, L] 74)])
 (a (a (r [p 4 (.mov (t 0)), p 5 (.eq false .ptr (t 4) (v N))])
 (c (t 5) (a (r [p 6 (.build [E, E, O, O, E, L] []), q (.store 6 (t 2) (t 6))])
 .ret) .skip))
 (a (r [p 7 (.mov (t 0)), p 8 (.nilCheck (t 7)), p 9 (.fieldAddr 0 (t 8)), p 10 (.fieldAddr 0 (t 9)), p 11 (.load (some 6) (t 10)), p 3 (.alloc [E, E, O, O, E, L] 74), q (.store 6 (t 3) (t 11))])
 (a (r [p 12 (.fieldAddr 5 (t 3)), p 13 (.load none (t 12)), p 14 (.call (v (G 191)) [(t 13)]), p 15 (.fieldAddr 5 (t 3)), q (.store 1 (t 15) (t 14))])
 (a (r [p 16 (.load (some 6) (t 3)), q (.store 6 (t 2) (t 16))])
 .ret)))))⟩
theorem H115 : funcsOf Tryz.prog [] 115 = some k115 := by kernel_rfl
def k118 : AFn := ⟨33, [(2, none)],
 (a (r [p 2 (.mov (v B))])
 (a (r [p 3 (.mov (t 0)), p 4 (.eq true .ptr (t 3) (v N)), p 5 (.mov (t 4)), g 6 5 true (.mov (t 0)), g 7 5 true (.nilCheck (t 6)), g 8 5 true (.fieldAddr 0 (t 7)), g 9 5 true (.load none (t 8)), g 10 5 true (.eq true .ptr (t 9) (v N)), p 11 (.pick (t 5) (t 10) (v B)), p 12 (.mov (t 11)), g 13 12 true (.mov (t 0)), g 14 12 true (.nilCheck (t 13)), g 15 12 true (.fieldAddr 7 (t 14)), g 16 12 true (.load none (t 15)), g 17 12 true (.lenSlice (t 16)), g 18 12 true (.bin .gtr (t 17) (v O)), g 19 12 true (.mov (t 18)), g 20 19 false (.mov (t 0)), g 21 19 false (.nilCheck (t 20)), g 22 19 false (.fieldAddr 8 (t 21)), g 23 19 false (.load none (t 22)), g 24 12 true (.pick (t 19) (v Y) (t 23)), g 25 12 true (.mov (t 24)), g 26 25 false (.mov (t 0)), g 27 25 false (.nilCheck (t 26)), g 28 25 false (.fieldAddr 0 (t 27)), g 29 25 false (.load none (t 28)), g 30 25 false (.call (v (G 222)) [(t 29)]), g 31 12 true (.pick (t 25) (v Y) (t 30)), p 32 (.pick (t 12) (t 31) (v B)), p 2 (.mov (t 32))])
 .ret))⟩
theorem H118 : funcsOf Tryz.prog [] 118 = some k118 := by kernel_rfl
def k122 : AFn := ⟨24, [(4, none)],
 (a (r [p 3 (.box 5 23 (t 1)), p 4 (.mov (v N))])
 (a (r [p 6 (.fieldAddr 0 (t 3)), p 7 (.load none (t 6)), p 8 (.call (v (G 228)) [(t 7)]), p 5 (.mov (t 8))])
 (a (a (r [p 9 (.mov (t 5)), p 10 (.eq false .ptr (t 9) (v N)), p 11 (.mov (t 10)), g 12 11 false (.mov (t 0)), g 13 11 false (.bin .neq (t 12) (v (I 1))), g 14 11 false (.mov (t 13)), g 15 14 true (.mov (t 0)), g 16 14 true (.bin .neq (t 15) (v (I 2))), g 17 11 false (.pick (t 14) (t 16) (v B)), p 18 (.pick (t 11) (v Y) (t 17))])
 (c (t 18) (a (r [p 4 (.mov (v N))])
 .ret) .skip))
 (a (r [p 19 (.mov (t 5)), p 20 (.mov (t 0)), p 21 (.load (some 5) (t 3)), p 22 (.build [N, O, O, O, O, O, O, L, B, E, E, O, O, E, L, O] [(0, 1, (t 19)), (1, 1, (t 20)), (2, 5, (t 21))]), p 23 (.box 16 275 (t 22)), p 4 (.mov (t 23))])
 .ret))))⟩
theorem H122 : funcsOf Tryz.prog [] 122 = some k122 := by kernel_rfl
def k123 : AFn := ⟨40, [(2, none), (3, none), (4, none)],
 (a (r [p 2 (.mov (v E)), p 3 (.mov (v O)), p 4 (.mov (v O))])
 (a (a (r [p 7 (.mov (t 0)), p 8 (.bin .eql (t 7) (v E))])
 (c (t 8) (a (r [p 2 (.mov (v E)), p 3 (.mov (v O)), p 4 (.mov (v (I 2)))])
 .ret) .skip))
 (a (r [p 10 (.mov (t 0)), p 11 (.call (v (G 229)) [(t 10)]), p 9 (.mov (t 11)), p 12 (.extract (t 9) 0), p 13 (.extract (t 9) 1), p 14 (.extract (t 9) 2), p 2 (.mov (t 12)), p 5 (.mov (t 13)), p 6 (.mov (t 14))])
 (a (a (r [p 15 (.mov (t 2)), p 16 (.call (v (G 230)) [(t 15)]), p 17 (.un .not (t 16)), p 18 (.mov (t 17)), g 19 18 true (.mov (t 2)), g 20 18 true (.call (v (G 231)) [(t 19)]), g 21 18 true (.un .not (t 20)), p 22 (.pick (t 18) (t 21) (v B))])
 (c (t 22) (a (r [p 2 (.mov (v E)), p 3 (.mov (v O)), p 4 (.mov (v (I 3)))])
 .ret) .skip))
 (a (a (r [p 23 (.mov (t 6)), p 24 (.un .not (t 23))])
 (c (t 24) (a (r [p 25 (.mov (t 2)), p 2 (.mov (t 25)), p 3 (.mov (v (I 80))), p 4 (.mov (v O))])
 .ret) .skip))
 (a (r [p 27 (.mov (t 5)), p 28 (.call (v (G 232)) [(t 27), (v (I 65535))]), p 26 (.mov (t 28)), p 29 (.extract (t 26) 0), p 30 (.extract (t 26) 1), p 3 (.mov (t 29)), p 4 (.mov (t 30))])
 (a (a (r [p 31 (.mov (t 4))])
 (.block 0 (a (r [p 33 (.bin .eql (t 31) (v O)), p 32 (.mov (t 33))])
 (c (t 32) (a (r [p 34 (.mov (t 2)), p 35 (.mov (t 3)), p 36 (.mov (t 4)), p 2 (.mov (t 34)), p 3 (.mov (t 35)), p 4 (.mov (t 36))])
 .ret) (a (r [p 38 (.bin .eql (t 31) (v (I 5))), p 37 (.mov (t 38))])
 (c (t 37) (a (r [p 39 (.mov (t 4)), p 2 (.mov (v E)), p 3 (.mov (v O)), p 4 (.mov (t 39))])
 .ret) .skip))))))
 (a (r [p 2 (.mov (v E)), p 3 (.mov (v O)), p 4 (.mov (v (I 3)))])
 .ret))))))))⟩
theorem H123 : funcsOf Tryz.prog [] 123 = some k123 := by kernel_rfl
def k124 : AFn := ⟨15, [(4, none)],
 (a (r [p 4 (.mov (v E))])
 (a (r [p 5 (.mov (t 0)), p 6 (.call (v (G 233)) [(t 5)]), p 0 (.mov (t 6))])
 (a (a (r [p 7 (.mov (t 1)), p 8 (.bin .eql (t 7) (v (I 80)))])
 (c (t 8) (a (r [p 9 (.mov (t 0)), p 4 (.mov (t 9))])
 .ret) .skip))
 (a (r [p 10 (.mov (t 0)), p 11 (.bin .add (t 10) (v (S [58]))), p 12 (.mov (t 1)), p 13 (.call (v (G 234)) [(t 12)]), p 14 (.bin .add (t 11) (t 13)), p 4 (.mov (t 14))])
 .ret))))⟩
theorem H124 : funcsOf Tryz.prog [] 124 = some k124 := by kernel_rfl
def k125 : AFn := ⟨16, [(4, none)],
 (a (r [p 4 (.mov (v B))])
 (a (a (r [p 7 (.mov (t 0)), p 8 (.rangeStr (t 7))])
 (.block 0 (.loop (a (r [p 9 (.nextStr (t 8)), p 10 (.extract (t 9) 0)])
 (a (c (t 10) .skip (.exit 0))
 (.block 1 (a (r [p 11 (.extract (t 9) 2), p 6 (.mov (t 11))])
 (a (r [p 12 (.mov (t 1)), p 13 (.mov (t 6)), p 14 (.call (t 12) [(t 13)]), p 15 (.un .not (t 14))])
 (c (t 15) (a (r [p 4 (.mov (v B))])
 .ret) .skip)))))))))
 (a (r [p 4 (.mov (v Y))])
 .ret)))⟩
theorem H125 : funcsOf Tryz.prog [] 125 = some k125 := by kernel_rfl
def k126 : AFn := ⟨31, [(2, none)],
 (a (r [p 2 (.mov (v B))])
 (a (.block 0 (a (a (r [p 6 (.mov (t 0)), p 7 (.bin .geq (t 6) (v (.int .i32 97))), p 8 (.mov (t 7)), g 9 8 true (.mov (t 0)), g 10 8 true (.bin .leq (t 9) (v (.int .i32 122))), p 11 (.pick (t 8) (t 10) (v B)), p 5 (.mov (t 11))])
 (c (t 5) .skip (a (r [p 12 (.mov (t 0)), p 13 (.bin .geq (t 12) (v (.int .i32 65))), p 14 (.mov (t 13)), g 15 14 true (.mov (t 0)), g 16 14 true (.bin .leq (t 15) (v (.int .i32 90))), p 17 (.pick (t 14) (t 16) (v B)), p 5 (.mov (t 17))])
 (c (t 5) .skip (r [p 18 (.mov (t 0)), p 19 (.bin .geq (t 18) (v (.int .i32 48))), p 20 (.mov (t 19)), g 21 20 true (.mov (t 0)), g 22 20 true (.bin .leq (t 21) (v (.int .i32 57))), p 23 (.pick (t 20) (t 22) (v B)), p 5 (.mov (t 23))])))))
 (c (t 5) (a (r [p 2 (.mov (v Y))])
 .ret) .skip)))
 (a (a (r [p 24 (.rangeStr (v (S [33, 35, 36, 37, 38, 39, 42, 43, 45, 46, 94, 95, 96, 124, 126])))])
 (.block 1 (.loop (a (r [p 25 (.nextStr (t 24)), p 26 (.extract (t 25) 0)])
 (a (c (t 26) .skip (.exit 1))
 (.block 2 (a (r [p 27 (.extract (t 25) 2), p 4 (.mov (t 27))])
 (a (r [p 28 (.mov (t 4)), p 29 (.mov (t 0)), p 30 (.bin .eql (t 28) (t 29))])
 (c (t 30) (a (r [p 2 (.mov (v Y))])
 .ret) .skip)))))))))
 (a (r [p 2 (.mov (v B))])
 .ret))))⟩
theorem H126 : funcsOf Tryz.prog [] 126 = some k126 := by kernel_rfl
def k142 : AFn := ⟨19, [(4, none), (5, none)],
 (a (r [p 4 (.mov (v O)), p 5 (.mov (v .nilIface))])
 (a (r [p 6 (.mov (t 0)), p 7 (.call (v (G 236)) [(t 6)])])
 (a (r [p 8 (.mov (t 0)), p 9 (.mov (t 0)), p 10 (.nilCheck (t 9)), p 11 (.fieldAddr 1 (t 10)), p 12 (.load none (t 11)), p 13 (.mov (t 1)), p 14 (.append 5 1 1 (t 12) (t 13)), p 15 (.nilCheck (t 8)), p 16 (.fieldAddr 1 (t 15)), q (.store 1 (t 16) (t 14))])
 (a (r [p 17 (.mov (t 1)), p 18 (.lenStr (t 17)), p 4 (.mov (t 18)), p 5 (.mov (v .nilIface))])
 .ret))))⟩
theorem H142 : funcsOf Tryz.prog [] 142 = some k142 := by kernel_rfl
def k157 : AFn := ⟨8, [(4, none)],
 (a (r [p 4 (.mov (v O))])
 (a (r [p 5 (.mov (t 0)), p 6 (.mov (t 1)), p 7 (.call (v (G 244)) [(t 5), (t 6)]), p 4 (.mov (t 7))])
 .ret))⟩
theorem H157 : funcsOf Tryz.prog [] 157 = some k157 := by kernel_rfl
def k160 : AFn := ⟨13, [(4, none), (5, none), (6, none)],
 (a (r [p 4 (.mov (v E)), p 5 (.mov (v E)), p 6 (.mov (v B))])
 (a (r [p 7 (.mov (t 0)), p 8 (.mov (t 1)), p 9 (.call (v (G 246)) [(t 7), (t 8)]), p 10 (.extract (t 9) 0), p 11 (.extract (t 9) 1), p 12 (.extract (t 9) 2), p 4 (.mov (t 10)), p 5 (.mov (t 11)), p 6 (.mov (t 12))])
 .ret))⟩
theorem H160 : funcsOf Tryz.prog [] 160 = some k160 := by kernel_rfl
def k176 : AFn := ⟨8, [(2, none)],
 (a (r [p 2 (.mov (v O))])
 (a (r [p 3 (.mov (t 0)), p 4 (.call (v (G 265)) [(t 3)]), p 5 (.mov (t 0)), p 6 (.call (v (G 182)) [(t 5)]), p 7 (.bin .sub (t 4) (t 6)), p 2 (.mov (t 7))])
 .ret))⟩
theorem H176 : funcsOf Tryz.prog [] 176 = some k176 := by kernel_rfl
def k177 : AFn := ⟨64, [(4, none)],
 (a (r [p 4 (.mov (v E))])
 (a (r [p 8 (.mov (t 1)), p 9 (.minmax true [(t 8), (v O)]), p 10 (.mov (t 0)), p 11 (.call (v (G 182)) [(t 10)]), p 12 (.minmax false [(t 9), (t 11)]), p 1 (.mov (t 12))])
 (a (a (r [p 13 (.mov (t 1)), p 14 (.bin .eql (t 13) (v O))])
 (c (t 14) (a (r [p 4 (.mov (v E))])
 .ret) .skip))
 (a (z [⟨(some 15), .mov (t 0), none, [0], 0, 0, false⟩, ⟨(some 16), .nilCheck (t 15), none, [15], 0, 0, false⟩, ⟨(some 17), .fieldAddr 1 (t 16), none, [16], 0, 0, false⟩, ⟨(some 18), .load none (t 17), none, [17], 0, 0, false⟩, ⟨(some 19), .mov (t 1), none, [1], 0, 0, false⟩, ⟨(some 20), .bin .add (t 18) (t 19), none, [18, 19], 0, 0, false⟩, ⟨(some 21), .mov (t 0), none, [0], 0, 0, false⟩, ⟨(some 22), .nilCheck (t 21), none, [21], 0, 0, false⟩, ⟨(some 23), .fieldAddr 0 (t 22), none, [22], 0, 0, false⟩, ⟨(some 24), .load none (t 23), none, [23], 0, 0, false⟩, ⟨(some 25), .lenSlice (t 24), none, [24], 0, 0, false⟩, ⟨(some 26), .minmax false [(t 20), (t 25)], none, [20, 25], 0, 0, false⟩, ⟨(some 5), .mov (t 26), none, [26], 0, 0, false⟩])
 (a (z [⟨(some 27), .mov (t 0), none, [0], 0, 0, false⟩, ⟨(some 28), .nilCheck (t 27), none, [27], 0, 0, false⟩, ⟨(some 29), .fieldAddr 0 (t 28), none, [28], 0, 0, false⟩, ⟨(some 30), .load none (t 29), none, [29], 0, 0, false⟩, ⟨(some 31), .mov (t 0), none, [0], 0, 0, false⟩, ⟨(some 32), .nilCheck (t 31), none, [31], 0, 0, false⟩, ⟨(some 33), .fieldAddr 1 (t 32), none, [32], 0, 0, false⟩, ⟨(some 34), .load none (t 33), none, [33], 0, 0, false⟩, ⟨(some 35), .mov (t 5), none, [5], 0, 0, false⟩, ⟨(some 36), .mov (t 5), none, [5], 0, 0, false⟩, ⟨(some 37), .slice 1 (t 30) (some (t 34)) (some (t 35)) (some (t 36)), none, [30, 34, 35, 36], 0, 0, false⟩, ⟨(some 38), .mov (t 0), none, [0], 0, 0, false⟩, ⟨(some 39), .nilCheck (t 38), none, [38], 0, 0, false⟩, ⟨(some 40), .fieldAddr 0 (t 39), none, [39], 0, 0, false⟩, ⟨(some 41), .load none (t 40), none, [40], 0, 0, false⟩, ⟨(some 42), .mov (t 1), none, [1], 0, 0, false⟩, ⟨(some 43), .mov (t 5), none, [5], 0, 0, false⟩, ⟨(some 44), .mov (t 0), none, [0], 0, 0, false⟩, ⟨(some 45), .nilCheck (t 44), none, [44], 0, 0, false⟩, ⟨(some 46), .fieldAddr 1 (t 45), none, [45], 0, 0, false⟩, ⟨(some 47), .load none (t 46), none, [46], 0, 0, false⟩, ⟨(some 48), .bin .sub (t 43) (t 47), none, [43, 47], 0, 0, false⟩, ⟨(some 49), .bin .sub (t 42) (t 48), none, [42, 48], 0, 0, false⟩, ⟨(some 50), .mov (t 1), none, [1], 0, 0, false⟩, ⟨(some 51), .mov (t 5), none, [5], 0, 0, false⟩, ⟨(some 52), .mov (t 0), none, [0], 0, 0, false⟩, ⟨(some 53), .nilCheck (t 52), none, [52], 0, 0, false⟩, ⟨(some 54), .fieldAddr 1 (t 53), none, [53], 0, 0, false⟩, ⟨(some 55), .load none (t 54), none, [54], 0, 0, false⟩, ⟨(some 56), .bin .sub (t 51) (t 55), none, [51, 55], 0, 0, false⟩, ⟨(some 57), .bin .sub (t 50) (t 56), none, [50, 56], 0, 0, false⟩, ⟨(some 58), .slice 1 (t 41) none (some (t 49)) (some (t 57)), none, [41, 49, 57], 0, 0, false⟩, ⟨(some 6), .mov (t 37), none, [37], 0, 0, false⟩, ⟨(some 7), .mov (t 58), none, [58], 0, 0, false⟩])
 (a (r [p 59 (.mov (t 6)), p 60 (.ofBytes (t 59)), p 61 (.mov (t 7)), p 62 (.ofBytes (t 61)), p 63 (.bin .add (t 60) (t 62)), p 4 (.mov (t 63))])
 .ret))))))⟩
theorem H177 : funcsOf Tryz.prog [] 177 = some k177 := by kernel_rfl
def k178 : AFn := ⟨34, [(4, none), (5, none)],
 (a (r [p 4 (.mov (v O)), p 5 (.mov (v L))])
 (a (.block 0 (a (r [p 7 (.mov (t 0)), p 8 (.call (v (G 48)) [(t 7)]), p 9 (.bin .geq (t 8) (v (I 2))), p 6 (.mov (t 9))])
 (c (t 6) (a (r [p 4 (.mov (v O)), p 5 (.mov (v L))])
 .ret) (a (r [p 11 (.mov (t 0)), p 12 (.nilCheck (t 11)), p 13 (.fieldAddr 17 (t 12)), p 14 (.load none (t 13)), p 15 (.eq false .ptr (t 14) (v N)), p 10 (.mov (t 15))])
 (c (t 10) (a (r [p 16 (.mov (t 0)), p 17 (.mov (t 1)), p 18 (.call (v (G 266)) [(t 16), (t 17)]), p 19 (.extract (t 18) 0), p 20 (.extract (t 18) 1), p 4 (.mov (t 19)), p 5 (.mov (t 20))])
 .ret) .skip)))))
 (a (r [p 22 (.mov (t 0)), p 23 (.nilCheck (t 22)), p 24 (.fieldAddr 17 (t 23)), p 25 (.load none (t 24)), p 26 (.mov (t 1)), p 27 (.call (v (G 267)) [(t 25), (t 26)]), p 21 (.mov (t 27)), p 28 (.extract (t 21) 0), p 29 (.extract (t 21) 1), p 4 (.mov (t 28)), p 5 (.mov (t 29))])
 (a (r [p 30 (.mov (t 4)), p 31 (.mov (t 0)), p 32 (.mov (t 5)), p 33 (.call (v (G 268)) [(t 31), (t 32)]), p 4 (.mov (t 30)), p 5 (.mov (t 33))])
 .ret))))⟩
theorem H178 : funcsOf Tryz.prog [] 178 = some k178 := by kernel_rfl
def k179 : AFn := ⟨16, [(2, none)],
 (a (r [p 2 (.mov (v E))])
 (a (a (r [p 3 (.mov (t 0)), p 4 (.call (v (G 89)) [(t 3)]), p 5 (.un .not (t 4))])
 (c (t 5) (a (r [p 2 (.mov (v E))])
 .ret) .skip))
 (a (z [⟨(some 6), .mov (t 0), none, [0], 0, 1, false⟩, ⟨(some 7), .nilCheck (t 6), none, [6], 0, 1, false⟩, ⟨(some 8), .fieldAddr 0 (t 7), none, [7], 0, 1, false⟩, ⟨(some 9), .load none (t 8), none, [8], 0, 1, false⟩, ⟨(some 10), .mov (t 0), none, [0], 0, 0, false⟩, ⟨(some 11), .nilCheck (t 10), none, [10], 0, 0, false⟩, ⟨(some 12), .fieldAddr 0 (t 11), none, [11], 0, 0, false⟩, ⟨(some 13), .load none (t 12), none, [12], 0, 0, false⟩, ⟨(some 14), .call (v (G 182)) [(t 13)], none, [13], 0, 1, false⟩, ⟨(some 15), .call (v (G 177)) [(t 9), (t 14)], none, [9, 14], 1, 2, false⟩, ⟨(some 2), .mov (t 15), none, [15], 2, 2, false⟩])
 .ret)))⟩
theorem H179 : funcsOf Tryz.prog [] 179 = some k179 := by kernel_rfl
def k180 : AFn := ⟨12, [],
 (a (r [p 4 (.mov (t 0)), p 5 (.call (v (G 89)) [(t 4)])])
 (c (t 5) (r [p 6 (.mov (t 0)), p 7 (.nilCheck (t 6)), p 8 (.fieldAddr 0 (t 7)), p 9 (.load none (t 8)), p 10 (.mov (t 1)), p 11 (.call (v (G 91)) [(t 9), (t 10)])]) .skip))⟩
theorem H180 : funcsOf Tryz.prog [] 180 = some k180 := by kernel_rfl
def k182 : AFn := ⟨9, [(2, none)],
 (a (r [p 2 (.mov (v O))])
 (a (a (r [p 3 (.mov (t 0)), p 4 (.eq false .ptr (t 3) (v N))])
 (c (t 4) (a (r [p 2 (.mov (v O))])
 .ret) .skip))
 (a (r [p 5 (.mov (t 0)), p 6 (.nilCheck (t 5)), p 7 (.fieldAddr 2 (t 6)), p 8 (.load none (t 7)), p 2 (.mov (t 8))])
 .ret)))⟩
theorem H182 : funcsOf Tryz.prog [] 182 = some k182 := by kernel_rfl
def k183 : AFn := ⟨50, [(4, none)],
 (a (r [p 2 (.box 6 74 (t 0)), p 3 (.box 18 25 (t 1)), p 4 (.mov (v O))])
 (a (r [p 8 (.fieldAddr 0 (t 2)), p 9 (.load none (t 8)), p 10 (.fieldAddr 1 (t 2)), p 11 (.load none (t 10)), p 12 (.call (v (G 192)) [(t 9), (t 11)]), p 7 (.mov (t 12)), p 13 (.extract (t 7) 0), p 14 (.extract (t 7) 1), p 5 (.alloc [O, E, E] 245), q (.store 3 (t 5) (t 13)), p 6 (.mov (t 14))])
 (a (.block 0 (a (r [p 16 (.fieldAddr 0 (t 2)), p 17 (.load none (t 16)), p 18 (.bin .eql (t 17) (v (S [67, 79, 78, 78, 69, 67, 84]))), p 15 (.mov (t 18))])
 (c (t 15) (a (r [p 4 (.mov (v (I 10)))])
 .ret) (a (r [p 20 (.mov (t 6)), p 21 (.bin .neq (t 20) (v O)), p 19 (.mov (t 21))])
 (c (t 19) (a (r [p 4 (.mov (v (I 11)))])
 .ret) (a (r [p 23 (.fieldAddr 5 (t 2)), p 24 (.load none (t 23)), p 25 (.fieldAddr 0 (t 3)), p 26 (.load none (t 25)), p 27 (.call (v (G 271)) [(t 24), (t 26)]), p 22 (.mov (t 27))])
 (c (t 22) (a (r [p 4 (.mov (v (I 17)))])
 .ret) (a (r [p 29 (.fieldAddr 2 (t 2)), p 30 (.load none (t 29)), p 31 (.bin .gtr (t 30) (v O)), p 32 (.mov (t 31)), g 33 32 true (.fieldAddr 5 (t 2)), g 34 32 true (.load none (t 33)), g 35 32 true (.call (v (G 272)) [(t 34)]), g 36 32 true (.un .not (t 35)), p 37 (.pick (t 32) (t 36) (v B)), p 28 (.mov (t 37))])
 (c (t 28) (a (r [p 4 (.mov (v (I 18)))])
 .ret) .skip)))))))))
 (a (r [p 39 (.fieldAddr 5 (t 2)), p 40 (.load none (t 39)), p 41 (.load (some 3) (t 5)), p 42 (.fieldAddr 1 (t 3)), p 43 (.load none (t 42)), p 44 (.fieldAddr 2 (t 3)), p 45 (.load none (t 44)), p 46 (.call (v (G 202)) [(t 40), (t 41), (t 43), (t 45)]), p 38 (.mov (t 46)), p 47 (.extract (t 38) 0), p 48 (.extract (t 38) 1), p 6 (.mov (t 48))])
 (a (r [p 49 (.mov (t 6)), p 4 (.mov (t 49))])
 .ret)))))⟩
theorem H183 : funcsOf Tryz.prog [] 183 = some k183 := by kernel_rfl
def k184 : AFn := ⟨11, [(2, (some (some 2)))],
 (a (r [p 2 (.alloc [O, O] 76)])
 (a (a (r [p 3 (.mov (t 0)), p 4 (.eq false .ptr (t 3) (v N))])
 (c (t 4) (a (r [p 5 (.build [O, O] []), q (.store 2 (t 2) (t 5))])
 .ret) .skip))
 (a (r [p 6 (.mov (t 0)), p 7 (.nilCheck (t 6)), p 8 (.fieldAddr 0 (t 7)), p 9 (.fieldAddr 6 (t 8)), p 10 (.load (some 2) (t 9)), q (.store 2 (t 2) (t 10))])
 .ret)))⟩
theorem H184 : funcsOf Tryz.prog [] 184 = some k184 := by kernel_rfl
def k185 : AFn := ⟨30, [(4, (some (some 4)))],
 (a (r [p 2 (.box 2 76 (t 0)), p 3 (.box 18 25 (t 1)), p 4 (.alloc [O, O, B, O] 78)])
 (a (r [p 6 (.mkFunc (.func 273) [] [(t 3)]), p 5 (.mov (t 6))])
 (a (.block 0 (a (r [p 8 (.fieldAddr 0 (t 2)), p 9 (.load none (t 8)), p 10 (.bin .eql (t 9) (v (I 1))), p 7 (.mov (t 10))])
 (c (t 7) (a (r [p 11 (.load (some 2) (t 2)), p 12 (.call (v (G 274)) [(t 11)]), q (.store 4 (t 4) (t 12))])
 .ret) (a (r [p 14 (.fieldAddr 0 (t 2)), p 15 (.load none (t 14)), p 16 (.bin .eql (t 15) (v (I 2))), p 17 (.mov (t 16)), g 18 17 true (.mov (t 5)), g 19 17 true (.call (t 18) []), p 20 (.pick (t 17) (t 19) (v B)), p 13 (.mov (t 20))])
 (c (t 13) (a (r [p 21 (.build [O, O] [(0, 1, (v (I 2)))]), p 22 (.call (v (G 274)) [(t 21)]), q (.store 4 (t 4) (t 22))])
 .ret) (a (r [p 24 (.fieldAddr 0 (t 2)), p 25 (.load none (t 24)), p 26 (.bin .eql (t 25) (v (I 2))), p 23 (.mov (t 26))])
 (c (t 23) (a (r [p 27 (.call (v (G 275)) []), q (.store 4 (t 4) (t 27))])
 .ret) .skip)))))))
 (a (r [p 28 (.build [O, O] []), p 29 (.call (v (G 274)) [(t 28)]), q (.store 4 (t 4) (t 29))])
 .ret))))⟩
theorem H185 : funcsOf Tryz.prog [] 185 = some k185 := by kernel_rfl
def k186 : AFn := ⟨58, [(6, none)],
 (a (r [p 3 (.box 4 78 (t 0)), p 6 (.mov (v N))])
 (a (r [p 8 (.mov (t 2)), p 9 (.bin .eql (t 8) (v O)), p 10 (.build [.nilIface, B, B, O, L] [(1, 1, (t 9))]), p 11 (.box 5 238 (t 10)), p 7 (.mov (t 11))])
 (a (.block 0 (a (r [p 18 (.fieldAddr 2 (t 3)), p 19 (.load none (t 18)), p 17 (.mov (t 19))])
 (c (t 17) (r [p 20 (.mov (t 7)), p 21 (.mov (t 1)), p 22 (.minmax true [(t 21), (v O)]), p 23 (.build [O, N, L] [(0, 1, (t 22))]), p 24 (.box 3 252 (t 23)), p 25 (.mkIface 249 (t 24)), p 26 (.nilCheck (t 20)), p 27 (.fieldAddr 0 (t 26)), q (.store 1 (t 27) (t 25))]) (a (r [p 29 (.fieldAddr 0 (t 3)), p 30 (.fieldAddr 0 (t 29)), p 31 (.load none (t 30)), p 32 (.bin .eql (t 31) (v (I 2))), p 33 (.mov (t 32)), g 34 33 true (.fieldAddr 3 (t 3)), g 35 33 true (.load none (t 34)), g 36 33 true (.bin .gtr (t 35) (v O)), p 37 (.pick (t 33) (t 36) (v B)), p 28 (.mov (t 37))])
 (c (t 28) (r [p 38 (.mov (t 7)), p 39 (.fieldAddr 3 (t 3)), p 40 (.load none (t 39)), p 41 (.build [O, E] [(0, 1, (t 40))]), p 42 (.box 2 331 (t 41)), p 43 (.mkIface 329 (t 42)), p 44 (.nilCheck (t 38)), p 45 (.fieldAddr 0 (t 44)), q (.store 1 (t 45) (t 43))]) (a (r [p 47 (.fieldAddr 0 (t 3)), p 48 (.fieldAddr 0 (t 47)), p 49 (.load none (t 48)), p 50 (.bin .eql (t 49) (v (I 2))), p 46 (.mov (t 50))])
 (c (t 46) (r [p 51 (.mov (t 7)), p 52 (.build [O] []), p 53 (.box 1 334 (t 52)), p 54 (.mkIface 332 (t 53)), p 55 (.nilCheck (t 51)), p 56 (.fieldAddr 0 (t 55)), q (.store 1 (t 56) (t 54))]) (r [p 12 (.mov (t 7)), p 13 (.build [] []), p 14 (.mkIface 336 (t 13)), p 15 (.nilCheck (t 12)), p 16 (.fieldAddr 0 (t 15)), q (.store 1 (t 16) (t 14))]))))))))
 (a (r [p 57 (.mov (t 7)), p 6 (.mov (t 57))])
 .ret))))⟩
theorem H186 : funcsOf Tryz.prog [] 186 = some k186 := by kernel_rfl
def k187 : AFn := ⟨31, [(4, none)],
 (a (r [p 2 (.box 6 74 (t 0)), p 3 (.box 2 76 (t 1)), p 4 (.mov (v B))])
 (a (r [p 6 (.fieldAddr 0 (t 3)), p 7 (.load none (t 6)), p 8 (.bin .eql (t 7) (v (I 2))), p 9 (.mov (t 8)), g 10 9 false (.fieldAddr 0 (t 3)), g 11 9 false (.load none (t 10)), g 12 9 false (.bin .eql (t 11) (v (I 1))), g 13 9 false (.mov (t 12)), g 14 13 true (.fieldAddr 1 (t 3)), g 15 13 true (.load none (t 14)), g 16 13 true (.bin .gtr (t 15) (v O)), g 17 9 false (.pick (t 13) (t 16) (v B)), p 18 (.pick (t 9) (v Y) (t 17)), p 5 (.mov (t 18))])
 (a (r [p 19 (.mov (t 5)), p 20 (.mov (t 19)), g 21 20 true (.fieldAddr 2 (t 2)), g 22 20 true (.load none (t 21)), g 23 20 true (.bin .gtr (t 22) (v O)), p 24 (.pick (t 20) (t 23) (v B)), p 25 (.mov (t 24)), g 26 25 true (.fieldAddr 5 (t 2)), g 27 25 true (.load none (t 26)), g 28 25 true (.call (v (G 216)) [(t 27), (v (S [69, 120, 112, 101, 99, 116]))]), g 29 25 true (.bin .gtr (t 28) (v O)), p 30 (.pick (t 25) (t 29) (v B)), p 4 (.mov (t 30))])
 .ret)))⟩
theorem H187 : funcsOf Tryz.prog [] 187 = some k187 := by kernel_rfl
def k190 : AFn := ⟨51, [(4, none)],
 (a (r [p 4 (.mov (v E))])
 (a (r [p 9 (.mov (t 0)), p 10 (.nilCheck (t 9)), p 11 (.fieldAddr 2 (t 10)), q (.store 1 (t 11) (v Y))])
 (a (r [p 5 (.mov (v L))])
 (a (a (r [p 12 (.mov (t 0)), p 13 (.nilCheck (t 12)), p 14 (.fieldAddr 1 (t 13)), p 15 (.load none (t 14)), p 16 (.un .not (t 15))])
 (c (t 16) (r [p 17 (.mov (t 1)), p 18 (.call (v (G 214)) [(t 17)]), p 5 (.mov (t 18))]) .skip))
 (a (a (r [p 19 (.mov (t 0)), p 20 (.nilCheck (t 19)), p 21 (.fieldAddr 0 (t 20)), p 22 (.load none (t 21))])
 (.block 0 (a (r [p 23 (.assertTo 332 N true (t 22)), p 24 (.extract (t 23) 1), p 25 (.extract (t 23) 0)])
 (c (t 24) (a (r [p 6 (.mov (t 25))])
 (a (r [p 26 (.mov (t 5)), p 27 (.call (v (G 277)) [(t 26)]), p 4 (.mov (t 27))])
 .ret)) (a (r [p 28 (.assertTo 329 N true (t 22)), p 29 (.extract (t 28) 1), p 30 (.extract (t 28) 0)])
 (c (t 29) (a (r [p 7 (.mov (t 30))])
 (a (a (r [p 31 (.mov (t 7)), p 32 (.nilCheck (t 31)), p 33 (.fieldAddr 1 (t 32)), p 34 (.load none (t 33)), p 35 (.bin .eql (t 34) (v E))])
 (c (t 35) (a (r [p 36 (.call (v (G 277)) [(v L)]), p 4 (.mov (t 36))])
 .ret) .skip))
 (a (r [p 37 (.mov (t 7)), p 38 (.nilCheck (t 37)), p 39 (.fieldAddr 1 (t 38)), p 40 (.load none (t 39)), p 41 (.call (v (G 278)) [(t 40)]), p 42 (.call (v (G 277)) [(v L)]), p 43 (.bin .add (t 41) (t 42)), p 4 (.mov (t 43))])
 .ret))) (a (r [p 44 (.assertTo 249 N true (t 22)), p 45 (.extract (t 44) 1), p 46 (.extract (t 44) 0)])
 (c (t 45) (a (r [p 8 (.mov (t 46))])
 (r [p 47 (.mov (t 0)), p 48 (.mov (t 5)), p 49 (.nilCheck (t 47)), p 50 (.fieldAddr 4 (t 49)), q (.store 1 (t 50) (t 48))])) .skip))))))))
 (a (r [p 4 (.mov (v E))])
 .ret))))))⟩
theorem H190 : funcsOf Tryz.prog [] 190 = some k190 := by kernel_rfl
def k191 : AFn := ⟨8, [(2, none)],
 (a (r [p 2 (.mov (v L))])
 (a (a (r [p 3 (.mov (t 0)), p 4 (.eq false .slice (t 3) (v L))])
 (c (t 4) (a (r [p 2 (.mov (v L))])
 .ret) .skip))
 (a (r [p 5 (.buildSlice [E, E] 243 0 []), p 6 (.mov (t 0)), p 7 (.append 243 2 32 (t 5) (t 6)), p 2 (.mov (t 7))])
 .ret)))⟩
theorem H191 : funcsOf Tryz.prog [] 191 = some k191 := by kernel_rfl
def k192 : AFn := ⟨46, [(4, (some (some 3))), (5, none)],
 (a (r [p 3 (.box 1 9 (t 1)), p 4 (.alloc [O, E, E] 245), p 5 (.mov (v O))])
 (a (a (r [p 9 (.load none (t 3)), p 10 (.bin .eql (t 9) (v E))])
 (c (t 10) (a (r [p 11 (.build [O, E, E] []), q (.store 3 (t 4) (t 11)), p 5 (.mov (v (I 2)))])
 .ret) .skip))
 (a (r [p 6 (.alloc [O, E, E] 245)])
 (a (r [p 12 (.load none (t 3)), p 13 (.call (v (G 279)) [(t 12)]), p 14 (.mov (t 13)), g 15 14 true (.load none (t 3)), g 16 14 true (.call (v (G 280)) [(t 15), (v (S [35]))]), g 17 14 true (.un .not (t 16)), p 18 (.pick (t 14) (t 17) (v B)), p 7 (.alloc [B] 4), q (.store 1 (t 7) (t 18))])
 (a (r [p 19 (.mkFunc (.func 281) [] [(t 7), (t 3), (t 6)]), p 8 (.mov (t 19))])
 (a (.block 0 (a (r [p 23 (.mov (t 0)), p 24 (.bin .eql (t 23) (v (S [67, 79, 78, 78, 69, 67, 84]))), p 22 (.mov (t 24))])
 (c (t 22) (r [p 25 (.mov (t 8)), p 26 (.call (t 25) [(v (G 282))])]) (a (r [p 28 (.load none (t 3)), p 29 (.idxStr (t 28) (v O)), p 30 (.bin .eql (t 29) (v (.int .u8 47))), p 27 (.mov (t 30))])
 (c (t 27) (r [p 31 (.load none (t 3)), p 32 (.build [O, E, E] [(0, 1, (v (I 1))), (2, 1, (t 31))]), q (.store 3 (t 6) (t 32))]) (a (r [p 34 (.load none (t 3)), p 35 (.bin .eql (t 34) (v (S [42]))), p 33 (.mov (t 35))])
 (c (t 33) (r [p 36 (.build [O, E, E] [(0, 1, (v (I 4)))]), p 37 (.load none (t 7)), p 38 (.mov (t 37)), g 39 38 true (.mov (t 0)), g 40 38 true (.bin .eql (t 39) (v (S [79, 80, 84, 73, 79, 78, 83]))), p 41 (.pick (t 38) (t 40) (v B)), q (.store 3 (t 6) (t 36)), q (.store 1 (t 7) (t 41))]) (r [p 20 (.mov (t 8)), p 21 (.call (t 20) [(v (G 283))])]))))))))
 (a (a (r [p 42 (.load none (t 7)), p 43 (.un .not (t 42))])
 (c (t 43) (a (r [p 44 (.build [O, E, E] []), q (.store 3 (t 4) (t 44)), p 5 (.mov (v (I 11)))])
 .ret) .skip))
 (a (r [p 45 (.load (some 3) (t 6)), q (.store 3 (t 4) (t 45)), p 5 (.mov (v O))])
 .ret))))))))⟩
theorem H192 : funcsOf Tryz.prog [] 192 = some k192 := by kernel_rfl
def k193 : AFn := ⟨18, [(6, none)],
 (a (r [p 4 (.box 3 245 (t 1)), p 6 (.mov (v E))])
 (a (r [p 10 (.mov (t 0)), p 11 (.load (some 3) (t 4)), p 12 (.mov (t 2)), p 13 (.call (v (G 284)) [(t 10), (t 11), (t 12)]), p 14 (.call (v (G 53)) [(t 13)]), p 9 (.mov (t 14)), p 15 (.extract (t 9) 0), p 16 (.extract (t 9) 1), p 7 (.mov (t 15)), p 8 (.mov (t 16))])
 (a (r [p 17 (.mov (t 7)), p 6 (.mov (t 17))])
 .ret)))⟩
theorem H193 : funcsOf Tryz.prog [] 193 = some k193 := by kernel_rfl
def k194 : AFn := ⟨11, [(2, none)],
 (a (r [p 2 (.mov (v B))])
 (a (r [p 3 (.mov (t 0)), p 4 (.eq true .ptr (t 3) (v N)), p 5 (.mov (t 4)), g 6 5 true (.mov (t 0)), g 7 5 true (.nilCheck (t 6)), g 8 5 true (.fieldAddr 2 (t 7)), g 9 5 true (.load none (t 8)), p 10 (.pick (t 5) (t 9) (v B)), p 2 (.mov (t 10))])
 .ret))⟩
theorem H194 : funcsOf Tryz.prog [] 194 = some k194 := by kernel_rfl
def k195 : AFn := ⟨14, [(2, (some (some 3)))],
 (a (r [p 1 (.box 6 74 (t 0)), p 2 (.alloc [O, E, E] 245)])
 (a (r [p 6 (.fieldAddr 0 (t 1)), p 7 (.load none (t 6)), p 8 (.fieldAddr 1 (t 1)), p 9 (.load none (t 8)), p 10 (.call (v (G 192)) [(t 7), (t 9)]), p 5 (.mov (t 10)), p 11 (.extract (t 5) 0), p 12 (.extract (t 5) 1), p 3 (.alloc [O, E, E] 245), q (.store 3 (t 3) (t 11)), p 4 (.mov (t 12))])
 (a (r [p 13 (.load (some 3) (t 3)), q (.store 3 (t 2) (t 13))])
 .ret)))⟩
theorem H195 : funcsOf Tryz.prog [] 195 = some k195 := by kernel_rfl
def k196 : AFn := ⟨7, [(2, none)],
 (a (r [p 2 (.mov (v L))])
 (a (r [p 3 (.mov (t 0)), p 4 (.mov (t 0)), p 5 (.call (v (G 285)) [(t 4)]), p 6 (.call (v (G 198)) [(t 3), (t 5)]), p 2 (.mov (t 6))])
 .ret))⟩
theorem H196 : funcsOf Tryz.prog [] 196 = some k196 := by kernel_rfl
def k197 : AFn := ⟨6, [(2, none)],
 (a (r [p 2 (.mov (v L))])
 (a (r [p 3 (.mov (t 0)), p 4 (.buildSlice [E] 9 2 [(0, 1, (v (S [67, 111, 110, 116, 101, 110, 116, 45, 76, 101, 110, 103, 116, 104]))), (1, 1, (v (S [69, 120, 112, 101, 99, 116])))]), p 5 (.call (v (G 198)) [(t 3), (t 4)]), p 2 (.mov (t 5))])
 .ret))⟩
theorem H197 : funcsOf Tryz.prog [] 197 = some k197 := by kernel_rfl
def k198 : AFn := ⟨10, [(4, none)],
 (a (r [p 4 (.mov (v L))])
 (a (r [p 5 (.mov (t 0)), p 6 (.call (v (G 191)) [(t 5)]), p 7 (.mov (t 1)), p 8 (.call (v (G 287)) [(t 7)]), p 9 (.call (v (G 286)) [(t 6), (t 8)]), p 4 (.mov (t 9))])
 .ret))⟩
theorem H198 : funcsOf Tryz.prog [] 198 = some k198 := by kernel_rfl
def k199 : AFn := ⟨9, [(3, none)],
 (a (r [p 3 (.mov (v L))])
 (a (a (r [p 4 (.load none (t 1)), p 5 (.un .not (t 4))])
 (c (t 5) (a (r [p 6 (.mov (t 0)), p 3 (.mov (t 6))])
 .ret) .skip))
 (a (r [p 7 (.mov (t 0)), p 8 (.call (v (G 200)) [(t 7), (v (S [69, 120, 112, 101, 99, 116])), (v (S [49, 48, 48, 45, 99, 111, 110, 116, 105, 110, 117, 101]))]), p 3 (.mov (t 8))])
 .ret)))⟩
theorem H199 : funcsOf Tryz.prog [] 199 = some k199 := by kernel_rfl
def k200 : AFn := ⟨21, [(6, none)],
 (a (r [p 6 (.mov (v L))])
 (a (r [p 8 (.mov (t 0)), p 9 (.lenSlice (t 8)), p 10 (.bin .add (t 9) (v (I 1))), p 11 (.mkSlice [E, E] 243 2 32 (t 10) (t 10)), p 7 (.mov (t 11))])
 (a (r [p 12 (.mov (t 7)), p 13 (.mov (t 7)), p 14 (.mov (t 0)), p 15 (.copy 2 (t 13) (t 14)), p 16 (.mov (t 1)), p 17 (.mov (t 2)), p 18 (.build [E, E] [(0, 1, (t 16)), (1, 1, (t 17))]), p 19 (.idxAddr 2 (t 12) (t 15)), q (.store 2 (t 19) (t 18))])
 (a (r [p 20 (.mov (t 7)), p 6 (.mov (t 20))])
 .ret))))⟩
theorem H200 : funcsOf Tryz.prog [] 200 = some k200 := by kernel_rfl
def k201 : AFn := ⟨16, [(4, none)],
 (a (r [p 4 (.mov (v L))])
 (a (r [p 6 (.mov (t 0)), p 7 (.load (some 3) (t 1)), p 8 (.fieldAddr 1 (t 2)), p 9 (.load none (t 8)), p 10 (.fieldAddr 2 (t 2)), p 11 (.load none (t 10)), p 12 (.call (v (G 202)) [(t 6), (t 7), (t 9), (t 11)]), p 5 (.mov (t 12)), p 13 (.extract (t 5) 0), p 14 (.extract (t 5) 1), p 0 (.mov (t 13))])
 (a (r [p 15 (.mov (t 0)), p 4 (.mov (t 15))])
 .ret)))⟩
theorem H201 : funcsOf Tryz.prog [] 201 = some k201 := by kernel_rfl
def k202 : AFn := ⟨38, [(8, none), (9, none)],
 (a (r [p 5 (.box 3 245 (t 1)), p 8 (.mov (v L)), p 9 (.mov (v O))])
 (a (r [p 14 (.mov (t 0)), p 15 (.load (some 3) (t 5)), p 16 (.mov (t 2)), p 17 (.call (v (G 284)) [(t 14), (t 15), (t 16)]), p 10 (.mov (t 17))])
 (a (a (r [p 19 (.mov (t 10)), p 20 (.call (v (G 123)) [(t 19)]), p 18 (.mov (t 20)), p 21 (.extract (t 18) 0), p 22 (.extract (t 18) 1), p 23 (.extract (t 18) 2), p 11 (.mov (t 21)), p 12 (.mov (t 22)), p 13 (.mov (t 23))])
 (a (r [p 24 (.mov (t 3)), p 25 (.bin .gtr (t 24) (v O)), p 26 (.mov (t 25)), g 27 26 true (.mov (t 13)), g 28 26 true (.bin .neq (t 27) (v O)), p 29 (.pick (t 26) (t 28) (v B))])
 (c (t 29) (a (r [p 8 (.mov (v L)), p 9 (.mov (v (I 13)))])
 .ret) .skip)))
 (a (a (r [p 30 (.mov (t 10)), p 31 (.bin .eql (t 30) (v E))])
 (c (t 31) (a (r [p 32 (.mov (t 0)), p 33 (.buildSlice [E] 9 1 [(0, 1, (v (S [72, 111, 115, 116])))]), p 34 (.call (v (G 198)) [(t 32), (t 33)]), p 8 (.mov (t 34)), p 9 (.mov (v O))])
 .ret) .skip))
 (a (r [p 35 (.mov (t 0)), p 36 (.mov (t 10)), p 37 (.call (v (G 288)) [(t 35), (v (S [72, 111, 115, 116])), (t 36)]), p 8 (.mov (t 37)), p 9 (.mov (v O))])
 .ret)))))⟩
theorem H202 : funcsOf Tryz.prog [] 202 = some k202 := by kernel_rfl
def k203 : AFn := ⟨7, [(3, none)],
 (a (r [p 3 (.mov (v L))])
 (a (r [p 4 (.mov (t 0)), p 5 (.load none (t 1)), p 6 (.call (v (G 204)) [(t 4), (t 5)]), p 3 (.mov (t 6))])
 .ret))⟩
theorem H203 : funcsOf Tryz.prog [] 203 = some k203 := by kernel_rfl
def k204 : AFn := ⟨33, [(4, none)],
 (a (r [p 4 (.mov (v L))])
 (a (r [p 7 (.mov (t 0)), p 8 (.call (v (G 191)) [(t 7)]), p 5 (.mov (t 8))])
 (a (a (r [p 9 (.mov (t 5)), p 10 (.lenSlice (t 9)), p 11 (.mov (v O))])
 (.block 0 (.loop (a (r [p 12 (.bin .lss (t 11) (t 10))])
 (a (c (t 12) .skip (.exit 0))
 (a (.block 1 (a (r [p 13 (.mov (t 11)), p 6 (.mov (t 13))])
 (a (r [p 14 (.mov (t 5)), p 15 (.mov (t 6)), p 16 (.idxAddr 2 (t 14) (t 15)), p 17 (.fieldAddr 0 (t 16)), p 18 (.load none (t 17)), p 19 (.call (v (G 289)) [(t 18)])])
 (c (t 19) (r [p 20 (.mov (t 5)), p 21 (.mov (t 6)), p 22 (.mov (t 5)), p 23 (.mov (t 6)), p 24 (.idxAddr 2 (t 22) (t 23)), p 25 (.fieldAddr 1 (t 24)), p 26 (.load none (t 25)), p 27 (.mov (t 1)), p 28 (.call (v (G 163)) [(t 26), (t 27)]), p 29 (.idxAddr 2 (t 20) (t 21)), p 30 (.fieldAddr 1 (t 29)), q (.store 1 (t 30) (t 28))]) .skip))))
 (r [p 31 (.bin .add (t 11) (v (I 1))), p 11 (.mov (t 31))])))))))
 (a (r [p 32 (.mov (t 5)), p 4 (.mov (t 32))])
 .ret))))⟩
theorem H204 : funcsOf Tryz.prog [] 204 = some k204 := by kernel_rfl
def k205 : AFn := ⟨11, [(4, none)],
 (a (r [p 4 (.mov (v L))])
 (a (r [p 5 (.mov (t 0)), p 6 (.fieldAddr 2 (t 1)), p 7 (.load none (t 6)), p 8 (.fieldAddr 2 (t 2)), p 9 (.load none (t 8)), p 10 (.call (v (G 206)) [(t 5), (t 7), (t 9)]), p 4 (.mov (t 10))])
 .ret))⟩
theorem H205 : funcsOf Tryz.prog [] 205 = some k205 := by kernel_rfl
def k206 : AFn := ⟨30, [(6, none)],
 (a (r [p 6 (.mov (v L))])
 (a (.block 0 (a (r [p 8 (.mov (t 1)), p 9 (.bin .leq (t 8) (v O)), p 10 (.mov (t 9)), g 11 10 true (.mov (t 2)), g 12 10 true (.bin .gtr (t 11) (v O)), p 13 (.pick (t 10) (t 12) (v B)), p 7 (.mov (t 13))])
 (c (t 7) (a (r [p 14 (.mov (t 0)), p 15 (.mov (t 0)), p 16 (.call (v (G 291)) [(t 15)]), p 17 (.call (v (G 290)) [(t 14), (v (S [67, 97, 99, 104, 101, 45, 67, 111, 110, 116, 114, 111, 108])), (v (S [110, 111, 45, 99, 97, 99, 104, 101])), (t 16)]), p 6 (.mov (t 17))])
 .ret) (a (r [p 19 (.mov (t 1)), p 20 (.bin .gtr (t 19) (v O)), p 21 (.mov (t 20)), g 22 21 true (.mov (t 2)), g 23 21 true (.bin .leq (t 22) (v O)), p 24 (.pick (t 21) (t 23) (v B)), p 18 (.mov (t 24))])
 (c (t 18) (a (r [p 25 (.mov (t 0)), p 26 (.mov (t 0)), p 27 (.call (v (G 292)) [(t 26), (v (S [110, 111, 45, 99, 97, 99, 104, 101]))]), p 28 (.call (v (G 290)) [(t 25), (v (S [80, 114, 97, 103, 109, 97])), (v (S [110, 111, 45, 99, 97, 99, 104, 101])), (t 27)]), p 6 (.mov (t 28))])
 .ret) .skip)))))
 (a (r [p 29 (.mov (t 0)), p 6 (.mov (t 29))])
 .ret)))⟩
theorem H206 : funcsOf Tryz.prog [] 206 = some k206 := by kernel_rfl
def k207 : AFn := ⟨11, [(4, none)],
 (a (r [p 4 (.mov (v L))])
 (a (r [p 5 (.mov (t 0)), p 6 (.fieldAddr 2 (t 1)), p 7 (.load none (t 6)), p 8 (.fieldAddr 0 (t 2)), p 9 (.load none (t 8)), p 10 (.call (v (G 208)) [(t 5), (t 7), (t 9)]), p 4 (.mov (t 10))])
 .ret))⟩
theorem H207 : funcsOf Tryz.prog [] 207 = some k207 := by kernel_rfl
def k208 : AFn := ⟨17, [(6, none)],
 (a (r [p 6 (.mov (v L))])
 (a (r [p 8 (.mov (t 2)), p 9 (.build [E, E, E] [(0, 1, (v (S [49, 46, 49]))), (1, 1, (t 8))]), p 7 (.alloc [E, E, E] 346), q (.store 3 (t 7) (t 9))])
 (a (a (r [p 10 (.mov (t 1)), p 11 (.bin .leq (t 10) (v O))])
 (c (t 11) (r [p 12 (.fieldAddr 0 (t 7)), q (.store 1 (t 12) (v (S [49, 46, 48])))]) .skip))
 (a (r [p 13 (.mov (t 0)), p 14 (.load (some 3) (t 7)), p 15 (.call (v (G 293)) [(t 14)]), p 16 (.call (v (G 200)) [(t 13), (v (S [86, 105, 97])), (t 15)]), p 6 (.mov (t 16))])
 .ret))))⟩
theorem H208 : funcsOf Tryz.prog [] 208 = some k208 := by kernel_rfl
def k209 : AFn := ⟨4, [(2, none)],
 (a (r [p 1 (.box 2 76 (t 0)), p 2 (.mov (v .nilFunc))])
 (a (r [p 3 (.mkFunc (.func 294) [] [(t 1)]), p 2 (.mov (t 3))])
 .ret))⟩
theorem H209 : funcsOf Tryz.prog [] 209 = some k209 := by kernel_rfl
def k210 : AFn := ⟨4, [(2, none)],
 (a (r [p 1 (.box 18 25 (t 0)), p 2 (.mov (v .nilFunc))])
 (a (r [p 3 (.mkFunc (.func 296) [] [(t 1)]), p 2 (.mov (t 3))])
 .ret))⟩
theorem H210 : funcsOf Tryz.prog [] 210 = some k210 := by kernel_rfl
def k211 : AFn := ⟨28, [(4, none)],
 (a (r [p 3 (.box 3 245 (t 1)), p 4 (.mov (v E))])
 (a (.block 0 (a (r [p 6 (.fieldAddr 0 (t 3)), p 7 (.load none (t 6)), p 8 (.bin .neq (t 7) (v (I 2))), p 5 (.mov (t 8))])
 (c (t 5) (a (r [p 9 (.load (some 3) (t 3)), p 10 (.call (v (G 297)) [(t 9)]), p 4 (.mov (t 10))])
 .ret) (a (r [p 12 (.fieldAddr 2 (t 3)), p 13 (.load none (t 12)), p 14 (.bin .eql (t 13) (v E)), p 15 (.mov (t 14)), g 16 15 true (.mov (t 0)), g 17 15 true (.bin .eql (t 16) (v (S [79, 80, 84, 73, 79, 78, 83]))), p 18 (.pick (t 15) (t 17) (v B)), p 11 (.mov (t 18))])
 (c (t 11) (a (r [p 4 (.mov (v (S [42])))])
 .ret) (a (r [p 20 (.fieldAddr 2 (t 3)), p 21 (.load none (t 20)), p 22 (.call (v (G 298)) [(t 21), (v (S [47]))]), p 19 (.mov (t 22))])
 (c (t 19) (a (r [p 23 (.fieldAddr 2 (t 3)), p 24 (.load none (t 23)), p 4 (.mov (t 24))])
 .ret) .skip)))))))
 (a (r [p 25 (.fieldAddr 2 (t 3)), p 26 (.load none (t 25)), p 27 (.bin .add (v (S [47])) (t 26)), p 4 (.mov (t 27))])
 .ret)))⟩
theorem H211 : funcsOf Tryz.prog [] 211 = some k211 := by kernel_rfl
def k212 : AFn := ⟨27, [(4, none)],
 (a (r [p 4 (.mov (v L))])
 (a (r [p 5 (.mov (v L))])
 (a (a (r [p 7 (.mov (t 0)), p 8 (.lenSlice (t 7)), p 9 (.mov (v O))])
 (.block 0 (.loop (a (r [p 10 (.bin .lss (t 9) (t 8))])
 (a (c (t 10) .skip (.exit 0))
 (a (.block 1 (a (r [p 11 (.mov (t 9)), p 6 (.mov (t 11))])
 (a (r [p 12 (.mov (t 1)), p 13 (.mov (t 0)), p 14 (.mov (t 6)), p 15 (.idxAddr 2 (t 13) (t 14)), p 16 (.load (some 2) (t 15)), p 17 (.call (t 12) [(t 16)])])
 (c (t 17) (r [p 18 (.mov (t 5)), p 19 (.mov (t 0)), p 20 (.mov (t 6)), p 21 (.idxAddr 2 (t 19) (t 20)), p 22 (.load (some 2) (t 21)), p 23 (.buildSlice [E, E] 243 1 [(0, 2, (t 22))]), p 24 (.append 243 2 32 (t 18) (t 23)), p 5 (.mov (t 24))]) .skip))))
 (r [p 25 (.bin .add (t 9) (v (I 1))), p 9 (.mov (t 25))])))))))
 (a (r [p 26 (.mov (t 5)), p 4 (.mov (t 26))])
 .ret))))⟩
theorem H212 : funcsOf Tryz.prog [] 212 = some k212 := by kernel_rfl
def k213 : AFn := ⟨3, [(2, none)],
 (a (r [p 1 (.box 2 243 (t 0)), p 2 (.mov (v B))])
 (a (r [p 2 (.mov (v Y))])
 .ret))⟩
theorem H213 : funcsOf Tryz.prog [] 213 = some k213 := by kernel_rfl
def k214 : AFn := ⟨5, [(2, none)],
 (a (r [p 2 (.mov (v L))])
 (a (r [p 3 (.mov (t 0)), p 4 (.call (v (G 212)) [(t 3), (v (G 299))]), p 2 (.mov (t 4))])
 .ret))⟩
theorem H214 : funcsOf Tryz.prog [] 214 = some k214 := by kernel_rfl
def k217 : AFn := ⟨15, [(2, none)],
 (a (r [p 1 (.box 2 243 (t 0)), p 2 (.mov (v E))])
 (a (a (r [p 3 (.fieldAddr 1 (t 1)), p 4 (.load none (t 3)), p 5 (.bin .eql (t 4) (v E))])
 (c (t 5) (a (r [p 6 (.fieldAddr 0 (t 1)), p 7 (.load none (t 6)), p 8 (.bin .add (t 7) (v (S [58]))), p 2 (.mov (t 8))])
 .ret) .skip))
 (a (r [p 9 (.fieldAddr 0 (t 1)), p 10 (.load none (t 9)), p 11 (.bin .add (t 10) (v (S [58, 32]))), p 12 (.fieldAddr 1 (t 1)), p 13 (.load none (t 12)), p 14 (.bin .add (t 11) (t 13)), p 2 (.mov (t 14))])
 .ret)))⟩
theorem H217 : funcsOf Tryz.prog [] 217 = some k217 := by kernel_rfl
def k218 : AFn := ⟨29, [(2, none)],
 (a (r [p 1 (.box 6 74 (t 0)), p 2 (.mov (v E))])
 (a (a (r [p 3 (.fieldAddr 0 (t 1)), p 4 (.load none (t 3)), p 5 (.bin .neq (t 4) (v E))])
 (c (t 5) (a (z [⟨(some 6), .fieldAddr 0 (t 1), none, [1], 0, 1, false⟩, ⟨(some 7), .load none (t 6), none, [6], 0, 1, false⟩, ⟨(some 8), .bin .add (t 7) (v (S [32])), none, [7], 0, 1, false⟩, ⟨(some 9), .fieldAddr 1 (t 1), none, [1], 0, 1, false⟩, ⟨(some 10), .load none (t 9), none, [9], 0, 1, false⟩, ⟨(some 11), .bin .add (t 8) (t 10), none, [8, 10], 0, 1, false⟩, ⟨(some 12), .bin .add (t 11) (v (S [32])), none, [11], 0, 1, false⟩, ⟨(some 13), .fieldAddr 2 (t 1), none, [1], 0, 0, false⟩, ⟨(some 14), .load none (t 13), none, [13], 0, 0, false⟩, ⟨(some 15), .call (v (G 302)) [(t 14)], none, [14], 0, 1, false⟩, ⟨(some 16), .bin .add (t 12) (t 15), none, [12, 15], 1, 1, false⟩, ⟨(some 2), .mov (t 16), none, [16], 1, 1, false⟩])
 .ret) .skip))
 (a (z [⟨(some 17), .fieldAddr 2 (t 1), none, [1], 0, 0, false⟩, ⟨(some 18), .load none (t 17), none, [17], 0, 0, false⟩, ⟨(some 19), .call (v (G 302)) [(t 18)], none, [18], 0, 1, false⟩, ⟨(some 20), .bin .add (t 19) (v (S [32])), none, [19], 1, 2, false⟩, ⟨(some 21), .fieldAddr 3 (t 1), none, [1], 0, 1, false⟩, ⟨(some 22), .load none (t 21), none, [21], 0, 1, false⟩, ⟨(some 23), .call (v (G 303)) [(t 22), (v (I 3))], none, [22], 1, 2, false⟩, ⟨(some 24), .bin .add (t 20) (t 23), none, [20, 23], 2, 2, false⟩, ⟨(some 25), .bin .add (t 24) (v (S [32])), none, [24], 2, 2, false⟩, ⟨(some 26), .fieldAddr 4 (t 1), none, [1], 0, 2, false⟩, ⟨(some 27), .load none (t 26), none, [26], 0, 2, false⟩, ⟨(some 28), .bin .add (t 25) (t 27), none, [25, 27], 2, 2, false⟩, ⟨(some 2), .mov (t 28), none, [28], 2, 2, false⟩])
 .ret)))⟩
theorem H218 : funcsOf Tryz.prog [] 218 = some k218 := by kernel_rfl
def k222 : AFn := ⟨11, [(2, none)],
 (a (r [p 2 (.mov (v B))])
 (a (r [p 3 (.mov (t 0)), p 4 (.eq true .ptr (t 3) (v N)), p 5 (.mov (t 4)), g 6 5 true (.mov (t 0)), g 7 5 true (.nilCheck (t 6)), g 8 5 true (.fieldAddr 3 (t 7)), g 9 5 true (.load none (t 8)), p 10 (.pick (t 5) (t 9) (v B)), p 2 (.mov (t 10))])
 .ret))⟩
theorem H222 : funcsOf Tryz.prog [] 222 = some k222 := by kernel_rfl
def k228 : AFn := ⟨12, [(2, none)],
 (a (r [p 2 (.mov (v N))])
 (a (a (r [p 3 (.mov (t 0)), p 4 (.bin .lss (t 3) (v O)), p 5 (.mov (t 4)), g 6 5 false (.mov (t 0)), g 7 5 false (.bin .gtr (t 6) (v (I 65536))), p 8 (.pick (t 5) (v Y) (t 7))])
 (c (t 8) (a (r [p 2 (.mov (v N))])
 .ret) .skip))
 (a (r [p 9 (.mov (t 0)), p 10 (.build [O, O, L, B, B, B, O] [(0, 1, (t 9))]), p 11 (.box 7 359 (t 10)), p 2 (.mov (t 11))])
 .ret)))⟩
theorem H228 : funcsOf Tryz.prog [] 228 = some k228 := by kernel_rfl
def k229 : AFn := ⟨24, [(2, none), (3, none), (4, none)],
 (a (r [p 2 (.mov (v E)), p 3 (.mov (v E)), p 4 (.mov (v B))])
 (a (r [p 6 (.mov (t 0)), p 7 (.call (v (G 321)) [(t 6), (v (.int .u8 58))]), p 5 (.mov (t 7))])
 (a (a (r [p 8 (.mov (t 5)), p 9 (.mov (t 0)), p 10 (.call (v (G 322)) [(t 9), (v (.int .u8 93))]), p 11 (.bin .lss (t 8) (t 10)), p 12 (.mov (t 11)), g 13 12 false (.mov (t 5)), g 14 12 false (.bin .lss (t 13) (v O)), p 15 (.pick (t 12) (v Y) (t 14))])
 (c (t 15) (a (r [p 16 (.mov (t 0)), p 2 (.mov (t 16)), p 3 (.mov (v E)), p 4 (.mov (v B))])
 .ret) .skip))
 (a (z [⟨(some 17), .mov (t 0), none, [0], 0, 0, false⟩, ⟨(some 18), .mov (t 5), none, [5], 0, 0, false⟩, ⟨(some 19), .sliceStr (t 17) none (some (t 18)), none, [17, 18], 0, 0, false⟩, ⟨(some 20), .mov (t 0), none, [0], 0, 0, false⟩, ⟨(some 21), .mov (t 5), none, [5], 0, 0, false⟩, ⟨(some 22), .bin .add (t 21) (v (I 1)), none, [21], 0, 0, false⟩, ⟨(some 23), .sliceStr (t 20) (some (t 22)) none, none, [20, 22], 0, 0, false⟩, ⟨(some 2), .mov (t 19), none, [19], 0, 0, false⟩, ⟨(some 3), .mov (t 23), none, [23], 0, 0, false⟩, p 4 (.mov (v Y))])
 .ret))))⟩
theorem H229 : funcsOf Tryz.prog [] 229 = some k229 := by kernel_rfl
def k230 : AFn := ⟨36, [(2, none)],
 (a (r [p 2 (.mov (v B))])
 (a (r [p 3 (.mov (v O))])
 (a (a (r [p 6 (.mov (t 0)), p 7 (.rangeStr (t 6))])
 (.block 0 (.loop (a (r [p 8 (.nextStr (t 7)), p 9 (.extract (t 8) 0)])
 (a (c (t 9) .skip (.exit 0))
 (.block 1 (a (r [p 10 (.extract (t 8) 2), p 5 (.mov (t 10))])
 (.block 2 (a (r [p 12 (.mov (t 3)), p 13 (.bin .gtr (t 12) (v O)), p 14 (.mov (t 13)), g 15 14 true (.mov (t 5)), g 16 14 true (.call (v (G 323)) [(t 15)]), p 17 (.pick (t 14) (t 16) (v B)), p 11 (.mov (t 17))])
 (c (t 11) (r [p 18 (.mov (t 3)), p 19 (.bin .sub (t 18) (v (I 1))), p 3 (.mov (t 19))]) (a (r [p 21 (.mov (t 3)), p 22 (.bin .gtr (t 21) (v O)), p 20 (.mov (t 22))])
 (c (t 20) (a (r [p 2 (.mov (v B))])
 .ret) (a (r [p 24 (.mov (t 5)), p 25 (.bin .eql (t 24) (v (.int .i32 37))), p 23 (.mov (t 25))])
 (c (t 23) (r [p 3 (.mov (v (I 2)))]) (a (r [p 27 (.mov (t 5)), p 28 (.call (v (G 324)) [(t 27)]), p 29 (.un .not (t 28)), p 26 (.mov (t 29))])
 (c (t 26) (a (r [p 2 (.mov (v B))])
 .ret) .skip))))))))))))))))
 (a (r [p 30 (.mov (t 0)), p 31 (.bin .neq (t 30) (v E)), p 32 (.mov (t 31)), g 33 32 true (.mov (t 3)), g 34 32 true (.bin .eql (t 33) (v O)), p 35 (.pick (t 32) (t 34) (v B)), p 2 (.mov (t 35))])
 .ret))))⟩
theorem H230 : funcsOf Tryz.prog [] 230 = some k230 := by kernel_rfl
def k233 : AFn := ⟨23, [(2, none)],
 (a (r [p 2 (.mov (v E))])
 (a (r [p 6 (.mov (t 0)), p 7 (.toBytes 5 (t 6)), p 3 (.mov (t 7))])
 (a (a (r [p 8 (.mov (t 3)), p 9 (.lenSlice (t 8)), p 10 (.mov (v O))])
 (.block 0 (.loop (a (r [p 11 (.bin .lss (t 10) (t 9))])
 (a (c (t 11) .skip (.exit 0))
 (a (.block 1 (a (r [p 12 (.mov (t 10)), p 13 (.idxAddr 1 (t 8) (t 10)), p 14 (.load none (t 13)), p 4 (.mov (t 12)), p 5 (.mov (t 14))])
 (r [p 15 (.mov (t 3)), p 16 (.mov (t 4)), p 17 (.mov (t 5)), p 18 (.call (v (G 328)) [(t 17)]), p 19 (.idxAddr 1 (t 15) (t 16)), q (.store 1 (t 19) (t 18))])))
 (r [p 20 (.bin .add (t 10) (v (I 1))), p 10 (.mov (t 20))])))))))
 (a (r [p 21 (.mov (t 3)), p 22 (.ofBytes (t 21)), p 2 (.mov (t 22))])
 .ret))))⟩
theorem H233 : funcsOf Tryz.prog [] 233 = some k233 := by kernel_rfl
def k244 : AFn := ⟨143, [(4, none)],
 (a (r [p 4 (.mov (v O))])
 (a (r [p 14 (.mov (t 1)), p 15 (.lenStr (t 14)), p 5 (.mov (t 15))])
 (a (.block 0 (a (r [p 17 (.mov (t 5)), p 18 (.bin .eql (t 17) (v O)), p 19 (.mov (t 18)), g 20 19 false (.mov (t 1)), g 21 19 false (.mov (t 0)), g 22 19 false (.bin .eql (t 20) (t 21)), p 23 (.pick (t 19) (v Y) (t 22)), p 16 (.mov (t 23))])
 (c (t 16) (a (r [p 4 (.mov (v O))])
 .ret) (a (r [p 25 (.mov (t 5)), p 26 (.bin .eql (t 25) (v (I 1))), p 24 (.mov (t 26))])
 (c (t 24) (a (r [p 27 (.mov (t 0)), p 28 (.mov (t 1)), p 29 (.idxStr (t 28) (v O)), p 30 (.call (v (G 351)) [(t 27), (t 29)]), p 4 (.mov (t 30))])
 .ret) (a (r [p 32 (.mov (t 5)), p 33 (.mov (t 0)), p 34 (.lenStr (t 33)), p 35 (.bin .geq (t 32) (t 34)), p 31 (.mov (t 35))])
 (c (t 31) (a (r [p 4 (.mov (v (I (-1))))])
 .ret) (a (r [p 37 (.mov (t 5)), p 38 (.stuck), p 39 (.bin .leq (t 37) (t 38)), p 40 (.mov (t 39)), g 41 40 true (.mov (t 0)), g 42 40 true (.lenStr (t 41)), g 43 40 true (.bin .leq (t 42) (v (I 64))), p 44 (.pick (t 40) (t 43) (v B)), p 36 (.mov (t 44))])
 (c (t 36) (a (r [p 45 (.mov (t 0)), p 46 (.mov (t 1)), p 47 (.call (v (G 352)) [(t 45), (t 46)]), p 4 (.mov (t 47))])
 .ret) .skip)))))))))
 (a (r [p 48 (.mov (t 1)), p 49 (.idxStr (t 48) (v O)), p 6 (.mov (t 49))])
 (a (r [p 50 (.mov (t 1)), p 51 (.idxStr (t 50) (v (I 1))), p 7 (.mov (t 51))])
 (a (r [p 8 (.mov (v O))])
 (a (r [p 52 (.mov (t 0)), p 53 (.lenStr (t 52)), p 54 (.mov (t 5)), p 55 (.bin .sub (t 53) (t 54)), p 56 (.bin .add (t 55) (v (I 1))), p 9 (.mov (t 56))])
 (a (r [p 10 (.mov (v O))])
 (a (.block 1 (.loop (a (a (r [p 57 (.mov (t 8)), p 58 (.mov (t 9)), p 59 (.bin .lss (t 57) (t 58))])
 (c (t 59) .skip (.exit 1)))
 (.block 2 (a (a (r [p 60 (.mov (t 0)), p 61 (.mov (t 8)), p 62 (.idxStr (t 60) (t 61)), p 63 (.mov (t 6)), p 64 (.bin .neq (t 62) (t 63))])
 (c (t 64) (a (r [p 65 (.mov (t 0)), p 66 (.mov (t 8)), p 67 (.bin .add (t 66) (v (I 1))), p 68 (.mov (t 9)), p 69 (.sliceStr (t 65) (some (t 67)) (some (t 68))), p 70 (.mov (t 6)), p 71 (.call (v (G 351)) [(t 69), (t 70)]), p 11 (.mov (t 71))])
 (a (a (r [p 72 (.mov (t 11)), p 73 (.bin .lss (t 72) (v O))])
 (c (t 73) (a (r [p 4 (.mov (v (I (-1))))])
 .ret) .skip))
 (r [p 74 (.mov (t 8)), p 75 (.mov (t 11)), p 76 (.bin .add (t 75) (v (I 1))), p 77 (.bin .add (t 74) (t 76)), p 8 (.mov (t 77))]))) .skip))
 (a (a (r [p 78 (.mov (t 0)), p 79 (.mov (t 8)), p 80 (.bin .add (t 79) (v (I 1))), p 81 (.idxStr (t 78) (t 80)), p 82 (.mov (t 7)), p 83 (.bin .eql (t 81) (t 82)), p 84 (.mov (t 83)), g 85 84 true (.mov (t 0)), g 86 84 true (.mov (t 8)), g 87 84 true (.mov (t 8)), g 88 84 true (.mov (t 5)), g 89 84 true (.bin .add (t 87) (t 88)), g 90 84 true (.sliceStr (t 85) (some (t 86)) (some (t 89))), g 91 84 true (.mov (t 1)), g 92 84 true (.bin .eql (t 90) (t 91)), p 93 (.pick (t 84) (t 92) (v B))])
 (c (t 93) (a (r [p 94 (.mov (t 8)), p 4 (.mov (t 94))])
 .ret) .skip))
 (a (r [p 95 (.mov (t 8)), p 96 (.bin .add (t 95) (v (I 1))), p 8 (.mov (t 96))])
 (a (r [p 97 (.mov (t 10)), p 98 (.bin .add (t 97) (v (I 1))), p 10 (.mov (t 98))])
 (a (r [p 99 (.mov (t 5)), p 100 (.stuck), p 101 (.bin .leq (t 99) (t 100)), p 102 (.mov (t 101)), g 103 102 true (.mov (t 10)), g 104 102 true (.mov (t 8)), g 105 102 true (.call (v (G 353)) [(t 104)]), g 106 102 true (.bin .gtr (t 103) (t 105)), p 107 (.pick (t 102) (t 106) (v B))])
 (c (t 107) (a (r [p 108 (.mov (t 0)), p 109 (.mov (t 8)), p 110 (.sliceStr (t 108) (some (t 109)) none), p 111 (.mov (t 1)), p 112 (.call (v (G 352)) [(t 110), (t 111)]), p 12 (.mov (t 112))])
 (a (a (r [p 113 (.mov (t 12)), p 114 (.bin .geq (t 113) (v O))])
 (c (t 114) (a (r [p 115 (.mov (t 12)), p 116 (.mov (t 8)), p 117 (.bin .add (t 115) (t 116)), p 4 (.mov (t 117))])
 .ret) .skip))
 (a (r [p 4 (.mov (v (I (-1))))])
 .ret))) (a (r [p 118 (.mov (t 5)), p 119 (.stuck), p 120 (.bin .gtr (t 118) (t 119)), p 121 (.mov (t 120)), g 122 121 true (.mov (t 10)), g 123 121 true (.mov (t 8)), g 124 121 true (.bin .shr (t 123) (v (.int .u64 4))), g 125 121 true (.bin .add (v (I 4)) (t 124)), g 126 121 true (.bin .geq (t 122) (t 125)), p 127 (.pick (t 121) (t 126) (v B)), p 128 (.mov (t 127)), g 129 128 true (.mov (t 8)), g 130 128 true (.mov (t 9)), g 131 128 true (.bin .lss (t 129) (t 130)), p 132 (.pick (t 128) (t 131) (v B))])
 (c (t 132) (a (r [p 133 (.mov (t 0)), p 134 (.mov (t 8)), p 135 (.sliceStr (t 133) (some (t 134)) none), p 136 (.mov (t 1)), p 137 (.call (v (G 354)) [(t 135), (t 136)]), p 13 (.mov (t 137))])
 (a (a (r [p 138 (.mov (t 13)), p 139 (.bin .lss (t 138) (v O))])
 (c (t 139) (a (r [p 4 (.mov (v (I (-1))))])
 .ret) .skip))
 (a (r [p 140 (.mov (t 8)), p 141 (.mov (t 13)), p 142 (.bin .add (t 140) (t 141)), p 4 (.mov (t 142))])
 .ret))) .skip))))))))))))
 (a (r [p 4 (.mov (v (I (-1))))])
 .ret))))))))))⟩
theorem H244 : funcsOf Tryz.prog [] 244 = some k244 := by kernel_rfl
def k246 : AFn := ⟨23, [(4, none), (5, none), (6, none)],
 (a (r [p 4 (.mov (v E)), p 5 (.mov (v E)), p 6 (.mov (v B))])
 (a (a (r [p 8 (.mov (t 0)), p 9 (.mov (t 1)), p 10 (.call (v (G 244)) [(t 8), (t 9)]), p 7 (.mov (t 10))])
 (a (r [p 11 (.mov (t 7)), p 12 (.bin .geq (t 11) (v O))])
 (c (t 12) (a (z [⟨(some 13), .mov (t 0), none, [0], 0, 0, false⟩, ⟨(some 14), .mov (t 7), none, [7], 0, 0, false⟩, ⟨(some 15), .sliceStr (t 13) none (some (t 14)), none, [13, 14], 0, 0, false⟩, ⟨(some 16), .mov (t 0), none, [0], 0, 0, false⟩, ⟨(some 17), .mov (t 7), none, [7], 0, 0, false⟩, ⟨(some 18), .mov (t 1), none, [1], 0, 0, false⟩, ⟨(some 19), .lenStr (t 18), none, [18], 0, 0, false⟩, ⟨(some 20), .bin .add (t 17) (t 19), none, [17, 19], 0, 0, false⟩, ⟨(some 21), .sliceStr (t 16) (some (t 20)) none, none, [16, 20], 0, 0, false⟩, ⟨(some 4), .mov (t 15), none, [15], 0, 0, false⟩, ⟨(some 5), .mov (t 21), none, [21], 0, 0, false⟩, p 6 (.mov (v Y))])
 .ret) .skip)))
 (a (r [p 22 (.mov (t 0)), p 4 (.mov (t 22)), p 5 (.mov (v E)), p 6 (.mov (v B))])
 .ret)))⟩
theorem H246 : funcsOf Tryz.prog [] 246 = some k246 := by kernel_rfl
def k251 : AFn := ⟨26, [(4, none)],
 (a (r [p 4 (.mov (v B))])
 (a (a (r [p 6 (.mov (t 0)), p 7 (.lenStr (t 6)), p 8 (.mov (t 1)), p 9 (.lenStr (t 8)), p 10 (.bin .neq (t 7) (t 9))])
 (c (t 10) (a (r [p 4 (.mov (v B))])
 .ret) .skip))
 (a (a (r [p 11 (.mov (t 0)), p 12 (.lenStr (t 11)), p 13 (.mov (v O))])
 (.block 0 (.loop (a (r [p 14 (.bin .lss (t 13) (t 12))])
 (a (c (t 14) .skip (.exit 0))
 (a (.block 1 (a (r [p 15 (.mov (t 13)), p 5 (.mov (t 15))])
 (a (z [⟨(some 16), .mov (t 0), none, [0], 0, 0, false⟩, ⟨(some 17), .mov (t 5), none, [5], 0, 0, false⟩, ⟨(some 18), .idxStr (t 16) (t 17), none, [16, 17], 0, 0, false⟩, ⟨(some 19), .call (v (G 328)) [(t 18)], none, [18], 0, 1, false⟩, ⟨(some 20), .mov (t 1), none, [1], 0, 1, false⟩, ⟨(some 21), .mov (t 5), none, [5], 0, 1, false⟩, ⟨(some 22), .idxStr (t 20) (t 21), none, [20, 21], 0, 1, false⟩, ⟨(some 23), .call (v (G 328)) [(t 22)], none, [22], 1, 2, false⟩, ⟨(some 24), .bin .neq (t 19) (t 23), none, [19, 23], 2, 2, false⟩])
 (c (t 24) (a (r [p 4 (.mov (v B))])
 .ret) .skip))))
 (r [p 25 (.bin .add (t 13) (v (I 1))), p 13 (.mov (t 25))])))))))
 (a (r [p 4 (.mov (v Y))])
 .ret))))⟩
theorem H251 : funcsOf Tryz.prog [] 251 = some k251 := by kernel_rfl
def k265 : AFn := ⟨10, [(2, none)],
 (a (r [p 2 (.mov (v O))])
 (a (a (r [p 3 (.mov (t 0)), p 4 (.eq false .ptr (t 3) (v N))])
 (c (t 4) (a (r [p 2 (.mov (v O))])
 .ret) .skip))
 (a (r [p 5 (.mov (t 0)), p 6 (.nilCheck (t 5)), p 7 (.fieldAddr 0 (t 6)), p 8 (.load none (t 7)), p 9 (.lenSlice (t 8)), p 2 (.mov (t 9))])
 .ret)))⟩
theorem H265 : funcsOf Tryz.prog [] 265 = some k265 := by kernel_rfl
def k266 : AFn := ⟨71, [(4, none), (5, none)],
 (a (r [p 4 (.mov (v O)), p 5 (.mov (v L))])
 (a (r [p 11 (.mov (t 0)), p 12 (.nilCheck (t 11)), p 13 (.fieldAddr 16 (t 12)), p 14 (.load none (t 13)), p 15 (.mov (t 1)), p 16 (.call (v (G 378)) [(t 14), (t 15)]), p 10 (.mov (t 16)), p 17 (.extract (t 10) 0), p 18 (.extract (t 10) 1), p 6 (.mov (t 17)), p 7 (.mov (t 18))])
 (a (a (r [p 19 (.mov (t 7)), p 20 (.bin .neq (t 19) (v O))])
 (c (t 20) (a (r [p 21 (.mov (t 6)), p 22 (.mov (t 0)), p 23 (.mov (t 7)), p 24 (.call (v (G 269)) [(t 22), (t 23)]), p 4 (.mov (t 21)), p 5 (.mov (t 24))])
 .ret) .skip))
 (a (a (r [p 25 (.mov (t 0)), p 26 (.nilCheck (t 25)), p 27 (.fieldAddr 16 (t 26)), p 28 (.load none (t 27)), p 29 (.call (v (G 379)) [(t 28)]), p 30 (.un .not (t 29))])
 (c (t 30) (a (r [p 31 (.mov (t 6)), p 4 (.mov (t 31)), p 5 (.mov (v L))])
 .ret) .skip))
 (a (r [p 32 (.mov (t 0)), p 33 (.nilCheck (t 32)), p 34 (.fieldAddr 16 (t 33)), p 35 (.load none (t 34)), p 36 (.call (v (G 380)) [(t 35)]), p 8 (.alloc [E, E, O, O, E, L] 74), q (.store 6 (t 8) (t 36))])
 (a (r [p 38 (.mov (t 0)), p 39 (.load (some 6) (t 8)), p 40 (.call (v (G 381)) [(t 38), (t 39)]), p 37 (.mov (t 40)), p 41 (.extract (t 37) 0), p 42 (.extract (t 37) 1), p 9 (.alloc [O, O] 76), q (.store 2 (t 9) (t 41)), p 7 (.mov (t 42))])
 (a (a (r [p 43 (.mov (t 7)), p 44 (.bin .neq (t 43) (v O))])
 (c (t 44) (a (r [p 45 (.mov (t 6)), p 46 (.mov (t 0)), p 47 (.mov (t 7)), p 48 (.call (v (G 269)) [(t 46), (t 47)]), p 4 (.mov (t 45)), p 5 (.mov (t 48))])
 .ret) .skip))
 (a (z [⟨(some 49), .mov (t 0), none, [0], 0, 1, false⟩, ⟨(some 50), .mov (t 0), none, [0], 0, 2, false⟩, ⟨(some 51), .mov (t 0), none, [0], 0, 3, false⟩, ⟨(some 52), .load (some 6) (t 8), none, [8], 0, 1, false⟩, ⟨(some 53), .load (some 2) (t 9), none, [9], 0, 2, false⟩, ⟨(some 54), .load (some 2) (t 9), none, [9], 0, 0, false⟩, ⟨(some 55), .mov (t 0), none, [0], 0, 0, false⟩, ⟨(some 56), .nilCheck (t 55), none, [55], 0, 0, false⟩, ⟨(some 57), .fieldAddr 10 (t 56), none, [56], 0, 0, false⟩, ⟨(some 58), .load (some 5) (t 57), none, [57], 0, 0, false⟩, ⟨(some 59), .call (v (G 382)) [(t 54), (t 58)], none, [54, 58], 0, 1, false⟩, ⟨(some 60), .nilCheck (t 49), none, [49], 1, 1, false⟩, ⟨(some 61), .fieldAddr 0 (t 60), none, [60], 1, 1, false⟩, ⟨(some 62), .fieldAddr 0 (t 61), none, [61], 1, 1, false⟩, ⟨none, .store 6 (t 62) (t 52), none, [62, 52], 1, 2, false⟩, ⟨(some 63), .nilCheck (t 50), none, [50], 2, 2, false⟩, ⟨(some 64), .fieldAddr 0 (t 63), none, [63], 2, 2, false⟩, ⟨(some 65), .fieldAddr 6 (t 64), none, [64], 2, 2, false⟩, ⟨none, .store 2 (t 65) (t 53), none, [65, 53], 2, 3, false⟩, ⟨(some 66), .nilCheck (t 51), none, [51], 3, 3, false⟩, ⟨(some 67), .fieldAddr 17 (t 66), none, [66], 3, 3, false⟩, ⟨none, .store 1 (t 67) (t 59), none, [67, 59], 3, 4, false⟩])
 (a (r [p 68 (.mov (t 6)), p 69 (.build [O, O, E] [(0, 1, (v (I 1)))]), p 70 (.buildSlice [O, O, E] 152 1 [(0, 3, (t 69))]), p 4 (.mov (t 68)), p 5 (.mov (t 70))])
 .ret)))))))))⟩
theorem H266 : funcsOf Tryz.prog [] 266 = some k266 := by kernel_rfl
def k267 : AFn := ⟨27, [(4, none), (5, none)],
 (a (r [p 4 (.mov (v O)), p 5 (.mov (v L))])
 (a (.block 0 (.loop (a (a (r [p 6 (.mov (t 4)), p 7 (.mov (t 1)), p 8 (.lenStr (t 7)), p 9 (.bin .lss (t 6) (t 8)), p 10 (.mov (t 9)), g 11 10 true (.mov (t 0)), g 12 10 true (.call (v (G 383)) [(t 11)]), p 13 (.pick (t 10) (t 12) (v B))])
 (c (t 13) .skip (.exit 0)))
 (.block 1 (z [⟨(some 14), .mov (t 4), none, [4], 0, 1, false⟩, ⟨(some 15), .mov (t 0), none, [0], 0, 0, false⟩, ⟨(some 16), .nilCheck (t 15), none, [15], 0, 0, false⟩, ⟨(some 17), .fieldAddr 5 (t 16), none, [16], 0, 0, false⟩, ⟨(some 18), .load none (t 17), none, [17], 0, 0, false⟩, ⟨(some 19), .mov (t 1), none, [1], 0, 0, false⟩, ⟨(some 20), .mov (t 4), none, [4], 0, 0, false⟩, ⟨(some 21), .sliceStr (t 19) (some (t 20)) none, none, [19, 20], 0, 0, false⟩, ⟨(some 22), .call (t 18) [(t 21)], none, [18, 21], 0, 1, false⟩, ⟨(some 23), .bin .add (t 14) (t 22), none, [14, 22], 1, 1, false⟩, ⟨(some 4), .mov (t 23), none, [23], 1, 1, false⟩])))))
 (a (r [p 24 (.mov (t 4)), p 25 (.mov (t 0)), p 26 (.call (v (G 384)) [(t 25)]), p 4 (.mov (t 24)), p 5 (.mov (t 26))])
 .ret)))⟩
theorem H267 : funcsOf Tryz.prog [] 267 = some k267 := by kernel_rfl
def k268 : AFn := ⟨35, [(4, none)],
 (a (r [p 4 (.mov (v L))])
 (a (r [p 5 (.mov (t 0)), p 6 (.mov (t 0)), p 7 (.nilCheck (t 6)), p 8 (.fieldAddr 17 (t 7)), p 9 (.load none (t 8)), p 10 (.call (v (G 385)) [(t 9)]), p 11 (.nilCheck (t 5)), p 12 (.fieldAddr 19 (t 11)), q (.store 1 (t 12) (t 10))])
 (a (a (r [p 13 (.mov (t 0)), p 14 (.mov (t 0)), p 15 (.nilCheck (t 14)), p 16 (.fieldAddr 17 (t 15)), p 17 (.load none (t 16)), p 18 (.call (v (G 386)) [(t 17)]), p 19 (.nilCheck (t 13)), p 20 (.fieldAddr 18 (t 19)), q (.store 1 (t 20) (t 18))])
 (a (r [p 21 (.mov (t 0)), p 22 (.nilCheck (t 21)), p 23 (.fieldAddr 18 (t 22)), p 24 (.load none (t 23))])
 (c (t 24) (r [p 25 (.mov (t 0)), p 26 (.mov (t 0)), p 27 (.nilCheck (t 26)), p 28 (.fieldAddr 17 (t 27)), p 29 (.load none (t 28)), p 30 (.call (v (G 387)) [(t 29)]), p 31 (.nilCheck (t 25)), p 32 (.fieldAddr 0 (t 31)), p 33 (.fieldAddr 8 (t 32)), q (.store 1 (t 33) (t 30))]) .skip)))
 (a (r [p 34 (.mov (t 1)), p 4 (.mov (t 34))])
 .ret))))⟩
theorem H268 : funcsOf Tryz.prog [] 268 = some k268 := by kernel_rfl
def k271 : AFn := ⟨9, [(4, none)],
 (a (r [p 3 (.box 1 9 (t 1)), p 4 (.mov (v B))])
 (a (r [p 5 (.mov (t 0)), p 6 (.call (v (G 391)) [(t 5)]), p 7 (.mkFunc (.func 392) [] [(t 3)]), p 8 (.call (v (G 390)) [(t 6), (t 7)]), p 4 (.mov (t 8))])
 .ret))⟩
theorem H271 : funcsOf Tryz.prog [] 271 = some k271 := by kernel_rfl
def k272 : AFn := ⟨16, [(2, none)],
 (a (r [p 2 (.mov (v B))])
 (a (r [p 6 (.mov (t 0)), p 7 (.call (v (G 393)) [(t 6), (v (S [69, 120, 112, 101, 99, 116]))]), p 5 (.mov (t 7)), p 8 (.extract (t 5) 0), p 9 (.extract (t 5) 1), p 3 (.mov (t 8)), p 4 (.mov (t 9))])
 (a (r [p 10 (.mov (t 4)), p 11 (.un .not (t 10)), p 12 (.mov (t 11)), g 13 12 false (.mov (t 3)), g 14 12 false (.call (v (G 251)) [(t 13), (v (S [49, 48, 48, 45, 99, 111, 110, 116, 105, 110, 117, 101]))]), p 15 (.pick (t 12) (v Y) (t 14)), p 2 (.mov (t 15))])
 .ret)))⟩
theorem H272 : funcsOf Tryz.prog [] 272 = some k272 := by kernel_rfl
def k274 : AFn := ⟨5, [(2, (some (some 4)))],
 (a (r [p 1 (.box 2 76 (t 0)), p 2 (.alloc [O, O, B, O] 78)])
 (a (r [p 3 (.load (some 2) (t 1)), p 4 (.build [O, O, B, O] [(0, 2, (t 3))]), q (.store 4 (t 2) (t 4))])
 .ret))⟩
theorem H274 : funcsOf Tryz.prog [] 274 = some k274 := by kernel_rfl
def k279 : AFn := ⟨9, [(2, none)],
 (a (r [p 2 (.mov (v B))])
 (a (r [p 3 (.mov (t 0)), p 4 (.bin .neq (t 3) (v E)), p 5 (.mov (t 4)), g 6 5 true (.mov (t 0)), g 7 5 true (.call (v (G 125)) [(t 6), (v (G 396))]), p 8 (.pick (t 5) (t 7) (v B)), p 2 (.mov (t 8))])
 .ret))⟩
theorem H279 : funcsOf Tryz.prog [] 279 = some k279 := by kernel_rfl
def k280 : AFn := ⟨9, [(4, none)],
 (a (r [p 4 (.mov (v B))])
 (a (r [p 5 (.mov (t 0)), p 6 (.mov (t 1)), p 7 (.call (v (G 157)) [(t 5), (t 6)]), p 8 (.bin .geq (t 7) (v O)), p 4 (.mov (t 8))])
 .ret))⟩
theorem H280 : funcsOf Tryz.prog [] 280 = some k280 := by kernel_rfl
def k284 : AFn := ⟨23, [(6, none)],
 (a (r [p 4 (.box 3 245 (t 1)), p 6 (.mov (v E))])
 (a (r [p 10 (.mkFunc (.func 402) [] [(t 4)]), p 7 (.mov (t 10))])
 (a (a (r [p 11 (.mov (t 7)), p 12 (.call (t 11) [])])
 (c (t 12) (a (r [p 13 (.fieldAddr 1 (t 4)), p 14 (.load none (t 13)), p 6 (.mov (t 14))])
 .ret) .skip))
 (a (a (r [p 16 (.mov (t 0)), p 17 (.call (v (G 403)) [(t 16), (v (S [72, 111, 115, 116]))]), p 15 (.mov (t 17)), p 18 (.extract (t 15) 0), p 19 (.extract (t 15) 1), p 8 (.mov (t 18)), p 9 (.mov (t 19))])
 (a (r [p 20 (.mov (t 9))])
 (c (t 20) (a (r [p 21 (.mov (t 8)), p 6 (.mov (t 21))])
 .ret) .skip)))
 (a (r [p 22 (.mov (t 2)), p 6 (.mov (t 22))])
 .ret)))))⟩
theorem H284 : funcsOf Tryz.prog [] 284 = some k284 := by kernel_rfl
def k285 : AFn := ⟨21, [(2, none)],
 (a (r [p 2 (.mov (v L))])
 (a (r [p 9 (.mov (t 0)), p 10 (.call (v (G 312)) [(t 9)]), p 8 (.mov (t 10)), p 11 (.extract (t 8) 0), p 12 (.extract (t 8) 1), p 3 (.mov (t 11)), p 4 (.mov (t 12))])
 (a (r [p 13 (.call (v (G 404)) []), p 5 (.alloc [E, E, E] 365), q (.store 3 (t 5) (t 13))])
 (a (r [p 14 (.mkFunc (.func 405) [] [(t 5)]), p 6 (.mov (t 14))])
 (a (r [p 15 (.call (v (G 408)) []), p 7 (.alloc [E, E, E, E, E, E, E] 367), q (.store 7 (t 7) (t 15))])
 (a (z [⟨(some 16), .sliceArr 7 1 (t 7) none none none, none, [7], 0, 1, false⟩, ⟨(some 17), .mov (t 3), none, [3], 0, 0, false⟩, ⟨(some 18), .mov (t 6), none, [6], 0, 0, false⟩, ⟨(some 19), .call (v (G 409)) [(t 17), (t 18)], none, [17, 18], 0, 1, false⟩, ⟨(some 20), .append 9 1 16 (t 16) (t 19), none, [16, 19], 1, 2, false⟩, ⟨(some 2), .mov (t 20), none, [20], 2, 2, false⟩])
 .ret))))))⟩
theorem H285 : funcsOf Tryz.prog [] 285 = some k285 := by kernel_rfl
def k286 : AFn := ⟨42, [(4, none)],
 (a (r [p 4 (.mov (v L))])
 (a (r [p 8 (.mov (t 0)), p 9 (.mov (t 1)), p 10 (.call (v (G 410)) [(t 8), (t 9)]), p 5 (.mov (t 10))])
 (a (a (r [p 11 (.mov (t 5)), p 12 (.bin .eql (t 11) (v (I (-1))))])
 (c (t 12) (a (r [p 13 (.mov (t 0)), p 4 (.mov (t 13))])
 .ret) .skip))
 (a (a (r [p 14 (.mov (t 5)), p 15 (.bin .add (t 14) (v (I 1))), p 6 (.mov (t 15))])
 (.block 0 (.loop (a (a (r [p 16 (.mov (t 6)), p 17 (.mov (t 0)), p 18 (.lenSlice (t 17)), p 19 (.bin .lss (t 16) (t 18))])
 (c (t 19) .skip (.exit 0)))
 (a (.block 1 (a (r [p 22 (.mov (t 0)), p 23 (.mov (t 6)), p 24 (.idxAddr 2 (t 22) (t 23)), p 25 (.load (some 2) (t 24)), p 7 (.alloc [E, E] 243), q (.store 2 (t 7) (t 25))])
 (a (r [p 26 (.mov (t 1)), p 27 (.load (some 2) (t 7)), p 28 (.call (t 26) [(t 27)]), p 29 (.un .not (t 28))])
 (c (t 29) (a (r [p 30 (.mov (t 0)), p 31 (.mov (t 5)), p 32 (.load (some 2) (t 7)), p 33 (.idxAddr 2 (t 30) (t 31)), q (.store 2 (t 33) (t 32))])
 (r [p 34 (.mov (t 5)), p 35 (.bin .add (t 34) (v (I 1))), p 5 (.mov (t 35))])) .skip))))
 (r [p 20 (.mov (t 6)), p 21 (.bin .add (t 20) (v (I 1))), p 6 (.mov (t 21))]))))))
 (a (r [p 36 (.mov (t 0)), p 37 (.mov (t 5)), p 38 (.slice 2 (t 36) (some (t 37)) none none), q (.clearSlice [E, E] (t 38))])
 (a (r [p 39 (.mov (t 0)), p 40 (.mov (t 5)), p 41 (.slice 2 (t 39) none (some (t 40)) none), p 4 (.mov (t 41))])
 .ret))))))⟩
theorem H286 : funcsOf Tryz.prog [] 286 = some k286 := by kernel_rfl
def k287 : AFn := ⟨4, [(2, none)],
 (a (r [p 1 (.box 1 60 (t 0)), p 2 (.mov (v .nilFunc))])
 (a (r [p 3 (.mkFunc (.func 411) [] [(t 1)]), p 2 (.mov (t 3))])
 .ret))⟩
theorem H287 : funcsOf Tryz.prog [] 287 = some k287 := by kernel_rfl
def k288 : AFn := ⟨41, [(6, none)],
 (a (r [p 6 (.mov (v L))])
 (a (r [p 10 (.mov (t 1)), p 11 (.buildSlice [E] 9 1 [(0, 1, (t 10))]), p 12 (.call (v (G 287)) [(t 11)]), p 7 (.mov (t 12))])
 (a (r [p 13 (.mov (t 0)), p 14 (.mov (t 7)), p 15 (.call (v (G 410)) [(t 13), (t 14)]), p 8 (.mov (t 15))])
 (a (a (r [p 16 (.mov (t 8)), p 17 (.bin .lss (t 16) (v O))])
 (c (t 17) (a (r [p 18 (.mov (t 0)), p 19 (.mov (t 1)), p 20 (.mov (t 2)), p 21 (.call (v (G 200)) [(t 18), (t 19), (t 20)]), p 6 (.mov (t 21))])
 .ret) .skip))
 (a (z [⟨(some 22), .mov (t 0), none, [0], 0, 0, false⟩, ⟨(some 23), .mov (t 8), none, [8], 0, 0, false⟩, ⟨(some 24), .slice 2 (t 22) none (some (t 23)) none, none, [22, 23], 0, 0, false⟩, ⟨(some 25), .mov (t 0), none, [0], 0, 0, false⟩, ⟨(some 26), .mov (t 8), none, [8], 0, 0, false⟩, ⟨(some 27), .idxAddr 2 (t 25) (t 26), none, [25, 26], 0, 0, false⟩, ⟨(some 28), .fieldAddr 0 (t 27), none, [27], 0, 0, false⟩, ⟨(some 29), .load none (t 28), none, [28], 0, 0, false⟩, ⟨(some 30), .mov (t 2), none, [2], 0, 0, false⟩, ⟨(some 31), .call (v (G 200)) [(t 24), (t 29), (t 30)], none, [24, 29, 30], 0, 1, false⟩, ⟨(some 9), .mov (t 31), none, [31], 1, 1, false⟩])
 (a (r [p 32 (.mov (t 9)), p 33 (.mov (t 0)), p 34 (.mov (t 8)), p 35 (.bin .add (t 34) (v (I 1))), p 36 (.slice 2 (t 33) (some (t 35)) none none), p 37 (.call (v (G 191)) [(t 36)]), p 38 (.mov (t 7)), p 39 (.call (v (G 286)) [(t 37), (t 38)]), p 40 (.append 243 2 32 (t 32) (t 39)), p 6 (.mov (t 40))])
 .ret))))))⟩
theorem H288 : funcsOf Tryz.prog [] 288 = some k288 := by kernel_rfl
def k289 : AFn := ⟨8, [(2, none)],
 (a (r [p 1 (.box 1 9 (t 0)), p 2 (.mov (v B))])
 (a (r [p 4 (.call (v (G 413)) []), p 3 (.alloc [E, E, E, E, E] 444), q (.store 5 (t 3) (t 4))])
 (a (r [p 5 (.sliceArr 5 1 (t 3) none none none), p 6 (.mkFunc (.func 414) [] [(t 1)]), p 7 (.call (v (G 406)) [(t 5), (t 6)]), p 2 (.mov (t 7))])
 .ret)))⟩
theorem H289 : funcsOf Tryz.prog [] 289 = some k289 := by kernel_rfl
def k293 : AFn := ⟨19, [(2, none)],
 (a (r [p 1 (.box 3 346 (t 0)), p 2 (.mov (v E))])
 (a (r [p 4 (.fieldAddr 0 (t 1)), p 5 (.load none (t 4)), p 6 (.fieldAddr 1 (t 1)), p 7 (.load none (t 6)), p 8 (.buildSlice [E] 9 2 [(0, 1, (t 5)), (1, 1, (t 7))]), p 3 (.mov (t 8))])
 (a (a (r [p 9 (.fieldAddr 2 (t 1)), p 10 (.load none (t 9)), p 11 (.bin .neq (t 10) (v E))])
 (c (t 11) (r [p 12 (.mov (t 3)), p 13 (.fieldAddr 2 (t 1)), p 14 (.load none (t 13)), p 15 (.buildSlice [E] 9 1 [(0, 1, (t 14))]), p 16 (.append 9 1 16 (t 12) (t 15)), p 3 (.mov (t 16))]) .skip))
 (a (r [p 17 (.mov (t 3)), p 18 (.call (v (G 364)) [(t 17), (v (S [32]))]), p 2 (.mov (t 18))])
 .ret))))⟩
theorem H293 : funcsOf Tryz.prog [] 293 = some k293 := by kernel_rfl
def k294 : AFn := ⟨17, [(3, none)],
 (a (r [p 3 (.mov (v L))])
 (a (a (r [p 4 (.fieldAddr 0 (t 1)), p 5 (.load none (t 4))])
 (.block 0 (a (r [p 7 (.bin .eql (t 5) (v (I 1))), p 6 (.mov (t 7))])
 (c (t 6) (a (r [p 8 (.mov (t 0)), p 9 (.fieldAddr 1 (t 1)), p 10 (.load none (t 9)), p 11 (.call (v (G 295)) [(t 8), (t 10)]), p 3 (.mov (t 11))])
 .ret) (a (r [p 13 (.bin .eql (t 5) (v (I 2))), p 12 (.mov (t 13))])
 (c (t 12) (a (r [p 14 (.mov (t 0)), p 15 (.call (v (G 200)) [(t 14), (v (S [84, 114, 97, 110, 115, 102, 101, 114, 45, 69, 110, 99, 111, 100, 105, 110, 103])), (v (S [99, 104, 117, 110, 107, 101, 100]))]), p 3 (.mov (t 15))])
 .ret) .skip))))))
 (a (r [p 16 (.mov (t 0)), p 3 (.mov (t 16))])
 .ret)))⟩
theorem H294 : funcsOf Tryz.prog [] 294 = some k294 := by kernel_rfl
def k296 : AFn := ⟨17, [(3, none)],
 (a (r [p 3 (.mov (v L))])
 (a (.block 0 (a (r [p 5 (.fieldAddr 5 (t 1)), p 6 (.load none (t 5)), p 7 (.bin .eql (t 6) (v O)), p 4 (.mov (t 7))])
 (c (t 4) (a (r [p 8 (.mov (t 0)), p 9 (.call (v (G 200)) [(t 8), (v (S [67, 111, 110, 110, 101, 99, 116, 105, 111, 110])), (v (S [99, 108, 111, 115, 101]))]), p 3 (.mov (t 9))])
 .ret) (a (r [p 11 (.fieldAddr 2 (t 1)), p 12 (.load none (t 11)), p 13 (.bin .leq (t 12) (v O)), p 10 (.mov (t 13))])
 (c (t 10) (a (r [p 14 (.mov (t 0)), p 15 (.call (v (G 200)) [(t 14), (v (S [67, 111, 110, 110, 101, 99, 116, 105, 111, 110])), (v (S [107, 101, 101, 112, 45, 97, 108, 105, 118, 101]))]), p 3 (.mov (t 15))])
 .ret) .skip)))))
 (a (r [p 16 (.mov (t 0)), p 3 (.mov (t 16))])
 .ret)))⟩
theorem H296 : funcsOf Tryz.prog [] 296 = some k296 := by kernel_rfl
def k297 : AFn := ⟨23, [(2, none)],
 (a (r [p 1 (.box 3 245 (t 0)), p 2 (.mov (v E))])
 (a (a (r [p 3 (.fieldAddr 0 (t 1)), p 4 (.load none (t 3))])
 (.block 0 (a (r [p 6 (.bin .eql (t 4) (v (I 1))), p 5 (.mov (t 6))])
 (c (t 5) (a (r [p 7 (.fieldAddr 2 (t 1)), p 8 (.load none (t 7)), p 2 (.mov (t 8))])
 .ret) (a (r [p 10 (.bin .eql (t 4) (v (I 2))), p 9 (.mov (t 10))])
 (c (t 9) (a (r [p 11 (.fieldAddr 1 (t 1)), p 12 (.load none (t 11)), p 13 (.bin .add (v (S [104, 116, 116, 112, 58, 47, 47])) (t 12)), p 14 (.fieldAddr 2 (t 1)), p 15 (.load none (t 14)), p 16 (.bin .add (t 13) (t 15)), p 2 (.mov (t 16))])
 .ret) (a (r [p 18 (.bin .eql (t 4) (v (I 3))), p 17 (.mov (t 18))])
 (c (t 17) (a (r [p 19 (.fieldAddr 1 (t 1)), p 20 (.load none (t 19)), p 2 (.mov (t 20))])
 .ret) (a (r [p 22 (.bin .eql (t 4) (v (I 4))), p 21 (.mov (t 22))])
 (c (t 21) (a (r [p 2 (.mov (v (S [42])))])
 .ret) .skip))))))))))
 (a (r [p 2 (.mov (v E))])
 .ret)))⟩
theorem H297 : funcsOf Tryz.prog [] 297 = some k297 := by kernel_rfl
def k298 : AFn := ⟨8, [(4, none)],
 (a (r [p 4 (.mov (v B))])
 (a (r [p 5 (.mov (t 0)), p 6 (.mov (t 1)), p 7 (.call (v (G 418)) [(t 5), (t 6)]), p 4 (.mov (t 7))])
 .ret))⟩
theorem H298 : funcsOf Tryz.prog [] 298 = some k298 := by kernel_rfl
def k301 : AFn := ⟨28, [(4, none)],
 (a (r [p 4 (.mov (v L))])
 (a (r [p 9 (.mov (t 1)), p 10 (.buildSlice [E] 9 1 [(0, 1, (t 9))]), p 11 (.call (v (G 287)) [(t 10)]), p 5 (.mov (t 11))])
 (a (r [p 6 (.mov (v L))])
 (a (a (r [p 12 (.mov (t 0)), p 13 (.lenSlice (t 12)), p 14 (.mov (v O))])
 (.block 0 (.loop (a (r [p 15 (.bin .lss (t 14) (t 13))])
 (a (c (t 15) .skip (.exit 0))
 (a (.block 1 (a (r [p 16 (.idxAddr 2 (t 12) (t 14)), p 17 (.load (some 2) (t 16)), p 8 (.alloc [E, E] 243), q (.store 2 (t 8) (t 17))])
 (a (r [p 18 (.mov (t 5)), p 19 (.load (some 2) (t 8)), p 20 (.call (t 18) [(t 19)])])
 (c (t 20) (r [p 21 (.mov (t 6)), p 22 (.fieldAddr 1 (t 8)), p 23 (.load none (t 22)), p 24 (.buildSlice [E] 9 1 [(0, 1, (t 23))]), p 25 (.append 9 1 16 (t 21) (t 24)), p 6 (.mov (t 25))]) .skip))))
 (r [p 26 (.bin .add (t 14) (v (I 1))), p 14 (.mov (t 26))])))))))
 (a (r [p 27 (.mov (t 6)), p 4 (.mov (t 27))])
 .ret)))))⟩
theorem H301 : funcsOf Tryz.prog [] 301 = some k301 := by kernel_rfl
def k302 : AFn := ⟨5, [(2, none)],
 (a (r [p 2 (.mov (v E))])
 (a (a (r [p 3 (.mov (t 0)), p 4 (.bin .leq (t 3) (v O))])
 (c (t 4) (a (r [p 2 (.mov (v (S [72, 84, 84, 80, 47, 49, 46, 48])))])
 .ret) .skip))
 (a (r [p 2 (.mov (v (S [72, 84, 84, 80, 47, 49, 46, 49])))])
 .ret)))⟩
theorem H302 : funcsOf Tryz.prog [] 302 = some k302 := by kernel_rfl
def k312 : AFn := ⟨40, [(2, none), (3, none)],
 (a (r [p 2 (.mov (v L)), p 3 (.mov (v O))])
 (a (r [p 11 (.mov (t 0)), p 12 (.call (v (G 393)) [(t 11), (v (S [67, 111, 110, 110, 101, 99, 116, 105, 111, 110]))]), p 10 (.mov (t 12)), p 13 (.extract (t 10) 0), p 14 (.extract (t 10) 1), p 4 (.mov (t 13)), p 5 (.mov (t 14))])
 (a (r [p 16 (.mov (t 4)), p 17 (.call (v (G 424)) [(t 16)]), p 15 (.mov (t 17)), p 18 (.extract (t 15) 0), p 19 (.extract (t 15) 1), p 6 (.mov (t 18)), p 7 (.mov (t 19))])
 (a (a (r [p 20 (.mov (t 7)), p 21 (.un .not (t 20)), p 22 (.mov (t 21)), g 23 22 false (.mov (t 6)), g 24 22 false (.call (v (G 406)) [(t 23), (v (G 425))]), p 25 (.pick (t 22) (v Y) (t 24))])
 (c (t 25) (a (r [p 2 (.mov (v L)), p 3 (.mov (v (I 3)))])
 .ret) .skip))
 (a (a (r [p 26 (.mov (t 6)), p 27 (.lenSlice (t 26)), p 28 (.mov (v O))])
 (.block 0 (.loop (a (r [p 29 (.bin .lss (t 28) (t 27))])
 (a (c (t 29) .skip (.exit 0))
 (a (.block 1 (a (r [p 30 (.mov (t 28)), p 31 (.idxAddr 1 (t 26) (t 28)), p 32 (.load none (t 31)), p 8 (.mov (t 30)), p 9 (.mov (t 32))])
 (r [p 33 (.mov (t 6)), p 34 (.mov (t 8)), p 35 (.mov (t 9)), p 36 (.call (v (G 233)) [(t 35)]), p 37 (.idxAddr 1 (t 33) (t 34)), q (.store 1 (t 37) (t 36))])))
 (r [p 38 (.bin .add (t 28) (v (I 1))), p 28 (.mov (t 38))])))))))
 (a (r [p 39 (.mov (t 6)), p 2 (.mov (t 39)), p 3 (.mov (v O))])
 .ret))))))⟩
theorem H312 : funcsOf Tryz.prog [] 312 = some k312 := by kernel_rfl
def k321 : AFn := ⟨8, [(4, none)],
 (a (r [p 4 (.mov (v O))])
 (a (r [p 5 (.mov (t 0)), p 6 (.mov (t 1)), p 7 (.call (v (G 429)) [(t 5), (t 6)]), p 4 (.mov (t 7))])
 .ret))⟩
theorem H321 : funcsOf Tryz.prog [] 321 = some k321 := by kernel_rfl
def k322 : AFn := ⟨8, [(4, none)],
 (a (r [p 4 (.mov (v O))])
 (a (r [p 5 (.mov (t 0)), p 6 (.mov (t 1)), p 7 (.call (v (G 351)) [(t 5), (t 6)]), p 4 (.mov (t 7))])
 .ret))⟩
theorem H322 : funcsOf Tryz.prog [] 322 = some k322 := by kernel_rfl
def k324 : AFn := ⟨35, [(2, none)],
 (a (r [p 2 (.mov (v B))])
 (a (r [p 3 (.mov (t 0)), p 4 (.bin .geq (t 3) (v (.int .i32 97))), p 5 (.mov (t 4)), g 6 5 true (.mov (t 0)), g 7 5 true (.bin .leq (t 6) (v (.int .i32 122))), p 8 (.pick (t 5) (t 7) (v B)), p 9 (.mov (t 8)), g 10 9 false (.mov (t 0)), g 11 9 false (.bin .geq (t 10) (v (.int .i32 65))), g 12 9 false (.mov (t 11)), g 13 12 true (.mov (t 0)), g 14 12 true (.bin .leq (t 13) (v (.int .i32 90))), g 15 9 false (.pick (t 12) (t 14) (v B)), p 16 (.pick (t 9) (v Y) (t 15)), p 17 (.mov (t 16)), g 18 17 false (.mov (t 0)), g 19 17 false (.bin .geq (t 18) (v (.int .i32 48))), g 20 17 false (.mov (t 19)), g 21 20 true (.mov (t 0)), g 22 20 true (.bin .leq (t 21) (v (.int .i32 57))), g 23 17 false (.pick (t 20) (t 22) (v B)), p 24 (.pick (t 17) (v Y) (t 23)), p 25 (.mov (t 24)), g 26 25 false (.mov (t 0)), g 27 25 false (.convInt .u8 (t 26)), g 28 25 false (.call (v (G 322)) [(v (S [45, 46, 95, 126, 33, 36, 38, 39, 40, 41, 42, 43, 44, 59, 61])), (t 27)]), g 29 25 false (.bin .geq (t 28) (v O)), g 30 25 false (.mov (t 29)), g 31 30 true (.mov (t 0)), g 32 30 true (.bin .lss (t 31) (v (.int .i32 128))), g 33 25 false (.pick (t 30) (t 32) (v B)), p 34 (.pick (t 25) (v Y) (t 33)), p 2 (.mov (t 34))])
 .ret))⟩
theorem H324 : funcsOf Tryz.prog [] 324 = some k324 := by kernel_rfl
def k328 : AFn := ⟨13, [(2, none)],
 (a (r [p 2 (.mov (v (.int .u8 0)))])
 (a (a (r [p 3 (.mov (t 0)), p 4 (.bin .geq (t 3) (v (.int .u8 65))), p 5 (.mov (t 4)), g 6 5 true (.mov (t 0)), g 7 5 true (.bin .leq (t 6) (v (.int .u8 90))), p 8 (.pick (t 5) (t 7) (v B))])
 (c (t 8) (a (r [p 9 (.mov (t 0)), p 10 (.bin .add (t 9) (v (.int .u8 97))), p 11 (.bin .sub (t 10) (v (.int .u8 65))), p 2 (.mov (t 11))])
 .ret) .skip))
 (a (r [p 12 (.mov (t 0)), p 2 (.mov (t 12))])
 .ret)))⟩
theorem H328 : funcsOf Tryz.prog [] 328 = some k328 := by kernel_rfl
def k351 : AFn := ⟨8, [(4, none)],
 (a (r [p 4 (.mov (v O))])
 (a (r [p 5 (.mov (t 0)), p 6 (.mov (t 1)), p 7 (.call (v (G 441)) [(t 5), (t 6)]), p 4 (.mov (t 7))])
 .ret))⟩
theorem H351 : funcsOf Tryz.prog [] 351 = some k351 := by kernel_rfl
def k357 : AFn := ⟨8, [(4, none)],
 (a (r [p 4 (.mov (v L))])
 (a (r [p 5 (.mov (t 0)), p 6 (.mov (t 1)), p 7 (.call (v (G 444)) [(t 5), (t 6), (v O), (v (I (-1)))]), p 4 (.mov (t 7))])
 .ret))⟩
theorem H357 : funcsOf Tryz.prog [] 357 = some k357 := by kernel_rfl
def k378 : AFn := ⟨70, [(4, none), (5, none)],
 (a (r [p 4 (.mov (v O)), p 5 (.mov (v O))])
 (a (a (r [p 8 (.mov (t 0)), p 9 (.eq false .ptr (t 8) (v N)), p 10 (.mov (t 9)), g 11 10 false (.mov (t 0)), g 12 10 false (.nilCheck (t 11)), g 13 10 false (.fieldAddr 0 (t 12)), g 14 10 false (.load none (t 13)), g 15 10 false (.eq false .ptr (t 14) (v N)), p 16 (.pick (t 10) (v Y) (t 15))])
 (c (t 16) (a (r [p 4 (.mov (v O)), p 5 (.mov (v (I 1)))])
 .ret) .skip))
 (a (.block 0 (.loop (a (a (r [p 17 (.mov (t 4)), p 18 (.mov (t 1)), p 19 (.lenStr (t 18)), p 20 (.bin .lss (t 17) (t 19)), p 21 (.mov (t 20)), g 22 21 true (.mov (t 0)), g 23 21 true (.nilCheck (t 22)), g 24 21 true (.fieldAddr 8 (t 23)), g 25 21 true (.load none (t 24)), g 26 21 true (.un .not (t 25)), p 27 (.pick (t 21) (t 26) (v B)), p 28 (.mov (t 27)), g 29 28 true (.mov (t 0)), g 30 28 true (.nilCheck (t 29)), g 31 28 true (.fieldAddr 15 (t 30)), g 32 28 true (.load none (t 31)), g 33 28 true (.bin .eql (t 32) (v O)), p 34 (.pick (t 28) (t 33) (v B))])
 (c (t 34) .skip (.exit 0)))
 (.block 1 (a (z [⟨(some 36), .mov (t 0), none, [0], 0, 0, false⟩, ⟨(some 37), .nilCheck (t 36), none, [36], 0, 0, false⟩, ⟨(some 38), .fieldAddr 0 (t 37), none, [37], 0, 0, false⟩, ⟨(some 39), .load none (t 38), none, [38], 0, 0, false⟩, ⟨(some 40), .mov (t 1), none, [1], 0, 0, false⟩, ⟨(some 41), .mov (t 4), none, [4], 0, 0, false⟩, ⟨(some 42), .sliceStr (t 40) (some (t 41)) none, none, [40, 41], 0, 0, false⟩, ⟨(some 43), .call (v (G 468)) [(t 39), (t 42)], none, [39, 42], 0, 1, false⟩, ⟨(some 35), .mov (t 43), none, [43], 1, 1, false⟩, ⟨(some 44), .extract (t 35) 0, none, [35], 1, 1, false⟩, ⟨(some 45), .extract (t 35) 1, none, [35], 1, 1, false⟩, ⟨(some 6), .mov (t 44), none, [44], 1, 1, false⟩, ⟨(some 7), .mov (t 45), none, [45], 1, 1, false⟩])
 (a (r [p 46 (.mov (t 4)), p 47 (.mov (t 6)), p 48 (.bin .add (t 46) (t 47)), p 4 (.mov (t 48))])
 (a (r [p 49 (.mov (t 0)), p 50 (.mov (t 7)), p 51 (.nilCheck (t 49)), p 52 (.fieldAddr 15 (t 51)), q (.store 1 (t 52) (t 50))])
 (a (r [p 53 (.mov (t 0)), p 54 (.nilCheck (t 53)), p 55 (.fieldAddr 0 (t 54)), p 56 (.load none (t 55)), p 57 (.call (v (G 469)) [(t 56)])])
 (c (t 57) (r [p 58 (.mov (t 0)), p 59 (.mov (t 0)), p 60 (.nilCheck (t 59)), p 61 (.fieldAddr 0 (t 60)), p 62 (.load none (t 61)), p 63 (.call (v (G 471)) [(t 62)]), p 64 (.call (v (G 470)) [(t 58), (t 63)])]) .skip)))))))))
 (a (z [⟨(some 65), .mov (t 4), none, [4], 0, 0, false⟩, ⟨(some 66), .mov (t 0), none, [0], 0, 0, false⟩, ⟨(some 67), .nilCheck (t 66), none, [66], 0, 0, false⟩, ⟨(some 68), .fieldAddr 15 (t 67), none, [67], 0, 0, false⟩, ⟨(some 69), .load none (t 68), none, [68], 0, 0, false⟩, ⟨(some 4), .mov (t 65), none, [65], 0, 0, false⟩, ⟨(some 5), .mov (t 69), none, [69], 0, 0, false⟩])
 .ret))))⟩
theorem H378 : funcsOf Tryz.prog [] 378 = some k378 := by kernel_rfl
def k379 : AFn := ⟨18, [(2, none)],
 (a (r [p 2 (.mov (v B))])
 (a (r [p 3 (.mov (t 0)), p 4 (.eq true .ptr (t 3) (v N)), p 5 (.mov (t 4)), g 6 5 true (.mov (t 0)), g 7 5 true (.nilCheck (t 6)), g 8 5 true (.fieldAddr 8 (t 7)), g 9 5 true (.load none (t 8)), p 10 (.pick (t 5) (t 9) (v B)), p 11 (.mov (t 10)), g 12 11 true (.mov (t 0)), g 13 11 true (.nilCheck (t 12)), g 14 11 true (.fieldAddr 15 (t 13)), g 15 11 true (.load none (t 14)), g 16 11 true (.bin .eql (t 15) (v O)), p 17 (.pick (t 11) (t 16) (v B)), p 2 (.mov (t 17))])
 .ret))⟩
theorem H379 : funcsOf Tryz.prog [] 379 = some k379 := by kernel_rfl
def k380 : AFn := ⟨17, [(2, (some (some 6)))],
 (a (r [p 2 (.alloc [E, E, O, O, E, L] 74)])
 (a (a (r [p 4 (.mov (t 0)), p 5 (.call (v (G 379)) [(t 4)]), p 6 (.un .not (t 5))])
 (c (t 6) (a (r [p 7 (.build [E, E, O, O, E, L] []), q (.store 6 (t 2) (t 7))])
 .ret) .skip))
 (a (r [p 8 (.mov (t 0)), p 9 (.nilCheck (t 8)), p 10 (.fieldAddr 9 (t 9)), p 11 (.load (some 6) (t 10)), p 3 (.alloc [E, E, O, O, E, L] 74), q (.store 6 (t 3) (t 11))])
 (a (r [p 12 (.fieldAddr 5 (t 3)), p 13 (.load none (t 12)), p 14 (.call (v (G 191)) [(t 13)]), p 15 (.fieldAddr 5 (t 3)), q (.store 1 (t 15) (t 14))])
 (a (r [p 16 (.load (some 6) (t 3)), q (.store 6 (t 2) (t 16))])
 .ret)))))⟩
theorem H380 : funcsOf Tryz.prog [] 380 = some k380 := by kernel_rfl
def k381 : AFn := ⟨35, [(4, (some (some 2))), (5, none)],
 (a (r [p 3 (.box 6 74 (t 1)), p 4 (.alloc [O, O] 76), p 5 (.mov (v O))])
 (a (a (r [p 8 (.mov (t 0)), p 9 (.nilCheck (t 8)), p 10 (.fieldAddr 9 (t 9)), p 11 (.load none (t 10)), p 12 (.bin .eql (t 11) (v (I 1)))])
 (c (t 12) (a (r [p 13 (.load (some 6) (t 3)), p 14 (.call (v (G 472)) [(t 13)]), p 15 (.extract (t 14) 0), p 16 (.extract (t 14) 1), q (.store 2 (t 4) (t 15)), p 5 (.mov (t 16))])
 .ret) .skip))
 (a (z [⟨(some 18), .load (some 6) (t 3), none, [3], 0, 1, false⟩, ⟨(some 19), .mov (t 0), none, [0], 0, 1, false⟩, ⟨(some 20), .nilCheck (t 19), none, [19], 0, 1, false⟩, ⟨(some 21), .fieldAddr 15 (t 20), none, [20], 0, 1, false⟩, ⟨(some 22), .load none (t 21), none, [21], 0, 1, false⟩, ⟨(some 23), .call (v (G 473)) [(t 18), (t 22)], none, [18, 22], 0, 2, false⟩, ⟨(some 17), .mov (t 23), none, [23], 1, 2, false⟩, ⟨(some 24), .extract (t 17) 0, none, [17], 1, 2, false⟩, ⟨(some 25), .extract (t 17) 1, none, [17], 1, 3, false⟩, ⟨(some 6), .alloc [O, O] 76, none, [], 0, 2, true⟩, ⟨none, .store 2 (t 6) (t 24), none, [6, 24], 1, 3, false⟩, ⟨(some 7), .mov (t 25), none, [25], 2, 3, false⟩])
 (a (a (r [p 26 (.mov (t 7)), p 27 (.bin .eql (t 26) (v O)), p 28 (.mov (t 27)), g 29 28 true (.fieldAddr 3 (t 3)), g 30 28 true (.load none (t 29)), g 31 28 true (.bin .eql (t 30) (v (I 101))), p 32 (.pick (t 28) (t 31) (v B))])
 (c (t 32) (r [p 7 (.mov (v (I 12)))]) .skip))
 (a (r [p 33 (.load (some 2) (t 6)), p 34 (.mov (t 7)), q (.store 2 (t 4) (t 33)), p 5 (.mov (t 34))])
 .ret)))))⟩
theorem H381 : funcsOf Tryz.prog [] 381 = some k381 := by kernel_rfl
def k382 : AFn := ⟨112, [(4, none)],
 (a (r [p 2 (.box 2 76 (t 0)), p 3 (.box 5 23 (t 1)), p 4 (.mov (v N))])
 (a (r [p 7 (.load (some 5) (t 3)), p 8 (.fieldAddr 1 (t 2)), p 9 (.load none (t 8)), p 10 (.build [O, O, O, O, O, .nilFunc, L, O, N, L, L, B, B, O] [(0, 5, (t 7)), (7, 1, (t 9))]), p 11 (.box 14 432 (t 10)), p 5 (.mov (t 11))])
 (a (r [p 12 (.mov (t 5)), p 13 (.fieldAddr 2 (t 3)), p 14 (.load none (t 13)), p 15 (.call (v (G 228)) [(t 14)]), p 16 (.nilCheck (t 12)), p 17 (.fieldAddr 8 (t 16)), q (.store 1 (t 17) (t 15))])
 (a (r [p 18 (.mov (t 5)), p 19 (.mov (t 5)), p 20 (.mkFunc (.func 474) [(t 19)] []), p 21 (.nilCheck (t 18)), p 22 (.fieldAddr 5 (t 21)), q (.store 1 (t 22) (t 20))])
 (a (r [p 6 (.mov (v (G 475)))])
 (a (.block 0 (a (r [p 27 (.fieldAddr 1 (t 2)), p 28 (.load none (t 27)), p 29 (.bin .lss (t 28) (v O)), p 30 (.mov (t 29)), g 31 30 false (.mov (t 6)), g 32 30 false (.fieldAddr 2 (t 3)), g 33 30 false (.load none (t 32)), g 34 30 false (.call (t 31) [(t 33)]), g 35 30 false (.un .not (t 34)), p 36 (.pick (t 30) (v Y) (t 35)), p 37 (.mov (t 36)), g 38 37 false (.mov (t 6)), g 39 37 false (.fieldAddr 0 (t 3)), g 40 37 false (.load none (t 39)), g 41 37 false (.call (t 38) [(t 40)]), g 42 37 false (.un .not (t 41)), p 43 (.pick (t 37) (v Y) (t 42)), p 26 (.mov (t 43))])
 (c (t 26) (r [p 44 (.mov (t 5)), p 45 (.nilCheck (t 44)), p 46 (.fieldAddr 13 (t 45)), q (.store 1 (t 46) (v (I 1)))]) (a (r [p 48 (.fieldAddr 0 (t 2)), p 49 (.load none (t 48)), p 50 (.bin .eql (t 49) (v O)), p 47 (.mov (t 50))])
 (c (t 47) (r [p 51 (.mov (t 5)), p 52 (.nilCheck (t 51)), p 53 (.fieldAddr 12 (t 52)), q (.store 1 (t 53) (v Y))]) (a (r [p 55 (.fieldAddr 0 (t 2)), p 56 (.load none (t 55)), p 57 (.bin .eql (t 56) (v (I 1))), p 54 (.mov (t 57))])
 (c (t 54) (a (r [p 58 (.mov (t 5)), p 59 (.mov (t 5)), p 60 (.mkFunc (.func 476) [(t 59)] []), p 61 (.nilCheck (t 58)), p 62 (.fieldAddr 5 (t 61)), q (.store 1 (t 62) (t 60))])
 (r [p 63 (.mov (t 5)), p 64 (.mov (t 5)), p 65 (.nilCheck (t 64)), p 66 (.fieldAddr 7 (t 65)), p 67 (.load none (t 66)), p 68 (.bin .eql (t 67) (v O)), p 69 (.nilCheck (t 63)), p 70 (.fieldAddr 12 (t 69)), q (.store 1 (t 70) (t 68))])) (a (r [p 72 (.fieldAddr 0 (t 2)), p 73 (.load none (t 72)), p 74 (.bin .eql (t 73) (v (I 2))), p 71 (.mov (t 74))])
 (c (t 71) (r [p 75 (.mov (t 5)), p 76 (.mov (t 5)), p 77 (.mkFunc (.func 477) [(t 76)] []), p 78 (.nilCheck (t 75)), p 79 (.fieldAddr 5 (t 78)), q (.store 1 (t 79) (t 77))]) (a (r [p 81 (.fieldAddr 0 (t 2)), p 82 (.load none (t 81)), p 83 (.bin .eql (t 82) (v (I 3))), p 80 (.mov (t 83))])
 (c (t 80) (r [p 84 (.mov (t 5)), p 85 (.mov (t 5)), p 86 (.mov (t 5)), p 87 (.mkFunc (.func 478) [(t 86)] []), p 88 (.nilCheck (t 84)), p 89 (.fieldAddr 5 (t 88)), q (.store 1 (t 89) (t 87)), p 90 (.nilCheck (t 85)), p 91 (.fieldAddr 11 (t 90)), q (.store 1 (t 91) (v Y))]) (r [p 23 (.mov (t 5)), p 24 (.nilCheck (t 23)), p 25 (.fieldAddr 13 (t 24)), q (.store 1 (t 25) (v (I 1)))]))))))))))))
 (a (a (r [p 92 (.mov (t 5)), p 93 (.nilCheck (t 92)), p 94 (.fieldAddr 12 (t 93)), p 95 (.load none (t 94))])
 (c (t 95) (r [p 96 (.mov (t 5)), p 97 (.build [O, O, E] [(0, 1, (v (I 4)))]), p 98 (.call (v (G 479)) [(t 96), (t 97)])]) .skip))
 (a (a (r [p 99 (.mov (t 5)), p 100 (.nilCheck (t 99)), p 101 (.fieldAddr 13 (t 100)), p 102 (.load none (t 101)), p 103 (.bin .neq (t 102) (v O))])
 (c (t 103) (r [p 104 (.mov (t 5)), p 105 (.mov (t 5)), p 106 (.nilCheck (t 105)), p 107 (.fieldAddr 13 (t 106)), p 108 (.load none (t 107)), p 109 (.build [O, O, E] [(0, 1, (v (I 5))), (1, 1, (t 108))]), p 110 (.call (v (G 479)) [(t 104), (t 109)])]) .skip))
 (a (r [p 111 (.mov (t 5)), p 4 (.mov (t 111))])
 .ret)))))))))⟩
theorem H382 : funcsOf Tryz.prog [] 382 = some k382 := by kernel_rfl
def k384 : AFn := ⟨14, [(2, none)],
 (a (r [p 2 (.mov (v L))])
 (a (a (r [p 4 (.mov (t 0)), p 5 (.eq false .ptr (t 4) (v N))])
 (c (t 5) (a (r [p 2 (.mov (v L))])
 .ret) .skip))
 (a (r [p 6 (.mov (t 0)), p 7 (.nilCheck (t 6)), p 8 (.fieldAddr 6 (t 7)), p 9 (.load none (t 8)), p 3 (.mov (t 9))])
 (a (r [p 10 (.mov (t 0)), p 11 (.nilCheck (t 10)), p 12 (.fieldAddr 6 (t 11)), q (.store 1 (t 12) (v L))])
 (a (r [p 13 (.mov (t 3)), p 2 (.mov (t 13))])
 .ret)))))⟩
theorem H384 : funcsOf Tryz.prog [] 384 = some k384 := by kernel_rfl
def k385 : AFn := ⟨9, [(2, none)],
 (a (r [p 2 (.mov (v O))])
 (a (a (r [p 3 (.mov (t 0)), p 4 (.eq false .ptr (t 3) (v N))])
 (c (t 4) (a (r [p 2 (.mov (v O))])
 .ret) .skip))
 (a (r [p 5 (.mov (t 0)), p 6 (.nilCheck (t 5)), p 7 (.fieldAddr 13 (t 6)), p 8 (.load none (t 7)), p 2 (.mov (t 8))])
 .ret)))⟩
theorem H385 : funcsOf Tryz.prog [] 385 = some k385 := by kernel_rfl
def k386 : AFn := ⟨11, [(2, none)],
 (a (r [p 2 (.mov (v B))])
 (a (r [p 3 (.mov (t 0)), p 4 (.eq true .ptr (t 3) (v N)), p 5 (.mov (t 4)), g 6 5 true (.mov (t 0)), g 7 5 true (.nilCheck (t 6)), g 8 5 true (.fieldAddr 12 (t 7)), g 9 5 true (.load none (t 8)), p 10 (.pick (t 5) (t 9) (v B)), p 2 (.mov (t 10))])
 .ret))⟩
theorem H386 : funcsOf Tryz.prog [] 386 = some k386 := by kernel_rfl
def k387 : AFn := ⟨11, [(2, none)],
 (a (r [p 2 (.mov (v L))])
 (a (a (r [p 3 (.mov (t 0)), p 4 (.call (v (G 386)) [(t 3)]), p 5 (.un .not (t 4))])
 (c (t 5) (a (r [p 2 (.mov (v L))])
 .ret) .skip))
 (a (r [p 6 (.mov (t 0)), p 7 (.nilCheck (t 6)), p 8 (.fieldAddr 10 (t 7)), p 9 (.load none (t 8)), p 10 (.call (v (G 191)) [(t 9)]), p 2 (.mov (t 10))])
 .ret)))⟩
theorem H387 : funcsOf Tryz.prog [] 387 = some k387 := by kernel_rfl
noncomputable def k390 : AFn := ⟨9, [(4, none)],
 (a (r [p 4 (.mov (v B))])
 (a (r [p 5 (.mov (t 0)), p 6 (.mov (t 1)), p 7 (.call (v (G 480)) [(t 5), (t 6)]), p 8 (.bin .geq (t 7) (v O)), p 4 (.mov (t 8))])
 .ret))⟩
theorem H390 : funcsOf Tryz.prog [] 390 = some k390 := by kernel_rfl
noncomputable def k391 : AFn := ⟨41, [(2, none)],
 (a (r [p 2 (.mov (v L))])
 (a (r [p 13 (.mov (t 0)), p 14 (.call (v (G 393)) [(t 13), (v (S [86, 105, 97]))]), p 12 (.mov (t 14)), p 15 (.extract (t 12) 0), p 16 (.extract (t 12) 1), p 3 (.mov (t 15)), p 4 (.mov (t 16))])
 (a (r [p 18 (.mov (t 3)), p 19 (.call (v (G 424)) [(t 18)]), p 17 (.mov (t 19)), p 20 (.extract (t 17) 0), p 21 (.extract (t 17) 1), p 5 (.mov (t 20)), p 6 (.mov (t 21))])
 (a (r [p 7 (.mov (v L))])
 (a (a (r [p 22 (.mov (t 5)), p 23 (.lenSlice (t 22)), p 24 (.mov (v O))])
 (.block 0 (.loop (a (r [p 25 (.bin .lss (t 24) (t 23))])
 (a (c (t 25) .skip (.exit 0))
 (a (.block 1 (a (r [p 26 (.idxAddr 1 (t 22) (t 24)), p 27 (.load none (t 26)), p 9 (.mov (t 27))])
 (a (r [p 29 (.mov (t 9)), p 30 (.call (v (G 481)) [(t 29)]), p 28 (.mov (t 30)), p 31 (.extract (t 28) 0), p 32 (.extract (t 28) 1), p 10 (.alloc [E, E, E] 346), q (.store 3 (t 10) (t 31)), p 11 (.mov (t 32))])
 (a (r [p 33 (.mov (t 11)), p 34 (.bin .eql (t 33) (v O))])
 (c (t 34) (r [p 35 (.mov (t 7)), p 36 (.load (some 3) (t 10)), p 37 (.buildSlice [E, E, E] 346 1 [(0, 3, (t 36))]), p 38 (.append 346 3 48 (t 35) (t 37)), p 7 (.mov (t 38))]) .skip)))))
 (r [p 39 (.bin .add (t 24) (v (I 1))), p 24 (.mov (t 39))])))))))
 (a (r [p 40 (.mov (t 7)), p 2 (.mov (t 40))])
 .ret))))))⟩
theorem H391 : funcsOf Tryz.prog [] 391 = some k391 := by kernel_rfl
noncomputable def k393 : AFn := ⟨15, [(4, none), (5, none)],
 (a (r [p 4 (.mov (v E)), p 5 (.mov (v B))])
 (a (r [p 7 (.mov (t 0)), p 8 (.mov (t 1)), p 9 (.call (v (G 301)) [(t 7), (t 8)]), p 6 (.mov (t 9))])
 (a (r [p 10 (.mov (t 6)), p 11 (.call (v (G 482)) [(t 10)]), p 12 (.mov (t 6)), p 13 (.lenSlice (t 12)), p 14 (.bin .gtr (t 13) (v O)), p 4 (.mov (t 11)), p 5 (.mov (t 14))])
 .ret)))⟩
theorem H393 : funcsOf Tryz.prog [] 393 = some k393 := by kernel_rfl
noncomputable def k396 : AFn := ⟨9, [(2, none)],
 (a (r [p 2 (.mov (v B))])
 (a (r [p 3 (.mov (t 0)), p 4 (.bin .gtr (t 3) (v (.int .i32 32))), p 5 (.mov (t 4)), g 6 5 true (.mov (t 0)), g 7 5 true (.bin .lss (t 6) (v (.int .i32 127))), p 8 (.pick (t 5) (t 7) (v B)), p 2 (.mov (t 8))])
 .ret))⟩
theorem H396 : funcsOf Tryz.prog [] 396 = some k396 := by kernel_rfl
def k402 : AFn := ⟨5, [(1, none)],
 (a (r [p 1 (.mov (v B))])
 (a (r [p 2 (.fieldAddr 0 (t 0)), p 3 (.load none (t 2)), p 4 (.bin .eql (t 3) (v (I 2))), p 1 (.mov (t 4))])
 .ret))⟩
theorem H402 : funcsOf Tryz.prog [] 402 = some k402 := by kernel_rfl
def k403 : AFn := ⟨19, [(4, none), (5, none)],
 (a (r [p 4 (.mov (v E)), p 5 (.mov (v B))])
 (a (r [p 7 (.mov (t 0)), p 8 (.mov (t 1)), p 9 (.buildSlice [E] 9 1 [(0, 1, (t 8))]), p 10 (.call (v (G 287)) [(t 9)]), p 11 (.call (v (G 410)) [(t 7), (t 10)]), p 6 (.mov (t 11))])
 (a (a (r [p 12 (.mov (t 6)), p 13 (.bin .lss (t 12) (v O))])
 (c (t 13) (a (r [p 4 (.mov (v E)), p 5 (.mov (v B))])
 .ret) .skip))
 (a (r [p 14 (.mov (t 0)), p 15 (.mov (t 6)), p 16 (.idxAddr 2 (t 14) (t 15)), p 17 (.fieldAddr 1 (t 16)), p 18 (.load none (t 17)), p 4 (.mov (t 18)), p 5 (.mov (v Y))])
 .ret))))⟩
theorem H403 : funcsOf Tryz.prog [] 403 = some k403 := by kernel_rfl
def k404 : AFn := ⟨2, [(0, (some (some 3)))],
 (a (r [p 0 (.alloc [E, E, E] 365)])
 (a (r [p 1 (.build [E, E, E] [(0, 1, (v (S [72, 111, 115, 116]))), (1, 1, (v (S [67, 111, 110, 116, 101, 110, 116, 45, 76, 101, 110, 103, 116, 104]))), (2, 1, (v (S [86, 105, 97])))]), q (.store 3 (t 0) (t 1))])
 .ret))⟩
theorem H404 : funcsOf Tryz.prog [] 404 = some k404 := by kernel_rfl
def k406 : AFn := ⟨9, [(4, none)],
 (a (r [p 4 (.mov (v B))])
 (a (r [p 5 (.mov (t 0)), p 6 (.mov (t 1)), p 7 (.call (v (G 489)) [(t 5), (t 6)]), p 8 (.bin .geq (t 7) (v O)), p 4 (.mov (t 8))])
 .ret))⟩
theorem H406 : funcsOf Tryz.prog [] 406 = some k406 := by kernel_rfl
def k408 : AFn := ⟨2, [(0, (some (some 7)))],
 (a (r [p 0 (.alloc [E, E, E, E, E, E, E] 367)])
 (a (r [p 1 (.build [E, E, E, E, E, E, E] [(0, 1, (v (S [67, 111, 110, 110, 101, 99, 116, 105, 111, 110]))), (1, 1, (v (S [75, 101, 101, 112, 45, 65, 108, 105, 118, 101]))), (2, 1, (v (S [80, 114, 111, 120, 121, 45, 67, 111, 110, 110, 101, 99, 116, 105, 111, 110]))), (3, 1, (v (S [84, 69]))), (4, 1, (v (S [84, 114, 97, 105, 108, 101, 114]))), (5, 1, (v (S [84, 114, 97, 110, 115, 102, 101, 114, 45, 69, 110, 99, 111, 100, 105, 110, 103]))), (6, 1, (v (S [85, 112, 103, 114, 97, 100, 101])))]), q (.store 7 (t 0) (t 1))])
 .ret))⟩
theorem H408 : funcsOf Tryz.prog [] 408 = some k408 := by kernel_rfl
def k409 : AFn := ⟨42, [(4, none)],
 (a (r [p 4 (.mov (v L))])
 (a (r [p 8 (.mov (t 0)), p 9 (.mov (t 1)), p 10 (.call (v (G 489)) [(t 8), (t 9)]), p 5 (.mov (t 10))])
 (a (a (r [p 11 (.mov (t 5)), p 12 (.bin .eql (t 11) (v (I (-1))))])
 (c (t 12) (a (r [p 13 (.mov (t 0)), p 4 (.mov (t 13))])
 .ret) .skip))
 (a (a (r [p 14 (.mov (t 5)), p 15 (.bin .add (t 14) (v (I 1))), p 6 (.mov (t 15))])
 (.block 0 (.loop (a (a (r [p 16 (.mov (t 6)), p 17 (.mov (t 0)), p 18 (.lenSlice (t 17)), p 19 (.bin .lss (t 16) (t 18))])
 (c (t 19) .skip (.exit 0)))
 (a (.block 1 (a (r [p 22 (.mov (t 0)), p 23 (.mov (t 6)), p 24 (.idxAddr 1 (t 22) (t 23)), p 25 (.load none (t 24)), p 7 (.mov (t 25))])
 (a (r [p 26 (.mov (t 1)), p 27 (.mov (t 7)), p 28 (.call (t 26) [(t 27)]), p 29 (.un .not (t 28))])
 (c (t 29) (a (r [p 30 (.mov (t 0)), p 31 (.mov (t 5)), p 32 (.mov (t 7)), p 33 (.idxAddr 1 (t 30) (t 31)), q (.store 1 (t 33) (t 32))])
 (r [p 34 (.mov (t 5)), p 35 (.bin .add (t 34) (v (I 1))), p 5 (.mov (t 35))])) .skip))))
 (r [p 20 (.mov (t 6)), p 21 (.bin .add (t 20) (v (I 1))), p 6 (.mov (t 21))]))))))
 (a (r [p 36 (.mov (t 0)), p 37 (.mov (t 5)), p 38 (.slice 1 (t 36) (some (t 37)) none none), q (.clearSlice [E] (t 38))])
 (a (r [p 39 (.mov (t 0)), p 40 (.mov (t 5)), p 41 (.slice 1 (t 39) none (some (t 40)) none), p 4 (.mov (t 41))])
 .ret))))))⟩
theorem H409 : funcsOf Tryz.prog [] 409 = some k409 := by kernel_rfl
def k410 : AFn := ⟨19, [(4, none)],
 (a (r [p 4 (.mov (v O))])
 (a (a (r [p 6 (.mov (t 0)), p 7 (.lenSlice (t 6)), p 8 (.mov (v O))])
 (.block 0 (.loop (a (r [p 9 (.bin .lss (t 8) (t 7))])
 (a (c (t 9) .skip (.exit 0))
 (a (.block 1 (a (r [p 10 (.mov (t 8)), p 5 (.mov (t 10))])
 (a (r [p 11 (.mov (t 1)), p 12 (.mov (t 0)), p 13 (.mov (t 5)), p 14 (.idxAddr 2 (t 12) (t 13)), p 15 (.load (some 2) (t 14)), p 16 (.call (t 11) [(t 15)])])
 (c (t 16) (a (r [p 17 (.mov (t 5)), p 4 (.mov (t 17))])
 .ret) .skip))))
 (r [p 18 (.bin .add (t 8) (v (I 1))), p 8 (.mov (t 18))])))))))
 (a (r [p 4 (.mov (v (I (-1))))])
 .ret)))⟩
theorem H410 : funcsOf Tryz.prog [] 410 = some k410 := by kernel_rfl
def k411 : AFn := ⟨7, [(3, none)],
 (a (r [p 2 (.box 2 243 (t 0)), p 3 (.mov (v B))])
 (a (r [p 4 (.load none (t 1)), p 5 (.mkFunc (.func 412) [] [(t 2)]), p 6 (.call (v (G 406)) [(t 4), (t 5)]), p 3 (.mov (t 6))])
 .ret))⟩
theorem H411 : funcsOf Tryz.prog [] 411 = some k411 := by kernel_rfl
def k412 : AFn := ⟨8, [(3, none)],
 (a (r [p 3 (.mov (v B))])
 (a (r [p 4 (.mov (t 0)), p 5 (.fieldAddr 0 (t 1)), p 6 (.load none (t 5)), p 7 (.call (v (G 251)) [(t 4), (t 6)]), p 3 (.mov (t 7))])
 .ret))⟩
theorem H412 : funcsOf Tryz.prog [] 412 = some k412 := by kernel_rfl
def k413 : AFn := ⟨2, [(0, (some (some 5)))],
 (a (r [p 0 (.alloc [E, E, E, E, E] 444)])
 (a (r [p 1 (.build [E, E, E, E, E] [(0, 1, (v (S [68, 97, 116, 101]))), (1, 1, (v (S [69, 120, 112, 105, 114, 101, 115]))), (2, 1, (v (S [76, 97, 115, 116, 45, 77, 111, 100, 105, 102, 105, 101, 100]))), (3, 1, (v (S [73, 102, 45, 77, 111, 100, 105, 102, 105, 101, 100, 45, 83, 105, 110, 99, 101]))), (4, 1, (v (S [73, 102, 45, 85, 110, 109, 111, 100, 105, 102, 105, 101, 100, 45, 83, 105, 110, 99, 101])))]), q (.store 5 (t 0) (t 1))])
 .ret))⟩
theorem H413 : funcsOf Tryz.prog [] 413 = some k413 := by kernel_rfl
def k414 : AFn := ⟨7, [(3, none)],
 (a (r [p 3 (.mov (v B))])
 (a (r [p 4 (.mov (t 0)), p 5 (.load none (t 1)), p 6 (.call (v (G 251)) [(t 4), (t 5)]), p 3 (.mov (t 6))])
 .ret))⟩
theorem H414 : funcsOf Tryz.prog [] 414 = some k414 := by kernel_rfl
def k418 : AFn := ⟨18, [(4, none)],
 (a (r [p 4 (.mov (v B))])
 (a (r [p 5 (.mov (t 0)), p 6 (.lenStr (t 5)), p 7 (.mov (t 1)), p 8 (.lenStr (t 7)), p 9 (.bin .geq (t 6) (t 8)), p 10 (.mov (t 9)), g 11 10 true (.mov (t 0)), g 12 10 true (.mov (t 1)), g 13 10 true (.lenStr (t 12)), g 14 10 true (.sliceStr (t 11) none (some (t 13))), g 15 10 true (.mov (t 1)), g 16 10 true (.bin .eql (t 14) (t 15)), p 17 (.pick (t 10) (t 16) (v B)), p 4 (.mov (t 17))])
 .ret))⟩
theorem H418 : funcsOf Tryz.prog [] 418 = some k418 := by kernel_rfl
def k423 : AFn := ⟨34, [(2, (some none)), (3, (some none)), (4, (some none))],
 (a (r [p 2 (.alloc [O] 3), p 3 (.alloc [B] 4), p 4 (.alloc [O] 39)])
 (a (r [p 5 (.alloc [O] 3), q (.store 1 (t 5) (v (I (-1))))])
 (a (a (r [p 9 (.mov (t 0)), p 10 (.call (v (G 301)) [(t 9), (v (S [67, 111, 110, 116, 101, 110, 116, 45, 76, 101, 110, 103, 116, 104]))]), p 11 (.call (v (G 500)) [(t 10)])])
 (.block 0 (.rangeFunc (t 11) [12] (r [p 6 (.mov (t 12))]) (.block 1 (a (r [p 14 (.mov (t 6)), p 15 (.call (v (G 232)) [(t 14), (v (I 2147483647))]), p 13 (.mov (t 15)), p 16 (.extract (t 13) 0), p 17 (.extract (t 13) 1), p 7 (.mov (t 16)), p 8 (.mov (t 17))])
 (a (a (r [p 18 (.mov (t 8)), p 19 (.bin .neq (t 18) (v O)), p 20 (.mov (t 19)), g 21 20 false (.load none (t 5)), g 22 20 false (.bin .geq (t 21) (v O)), g 23 20 false (.mov (t 22)), g 24 23 true (.mov (t 7)), g 25 23 true (.load none (t 5)), g 26 23 true (.bin .neq (t 24) (t 25)), g 27 20 false (.pick (t 23) (t 26) (v B)), p 28 (.pick (t 20) (v Y) (t 27))])
 (c (t 28) (a (r [q (.store 1 (t 2) (v O)), q (.store 1 (t 3) (v B)), q (.store 1 (t 4) (v (I 14)))])
 .ret) .skip))
 (r [p 29 (.mov (t 7)), q (.store 1 (t 5) (t 29))])))))))
 (a (z [⟨(some 30), .load none (t 5), none, [5], 0, 0, false⟩, ⟨(some 31), .minmax true [(t 30), (v O)], none, [30], 0, 0, false⟩, ⟨(some 32), .load none (t 5), none, [5], 0, 1, false⟩, ⟨(some 33), .bin .geq (t 32) (v O), none, [32], 0, 1, false⟩, ⟨none, .store 1 (t 2) (t 31), none, [2, 31], 0, 1, false⟩, ⟨none, .store 1 (t 3) (t 33), none, [3, 33], 1, 2, false⟩, ⟨none, .store 1 (t 4) (v O), none, [4], 2, 3, false⟩])
 .ret))))⟩
theorem H423 : funcsOf Tryz.prog [] 423 = some k423 := by kernel_rfl
def k424 : AFn := ⟨21, [(2, none), (3, none)],
 (a (r [p 2 (.mov (v L)), p 3 (.mov (v B))])
 (a (a (r [p 6 (.mov (t 0)), p 7 (.call (v (G 501)) [(t 6)]), p 8 (.un .not (t 7))])
 (c (t 8) (a (r [p 2 (.mov (v L)), p 3 (.mov (v B))])
 .ret) .skip))
 (a (r [p 4 (.alloc [L] 60)])
 (a (a (r [p 9 (.mov (t 0)), p 10 (.call (v (G 502)) [(t 9)])])
 (.block 0 (.rangeFunc (t 10) [11] (r [p 5 (.mov (t 11))]) (.block 1 (a (r [p 12 (.mov (t 5)), p 13 (.call (v (G 503)) [(t 12)]), p 5 (.mov (t 13))])
 (a (r [p 14 (.mov (t 5)), p 15 (.bin .neq (t 14) (v E))])
 (c (t 15) (r [p 16 (.load none (t 4)), p 17 (.mov (t 5)), p 18 (.buildSlice [E] 9 1 [(0, 1, (t 17))]), p 19 (.append 9 1 16 (t 16) (t 18)), q (.store 1 (t 4) (t 19))]) .skip)))))))
 (a (r [p 20 (.load none (t 4)), p 2 (.mov (t 20)), p 3 (.mov (v Y))])
 .ret)))))⟩
theorem H424 : funcsOf Tryz.prog [] 424 = some k424 := by kernel_rfl
def k429 : AFn := ⟨19, [(4, none)],
 (a (r [p 4 (.mov (v O))])
 (a (a (r [p 6 (.mov (t 0)), p 7 (.lenStr (t 6)), p 8 (.bin .sub (t 7) (v (I 1))), p 5 (.mov (t 8))])
 (.block 0 (.loop (a (a (r [p 9 (.mov (t 5)), p 10 (.bin .geq (t 9) (v O))])
 (c (t 10) .skip (.exit 0)))
 (a (.block 1 (a (r [p 13 (.mov (t 0)), p 14 (.mov (t 5)), p 15 (.idxStr (t 13) (t 14)), p 16 (.mov (t 1)), p 17 (.bin .eql (t 15) (t 16))])
 (c (t 17) (a (r [p 18 (.mov (t 5)), p 4 (.mov (t 18))])
 .ret) .skip)))
 (r [p 11 (.mov (t 5)), p 12 (.bin .sub (t 11) (v (I 1))), p 5 (.mov (t 12))]))))))
 (a (r [p 4 (.mov (v (I (-1))))])
 .ret)))⟩
theorem H429 : funcsOf Tryz.prog [] 429 = some k429 := by kernel_rfl
def k444 : AFn := ⟨66, [(8, none)],
 (a (r [p 8 (.mov (v L))])
 (a (a (r [p 12 (.mov (t 3)), p 13 (.bin .eql (t 12) (v O))])
 (c (t 13) (a (r [p 8 (.mov (v L))])
 .ret) .skip))
 (a (a (r [p 14 (.mov (t 1)), p 15 (.bin .eql (t 14) (v E))])
 (c (t 15) (a (r [p 16 (.mov (t 0)), p 17 (.mov (t 3)), p 18 (.call (v (G 507)) [(t 16), (t 17)]), p 8 (.mov (t 18))])
 .ret) .skip))
 (a (a (r [p 19 (.mov (t 3)), p 20 (.bin .lss (t 19) (v O))])
 (c (t 20) (r [p 21 (.mov (t 0)), p 22 (.mov (t 1)), p 23 (.call (v (G 86)) [(t 21), (t 22)]), p 24 (.bin .add (t 23) (v (I 1))), p 3 (.mov (t 24))]) .skip))
 (a (r [p 25 (.mov (t 3)), p 26 (.mov (t 0)), p 27 (.lenStr (t 26)), p 28 (.bin .add (t 27) (v (I 1))), p 29 (.minmax false [(t 25), (t 28)]), p 3 (.mov (t 29))])
 (a (r [p 30 (.mov (t 3)), p 31 (.mkSlice [E] 9 1 16 (t 30) (t 30)), p 9 (.mov (t 31))])
 (a (r [p 32 (.mov (t 3)), p 33 (.bin .sub (t 32) (v (I 1))), p 3 (.mov (t 33))])
 (a (r [p 10 (.mov (v O))])
 (a (.block 0 (.loop (a (a (r [p 34 (.mov (t 10)), p 35 (.mov (t 3)), p 36 (.bin .lss (t 34) (t 35))])
 (c (t 36) .skip (.exit 0)))
 (.block 1 (a (r [p 37 (.mov (t 0)), p 38 (.mov (t 1)), p 39 (.call (v (G 157)) [(t 37), (t 38)]), p 11 (.mov (t 39))])
 (a (a (r [p 40 (.mov (t 11)), p 41 (.bin .lss (t 40) (v O))])
 (c (t 41) (.exit 0) .skip))
 (a (r [p 42 (.mov (t 9)), p 43 (.mov (t 10)), p 44 (.mov (t 0)), p 45 (.mov (t 11)), p 46 (.mov (t 2)), p 47 (.bin .add (t 45) (t 46)), p 48 (.sliceStr (t 44) none (some (t 47))), p 49 (.idxAddr 1 (t 42) (t 43)), q (.store 1 (t 49) (t 48))])
 (a (r [p 50 (.mov (t 0)), p 51 (.mov (t 11)), p 52 (.mov (t 1)), p 53 (.lenStr (t 52)), p 54 (.bin .add (t 51) (t 53)), p 55 (.sliceStr (t 50) (some (t 54)) none), p 0 (.mov (t 55))])
 (r [p 56 (.mov (t 10)), p 57 (.bin .add (t 56) (v (I 1))), p 10 (.mov (t 57))])))))))))
 (a (r [p 58 (.mov (t 9)), p 59 (.mov (t 10)), p 60 (.mov (t 0)), p 61 (.idxAddr 1 (t 58) (t 59)), q (.store 1 (t 61) (t 60))])
 (a (r [p 62 (.mov (t 9)), p 63 (.mov (t 10)), p 64 (.bin .add (t 63) (v (I 1))), p 65 (.slice 1 (t 62) none (some (t 64)) none), p 8 (.mov (t 65))])
 .ret)))))))))))⟩
theorem H444 : funcsOf Tryz.prog [] 444 = some k444 := by kernel_rfl
def k468 : AFn := ⟨51, [(4, none), (5, none)],
 (a (r [p 4 (.mov (v O)), p 5 (.mov (v O))])
 (a (a (r [p 7 (.mov (t 0)), p 8 (.eq false .ptr (t 7) (v N))])
 (c (t 8) (r [p 9 (.build [O, O, L, B, B, B, O] []), p 10 (.box 7 359 (t 9)), p 0 (.mov (t 10))]) .skip))
 (a (r [p 11 (.mov (t 0)), p 12 (.mkFunc (.func 522) [(t 11)] []), p 6 (.mov (t 12))])
 (a (.block 0 (.loop (a (a (r [p 13 (.mov (t 4)), p 14 (.mov (t 1)), p 15 (.lenStr (t 14)), p 16 (.bin .lss (t 13) (t 15)), p 17 (.mov (t 16)), g 18 17 true (.mov (t 0)), g 19 17 true (.nilCheck (t 18)), g 20 17 true (.fieldAddr 5 (t 19)), g 21 17 true (.load none (t 20)), g 22 17 true (.un .not (t 21)), p 23 (.pick (t 17) (t 22) (v B)), p 24 (.mov (t 23)), g 25 24 true (.mov (t 0)), g 26 24 true (.nilCheck (t 25)), g 27 24 true (.fieldAddr 6 (t 26)), g 28 24 true (.load none (t 27)), g 29 24 true (.bin .eql (t 28) (v O)), p 30 (.pick (t 24) (t 29) (v B))])
 (c (t 30) .skip (.exit 0)))
 (.block 1 (a (r [p 31 (.mov (t 0)), p 32 (.mov (t 6)), p 33 (.mov (t 1)), p 34 (.mov (t 4)), p 35 (.idxStr (t 33) (t 34)), p 36 (.call (t 32) [(t 35)]), p 37 (.nilCheck (t 31)), p 38 (.fieldAddr 6 (t 37)), q (.store 1 (t 38) (t 36))])
 (a (r [p 39 (.mov (t 0)), p 40 (.nilCheck (t 39)), p 41 (.fieldAddr 6 (t 40)), p 42 (.load none (t 41)), p 43 (.bin .eql (t 42) (v O))])
 (c (t 43) (r [p 44 (.mov (t 4)), p 45 (.bin .add (t 44) (v (I 1))), p 4 (.mov (t 45))]) .skip)))))))
 (a (z [⟨(some 46), .mov (t 4), none, [4], 0, 0, false⟩, ⟨(some 47), .mov (t 0), none, [0], 0, 0, false⟩, ⟨(some 48), .nilCheck (t 47), none, [47], 0, 0, false⟩, ⟨(some 49), .fieldAddr 6 (t 48), none, [48], 0, 0, false⟩, ⟨(some 50), .load none (t 49), none, [49], 0, 0, false⟩, ⟨(some 4), .mov (t 46), none, [46], 0, 0, false⟩, ⟨(some 5), .mov (t 50), none, [50], 0, 0, false⟩])
 .ret)))))⟩
theorem H468 : funcsOf Tryz.prog [] 468 = some k468 := by kernel_rfl
def k469 : AFn := ⟨11, [(2, none)],
 (a (r [p 2 (.mov (v B))])
 (a (r [p 3 (.mov (t 0)), p 4 (.eq true .ptr (t 3) (v N)), p 5 (.mov (t 4)), g 6 5 true (.mov (t 0)), g 7 5 true (.nilCheck (t 6)), g 8 5 true (.fieldAddr 5 (t 7)), g 9 5 true (.load none (t 8)), p 10 (.pick (t 5) (t 9) (v B)), p 2 (.mov (t 10))])
 .ret))⟩
theorem H469 : funcsOf Tryz.prog [] 469 = some k469 := by kernel_rfl
def k470 : AFn := ⟨56, [],
 (.block 0 (a (r [p 5 (.mov (t 1)), p 6 (.bin .neq (t 5) (v E)), p 4 (.mov (t 6))])
 (c (t 4) (r [p 7 (.mov (t 0)), p 8 (.mov (t 0)), p 9 (.nilCheck (t 8)), p 10 (.fieldAddr 7 (t 9)), p 11 (.load none (t 10)), p 12 (.mov (t 1)), p 13 (.buildSlice [E] 9 1 [(0, 1, (t 12))]), p 14 (.append 9 1 16 (t 11) (t 13)), p 15 (.nilCheck (t 7)), p 16 (.fieldAddr 7 (t 15)), q (.store 1 (t 16) (t 14))]) (a (r [p 18 (.mov (t 0)), p 19 (.nilCheck (t 18)), p 20 (.fieldAddr 7 (t 19)), p 21 (.load none (t 20)), p 22 (.lenSlice (t 21)), p 23 (.bin .gtr (t 22) (v O)), p 24 (.mov (t 23)), g 25 24 false (.mov (t 0)), g 26 24 false (.nilCheck (t 25)), g 27 24 false (.fieldAddr 1 (t 26)), g 28 24 false (.load none (t 27)), g 29 24 false (.bin .eql (t 28) (v (I 2))), p 30 (.pick (t 24) (v Y) (t 29)), p 17 (.mov (t 30))])
 (c (t 17) (a (r [p 31 (.mov (t 0)), p 32 (.nilCheck (t 31)), p 33 (.fieldAddr 8 (t 32)), q (.store 1 (t 33) (v Y))])
 (z [⟨(some 35), .mov (t 0), none, [0], 0, 1, false⟩, ⟨(some 36), .mov (t 0), none, [0], 0, 2, false⟩, ⟨(some 37), .mov (t 0), none, [0], 0, 0, false⟩, ⟨(some 38), .nilCheck (t 37), none, [37], 0, 0, false⟩, ⟨(some 39), .fieldAddr 1 (t 38), none, [38], 0, 0, false⟩, ⟨(some 40), .load none (t 39), none, [39], 0, 0, false⟩, ⟨(some 41), .mov (t 0), none, [0], 0, 0, false⟩, ⟨(some 42), .nilCheck (t 41), none, [41], 0, 0, false⟩, ⟨(some 43), .fieldAddr 2 (t 42), none, [42], 0, 0, false⟩, ⟨(some 44), .load (some 5) (t 43), none, [43], 0, 0, false⟩, ⟨(some 45), .mov (t 0), none, [0], 0, 0, false⟩, ⟨(some 46), .nilCheck (t 45), none, [45], 0, 0, false⟩, ⟨(some 47), .fieldAddr 7 (t 46), none, [46], 0, 0, false⟩, ⟨(some 48), .load none (t 47), none, [47], 0, 0, false⟩, ⟨(some 49), .call (v (G 523)) [(t 40), (t 44), (t 48)], none, [40, 44, 48], 0, 1, false⟩, ⟨(some 34), .mov (t 49), none, [49], 1, 1, false⟩, ⟨(some 50), .extract (t 34) 0, none, [34], 1, 1, false⟩, ⟨(some 51), .extract (t 34) 1, none, [34], 1, 2, false⟩, ⟨(some 52), .nilCheck (t 35), none, [35], 1, 1, false⟩, ⟨(some 53), .fieldAddr 9 (t 52), none, [52], 1, 1, false⟩, ⟨none, .store 6 (t 53) (t 50), none, [53, 50], 1, 2, false⟩, ⟨(some 54), .nilCheck (t 36), none, [36], 2, 2, false⟩, ⟨(some 55), .fieldAddr 15 (t 54), none, [54], 2, 2, false⟩, ⟨none, .store 1 (t 55) (t 51), none, [55, 51], 2, 3, false⟩])) .skip)))))⟩
theorem H470 : funcsOf Tryz.prog [] 470 = some k470 := by kernel_rfl
def k471 : AFn := ⟨24, [(2, none)],
 (a (r [p 2 (.mov (v E))])
 (a (a (r [p 4 (.mov (t 0)), p 5 (.call (v (G 469)) [(t 4)]), p 6 (.un .not (t 5))])
 (c (t 6) (a (r [p 2 (.mov (v E))])
 .ret) .skip))
 (a (r [p 7 (.mov (t 0)), p 8 (.nilCheck (t 7)), p 9 (.fieldAddr 2 (t 8)), p 10 (.load none (t 9)), p 11 (.ofBytes (t 10)), p 3 (.mov (t 11))])
 (a (r [p 12 (.mov (t 0)), p 13 (.mov (t 0)), p 14 (.mov (t 0)), p 15 (.nilCheck (t 14)), p 16 (.fieldAddr 2 (t 15)), p 17 (.load none (t 16)), p 18 (.slice 1 (t 17) none (some (v O)) none), p 19 (.nilCheck (t 12)), p 20 (.fieldAddr 2 (t 19)), q (.store 1 (t 20) (t 18)), p 21 (.nilCheck (t 13)), p 22 (.fieldAddr 5 (t 21)), q (.store 1 (t 22) (v B))])
 (a (r [p 23 (.mov (t 3)), p 2 (.mov (t 23))])
 .ret)))))⟩
theorem H471 : funcsOf Tryz.prog [] 471 = some k471 := by kernel_rfl
def k472 : AFn := ⟨22, [(2, (some (some 2))), (3, none)],
 (a (r [p 1 (.box 6 74 (t 0)), p 2 (.alloc [O, O] 76), p 3 (.mov (v O))])
 (a (a (r [p 6 (.load (some 6) (t 1)), p 7 (.call (v (G 524)) [(t 6)]), p 8 (.un .not (t 7))])
 (c (t 8) (a (r [p 9 (.build [O, O] []), q (.store 2 (t 2) (t 9)), p 3 (.mov (v (I 13)))])
 .ret) .skip))
 (a (r [p 11 (.load (some 6) (t 1)), p 12 (.call (v (G 525)) [(t 11)]), p 10 (.mov (t 12)), p 13 (.extract (t 10) 0), p 14 (.extract (t 10) 1), p 4 (.alloc [O, O] 76), q (.store 2 (t 4) (t 13)), p 5 (.mov (t 14))])
 (a (a (r [p 15 (.load (some 2) (t 4)), p 16 (.build [O, O] [(0, 1, (v (I 3)))]), p 17 (.eq false (.struct [(0, 1, false, .int), (1, 1, false, .int)]) (t 15) (t 16))])
 (c (t 17) (a (r [p 18 (.build [O, O] []), p 19 (.mov (t 5)), q (.store 2 (t 2) (t 18)), p 3 (.mov (t 19))])
 .ret) .skip))
 (a (r [p 20 (.load (some 2) (t 4)), p 21 (.mov (t 5)), q (.store 2 (t 2) (t 20)), p 3 (.mov (t 21))])
 .ret)))))⟩
theorem H472 : funcsOf Tryz.prog [] 472 = some k472 := by kernel_rfl
def k475 : AFn := ⟨9, [(2, none)],
 (a (r [p 2 (.mov (v B))])
 (a (r [p 3 (.mov (t 0)), p 4 (.bin .geq (t 3) (v O)), p 5 (.mov (t 4)), g 6 5 true (.mov (t 0)), g 7 5 true (.bin .leq (t 6) (v (I 65536))), p 8 (.pick (t 5) (t 7) (v B)), p 2 (.mov (t 8))])
 .ret))⟩
theorem H475 : funcsOf Tryz.prog [] 475 = some k475 := by kernel_rfl
def k479 : AFn := ⟨14, [],
 (a (r [p 3 (.box 3 152 (t 1))])
 (z [⟨(some 4), .mov (t 0), none, [0], 0, 2, false⟩, ⟨(some 5), .mov (t 0), none, [0], 0, 1, false⟩, ⟨(some 6), .nilCheck (t 5), none, [5], 0, 1, false⟩, ⟨(some 7), .fieldAddr 6 (t 6), none, [6], 0, 1, false⟩, ⟨(some 8), .load none (t 7), none, [7], 0, 1, false⟩, ⟨(some 9), .load (some 3) (t 3), none, [3], 0, 0, false⟩, ⟨(some 10), .buildSlice [O, O, E] 152 1 [(0, 3, (t 9))], none, [9], 0, 1, false⟩, ⟨(some 11), .append 152 3 32 (t 8) (t 10), none, [8, 10], 1, 2, false⟩, ⟨(some 12), .nilCheck (t 4), none, [4], 2, 2, false⟩, ⟨(some 13), .fieldAddr 6 (t 12), none, [12], 2, 2, false⟩, ⟨none, .store 1 (t 13) (t 11), none, [13, 11], 2, 3, false⟩]))⟩
theorem H479 : funcsOf Tryz.prog [] 479 = some k479 := by kernel_rfl
def k480 : AFn := ⟨19, [(4, none)],
 (a (r [p 4 (.mov (v O))])
 (a (a (r [p 6 (.mov (t 0)), p 7 (.lenSlice (t 6)), p 8 (.mov (v O))])
 (.block 0 (.loop (a (r [p 9 (.bin .lss (t 8) (t 7))])
 (a (c (t 9) .skip (.exit 0))
 (a (.block 1 (a (r [p 10 (.mov (t 8)), p 5 (.mov (t 10))])
 (a (r [p 11 (.mov (t 1)), p 12 (.mov (t 0)), p 13 (.mov (t 5)), p 14 (.idxAddr 3 (t 12) (t 13)), p 15 (.load (some 3) (t 14)), p 16 (.call (t 11) [(t 15)])])
 (c (t 16) (a (r [p 17 (.mov (t 5)), p 4 (.mov (t 17))])
 .ret) .skip))))
 (r [p 18 (.bin .add (t 8) (v (I 1))), p 8 (.mov (t 18))])))))))
 (a (r [p 4 (.mov (v (I (-1))))])
 .ret)))⟩
theorem H480 : funcsOf Tryz.prog [] 480 = some k480 := by kernel_rfl
def k482 : AFn := ⟨5, [(2, none)],
 (a (r [p 2 (.mov (v E))])
 (a (r [p 3 (.mov (t 0)), p 4 (.call (v (G 364)) [(t 3), (v (S [44, 32]))]), p 2 (.mov (t 4))])
 .ret))⟩
theorem H482 : funcsOf Tryz.prog [] 482 = some k482 := by kernel_rfl
def k489 : AFn := ⟨19, [(4, none)],
 (a (r [p 4 (.mov (v O))])
 (a (a (r [p 6 (.mov (t 0)), p 7 (.lenSlice (t 6)), p 8 (.mov (v O))])
 (.block 0 (.loop (a (r [p 9 (.bin .lss (t 8) (t 7))])
 (a (c (t 9) .skip (.exit 0))
 (a (.block 1 (a (r [p 10 (.mov (t 8)), p 5 (.mov (t 10))])
 (a (r [p 11 (.mov (t 1)), p 12 (.mov (t 0)), p 13 (.mov (t 5)), p 14 (.idxAddr 1 (t 12) (t 13)), p 15 (.load none (t 14)), p 16 (.call (t 11) [(t 15)])])
 (c (t 16) (a (r [p 17 (.mov (t 5)), p 4 (.mov (t 17))])
 .ret) .skip))))
 (r [p 18 (.bin .add (t 8) (v (I 1))), p 8 (.mov (t 18))])))))))
 (a (r [p 4 (.mov (v (I (-1))))])
 .ret)))⟩
theorem H489 : funcsOf Tryz.prog [] 489 = some k489 := by kernel_rfl
def k500 : AFn := ⟨4, [(2, none)],
 (a (r [p 1 (.box 1 60 (t 0)), p 2 (.mov (v .nilFunc))])
 (a (r [p 3 (.mkFunc (.func 542) [] [(t 1)]), p 2 (.mov (t 3))])
 .ret))⟩
theorem H500 : funcsOf Tryz.prog [] 500 = some k500 := by kernel_rfl
def k501 : AFn := ⟨16, [(2, none)],
 (a (r [p 2 (.mov (v B))])
 (a (r [p 3 (.alloc [B, B, O] 558)])
 (a (a (r [p 5 (.mov (t 0)), p 6 (.lenStr (t 5)), p 7 (.mov (v O))])
 (.block 0 (.loop (a (r [p 8 (.bin .lss (t 7) (t 6))])
 (a (c (t 8) .skip (.exit 0))
 (a (.block 1 (a (r [p 9 (.mov (t 7)), p 4 (.mov (t 9))])
 (r [p 10 (.mov (t 0)), p 11 (.mov (t 4)), p 12 (.idxStr (t 10) (t 11)), p 13 (.call (v (G 543)) [(t 3), (t 12)])])))
 (r [p 14 (.bin .add (t 7) (v (I 1))), p 7 (.mov (t 14))])))))))
 (a (r [p 15 (.call (v (G 544)) [(t 3)]), p 2 (.mov (t 15))])
 .ret))))⟩
theorem H501 : funcsOf Tryz.prog [] 501 = some k501 := by kernel_rfl
def k502 : AFn := ⟨4, [(2, none)],
 (a (r [p 1 (.box 1 9 (t 0)), p 2 (.mov (v .nilFunc))])
 (a (r [p 3 (.mkFunc (.func 545) [] [(t 1)]), p 2 (.mov (t 3))])
 .ret))⟩
theorem H502 : funcsOf Tryz.prog [] 502 = some k502 := by kernel_rfl
def k503 : AFn := ⟨34, [(2, none)],
 (a (r [p 2 (.mov (v E))])
 (a (r [p 5 (.mov (t 0)), p 6 (.lenStr (t 5)), p 3 (.mov (v O)), p 4 (.mov (t 6))])
 (a (.block 0 (.loop (a (a (r [p 7 (.mov (t 3)), p 8 (.mov (t 4)), p 9 (.bin .lss (t 7) (t 8)), p 10 (.mov (t 9)), g 11 10 true (.mov (t 0)), g 12 10 true (.mov (t 3)), g 13 10 true (.idxStr (t 11) (t 12)), g 14 10 true (.call (v (G 546)) [(t 13)]), p 15 (.pick (t 10) (t 14) (v B))])
 (c (t 15) .skip (.exit 0)))
 (.block 1 (r [p 16 (.mov (t 3)), p 17 (.bin .add (t 16) (v (I 1))), p 3 (.mov (t 17))])))))
 (a (.block 2 (.loop (a (a (r [p 18 (.mov (t 3)), p 19 (.mov (t 4)), p 20 (.bin .lss (t 18) (t 19)), p 21 (.mov (t 20)), g 22 21 true (.mov (t 0)), g 23 21 true (.mov (t 4)), g 24 21 true (.bin .sub (t 23) (v (I 1))), g 25 21 true (.idxStr (t 22) (t 24)), g 26 21 true (.call (v (G 546)) [(t 25)]), p 27 (.pick (t 21) (t 26) (v B))])
 (c (t 27) .skip (.exit 2)))
 (.block 3 (r [p 28 (.mov (t 4)), p 29 (.bin .sub (t 28) (v (I 1))), p 4 (.mov (t 29))])))))
 (a (r [p 30 (.mov (t 0)), p 31 (.mov (t 3)), p 32 (.mov (t 4)), p 33 (.sliceStr (t 30) (some (t 31)) (some (t 32))), p 2 (.mov (t 33))])
 .ret)))))⟩
theorem H503 : funcsOf Tryz.prog [] 503 = some k503 := by kernel_rfl
def k522 : AFn := ⟨66, [(4, none)],
 (a (r [p 4 (.mov (v O))])
 (a (.block 0 (a (r [p 16 (.mov (t 0)), p 17 (.nilCheck (t 16)), p 18 (.fieldAddr 0 (t 17)), p 19 (.load none (t 18)), p 20 (.bin .eql (t 19) (v O)), p 15 (.mov (t 20))])
 (c (t 15) (a (r [p 4 (.mov (v (I 4)))])
 .ret) (a (r [p 22 (.mov (t 0)), p 23 (.nilCheck (t 22)), p 24 (.fieldAddr 4 (t 23)), p 25 (.load none (t 24)), p 26 (.mov (t 1)), p 27 (.bin .eql (t 26) (v (.int .u8 10))), p 28 (.eq true .bool (t 25) (t 27)), p 21 (.mov (t 28))])
 (c (t 21) (a (r [p 4 (.mov (v (I 8)))])
 .ret) (a (r [p 30 (.mov (t 1)), p 31 (.bin .eql (t 30) (v (.int .u8 13))), p 29 (.mov (t 31))])
 (c (t 29) (r [p 32 (.mov (t 0)), p 33 (.nilCheck (t 32)), p 34 (.fieldAddr 4 (t 33)), q (.store 1 (t 34) (v Y))]) (a (r [p 36 (.mov (t 1)), p 37 (.bin .eql (t 36) (v (.int .u8 10))), p 35 (.mov (t 37))])
 (c (t 35) (r [p 38 (.mov (t 0)), p 39 (.mov (t 0)), p 40 (.nilCheck (t 38)), p 41 (.fieldAddr 4 (t 40)), q (.store 1 (t 41) (v B)), p 42 (.nilCheck (t 39)), p 43 (.fieldAddr 5 (t 42)), q (.store 1 (t 43) (v Y))]) (r [p 5 (.mov (t 0)), p 6 (.mov (t 0)), p 7 (.nilCheck (t 6)), p 8 (.fieldAddr 2 (t 7)), p 9 (.load none (t 8)), p 10 (.mov (t 1)), p 11 (.buildSlice [(.int .u8 0)] 5 1 [(0, 1, (t 10))]), p 12 (.append 5 1 1 (t 9) (t 11)), p 13 (.nilCheck (t 5)), p 14 (.fieldAddr 2 (t 13)), q (.store 1 (t 14) (t 12))]))))))))))
 (a (r [p 44 (.mov (t 0)), p 45 (.nilCheck (t 44)), p 46 (.fieldAddr 0 (t 45)), p 47 (.load none (t 46)), p 48 (.bin .sub (t 47) (v (I 1))), p 49 (.nilCheck (t 44)), p 50 (.fieldAddr 0 (t 49)), q (.store 1 (t 50) (t 48))])
 (a (r [p 51 (.mov (t 0)), p 52 (.nilCheck (t 51)), p 53 (.fieldAddr 1 (t 52)), p 54 (.load none (t 53)), p 55 (.bin .add (t 54) (v (I 1))), p 56 (.nilCheck (t 51)), p 57 (.fieldAddr 1 (t 56)), q (.store 1 (t 57) (t 55))])
 (a (r [p 58 (.mov (t 0)), p 59 (.mov (t 0)), p 60 (.nilCheck (t 59)), p 61 (.fieldAddr 5 (t 60)), p 62 (.load none (t 61)), p 63 (.un .not (t 62)), p 64 (.nilCheck (t 58)), p 65 (.fieldAddr 3 (t 64)), q (.store 1 (t 65) (t 63))])
 (a (r [p 4 (.mov (v O))])
 .ret))))))⟩
theorem H522 : funcsOf Tryz.prog [] 522 = some k522 := by kernel_rfl
def k523 : AFn := ⟨57, [(6, (some (some 6))), (7, none)],
 (a (r [p 4 (.box 5 23 (t 1)), p 6 (.alloc [E, E, O, O, E, L] 74), p 7 (.mov (v O))])
 (a (.block 0 (a (r [p 11 (.mov (t 0)), p 12 (.bin .neq (t 11) (v (I 1))), p 13 (.mov (t 12)), g 14 13 true (.mov (t 0)), g 15 13 true (.bin .neq (t 14) (v (I 2))), p 16 (.pick (t 13) (t 15) (v B)), p 10 (.mov (t 16))])
 (c (t 10) (a (r [p 17 (.build [E, E, O, O, E, L] []), q (.store 6 (t 6) (t 17)), p 7 (.mov (v (I 1)))])
 .ret) (a (r [p 19 (.mov (t 2)), p 20 (.lenSlice (t 19)), p 21 (.bin .eql (t 20) (v O)), p 18 (.mov (t 21))])
 (c (t 18) (a (r [p 22 (.build [E, E, O, O, E, L] []), q (.store 6 (t 6) (t 22)), p 7 (.mov (v (I 2)))])
 .ret) .skip)))))
 (a (r [p 24 (.mov (t 0)), p 25 (.mov (t 2)), p 26 (.idxAddr 1 (t 25) (v O)), p 27 (.load none (t 26)), p 28 (.call (v (G 551)) [(t 24), (t 27)]), p 23 (.mov (t 28)), p 29 (.extract (t 23) 0), p 30 (.extract (t 23) 1), p 8 (.alloc [E, E, O, O, E, L] 74), q (.store 6 (t 8) (t 29)), p 9 (.mov (t 30))])
 (a (a (r [p 31 (.mov (t 9)), p 32 (.bin .neq (t 31) (v O))])
 (c (t 32) (a (r [p 33 (.build [E, E, O, O, E, L] []), p 34 (.mov (t 9)), q (.store 6 (t 6) (t 33)), p 7 (.mov (t 34))])
 .ret) .skip))
 (a (a (r [p 35 (.mov (t 2)), p 36 (.lenSlice (t 35)), p 37 (.bin .sub (t 36) (v (I 1))), p 38 (.fieldAddr 1 (t 4)), p 39 (.load none (t 38)), p 40 (.bin .gtr (t 37) (t 39))])
 (c (t 40) (a (r [p 41 (.build [E, E, O, O, E, L] []), q (.store 6 (t 6) (t 41)), p 7 (.mov (v (I 4)))])
 .ret) .skip))
 (a (z [⟨(some 43), .fieldAddr 4 (t 4), none, [4], 0, 0, false⟩, ⟨(some 44), .load none (t 43), none, [43], 0, 0, false⟩, ⟨(some 45), .mov (t 2), none, [2], 0, 0, false⟩, ⟨(some 46), .slice 1 (t 45) (some (v (I 1))) none none, none, [45], 0, 0, false⟩, ⟨(some 47), .call (v (G 552)) [(t 44), (t 46)], none, [44, 46], 0, 1, false⟩, ⟨(some 42), .mov (t 47), none, [47], 1, 1, false⟩, ⟨(some 48), .extract (t 42) 0, none, [42], 1, 1, false⟩, ⟨(some 49), .extract (t 42) 1, none, [42], 1, 2, false⟩, ⟨(some 50), .fieldAddr 5 (t 8), none, [8], 1, 1, false⟩, ⟨none, .store 1 (t 50) (t 48), none, [50, 48], 1, 2, false⟩, ⟨(some 9), .mov (t 49), none, [49], 2, 2, false⟩])
 (a (a (r [p 51 (.mov (t 9)), p 52 (.bin .neq (t 51) (v O))])
 (c (t 52) (a (r [p 53 (.build [E, E, O, O, E, L] []), p 54 (.mov (t 9)), q (.store 6 (t 6) (t 53)), p 7 (.mov (t 54))])
 .ret) .skip))
 (a (r [p 55 (.load (some 6) (t 8)), p 56 (.mov (t 9)), q (.store 6 (t 6) (t 55)), p 7 (.mov (t 56))])
 .ret))))))))⟩
theorem H523 : funcsOf Tryz.prog [] 523 = some k523 := by kernel_rfl
def k524 : AFn := ⟨24, [(2, none)],
 (a (r [p 1 (.box 6 74 (t 0)), p 2 (.mov (v B))])
 (a (r [p 5 (.fieldAddr 5 (t 1)), p 6 (.load none (t 5)), p 7 (.call (v (G 301)) [(t 6), (v (S [72, 111, 115, 116]))]), p 3 (.mov (t 7))])
 (a (r [p 4 (.mov (v (G 553)))])
 (a (a (r [p 8 (.mov (t 3)), p 9 (.lenSlice (t 8)), p 10 (.bin .eql (t 9) (v O))])
 (c (t 10) (a (r [p 11 (.fieldAddr 2 (t 1)), p 12 (.load none (t 11)), p 13 (.bin .leq (t 12) (v O)), p 2 (.mov (t 13))])
 .ret) .skip))
 (a (r [p 14 (.mov (t 3)), p 15 (.lenSlice (t 14)), p 16 (.bin .eql (t 15) (v (I 1))), p 17 (.mov (t 16)), g 18 17 true (.mov (t 4)), g 19 17 true (.mov (t 3)), g 20 17 true (.idxAddr 1 (t 19) (v O)), g 21 17 true (.load none (t 20)), g 22 17 true (.call (t 18) [(t 21)]), p 23 (.pick (t 17) (t 22) (v B)), p 2 (.mov (t 23))])
 .ret)))))⟩
theorem H524 : funcsOf Tryz.prog [] 524 = some k524 := by kernel_rfl
def k525 : AFn := ⟨54, [(2, (some (some 2))), (3, none)],
 (a (r [p 1 (.box 6 74 (t 0)), p 2 (.alloc [O, O] 76), p 3 (.mov (v O))])
 (a (r [p 10 (.fieldAddr 5 (t 1)), p 11 (.load none (t 10)), p 12 (.call (v (G 554)) [(t 11)]), p 9 (.mov (t 12)), p 13 (.extract (t 9) 0), p 14 (.extract (t 9) 1), p 4 (.mov (t 13)), p 5 (.mov (t 14))])
 (a (r [p 16 (.fieldAddr 5 (t 1)), p 17 (.load none (t 16)), p 18 (.call (v (G 423)) [(t 17)]), p 15 (.mov (t 18)), p 19 (.extract (t 15) 0), p 20 (.extract (t 15) 1), p 21 (.extract (t 15) 2), p 6 (.mov (t 19)), p 7 (.mov (t 20)), p 8 (.mov (t 21))])
 (a (.block 0 (a (r [p 23 (.mov (t 5)), p 24 (.bin .neq (t 23) (v O)), p 22 (.mov (t 24))])
 (c (t 22) (a (r [p 25 (.build [O, O] []), p 26 (.mov (t 5)), q (.store 2 (t 2) (t 25)), p 3 (.mov (t 26))])
 .ret) (a (r [p 28 (.mov (t 4)), p 29 (.mov (t 28)), g 30 29 true (.fieldAddr 2 (t 1)), g 31 29 true (.load none (t 30)), g 32 29 true (.bin .leq (t 31) (v O)), g 33 29 true (.mov (t 32)), g 34 33 false (.fieldAddr 5 (t 1)), g 35 33 false (.load none (t 34)), g 36 33 false (.call (v (G 216)) [(t 35), (v (S [67, 111, 110, 116, 101, 110, 116, 45, 76, 101, 110, 103, 116, 104]))]), g 37 33 false (.bin .gtr (t 36) (v O)), g 38 29 true (.pick (t 33) (v Y) (t 37)), p 39 (.pick (t 29) (t 38) (v B)), p 27 (.mov (t 39))])
 (c (t 27) (a (r [p 40 (.build [O, O] []), q (.store 2 (t 2) (t 40)), p 3 (.mov (v (I 14)))])
 .ret) (a (r [p 42 (.mov (t 8)), p 43 (.bin .neq (t 42) (v O)), p 41 (.mov (t 43))])
 (c (t 41) (a (r [p 44 (.build [O, O] []), p 45 (.mov (t 8)), q (.store 2 (t 2) (t 44)), p 3 (.mov (t 45))])
 .ret) (a (r [p 47 (.mov (t 4)), p 46 (.mov (t 47))])
 (c (t 46) (a (r [p 48 (.build [O, O] [(0, 1, (v (I 2)))]), q (.store 2 (t 2) (t 48)), p 3 (.mov (v O))])
 .ret) (a (r [p 50 (.mov (t 7)), p 49 (.mov (t 50))])
 (c (t 49) (a (r [p 51 (.mov (t 6)), p 52 (.build [O, O] [(0, 1, (v (I 1))), (1, 1, (t 51))]), q (.store 2 (t 2) (t 52)), p 3 (.mov (v O))])
 .ret) .skip)))))))))))
 (a (r [p 53 (.build [O, O] [(0, 1, (v (I 3)))]), q (.store 2 (t 2) (t 53)), p 3 (.mov (v O))])
 .ret)))))⟩
theorem H525 : funcsOf Tryz.prog [] 525 = some k525 := by kernel_rfl
def k542 : AFn := ⟨21, [],
 (a (r [p 2 (.box 1 92 (t 0))])
 (a (r [p 6 (.load none (t 1)), p 7 (.lenSlice (t 6)), p 8 (.mov (v O))])
 (.block 0 (.loop (a (r [p 9 (.bin .lss (t 8) (t 7))])
 (a (c (t 9) .skip (.exit 0))
 (a (.block 1 (a (r [p 10 (.idxAddr 1 (t 6) (t 8)), p 11 (.load none (t 10)), p 4 (.mov (t 11))])
 (a (r [p 12 (.mov (t 4)), p 13 (.call (v (G 159)) [(t 12), (v (S [44]))])])
 (.block 2 (.rangeFunc (t 13) [14] (r [p 5 (.mov (t 14))]) (.block 3 (a (z [⟨(some 15), .load none (t 2), none, [2], 0, 1, false⟩, ⟨(some 16), .mov (t 5), none, [5], 0, 0, false⟩, ⟨(some 17), .call (v (G 503)) [(t 16)], none, [16], 0, 1, false⟩, ⟨(some 18), .call (t 15) [(t 17)], none, [15, 17], 1, 2, false⟩, ⟨(some 19), .un .not (t 18), none, [18], 2, 2, false⟩])
 (c (t 19) .ret .skip))))))))
 (r [p 20 (.bin .add (t 8) (v (I 1))), p 8 (.mov (t 20))]))))))))⟩
theorem H542 : funcsOf Tryz.prog [] 542 = some k542 := by kernel_rfl
def k544 : AFn := ⟨22, [(2, none)],
 (a (r [p 2 (.mov (v B))])
 (a (r [p 3 (.mov (t 0)), p 4 (.nilCheck (t 3)), p 5 (.fieldAddr 0 (t 4)), p 6 (.load none (t 5)), p 7 (.un .not (t 6)), p 8 (.mov (t 7)), g 9 8 true (.mov (t 0)), g 10 8 true (.nilCheck (t 9)), g 11 8 true (.fieldAddr 1 (t 10)), g 12 8 true (.load none (t 11)), g 13 8 true (.un .not (t 12)), p 14 (.pick (t 8) (t 13) (v B)), p 15 (.mov (t 14)), g 16 15 true (.mov (t 0)), g 17 15 true (.nilCheck (t 16)), g 18 15 true (.fieldAddr 2 (t 17)), g 19 15 true (.load none (t 18)), g 20 15 true (.bin .eql (t 19) (v O)), p 21 (.pick (t 15) (t 20) (v B)), p 2 (.mov (t 21))])
 .ret))⟩
theorem H544 : funcsOf Tryz.prog [] 544 = some k544 := by kernel_rfl
def k545 : AFn := ⟨37, [],
 (a (r [p 3 (.alloc [B, B, O] 558)])
 (a (r [p 4 (.mov (v O))])
 (a (a (r [p 6 (.load none (t 1)), p 7 (.lenStr (t 6)), p 8 (.mov (v O))])
 (.block 0 (.loop (a (r [p 9 (.bin .lss (t 8) (t 7))])
 (a (c (t 9) .skip (.exit 0))
 (a (.block 1 (a (r [p 10 (.mov (t 8)), p 5 (.mov (t 10))])
 (a (a (r [p 11 (.load none (t 1)), p 12 (.mov (t 5)), p 13 (.idxStr (t 11) (t 12)), p 14 (.bin .eql (t 13) (v (.int .u8 44))), p 15 (.mov (t 14)), g 16 15 true (.call (v (G 544)) [(t 3)]), p 17 (.pick (t 15) (t 16) (v B))])
 (c (t 17) (a (a (r [p 18 (.mov (t 0)), p 19 (.load none (t 1)), p 20 (.mov (t 4)), p 21 (.mov (t 5)), p 22 (.sliceStr (t 19) (some (t 20)) (some (t 21))), p 23 (.call (t 18) [(t 22)]), p 24 (.un .not (t 23))])
 (c (t 24) .ret .skip))
 (a (r [p 25 (.mov (t 5)), p 26 (.bin .add (t 25) (v (I 1))), p 4 (.mov (t 26))])
 (.exit 1))) .skip))
 (r [p 27 (.load none (t 1)), p 28 (.mov (t 5)), p 29 (.idxStr (t 27) (t 28)), p 30 (.call (v (G 543)) [(t 3), (t 29)])]))))
 (r [p 31 (.bin .add (t 8) (v (I 1))), p 8 (.mov (t 31))])))))))
 (r [p 32 (.mov (t 0)), p 33 (.load none (t 1)), p 34 (.mov (t 4)), p 35 (.sliceStr (t 33) (some (t 34)) none), p 36 (.call (t 32) [(t 35)])]))))⟩
theorem H545 : funcsOf Tryz.prog [] 545 = some k545 := by kernel_rfl
def k546 : AFn := ⟨9, [(2, none)],
 (a (r [p 2 (.mov (v B))])
 (a (r [p 3 (.mov (t 0)), p 4 (.bin .eql (t 3) (v (.int .u8 32))), p 5 (.mov (t 4)), g 6 5 false (.mov (t 0)), g 7 5 false (.bin .eql (t 6) (v (.int .u8 9))), p 8 (.pick (t 5) (v Y) (t 7)), p 2 (.mov (t 8))])
 .ret))⟩
theorem H546 : funcsOf Tryz.prog [] 546 = some k546 := by kernel_rfl
def k549 : AFn := ⟨5, [(2, none)],
 (a (r [p 2 (.mov (v B))])
 (a (r [p 3 (.mov (t 0)), p 4 (.call (v (G 125)) [(t 3), (v (G 562))]), p 2 (.mov (t 4))])
 .ret))⟩
theorem H549 : funcsOf Tryz.prog [] 549 = some k549 := by kernel_rfl
def k551 : AFn := ⟨16, [(4, (some (some 6))), (5, none)],
 (a (r [p 4 (.alloc [E, E, O, O, E, L] 74), p 5 (.mov (v O))])
 (a (a (r [p 6 (.mov (t 0)), p 7 (.bin .eql (t 6) (v (I 1)))])
 (c (t 7) (a (r [p 8 (.mov (t 1)), p 9 (.call (v (G 563)) [(t 8)]), p 10 (.extract (t 9) 0), p 11 (.extract (t 9) 1), q (.store 6 (t 4) (t 10)), p 5 (.mov (t 11))])
 .ret) .skip))
 (a (r [p 12 (.mov (t 1)), p 13 (.call (v (G 564)) [(t 12)]), p 14 (.extract (t 13) 0), p 15 (.extract (t 13) 1), q (.store 6 (t 4) (t 14)), p 5 (.mov (t 15))])
 .ret)))⟩
theorem H551 : funcsOf Tryz.prog [] 551 = some k551 := by kernel_rfl
def k552 : AFn := ⟨43, [(4, none), (5, none)],
 (a (r [p 4 (.mov (v L)), p 5 (.mov (v O))])
 (a (r [p 12 (.mov (t 0)), p 13 (.mov (t 1)), p 14 (.call (v (G 565)) [(t 12), (t 13)]), p 11 (.mov (t 14)), p 15 (.extract (t 11) 0), p 16 (.extract (t 11) 1), p 6 (.mov (t 15)), p 7 (.mov (t 16))])
 (a (a (r [p 17 (.mov (t 7)), p 18 (.bin .neq (t 17) (v O))])
 (c (t 18) (a (r [p 19 (.mov (t 7)), p 4 (.mov (v L)), p 5 (.mov (t 19))])
 .ret) .skip))
 (a (r [p 20 (.mov (t 6)), p 21 (.lenSlice (t 20)), p 22 (.mkSlice [E, E] 243 2 32 (t 21) (t 21)), p 8 (.mov (t 22))])
 (a (a (r [p 23 (.mov (t 6)), p 24 (.lenSlice (t 23)), p 25 (.mov (v O))])
 (.block 0 (.loop (a (r [p 26 (.bin .lss (t 25) (t 24))])
 (a (c (t 26) .skip (.exit 0))
 (a (.block 1 (a (r [p 27 (.mov (t 25)), p 28 (.idxAddr 1 (t 23) (t 25)), p 29 (.load none (t 28)), p 9 (.mov (t 27)), p 10 (.mov (t 29))])
 (a (r [p 31 (.mov (t 8)), p 32 (.mov (t 9)), p 33 (.mov (t 10)), p 34 (.call (v (G 566)) [(t 33)]), p 30 (.mov (t 34)), p 35 (.extract (t 30) 0), p 36 (.extract (t 30) 1), p 37 (.idxAddr 2 (t 31) (t 32)), q (.store 2 (t 37) (t 35)), p 7 (.mov (t 36))])
 (a (r [p 38 (.mov (t 7)), p 39 (.bin .neq (t 38) (v O))])
 (c (t 39) (a (r [p 40 (.mov (t 7)), p 4 (.mov (v L)), p 5 (.mov (t 40))])
 .ret) .skip)))))
 (r [p 41 (.bin .add (t 25) (v (I 1))), p 25 (.mov (t 41))])))))))
 (a (r [p 42 (.mov (t 8)), p 4 (.mov (t 42)), p 5 (.mov (v O))])
 .ret))))))⟩
theorem H552 : funcsOf Tryz.prog [] 552 = some k552 := by kernel_rfl
def k553 : AFn := ⟨14, [(2, none)],
 (a (r [p 2 (.mov (v B))])
 (a (r [p 7 (.mov (t 0)), p 8 (.call (v (G 123)) [(t 7)]), p 6 (.mov (t 8)), p 9 (.extract (t 6) 0), p 10 (.extract (t 6) 1), p 11 (.extract (t 6) 2), p 3 (.mov (t 9)), p 4 (.mov (t 10)), p 5 (.mov (t 11))])
 (a (r [p 12 (.mov (t 5)), p 13 (.bin .eql (t 12) (v O)), p 2 (.mov (t 13))])
 .ret)))⟩
theorem H553 : funcsOf Tryz.prog [] 553 = some k553 := by kernel_rfl
def k554 : AFn := ⟨77, [(2, none), (3, none)],
 (a (r [p 2 (.mov (v B)), p 3 (.mov (v O))])
 (a (r [p 18 (.mov (t 0)), p 19 (.call (v (G 393)) [(t 18), (v (S [84, 114, 97, 110, 115, 102, 101, 114, 45, 69, 110, 99, 111, 100, 105, 110, 103]))]), p 17 (.mov (t 19)), p 20 (.extract (t 17) 0), p 21 (.extract (t 17) 1), p 4 (.mov (t 20)), p 5 (.mov (t 21))])
 (a (a (r [p 22 (.mov (t 5)), p 23 (.un .not (t 22))])
 (c (t 23) (a (r [p 2 (.mov (v B)), p 3 (.mov (v O))])
 .ret) .skip))
 (a (r [p 25 (.mov (t 4)), p 26 (.call (v (G 424)) [(t 25)]), p 24 (.mov (t 26)), p 27 (.extract (t 24) 0), p 28 (.extract (t 24) 1), p 6 (.mov (t 27)), p 7 (.mov (t 28))])
 (a (r [p 8 (.mov (v O))])
 (a (a (r [p 29 (.mov (t 6)), p 30 (.lenSlice (t 29)), p 31 (.mov (v O))])
 (.block 0 (.loop (a (r [p 32 (.bin .lss (t 31) (t 30))])
 (a (c (t 32) .skip (.exit 0))
 (a (.block 1 (a (r [p 33 (.idxAddr 1 (t 29) (t 31)), p 34 (.load none (t 33)), p 10 (.mov (t 34))])
 (a (r [p 36 (.mov (t 10)), p 37 (.call (v (G 567)) [(t 36)]), p 35 (.mov (t 37)), p 38 (.extract (t 35) 0), p 39 (.extract (t 35) 1), p 40 (.extract (t 35) 2), p 11 (.mov (t 38)), p 12 (.mov (t 39)), p 13 (.mov (t 40))])
 (a (r [p 41 (.mov (t 7)), p 42 (.mov (t 41)), g 43 42 true (.mov (t 13)), p 44 (.pick (t 42) (t 43) (v B)), p 7 (.mov (t 44))])
 (a (r [p 45 (.mov (t 11)), p 46 (.bin .eql (t 45) (v (S [99, 104, 117, 110, 107, 101, 100])))])
 (c (t 46) (r [p 47 (.mov (t 8)), p 48 (.bin .add (t 47) (v (I 1))), p 8 (.mov (t 48))]) .skip))))))
 (r [p 49 (.bin .add (t 31) (v (I 1))), p 31 (.mov (t 49))])))))))
 (a (a (r [p 50 (.mov (t 7)), p 51 (.un .not (t 50)), p 52 (.mov (t 51)), g 53 52 false (.mov (t 8)), g 54 52 false (.bin .neq (t 53) (v (I 1))), p 55 (.pick (t 52) (v Y) (t 54))])
 (c (t 55) (a (r [p 2 (.mov (v B)), p 3 (.mov (v (I 14)))])
 .ret) .skip))
 (a (a (r [p 57 (.mov (t 6)), p 58 (.mov (t 6)), p 59 (.lenSlice (t 58)), p 60 (.bin .sub (t 59) (v (I 1))), p 61 (.idxAddr 1 (t 57) (t 60)), p 62 (.load none (t 61)), p 63 (.call (v (G 567)) [(t 62)]), p 56 (.mov (t 63)), p 64 (.extract (t 56) 0), p 65 (.extract (t 56) 1), p 66 (.extract (t 56) 2), p 14 (.mov (t 64)), p 15 (.mov (t 65)), p 16 (.mov (t 66))])
 (.block 2 (a (r [p 68 (.mov (t 14)), p 69 (.bin .neq (t 68) (v (S [99, 104, 117, 110, 107, 101, 100]))), p 70 (.mov (t 69)), g 71 70 false (.mov (t 15)), p 72 (.pick (t 70) (v Y) (t 71)), p 67 (.mov (t 72))])
 (c (t 67) (a (r [p 2 (.mov (v B)), p 3 (.mov (v (I 14)))])
 .ret) (a (r [p 74 (.mov (t 6)), p 75 (.lenSlice (t 74)), p 76 (.bin .gtr (t 75) (v (I 1))), p 73 (.mov (t 76))])
 (c (t 73) (a (r [p 2 (.mov (v B)), p 3 (.mov (v (I 15)))])
 .ret) .skip))))))
 (a (r [p 2 (.mov (v Y)), p 3 (.mov (v O))])
 .ret)))))))))⟩
theorem H554 : funcsOf Tryz.prog [] 554 = some k554 := by kernel_rfl
def k562 : AFn := ⟨13, [(2, none)],
 (a (r [p 2 (.mov (v B))])
 (a (r [p 3 (.mov (t 0)), p 4 (.bin .eql (t 3) (v (.int .i32 9))), p 5 (.mov (t 4)), g 6 5 false (.mov (t 0)), g 7 5 false (.bin .geq (t 6) (v (.int .i32 32))), g 8 5 false (.mov (t 7)), g 9 8 true (.mov (t 0)), g 10 8 true (.bin .neq (t 9) (v (.int .i32 127))), g 11 5 false (.pick (t 8) (t 10) (v B)), p 12 (.pick (t 5) (v Y) (t 11)), p 2 (.mov (t 12))])
 .ret))⟩
theorem H562 : funcsOf Tryz.prog [] 562 = some k562 := by kernel_rfl
def k563 : AFn := ⟨54, [(2, (some (some 6))), (3, none)],
 (a (r [p 2 (.alloc [E, E, O, O, E, L] 74), p 3 (.mov (v O))])
 (a (r [p 10 (.mov (t 0)), p 11 (.call (v (G 357)) [(t 10), (v (S [32]))]), p 4 (.mov (t 11))])
 (a (a (r [p 12 (.mov (t 4)), p 13 (.lenSlice (t 12)), p 14 (.bin .neq (t 13) (v (I 3)))])
 (c (t 14) (a (r [p 15 (.build [E, E, O, O, E, L] []), q (.store 6 (t 2) (t 15)), p 3 (.mov (v (I 3)))])
 .ret) .skip))
 (a (z [⟨(some 16), .mov (t 4), none, [4], 0, 1, false⟩, ⟨(some 17), .idxAddr 1 (t 16) (v O), none, [16], 0, 1, false⟩, ⟨(some 18), .load none (t 17), none, [17], 0, 1, false⟩, ⟨(some 19), .mov (t 4), none, [4], 0, 1, false⟩, ⟨(some 20), .idxAddr 1 (t 19) (v (I 1)), none, [19], 0, 1, false⟩, ⟨(some 21), .load none (t 20), none, [20], 0, 1, false⟩, ⟨(some 22), .build [E, E, O, O, E, L] [(0, 1, (t 18)), (1, 1, (t 21))], none, [18, 21], 0, 1, false⟩, ⟨(some 5), .alloc [E, E, O, O, E, L] 74, none, [], 0, 1, false⟩, ⟨none, .store 6 (t 5) (t 22), none, [5, 22], 1, 2, false⟩])
 (a (r [p 6 (.alloc [O] 39), q (.store 1 (t 6) (v O))])
 (a (r [p 23 (.mkFunc (.func 571) [] [(t 6)]), p 7 (.mov (t 23))])
 (a (r [p 24 (.mov (t 7)), p 25 (.fieldAddr 0 (t 5)), p 26 (.load none (t 25)), p 27 (.call (v (G 54)) [(t 26)]), p 28 (.call (t 24) [(t 27), (v (I 6))])])
 (a (r [p 29 (.mov (t 7)), p 30 (.fieldAddr 1 (t 5)), p 31 (.load none (t 30)), p 32 (.call (v (G 279)) [(t 31)]), p 33 (.call (t 29) [(t 32), (v (I 11))])])
 (a (r [p 35 (.mov (t 4)), p 36 (.idxAddr 1 (t 35) (v (I 2))), p 37 (.load none (t 36)), p 38 (.call (v (G 572)) [(t 37)]), p 34 (.mov (t 38)), p 39 (.extract (t 34) 0), p 40 (.extract (t 34) 1), p 8 (.mov (t 39)), p 9 (.mov (t 40))])
 (a (r [p 41 (.mov (t 7)), p 42 (.mov (t 9)), p 43 (.bin .eql (t 42) (v O)), p 44 (.mov (t 9)), p 45 (.call (t 41) [(t 43), (t 44)])])
 (a (r [p 46 (.mov (t 8)), p 47 (.fieldAddr 2 (t 5)), q (.store 1 (t 47) (t 46))])
 (a (a (r [p 48 (.load none (t 6)), p 49 (.bin .neq (t 48) (v O))])
 (c (t 49) (a (z [p 50 (.build [E, E, O, O, E, L] []), ⟨(some 51), .load none (t 6), none, [6], 0, 1, false⟩, ⟨none, .store 6 (t 2) (t 50), none, [2, 50], 0, 1, false⟩, ⟨(some 3), .mov (t 51), none, [51], 1, 1, false⟩])
 .ret) .skip))
 (a (z [⟨(some 52), .load (some 6) (t 5), none, [5], 0, 0, false⟩, ⟨(some 53), .load none (t 6), none, [6], 0, 1, false⟩, ⟨none, .store 6 (t 2) (t 52), none, [2, 52], 0, 1, false⟩, ⟨(some 3), .mov (t 53), none, [53], 1, 1, false⟩])
 .ret)))))))))))))⟩
theorem H563 : funcsOf Tryz.prog [] 563 = some k563 := by kernel_rfl
def k565 : AFn := ⟨38, [(4, none), (5, none)],
 (a (r [p 4 (.mov (v L)), p 5 (.mov (v O))])
 (a (r [p 6 (.alloc [L] 60)])
 (a (r [p 10 (.mkFunc (.func 574) [] [(t 6)]), p 7 (.mov (t 10))])
 (a (a (r [p 11 (.mov (t 1)), p 12 (.lenSlice (t 11)), p 13 (.mov (v O))])
 (.block 0 (.loop (a (r [p 14 (.bin .lss (t 13) (t 12))])
 (a (c (t 14) .skip (.exit 0))
 (a (.block 1 (a (r [p 15 (.idxAddr 1 (t 11) (t 13)), p 16 (.load none (t 15)), p 9 (.mov (t 16))])
 (.block 2 (a (r [p 21 (.mov (t 9)), p 22 (.call (v (G 575)) [(t 21)]), p 23 (.un .not (t 22)), p 20 (.mov (t 23))])
 (c (t 20) (r [p 24 (.load none (t 6)), p 25 (.mov (t 9)), p 26 (.buildSlice [E] 9 1 [(0, 1, (t 25))]), p 27 (.append 9 1 16 (t 24) (t 26)), q (.store 1 (t 6) (t 27))]) (a (r [p 29 (.mov (t 0)), p 30 (.bin .eql (t 29) (v O)), p 31 (.mov (t 30)), g 32 31 false (.load none (t 6)), g 33 31 false (.lenSlice (t 32)), g 34 31 false (.bin .eql (t 33) (v O)), p 35 (.pick (t 31) (v Y) (t 34)), p 28 (.mov (t 35))])
 (c (t 28) (a (r [p 4 (.mov (v L)), p 5 (.mov (v (I 3)))])
 .ret) (r [p 17 (.mov (t 7)), p 18 (.mov (t 9)), p 19 (.call (t 17) [(t 18)])]))))))))
 (r [p 36 (.bin .add (t 13) (v (I 1))), p 13 (.mov (t 36))])))))))
 (a (r [p 37 (.load none (t 6)), p 4 (.mov (t 37)), p 5 (.mov (v O))])
 .ret)))))⟩
theorem H565 : funcsOf Tryz.prog [] 565 = some k565 := by kernel_rfl
def k566 : AFn := ⟨31, [(2, (some (some 2))), (3, none)],
 (a (r [p 2 (.alloc [E, E] 243), p 3 (.mov (v O))])
 (a (r [p 8 (.mov (t 0)), p 9 (.call (v (G 160)) [(t 8), (v (S [58]))]), p 7 (.mov (t 9)), p 10 (.extract (t 7) 0), p 11 (.extract (t 7) 1), p 12 (.extract (t 7) 2), p 4 (.mov (t 10)), p 5 (.mov (t 11)), p 6 (.mov (t 12))])
 (a (.block 0 (a (r [p 14 (.mov (t 6)), p 15 (.un .not (t 14)), p 13 (.mov (t 15))])
 (c (t 13) (a (r [p 16 (.build [E, E] []), q (.store 2 (t 2) (t 16)), p 3 (.mov (v (I 3)))])
 .ret) (a (r [p 18 (.mov (t 4)), p 19 (.call (v (G 54)) [(t 18)]), p 20 (.un .not (t 19)), p 17 (.mov (t 20))])
 (c (t 17) (a (r [p 21 (.build [E, E] []), q (.store 2 (t 2) (t 21)), p 3 (.mov (v (I 6)))])
 .ret) (a (r [p 23 (.mov (t 5)), p 24 (.call (v (G 549)) [(t 23)]), p 25 (.un .not (t 24)), p 22 (.mov (t 25))])
 (c (t 22) (a (r [p 26 (.build [E, E] []), q (.store 2 (t 2) (t 26)), p 3 (.mov (v (I 7)))])
 .ret) .skip)))))))
 (a (r [p 27 (.mov (t 4)), p 28 (.mov (t 5)), p 29 (.call (v (G 503)) [(t 28)]), p 30 (.build [E, E] [(0, 1, (t 27)), (1, 1, (t 29))]), q (.store 2 (t 2) (t 30)), p 3 (.mov (v O))])
 .ret))))⟩
theorem H566 : funcsOf Tryz.prog [] 566 = some k566 := by kernel_rfl
def k571 : AFn := ⟨12, [],
 (a (r [p 5 (.load none (t 2)), p 6 (.bin .eql (t 5) (v O)), p 7 (.mov (t 6)), g 8 7 true (.mov (t 0)), g 9 7 true (.un .not (t 8)), p 10 (.pick (t 7) (t 9) (v B))])
 (c (t 10) (r [p 11 (.mov (t 1)), q (.store 1 (t 2) (t 11))]) .skip))⟩
theorem H571 : funcsOf Tryz.prog [] 571 = some k571 := by kernel_rfl
def k572 : AFn := ⟨16, [(2, none), (3, none)],
 (a (r [p 2 (.mov (v O)), p 3 (.mov (v O))])
 (a (.block 0 (a (r [p 5 (.mov (t 0)), p 6 (.call (v (G 573)) [(t 5)]), p 7 (.un .not (t 6)), p 4 (.mov (t 7))])
 (c (t 4) (a (r [p 2 (.mov (v O)), p 3 (.mov (v (I 3)))])
 .ret) (a (r [p 9 (.mov (t 0)), p 10 (.idxStr (t 9) (v (I 5))), p 11 (.bin .neq (t 10) (v (.int .u8 49))), p 8 (.mov (t 11))])
 (c (t 8) (a (r [p 2 (.mov (v O)), p 3 (.mov (v (I 9)))])
 .ret) (a (r [p 13 (.mov (t 0)), p 14 (.idxStr (t 13) (v (I 7))), p 15 (.bin .eql (t 14) (v (.int .u8 48))), p 12 (.mov (t 15))])
 (c (t 12) (a (r [p 2 (.mov (v O)), p 3 (.mov (v O))])
 .ret) .skip)))))))
 (a (r [p 2 (.mov (v (I 1))), p 3 (.mov (v O))])
 .ret)))⟩
theorem H572 : funcsOf Tryz.prog [] 572 = some k572 := by kernel_rfl
def k573 : AFn := ⟨25, [(2, none)],
 (a (r [p 2 (.mov (v B))])
 (a (r [p 3 (.mov (t 0)), p 4 (.lenStr (t 3)), p 5 (.bin .eql (t 4) (v (I 8))), p 6 (.mov (t 5)), g 7 6 true (.mov (t 0)), g 8 6 true (.call (v (G 298)) [(t 7), (v (S [72, 84, 84, 80, 47]))]), p 9 (.pick (t 6) (t 8) (v B)), p 10 (.mov (t 9)), g 11 10 true (.mov (t 0)), g 12 10 true (.idxStr (t 11) (v (I 5))), g 13 10 true (.call (v (G 576)) [(t 12)]), p 14 (.pick (t 10) (t 13) (v B)), p 15 (.mov (t 14)), g 16 15 true (.mov (t 0)), g 17 15 true (.idxStr (t 16) (v (I 6))), g 18 15 true (.bin .eql (t 17) (v (.int .u8 46))), p 19 (.pick (t 15) (t 18) (v B)), p 20 (.mov (t 19)), g 21 20 true (.mov (t 0)), g 22 20 true (.idxStr (t 21) (v (I 7))), g 23 20 true (.call (v (G 576)) [(t 22)]), p 24 (.pick (t 20) (t 23) (v B)), p 2 (.mov (t 24))])
 .ret))⟩
theorem H573 : funcsOf Tryz.prog [] 573 = some k573 := by kernel_rfl
def k575 : AFn := ⟨9, [(2, none)],
 (a (r [p 2 (.mov (v B))])
 (a (r [p 3 (.mov (t 0)), p 4 (.call (v (G 298)) [(t 3), (v (S [32]))]), p 5 (.mov (t 4)), g 6 5 false (.mov (t 0)), g 7 5 false (.call (v (G 298)) [(t 6), (v (S [9]))]), p 8 (.pick (t 5) (v Y) (t 7)), p 2 (.mov (t 8))])
 .ret))⟩
theorem H575 : funcsOf Tryz.prog [] 575 = some k575 := by kernel_rfl
def k576 : AFn := ⟨9, [(2, none)],
 (a (r [p 2 (.mov (v B))])
 (a (r [p 3 (.mov (t 0)), p 4 (.bin .geq (t 3) (v (.int .u8 48))), p 5 (.mov (t 4)), g 6 5 true (.mov (t 0)), g 7 5 true (.bin .leq (t 6) (v (.int .u8 57))), p 8 (.pick (t 5) (t 7) (v B)), p 2 (.mov (t 8))])
 .ret))⟩
theorem H576 : funcsOf Tryz.prog [] 576 = some k576 := by kernel_rfl
noncomputable def T6 : Tbl := (.node 244 k244 (.node 124 k124 (.node 86 k86 (.node 39 k39 (.node 15 k15 (.node 11 k11 (.node 8 k8 (.node 6 k6 .leaf .leaf) (.node 9 k9 .leaf .leaf)) (.node 13 k13 (.node 12 k12 .leaf .leaf) .leaf)) (.node 36 k36 (.node 35 k35 (.node 16 k16 .leaf .leaf) .leaf) (.node 38 k38 (.node 37 k37 .leaf .leaf) .leaf))) (.node 48 k48 (.node 43 k43 (.node 41 k41 (.node 40 k40 .leaf .leaf) .leaf) (.node 47 k47 (.node 44 k44 .leaf .leaf) .leaf)) (.node 53 k53 (.node 52 k52 (.node 51 k51 .leaf .leaf) .leaf) (.node 55 k55 (.node 54 k54 .leaf .leaf) .leaf)))) (.node 101 k101 (.node 94 k94 (.node 91 k91 (.node 90 k90 (.node 89 k89 .leaf .leaf) .leaf) (.node 93 k93 (.node 92 k92 .leaf .leaf) .leaf)) (.node 97 k97 (.node 96 k96 (.node 95 k95 .leaf .leaf) .leaf) (.node 100 k100 (.node 99 k99 .leaf .leaf) .leaf))) (.node 109 k109 (.node 106 k106 (.node 105 k105 (.node 104 k104 .leaf .leaf) .leaf) (.node 108 k108 (.node 107 k107 .leaf .leaf) .leaf)) (.node 118 k118 (.node 115 k115 (.node 110 k110 .leaf .leaf) .leaf) (.node 123 k123 (.node 122 k122 .leaf .leaf) .leaf))))) (.node 198 k198 (.node 184 k184 (.node 177 k177 (.node 157 k157 (.node 126 k126 (.node 125 k125 .leaf .leaf) (.node 142 k142 .leaf .leaf)) (.node 176 k176 (.node 160 k160 .leaf .leaf) .leaf)) (.node 180 k180 (.node 179 k179 (.node 178 k178 .leaf .leaf) .leaf) (.node 183 k183 (.node 182 k182 .leaf .leaf) .leaf))) (.node 192 k192 (.node 187 k187 (.node 186 k186 (.node 185 k185 .leaf .leaf) .leaf) (.node 191 k191 (.node 190 k190 .leaf .leaf) .leaf)) (.node 195 k195 (.node 194 k194 (.node 193 k193 .leaf .leaf) .leaf) (.node 197 k197 (.node 196 k196 .leaf .leaf) .leaf)))) (.node 210 k210 (.node 204 k204 (.node 201 k201 (.node 200 k200 (.node 199 k199 .leaf .leaf) .leaf) (.node 203 k203 (.node 202 k202 .leaf .leaf) .leaf)) (.node 207 k207 (.node 206 k206 (.node 205 k205 .leaf .leaf) .leaf) (.node 209 k209 (.node 208 k208 .leaf .leaf) .leaf))) (.node 218 k218 (.node 213 k213 (.node 212 k212 (.node 211 k211 .leaf .leaf) .leaf) (.node 217 k217 (.node 214 k214 .leaf .leaf) .leaf)) (.node 229 k229 (.node 228 k228 (.node 222 k222 .leaf .leaf) .leaf) (.node 233 k233 (.node 230 k230 .leaf .leaf) .leaf)))))) (.node 408 k408 (.node 312 k312 (.node 285 k285 (.node 271 k271 (.node 266 k266 (.node 251 k251 (.node 246 k246 .leaf .leaf) (.node 265 k265 .leaf .leaf)) (.node 268 k268 (.node 267 k267 .leaf .leaf) .leaf)) (.node 279 k279 (.node 274 k274 (.node 272 k272 .leaf .leaf) .leaf) (.node 284 k284 (.node 280 k280 .leaf .leaf) .leaf))) (.node 294 k294 (.node 288 k288 (.node 287 k287 (.node 286 k286 .leaf .leaf) .leaf) (.node 293 k293 (.node 289 k289 .leaf .leaf) .leaf)) (.node 298 k298 (.node 297 k297 (.node 296 k296 .leaf .leaf) .leaf) (.node 302 k302 (.node 301 k301 .leaf .leaf) .leaf)))) (.node 384 k384 (.node 357 k357 (.node 324 k324 (.node 322 k322 (.node 321 k321 .leaf .leaf) .leaf) (.node 351 k351 (.node 328 k328 .leaf .leaf) .leaf)) (.node 380 k380 (.node 379 k379 (.node 378 k378 .leaf .leaf) .leaf) (.node 382 k382 (.node 381 k381 .leaf .leaf) .leaf))) (.node 393 k393 (.node 387 k387 (.node 386 k386 (.node 385 k385 .leaf .leaf) .leaf) (.node 391 k391 (.node 390 k390 .leaf .leaf) .leaf)) (.node 403 k403 (.node 402 k402 (.node 396 k396 .leaf .leaf) .leaf) (.node 406 k406 (.node 404 k404 .leaf .leaf) .leaf))))) (.node 502 k502 (.node 468 k468 (.node 414 k414 (.node 411 k411 (.node 410 k410 (.node 409 k409 .leaf .leaf) .leaf) (.node 413 k413 (.node 412 k412 .leaf .leaf) .leaf)) (.node 424 k424 (.node 423 k423 (.node 418 k418 .leaf .leaf) .leaf) (.node 444 k444 (.node 429 k429 .leaf .leaf) .leaf))) (.node 479 k479 (.node 471 k471 (.node 470 k470 (.node 469 k469 .leaf .leaf) .leaf) (.node 475 k475 (.node 472 k472 .leaf .leaf) .leaf)) (.node 489 k489 (.node 482 k482 (.node 480 k480 .leaf .leaf) .leaf) (.node 501 k501 (.node 500 k500 .leaf .leaf) .leaf)))) (.node 552 k552 (.node 542 k542 (.node 523 k523 (.node 522 k522 (.node 503 k503 .leaf .leaf) .leaf) (.node 525 k525 (.node 524 k524 .leaf .leaf) .leaf)) (.node 546 k546 (.node 545 k545 (.node 544 k544 .leaf .leaf) .leaf) (.node 551 k551 (.node 549 k549 .leaf .leaf) .leaf))) (.node 566 k566 (.node 562 k562 (.node 554 k554 (.node 553 k553 .leaf .leaf) .leaf) (.node 565 k565 (.node 563 k563 .leaf .leaf) .leaf)) (.node 573 k573 (.node 572 k572 (.node 571 k571 .leaf .leaf) .leaf) (.node 576 k576 (.node 575 k575 .leaf .leaf) .leaf)))))))
theorem T6_all : T6.All fun f x => funcsOf Tryz.prog [] f = some x := ⟨H244, ⟨H124, ⟨H86, ⟨H39, ⟨H15, ⟨H11, ⟨H8, ⟨H6, trivial, trivial⟩, ⟨H9, trivial, trivial⟩⟩, ⟨H13, ⟨H12, trivial, trivial⟩, trivial⟩⟩, ⟨H36, ⟨H35, ⟨H16, trivial, trivial⟩, trivial⟩, ⟨H38, ⟨H37, trivial, trivial⟩, trivial⟩⟩⟩, ⟨H48, ⟨H43, ⟨H41, ⟨H40, trivial, trivial⟩, trivial⟩, ⟨H47, ⟨H44, trivial, trivial⟩, trivial⟩⟩, ⟨H53, ⟨H52, ⟨H51, trivial, trivial⟩, trivial⟩, ⟨H55, ⟨H54, trivial, trivial⟩, trivial⟩⟩⟩⟩, ⟨H101, ⟨H94, ⟨H91, ⟨H90, ⟨H89, trivial, trivial⟩, trivial⟩, ⟨H93, ⟨H92, trivial, trivial⟩, trivial⟩⟩, ⟨H97, ⟨H96, ⟨H95, trivial, trivial⟩, trivial⟩, ⟨H100, ⟨H99, trivial, trivial⟩, trivial⟩⟩⟩, ⟨H109, ⟨H106, ⟨H105, ⟨H104, trivial, trivial⟩, trivial⟩, ⟨H108, ⟨H107, trivial, trivial⟩, trivial⟩⟩, ⟨H118, ⟨H115, ⟨H110, trivial, trivial⟩, trivial⟩, ⟨H123, ⟨H122, trivial, trivial⟩, trivial⟩⟩⟩⟩⟩, ⟨H198, ⟨H184, ⟨H177, ⟨H157, ⟨H126, ⟨H125, trivial, trivial⟩, ⟨H142, trivial, trivial⟩⟩, ⟨H176, ⟨H160, trivial, trivial⟩, trivial⟩⟩, ⟨H180, ⟨H179, ⟨H178, trivial, trivial⟩, trivial⟩, ⟨H183, ⟨H182, trivial, trivial⟩, trivial⟩⟩⟩, ⟨H192, ⟨H187, ⟨H186, ⟨H185, trivial, trivial⟩, trivial⟩, ⟨H191, ⟨H190, trivial, trivial⟩, trivial⟩⟩, ⟨H195, ⟨H194, ⟨H193, trivial, trivial⟩, trivial⟩, ⟨H197, ⟨H196, trivial, trivial⟩, trivial⟩⟩⟩⟩, ⟨H210, ⟨H204, ⟨H201, ⟨H200, ⟨H199, trivial, trivial⟩, trivial⟩, ⟨H203, ⟨H202, trivial, trivial⟩, trivial⟩⟩, ⟨H207, ⟨H206, ⟨H205, trivial, trivial⟩, trivial⟩, ⟨H209, ⟨H208, trivial, trivial⟩, trivial⟩⟩⟩, ⟨H218, ⟨H213, ⟨H212, ⟨H211, trivial, trivial⟩, trivial⟩, ⟨H217, ⟨H214, trivial, trivial⟩, trivial⟩⟩, ⟨H229, ⟨H228, ⟨H222, trivial, trivial⟩, trivial⟩, ⟨H233, ⟨H230, trivial, trivial⟩, trivial⟩⟩⟩⟩⟩⟩, ⟨H408, ⟨H312, ⟨H285, ⟨H271, ⟨H266, ⟨H251, ⟨H246, trivial, trivial⟩, ⟨H265, trivial, trivial⟩⟩, ⟨H268, ⟨H267, trivial, trivial⟩, trivial⟩⟩, ⟨H279, ⟨H274, ⟨H272, trivial, trivial⟩, trivial⟩, ⟨H284, ⟨H280, trivial, trivial⟩, trivial⟩⟩⟩, ⟨H294, ⟨H288, ⟨H287, ⟨H286, trivial, trivial⟩, trivial⟩, ⟨H293, ⟨H289, trivial, trivial⟩, trivial⟩⟩, ⟨H298, ⟨H297, ⟨H296, trivial, trivial⟩, trivial⟩, ⟨H302, ⟨H301, trivial, trivial⟩, trivial⟩⟩⟩⟩, ⟨H384, ⟨H357, ⟨H324, ⟨H322, ⟨H321, trivial, trivial⟩, trivial⟩, ⟨H351, ⟨H328, trivial, trivial⟩, trivial⟩⟩, ⟨H380, ⟨H379, ⟨H378, trivial, trivial⟩, trivial⟩, ⟨H382, ⟨H381, trivial, trivial⟩, trivial⟩⟩⟩, ⟨H393, ⟨H387, ⟨H386, ⟨H385, trivial, trivial⟩, trivial⟩, ⟨H391, ⟨H390, trivial, trivial⟩, trivial⟩⟩, ⟨H403, ⟨H402, ⟨H396, trivial, trivial⟩, trivial⟩, ⟨H406, ⟨H404, trivial, trivial⟩, trivial⟩⟩⟩⟩⟩, ⟨H502, ⟨H468, ⟨H414, ⟨H411, ⟨H410, ⟨H409, trivial, trivial⟩, trivial⟩, ⟨H413, ⟨H412, trivial, trivial⟩, trivial⟩⟩, ⟨H424, ⟨H423, ⟨H418, trivial, trivial⟩, trivial⟩, ⟨H444, ⟨H429, trivial, trivial⟩, trivial⟩⟩⟩, ⟨H479, ⟨H471, ⟨H470, ⟨H469, trivial, trivial⟩, trivial⟩, ⟨H475, ⟨H472, trivial, trivial⟩, trivial⟩⟩, ⟨H489, ⟨H482, ⟨H480, trivial, trivial⟩, trivial⟩, ⟨H501, ⟨H500, trivial, trivial⟩, trivial⟩⟩⟩⟩, ⟨H552, ⟨H542, ⟨H523, ⟨H522, ⟨H503, trivial, trivial⟩, trivial⟩, ⟨H525, ⟨H524, trivial, trivial⟩, trivial⟩⟩, ⟨H546, ⟨H545, ⟨H544, trivial, trivial⟩, trivial⟩, ⟨H551, ⟨H549, trivial, trivial⟩, trivial⟩⟩⟩, ⟨H566, ⟨H562, ⟨H554, ⟨H553, trivial, trivial⟩, trivial⟩, ⟨H565, ⟨H563, trivial, trivial⟩, trivial⟩⟩, ⟨H573, ⟨H572, ⟨H571, trivial, trivial⟩, trivial⟩, ⟨H576, ⟨H575, trivial, trivial⟩, trivial⟩⟩⟩⟩⟩⟩⟩
theorem T6_le : ∀ f x, T6.get f = some x → funcsOf Tryz.prog [] f = some x := fun _ _ e => Tbl.get_all T6_all e
end Go.Proofs.YtjihmonajekomaaGreatDoor.Ax.K
