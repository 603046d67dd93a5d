/- The compiled text of some functions (printed by wip/tools/AxPrint.lean), and that it is what the compiler gives. Conditions: none. -/
import Derived.Test.YtjihmonajekomaaGreatDoorAx22
import Derived.Test.YtjihmonajekomaaGreatDoorProg
namespace Go.Proofs.YtjihmonajekomaaGreatDoor.Ax
open Go
def c5_r0 : List AOper := [
  ⟨(some 2), .mov (.val (.bool false)), none, [], 0, 0, false⟩]
def c5_r1 : List AOper := [
  ⟨(some 9), .mov (.tmp 0), none, [], 0, 0, false⟩,
  ⟨(some 10), .bin .lss (.tmp 9) (.val (.int .i64 0)), none, [], 0, 0, false⟩,
  ⟨(some 11), .mov (.tmp 10), none, [], 0, 0, false⟩,
  ⟨(some 12), .mov (.tmp 0), (some (11, false)), [], 0, 0, false⟩,
  ⟨(some 13), .bin .gtr (.tmp 12) (.val (.int .i64 400)), (some (11, false)), [], 0, 0, false⟩,
  ⟨(some 14), .pick (.tmp 11) (.val (.bool true)) (.tmp 13), none, [], 0, 0, false⟩]
def c5_r2 : List AOper := [
  ⟨(some 15), .call (.val (.func (.func 33) [] [])) [], none, [], 0, 0, false⟩,
  ⟨(some 2), .mov (.tmp 15), none, [], 0, 0, false⟩]
def c5_r3 : List AOper := [
  ⟨(some 3), .mov (.val (.str [])), none, [], 0, 0, false⟩]
def c5_r4 : List AOper := [
  ⟨(some 4), .mov (.val (.int .i64 0)), none, [], 0, 0, false⟩]
def c5_r5 : List AOper := [
  ⟨(some 16), .mov (.tmp 4), none, [], 0, 0, false⟩,
  ⟨(some 17), .mov (.tmp 0), none, [], 0, 0, false⟩,
  ⟨(some 18), .bin .lss (.tmp 16) (.tmp 17), none, [], 0, 0, false⟩]
def c5_r6 : List AOper := [
  ⟨(some 21), .mov (.tmp 3), none, [], 0, 0, false⟩,
  ⟨(some 22), .bin .add (.tmp 21) (.val (.str [110, 97, 109, 101, 32, 97, 10])), none, [], 0, 0, false⟩,
  ⟨(some 3), .mov (.tmp 22), none, [], 0, 0, false⟩]
def c5_r7 : List AOper := [
  ⟨(some 19), .mov (.tmp 4), none, [], 0, 0, false⟩,
  ⟨(some 20), .bin .add (.tmp 19) (.val (.int .i64 1)), none, [], 0, 0, false⟩,
  ⟨(some 4), .mov (.tmp 20), none, [], 0, 0, false⟩]
def c5_l8 : ACode := (.seq (.seq (.region c5_r5 false) (.cond (.tmp 18) .skip (.exit 0))) (.seq (.block 1 (.region c5_r6 false)) (.region c5_r7 false)))
def c5_r9 : List AOper := [
  ⟨(some 24), .mov (.tmp 3), none, [], 0, 0, false⟩,
  ⟨(some 25), .call (.val (.func (.func 34) [] [])) [(.tmp 24)], none, [], 0, 0, false⟩,
  ⟨(some 23), .mov (.tmp 25), none, [], 0, 0, false⟩,
  ⟨(some 26), .extract (.tmp 23) 0, none, [], 0, 0, false⟩,
  ⟨(some 27), .extract (.tmp 23) 1, none, [], 0, 0, false⟩,
  ⟨(some 5), .mov (.tmp 26), none, [], 0, 0, false⟩,
  ⟨(some 6), .mov (.tmp 27), none, [], 0, 0, false⟩]
def c5_r10 : List AOper := [
  ⟨(some 28), .mov (.tmp 0), none, [], 0, 0, false⟩,
  ⟨(some 29), .bin .geq (.tmp 28) (.val (.int .i64 300)), none, [], 0, 0, false⟩]
def c5_r11 : List AOper := [
  ⟨(some 30), .mov (.tmp 6), none, [], 0, 0, false⟩,
  ⟨(some 31), .bin .eql (.tmp 30) (.val (.int .i64 4)), none, [], 0, 0, false⟩,
  ⟨(some 32), .mov (.tmp 31), none, [], 0, 0, false⟩,
  ⟨(some 33), .mov (.tmp 5), (some (32, true)), [], 0, 0, false⟩,
  ⟨(some 34), .lenSlice (.tmp 33), (some (32, true)), [], 0, 0, false⟩,
  ⟨(some 35), .bin .eql (.tmp 34) (.val (.int .i64 0)), (some (32, true)), [], 0, 0, false⟩,
  ⟨(some 36), .pick (.tmp 32) (.tmp 35) (.val (.bool false)), none, [], 0, 0, false⟩,
  ⟨(some 37), .mov (.tmp 36), none, [], 0, 0, false⟩,
  ⟨(some 38), .call (.val (.func (.func 33) [] [])) [], (some (37, true)), [], 0, 0, false⟩,
  ⟨(some 39), .pick (.tmp 37) (.tmp 38) (.val (.bool false)), none, [], 0, 0, false⟩,
  ⟨(some 2), .mov (.tmp 39), none, [], 0, 0, false⟩]
def c5_r12 : List AOper := [
  ⟨(some 41), .mov (.tmp 0), none, [], 0, 0, false⟩,
  ⟨(some 42), .bin .rem (.tmp 41) (.val (.int .i64 2)), none, [], 0, 0, false⟩,
  ⟨(some 43), .bin .add (.val (.int .i64 19995)) (.tmp 42), none, [], 0, 0, false⟩,
  ⟨(some 44), .mkSlice [(.int .u8 0)] 5 1 1 (.tmp 43) (.tmp 43), none, [], 0, 0, false⟩,
  ⟨(some 45), .ofBytes (.tmp 44), none, [], 0, 0, false⟩,
  ⟨(some 46), .bin .add (.val (.str [110, 97, 109, 101, 32])) (.tmp 45), none, [], 0, 0, false⟩,
  ⟨(some 47), .call (.val (.func (.func 34) [] [])) [(.tmp 46)], none, [], 0, 0, false⟩,
  ⟨(some 40), .mov (.tmp 47), none, [], 0, 0, false⟩,
  ⟨(some 48), .extract (.tmp 40) 0, none, [], 0, 0, false⟩,
  ⟨(some 49), .extract (.tmp 40) 1, none, [], 0, 0, false⟩,
  ⟨(some 7), .mov (.tmp 48), none, [], 0, 0, false⟩,
  ⟨(some 8), .mov (.tmp 49), none, [], 0, 0, false⟩]
def c5_r13 : List AOper := [
  ⟨(some 50), .mov (.tmp 6), none, [], 0, 0, false⟩,
  ⟨(some 51), .bin .eql (.tmp 50) (.val (.int .i64 0)), none, [], 0, 0, false⟩,
  ⟨(some 52), .mov (.tmp 51), none, [], 0, 0, false⟩,
  ⟨(some 53), .mov (.tmp 5), (some (52, true)), [], 0, 0, false⟩,
  ⟨(some 54), .lenSlice (.tmp 53), (some (52, true)), [], 0, 0, false⟩,
  ⟨(some 55), .mov (.tmp 0), (some (52, true)), [], 0, 0, false⟩,
  ⟨(some 56), .bin .eql (.tmp 54) (.tmp 55), (some (52, true)), [], 0, 0, false⟩,
  ⟨(some 57), .pick (.tmp 52) (.tmp 56) (.val (.bool false)), none, [], 0, 0, false⟩,
  ⟨(some 58), .mov (.tmp 57), none, [], 0, 0, false⟩,
  ⟨(some 59), .mov (.tmp 8), (some (58, true)), [], 0, 0, false⟩,
  ⟨(some 60), .bin .eql (.tmp 59) (.val (.int .i64 0)), (some (58, true)), [], 0, 0, false⟩,
  ⟨(some 61), .mov (.tmp 0), (some (58, true)), [], 0, 0, false⟩,
  ⟨(some 62), .bin .rem (.tmp 61) (.val (.int .i64 2)), (some (58, true)), [], 0, 0, false⟩,
  ⟨(some 63), .bin .eql (.tmp 62) (.val (.int .i64 0)), (some (58, true)), [], 0, 0, false⟩,
  ⟨(some 64), .eq false .bool (.tmp 60) (.tmp 63), (some (58, true)), [], 0, 0, false⟩,
  ⟨(some 65), .pick (.tmp 58) (.tmp 64) (.val (.bool false)), none, [], 0, 0, false⟩,
  ⟨(some 66), .mov (.tmp 65), none, [], 0, 0, false⟩,
  ⟨(some 67), .mov (.tmp 7), (some (66, true)), [], 0, 0, false⟩,
  ⟨(some 68), .lenSlice (.tmp 67), (some (66, true)), [], 0, 0, false⟩,
  ⟨(some 69), .bin .eql (.tmp 68) (.val (.int .i64 1)), (some (66, true)), [], 0, 0, false⟩,
  ⟨(some 70), .mov (.tmp 0), (some (66, true)), [], 0, 0, false⟩,
  ⟨(some 71), .bin .rem (.tmp 70) (.val (.int .i64 2)), (some (66, true)), [], 0, 0, false⟩,
  ⟨(some 72), .bin .eql (.tmp 71) (.val (.int .i64 0)), (some (66, true)), [], 0, 0, false⟩,
  ⟨(some 73), .eq false .bool (.tmp 69) (.tmp 72), (some (66, true)), [], 0, 0, false⟩,
  ⟨(some 74), .pick (.tmp 66) (.tmp 73) (.val (.bool false)), none, [], 0, 0, false⟩,
  ⟨(some 75), .mov (.tmp 74), none, [], 0, 0, false⟩,
  ⟨(some 76), .call (.val (.func (.func 33) [] [])) [], (some (75, true)), [], 0, 0, false⟩,
  ⟨(some 77), .pick (.tmp 75) (.tmp 76) (.val (.bool false)), none, [], 0, 0, false⟩,
  ⟨(some 2), .mov (.tmp 77), none, [], 0, 0, false⟩]
def c5 : AFn := ⟨78, [(2, none)],
  (.seq (.region c5_r0 false) (.seq (.seq (.region c5_r1 false) (.cond (.tmp 14) (.seq (.region c5_r2 false) .ret) .skip)) (.seq (.region c5_r3 false) (.seq (.seq (.region c5_r4 false) (.block 0 (.loop c5_l8))) (.seq (.region c5_r9 false) (.seq (.seq (.region c5_r10 false) (.cond (.tmp 29) (.seq (.region c5_r11 false) .ret) .skip)) (.seq (.region c5_r12 false) (.seq (.region c5_r13 false) .ret))))))))⟩
theorem F5 : funcsOf Tryz.prog [] 5 = some c5 := by kernel_rfl

def c34_r0 : List AOper := [
  ⟨(some 2), .mov (.val (.slice none 0 0 0)), none, [], 0, 0, false⟩,
  ⟨(some 3), .mov (.val (.int .i64 0)), none, [], 0, 0, false⟩]
def c34_r1 : List AOper := [
  ⟨(some 7), .mov (.tmp 0), none, [], 0, 0, false⟩,
  ⟨(some 8), .lenStr (.tmp 7), none, [], 0, 0, false⟩,
  ⟨(some 9), .bin .gtr (.tmp 8) (.val (.int .i64 20000)), none, [], 0, 0, false⟩,
  ⟨(some 10), .mov (.tmp 9), none, [], 0, 0, false⟩,
  ⟨(some 11), .mov (.tmp 0), (some (10, false)), [], 0, 0, false⟩,
  ⟨(some 12), .call (.val (.func (.func 86) [] [])) [(.tmp 11), (.val (.str [10]))], (some (10, false)), [], 0, 0, false⟩,
  ⟨(some 13), .bin .geq (.tmp 12) (.val (.int .i64 300)), (some (10, false)), [], 0, 0, false⟩,
  ⟨(some 14), .pick (.tmp 10) (.val (.bool true)) (.tmp 13), none, [], 0, 0, false⟩]
def c34_r2 : List AOper := [
  ⟨(some 2), .mov (.val (.slice none 0 0 0)), none, [], 0, 0, false⟩,
  ⟨(some 3), .mov (.val (.int .i64 4)), none, [], 0, 0, false⟩]
def c34_r3 : List AOper := [
  ⟨(some 15), .call (.val (.func (.func 35) [] [])) [], none, [], 0, 0, false⟩,
  ⟨(some 16), .build [(.str []), (.str []), (.int .i64 0), (.int .i64 0), (.int .i64 0), (.int .i64 0), (.int .i64 0), (.int .i64 0), (.int .i64 0), (.int .i64 0), (.int .i64 0), (.int .i64 0), (.int .i64 0), (.int .i64 0), (.int .i64 0), (.int .i64 0), (.int .i64 0), (.int .i64 0), (.int .i64 0)] [(0, 18, (.tmp 15))], none, [], 0, 0, false⟩,
  ⟨(some 17), .box 19 141 (.tmp 16), none, [], 0, 0, false⟩,
  ⟨(some 4), .alloc [(.ptr none)] 139, none, [], 0, 0, false⟩,
  ⟨none, .store 1 (.tmp 4) (.tmp 17), none, [], 0, 0, false⟩]
def c34_r4 : List AOper := [
  ⟨(some 5), .alloc [(.slice none 0 0 0)] 60, none, [], 0, 0, false⟩]
def c34_r5 : List AOper := [
  ⟨(some 18), .mov (.tmp 0), none, [], 0, 0, false⟩,
  ⟨(some 19), .call (.val (.func (.func 87) [] [])) [(.tmp 18)], none, [], 0, 0, false⟩]
def c34_r6 : List AOper := [
  ⟨(some 6), .mov (.tmp 20), none, [], 0, 0, false⟩]
def c34_r7 : List AOper := [
  ⟨(some 21), .load none (.tmp 5), none, [5], 0, 2, false⟩,
  ⟨(some 22), .load none (.tmp 4), none, [4], 0, 0, false⟩,
  ⟨(some 23), .mov (.tmp 6), none, [6], 0, 0, false⟩,
  ⟨(some 24), .call (.val (.func (.func 88) [] [])) [(.tmp 22), (.tmp 23)], none, [22, 23], 0, 1, false⟩,
  ⟨(some 25), .buildSlice [(.str [])] 9 1 [(0, 1, (.tmp 24))], none, [24], 1, 2, false⟩,
  ⟨(some 26), .append 9 1 16 (.tmp 21) (.tmp 25), none, [21, 25], 2, 3, false⟩,
  ⟨none, .store 1 (.tmp 5) (.tmp 26), none, [5, 26], 3, 4, false⟩]
def c34_a8 : ACode := (.region c34_r6 false)
def c34_b8 : ACode := (.block 1 (.region c34_r7 true))
def c34_r9 : List AOper := [
  ⟨(some 27), .load none (.tmp 5), none, [], 0, 0, false⟩,
  ⟨(some 2), .mov (.tmp 27), none, [], 0, 0, false⟩,
  ⟨(some 3), .mov (.val (.int .i64 0)), none, [], 0, 0, false⟩]
def c34 : AFn := ⟨28, [(2, none), (3, none)],
  (.seq (.region c34_r0 false) (.seq (.seq (.region c34_r1 false) (.cond (.tmp 14) (.seq (.region c34_r2 false) .ret) .skip)) (.seq (.region c34_r3 false) (.seq (.region c34_r4 false) (.seq (.seq (.region c34_r5 false) (.block 0 (.rangeFunc (.tmp 19) [20] c34_a8 c34_b8))) (.seq (.region c34_r9 false) .ret))))))⟩
theorem F34 : funcsOf Tryz.prog [] 34 = some c34 := by kernel_rfl

def c35_r0 : List AOper := [
  ⟨(some 0), .alloc [(.str []), (.str []), (.int .i64 0), (.int .i64 0), (.int .i64 0), (.int .i64 0), (.int .i64 0), (.int .i64 0), (.int .i64 0), (.int .i64 0), (.int .i64 0), (.int .i64 0), (.int .i64 0), (.int .i64 0), (.int .i64 0), (.int .i64 0), (.int .i64 0), (.int .i64 0)] 25, none, [], 0, 0, false⟩]
def c35_r1 : List AOper := [
  ⟨(some 1), .build [(.int .i64 0), (.int .i64 0), (.int .i64 0), (.int .i64 0), (.int .i64 0)] [(0, 1, (.val (.int .i64 8192))), (1, 1, (.val (.int .i64 100))), (2, 1, (.val (.int .i64 256))), (3, 1, (.val (.int .i64 65536)))], none, [], 0, 0, false⟩,
  ⟨(some 2), .build [(.str []), (.str []), (.int .i64 0), (.int .i64 0), (.int .i64 0), (.int .i64 0), (.int .i64 0), (.int .i64 0), (.int .i64 0), (.int .i64 0), (.int .i64 0), (.int .i64 0), (.int .i64 0), (.int .i64 0), (.int .i64 0), (.int .i64 0), (.int .i64 0), (.int .i64 0)] [(0, 1, (.val (.str [97, 98, 117, 116, 109, 101, 110, 116]))), (2, 1, (.val (.int .i64 1))), (4, 1, (.val (.int .i64 1))), (5, 1, (.val (.int .i64 1))), (6, 1, (.val (.int .i64 1024))), (7, 1, (.val (.int .i64 4096))), (8, 1, (.val (.int .i64 10))), (10, 1, (.val (.int .i64 8))), (11, 1, (.val (.int .i64 8))), (13, 5, (.tmp 1))], none, [], 0, 0, false⟩,
  ⟨none, .store 18 (.tmp 0) (.tmp 2), none, [], 0, 0, false⟩]
def c35 : AFn := ⟨3, [(0, (some (some 18)))],
  (.seq (.region c35_r0 false) (.seq (.region c35_r1 false) .ret))⟩
theorem F35 : funcsOf Tryz.prog [] 35 = some c35 := by kernel_rfl

def c86_r0 : List AOper := [
  ⟨(some 4), .mov (.val (.int .i64 0)), none, [], 0, 0, false⟩]
def c86_r1 : List AOper := [
  ⟨(some 7), .mov (.tmp 1), none, [], 0, 0, false⟩,
  ⟨(some 8), .lenStr (.tmp 7), none, [], 0, 0, false⟩,
  ⟨(some 9), .bin .eql (.tmp 8) (.val (.int .i64 0)), none, [], 0, 0, false⟩]
def c86_r2 : List AOper := [
  ⟨(some 10), .mov (.tmp 0), none, [], 0, 0, false⟩,
  ⟨(some 11), .call (.val (.func (.func 155) [] [])) [(.tmp 10)], none, [], 0, 0, false⟩,
  ⟨(some 12), .bin .add (.tmp 11) (.val (.int .i64 1)), none, [], 0, 0, false⟩,
  ⟨(some 4), .mov (.tmp 12), none, [], 0, 0, false⟩]
def c86_r3 : List AOper := [
  ⟨(some 13), .mov (.tmp 1), none, [], 0, 0, false⟩,
  ⟨(some 14), .lenStr (.tmp 13), none, [], 0, 0, false⟩,
  ⟨(some 15), .bin .eql (.tmp 14) (.val (.int .i64 1)), none, [], 0, 0, false⟩]
def c86_r4 : List AOper := [
  ⟨(some 16), .mov (.tmp 0), none, [], 0, 0, false⟩,
  ⟨(some 17), .mov (.tmp 1), none, [], 0, 0, false⟩,
  ⟨(some 18), .idxStr (.tmp 17) (.val (.int .i64 0)), none, [], 0, 0, false⟩,
  ⟨(some 19), .call (.val (.func (.func 156) [] [])) [(.tmp 16), (.tmp 18)], none, [], 0, 0, false⟩,
  ⟨(some 4), .mov (.tmp 19), none, [], 0, 0, false⟩]
def c86_r5 : List AOper := [
  ⟨(some 5), .mov (.val (.int .i64 0)), none, [], 0, 0, false⟩]
def c86_r6 : List AOper := [
  ⟨(some 20), .mov (.tmp 0), none, [], 0, 0, false⟩,
  ⟨(some 21), .mov (.tmp 1), none, [], 0, 0, false⟩,
  ⟨(some 22), .call (.val (.func (.func 157) [] [])) [(.tmp 20), (.tmp 21)], none, [], 0, 0, false⟩,
  ⟨(some 6), .mov (.tmp 22), none, [], 0, 0, false⟩]
def c86_r7 : List AOper := [
  ⟨(some 23), .mov (.tmp 6), none, [], 0, 0, false⟩,
  ⟨(some 24), .bin .eql (.tmp 23) (.val (.int .i64 (-1))), none, [], 0, 0, false⟩]
def c86_r8 : List AOper := [
  ⟨(some 25), .mov (.tmp 5), none, [], 0, 0, false⟩,
  ⟨(some 4), .mov (.tmp 25), none, [], 0, 0, false⟩]
def c86_r9 : List AOper := [
  ⟨(some 26), .mov (.tmp 5), none, [], 0, 0, false⟩,
  ⟨(some 27), .bin .add (.tmp 26) (.val (.int .i64 1)), none, [], 0, 0, false⟩,
  ⟨(some 5), .mov (.tmp 27), none, [], 0, 0, false⟩]
def c86_r10 : List AOper := [
  ⟨(some 28), .mov (.tmp 0), none, [], 0, 0, false⟩,
  ⟨(some 29), .mov (.tmp 6), none, [], 0, 0, false⟩,
  ⟨(some 30), .mov (.tmp 1), none, [], 0, 0, false⟩,
  ⟨(some 31), .lenStr (.tmp 30), none, [], 0, 0, false⟩,
  ⟨(some 32), .bin .add (.tmp 29) (.tmp 31), none, [], 0, 0, false⟩,
  ⟨(some 33), .sliceStr (.tmp 28) (some (.tmp 32)) none, none, [], 0, 0, false⟩,
  ⟨(some 0), .mov (.tmp 33), none, [], 0, 0, false⟩]
def c86_l11 : ACode := (.block 1 (.seq (.region c86_r6 false) (.seq (.seq (.region c86_r7 false) (.cond (.tmp 24) (.seq (.region c86_r8 false) .ret) .skip)) (.seq (.region c86_r9 false) (.region c86_r10 false)))))
def c86 : AFn := ⟨34, [(4, none)],
  (.seq (.region c86_r0 false) (.seq (.seq (.region c86_r1 false) (.cond (.tmp 9) (.seq (.region c86_r2 false) .ret) .skip)) (.seq (.seq (.region c86_r3 false) (.cond (.tmp 15) (.seq (.region c86_r4 false) .ret) .skip)) (.seq (.region c86_r5 false) (.block 0 (.loop c86_l11))))))⟩
theorem F86 : funcsOf Tryz.prog [] 86 = some c86 := by kernel_rfl

def c87_r0 : List AOper := [
  ⟨(some 1), .box 1 9 (.tmp 0), none, [], 0, 0, false⟩,
  ⟨(some 2), .mov (.val .nilFunc), none, [], 0, 0, false⟩]
def c87_r1 : List AOper := [
  ⟨(some 3), .mkFunc (.func 158) [] [(.tmp 1)], none, [], 0, 0, false⟩,
  ⟨(some 2), .mov (.tmp 3), none, [], 0, 0, false⟩]
def c87 : AFn := ⟨4, [(2, none)],
  (.seq (.region c87_r0 false) (.seq (.region c87_r1 false) .ret))⟩
theorem F87 : funcsOf Tryz.prog [] 87 = some c87 := by kernel_rfl

def c88_r0 : List AOper := [
  ⟨(some 4), .mov (.val (.str [])), none, [], 0, 0, false⟩]
def c88_r1 : List AOper := [
  ⟨(some 9), .mov (.tmp 1), none, [], 0, 0, false⟩,
  ⟨(some 10), .call (.val (.func (.func 160) [] [])) [(.tmp 9), (.val (.str [32]))], none, [], 0, 0, false⟩,
  ⟨(some 8), .mov (.tmp 10), none, [], 0, 0, false⟩,
  ⟨(some 11), .extract (.tmp 8) 0, none, [], 0, 0, false⟩,
  ⟨(some 12), .extract (.tmp 8) 1, none, [], 0, 0, false⟩,
  ⟨(some 13), .extract (.tmp 8) 2, none, [], 0, 0, false⟩,
  ⟨(some 5), .mov (.tmp 11), none, [], 0, 0, false⟩,
  ⟨(some 6), .mov (.tmp 12), none, [], 0, 0, false⟩,
  ⟨(some 7), .mov (.tmp 13), none, [], 0, 0, false⟩]
def c88_r2 : List AOper := [
  ⟨(some 14), .mov (.tmp 5), none, [], 0, 0, false⟩]
def c88_r3 : List AOper := [
  ⟨(some 16), .bin .eql (.tmp 14) (.val (.str [99, 111, 110, 102, 105, 103])), none, [], 0, 0, false⟩,
  ⟨(some 15), .mov (.tmp 16), none, [], 0, 0, false⟩]
def c88_r4 : List AOper := [
  ⟨(some 17), .mov (.tmp 0), none, [], 0, 0, false⟩,
  ⟨(some 18), .mov (.tmp 6), none, [], 0, 0, false⟩,
  ⟨(some 19), .call (.val (.func (.func 161) [] [])) [(.tmp 17), (.tmp 18)], none, [], 0, 0, false⟩,
  ⟨(some 4), .mov (.tmp 19), none, [], 0, 0, false⟩]
def c88_r5 : List AOper := [
  ⟨(some 21), .bin .eql (.tmp 14) (.val (.str [110, 111, 119])), none, [], 0, 0, false⟩,
  ⟨(some 20), .mov (.tmp 21), none, [], 0, 0, false⟩]
def c88_r6 : List AOper := [
  ⟨(some 22), .mov (.tmp 0), none, [], 0, 0, false⟩,
  ⟨(some 23), .mov (.tmp 6), none, [], 0, 0, false⟩,
  ⟨(some 24), .call (.val (.func (.func 162) [] [])) [(.tmp 22), (.tmp 23)], none, [], 0, 0, false⟩,
  ⟨(some 4), .mov (.tmp 24), none, [], 0, 0, false⟩]
def c88_r7 : List AOper := [
  ⟨(some 26), .bin .eql (.tmp 14) (.val (.str [100, 97, 116, 101])), none, [], 0, 0, false⟩,
  ⟨(some 25), .mov (.tmp 26), none, [], 0, 0, false⟩]
def c88_r8 : List AOper := [
  ⟨(some 27), .mov (.tmp 6), none, [], 0, 0, false⟩,
  ⟨(some 28), .mov (.tmp 0), none, [], 0, 0, false⟩,
  ⟨(some 29), .nilCheck (.tmp 28), none, [], 0, 0, false⟩,
  ⟨(some 30), .fieldAddr 18 (.tmp 29), none, [], 0, 0, false⟩,
  ⟨(some 31), .load none (.tmp 30), none, [], 0, 0, false⟩,
  ⟨(some 32), .call (.val (.func (.func 163) [] [])) [(.tmp 27), (.tmp 31)], none, [], 0, 0, false⟩,
  ⟨(some 4), .mov (.tmp 32), none, [], 0, 0, false⟩]
def c88_r9 : List AOper := [
  ⟨(some 34), .bin .eql (.tmp 14) (.val (.str [104, 111, 115, 116])), none, [], 0, 0, false⟩,
  ⟨(some 33), .mov (.tmp 34), none, [], 0, 0, false⟩]
def c88_r10 : List AOper := [
  ⟨(some 35), .mov (.tmp 0), none, [], 0, 0, false⟩,
  ⟨(some 36), .mov (.tmp 6), none, [], 0, 0, false⟩,
  ⟨(some 37), .call (.val (.func (.func 164) [] [])) [(.tmp 35), (.tmp 36)], none, [], 0, 0, false⟩,
  ⟨(some 4), .mov (.tmp 37), none, [], 0, 0, false⟩]
def c88_r11 : List AOper := [
  ⟨(some 39), .bin .eql (.tmp 14) (.val (.str [110, 97, 109, 101])), none, [], 0, 0, false⟩,
  ⟨(some 38), .mov (.tmp 39), none, [], 0, 0, false⟩]
def c88_r12 : List AOper := [
  ⟨(some 40), .mov (.tmp 6), none, [], 0, 0, false⟩,
  ⟨(some 41), .call (.val (.func (.func 165) [] [])) [(.tmp 40)], none, [], 0, 0, false⟩,
  ⟨(some 4), .mov (.tmp 41), none, [], 0, 0, false⟩]
def c88_r13 : List AOper := [
  ⟨(some 43), .bin .eql (.tmp 14) (.val (.str [99, 104, 117, 110, 107])), none, [], 0, 0, false⟩,
  ⟨(some 42), .mov (.tmp 43), none, [], 0, 0, false⟩]
def c88_r14 : List AOper := [
  ⟨(some 44), .mov (.tmp 6), none, [], 0, 0, false⟩,
  ⟨(some 45), .call (.val (.func (.func 167) [] [])) [(.tmp 44)], none, [], 0, 0, false⟩,
  ⟨(some 46), .extract (.tmp 45) 0, none, [], 0, 0, false⟩,
  ⟨(some 47), .extract (.tmp 45) 1, none, [], 0, 0, false⟩,
  ⟨(some 48), .call (.val (.func (.func 166) [] [])) [(.tmp 46), (.tmp 47)], none, [], 0, 0, false⟩,
  ⟨(some 4), .mov (.tmp 48), none, [], 0, 0, false⟩]
def c88_r15 : List AOper := [
  ⟨(some 50), .bin .eql (.tmp 14) (.val (.str [116, 97, 114, 103, 101, 116])), none, [], 0, 0, false⟩,
  ⟨(some 49), .mov (.tmp 50), none, [], 0, 0, false⟩]
def c88_r16 : List AOper := [
  ⟨(some 51), .mov (.tmp 0), none, [], 0, 0, false⟩,
  ⟨(some 52), .mov (.tmp 6), none, [], 0, 0, false⟩,
  ⟨(some 53), .call (.val (.func (.func 168) [] [])) [(.tmp 51), (.tmp 52)], none, [], 0, 0, false⟩,
  ⟨(some 4), .mov (.tmp 53), none, [], 0, 0, false⟩]
def c88_r17 : List AOper := [
  ⟨(some 55), .bin .eql (.tmp 14) (.val (.str [115, 116, 97, 116, 117, 115])), none, [], 0, 0, false⟩,
  ⟨(some 54), .mov (.tmp 55), none, [], 0, 0, false⟩]
def c88_r18 : List AOper := [
  ⟨(some 56), .mov (.tmp 0), none, [], 0, 0, false⟩,
  ⟨(some 57), .mov (.tmp 6), none, [], 0, 0, false⟩,
  ⟨(some 58), .call (.val (.func (.func 169) [] [])) [(.tmp 56), (.tmp 57)], none, [], 0, 0, false⟩,
  ⟨(some 4), .mov (.tmp 58), none, [], 0, 0, false⟩]
def c88_r19 : List AOper := [
  ⟨(some 60), .bin .eql (.tmp 14) (.val (.str [97, 115, 107])), none, [], 0, 0, false⟩,
  ⟨(some 59), .mov (.tmp 60), none, [], 0, 0, false⟩]
def c88_r20 : List AOper := [
  ⟨(some 61), .mov (.tmp 6), none, [], 0, 0, false⟩,
  ⟨(some 62), .mov (.tmp 0), none, [], 0, 0, false⟩,
  ⟨(some 63), .mkFunc (.func 171) [(.tmp 62)] [], none, [], 0, 0, false⟩,
  ⟨(some 64), .call (.val (.func (.func 170) [] [])) [(.tmp 61), (.tmp 63)], none, [], 0, 0, false⟩,
  ⟨(some 4), .mov (.tmp 64), none, [], 0, 0, false⟩]
def c88_r21 : List AOper := [
  ⟨(some 66), .bin .eql (.tmp 14) (.val (.str [97, 110, 115, 119, 101, 114])), none, [], 0, 0, false⟩,
  ⟨(some 65), .mov (.tmp 66), none, [], 0, 0, false⟩]
def c88_r22 : List AOper := [
  ⟨(some 67), .mov (.tmp 0), none, [], 0, 0, false⟩,
  ⟨(some 68), .mov (.tmp 6), none, [], 0, 0, false⟩,
  ⟨(some 69), .call (.val (.func (.func 172) [] [])) [(.tmp 67), (.tmp 68)], none, [], 0, 0, false⟩,
  ⟨(some 4), .mov (.tmp 69), none, [], 0, 0, false⟩]
def c88_r23 : List AOper := [
  ⟨(some 71), .bin .eql (.tmp 14) (.val (.str [111, 117, 116])), none, [], 0, 0, false⟩,
  ⟨(some 70), .mov (.tmp 71), none, [], 0, 0, false⟩]
def c88_r24 : List AOper := [
  ⟨(some 72), .mov (.tmp 6), none, [], 0, 0, false⟩,
  ⟨(some 73), .mov (.tmp 0), none, [], 0, 0, false⟩,
  ⟨(some 74), .mkFunc (.func 173) [(.tmp 73)] [], none, [], 0, 0, false⟩,
  ⟨(some 75), .call (.val (.func (.func 170) [] [])) [(.tmp 72), (.tmp 74)], none, [], 0, 0, false⟩,
  ⟨(some 4), .mov (.tmp 75), none, [], 0, 0, false⟩]
def c88_r25 : List AOper := [
  ⟨(some 77), .bin .eql (.tmp 14) (.val (.str [112, 108, 97, 121])), none, [], 0, 0, false⟩,
  ⟨(some 76), .mov (.tmp 77), none, [], 0, 0, false⟩]
def c88_r26 : List AOper := [
  ⟨(some 78), .mov (.tmp 6), none, [], 0, 0, false⟩,
  ⟨(some 79), .mov (.tmp 0), none, [], 0, 0, false⟩,
  ⟨(some 80), .mkFunc (.func 174) [(.tmp 79)] [], none, [], 0, 0, false⟩,
  ⟨(some 81), .call (.val (.func (.func 170) [] [])) [(.tmp 78), (.tmp 80)], none, [], 0, 0, false⟩,
  ⟨(some 4), .mov (.tmp 81), none, [], 0, 0, false⟩]
def c88_r27 : List AOper := [
  ⟨(some 82), .call (.val (.func (.func 175) [] [])) [(.val (.int .i64 3))], none, [], 0, 0, false⟩,
  ⟨(some 4), .mov (.tmp 82), none, [], 0, 0, false⟩]
def c88 : AFn := ⟨83, [(4, none)],
  (.seq (.region c88_r0 false) (.seq (.region c88_r1 false) (.seq (.seq (.region c88_r2 false) (.block 0 (.seq (.region c88_r3 false) (.cond (.tmp 15) (.seq (.region c88_r4 false) .ret) (.seq (.region c88_r5 false) (.cond (.tmp 20) (.seq (.region c88_r6 false) .ret) (.seq (.region c88_r7 false) (.cond (.tmp 25) (.seq (.region c88_r8 false) .ret) (.seq (.region c88_r9 false) (.cond (.tmp 33) (.seq (.region c88_r10 false) .ret) (.seq (.region c88_r11 false) (.cond (.tmp 38) (.seq (.region c88_r12 false) .ret) (.seq (.region c88_r13 false) (.cond (.tmp 42) (.seq (.region c88_r14 false) .ret) (.seq (.region c88_r15 false) (.cond (.tmp 49) (.seq (.region c88_r16 false) .ret) (.seq (.region c88_r17 false) (.cond (.tmp 54) (.seq (.region c88_r18 false) .ret) (.seq (.region c88_r19 false) (.cond (.tmp 59) (.seq (.region c88_r20 false) .ret) (.seq (.region c88_r21 false) (.cond (.tmp 65) (.seq (.region c88_r22 false) .ret) (.seq (.region c88_r23 false) (.cond (.tmp 70) (.seq (.region c88_r24 false) .ret) (.seq (.region c88_r25 false) (.cond (.tmp 76) (.seq (.region c88_r26 false) .ret) .skip)))))))))))))))))))))))))) (.seq (.region c88_r27 false) .ret))))⟩
theorem F88 : funcsOf Tryz.prog [] 88 = some c88 := by kernel_rfl

def c157_r0 : List AOper := [
  ⟨(some 4), .mov (.val (.int .i64 0)), none, [], 0, 0, false⟩]
def c157_r1 : List AOper := [
  ⟨(some 5), .mov (.tmp 0), none, [], 0, 0, false⟩,
  ⟨(some 6), .mov (.tmp 1), none, [], 0, 0, false⟩,
  ⟨(some 7), .call (.val (.func (.func 244) [] [])) [(.tmp 5), (.tmp 6)], none, [], 0, 0, false⟩,
  ⟨(some 4), .mov (.tmp 7), none, [], 0, 0, false⟩]
def c157 : AFn := ⟨8, [(4, none)],
  (.seq (.region c157_r0 false) (.seq (.region c157_r1 false) .ret))⟩
theorem F157 : funcsOf Tryz.prog [] 157 = some c157 := by kernel_rfl

def c158_r0 : List AOper := [
  ⟨(some 2), .box 1 92 (.tmp 0), none, [], 0, 0, false⟩]
def c158_r1 : List AOper := [
  ⟨(some 4), .load none (.tmp 1), none, [], 0, 0, false⟩,
  ⟨(some 5), .call (.val (.func (.func 159) [] [])) [(.tmp 4), (.val (.str [10]))], none, [], 0, 0, false⟩]
def c158_r2 : List AOper := [
  ⟨(some 3), .mov (.tmp 6), none, [], 0, 0, false⟩]
def c158_r3 : List AOper := [
  ⟨(some 7), .mov (.tmp 3), none, [], 0, 0, false⟩,
  ⟨(some 8), .bin .neq (.tmp 7) (.val (.str [])), none, [], 0, 0, false⟩,
  ⟨(some 9), .mov (.tmp 8), none, [], 0, 0, false⟩,
  ⟨(some 10), .load none (.tmp 2), (some (9, true)), [], 0, 0, false⟩,
  ⟨(some 11), .mov (.tmp 3), (some (9, true)), [], 0, 0, false⟩,
  ⟨(some 12), .call (.tmp 10) [(.tmp 11)], (some (9, true)), [], 0, 0, false⟩,
  ⟨(some 13), .un .not (.tmp 12), (some (9, true)), [], 0, 0, false⟩,
  ⟨(some 14), .pick (.tmp 9) (.tmp 13) (.val (.bool false)), none, [], 0, 0, false⟩]
def c158_a4 : ACode := (.region c158_r2 false)
def c158_b4 : ACode := (.block 1 (.seq (.region c158_r3 false) (.cond (.tmp 14) .ret .skip)))
def c158 : AFn := ⟨15, [],
  (.seq (.region c158_r0 false) (.seq (.region c158_r1 false) (.block 0 (.rangeFunc (.tmp 5) [6] c158_a4 c158_b4))))⟩
theorem F158 : funcsOf Tryz.prog [] 158 = some c158 := by kernel_rfl

def c159_r0 : List AOper := [
  ⟨(some 4), .mov (.val .nilFunc), none, [], 0, 0, false⟩]
def c159_r1 : List AOper := [
  ⟨(some 5), .mov (.tmp 0), none, [], 0, 0, false⟩,
  ⟨(some 6), .mov (.tmp 1), none, [], 0, 0, false⟩,
  ⟨(some 7), .call (.val (.func (.func 245) [] [])) [(.tmp 5), (.tmp 6), (.val (.int .i64 0))], none, [], 0, 0, false⟩,
  ⟨(some 4), .mov (.tmp 7), none, [], 0, 0, false⟩]
def c159 : AFn := ⟨8, [(4, none)],
  (.seq (.region c159_r0 false) (.seq (.region c159_r1 false) .ret))⟩
theorem F159 : funcsOf Tryz.prog [] 159 = some c159 := by kernel_rfl

def c160_r0 : List AOper := [
  ⟨(some 4), .mov (.val (.str [])), none, [], 0, 0, false⟩,
  ⟨(some 5), .mov (.val (.str [])), none, [], 0, 0, false⟩,
  ⟨(some 6), .mov (.val (.bool false)), none, [], 0, 0, false⟩]
def c160_r1 : List AOper := [
  ⟨(some 7), .mov (.tmp 0), none, [], 0, 0, false⟩,
  ⟨(some 8), .mov (.tmp 1), none, [], 0, 0, false⟩,
  ⟨(some 9), .call (.val (.func (.func 246) [] [])) [(.tmp 7), (.tmp 8)], none, [], 0, 0, false⟩,
  ⟨(some 10), .extract (.tmp 9) 0, none, [], 0, 0, false⟩,
  ⟨(some 11), .extract (.tmp 9) 1, none, [], 0, 0, false⟩,
  ⟨(some 12), .extract (.tmp 9) 2, none, [], 0, 0, false⟩,
  ⟨(some 4), .mov (.tmp 10), none, [], 0, 0, false⟩,
  ⟨(some 5), .mov (.tmp 11), none, [], 0, 0, false⟩,
  ⟨(some 6), .mov (.tmp 12), none, [], 0, 0, false⟩]
def c160 : AFn := ⟨13, [(4, none), (5, none), (6, none)],
  (.seq (.region c160_r0 false) (.seq (.region c160_r1 false) .ret))⟩
theorem F160 : funcsOf Tryz.prog [] 160 = some c160 := by kernel_rfl

def c165_r0 : List AOper := [
  ⟨(some 2), .mov (.val (.str [])), none, [], 0, 0, false⟩]
def c165_r1 : List AOper := [
  ⟨(some 10), .call (.val (.func (.func 250) [] [])) [], none, [], 0, 0, false⟩,
  ⟨(some 11), .mov (.val (.int .i64 0)), none, [], 0, 0, false⟩]
def c165_r2 : List AOper := [
  ⟨(some 12), .bin .lss (.tmp 11) (.val (.int .i64 4)), none, [], 0, 0, false⟩]
def c165_r3 : List AOper := [
  ⟨(some 13), .idxArr 4 1 false (.tmp 10) (.tmp 11), none, [], 0, 0, false⟩,
  ⟨(some 4), .mov (.tmp 13), none, [], 0, 0, false⟩]
def c165_r4 : List AOper := [
  ⟨(some 14), .mov (.tmp 4), none, [], 0, 0, false⟩,
  ⟨(some 15), .mov (.tmp 0), none, [], 0, 0, false⟩,
  ⟨(some 16), .call (.val (.func (.func 251) [] [])) [(.tmp 14), (.tmp 15)], none, [], 0, 0, false⟩]
def c165_r5 : List AOper := [
  ⟨(some 17), .mov (.tmp 4), none, [], 0, 0, false⟩,
  ⟨(some 2), .mov (.tmp 17), none, [], 0, 0, false⟩]
def c165_r6 : List AOper := [
  ⟨(some 18), .bin .add (.tmp 11) (.val (.int .i64 1)), none, [], 0, 0, false⟩,
  ⟨(some 11), .mov (.tmp 18), none, [], 0, 0, false⟩]
def c165_l7 : ACode := (.seq (.region c165_r2 false) (.seq (.cond (.tmp 12) .skip (.exit 0)) (.seq (.block 1 (.seq (.region c165_r3 false) (.seq (.region c165_r4 false) (.cond (.tmp 16) (.seq (.region c165_r5 false) .ret) .skip)))) (.region c165_r6 false))))
def c165_r8 : List AOper := [
  ⟨(some 19), .mov (.tmp 0), none, [], 0, 0, false⟩,
  ⟨(some 20), .call (.val (.func (.func 233) [] [])) [(.tmp 19)], none, [], 0, 0, false⟩,
  ⟨(some 21), .toBytes 5 (.tmp 20), none, [], 0, 0, false⟩,
  ⟨(some 5), .mov (.tmp 21), none, [], 0, 0, false⟩]
def c165_r9 : List AOper := [
  ⟨(some 6), .mov (.val (.bool true)), none, [], 0, 0, false⟩]
def c165_r10 : List AOper := [
  ⟨(some 22), .mov (.tmp 0), none, [], 0, 0, false⟩,
  ⟨(some 23), .rangeStr (.tmp 22), none, [], 0, 0, false⟩]
def c165_r11 : List AOper := [
  ⟨(some 24), .nextStr (.tmp 23), none, [], 0, 0, false⟩,
  ⟨(some 25), .extract (.tmp 24) 0, none, [], 0, 0, false⟩]
def c165_r12 : List AOper := [
  ⟨(some 26), .extract (.tmp 24) 1, none, [], 0, 0, false⟩,
  ⟨(some 27), .extract (.tmp 24) 2, none, [], 0, 0, false⟩,
  ⟨(some 7), .mov (.tmp 26), none, [], 0, 0, false⟩,
  ⟨(some 8), .mov (.tmp 27), none, [], 0, 0, false⟩]
def c165_r13 : List AOper := [
  ⟨(some 28), .mov (.tmp 5), none, [], 0, 0, false⟩,
  ⟨(some 29), .mov (.tmp 7), none, [], 0, 0, false⟩,
  ⟨(some 30), .idxAddr 1 (.tmp 28) (.tmp 29), none, [], 0, 0, false⟩,
  ⟨(some 31), .load none (.tmp 30), none, [], 0, 0, false⟩,
  ⟨(some 32), .convInt .i32 (.tmp 31), none, [], 0, 0, false⟩,
  ⟨(some 9), .mov (.tmp 32), none, [], 0, 0, false⟩]
def c165_r14 : List AOper := [
  ⟨(some 33), .mov (.tmp 6), none, [], 0, 0, false⟩,
  ⟨(some 34), .mov (.tmp 33), none, [], 0, 0, false⟩,
  ⟨(some 35), .mov (.tmp 9), (some (34, true)), [], 0, 0, false⟩,
  ⟨(some 36), .bin .lss (.tmp 35) (.val (.int .i32 128)), (some (34, true)), [], 0, 0, false⟩,
  ⟨(some 37), .pick (.tmp 34) (.tmp 36) (.val (.bool false)), none, [], 0, 0, false⟩]
def c165_r15 : List AOper := [
  ⟨(some 38), .mov (.tmp 5), none, [], 0, 0, false⟩,
  ⟨(some 39), .mov (.tmp 7), none, [], 0, 0, false⟩,
  ⟨(some 40), .mov (.tmp 9), none, [], 0, 0, false⟩,
  ⟨(some 41), .call (.val (.func (.func 252) [] [])) [(.tmp 40)], none, [], 0, 0, false⟩,
  ⟨(some 42), .convInt .u8 (.tmp 41), none, [], 0, 0, false⟩,
  ⟨(some 43), .idxAddr 1 (.tmp 38) (.tmp 39), none, [], 0, 0, false⟩,
  ⟨none, .store 1 (.tmp 43) (.tmp 42), none, [], 0, 0, false⟩]
def c165_r16 : List AOper := [
  ⟨(some 44), .mov (.tmp 8), none, [], 0, 0, false⟩,
  ⟨(some 45), .bin .eql (.tmp 44) (.val (.int .i32 45)), none, [], 0, 0, false⟩,
  ⟨(some 6), .mov (.tmp 45), none, [], 0, 0, false⟩]
def c165_l17 : ACode := (.seq (.region c165_r11 false) (.seq (.cond (.tmp 25) .skip (.exit 2)) (.block 3 (.seq (.region c165_r12 false) (.seq (.seq (.region c165_r13 false) (.seq (.region c165_r14 false) (.cond (.tmp 37) (.region c165_r15 false) .skip))) (.region c165_r16 false))))))
def c165_r18 : List AOper := [
  ⟨(some 46), .mov (.tmp 5), none, [], 0, 0, false⟩,
  ⟨(some 47), .ofBytes (.tmp 46), none, [], 0, 0, false⟩,
  ⟨(some 2), .mov (.tmp 47), none, [], 0, 0, false⟩]
def c165 : AFn := ⟨48, [(2, none)],
  (.seq (.region c165_r0 false) (.seq (.seq (.region c165_r1 false) (.block 0 (.loop c165_l7))) (.seq (.region c165_r8 false) (.seq (.region c165_r9 false) (.seq (.seq (.region c165_r10 false) (.block 2 (.loop c165_l17))) (.seq (.region c165_r18 false) .ret))))))⟩
theorem F165 : funcsOf Tryz.prog [] 165 = some c165 := by kernel_rfl

def c233_r0 : List AOper := [
  ⟨(some 2), .mov (.val (.str [])), none, [], 0, 0, false⟩]
def c233_r1 : List AOper := [
  ⟨(some 6), .mov (.tmp 0), none, [], 0, 0, false⟩,
  ⟨(some 7), .toBytes 5 (.tmp 6), none, [], 0, 0, false⟩,
  ⟨(some 3), .mov (.tmp 7), none, [], 0, 0, false⟩]
def c233_r2 : List AOper := [
  ⟨(some 8), .mov (.tmp 3), none, [], 0, 0, false⟩,
  ⟨(some 9), .lenSlice (.tmp 8), none, [], 0, 0, false⟩,
  ⟨(some 10), .mov (.val (.int .i64 0)), none, [], 0, 0, false⟩]
def c233_r3 : List AOper := [
  ⟨(some 11), .bin .lss (.tmp 10) (.tmp 9), none, [], 0, 0, false⟩]
def c233_r4 : List AOper := [
  ⟨(some 12), .mov (.tmp 10), none, [], 0, 0, false⟩,
  ⟨(some 13), .idxAddr 1 (.tmp 8) (.tmp 10), none, [], 0, 0, false⟩,
  ⟨(some 14), .load none (.tmp 13), none, [], 0, 0, false⟩,
  ⟨(some 4), .mov (.tmp 12), none, [], 0, 0, false⟩,
  ⟨(some 5), .mov (.tmp 14), none, [], 0, 0, false⟩]
def c233_r5 : List AOper := [
  ⟨(some 15), .mov (.tmp 3), none, [], 0, 0, false⟩,
  ⟨(some 16), .mov (.tmp 4), none, [], 0, 0, false⟩,
  ⟨(some 17), .mov (.tmp 5), none, [], 0, 0, false⟩,
  ⟨(some 18), .call (.val (.func (.func 328) [] [])) [(.tmp 17)], none, [], 0, 0, false⟩,
  ⟨(some 19), .idxAddr 1 (.tmp 15) (.tmp 16), none, [], 0, 0, false⟩,
  ⟨none, .store 1 (.tmp 19) (.tmp 18), none, [], 0, 0, false⟩]
def c233_r6 : List AOper := [
  ⟨(some 20), .bin .add (.tmp 10) (.val (.int .i64 1)), none, [], 0, 0, false⟩,
  ⟨(some 10), .mov (.tmp 20), none, [], 0, 0, false⟩]
def c233_l7 : ACode := (.seq (.region c233_r3 false) (.seq (.cond (.tmp 11) .skip (.exit 0)) (.seq (.block 1 (.seq (.region c233_r4 false) (.region c233_r5 false))) (.region c233_r6 false))))
def c233_r8 : List AOper := [
  ⟨(some 21), .mov (.tmp 3), none, [], 0, 0, false⟩,
  ⟨(some 22), .ofBytes (.tmp 21), none, [], 0, 0, false⟩,
  ⟨(some 2), .mov (.tmp 22), none, [], 0, 0, false⟩]
def c233 : AFn := ⟨23, [(2, none)],
  (.seq (.region c233_r0 false) (.seq (.region c233_r1 false) (.seq (.seq (.region c233_r2 false) (.block 0 (.loop c233_l7))) (.seq (.region c233_r8 false) .ret))))⟩
theorem F233 : funcsOf Tryz.prog [] 233 = some c233 := by kernel_rfl

def c244_r0 : List AOper := [
  ⟨(some 4), .mov (.val (.int .i64 0)), none, [], 0, 0, false⟩]
def c244_r1 : List AOper := [
  ⟨(some 14), .mov (.tmp 1), none, [], 0, 0, false⟩,
  ⟨(some 15), .lenStr (.tmp 14), none, [], 0, 0, false⟩,
  ⟨(some 5), .mov (.tmp 15), none, [], 0, 0, false⟩]
def c244_r2 : List AOper := [
  ⟨(some 17), .mov (.tmp 5), none, [], 0, 0, false⟩,
  ⟨(some 18), .bin .eql (.tmp 17) (.val (.int .i64 0)), none, [], 0, 0, false⟩,
  ⟨(some 19), .mov (.tmp 18), none, [], 0, 0, false⟩,
  ⟨(some 20), .mov (.tmp 1), (some (19, false)), [], 0, 0, false⟩,
  ⟨(some 21), .mov (.tmp 0), (some (19, false)), [], 0, 0, false⟩,
  ⟨(some 22), .bin .eql (.tmp 20) (.tmp 21), (some (19, false)), [], 0, 0, false⟩,
  ⟨(some 23), .pick (.tmp 19) (.val (.bool true)) (.tmp 22), none, [], 0, 0, false⟩,
  ⟨(some 16), .mov (.tmp 23), none, [], 0, 0, false⟩]
def c244_r3 : List AOper := [
  ⟨(some 4), .mov (.val (.int .i64 0)), none, [], 0, 0, false⟩]
def c244_r4 : List AOper := [
  ⟨(some 25), .mov (.tmp 5), none, [], 0, 0, false⟩,
  ⟨(some 26), .bin .eql (.tmp 25) (.val (.int .i64 1)), none, [], 0, 0, false⟩,
  ⟨(some 24), .mov (.tmp 26), none, [], 0, 0, false⟩]
def c244_r5 : List AOper := [
  ⟨(some 27), .mov (.tmp 0), none, [], 0, 0, false⟩,
  ⟨(some 28), .mov (.tmp 1), none, [], 0, 0, false⟩,
  ⟨(some 29), .idxStr (.tmp 28) (.val (.int .i64 0)), none, [], 0, 0, false⟩,
  ⟨(some 30), .call (.val (.func (.func 351) [] [])) [(.tmp 27), (.tmp 29)], none, [], 0, 0, false⟩,
  ⟨(some 4), .mov (.tmp 30), none, [], 0, 0, false⟩]
def c244_r6 : List AOper := [
  ⟨(some 32), .mov (.tmp 5), none, [], 0, 0, false⟩,
  ⟨(some 33), .mov (.tmp 0), none, [], 0, 0, false⟩,
  ⟨(some 34), .lenStr (.tmp 33), none, [], 0, 0, false⟩,
  ⟨(some 35), .bin .geq (.tmp 32) (.tmp 34), none, [], 0, 0, false⟩,
  ⟨(some 31), .mov (.tmp 35), none, [], 0, 0, false⟩]
def c244_r7 : List AOper := [
  ⟨(some 4), .mov (.val (.int .i64 (-1))), none, [], 0, 0, false⟩]
def c244_r8 : List AOper := [
  ⟨(some 37), .mov (.tmp 5), none, [], 0, 0, false⟩,
  ⟨(some 38), .stuck, none, [], 0, 0, false⟩,
  ⟨(some 39), .bin .leq (.tmp 37) (.tmp 38), none, [], 0, 0, false⟩,
  ⟨(some 40), .mov (.tmp 39), none, [], 0, 0, false⟩,
  ⟨(some 41), .mov (.tmp 0), (some (40, true)), [], 0, 0, false⟩,
  ⟨(some 42), .lenStr (.tmp 41), (some (40, true)), [], 0, 0, false⟩,
  ⟨(some 43), .bin .leq (.tmp 42) (.val (.int .i64 64)), (some (40, true)), [], 0, 0, false⟩,
  ⟨(some 44), .pick (.tmp 40) (.tmp 43) (.val (.bool false)), none, [], 0, 0, false⟩,
  ⟨(some 36), .mov (.tmp 44), none, [], 0, 0, false⟩]
def c244_r9 : List AOper := [
  ⟨(some 45), .mov (.tmp 0), none, [], 0, 0, false⟩,
  ⟨(some 46), .mov (.tmp 1), none, [], 0, 0, false⟩,
  ⟨(some 47), .call (.val (.func (.func 352) [] [])) [(.tmp 45), (.tmp 46)], none, [], 0, 0, false⟩,
  ⟨(some 4), .mov (.tmp 47), none, [], 0, 0, false⟩]
def c244_r10 : List AOper := [
  ⟨(some 48), .mov (.tmp 1), none, [], 0, 0, false⟩,
  ⟨(some 49), .idxStr (.tmp 48) (.val (.int .i64 0)), none, [], 0, 0, false⟩,
  ⟨(some 6), .mov (.tmp 49), none, [], 0, 0, false⟩]
def c244_r11 : List AOper := [
  ⟨(some 50), .mov (.tmp 1), none, [], 0, 0, false⟩,
  ⟨(some 51), .idxStr (.tmp 50) (.val (.int .i64 1)), none, [], 0, 0, false⟩,
  ⟨(some 7), .mov (.tmp 51), none, [], 0, 0, false⟩]
def c244_r12 : List AOper := [
  ⟨(some 8), .mov (.val (.int .i64 0)), none, [], 0, 0, false⟩]
def c244_r13 : List AOper := [
  ⟨(some 52), .mov (.tmp 0), none, [], 0, 0, false⟩,
  ⟨(some 53), .lenStr (.tmp 52), none, [], 0, 0, false⟩,
  ⟨(some 54), .mov (.tmp 5), none, [], 0, 0, false⟩,
  ⟨(some 55), .bin .sub (.tmp 53) (.tmp 54), none, [], 0, 0, false⟩,
  ⟨(some 56), .bin .add (.tmp 55) (.val (.int .i64 1)), none, [], 0, 0, false⟩,
  ⟨(some 9), .mov (.tmp 56), none, [], 0, 0, false⟩]
def c244_r14 : List AOper := [
  ⟨(some 10), .mov (.val (.int .i64 0)), none, [], 0, 0, false⟩]
def c244_r15 : List AOper := [
  ⟨(some 57), .mov (.tmp 8), none, [], 0, 0, false⟩,
  ⟨(some 58), .mov (.tmp 9), none, [], 0, 0, false⟩,
  ⟨(some 59), .bin .lss (.tmp 57) (.tmp 58), none, [], 0, 0, false⟩]
def c244_r16 : List AOper := [
  ⟨(some 60), .mov (.tmp 0), none, [], 0, 0, false⟩,
  ⟨(some 61), .mov (.tmp 8), none, [], 0, 0, false⟩,
  ⟨(some 62), .idxStr (.tmp 60) (.tmp 61), none, [], 0, 0, false⟩,
  ⟨(some 63), .mov (.tmp 6), none, [], 0, 0, false⟩,
  ⟨(some 64), .bin .neq (.tmp 62) (.tmp 63), none, [], 0, 0, false⟩]
def c244_r17 : List AOper := [
  ⟨(some 65), .mov (.tmp 0), none, [], 0, 0, false⟩,
  ⟨(some 66), .mov (.tmp 8), none, [], 0, 0, false⟩,
  ⟨(some 67), .bin .add (.tmp 66) (.val (.int .i64 1)), none, [], 0, 0, false⟩,
  ⟨(some 68), .mov (.tmp 9), none, [], 0, 0, false⟩,
  ⟨(some 69), .sliceStr (.tmp 65) (some (.tmp 67)) (some (.tmp 68)), none, [], 0, 0, false⟩,
  ⟨(some 70), .mov (.tmp 6), none, [], 0, 0, false⟩,
  ⟨(some 71), .call (.val (.func (.func 351) [] [])) [(.tmp 69), (.tmp 70)], none, [], 0, 0, false⟩,
  ⟨(some 11), .mov (.tmp 71), none, [], 0, 0, false⟩]
def c244_r18 : List AOper := [
  ⟨(some 72), .mov (.tmp 11), none, [], 0, 0, false⟩,
  ⟨(some 73), .bin .lss (.tmp 72) (.val (.int .i64 0)), none, [], 0, 0, false⟩]
def c244_r19 : List AOper := [
  ⟨(some 4), .mov (.val (.int .i64 (-1))), none, [], 0, 0, false⟩]
def c244_r20 : List AOper := [
  ⟨(some 74), .mov (.tmp 8), none, [], 0, 0, false⟩,
  ⟨(some 75), .mov (.tmp 11), none, [], 0, 0, false⟩,
  ⟨(some 76), .bin .add (.tmp 75) (.val (.int .i64 1)), none, [], 0, 0, false⟩,
  ⟨(some 77), .bin .add (.tmp 74) (.tmp 76), none, [], 0, 0, false⟩,
  ⟨(some 8), .mov (.tmp 77), none, [], 0, 0, false⟩]
def c244_r21 : List AOper := [
  ⟨(some 78), .mov (.tmp 0), none, [], 0, 0, false⟩,
  ⟨(some 79), .mov (.tmp 8), none, [], 0, 0, false⟩,
  ⟨(some 80), .bin .add (.tmp 79) (.val (.int .i64 1)), none, [], 0, 0, false⟩,
  ⟨(some 81), .idxStr (.tmp 78) (.tmp 80), none, [], 0, 0, false⟩,
  ⟨(some 82), .mov (.tmp 7), none, [], 0, 0, false⟩,
  ⟨(some 83), .bin .eql (.tmp 81) (.tmp 82), none, [], 0, 0, false⟩,
  ⟨(some 84), .mov (.tmp 83), none, [], 0, 0, false⟩,
  ⟨(some 85), .mov (.tmp 0), (some (84, true)), [], 0, 0, false⟩,
  ⟨(some 86), .mov (.tmp 8), (some (84, true)), [], 0, 0, false⟩,
  ⟨(some 87), .mov (.tmp 8), (some (84, true)), [], 0, 0, false⟩,
  ⟨(some 88), .mov (.tmp 5), (some (84, true)), [], 0, 0, false⟩,
  ⟨(some 89), .bin .add (.tmp 87) (.tmp 88), (some (84, true)), [], 0, 0, false⟩,
  ⟨(some 90), .sliceStr (.tmp 85) (some (.tmp 86)) (some (.tmp 89)), (some (84, true)), [], 0, 0, false⟩,
  ⟨(some 91), .mov (.tmp 1), (some (84, true)), [], 0, 0, false⟩,
  ⟨(some 92), .bin .eql (.tmp 90) (.tmp 91), (some (84, true)), [], 0, 0, false⟩,
  ⟨(some 93), .pick (.tmp 84) (.tmp 92) (.val (.bool false)), none, [], 0, 0, false⟩]
def c244_r22 : List AOper := [
  ⟨(some 94), .mov (.tmp 8), none, [], 0, 0, false⟩,
  ⟨(some 4), .mov (.tmp 94), none, [], 0, 0, false⟩]
def c244_r23 : List AOper := [
  ⟨(some 95), .mov (.tmp 8), none, [], 0, 0, false⟩,
  ⟨(some 96), .bin .add (.tmp 95) (.val (.int .i64 1)), none, [], 0, 0, false⟩,
  ⟨(some 8), .mov (.tmp 96), none, [], 0, 0, false⟩]
def c244_r24 : List AOper := [
  ⟨(some 97), .mov (.tmp 10), none, [], 0, 0, false⟩,
  ⟨(some 98), .bin .add (.tmp 97) (.val (.int .i64 1)), none, [], 0, 0, false⟩,
  ⟨(some 10), .mov (.tmp 98), none, [], 0, 0, false⟩]
def c244_r25 : List AOper := [
  ⟨(some 99), .mov (.tmp 5), none, [], 0, 0, false⟩,
  ⟨(some 100), .stuck, none, [], 0, 0, false⟩,
  ⟨(some 101), .bin .leq (.tmp 99) (.tmp 100), none, [], 0, 0, false⟩,
  ⟨(some 102), .mov (.tmp 101), none, [], 0, 0, false⟩,
  ⟨(some 103), .mov (.tmp 10), (some (102, true)), [], 0, 0, false⟩,
  ⟨(some 104), .mov (.tmp 8), (some (102, true)), [], 0, 0, false⟩,
  ⟨(some 105), .call (.val (.func (.func 353) [] [])) [(.tmp 104)], (some (102, true)), [], 0, 0, false⟩,
  ⟨(some 106), .bin .gtr (.tmp 103) (.tmp 105), (some (102, true)), [], 0, 0, false⟩,
  ⟨(some 107), .pick (.tmp 102) (.tmp 106) (.val (.bool false)), none, [], 0, 0, false⟩]
def c244_r26 : List AOper := [
  ⟨(some 108), .mov (.tmp 0), none, [], 0, 0, false⟩,
  ⟨(some 109), .mov (.tmp 8), none, [], 0, 0, false⟩,
  ⟨(some 110), .sliceStr (.tmp 108) (some (.tmp 109)) none, none, [], 0, 0, false⟩,
  ⟨(some 111), .mov (.tmp 1), none, [], 0, 0, false⟩,
  ⟨(some 112), .call (.val (.func (.func 352) [] [])) [(.tmp 110), (.tmp 111)], none, [], 0, 0, false⟩,
  ⟨(some 12), .mov (.tmp 112), none, [], 0, 0, false⟩]
def c244_r27 : List AOper := [
  ⟨(some 113), .mov (.tmp 12), none, [], 0, 0, false⟩,
  ⟨(some 114), .bin .geq (.tmp 113) (.val (.int .i64 0)), none, [], 0, 0, false⟩]
def c244_r28 : List AOper := [
  ⟨(some 115), .mov (.tmp 12), none, [], 0, 0, false⟩,
  ⟨(some 116), .mov (.tmp 8), none, [], 0, 0, false⟩,
  ⟨(some 117), .bin .add (.tmp 115) (.tmp 116), none, [], 0, 0, false⟩,
  ⟨(some 4), .mov (.tmp 117), none, [], 0, 0, false⟩]
def c244_r29 : List AOper := [
  ⟨(some 4), .mov (.val (.int .i64 (-1))), none, [], 0, 0, false⟩]
def c244_r30 : List AOper := [
  ⟨(some 118), .mov (.tmp 5), none, [], 0, 0, false⟩,
  ⟨(some 119), .stuck, none, [], 0, 0, false⟩,
  ⟨(some 120), .bin .gtr (.tmp 118) (.tmp 119), none, [], 0, 0, false⟩,
  ⟨(some 121), .mov (.tmp 120), none, [], 0, 0, false⟩,
  ⟨(some 122), .mov (.tmp 10), (some (121, true)), [], 0, 0, false⟩,
  ⟨(some 123), .mov (.tmp 8), (some (121, true)), [], 0, 0, false⟩,
  ⟨(some 124), .bin .shr (.tmp 123) (.val (.int .u64 4)), (some (121, true)), [], 0, 0, false⟩,
  ⟨(some 125), .bin .add (.val (.int .i64 4)) (.tmp 124), (some (121, true)), [], 0, 0, false⟩,
  ⟨(some 126), .bin .geq (.tmp 122) (.tmp 125), (some (121, true)), [], 0, 0, false⟩,
  ⟨(some 127), .pick (.tmp 121) (.tmp 126) (.val (.bool false)), none, [], 0, 0, false⟩,
  ⟨(some 128), .mov (.tmp 127), none, [], 0, 0, false⟩,
  ⟨(some 129), .mov (.tmp 8), (some (128, true)), [], 0, 0, false⟩,
  ⟨(some 130), .mov (.tmp 9), (some (128, true)), [], 0, 0, false⟩,
  ⟨(some 131), .bin .lss (.tmp 129) (.tmp 130), (some (128, true)), [], 0, 0, false⟩,
  ⟨(some 132), .pick (.tmp 128) (.tmp 131) (.val (.bool false)), none, [], 0, 0, false⟩]
def c244_r31 : List AOper := [
  ⟨(some 133), .mov (.tmp 0), none, [], 0, 0, false⟩,
  ⟨(some 134), .mov (.tmp 8), none, [], 0, 0, false⟩,
  ⟨(some 135), .sliceStr (.tmp 133) (some (.tmp 134)) none, none, [], 0, 0, false⟩,
  ⟨(some 136), .mov (.tmp 1), none, [], 0, 0, false⟩,
  ⟨(some 137), .call (.val (.func (.func 354) [] [])) [(.tmp 135), (.tmp 136)], none, [], 0, 0, false⟩,
  ⟨(some 13), .mov (.tmp 137), none, [], 0, 0, false⟩]
def c244_r32 : List AOper := [
  ⟨(some 138), .mov (.tmp 13), none, [], 0, 0, false⟩,
  ⟨(some 139), .bin .lss (.tmp 138) (.val (.int .i64 0)), none, [], 0, 0, false⟩]
def c244_r33 : List AOper := [
  ⟨(some 4), .mov (.val (.int .i64 (-1))), none, [], 0, 0, false⟩]
def c244_r34 : List AOper := [
  ⟨(some 140), .mov (.tmp 8), none, [], 0, 0, false⟩,
  ⟨(some 141), .mov (.tmp 13), none, [], 0, 0, false⟩,
  ⟨(some 142), .bin .add (.tmp 140) (.tmp 141), none, [], 0, 0, false⟩,
  ⟨(some 4), .mov (.tmp 142), none, [], 0, 0, false⟩]
def c244_l35 : ACode := (.seq (.seq (.region c244_r15 false) (.cond (.tmp 59) .skip (.exit 1))) (.block 2 (.seq (.seq (.region c244_r16 false) (.cond (.tmp 64) (.seq (.region c244_r17 false) (.seq (.seq (.region c244_r18 false) (.cond (.tmp 73) (.seq (.region c244_r19 false) .ret) .skip)) (.region c244_r20 false))) .skip)) (.seq (.seq (.region c244_r21 false) (.cond (.tmp 93) (.seq (.region c244_r22 false) .ret) .skip)) (.seq (.region c244_r23 false) (.seq (.region c244_r24 false) (.seq (.region c244_r25 false) (.cond (.tmp 107) (.seq (.region c244_r26 false) (.seq (.seq (.region c244_r27 false) (.cond (.tmp 114) (.seq (.region c244_r28 false) .ret) .skip)) (.seq (.region c244_r29 false) .ret))) (.seq (.region c244_r30 false) (.cond (.tmp 132) (.seq (.region c244_r31 false) (.seq (.seq (.region c244_r32 false) (.cond (.tmp 139) (.seq (.region c244_r33 false) .ret) .skip)) (.seq (.region c244_r34 false) .ret))) .skip))))))))))
def c244_r36 : List AOper := [
  ⟨(some 4), .mov (.val (.int .i64 (-1))), none, [], 0, 0, false⟩]
def c244 : AFn := ⟨143, [(4, none)],
  (.seq (.region c244_r0 false) (.seq (.region c244_r1 false) (.seq (.block 0 (.seq (.region c244_r2 false) (.cond (.tmp 16) (.seq (.region c244_r3 false) .ret) (.seq (.region c244_r4 false) (.cond (.tmp 24) (.seq (.region c244_r5 false) .ret) (.seq (.region c244_r6 false) (.cond (.tmp 31) (.seq (.region c244_r7 false) .ret) (.seq (.region c244_r8 false) (.cond (.tmp 36) (.seq (.region c244_r9 false) .ret) .skip))))))))) (.seq (.region c244_r10 false) (.seq (.region c244_r11 false) (.seq (.region c244_r12 false) (.seq (.region c244_r13 false) (.seq (.region c244_r14 false) (.seq (.block 1 (.loop c244_l35)) (.seq (.region c244_r36 false) .ret))))))))))⟩
theorem F244 : funcsOf Tryz.prog [] 244 = some c244 := by kernel_rfl

def c245_r0 : List AOper := [
  ⟨(some 3), .box 1 9 (.tmp 0), none, [], 0, 0, false⟩,
  ⟨(some 4), .box 1 9 (.tmp 1), none, [], 0, 0, false⟩,
  ⟨(some 5), .box 1 3 (.tmp 2), none, [], 0, 0, false⟩,
  ⟨(some 6), .mov (.val .nilFunc), none, [], 0, 0, false⟩]
def c245_r1 : List AOper := [
  ⟨(some 7), .mkFunc (.func 355) [] [(.tmp 4), (.tmp 3), (.tmp 5)], none, [], 0, 0, false⟩,
  ⟨(some 6), .mov (.tmp 7), none, [], 0, 0, false⟩]
def c245 : AFn := ⟨8, [(6, none)],
  (.seq (.region c245_r0 false) (.seq (.region c245_r1 false) .ret))⟩
theorem F245 : funcsOf Tryz.prog [] 245 = some c245 := by kernel_rfl

def c246_r0 : List AOper := [
  ⟨(some 4), .mov (.val (.str [])), none, [], 0, 0, false⟩,
  ⟨(some 5), .mov (.val (.str [])), none, [], 0, 0, false⟩,
  ⟨(some 6), .mov (.val (.bool false)), none, [], 0, 0, false⟩]
def c246_r1 : List AOper := [
  ⟨(some 8), .mov (.tmp 0), none, [], 0, 0, false⟩,
  ⟨(some 9), .mov (.tmp 1), none, [], 0, 0, false⟩,
  ⟨(some 10), .call (.val (.func (.func 244) [] [])) [(.tmp 8), (.tmp 9)], none, [], 0, 0, false⟩,
  ⟨(some 7), .mov (.tmp 10), none, [], 0, 0, false⟩]
def c246_r2 : List AOper := [
  ⟨(some 11), .mov (.tmp 7), none, [], 0, 0, false⟩,
  ⟨(some 12), .bin .geq (.tmp 11) (.val (.int .i64 0)), none, [], 0, 0, false⟩]
def c246_r3 : List AOper := [
  ⟨(some 13), .mov (.tmp 0), none, [0], 0, 0, false⟩,
  ⟨(some 14), .mov (.tmp 7), none, [7], 0, 0, false⟩,
  ⟨(some 15), .sliceStr (.tmp 13) none (some (.tmp 14)), none, [13, 14], 0, 0, false⟩,
  ⟨(some 16), .mov (.tmp 0), none, [0], 0, 0, false⟩,
  ⟨(some 17), .mov (.tmp 7), none, [7], 0, 0, false⟩,
  ⟨(some 18), .mov (.tmp 1), none, [1], 0, 0, false⟩,
  ⟨(some 19), .lenStr (.tmp 18), none, [18], 0, 0, false⟩,
  ⟨(some 20), .bin .add (.tmp 17) (.tmp 19), none, [17, 19], 0, 0, false⟩,
  ⟨(some 21), .sliceStr (.tmp 16) (some (.tmp 20)) none, none, [16, 20], 0, 0, false⟩,
  ⟨(some 4), .mov (.tmp 15), none, [15], 0, 0, false⟩,
  ⟨(some 5), .mov (.tmp 21), none, [21], 0, 0, false⟩,
  ⟨(some 6), .mov (.val (.bool true)), none, [], 0, 0, false⟩]
def c246_r4 : List AOper := [
  ⟨(some 22), .mov (.tmp 0), none, [], 0, 0, false⟩,
  ⟨(some 4), .mov (.tmp 22), none, [], 0, 0, false⟩,
  ⟨(some 5), .mov (.val (.str [])), none, [], 0, 0, false⟩,
  ⟨(some 6), .mov (.val (.bool false)), none, [], 0, 0, false⟩]
def c246 : AFn := ⟨23, [(4, none), (5, none), (6, none)],
  (.seq (.region c246_r0 false) (.seq (.seq (.region c246_r1 false) (.seq (.region c246_r2 false) (.cond (.tmp 12) (.seq (.region c246_r3 true) .ret) .skip))) (.seq (.region c246_r4 false) .ret)))⟩
theorem F246 : funcsOf Tryz.prog [] 246 = some c246 := by kernel_rfl

def c250_r0 : List AOper := [
  ⟨(some 0), .alloc [(.str []), (.str []), (.str []), (.str [])] 299, none, [], 0, 0, false⟩]
def c250_r1 : List AOper := [
  ⟨(some 1), .build [(.str []), (.str []), (.str []), (.str [])] [(0, 1, (.val (.str [69, 84, 97, 103]))), (1, 1, (.val (.str [84, 69]))), (2, 1, (.val (.str [87, 87, 87, 45, 65, 117, 116, 104, 101, 110, 116, 105, 99, 97, 116, 101]))), (3, 1, (.val (.str [68, 78, 84])))], none, [], 0, 0, false⟩,
  ⟨none, .store 4 (.tmp 0) (.tmp 1), none, [], 0, 0, false⟩]
def c250 : AFn := ⟨2, [(0, (some (some 4)))],
  (.seq (.region c250_r0 false) (.seq (.region c250_r1 false) .ret))⟩
theorem F250 : funcsOf Tryz.prog [] 250 = some c250 := by kernel_rfl

def c251_r0 : List AOper := [
  ⟨(some 4), .mov (.val (.bool false)), none, [], 0, 0, false⟩]
def c251_r1 : List AOper := [
  ⟨(some 6), .mov (.tmp 0), none, [], 0, 0, false⟩,
  ⟨(some 7), .lenStr (.tmp 6), none, [], 0, 0, false⟩,
  ⟨(some 8), .mov (.tmp 1), none, [], 0, 0, false⟩,
  ⟨(some 9), .lenStr (.tmp 8), none, [], 0, 0, false⟩,
  ⟨(some 10), .bin .neq (.tmp 7) (.tmp 9), none, [], 0, 0, false⟩]
def c251_r2 : List AOper := [
  ⟨(some 4), .mov (.val (.bool false)), none, [], 0, 0, false⟩]
def c251_r3 : List AOper := [
  ⟨(some 11), .mov (.tmp 0), none, [], 0, 0, false⟩,
  ⟨(some 12), .lenStr (.tmp 11), none, [], 0, 0, false⟩,
  ⟨(some 13), .mov (.val (.int .i64 0)), none, [], 0, 0, false⟩]
def c251_r4 : List AOper := [
  ⟨(some 14), .bin .lss (.tmp 13) (.tmp 12), none, [], 0, 0, false⟩]
def c251_r5 : List AOper := [
  ⟨(some 15), .mov (.tmp 13), none, [], 0, 0, false⟩,
  ⟨(some 5), .mov (.tmp 15), none, [], 0, 0, false⟩]
def c251_r6 : List AOper := [
  ⟨(some 16), .mov (.tmp 0), none, [0], 0, 0, false⟩,
  ⟨(some 17), .mov (.tmp 5), none, [5], 0, 0, false⟩,
  ⟨(some 18), .idxStr (.tmp 16) (.tmp 17), none, [16, 17], 0, 0, false⟩,
  ⟨(some 19), .call (.val (.func (.func 328) [] [])) [(.tmp 18)], none, [18], 0, 1, false⟩,
  ⟨(some 20), .mov (.tmp 1), none, [1], 0, 1, false⟩,
  ⟨(some 21), .mov (.tmp 5), none, [5], 0, 1, false⟩,
  ⟨(some 22), .idxStr (.tmp 20) (.tmp 21), none, [20, 21], 0, 1, false⟩,
  ⟨(some 23), .call (.val (.func (.func 328) [] [])) [(.tmp 22)], none, [22], 1, 2, false⟩,
  ⟨(some 24), .bin .neq (.tmp 19) (.tmp 23), none, [19, 23], 2, 2, false⟩]
def c251_r7 : List AOper := [
  ⟨(some 4), .mov (.val (.bool false)), none, [], 0, 0, false⟩]
def c251_r8 : List AOper := [
  ⟨(some 25), .bin .add (.tmp 13) (.val (.int .i64 1)), none, [], 0, 0, false⟩,
  ⟨(some 13), .mov (.tmp 25), none, [], 0, 0, false⟩]
def c251_l9 : ACode := (.seq (.region c251_r4 false) (.seq (.cond (.tmp 14) .skip (.exit 0)) (.seq (.block 1 (.seq (.region c251_r5 false) (.seq (.region c251_r6 true) (.cond (.tmp 24) (.seq (.region c251_r7 false) .ret) .skip)))) (.region c251_r8 false))))
def c251_r10 : List AOper := [
  ⟨(some 4), .mov (.val (.bool true)), none, [], 0, 0, false⟩]
def c251 : AFn := ⟨26, [(4, none)],
  (.seq (.region c251_r0 false) (.seq (.seq (.region c251_r1 false) (.cond (.tmp 10) (.seq (.region c251_r2 false) .ret) .skip)) (.seq (.seq (.region c251_r3 false) (.block 0 (.loop c251_l9))) (.seq (.region c251_r10 false) .ret))))⟩
theorem F251 : funcsOf Tryz.prog [] 251 = some c251 := by kernel_rfl

def c252_r0 : List AOper := [
  ⟨(some 2), .mov (.val (.int .i32 0)), none, [], 0, 0, false⟩]
def c252_r1 : List AOper := [
  ⟨(some 3), .mov (.tmp 0), none, [], 0, 0, false⟩,
  ⟨(some 4), .bin .geq (.tmp 3) (.val (.int .i32 97)), none, [], 0, 0, false⟩,
  ⟨(some 5), .mov (.tmp 4), none, [], 0, 0, false⟩,
  ⟨(some 6), .mov (.tmp 0), (some (5, true)), [], 0, 0, false⟩,
  ⟨(some 7), .bin .leq (.tmp 6) (.val (.int .i32 122)), (some (5, true)), [], 0, 0, false⟩,
  ⟨(some 8), .pick (.tmp 5) (.tmp 7) (.val (.bool false)), none, [], 0, 0, false⟩]
def c252_r2 : List AOper := [
  ⟨(some 9), .mov (.tmp 0), none, [], 0, 0, false⟩,
  ⟨(some 10), .bin .add (.tmp 9) (.val (.int .i32 65)), none, [], 0, 0, false⟩,
  ⟨(some 11), .bin .sub (.tmp 10) (.val (.int .i32 97)), none, [], 0, 0, false⟩,
  ⟨(some 2), .mov (.tmp 11), none, [], 0, 0, false⟩]
def c252_r3 : List AOper := [
  ⟨(some 12), .mov (.tmp 0), none, [], 0, 0, false⟩,
  ⟨(some 2), .mov (.tmp 12), none, [], 0, 0, false⟩]
def c252 : AFn := ⟨13, [(2, none)],
  (.seq (.region c252_r0 false) (.seq (.seq (.region c252_r1 false) (.cond (.tmp 8) (.seq (.region c252_r2 false) .ret) .skip)) (.seq (.region c252_r3 false) .ret)))⟩
theorem F252 : funcsOf Tryz.prog [] 252 = some c252 := by kernel_rfl

def c328_r0 : List AOper := [
  ⟨(some 2), .mov (.val (.int .u8 0)), none, [], 0, 0, false⟩]
def c328_r1 : List AOper := [
  ⟨(some 3), .mov (.tmp 0), none, [], 0, 0, false⟩,
  ⟨(some 4), .bin .geq (.tmp 3) (.val (.int .u8 65)), none, [], 0, 0, false⟩,
  ⟨(some 5), .mov (.tmp 4), none, [], 0, 0, false⟩,
  ⟨(some 6), .mov (.tmp 0), (some (5, true)), [], 0, 0, false⟩,
  ⟨(some 7), .bin .leq (.tmp 6) (.val (.int .u8 90)), (some (5, true)), [], 0, 0, false⟩,
  ⟨(some 8), .pick (.tmp 5) (.tmp 7) (.val (.bool false)), none, [], 0, 0, false⟩]
def c328_r2 : List AOper := [
  ⟨(some 9), .mov (.tmp 0), none, [], 0, 0, false⟩,
  ⟨(some 10), .bin .add (.tmp 9) (.val (.int .u8 97)), none, [], 0, 0, false⟩,
  ⟨(some 11), .bin .sub (.tmp 10) (.val (.int .u8 65)), none, [], 0, 0, false⟩,
  ⟨(some 2), .mov (.tmp 11), none, [], 0, 0, false⟩]
def c328_r3 : List AOper := [
  ⟨(some 12), .mov (.tmp 0), none, [], 0, 0, false⟩,
  ⟨(some 2), .mov (.tmp 12), none, [], 0, 0, false⟩]
def c328 : AFn := ⟨13, [(2, none)],
  (.seq (.region c328_r0 false) (.seq (.seq (.region c328_r1 false) (.cond (.tmp 8) (.seq (.region c328_r2 false) .ret) .skip)) (.seq (.region c328_r3 false) .ret)))⟩
theorem F328 : funcsOf Tryz.prog [] 328 = some c328 := by kernel_rfl

def c351_r0 : List AOper := [
  ⟨(some 4), .mov (.val (.int .i64 0)), none, [], 0, 0, false⟩]
def c351_r1 : List AOper := [
  ⟨(some 5), .mov (.tmp 0), none, [], 0, 0, false⟩,
  ⟨(some 6), .mov (.tmp 1), none, [], 0, 0, false⟩,
  ⟨(some 7), .call (.val (.func (.func 441) [] [])) [(.tmp 5), (.tmp 6)], none, [], 0, 0, false⟩,
  ⟨(some 4), .mov (.tmp 7), none, [], 0, 0, false⟩]
def c351 : AFn := ⟨8, [(4, none)],
  (.seq (.region c351_r0 false) (.seq (.region c351_r1 false) .ret))⟩
theorem F351 : funcsOf Tryz.prog [] 351 = some c351 := by kernel_rfl

def c355_r0 : List AOper := [
  ⟨(some 9), .load none (.tmp 1), none, [], 0, 0, false⟩,
  ⟨(some 10), .lenStr (.tmp 9), none, [], 0, 0, false⟩,
  ⟨(some 11), .bin .eql (.tmp 10) (.val (.int .i64 0)), none, [], 0, 0, false⟩]
def c355_r1 : List AOper := [
  ⟨(some 12), .load none (.tmp 2), none, [], 0, 0, false⟩,
  ⟨(some 13), .lenStr (.tmp 12), none, [], 0, 0, false⟩,
  ⟨(some 14), .bin .gtr (.tmp 13) (.val (.int .i64 0)), none, [], 0, 0, false⟩]
def c355_r2 : List AOper := [
  ⟨(some 16), .load none (.tmp 2), none, [], 0, 0, false⟩,
  ⟨(some 17), .call (.val (.func (.func 356) [] [])) [(.tmp 16)], none, [], 0, 0, false⟩,
  ⟨(some 15), .mov (.tmp 17), none, [], 0, 0, false⟩,
  ⟨(some 18), .extract (.tmp 15) 0, none, [], 0, 0, false⟩,
  ⟨(some 19), .extract (.tmp 15) 1, none, [], 0, 0, false⟩,
  ⟨(some 5), .mov (.tmp 18), none, [], 0, 0, false⟩,
  ⟨(some 6), .mov (.tmp 19), none, [], 0, 0, false⟩]
def c355_r3 : List AOper := [
  ⟨(some 20), .mov (.tmp 0), none, [], 0, 0, false⟩,
  ⟨(some 21), .load none (.tmp 2), none, [], 0, 0, false⟩,
  ⟨(some 22), .mov (.tmp 6), none, [], 0, 0, false⟩,
  ⟨(some 23), .sliceStr (.tmp 21) none (some (.tmp 22)), none, [], 0, 0, false⟩,
  ⟨(some 24), .call (.tmp 20) [(.tmp 23)], none, [], 0, 0, false⟩,
  ⟨(some 25), .un .not (.tmp 24), none, [], 0, 0, false⟩]
def c355_r4 : List AOper := [
  ⟨(some 26), .load none (.tmp 2), none, [], 0, 0, false⟩,
  ⟨(some 27), .mov (.tmp 6), none, [], 0, 0, false⟩,
  ⟨(some 28), .sliceStr (.tmp 26) (some (.tmp 27)) none, none, [], 0, 0, false⟩,
  ⟨none, .store 1 (.tmp 2) (.tmp 28), none, [], 0, 0, false⟩]
def c355_l5 : ACode := (.seq (.seq (.region c355_r1 false) (.cond (.tmp 14) .skip (.exit 0))) (.block 1 (.seq (.region c355_r2 false) (.seq (.seq (.region c355_r3 false) (.cond (.tmp 25) .ret .skip)) (.region c355_r4 false)))))
def c355_r6 : List AOper := [
  ⟨(some 29), .load none (.tmp 2), none, [], 0, 0, false⟩,
  ⟨(some 30), .load none (.tmp 1), none, [], 0, 0, false⟩,
  ⟨(some 31), .call (.val (.func (.func 157) [] [])) [(.tmp 29), (.tmp 30)], none, [], 0, 0, false⟩,
  ⟨(some 7), .mov (.tmp 31), none, [], 0, 0, false⟩]
def c355_r7 : List AOper := [
  ⟨(some 32), .mov (.tmp 7), none, [], 0, 0, false⟩,
  ⟨(some 33), .bin .lss (.tmp 32) (.val (.int .i64 0)), none, [], 0, 0, false⟩]
def c355_r8 : List AOper := [
  ⟨(some 34), .load none (.tmp 2), none, [], 0, 0, false⟩,
  ⟨(some 35), .mov (.tmp 7), none, [], 0, 0, false⟩,
  ⟨(some 36), .load none (.tmp 3), none, [], 0, 0, false⟩,
  ⟨(some 37), .bin .add (.tmp 35) (.tmp 36), none, [], 0, 0, false⟩,
  ⟨(some 38), .sliceStr (.tmp 34) none (some (.tmp 37)), none, [], 0, 0, false⟩,
  ⟨(some 8), .mov (.tmp 38), none, [], 0, 0, false⟩]
def c355_r9 : List AOper := [
  ⟨(some 39), .mov (.tmp 0), none, [], 0, 0, false⟩,
  ⟨(some 40), .mov (.tmp 8), none, [], 0, 0, false⟩,
  ⟨(some 41), .call (.tmp 39) [(.tmp 40)], none, [], 0, 0, false⟩,
  ⟨(some 42), .un .not (.tmp 41), none, [], 0, 0, false⟩]
def c355_r10 : List AOper := [
  ⟨(some 43), .load none (.tmp 2), none, [], 0, 0, false⟩,
  ⟨(some 44), .mov (.tmp 7), none, [], 0, 0, false⟩,
  ⟨(some 45), .load none (.tmp 1), none, [], 0, 0, false⟩,
  ⟨(some 46), .lenStr (.tmp 45), none, [], 0, 0, false⟩,
  ⟨(some 47), .bin .add (.tmp 44) (.tmp 46), none, [], 0, 0, false⟩,
  ⟨(some 48), .sliceStr (.tmp 43) (some (.tmp 47)) none, none, [], 0, 0, false⟩,
  ⟨none, .store 1 (.tmp 2) (.tmp 48), none, [], 0, 0, false⟩]
def c355_l11 : ACode := (.block 3 (.seq (.region c355_r6 false) (.seq (.seq (.region c355_r7 false) (.cond (.tmp 33) (.exit 2) .skip)) (.seq (.region c355_r8 false) (.seq (.seq (.region c355_r9 false) (.cond (.tmp 42) .ret .skip)) (.region c355_r10 false))))))
def c355_r12 : List AOper := [
  ⟨(some 49), .mov (.tmp 0), none, [], 0, 0, false⟩,
  ⟨(some 50), .load none (.tmp 2), none, [], 0, 0, false⟩,
  ⟨(some 51), .call (.tmp 49) [(.tmp 50)], none, [], 0, 0, false⟩]
def c355 : AFn := ⟨52, [],
  (.seq (.seq (.region c355_r0 false) (.cond (.tmp 11) (.seq (.block 0 (.loop c355_l5)) .ret) .skip)) (.seq (.block 2 (.loop c355_l11)) (.region c355_r12 false)))⟩
theorem F355 : funcsOf Tryz.prog [] 355 = some c355 := by kernel_rfl

end Go.Proofs.YtjihmonajekomaaGreatDoor.Ax
