/- The compiled text of some functions (printed by wip/tools/AxPrint.lean), and that it is what the compiler gives. Conditions: none. -/
import Derived.Test.YtjihmonajekomaaGreatDoorAx22
import Derived.Test.YtjihmonajekomaaGreatDoorProg
namespace Go.Proofs.YtjihmonajekomaaGreatDoor.Ax
open Go
def c3_r0 : List AOper := [
  ⟨(some 2), .box 18 25 (.tmp 0), none, [], 0, 0, false⟩,
  ⟨(some 4), .mov (.val (.bool false)), none, [], 0, 0, false⟩]
def c3_r1 : List AOper := [
  ⟨(some 12), .fieldAddr 0 (.tmp 2), none, [], 0, 0, false⟩,
  ⟨(some 13), .load none (.tmp 12), none, [], 0, 0, false⟩,
  ⟨(some 14), .lenStr (.tmp 13), none, [], 0, 0, false⟩,
  ⟨(some 15), .bin .gtr (.tmp 14) (.val (.int .i64 300)), none, [], 0, 0, false⟩,
  ⟨(some 16), .mov (.tmp 15), none, [], 0, 0, false⟩,
  ⟨(some 17), .fieldAddr 1 (.tmp 2), (some (16, false)), [], 0, 0, false⟩,
  ⟨(some 18), .load none (.tmp 17), (some (16, false)), [], 0, 0, false⟩,
  ⟨(some 19), .lenStr (.tmp 18), (some (16, false)), [], 0, 0, false⟩,
  ⟨(some 20), .bin .gtr (.tmp 19) (.val (.int .i64 500)), (some (16, false)), [], 0, 0, false⟩,
  ⟨(some 21), .pick (.tmp 16) (.val (.bool true)) (.tmp 20), none, [], 0, 0, false⟩]
def c3_r2 : List AOper := [
  ⟨(some 22), .call (.val (.func (.func 6) [] [])) [], none, [], 0, 0, false⟩,
  ⟨(some 4), .mov (.tmp 22), none, [], 0, 0, false⟩]
def c3_r3 : List AOper := [
  ⟨(some 5), .mov (.val (.ptr none)), none, [], 0, 0, false⟩]
def c3_r4 : List AOper := [
  ⟨(some 24), .mov (.tmp 5), none, [], 0, 0, false⟩,
  ⟨(some 25), .call (.val (.func (.func 7) [] [])) [(.tmp 24)], none, [], 0, 0, false⟩,
  ⟨(some 23), .mov (.tmp 25), none, [], 0, 0, false⟩,
  ⟨(some 26), .extract (.tmp 23) 0, none, [], 0, 0, false⟩,
  ⟨(some 27), .extract (.tmp 23) 1, none, [], 0, 0, false⟩,
  ⟨(some 6), .mov (.tmp 26), none, [], 0, 0, false⟩,
  ⟨(some 7), .mov (.tmp 27), none, [], 0, 0, false⟩]
def c3_r5 : List AOper := [
  ⟨(some 29), .mov (.tmp 5), none, [], 0, 0, false⟩,
  ⟨(some 30), .call (.val (.func (.func 8) [] [])) [(.tmp 29)], none, [], 0, 0, false⟩,
  ⟨(some 28), .mov (.tmp 30), none, [], 0, 0, false⟩,
  ⟨(some 31), .extract (.tmp 28) 0, none, [], 0, 0, false⟩,
  ⟨(some 32), .extract (.tmp 28) 1, none, [], 0, 0, false⟩,
  ⟨(some 8), .mov (.tmp 31), none, [], 0, 0, false⟩,
  ⟨(some 9), .mov (.tmp 32), none, [], 0, 0, false⟩]
def c3_r6 : List AOper := [
  ⟨(some 33), .mov (.tmp 5), none, [], 0, 0, false⟩,
  ⟨(some 34), .mov (.tmp 1), none, [], 0, 0, false⟩,
  ⟨(some 35), .call (.val (.func (.func 9) [] [])) [(.tmp 33), (.tmp 34)], none, [], 0, 0, false⟩,
  ⟨(some 36), .mov (.tmp 35), none, [], 0, 0, false⟩,
  ⟨(some 37), .mov (.tmp 5), (some (36, false)), [], 0, 0, false⟩,
  ⟨(some 38), .mov (.tmp 1), (some (36, false)), [], 0, 0, false⟩,
  ⟨(some 39), .call (.val (.func (.func 10) [] [])) [(.tmp 37), (.tmp 38)], (some (36, false)), [], 0, 0, false⟩,
  ⟨(some 40), .pick (.tmp 36) (.val (.bool true)) (.tmp 39), none, [], 0, 0, false⟩,
  ⟨(some 41), .mov (.tmp 40), none, [], 0, 0, false⟩,
  ⟨(some 42), .mov (.tmp 5), (some (41, false)), [], 0, 0, false⟩,
  ⟨(some 43), .call (.val (.func (.func 11) [] [])) [(.tmp 42)], (some (41, false)), [], 0, 0, false⟩,
  ⟨(some 44), .bin .neq (.tmp 43) (.val (.int .i64 9)), (some (41, false)), [], 0, 0, false⟩,
  ⟨(some 45), .pick (.tmp 41) (.val (.bool true)) (.tmp 44), none, [], 0, 0, false⟩,
  ⟨(some 46), .mov (.tmp 45), none, [], 0, 0, false⟩,
  ⟨(some 47), .mov (.tmp 9), (some (46, false)), [], 0, 0, false⟩,
  ⟨(some 48), .pick (.tmp 46) (.val (.bool true)) (.tmp 47), none, [], 0, 0, false⟩,
  ⟨(some 49), .mov (.tmp 48), none, [], 0, 0, false⟩,
  ⟨(some 50), .mov (.tmp 5), (some (49, false)), [], 0, 0, false⟩,
  ⟨(some 51), .call (.val (.func (.func 13) [] [])) [(.val (.int .i64 1))], (some (49, false)), [], 0, 0, false⟩,
  ⟨(some 52), .call (.val (.func (.func 12) [] [])) [(.tmp 50), (.tmp 51)], (some (49, false)), [], 0, 0, false⟩,
  ⟨(some 53), .pick (.tmp 49) (.val (.bool true)) (.tmp 52), none, [], 0, 0, false⟩,
  ⟨(some 54), .mov (.tmp 53), none, [], 0, 0, false⟩,
  ⟨(some 55), .mov (.tmp 6), (some (54, false)), [], 0, 0, false⟩,
  ⟨(some 56), .eq true .ptr (.tmp 55) (.val (.ptr none)), (some (54, false)), [], 0, 0, false⟩,
  ⟨(some 57), .pick (.tmp 54) (.val (.bool true)) (.tmp 56), none, [], 0, 0, false⟩,
  ⟨(some 58), .mov (.tmp 57), none, [], 0, 0, false⟩,
  ⟨(some 59), .mov (.tmp 7), (some (58, false)), [], 0, 0, false⟩,
  ⟨(some 60), .bin .neq (.tmp 59) (.val (.str [])), (some (58, false)), [], 0, 0, false⟩,
  ⟨(some 61), .pick (.tmp 58) (.val (.bool true)) (.tmp 60), none, [], 0, 0, false⟩,
  ⟨(some 62), .mov (.tmp 61), none, [], 0, 0, false⟩,
  ⟨(some 63), .mov (.tmp 5), (some (62, false)), [], 0, 0, false⟩,
  ⟨(some 64), .call (.val (.func (.func 14) [] [])) [(.tmp 63)], (some (62, false)), [], 0, 0, false⟩,
  ⟨(some 65), .eq true .ptr (.tmp 64) (.val (.ptr none)), (some (62, false)), [], 0, 0, false⟩,
  ⟨(some 66), .pick (.tmp 62) (.val (.bool true)) (.tmp 65), none, [], 0, 0, false⟩,
  ⟨(some 67), .mov (.tmp 66), none, [], 0, 0, false⟩,
  ⟨(some 68), .load (some 18) (.tmp 2), (some (67, false)), [], 0, 0, false⟩,
  ⟨(some 69), .call (.val (.func (.func 15) [] [])) [(.tmp 68), (.val (.ptr none))], (some (67, false)), [], 0, 0, false⟩,
  ⟨(some 70), .eq true .ptr (.tmp 69) (.val (.ptr none)), (some (67, false)), [], 0, 0, false⟩,
  ⟨(some 71), .pick (.tmp 67) (.val (.bool true)) (.tmp 70), none, [], 0, 0, false⟩]
def c3_r7 : List AOper := [
  ⟨(some 4), .mov (.val (.bool false)), none, [], 0, 0, false⟩]
def c3_r8 : List AOper := [
  ⟨(some 72), .call (.val (.func (.func 13) [] [])) [(.val (.int .i64 5))], none, [], 0, 0, false⟩,
  ⟨(some 10), .mov (.tmp 72), none, [], 0, 0, false⟩]
def c3_r9 : List AOper := [
  ⟨(some 73), .load (some 18) (.tmp 2), none, [], 0, 0, false⟩,
  ⟨(some 74), .mov (.tmp 10), none, [], 0, 0, false⟩,
  ⟨(some 75), .call (.val (.func (.func 15) [] [])) [(.tmp 73), (.tmp 74)], none, [], 0, 0, false⟩,
  ⟨(some 11), .mov (.tmp 75), none, [], 0, 0, false⟩]
def c3_r10 : List AOper := [
  ⟨(some 76), .load (some 18) (.tmp 2), none, [], 0, 0, false⟩,
  ⟨(some 77), .call (.val (.func (.func 16) [] [])) [(.tmp 76)], none, [], 0, 0, false⟩,
  ⟨(some 78), .bin .neq (.tmp 77) (.val (.int .i64 0)), none, [], 0, 0, false⟩]
def c3_r11 : List AOper := [
  ⟨(some 79), .mov (.tmp 11), none, [], 0, 0, false⟩,
  ⟨(some 80), .eq false .ptr (.tmp 79) (.val (.ptr none)), none, [], 0, 0, false⟩,
  ⟨(some 81), .mov (.tmp 80), none, [], 0, 0, false⟩,
  ⟨(some 82), .call (.val (.func (.func 6) [] [])) [], (some (81, true)), [], 0, 0, false⟩,
  ⟨(some 83), .pick (.tmp 81) (.tmp 82) (.val (.bool false)), none, [], 0, 0, false⟩,
  ⟨(some 4), .mov (.tmp 83), none, [], 0, 0, false⟩]
def c3_r12 : List AOper := [
  ⟨(some 84), .mov (.tmp 11), none, [], 0, 0, false⟩,
  ⟨(some 85), .eq true .ptr (.tmp 84) (.val (.ptr none)), none, [], 0, 0, false⟩,
  ⟨(some 86), .mov (.tmp 85), none, [], 0, 0, false⟩,
  ⟨(some 87), .mov (.tmp 11), (some (86, true)), [], 0, 0, false⟩,
  ⟨(some 88), .mov (.tmp 1), (some (86, true)), [], 0, 0, false⟩,
  ⟨(some 89), .call (.val (.func (.func 9) [] [])) [(.tmp 87), (.tmp 88)], (some (86, true)), [], 0, 0, false⟩,
  ⟨(some 90), .un .not (.tmp 89), (some (86, true)), [], 0, 0, false⟩,
  ⟨(some 91), .pick (.tmp 86) (.tmp 90) (.val (.bool false)), none, [], 0, 0, false⟩,
  ⟨(some 92), .mov (.tmp 91), none, [], 0, 0, false⟩,
  ⟨(some 93), .mov (.tmp 11), (some (92, true)), [], 0, 0, false⟩,
  ⟨(some 94), .mov (.tmp 10), (some (92, true)), [], 0, 0, false⟩,
  ⟨(some 95), .call (.val (.func (.func 12) [] [])) [(.tmp 93), (.tmp 94)], (some (92, true)), [], 0, 0, false⟩,
  ⟨(some 96), .un .not (.tmp 95), (some (92, true)), [], 0, 0, false⟩,
  ⟨(some 97), .pick (.tmp 92) (.tmp 96) (.val (.bool false)), none, [], 0, 0, false⟩,
  ⟨(some 98), .mov (.tmp 97), none, [], 0, 0, false⟩,
  ⟨(some 99), .mov (.tmp 11), (some (98, true)), [], 0, 0, false⟩,
  ⟨(some 100), .call (.val (.func (.func 11) [] [])) [(.tmp 99)], (some (98, true)), [], 0, 0, false⟩,
  ⟨(some 101), .bin .eql (.tmp 100) (.val (.int .i64 1)), (some (98, true)), [], 0, 0, false⟩,
  ⟨(some 102), .pick (.tmp 98) (.tmp 101) (.val (.bool false)), none, [], 0, 0, false⟩,
  ⟨(some 103), .mov (.tmp 102), none, [], 0, 0, false⟩,
  ⟨(some 104), .mov (.tmp 11), (some (103, true)), [], 0, 0, false⟩,
  ⟨(some 105), .call (.val (.func (.func 14) [] [])) [(.tmp 104)], (some (103, true)), [], 0, 0, false⟩,
  ⟨(some 106), .eq false .ptr (.tmp 105) (.val (.ptr none)), (some (103, true)), [], 0, 0, false⟩,
  ⟨(some 107), .pick (.tmp 103) (.tmp 106) (.val (.bool false)), none, [], 0, 0, false⟩,
  ⟨(some 108), .mov (.tmp 107), none, [], 0, 0, false⟩,
  ⟨(some 109), .call (.val (.func (.func 6) [] [])) [], (some (108, true)), [], 0, 0, false⟩,
  ⟨(some 110), .pick (.tmp 108) (.tmp 109) (.val (.bool false)), none, [], 0, 0, false⟩,
  ⟨(some 4), .mov (.tmp 110), none, [], 0, 0, false⟩]
def c3 : AFn := ⟨111, [(4, none)],
  (.seq (.region c3_r0 false) (.seq (.seq (.region c3_r1 false) (.cond (.tmp 21) (.seq (.region c3_r2 false) .ret) .skip)) (.seq (.region c3_r3 false) (.seq (.region c3_r4 false) (.seq (.region c3_r5 false) (.seq (.seq (.region c3_r6 false) (.cond (.tmp 71) (.seq (.region c3_r7 false) .ret) .skip)) (.seq (.region c3_r8 false) (.seq (.region c3_r9 false) (.seq (.seq (.region c3_r10 false) (.cond (.tmp 78) (.seq (.region c3_r11 false) .ret) .skip)) (.seq (.region c3_r12 false) .ret))))))))))⟩
theorem F3 : funcsOf Tryz.prog [] 3 = some c3 := by kernel_rfl

def c15_r0 : List AOper := [
  ⟨(some 2), .box 18 25 (.tmp 0), none, [], 0, 0, false⟩,
  ⟨(some 4), .mov (.val (.ptr none)), none, [], 0, 0, false⟩]
def c15_r1 : List AOper := [
  ⟨(some 5), .load (some 18) (.tmp 2), none, [], 0, 0, false⟩,
  ⟨(some 6), .call (.val (.func (.func 16) [] [])) [(.tmp 5)], none, [], 0, 0, false⟩,
  ⟨(some 7), .bin .neq (.tmp 6) (.val (.int .i64 0)), none, [], 0, 0, false⟩,
  ⟨(some 8), .mov (.tmp 7), none, [], 0, 0, false⟩,
  ⟨(some 9), .mov (.tmp 1), (some (8, false)), [], 0, 0, false⟩,
  ⟨(some 10), .eq false .ptr (.tmp 9) (.val (.ptr none)), (some (8, false)), [], 0, 0, false⟩,
  ⟨(some 11), .pick (.tmp 8) (.val (.bool true)) (.tmp 10), none, [], 0, 0, false⟩]
def c15_r2 : List AOper := [
  ⟨(some 4), .mov (.val (.ptr none)), none, [], 0, 0, false⟩]
def c15_r3 : List AOper := [
  ⟨(some 12), .load (some 18) (.tmp 2), none, [2], 0, 1, false⟩,
  ⟨(some 13), .mov (.tmp 1), none, [1], 0, 1, false⟩,
  ⟨(some 14), .fieldAddr 13 (.tmp 2), none, [2], 0, 0, false⟩,
  ⟨(some 15), .load (some 5) (.tmp 14), none, [14], 0, 0, false⟩,
  ⟨(some 16), .call (.val (.func (.func 51) [] [])) [(.val (.int .i64 1)), (.tmp 15)], none, [15], 0, 1, false⟩,
  ⟨(some 17), .build [(.str []), (.str []), (.int .i64 0), (.int .i64 0), (.str []), (.slice none 0 0 0), (.int .i64 0), (.int .i64 0), (.bool false), (.int .i64 0), (.ptr none), (.bool false), (.bool false), (.bool false), (.int .i64 0), (.str []), (.str []), (.int .i64 0), (.int .i64 0), (.int .i64 0), (.int .i64 0), (.int .i64 0), (.int .i64 0), (.int .i64 0), (.int .i64 0), (.int .i64 0), (.int .i64 0), (.int .i64 0), (.int .i64 0), (.int .i64 0), (.int .i64 0), (.int .i64 0), (.int .i64 0), (.ptr none), (.ptr none), (.str []), (.bool false), (.ptr none), (.ptr none), (.int .i64 0), (.int .i64 0)] [(15, 18, (.tmp 12)), (33, 1, (.tmp 13)), (37, 1, (.tmp 16)), (39, 1, (.val (.int .i64 1)))], none, [12, 13, 16], 1, 1, false⟩,
  ⟨(some 18), .box 41 84 (.tmp 17), none, [17], 1, 2, false⟩,
  ⟨(some 4), .mov (.tmp 18), none, [18], 2, 2, false⟩]
def c15 : AFn := ⟨19, [(4, none)],
  (.seq (.region c15_r0 false) (.seq (.seq (.region c15_r1 false) (.cond (.tmp 11) (.seq (.region c15_r2 false) .ret) .skip)) (.seq (.region c15_r3 true) .ret)))⟩
theorem F15 : funcsOf Tryz.prog [] 15 = some c15 := by kernel_rfl

def c16_r0 : List AOper := [
  ⟨(some 1), .box 18 25 (.tmp 0), none, [], 0, 0, false⟩,
  ⟨(some 2), .mov (.val (.int .i64 0)), none, [], 0, 0, false⟩]
def c16_r1 : List AOper := [
  ⟨(some 8), .fieldAddr 1 (.tmp 1), none, [], 0, 0, false⟩,
  ⟨(some 9), .load none (.tmp 8), none, [], 0, 0, false⟩,
  ⟨(some 10), .call (.val (.func (.func 53) [] [])) [(.tmp 9)], none, [], 0, 0, false⟩,
  ⟨(some 7), .mov (.tmp 10), none, [], 0, 0, false⟩,
  ⟨(some 11), .extract (.tmp 7) 0, none, [], 0, 0, false⟩,
  ⟨(some 12), .extract (.tmp 7) 1, none, [], 0, 0, false⟩,
  ⟨(some 3), .mov (.tmp 11), none, [], 0, 0, false⟩,
  ⟨(some 4), .mov (.tmp 12), none, [], 0, 0, false⟩]
def c16_r2 : List AOper := [
  ⟨(some 14), .fieldAddr 0 (.tmp 1), none, [], 0, 0, false⟩,
  ⟨(some 15), .load none (.tmp 14), none, [], 0, 0, false⟩,
  ⟨(some 16), .call (.val (.func (.func 54) [] [])) [(.tmp 15)], none, [], 0, 0, false⟩,
  ⟨(some 17), .un .not (.tmp 16), none, [], 0, 0, false⟩,
  ⟨(some 18), .mov (.tmp 17), none, [], 0, 0, false⟩,
  ⟨(some 19), .fieldAddr 0 (.tmp 1), (some (18, false)), [], 0, 0, false⟩,
  ⟨(some 20), .load none (.tmp 19), (some (18, false)), [], 0, 0, false⟩,
  ⟨(some 21), .lenStr (.tmp 20), (some (18, false)), [], 0, 0, false⟩,
  ⟨(some 22), .bin .gtr (.tmp 21) (.val (.int .i64 100)), (some (18, false)), [], 0, 0, false⟩,
  ⟨(some 23), .pick (.tmp 18) (.val (.bool true)) (.tmp 22), none, [], 0, 0, false⟩,
  ⟨(some 13), .mov (.tmp 23), none, [], 0, 0, false⟩]
def c16_r3 : List AOper := [
  ⟨(some 2), .mov (.val (.int .i64 6)), none, [], 0, 0, false⟩]
def c16_r4 : List AOper := [
  ⟨(some 25), .fieldAddr 1 (.tmp 1), none, [], 0, 0, false⟩,
  ⟨(some 26), .load none (.tmp 25), none, [], 0, 0, false⟩,
  ⟨(some 27), .bin .neq (.tmp 26) (.val (.str [])), none, [], 0, 0, false⟩,
  ⟨(some 28), .mov (.tmp 27), none, [], 0, 0, false⟩,
  ⟨(some 29), .mov (.tmp 3), (some (28, true)), [], 0, 0, false⟩,
  ⟨(some 30), .fieldAddr 1 (.tmp 1), (some (28, true)), [], 0, 0, false⟩,
  ⟨(some 31), .load none (.tmp 30), (some (28, true)), [], 0, 0, false⟩,
  ⟨(some 32), .bin .neq (.tmp 29) (.tmp 31), (some (28, true)), [], 0, 0, false⟩,
  ⟨(some 33), .mov (.tmp 32), (some (28, true)), [], 0, 0, false⟩,
  ⟨(some 34), .mov (.tmp 3), (some (33, false)), [], 0, 0, false⟩,
  ⟨(some 35), .lenStr (.tmp 34), (some (33, false)), [], 0, 0, false⟩,
  ⟨(some 36), .bin .gtr (.tmp 35) (.val (.int .i64 200)), (some (33, false)), [], 0, 0, false⟩,
  ⟨(some 37), .pick (.tmp 33) (.val (.bool true)) (.tmp 36), (some (28, true)), [], 0, 0, false⟩,
  ⟨(some 38), .mov (.tmp 37), (some (28, true)), [], 0, 0, false⟩,
  ⟨(some 39), .mov (.tmp 3), (some (38, false)), [], 0, 0, false⟩,
  ⟨(some 40), .bin .eql (.tmp 39) (.val (.str [45])), (some (38, false)), [], 0, 0, false⟩,
  ⟨(some 41), .pick (.tmp 38) (.val (.bool true)) (.tmp 40), (some (28, true)), [], 0, 0, false⟩,
  ⟨(some 42), .pick (.tmp 28) (.tmp 41) (.val (.bool false)), none, [], 0, 0, false⟩,
  ⟨(some 24), .mov (.tmp 42), none, [], 0, 0, false⟩]
def c16_r5 : List AOper := [
  ⟨(some 2), .mov (.val (.int .i64 13)), none, [], 0, 0, false⟩]
def c16_r6 : List AOper := [
  ⟨(some 43), .call (.val (.func (.func 55) [] [])) [(.tmp 1)], none, [], 0, 0, false⟩,
  ⟨(some 44), .mov (.val (.int .i64 0)), none, [], 0, 0, false⟩]
def c16_r7 : List AOper := [
  ⟨(some 45), .bin .lss (.tmp 44) (.val (.int .i64 16)), none, [], 0, 0, false⟩]
def c16_r8 : List AOper := [
  ⟨(some 46), .idxArr 16 3 true (.tmp 43) (.tmp 44), none, [], 0, 0, false⟩,
  ⟨(some 6), .alloc [(.ptr none), (.int .i64 0), (.int .i64 0)] 95, none, [], 0, 0, false⟩,
  ⟨none, .store 3 (.tmp 6) (.tmp 46), none, [], 0, 0, false⟩]
def c16_r9 : List AOper := [
  ⟨(some 47), .fieldAddr 0 (.tmp 6), none, [6], 0, 0, false⟩,
  ⟨(some 48), .load none (.tmp 47), none, [47], 0, 0, false⟩,
  ⟨(some 49), .nilCheck (.tmp 48), none, [48], 0, 0, false⟩,
  ⟨(some 50), .load none (.tmp 49), none, [49], 0, 0, false⟩,
  ⟨(some 51), .fieldAddr 1 (.tmp 6), none, [6], 0, 0, false⟩,
  ⟨(some 52), .load none (.tmp 51), none, [51], 0, 0, false⟩,
  ⟨(some 53), .bin .lss (.tmp 50) (.tmp 52), none, [50, 52], 0, 0, false⟩,
  ⟨(some 54), .mov (.tmp 53), none, [53], 0, 0, false⟩,
  ⟨(some 55), .fieldAddr 0 (.tmp 6), (some (54, false)), [6], 0, 0, false⟩,
  ⟨(some 56), .load none (.tmp 55), (some (54, false)), [55], 0, 0, false⟩,
  ⟨(some 57), .nilCheck (.tmp 56), (some (54, false)), [56], 0, 0, false⟩,
  ⟨(some 58), .load none (.tmp 57), (some (54, false)), [57], 0, 0, false⟩,
  ⟨(some 59), .fieldAddr 2 (.tmp 6), (some (54, false)), [6], 0, 0, false⟩,
  ⟨(some 60), .load none (.tmp 59), (some (54, false)), [59], 0, 0, false⟩,
  ⟨(some 61), .bin .gtr (.tmp 58) (.tmp 60), (some (54, false)), [58, 60], 0, 0, false⟩,
  ⟨(some 62), .pick (.tmp 54) (.val (.bool true)) (.tmp 61), none, [54, 61], 0, 0, false⟩]
def c16_r10 : List AOper := [
  ⟨(some 2), .mov (.val (.int .i64 5)), none, [], 0, 0, false⟩]
def c16_r11 : List AOper := [
  ⟨(some 63), .bin .add (.tmp 44) (.val (.int .i64 1)), none, [], 0, 0, false⟩,
  ⟨(some 44), .mov (.tmp 63), none, [], 0, 0, false⟩]
def c16_l12 : ACode := (.seq (.region c16_r7 false) (.seq (.cond (.tmp 45) .skip (.exit 1)) (.seq (.block 2 (.seq (.region c16_r8 false) (.seq (.region c16_r9 true) (.cond (.tmp 62) (.seq (.region c16_r10 false) .ret) .skip)))) (.region c16_r11 false))))
def c16_r13 : List AOper := [
  ⟨(some 2), .mov (.val (.int .i64 0)), none, [], 0, 0, false⟩]
def c16 : AFn := ⟨64, [(2, none)],
  (.seq (.region c16_r0 false) (.seq (.region c16_r1 false) (.seq (.block 0 (.seq (.region c16_r2 false) (.cond (.tmp 13) (.seq (.region c16_r3 false) .ret) (.seq (.region c16_r4 false) (.cond (.tmp 24) (.seq (.region c16_r5 false) .ret) .skip))))) (.seq (.seq (.region c16_r6 false) (.block 1 (.loop c16_l12))) (.seq (.region c16_r13 false) .ret)))))⟩
theorem F16 : funcsOf Tryz.prog [] 16 = some c16 := by kernel_rfl

def c53_r0 : List AOper := [
  ⟨(some 2), .mov (.val (.str [])), none, [], 0, 0, false⟩,
  ⟨(some 3), .mov (.val (.bool false)), none, [], 0, 0, false⟩]
def c53_r1 : List AOper := [
  ⟨(some 8), .mov (.tmp 0), none, [], 0, 0, false⟩,
  ⟨(some 9), .call (.val (.func (.func 123) [] [])) [(.tmp 8)], none, [], 0, 0, false⟩,
  ⟨(some 7), .mov (.tmp 9), none, [], 0, 0, false⟩,
  ⟨(some 10), .extract (.tmp 7) 0, none, [], 0, 0, false⟩,
  ⟨(some 11), .extract (.tmp 7) 1, none, [], 0, 0, false⟩,
  ⟨(some 12), .extract (.tmp 7) 2, none, [], 0, 0, false⟩,
  ⟨(some 4), .mov (.tmp 10), none, [], 0, 0, false⟩,
  ⟨(some 5), .mov (.tmp 11), none, [], 0, 0, false⟩,
  ⟨(some 6), .mov (.tmp 12), none, [], 0, 0, false⟩]
def c53_r2 : List AOper := [
  ⟨(some 13), .mov (.tmp 6), none, [], 0, 0, false⟩,
  ⟨(some 14), .bin .neq (.tmp 13) (.val (.int .i64 0)), none, [], 0, 0, false⟩]
def c53_r3 : List AOper := [
  ⟨(some 2), .mov (.val (.str [])), none, [], 0, 0, false⟩,
  ⟨(some 3), .mov (.val (.bool false)), none, [], 0, 0, false⟩]
def c53_r4 : List AOper := [
  ⟨(some 15), .mov (.tmp 4), none, [], 0, 0, false⟩,
  ⟨(some 16), .mov (.tmp 5), none, [], 0, 0, false⟩,
  ⟨(some 17), .call (.val (.func (.func 124) [] [])) [(.tmp 15), (.tmp 16)], none, [], 0, 0, false⟩,
  ⟨(some 2), .mov (.tmp 17), none, [], 0, 0, false⟩,
  ⟨(some 3), .mov (.val (.bool true)), none, [], 0, 0, false⟩]
def c53 : AFn := ⟨18, [(2, none), (3, none)],
  (.seq (.region c53_r0 false) (.seq (.region c53_r1 false) (.seq (.seq (.region c53_r2 false) (.cond (.tmp 14) (.seq (.region c53_r3 false) .ret) .skip)) (.seq (.region c53_r4 false) .ret))))⟩
theorem F53 : funcsOf Tryz.prog [] 53 = some c53 := by kernel_rfl

def c54_r0 : List AOper := [
  ⟨(some 2), .mov (.val (.bool false)), none, [], 0, 0, false⟩]
def c54_r1 : List AOper := [
  ⟨(some 3), .mov (.tmp 0), none, [], 0, 0, false⟩,
  ⟨(some 4), .bin .neq (.tmp 3) (.val (.str [])), none, [], 0, 0, false⟩,
  ⟨(some 5), .mov (.tmp 4), none, [], 0, 0, false⟩,
  ⟨(some 6), .mov (.tmp 0), (some (5, true)), [], 0, 0, false⟩,
  ⟨(some 7), .call (.val (.func (.func 125) [] [])) [(.tmp 6), (.val (.func (.func 126) [] []))], (some (5, true)), [], 0, 0, false⟩,
  ⟨(some 8), .pick (.tmp 5) (.tmp 7) (.val (.bool false)), none, [], 0, 0, false⟩,
  ⟨(some 2), .mov (.tmp 8), none, [], 0, 0, false⟩]
def c54 : AFn := ⟨9, [(2, none)],
  (.seq (.region c54_r0 false) (.seq (.region c54_r1 false) .ret))⟩
theorem F54 : funcsOf Tryz.prog [] 54 = some c54 := by kernel_rfl

def c55_r0 : List AOper := [
  ⟨(some 2), .alloc [(.ptr none), (.int .i64 0), (.int .i64 0), (.ptr none), (.int .i64 0), (.int .i64 0), (.ptr none), (.int .i64 0), (.int .i64 0), (.ptr none), (.int .i64 0), (.int .i64 0), (.ptr none), (.int .i64 0), (.int .i64 0), (.ptr none), (.int .i64 0), (.int .i64 0), (.ptr none), (.int .i64 0), (.int .i64 0), (.ptr none), (.int .i64 0), (.int .i64 0), (.ptr none), (.int .i64 0), (.int .i64 0), (.ptr none), (.int .i64 0), (.int .i64 0), (.ptr none), (.int .i64 0), (.int .i64 0), (.ptr none), (.int .i64 0), (.int .i64 0), (.ptr none), (.int .i64 0), (.int .i64 0), (.ptr none), (.int .i64 0), (.int .i64 0), (.ptr none), (.int .i64 0), (.int .i64 0), (.ptr none), (.int .i64 0), (.int .i64 0)] 96, none, [], 0, 0, false⟩]
def c55_r1 : List AOper := [
  ⟨(some 4), .mov (.tmp 0), none, [], 0, 0, false⟩,
  ⟨(some 5), .nilCheck (.tmp 4), none, [], 0, 0, false⟩,
  ⟨(some 6), .fieldAddr 13 (.tmp 5), none, [], 0, 0, false⟩,
  ⟨(some 3), .mov (.tmp 6), none, [], 0, 0, false⟩]
def c55_r2 : List AOper := [
  ⟨(some 7), .mov (.tmp 0), none, [0], 0, 0, false⟩,
  ⟨(some 8), .nilCheck (.tmp 7), none, [7], 0, 0, false⟩,
  ⟨(some 9), .fieldAddr 2 (.tmp 8), none, [8], 0, 0, false⟩,
  ⟨(some 10), .build [(.ptr none), (.int .i64 0), (.int .i64 0)] [(0, 1, (.tmp 9)), (1, 1, (.val (.int .i64 0))), (2, 1, (.val (.int .i64 1)))], none, [9], 0, 0, false⟩,
  ⟨(some 11), .mov (.tmp 0), none, [0], 0, 0, false⟩,
  ⟨(some 12), .nilCheck (.tmp 11), none, [11], 0, 0, false⟩,
  ⟨(some 13), .fieldAddr 3 (.tmp 12), none, [12], 0, 0, false⟩,
  ⟨(some 14), .build [(.ptr none), (.int .i64 0), (.int .i64 0)] [(0, 1, (.tmp 13)), (1, 1, (.val (.int .i64 0))), (2, 1, (.val (.int .i64 1)))], none, [13], 0, 0, false⟩,
  ⟨(some 15), .mov (.tmp 0), none, [0], 0, 0, false⟩,
  ⟨(some 16), .nilCheck (.tmp 15), none, [15], 0, 0, false⟩,
  ⟨(some 17), .fieldAddr 4 (.tmp 16), none, [16], 0, 0, false⟩,
  ⟨(some 18), .build [(.ptr none), (.int .i64 0), (.int .i64 0)] [(0, 1, (.tmp 17)), (1, 1, (.val (.int .i64 0))), (2, 1, (.val (.int .i64 1)))], none, [17], 0, 0, false⟩,
  ⟨(some 19), .mov (.tmp 0), none, [0], 0, 0, false⟩,
  ⟨(some 20), .nilCheck (.tmp 19), none, [19], 0, 0, false⟩,
  ⟨(some 21), .fieldAddr 5 (.tmp 20), none, [20], 0, 0, false⟩,
  ⟨(some 22), .build [(.ptr none), (.int .i64 0), (.int .i64 0)] [(0, 1, (.tmp 21)), (1, 1, (.val (.int .i64 0))), (2, 1, (.val (.int .i64 1)))], none, [21], 0, 0, false⟩,
  ⟨(some 23), .mov (.tmp 0), none, [0], 0, 0, false⟩,
  ⟨(some 24), .nilCheck (.tmp 23), none, [23], 0, 0, false⟩,
  ⟨(some 25), .fieldAddr 6 (.tmp 24), none, [24], 0, 0, false⟩,
  ⟨(some 26), .build [(.ptr none), (.int .i64 0), (.int .i64 0)] [(0, 1, (.tmp 25)), (1, 1, (.val (.int .i64 1))), (2, 1, (.val (.int .i64 65536)))], none, [25], 0, 0, false⟩,
  ⟨(some 27), .mov (.tmp 0), none, [0], 0, 0, false⟩,
  ⟨(some 28), .nilCheck (.tmp 27), none, [27], 0, 0, false⟩,
  ⟨(some 29), .fieldAddr 7 (.tmp 28), none, [28], 0, 0, false⟩,
  ⟨(some 30), .build [(.ptr none), (.int .i64 0), (.int .i64 0)] [(0, 1, (.tmp 29)), (1, 1, (.val (.int .i64 1))), (2, 1, (.val (.int .i64 65536)))], none, [29], 0, 0, false⟩,
  ⟨(some 31), .mov (.tmp 0), none, [0], 0, 0, false⟩,
  ⟨(some 32), .nilCheck (.tmp 31), none, [31], 0, 0, false⟩,
  ⟨(some 33), .fieldAddr 8 (.tmp 32), none, [32], 0, 0, false⟩,
  ⟨(some 34), .build [(.ptr none), (.int .i64 0), (.int .i64 0)] [(0, 1, (.tmp 33)), (1, 1, (.val (.int .i64 0))), (2, 1, (.val (.int .i64 100)))], none, [33], 0, 0, false⟩,
  ⟨(some 35), .mov (.tmp 0), none, [0], 0, 0, false⟩,
  ⟨(some 36), .nilCheck (.tmp 35), none, [35], 0, 0, false⟩,
  ⟨(some 37), .fieldAddr 9 (.tmp 36), none, [36], 0, 0, false⟩,
  ⟨(some 38), .build [(.ptr none), (.int .i64 0), (.int .i64 0)] [(0, 1, (.tmp 37)), (1, 1, (.val (.int .i64 0))), (2, 1, (.val (.int .i64 1073741824)))], none, [37], 0, 0, false⟩,
  ⟨(some 39), .mov (.tmp 0), none, [0], 0, 0, false⟩,
  ⟨(some 40), .nilCheck (.tmp 39), none, [39], 0, 0, false⟩,
  ⟨(some 41), .fieldAddr 10 (.tmp 40), none, [40], 0, 0, false⟩,
  ⟨(some 42), .build [(.ptr none), (.int .i64 0), (.int .i64 0)] [(0, 1, (.tmp 41)), (1, 1, (.val (.int .i64 1))), (2, 1, (.val (.int .i64 16)))], none, [41], 0, 0, false⟩,
  ⟨(some 43), .mov (.tmp 0), none, [0], 0, 0, false⟩,
  ⟨(some 44), .nilCheck (.tmp 43), none, [43], 0, 0, false⟩,
  ⟨(some 45), .fieldAddr 11 (.tmp 44), none, [44], 0, 0, false⟩,
  ⟨(some 46), .build [(.ptr none), (.int .i64 0), (.int .i64 0)] [(0, 1, (.tmp 45)), (1, 1, (.val (.int .i64 1))), (2, 1, (.val (.int .i64 16)))], none, [45], 0, 0, false⟩,
  ⟨(some 47), .mov (.tmp 0), none, [0], 0, 0, false⟩,
  ⟨(some 48), .nilCheck (.tmp 47), none, [47], 0, 0, false⟩,
  ⟨(some 49), .fieldAddr 12 (.tmp 48), none, [48], 0, 0, false⟩,
  ⟨(some 50), .build [(.ptr none), (.int .i64 0), (.int .i64 0)] [(0, 1, (.tmp 49)), (1, 1, (.val (.int .i64 0))), (2, 1, (.val (.int .i64 1)))], none, [49], 0, 0, false⟩,
  ⟨(some 51), .mov (.tmp 3), none, [3], 0, 0, false⟩,
  ⟨(some 52), .nilCheck (.tmp 51), none, [51], 0, 0, false⟩,
  ⟨(some 53), .fieldAddr 0 (.tmp 52), none, [52], 0, 0, false⟩,
  ⟨(some 54), .build [(.ptr none), (.int .i64 0), (.int .i64 0)] [(0, 1, (.tmp 53)), (1, 1, (.val (.int .i64 16))), (2, 1, (.val (.int .i64 65536)))], none, [53], 0, 0, false⟩,
  ⟨(some 55), .mov (.tmp 3), none, [3], 0, 0, false⟩,
  ⟨(some 56), .nilCheck (.tmp 55), none, [55], 0, 0, false⟩,
  ⟨(some 57), .fieldAddr 1 (.tmp 56), none, [56], 0, 0, false⟩,
  ⟨(some 58), .build [(.ptr none), (.int .i64 0), (.int .i64 0)] [(0, 1, (.tmp 57)), (1, 1, (.val (.int .i64 1))), (2, 1, (.val (.int .i64 1000)))], none, [57], 0, 0, false⟩,
  ⟨(some 59), .mov (.tmp 3), none, [3], 0, 0, false⟩,
  ⟨(some 60), .nilCheck (.tmp 59), none, [59], 0, 0, false⟩,
  ⟨(some 61), .fieldAddr 2 (.tmp 60), none, [60], 0, 0, false⟩,
  ⟨(some 62), .build [(.ptr none), (.int .i64 0), (.int .i64 0)] [(0, 1, (.tmp 61)), (1, 1, (.val (.int .i64 3))), (2, 1, (.val (.int .i64 4096)))], none, [61], 0, 0, false⟩,
  ⟨(some 63), .mov (.tmp 3), none, [3], 0, 0, false⟩,
  ⟨(some 64), .nilCheck (.tmp 63), none, [63], 0, 0, false⟩,
  ⟨(some 65), .fieldAddr 3 (.tmp 64), none, [64], 0, 0, false⟩,
  ⟨(some 66), .build [(.ptr none), (.int .i64 0), (.int .i64 0)] [(0, 1, (.tmp 65)), (1, 1, (.val (.int .i64 0))), (2, 1, (.val (.int .i64 1048576)))], none, [65], 0, 0, false⟩,
  ⟨(some 67), .mov (.tmp 3), none, [3], 0, 0, false⟩,
  ⟨(some 68), .nilCheck (.tmp 67), none, [67], 0, 0, false⟩,
  ⟨(some 69), .fieldAddr 4 (.tmp 68), none, [68], 0, 0, false⟩,
  ⟨(some 70), .build [(.ptr none), (.int .i64 0), (.int .i64 0)] [(0, 1, (.tmp 69)), (1, 1, (.val (.int .i64 0))), (2, 1, (.val (.int .i64 1)))], none, [69], 0, 0, false⟩,
  ⟨(some 71), .build [(.ptr none), (.int .i64 0), (.int .i64 0), (.ptr none), (.int .i64 0), (.int .i64 0), (.ptr none), (.int .i64 0), (.int .i64 0), (.ptr none), (.int .i64 0), (.int .i64 0), (.ptr none), (.int .i64 0), (.int .i64 0), (.ptr none), (.int .i64 0), (.int .i64 0), (.ptr none), (.int .i64 0), (.int .i64 0), (.ptr none), (.int .i64 0), (.int .i64 0), (.ptr none), (.int .i64 0), (.int .i64 0), (.ptr none), (.int .i64 0), (.int .i64 0), (.ptr none), (.int .i64 0), (.int .i64 0), (.ptr none), (.int .i64 0), (.int .i64 0), (.ptr none), (.int .i64 0), (.int .i64 0), (.ptr none), (.int .i64 0), (.int .i64 0), (.ptr none), (.int .i64 0), (.int .i64 0), (.ptr none), (.int .i64 0), (.int .i64 0)] [(0, 3, (.tmp 10)), (3, 3, (.tmp 14)), (6, 3, (.tmp 18)), (9, 3, (.tmp 22)), (12, 3, (.tmp 26)), (15, 3, (.tmp 30)), (18, 3, (.tmp 34)), (21, 3, (.tmp 38)), (24, 3, (.tmp 42)), (27, 3, (.tmp 46)), (30, 3, (.tmp 50)), (33, 3, (.tmp 54)), (36, 3, (.tmp 58)), (39, 3, (.tmp 62)), (42, 3, (.tmp 66)), (45, 3, (.tmp 70))], none, [10, 14, 18, 22, 26, 30, 34, 38, 42, 46, 50, 54, 58, 62, 66, 70], 0, 0, false⟩,
  ⟨none, .store 48 (.tmp 2) (.tmp 71), none, [2, 71], 0, 1, false⟩]
def c55 : AFn := ⟨72, [(2, (some (some 48)))],
  (.seq (.region c55_r0 false) (.seq (.region c55_r1 false) (.seq (.region c55_r2 true) .ret)))⟩
theorem F55 : funcsOf Tryz.prog [] 55 = some c55 := by kernel_rfl

def c123_r0 : List AOper := [
  ⟨(some 2), .mov (.val (.str [])), none, [], 0, 0, false⟩,
  ⟨(some 3), .mov (.val (.int .i64 0)), none, [], 0, 0, false⟩,
  ⟨(some 4), .mov (.val (.int .i64 0)), none, [], 0, 0, false⟩]
def c123_r1 : List AOper := [
  ⟨(some 7), .mov (.tmp 0), none, [], 0, 0, false⟩,
  ⟨(some 8), .bin .eql (.tmp 7) (.val (.str [])), none, [], 0, 0, false⟩]
def c123_r2 : List AOper := [
  ⟨(some 2), .mov (.val (.str [])), none, [], 0, 0, false⟩,
  ⟨(some 3), .mov (.val (.int .i64 0)), none, [], 0, 0, false⟩,
  ⟨(some 4), .mov (.val (.int .i64 2)), none, [], 0, 0, false⟩]
def c123_r3 : List AOper := [
  ⟨(some 10), .mov (.tmp 0), none, [], 0, 0, false⟩,
  ⟨(some 11), .call (.val (.func (.func 229) [] [])) [(.tmp 10)], none, [], 0, 0, false⟩,
  ⟨(some 9), .mov (.tmp 11), none, [], 0, 0, false⟩,
  ⟨(some 12), .extract (.tmp 9) 0, none, [], 0, 0, false⟩,
  ⟨(some 13), .extract (.tmp 9) 1, none, [], 0, 0, false⟩,
  ⟨(some 14), .extract (.tmp 9) 2, none, [], 0, 0, false⟩,
  ⟨(some 2), .mov (.tmp 12), none, [], 0, 0, false⟩,
  ⟨(some 5), .mov (.tmp 13), none, [], 0, 0, false⟩,
  ⟨(some 6), .mov (.tmp 14), none, [], 0, 0, false⟩]
def c123_r4 : List AOper := [
  ⟨(some 15), .mov (.tmp 2), none, [], 0, 0, false⟩,
  ⟨(some 16), .call (.val (.func (.func 230) [] [])) [(.tmp 15)], none, [], 0, 0, false⟩,
  ⟨(some 17), .un .not (.tmp 16), none, [], 0, 0, false⟩,
  ⟨(some 18), .mov (.tmp 17), none, [], 0, 0, false⟩,
  ⟨(some 19), .mov (.tmp 2), (some (18, true)), [], 0, 0, false⟩,
  ⟨(some 20), .call (.val (.func (.func 231) [] [])) [(.tmp 19)], (some (18, true)), [], 0, 0, false⟩,
  ⟨(some 21), .un .not (.tmp 20), (some (18, true)), [], 0, 0, false⟩,
  ⟨(some 22), .pick (.tmp 18) (.tmp 21) (.val (.bool false)), none, [], 0, 0, false⟩]
def c123_r5 : List AOper := [
  ⟨(some 2), .mov (.val (.str [])), none, [], 0, 0, false⟩,
  ⟨(some 3), .mov (.val (.int .i64 0)), none, [], 0, 0, false⟩,
  ⟨(some 4), .mov (.val (.int .i64 3)), none, [], 0, 0, false⟩]
def c123_r6 : List AOper := [
  ⟨(some 23), .mov (.tmp 6), none, [], 0, 0, false⟩,
  ⟨(some 24), .un .not (.tmp 23), none, [], 0, 0, false⟩]
def c123_r7 : List AOper := [
  ⟨(some 25), .mov (.tmp 2), none, [], 0, 0, false⟩,
  ⟨(some 2), .mov (.tmp 25), none, [], 0, 0, false⟩,
  ⟨(some 3), .mov (.val (.int .i64 80)), none, [], 0, 0, false⟩,
  ⟨(some 4), .mov (.val (.int .i64 0)), none, [], 0, 0, false⟩]
def c123_r8 : List AOper := [
  ⟨(some 27), .mov (.tmp 5), none, [], 0, 0, false⟩,
  ⟨(some 28), .call (.val (.func (.func 232) [] [])) [(.tmp 27), (.val (.int .i64 65535))], none, [], 0, 0, false⟩,
  ⟨(some 26), .mov (.tmp 28), none, [], 0, 0, false⟩,
  ⟨(some 29), .extract (.tmp 26) 0, none, [], 0, 0, false⟩,
  ⟨(some 30), .extract (.tmp 26) 1, none, [], 0, 0, false⟩,
  ⟨(some 3), .mov (.tmp 29), none, [], 0, 0, false⟩,
  ⟨(some 4), .mov (.tmp 30), none, [], 0, 0, false⟩]
def c123_r9 : List AOper := [
  ⟨(some 31), .mov (.tmp 4), none, [], 0, 0, false⟩]
def c123_r10 : List AOper := [
  ⟨(some 33), .bin .eql (.tmp 31) (.val (.int .i64 0)), none, [], 0, 0, false⟩,
  ⟨(some 32), .mov (.tmp 33), none, [], 0, 0, false⟩]
def c123_r11 : List AOper := [
  ⟨(some 34), .mov (.tmp 2), none, [], 0, 0, false⟩,
  ⟨(some 35), .mov (.tmp 3), none, [], 0, 0, false⟩,
  ⟨(some 36), .mov (.tmp 4), none, [], 0, 0, false⟩,
  ⟨(some 2), .mov (.tmp 34), none, [], 0, 0, false⟩,
  ⟨(some 3), .mov (.tmp 35), none, [], 0, 0, false⟩,
  ⟨(some 4), .mov (.tmp 36), none, [], 0, 0, false⟩]
def c123_r12 : List AOper := [
  ⟨(some 38), .bin .eql (.tmp 31) (.val (.int .i64 5)), none, [], 0, 0, false⟩,
  ⟨(some 37), .mov (.tmp 38), none, [], 0, 0, false⟩]
def c123_r13 : List AOper := [
  ⟨(some 39), .mov (.tmp 4), none, [], 0, 0, false⟩,
  ⟨(some 2), .mov (.val (.str [])), none, [], 0, 0, false⟩,
  ⟨(some 3), .mov (.val (.int .i64 0)), none, [], 0, 0, false⟩,
  ⟨(some 4), .mov (.tmp 39), none, [], 0, 0, false⟩]
def c123_r14 : List AOper := [
  ⟨(some 2), .mov (.val (.str [])), none, [], 0, 0, false⟩,
  ⟨(some 3), .mov (.val (.int .i64 0)), none, [], 0, 0, false⟩,
  ⟨(some 4), .mov (.val (.int .i64 3)), none, [], 0, 0, false⟩]
def c123 : AFn := ⟨40, [(2, none), (3, none), (4, none)],
  (.seq (.region c123_r0 false) (.seq (.seq (.region c123_r1 false) (.cond (.tmp 8) (.seq (.region c123_r2 false) .ret) .skip)) (.seq (.region c123_r3 false) (.seq (.seq (.region c123_r4 false) (.cond (.tmp 22) (.seq (.region c123_r5 false) .ret) .skip)) (.seq (.seq (.region c123_r6 false) (.cond (.tmp 24) (.seq (.region c123_r7 false) .ret) .skip)) (.seq (.region c123_r8 false) (.seq (.seq (.region c123_r9 false) (.block 0 (.seq (.region c123_r10 false) (.cond (.tmp 32) (.seq (.region c123_r11 false) .ret) (.seq (.region c123_r12 false) (.cond (.tmp 37) (.seq (.region c123_r13 false) .ret) .skip)))))) (.seq (.region c123_r14 false) .ret))))))))⟩
theorem F123 : funcsOf Tryz.prog [] 123 = some c123 := by kernel_rfl

def c124_r0 : List AOper := [
  ⟨(some 4), .mov (.val (.str [])), none, [], 0, 0, false⟩]
def c124_r1 : List AOper := [
  ⟨(some 5), .mov (.tmp 0), none, [], 0, 0, false⟩,
  ⟨(some 6), .call (.val (.func (.func 233) [] [])) [(.tmp 5)], none, [], 0, 0, false⟩,
  ⟨(some 0), .mov (.tmp 6), none, [], 0, 0, false⟩]
def c124_r2 : List AOper := [
  ⟨(some 7), .mov (.tmp 1), none, [], 0, 0, false⟩,
  ⟨(some 8), .bin .eql (.tmp 7) (.val (.int .i64 80)), none, [], 0, 0, false⟩]
def c124_r3 : List AOper := [
  ⟨(some 9), .mov (.tmp 0), none, [], 0, 0, false⟩,
  ⟨(some 4), .mov (.tmp 9), none, [], 0, 0, false⟩]
def c124_r4 : List AOper := [
  ⟨(some 10), .mov (.tmp 0), none, [], 0, 0, false⟩,
  ⟨(some 11), .bin .add (.tmp 10) (.val (.str [58])), none, [], 0, 0, false⟩,
  ⟨(some 12), .mov (.tmp 1), none, [], 0, 0, false⟩,
  ⟨(some 13), .call (.val (.func (.func 234) [] [])) [(.tmp 12)], none, [], 0, 0, false⟩,
  ⟨(some 14), .bin .add (.tmp 11) (.tmp 13), none, [], 0, 0, false⟩,
  ⟨(some 4), .mov (.tmp 14), none, [], 0, 0, false⟩]
def c124 : AFn := ⟨15, [(4, none)],
  (.seq (.region c124_r0 false) (.seq (.region c124_r1 false) (.seq (.seq (.region c124_r2 false) (.cond (.tmp 8) (.seq (.region c124_r3 false) .ret) .skip)) (.seq (.region c124_r4 false) .ret))))⟩
theorem F124 : funcsOf Tryz.prog [] 124 = some c124 := by kernel_rfl

def c125_r0 : List AOper := [
  ⟨(some 4), .mov (.val (.bool false)), none, [], 0, 0, false⟩]
def c125_r1 : List AOper := [
  ⟨(some 7), .mov (.tmp 0), none, [], 0, 0, false⟩,
  ⟨(some 8), .rangeStr (.tmp 7), none, [], 0, 0, false⟩]
def c125_r2 : List AOper := [
  ⟨(some 9), .nextStr (.tmp 8), none, [], 0, 0, false⟩,
  ⟨(some 10), .extract (.tmp 9) 0, none, [], 0, 0, false⟩]
def c125_r3 : List AOper := [
  ⟨(some 11), .extract (.tmp 9) 2, none, [], 0, 0, false⟩,
  ⟨(some 6), .mov (.tmp 11), none, [], 0, 0, false⟩]
def c125_r4 : List AOper := [
  ⟨(some 12), .mov (.tmp 1), none, [], 0, 0, false⟩,
  ⟨(some 13), .mov (.tmp 6), none, [], 0, 0, false⟩,
  ⟨(some 14), .call (.tmp 12) [(.tmp 13)], none, [], 0, 0, false⟩,
  ⟨(some 15), .un .not (.tmp 14), none, [], 0, 0, false⟩]
def c125_r5 : List AOper := [
  ⟨(some 4), .mov (.val (.bool false)), none, [], 0, 0, false⟩]
def c125_l6 : ACode := (.seq (.region c125_r2 false) (.seq (.cond (.tmp 10) .skip (.exit 0)) (.block 1 (.seq (.region c125_r3 false) (.seq (.region c125_r4 false) (.cond (.tmp 15) (.seq (.region c125_r5 false) .ret) .skip))))))
def c125_r7 : List AOper := [
  ⟨(some 4), .mov (.val (.bool true)), none, [], 0, 0, false⟩]
def c125 : AFn := ⟨16, [(4, none)],
  (.seq (.region c125_r0 false) (.seq (.seq (.region c125_r1 false) (.block 0 (.loop c125_l6))) (.seq (.region c125_r7 false) .ret)))⟩
theorem F125 : funcsOf Tryz.prog [] 125 = some c125 := by kernel_rfl

def c126_r0 : List AOper := [
  ⟨(some 2), .mov (.val (.bool false)), none, [], 0, 0, false⟩]
def c126_r1 : List AOper := [
  ⟨(some 6), .mov (.tmp 0), none, [], 0, 0, false⟩,
  ⟨(some 7), .bin .geq (.tmp 6) (.val (.int .i32 97)), none, [], 0, 0, false⟩,
  ⟨(some 8), .mov (.tmp 7), none, [], 0, 0, false⟩,
  ⟨(some 9), .mov (.tmp 0), (some (8, true)), [], 0, 0, false⟩,
  ⟨(some 10), .bin .leq (.tmp 9) (.val (.int .i32 122)), (some (8, true)), [], 0, 0, false⟩,
  ⟨(some 11), .pick (.tmp 8) (.tmp 10) (.val (.bool false)), none, [], 0, 0, false⟩,
  ⟨(some 5), .mov (.tmp 11), none, [], 0, 0, false⟩]
def c126_r2 : List AOper := [
  ⟨(some 12), .mov (.tmp 0), none, [], 0, 0, false⟩,
  ⟨(some 13), .bin .geq (.tmp 12) (.val (.int .i32 65)), none, [], 0, 0, false⟩,
  ⟨(some 14), .mov (.tmp 13), none, [], 0, 0, false⟩,
  ⟨(some 15), .mov (.tmp 0), (some (14, true)), [], 0, 0, false⟩,
  ⟨(some 16), .bin .leq (.tmp 15) (.val (.int .i32 90)), (some (14, true)), [], 0, 0, false⟩,
  ⟨(some 17), .pick (.tmp 14) (.tmp 16) (.val (.bool false)), none, [], 0, 0, false⟩,
  ⟨(some 5), .mov (.tmp 17), none, [], 0, 0, false⟩]
def c126_r3 : List AOper := [
  ⟨(some 18), .mov (.tmp 0), none, [], 0, 0, false⟩,
  ⟨(some 19), .bin .geq (.tmp 18) (.val (.int .i32 48)), none, [], 0, 0, false⟩,
  ⟨(some 20), .mov (.tmp 19), none, [], 0, 0, false⟩,
  ⟨(some 21), .mov (.tmp 0), (some (20, true)), [], 0, 0, false⟩,
  ⟨(some 22), .bin .leq (.tmp 21) (.val (.int .i32 57)), (some (20, true)), [], 0, 0, false⟩,
  ⟨(some 23), .pick (.tmp 20) (.tmp 22) (.val (.bool false)), none, [], 0, 0, false⟩,
  ⟨(some 5), .mov (.tmp 23), none, [], 0, 0, false⟩]
def c126_r4 : List AOper := [
  ⟨(some 2), .mov (.val (.bool true)), none, [], 0, 0, false⟩]
def c126_r5 : List AOper := [
  ⟨(some 24), .rangeStr (.val (.str [33, 35, 36, 37, 38, 39, 42, 43, 45, 46, 94, 95, 96, 124, 126])), none, [], 0, 0, false⟩]
def c126_r6 : List AOper := [
  ⟨(some 25), .nextStr (.tmp 24), none, [], 0, 0, false⟩,
  ⟨(some 26), .extract (.tmp 25) 0, none, [], 0, 0, false⟩]
def c126_r7 : List AOper := [
  ⟨(some 27), .extract (.tmp 25) 2, none, [], 0, 0, false⟩,
  ⟨(some 4), .mov (.tmp 27), none, [], 0, 0, false⟩]
def c126_r8 : List AOper := [
  ⟨(some 28), .mov (.tmp 4), none, [], 0, 0, false⟩,
  ⟨(some 29), .mov (.tmp 0), none, [], 0, 0, false⟩,
  ⟨(some 30), .bin .eql (.tmp 28) (.tmp 29), none, [], 0, 0, false⟩]
def c126_r9 : List AOper := [
  ⟨(some 2), .mov (.val (.bool true)), none, [], 0, 0, false⟩]
def c126_l10 : ACode := (.seq (.region c126_r6 false) (.seq (.cond (.tmp 26) .skip (.exit 1)) (.block 2 (.seq (.region c126_r7 false) (.seq (.region c126_r8 false) (.cond (.tmp 30) (.seq (.region c126_r9 false) .ret) .skip))))))
def c126_r11 : List AOper := [
  ⟨(some 2), .mov (.val (.bool false)), none, [], 0, 0, false⟩]
def c126 : AFn := ⟨31, [(2, none)],
  (.seq (.region c126_r0 false) (.seq (.block 0 (.seq (.seq (.region c126_r1 false) (.cond (.tmp 5) .skip (.seq (.region c126_r2 false) (.cond (.tmp 5) .skip (.region c126_r3 false))))) (.cond (.tmp 5) (.seq (.region c126_r4 false) .ret) .skip))) (.seq (.seq (.region c126_r5 false) (.block 1 (.loop c126_l10))) (.seq (.region c126_r11 false) .ret))))⟩
theorem F126 : funcsOf Tryz.prog [] 126 = some c126 := by kernel_rfl

def c229_r0 : List AOper := [
  ⟨(some 2), .mov (.val (.str [])), none, [], 0, 0, false⟩,
  ⟨(some 3), .mov (.val (.str [])), none, [], 0, 0, false⟩,
  ⟨(some 4), .mov (.val (.bool false)), none, [], 0, 0, false⟩]
def c229_r1 : List AOper := [
  ⟨(some 6), .mov (.tmp 0), none, [], 0, 0, false⟩,
  ⟨(some 7), .call (.val (.func (.func 321) [] [])) [(.tmp 6), (.val (.int .u8 58))], none, [], 0, 0, false⟩,
  ⟨(some 5), .mov (.tmp 7), none, [], 0, 0, false⟩]
def c229_r2 : List AOper := [
  ⟨(some 8), .mov (.tmp 5), none, [], 0, 0, false⟩,
  ⟨(some 9), .mov (.tmp 0), none, [], 0, 0, false⟩,
  ⟨(some 10), .call (.val (.func (.func 322) [] [])) [(.tmp 9), (.val (.int .u8 93))], none, [], 0, 0, false⟩,
  ⟨(some 11), .bin .lss (.tmp 8) (.tmp 10), none, [], 0, 0, false⟩,
  ⟨(some 12), .mov (.tmp 11), none, [], 0, 0, false⟩,
  ⟨(some 13), .mov (.tmp 5), (some (12, false)), [], 0, 0, false⟩,
  ⟨(some 14), .bin .lss (.tmp 13) (.val (.int .i64 0)), (some (12, false)), [], 0, 0, false⟩,
  ⟨(some 15), .pick (.tmp 12) (.val (.bool true)) (.tmp 14), none, [], 0, 0, false⟩]
def c229_r3 : List AOper := [
  ⟨(some 16), .mov (.tmp 0), none, [], 0, 0, false⟩,
  ⟨(some 2), .mov (.tmp 16), none, [], 0, 0, false⟩,
  ⟨(some 3), .mov (.val (.str [])), none, [], 0, 0, false⟩,
  ⟨(some 4), .mov (.val (.bool false)), none, [], 0, 0, false⟩]
def c229_r4 : List AOper := [
  ⟨(some 17), .mov (.tmp 0), none, [0], 0, 0, false⟩,
  ⟨(some 18), .mov (.tmp 5), none, [5], 0, 0, false⟩,
  ⟨(some 19), .sliceStr (.tmp 17) none (some (.tmp 18)), none, [17, 18], 0, 0, false⟩,
  ⟨(some 20), .mov (.tmp 0), none, [0], 0, 0, false⟩,
  ⟨(some 21), .mov (.tmp 5), none, [5], 0, 0, false⟩,
  ⟨(some 22), .bin .add (.tmp 21) (.val (.int .i64 1)), none, [21], 0, 0, false⟩,
  ⟨(some 23), .sliceStr (.tmp 20) (some (.tmp 22)) none, none, [20, 22], 0, 0, false⟩,
  ⟨(some 2), .mov (.tmp 19), none, [19], 0, 0, false⟩,
  ⟨(some 3), .mov (.tmp 23), none, [23], 0, 0, false⟩,
  ⟨(some 4), .mov (.val (.bool true)), none, [], 0, 0, false⟩]
def c229 : AFn := ⟨24, [(2, none), (3, none), (4, none)],
  (.seq (.region c229_r0 false) (.seq (.region c229_r1 false) (.seq (.seq (.region c229_r2 false) (.cond (.tmp 15) (.seq (.region c229_r3 false) .ret) .skip)) (.seq (.region c229_r4 true) .ret))))⟩
theorem F229 : funcsOf Tryz.prog [] 229 = some c229 := by kernel_rfl

def c230_r0 : List AOper := [
  ⟨(some 2), .mov (.val (.bool false)), none, [], 0, 0, false⟩]
def c230_r1 : List AOper := [
  ⟨(some 3), .mov (.val (.int .i64 0)), none, [], 0, 0, false⟩]
def c230_r2 : List AOper := [
  ⟨(some 6), .mov (.tmp 0), none, [], 0, 0, false⟩,
  ⟨(some 7), .rangeStr (.tmp 6), none, [], 0, 0, false⟩]
def c230_r3 : List AOper := [
  ⟨(some 8), .nextStr (.tmp 7), none, [], 0, 0, false⟩,
  ⟨(some 9), .extract (.tmp 8) 0, none, [], 0, 0, false⟩]
def c230_r4 : List AOper := [
  ⟨(some 10), .extract (.tmp 8) 2, none, [], 0, 0, false⟩,
  ⟨(some 5), .mov (.tmp 10), none, [], 0, 0, false⟩]
def c230_r5 : List AOper := [
  ⟨(some 12), .mov (.tmp 3), none, [], 0, 0, false⟩,
  ⟨(some 13), .bin .gtr (.tmp 12) (.val (.int .i64 0)), none, [], 0, 0, false⟩,
  ⟨(some 14), .mov (.tmp 13), none, [], 0, 0, false⟩,
  ⟨(some 15), .mov (.tmp 5), (some (14, true)), [], 0, 0, false⟩,
  ⟨(some 16), .call (.val (.func (.func 323) [] [])) [(.tmp 15)], (some (14, true)), [], 0, 0, false⟩,
  ⟨(some 17), .pick (.tmp 14) (.tmp 16) (.val (.bool false)), none, [], 0, 0, false⟩,
  ⟨(some 11), .mov (.tmp 17), none, [], 0, 0, false⟩]
def c230_r6 : List AOper := [
  ⟨(some 18), .mov (.tmp 3), none, [], 0, 0, false⟩,
  ⟨(some 19), .bin .sub (.tmp 18) (.val (.int .i64 1)), none, [], 0, 0, false⟩,
  ⟨(some 3), .mov (.tmp 19), none, [], 0, 0, false⟩]
def c230_r7 : List AOper := [
  ⟨(some 21), .mov (.tmp 3), none, [], 0, 0, false⟩,
  ⟨(some 22), .bin .gtr (.tmp 21) (.val (.int .i64 0)), none, [], 0, 0, false⟩,
  ⟨(some 20), .mov (.tmp 22), none, [], 0, 0, false⟩]
def c230_r8 : List AOper := [
  ⟨(some 2), .mov (.val (.bool false)), none, [], 0, 0, false⟩]
def c230_r9 : List AOper := [
  ⟨(some 24), .mov (.tmp 5), none, [], 0, 0, false⟩,
  ⟨(some 25), .bin .eql (.tmp 24) (.val (.int .i32 37)), none, [], 0, 0, false⟩,
  ⟨(some 23), .mov (.tmp 25), none, [], 0, 0, false⟩]
def c230_r10 : List AOper := [
  ⟨(some 3), .mov (.val (.int .i64 2)), none, [], 0, 0, false⟩]
def c230_r11 : List AOper := [
  ⟨(some 27), .mov (.tmp 5), none, [], 0, 0, false⟩,
  ⟨(some 28), .call (.val (.func (.func 324) [] [])) [(.tmp 27)], none, [], 0, 0, false⟩,
  ⟨(some 29), .un .not (.tmp 28), none, [], 0, 0, false⟩,
  ⟨(some 26), .mov (.tmp 29), none, [], 0, 0, false⟩]
def c230_r12 : List AOper := [
  ⟨(some 2), .mov (.val (.bool false)), none, [], 0, 0, false⟩]
def c230_l13 : ACode := (.seq (.region c230_r3 false) (.seq (.cond (.tmp 9) .skip (.exit 0)) (.block 1 (.seq (.region c230_r4 false) (.block 2 (.seq (.region c230_r5 false) (.cond (.tmp 11) (.region c230_r6 false) (.seq (.region c230_r7 false) (.cond (.tmp 20) (.seq (.region c230_r8 false) .ret) (.seq (.region c230_r9 false) (.cond (.tmp 23) (.region c230_r10 false) (.seq (.region c230_r11 false) (.cond (.tmp 26) (.seq (.region c230_r12 false) .ret) .skip)))))))))))))
def c230_r14 : List AOper := [
  ⟨(some 30), .mov (.tmp 0), none, [], 0, 0, false⟩,
  ⟨(some 31), .bin .neq (.tmp 30) (.val (.str [])), none, [], 0, 0, false⟩,
  ⟨(some 32), .mov (.tmp 31), none, [], 0, 0, false⟩,
  ⟨(some 33), .mov (.tmp 3), (some (32, true)), [], 0, 0, false⟩,
  ⟨(some 34), .bin .eql (.tmp 33) (.val (.int .i64 0)), (some (32, true)), [], 0, 0, false⟩,
  ⟨(some 35), .pick (.tmp 32) (.tmp 34) (.val (.bool false)), none, [], 0, 0, false⟩,
  ⟨(some 2), .mov (.tmp 35), none, [], 0, 0, false⟩]
def c230 : AFn := ⟨36, [(2, none)],
  (.seq (.region c230_r0 false) (.seq (.region c230_r1 false) (.seq (.seq (.region c230_r2 false) (.block 0 (.loop c230_l13))) (.seq (.region c230_r14 false) .ret))))⟩
theorem F230 : funcsOf Tryz.prog [] 230 = some c230 := by kernel_rfl

def c231_r0 : List AOper := [
  ⟨(some 2), .mov (.val (.bool false)), none, [], 0, 0, false⟩]
def c231_r1 : List AOper := [
  ⟨(some 9), .mov (.tmp 0), none, [], 0, 0, false⟩,
  ⟨(some 10), .call (.val (.func (.func 325) [] [])) [(.tmp 9), (.val (.str [91]))], none, [], 0, 0, false⟩,
  ⟨(some 8), .mov (.tmp 10), none, [], 0, 0, false⟩,
  ⟨(some 11), .extract (.tmp 8) 0, none, [], 0, 0, false⟩,
  ⟨(some 12), .extract (.tmp 8) 1, none, [], 0, 0, false⟩,
  ⟨(some 3), .mov (.tmp 11), none, [], 0, 0, false⟩,
  ⟨(some 4), .mov (.tmp 12), none, [], 0, 0, false⟩]
def c231_r2 : List AOper := [
  ⟨(some 14), .mov (.tmp 3), none, [], 0, 0, false⟩,
  ⟨(some 15), .call (.val (.func (.func 326) [] [])) [(.tmp 14), (.val (.str [93]))], none, [], 0, 0, false⟩,
  ⟨(some 13), .mov (.tmp 15), none, [], 0, 0, false⟩,
  ⟨(some 16), .extract (.tmp 13) 0, none, [], 0, 0, false⟩,
  ⟨(some 17), .extract (.tmp 13) 1, none, [], 0, 0, false⟩,
  ⟨(some 3), .mov (.tmp 16), none, [], 0, 0, false⟩,
  ⟨(some 5), .mov (.tmp 17), none, [], 0, 0, false⟩]
def c231_r3 : List AOper := [
  ⟨(some 18), .mov (.tmp 3), none, [], 0, 0, false⟩,
  ⟨(some 19), .rangeStr (.tmp 18), none, [], 0, 0, false⟩]
def c231_r4 : List AOper := [
  ⟨(some 20), .nextStr (.tmp 19), none, [], 0, 0, false⟩,
  ⟨(some 21), .extract (.tmp 20) 0, none, [], 0, 0, false⟩]
def c231_r5 : List AOper := [
  ⟨(some 22), .extract (.tmp 20) 2, none, [], 0, 0, false⟩,
  ⟨(some 7), .mov (.tmp 22), none, [], 0, 0, false⟩]
def c231_r6 : List AOper := [
  ⟨(some 23), .mov (.tmp 4), none, [], 0, 0, false⟩,
  ⟨(some 24), .mov (.tmp 23), none, [], 0, 0, false⟩,
  ⟨(some 25), .mov (.tmp 7), (some (24, true)), [], 0, 0, false⟩,
  ⟨(some 26), .call (.val (.func (.func 323) [] [])) [(.tmp 25)], (some (24, true)), [], 0, 0, false⟩,
  ⟨(some 27), .mov (.tmp 26), (some (24, true)), [], 0, 0, false⟩,
  ⟨(some 28), .mov (.tmp 7), (some (27, false)), [], 0, 0, false⟩,
  ⟨(some 29), .bin .eql (.tmp 28) (.val (.int .i32 58)), (some (27, false)), [], 0, 0, false⟩,
  ⟨(some 30), .pick (.tmp 27) (.val (.bool true)) (.tmp 29), (some (24, true)), [], 0, 0, false⟩,
  ⟨(some 31), .mov (.tmp 30), (some (24, true)), [], 0, 0, false⟩,
  ⟨(some 32), .mov (.tmp 7), (some (31, false)), [], 0, 0, false⟩,
  ⟨(some 33), .bin .eql (.tmp 32) (.val (.int .i32 46)), (some (31, false)), [], 0, 0, false⟩,
  ⟨(some 34), .pick (.tmp 31) (.val (.bool true)) (.tmp 33), (some (24, true)), [], 0, 0, false⟩,
  ⟨(some 35), .pick (.tmp 24) (.tmp 34) (.val (.bool false)), none, [], 0, 0, false⟩,
  ⟨(some 4), .mov (.tmp 35), none, [], 0, 0, false⟩]
def c231_l7 : ACode := (.seq (.region c231_r4 false) (.seq (.cond (.tmp 21) .skip (.exit 0)) (.block 1 (.seq (.region c231_r5 false) (.region c231_r6 false)))))
def c231_r8 : List AOper := [
  ⟨(some 36), .mov (.tmp 4), none, [], 0, 0, false⟩,
  ⟨(some 37), .mov (.tmp 36), none, [], 0, 0, false⟩,
  ⟨(some 38), .mov (.tmp 5), (some (37, true)), [], 0, 0, false⟩,
  ⟨(some 39), .pick (.tmp 37) (.tmp 38) (.val (.bool false)), none, [], 0, 0, false⟩,
  ⟨(some 40), .mov (.tmp 39), none, [], 0, 0, false⟩,
  ⟨(some 41), .mov (.tmp 3), (some (40, true)), [], 0, 0, false⟩,
  ⟨(some 42), .bin .neq (.tmp 41) (.val (.str [])), (some (40, true)), [], 0, 0, false⟩,
  ⟨(some 43), .pick (.tmp 40) (.tmp 42) (.val (.bool false)), none, [], 0, 0, false⟩,
  ⟨(some 2), .mov (.tmp 43), none, [], 0, 0, false⟩]
def c231 : AFn := ⟨44, [(2, none)],
  (.seq (.region c231_r0 false) (.seq (.region c231_r1 false) (.seq (.region c231_r2 false) (.seq (.seq (.region c231_r3 false) (.block 0 (.loop c231_l7))) (.seq (.region c231_r8 false) .ret)))))⟩
theorem F231 : funcsOf Tryz.prog [] 231 = some c231 := by kernel_rfl

def c234_r0 : List AOper := [
  ⟨(some 2), .mov (.val (.str [])), none, [], 0, 0, false⟩]
def c234_r1 : List AOper := [
  ⟨(some 3), .mov (.tmp 0), none, [], 0, 0, false⟩,
  ⟨(some 4), .bin .lss (.tmp 3) (.val (.int .i64 0)), none, [], 0, 0, false⟩]
def c234_r2 : List AOper := [
  ⟨(some 5), .mov (.tmp 0), none, [], 0, 0, false⟩,
  ⟨(some 6), .call (.val (.func (.func 329) [] [])) [(.tmp 5), (.val (.int .i64 10))], none, [], 0, 0, false⟩,
  ⟨(some 7), .bin .add (.val (.str [45])) (.tmp 6), none, [], 0, 0, false⟩,
  ⟨(some 2), .mov (.tmp 7), none, [], 0, 0, false⟩]
def c234_r3 : List AOper := [
  ⟨(some 8), .mov (.tmp 0), none, [], 0, 0, false⟩,
  ⟨(some 9), .call (.val (.func (.func 329) [] [])) [(.tmp 8), (.val (.int .i64 10))], none, [], 0, 0, false⟩,
  ⟨(some 2), .mov (.tmp 9), none, [], 0, 0, false⟩]
def c234 : AFn := ⟨10, [(2, none)],
  (.seq (.region c234_r0 false) (.seq (.seq (.region c234_r1 false) (.cond (.tmp 4) (.seq (.region c234_r2 false) .ret) .skip)) (.seq (.region c234_r3 false) .ret)))⟩
theorem F234 : funcsOf Tryz.prog [] 234 = some c234 := by kernel_rfl

def c321_r0 : List AOper := [
  ⟨(some 4), .mov (.val (.int .i64 0)), none, [], 0, 0, false⟩]
def c321_r1 : List AOper := [
  ⟨(some 5), .mov (.tmp 0), none, [], 0, 0, false⟩,
  ⟨(some 6), .mov (.tmp 1), none, [], 0, 0, false⟩,
  ⟨(some 7), .call (.val (.func (.func 429) [] [])) [(.tmp 5), (.tmp 6)], none, [], 0, 0, false⟩,
  ⟨(some 4), .mov (.tmp 7), none, [], 0, 0, false⟩]
def c321 : AFn := ⟨8, [(4, none)],
  (.seq (.region c321_r0 false) (.seq (.region c321_r1 false) .ret))⟩
theorem F321 : funcsOf Tryz.prog [] 321 = some c321 := by kernel_rfl

def c322_r0 : List AOper := [
  ⟨(some 4), .mov (.val (.int .i64 0)), none, [], 0, 0, false⟩]
def c322_r1 : List AOper := [
  ⟨(some 5), .mov (.tmp 0), none, [], 0, 0, false⟩,
  ⟨(some 6), .mov (.tmp 1), none, [], 0, 0, false⟩,
  ⟨(some 7), .call (.val (.func (.func 351) [] [])) [(.tmp 5), (.tmp 6)], none, [], 0, 0, false⟩,
  ⟨(some 4), .mov (.tmp 7), none, [], 0, 0, false⟩]
def c322 : AFn := ⟨8, [(4, none)],
  (.seq (.region c322_r0 false) (.seq (.region c322_r1 false) .ret))⟩
theorem F322 : funcsOf Tryz.prog [] 322 = some c322 := by kernel_rfl

def c323_r0 : List AOper := [
  ⟨(some 2), .mov (.val (.bool false)), none, [], 0, 0, false⟩]
def c323_r1 : List AOper := [
  ⟨(some 3), .mov (.tmp 0), none, [], 0, 0, false⟩,
  ⟨(some 4), .bin .geq (.tmp 3) (.val (.int .i32 48)), none, [], 0, 0, false⟩,
  ⟨(some 5), .mov (.tmp 4), none, [], 0, 0, false⟩,
  ⟨(some 6), .mov (.tmp 0), (some (5, true)), [], 0, 0, false⟩,
  ⟨(some 7), .bin .leq (.tmp 6) (.val (.int .i32 57)), (some (5, true)), [], 0, 0, false⟩,
  ⟨(some 8), .pick (.tmp 5) (.tmp 7) (.val (.bool false)), none, [], 0, 0, false⟩,
  ⟨(some 9), .mov (.tmp 8), none, [], 0, 0, false⟩,
  ⟨(some 10), .mov (.tmp 0), (some (9, false)), [], 0, 0, false⟩,
  ⟨(some 11), .bin .geq (.tmp 10) (.val (.int .i32 97)), (some (9, false)), [], 0, 0, false⟩,
  ⟨(some 12), .mov (.tmp 11), (some (9, false)), [], 0, 0, false⟩,
  ⟨(some 13), .mov (.tmp 0), (some (12, true)), [], 0, 0, false⟩,
  ⟨(some 14), .bin .leq (.tmp 13) (.val (.int .i32 102)), (some (12, true)), [], 0, 0, false⟩,
  ⟨(some 15), .pick (.tmp 12) (.tmp 14) (.val (.bool false)), (some (9, false)), [], 0, 0, false⟩,
  ⟨(some 16), .pick (.tmp 9) (.val (.bool true)) (.tmp 15), none, [], 0, 0, false⟩,
  ⟨(some 17), .mov (.tmp 16), none, [], 0, 0, false⟩,
  ⟨(some 18), .mov (.tmp 0), (some (17, false)), [], 0, 0, false⟩,
  ⟨(some 19), .bin .geq (.tmp 18) (.val (.int .i32 65)), (some (17, false)), [], 0, 0, false⟩,
  ⟨(some 20), .mov (.tmp 19), (some (17, false)), [], 0, 0, false⟩,
  ⟨(some 21), .mov (.tmp 0), (some (20, true)), [], 0, 0, false⟩,
  ⟨(some 22), .bin .leq (.tmp 21) (.val (.int .i32 70)), (some (20, true)), [], 0, 0, false⟩,
  ⟨(some 23), .pick (.tmp 20) (.tmp 22) (.val (.bool false)), (some (17, false)), [], 0, 0, false⟩,
  ⟨(some 24), .pick (.tmp 17) (.val (.bool true)) (.tmp 23), none, [], 0, 0, false⟩,
  ⟨(some 2), .mov (.tmp 24), none, [], 0, 0, false⟩]
def c323 : AFn := ⟨25, [(2, none)],
  (.seq (.region c323_r0 false) (.seq (.region c323_r1 false) .ret))⟩
theorem F323 : funcsOf Tryz.prog [] 323 = some c323 := by kernel_rfl

def c324_r0 : List AOper := [
  ⟨(some 2), .mov (.val (.bool false)), none, [], 0, 0, false⟩]
def c324_r1 : List AOper := [
  ⟨(some 3), .mov (.tmp 0), none, [], 0, 0, false⟩,
  ⟨(some 4), .bin .geq (.tmp 3) (.val (.int .i32 97)), none, [], 0, 0, false⟩,
  ⟨(some 5), .mov (.tmp 4), none, [], 0, 0, false⟩,
  ⟨(some 6), .mov (.tmp 0), (some (5, true)), [], 0, 0, false⟩,
  ⟨(some 7), .bin .leq (.tmp 6) (.val (.int .i32 122)), (some (5, true)), [], 0, 0, false⟩,
  ⟨(some 8), .pick (.tmp 5) (.tmp 7) (.val (.bool false)), none, [], 0, 0, false⟩,
  ⟨(some 9), .mov (.tmp 8), none, [], 0, 0, false⟩,
  ⟨(some 10), .mov (.tmp 0), (some (9, false)), [], 0, 0, false⟩,
  ⟨(some 11), .bin .geq (.tmp 10) (.val (.int .i32 65)), (some (9, false)), [], 0, 0, false⟩,
  ⟨(some 12), .mov (.tmp 11), (some (9, false)), [], 0, 0, false⟩,
  ⟨(some 13), .mov (.tmp 0), (some (12, true)), [], 0, 0, false⟩,
  ⟨(some 14), .bin .leq (.tmp 13) (.val (.int .i32 90)), (some (12, true)), [], 0, 0, false⟩,
  ⟨(some 15), .pick (.tmp 12) (.tmp 14) (.val (.bool false)), (some (9, false)), [], 0, 0, false⟩,
  ⟨(some 16), .pick (.tmp 9) (.val (.bool true)) (.tmp 15), none, [], 0, 0, false⟩,
  ⟨(some 17), .mov (.tmp 16), none, [], 0, 0, false⟩,
  ⟨(some 18), .mov (.tmp 0), (some (17, false)), [], 0, 0, false⟩,
  ⟨(some 19), .bin .geq (.tmp 18) (.val (.int .i32 48)), (some (17, false)), [], 0, 0, false⟩,
  ⟨(some 20), .mov (.tmp 19), (some (17, false)), [], 0, 0, false⟩,
  ⟨(some 21), .mov (.tmp 0), (some (20, true)), [], 0, 0, false⟩,
  ⟨(some 22), .bin .leq (.tmp 21) (.val (.int .i32 57)), (some (20, true)), [], 0, 0, false⟩,
  ⟨(some 23), .pick (.tmp 20) (.tmp 22) (.val (.bool false)), (some (17, false)), [], 0, 0, false⟩,
  ⟨(some 24), .pick (.tmp 17) (.val (.bool true)) (.tmp 23), none, [], 0, 0, false⟩,
  ⟨(some 25), .mov (.tmp 24), none, [], 0, 0, false⟩,
  ⟨(some 26), .mov (.tmp 0), (some (25, false)), [], 0, 0, false⟩,
  ⟨(some 27), .convInt .u8 (.tmp 26), (some (25, false)), [], 0, 0, false⟩,
  ⟨(some 28), .call (.val (.func (.func 322) [] [])) [(.val (.str [45, 46, 95, 126, 33, 36, 38, 39, 40, 41, 42, 43, 44, 59, 61])), (.tmp 27)], (some (25, false)), [], 0, 0, false⟩,
  ⟨(some 29), .bin .geq (.tmp 28) (.val (.int .i64 0)), (some (25, false)), [], 0, 0, false⟩,
  ⟨(some 30), .mov (.tmp 29), (some (25, false)), [], 0, 0, false⟩,
  ⟨(some 31), .mov (.tmp 0), (some (30, true)), [], 0, 0, false⟩,
  ⟨(some 32), .bin .lss (.tmp 31) (.val (.int .i32 128)), (some (30, true)), [], 0, 0, false⟩,
  ⟨(some 33), .pick (.tmp 30) (.tmp 32) (.val (.bool false)), (some (25, false)), [], 0, 0, false⟩,
  ⟨(some 34), .pick (.tmp 25) (.val (.bool true)) (.tmp 33), none, [], 0, 0, false⟩,
  ⟨(some 2), .mov (.tmp 34), none, [], 0, 0, false⟩]
def c324 : AFn := ⟨35, [(2, none)],
  (.seq (.region c324_r0 false) (.seq (.region c324_r1 false) .ret))⟩
theorem F324 : funcsOf Tryz.prog [] 324 = some c324 := by kernel_rfl

def c325_r0 : List AOper := [
  ⟨(some 4), .mov (.val (.str [])), none, [], 0, 0, false⟩,
  ⟨(some 5), .mov (.val (.bool false)), none, [], 0, 0, false⟩]
def c325_r1 : List AOper := [
  ⟨(some 6), .mov (.tmp 0), none, [], 0, 0, false⟩,
  ⟨(some 7), .mov (.tmp 1), none, [], 0, 0, false⟩,
  ⟨(some 8), .call (.val (.func (.func 430) [] [])) [(.tmp 6), (.tmp 7)], none, [], 0, 0, false⟩,
  ⟨(some 9), .extract (.tmp 8) 0, none, [], 0, 0, false⟩,
  ⟨(some 10), .extract (.tmp 8) 1, none, [], 0, 0, false⟩,
  ⟨(some 4), .mov (.tmp 9), none, [], 0, 0, false⟩,
  ⟨(some 5), .mov (.tmp 10), none, [], 0, 0, false⟩]
def c325 : AFn := ⟨11, [(4, none), (5, none)],
  (.seq (.region c325_r0 false) (.seq (.region c325_r1 false) .ret))⟩
theorem F325 : funcsOf Tryz.prog [] 325 = some c325 := by kernel_rfl

def c326_r0 : List AOper := [
  ⟨(some 4), .mov (.val (.str [])), none, [], 0, 0, false⟩,
  ⟨(some 5), .mov (.val (.bool false)), none, [], 0, 0, false⟩]
def c326_r1 : List AOper := [
  ⟨(some 6), .mov (.tmp 0), none, [], 0, 0, false⟩,
  ⟨(some 7), .mov (.tmp 1), none, [], 0, 0, false⟩,
  ⟨(some 8), .call (.val (.func (.func 431) [] [])) [(.tmp 6), (.tmp 7)], none, [], 0, 0, false⟩,
  ⟨(some 9), .extract (.tmp 8) 0, none, [], 0, 0, false⟩,
  ⟨(some 10), .extract (.tmp 8) 1, none, [], 0, 0, false⟩,
  ⟨(some 4), .mov (.tmp 9), none, [], 0, 0, false⟩,
  ⟨(some 5), .mov (.tmp 10), none, [], 0, 0, false⟩]
def c326 : AFn := ⟨11, [(4, none), (5, none)],
  (.seq (.region c326_r0 false) (.seq (.region c326_r1 false) .ret))⟩
theorem F326 : funcsOf Tryz.prog [] 326 = some c326 := by kernel_rfl

def c327_r0 : List AOper := [
  ⟨(some 6), .mov (.val (.int .i64 0)), none, [], 0, 0, false⟩,
  ⟨(some 7), .mov (.val (.int .i64 0)), none, [], 0, 0, false⟩]
def c327_r1 : List AOper := [
  ⟨(some 13), .mov (.tmp 0), none, [], 0, 0, false⟩,
  ⟨(some 14), .bin .eql (.tmp 13) (.val (.str [])), none, [], 0, 0, false⟩]
def c327_r2 : List AOper := [
  ⟨(some 6), .mov (.val (.int .i64 0)), none, [], 0, 0, false⟩,
  ⟨(some 7), .mov (.val (.int .i64 2)), none, [], 0, 0, false⟩]
def c327_r3 : List AOper := [
  ⟨(some 8), .mov (.val (.int .i64 0)), none, [], 0, 0, false⟩,
  ⟨(some 9), .mov (.val (.bool false)), none, [], 0, 0, false⟩]
def c327_r4 : List AOper := [
  ⟨(some 15), .mov (.tmp 0), none, [], 0, 0, false⟩,
  ⟨(some 16), .rangeStr (.tmp 15), none, [], 0, 0, false⟩]
def c327_r5 : List AOper := [
  ⟨(some 17), .nextStr (.tmp 16), none, [], 0, 0, false⟩,
  ⟨(some 18), .extract (.tmp 17) 0, none, [], 0, 0, false⟩]
def c327_r6 : List AOper := [
  ⟨(some 19), .extract (.tmp 17) 2, none, [], 0, 0, false⟩,
  ⟨(some 11), .mov (.tmp 19), none, [], 0, 0, false⟩]
def c327_r7 : List AOper := [
  ⟨(some 20), .mov (.tmp 11), none, [], 0, 0, false⟩,
  ⟨(some 21), .call (.val (.func (.func 432) [] [])) [(.tmp 20)], none, [], 0, 0, false⟩,
  ⟨(some 12), .mov (.tmp 21), none, [], 0, 0, false⟩]
def c327_r8 : List AOper := [
  ⟨(some 22), .mov (.tmp 12), none, [], 0, 0, false⟩,
  ⟨(some 23), .bin .lss (.tmp 22) (.val (.int .i64 0)), none, [], 0, 0, false⟩,
  ⟨(some 24), .mov (.tmp 23), none, [], 0, 0, false⟩,
  ⟨(some 25), .mov (.tmp 12), (some (24, false)), [], 0, 0, false⟩,
  ⟨(some 26), .mov (.tmp 1), (some (24, false)), [], 0, 0, false⟩,
  ⟨(some 27), .bin .geq (.tmp 25) (.tmp 26), (some (24, false)), [], 0, 0, false⟩,
  ⟨(some 28), .pick (.tmp 24) (.val (.bool true)) (.tmp 27), none, [], 0, 0, false⟩]
def c327_r9 : List AOper := [
  ⟨(some 6), .mov (.val (.int .i64 0)), none, [], 0, 0, false⟩,
  ⟨(some 7), .mov (.val (.int .i64 3)), none, [], 0, 0, false⟩]
def c327_r10 : List AOper := [
  ⟨(some 29), .mov (.tmp 9), none, [], 0, 0, false⟩,
  ⟨(some 30), .mov (.tmp 29), none, [], 0, 0, false⟩,
  ⟨(some 31), .mov (.tmp 12), (some (30, false)), [], 0, 0, false⟩,
  ⟨(some 32), .mov (.tmp 2), (some (30, false)), [], 0, 0, false⟩,
  ⟨(some 33), .bin .gtr (.tmp 31) (.tmp 32), (some (30, false)), [], 0, 0, false⟩,
  ⟨(some 34), .pick (.tmp 30) (.val (.bool true)) (.tmp 33), none, [], 0, 0, false⟩,
  ⟨(some 35), .mov (.tmp 34), none, [], 0, 0, false⟩,
  ⟨(some 36), .mov (.tmp 8), (some (35, false)), [], 0, 0, false⟩,
  ⟨(some 37), .mov (.tmp 2), (some (35, false)), [], 0, 0, false⟩,
  ⟨(some 38), .mov (.tmp 12), (some (35, false)), [], 0, 0, false⟩,
  ⟨(some 39), .bin .sub (.tmp 37) (.tmp 38), (some (35, false)), [], 0, 0, false⟩,
  ⟨(some 40), .mov (.tmp 1), (some (35, false)), [], 0, 0, false⟩,
  ⟨(some 41), .bin .quo (.tmp 39) (.tmp 40), (some (35, false)), [], 0, 0, false⟩,
  ⟨(some 42), .bin .gtr (.tmp 36) (.tmp 41), (some (35, false)), [], 0, 0, false⟩,
  ⟨(some 43), .pick (.tmp 35) (.val (.bool true)) (.tmp 42), none, [], 0, 0, false⟩,
  ⟨(some 9), .mov (.tmp 43), none, [], 0, 0, false⟩]
def c327_r11 : List AOper := [
  ⟨(some 44), .mov (.tmp 9), none, [], 0, 0, false⟩,
  ⟨(some 45), .un .not (.tmp 44), none, [], 0, 0, false⟩]
def c327_r12 : List AOper := [
  ⟨(some 46), .mov (.tmp 8), none, [], 0, 0, false⟩,
  ⟨(some 47), .mov (.tmp 1), none, [], 0, 0, false⟩,
  ⟨(some 48), .bin .mul (.tmp 46) (.tmp 47), none, [], 0, 0, false⟩,
  ⟨(some 49), .mov (.tmp 12), none, [], 0, 0, false⟩,
  ⟨(some 50), .bin .add (.tmp 48) (.tmp 49), none, [], 0, 0, false⟩,
  ⟨(some 8), .mov (.tmp 50), none, [], 0, 0, false⟩]
def c327_l13 : ACode := (.seq (.region c327_r5 false) (.seq (.cond (.tmp 18) .skip (.exit 0)) (.block 1 (.seq (.region c327_r6 false) (.seq (.region c327_r7 false) (.seq (.seq (.region c327_r8 false) (.cond (.tmp 28) (.seq (.region c327_r9 false) .ret) .skip)) (.seq (.region c327_r10 false) (.seq (.region c327_r11 false) (.cond (.tmp 45) (.region c327_r12 false) .skip)))))))))
def c327_r14 : List AOper := [
  ⟨(some 51), .mov (.tmp 9), none, [], 0, 0, false⟩]
def c327_r15 : List AOper := [
  ⟨(some 6), .mov (.val (.int .i64 0)), none, [], 0, 0, false⟩,
  ⟨(some 7), .mov (.val (.int .i64 5)), none, [], 0, 0, false⟩]
def c327_r16 : List AOper := [
  ⟨(some 52), .mov (.tmp 8), none, [], 0, 0, false⟩,
  ⟨(some 6), .mov (.tmp 52), none, [], 0, 0, false⟩,
  ⟨(some 7), .mov (.val (.int .i64 0)), none, [], 0, 0, false⟩]
def c327 : AFn := ⟨53, [(6, none), (7, none)],
  (.seq (.region c327_r0 false) (.seq (.seq (.region c327_r1 false) (.cond (.tmp 14) (.seq (.region c327_r2 false) .ret) .skip)) (.seq (.region c327_r3 false) (.seq (.seq (.region c327_r4 false) (.block 0 (.loop c327_l13))) (.seq (.seq (.region c327_r14 false) (.cond (.tmp 51) (.seq (.region c327_r15 false) .ret) .skip)) (.seq (.region c327_r16 false) .ret))))))⟩
theorem F327 : funcsOf Tryz.prog [] 327 = some c327 := by kernel_rfl

def c329_r0 : List AOper := [
  ⟨(some 4), .mov (.val (.str [])), none, [], 0, 0, false⟩]
def c329_r1 : List AOper := [
  ⟨(some 5), .alloc [(.int .u8 0), (.int .u8 0), (.int .u8 0), (.int .u8 0), (.int .u8 0), (.int .u8 0), (.int .u8 0), (.int .u8 0), (.int .u8 0), (.int .u8 0), (.int .u8 0), (.int .u8 0), (.int .u8 0), (.int .u8 0), (.int .u8 0), (.int .u8 0), (.int .u8 0), (.int .u8 0), (.int .u8 0), (.int .u8 0), (.int .u8 0), (.int .u8 0), (.int .u8 0), (.int .u8 0), (.int .u8 0), (.int .u8 0), (.int .u8 0), (.int .u8 0), (.int .u8 0), (.int .u8 0), (.int .u8 0), (.int .u8 0), (.int .u8 0), (.int .u8 0), (.int .u8 0), (.int .u8 0), (.int .u8 0), (.int .u8 0), (.int .u8 0), (.int .u8 0), (.int .u8 0), (.int .u8 0), (.int .u8 0), (.int .u8 0), (.int .u8 0), (.int .u8 0), (.int .u8 0), (.int .u8 0), (.int .u8 0), (.int .u8 0), (.int .u8 0), (.int .u8 0), (.int .u8 0), (.int .u8 0), (.int .u8 0), (.int .u8 0), (.int .u8 0), (.int .u8 0), (.int .u8 0), (.int .u8 0), (.int .u8 0), (.int .u8 0), (.int .u8 0), (.int .u8 0)] 460, none, [], 0, 0, false⟩]
def c329_r2 : List AOper := [
  ⟨(some 6), .mov (.val (.int .i64 64)), none, [], 0, 0, false⟩]
def c329_r3 : List AOper := [
  ⟨(some 8), .mov (.tmp 6), none, [], 0, 0, false⟩,
  ⟨(some 9), .bin .eql (.tmp 8) (.val (.int .i64 64)), none, [], 0, 0, false⟩,
  ⟨(some 10), .mov (.tmp 9), none, [], 0, 0, false⟩,
  ⟨(some 11), .mov (.tmp 0), (some (10, false)), [], 0, 0, false⟩,
  ⟨(some 12), .bin .neq (.tmp 11) (.val (.int .i64 0)), (some (10, false)), [], 0, 0, false⟩,
  ⟨(some 13), .pick (.tmp 10) (.val (.bool true)) (.tmp 12), none, [], 0, 0, false⟩]
def c329_r4 : List AOper := [
  ⟨(some 14), .mov (.tmp 6), none, [], 0, 0, false⟩,
  ⟨(some 15), .bin .sub (.tmp 14) (.val (.int .i64 1)), none, [], 0, 0, false⟩,
  ⟨(some 6), .mov (.tmp 15), none, [], 0, 0, false⟩]
def c329_r5 : List AOper := [
  ⟨(some 16), .mov (.tmp 0), none, [], 0, 0, false⟩,
  ⟨(some 17), .mov (.tmp 1), none, [], 0, 0, false⟩,
  ⟨(some 18), .bin .rem (.tmp 16) (.tmp 17), none, [], 0, 0, false⟩,
  ⟨(some 7), .mov (.tmp 18), none, [], 0, 0, false⟩]
def c329_r6 : List AOper := [
  ⟨(some 19), .mov (.tmp 6), none, [], 0, 0, false⟩,
  ⟨(some 20), .mov (.tmp 7), none, [], 0, 0, false⟩,
  ⟨(some 21), .mov (.tmp 7), none, [], 0, 0, false⟩,
  ⟨(some 22), .un .neg (.tmp 21), none, [], 0, 0, false⟩,
  ⟨(some 23), .minmax true [(.tmp 20), (.tmp 22)], none, [], 0, 0, false⟩,
  ⟨(some 24), .idxStr (.val (.str [48, 49, 50, 51, 52, 53, 54, 55, 56, 57, 97, 98, 99, 100, 101, 102])) (.tmp 23), none, [], 0, 0, false⟩,
  ⟨(some 25), .idxAddrArr 64 1 (.tmp 5) (.tmp 19), none, [], 0, 0, false⟩,
  ⟨none, .store 1 (.tmp 25) (.tmp 24), none, [], 0, 0, false⟩]
def c329_r7 : List AOper := [
  ⟨(some 26), .mov (.tmp 0), none, [], 0, 0, false⟩,
  ⟨(some 27), .mov (.tmp 1), none, [], 0, 0, false⟩,
  ⟨(some 28), .bin .quo (.tmp 26) (.tmp 27), none, [], 0, 0, false⟩,
  ⟨(some 0), .mov (.tmp 28), none, [], 0, 0, false⟩]
def c329_l8 : ACode := (.seq (.seq (.region c329_r3 false) (.cond (.tmp 13) .skip (.exit 0))) (.block 1 (.seq (.region c329_r4 false) (.seq (.region c329_r5 false) (.seq (.region c329_r6 false) (.region c329_r7 false))))))
def c329_r9 : List AOper := [
  ⟨(some 29), .mov (.tmp 6), none, [], 0, 0, false⟩,
  ⟨(some 30), .sliceArr 64 1 (.tmp 5) (some (.tmp 29)) none none, none, [], 0, 0, false⟩,
  ⟨(some 31), .ofBytes (.tmp 30), none, [], 0, 0, false⟩,
  ⟨(some 4), .mov (.tmp 31), none, [], 0, 0, false⟩]
def c329 : AFn := ⟨32, [(4, none)],
  (.seq (.region c329_r0 false) (.seq (.region c329_r1 false) (.seq (.region c329_r2 false) (.seq (.block 0 (.loop c329_l8)) (.seq (.region c329_r9 false) .ret)))))⟩
theorem F329 : funcsOf Tryz.prog [] 329 = some c329 := by kernel_rfl

def c418_r0 : List AOper := [
  ⟨(some 4), .mov (.val (.bool false)), none, [], 0, 0, false⟩]
def c418_r1 : List AOper := [
  ⟨(some 5), .mov (.tmp 0), none, [], 0, 0, false⟩,
  ⟨(some 6), .lenStr (.tmp 5), none, [], 0, 0, false⟩,
  ⟨(some 7), .mov (.tmp 1), none, [], 0, 0, false⟩,
  ⟨(some 8), .lenStr (.tmp 7), none, [], 0, 0, false⟩,
  ⟨(some 9), .bin .geq (.tmp 6) (.tmp 8), none, [], 0, 0, false⟩,
  ⟨(some 10), .mov (.tmp 9), none, [], 0, 0, false⟩,
  ⟨(some 11), .mov (.tmp 0), (some (10, true)), [], 0, 0, false⟩,
  ⟨(some 12), .mov (.tmp 1), (some (10, true)), [], 0, 0, false⟩,
  ⟨(some 13), .lenStr (.tmp 12), (some (10, true)), [], 0, 0, false⟩,
  ⟨(some 14), .sliceStr (.tmp 11) none (some (.tmp 13)), (some (10, true)), [], 0, 0, false⟩,
  ⟨(some 15), .mov (.tmp 1), (some (10, true)), [], 0, 0, false⟩,
  ⟨(some 16), .bin .eql (.tmp 14) (.tmp 15), (some (10, true)), [], 0, 0, false⟩,
  ⟨(some 17), .pick (.tmp 10) (.tmp 16) (.val (.bool false)), none, [], 0, 0, false⟩,
  ⟨(some 4), .mov (.tmp 17), none, [], 0, 0, false⟩]
def c418 : AFn := ⟨18, [(4, none)],
  (.seq (.region c418_r0 false) (.seq (.region c418_r1 false) .ret))⟩
theorem F418 : funcsOf Tryz.prog [] 418 = some c418 := by kernel_rfl

def c429_r0 : List AOper := [
  ⟨(some 4), .mov (.val (.int .i64 0)), none, [], 0, 0, false⟩]
def c429_r1 : List AOper := [
  ⟨(some 6), .mov (.tmp 0), none, [], 0, 0, false⟩,
  ⟨(some 7), .lenStr (.tmp 6), none, [], 0, 0, false⟩,
  ⟨(some 8), .bin .sub (.tmp 7) (.val (.int .i64 1)), none, [], 0, 0, false⟩,
  ⟨(some 5), .mov (.tmp 8), none, [], 0, 0, false⟩]
def c429_r2 : List AOper := [
  ⟨(some 9), .mov (.tmp 5), none, [], 0, 0, false⟩,
  ⟨(some 10), .bin .geq (.tmp 9) (.val (.int .i64 0)), none, [], 0, 0, false⟩]
def c429_r3 : List AOper := [
  ⟨(some 13), .mov (.tmp 0), none, [], 0, 0, false⟩,
  ⟨(some 14), .mov (.tmp 5), none, [], 0, 0, false⟩,
  ⟨(some 15), .idxStr (.tmp 13) (.tmp 14), none, [], 0, 0, false⟩,
  ⟨(some 16), .mov (.tmp 1), none, [], 0, 0, false⟩,
  ⟨(some 17), .bin .eql (.tmp 15) (.tmp 16), none, [], 0, 0, false⟩]
def c429_r4 : List AOper := [
  ⟨(some 18), .mov (.tmp 5), none, [], 0, 0, false⟩,
  ⟨(some 4), .mov (.tmp 18), none, [], 0, 0, false⟩]
def c429_r5 : List AOper := [
  ⟨(some 11), .mov (.tmp 5), none, [], 0, 0, false⟩,
  ⟨(some 12), .bin .sub (.tmp 11) (.val (.int .i64 1)), none, [], 0, 0, false⟩,
  ⟨(some 5), .mov (.tmp 12), none, [], 0, 0, false⟩]
def c429_l6 : ACode := (.seq (.seq (.region c429_r2 false) (.cond (.tmp 10) .skip (.exit 0))) (.seq (.block 1 (.seq (.region c429_r3 false) (.cond (.tmp 17) (.seq (.region c429_r4 false) .ret) .skip))) (.region c429_r5 false)))
def c429_r7 : List AOper := [
  ⟨(some 4), .mov (.val (.int .i64 (-1))), none, [], 0, 0, false⟩]
def c429 : AFn := ⟨19, [(4, none)],
  (.seq (.region c429_r0 false) (.seq (.seq (.region c429_r1 false) (.block 0 (.loop c429_l6))) (.seq (.region c429_r7 false) .ret)))⟩
theorem F429 : funcsOf Tryz.prog [] 429 = some c429 := by kernel_rfl

def c430_r0 : List AOper := [
  ⟨(some 4), .mov (.val (.str [])), none, [], 0, 0, false⟩,
  ⟨(some 5), .mov (.val (.bool false)), none, [], 0, 0, false⟩]
def c430_r1 : List AOper := [
  ⟨(some 6), .mov (.tmp 0), none, [], 0, 0, false⟩,
  ⟨(some 7), .mov (.tmp 1), none, [], 0, 0, false⟩,
  ⟨(some 8), .call (.val (.func (.func 418) [] [])) [(.tmp 6), (.tmp 7)], none, [], 0, 0, false⟩,
  ⟨(some 9), .un .not (.tmp 8), none, [], 0, 0, false⟩]
def c430_r2 : List AOper := [
  ⟨(some 10), .mov (.tmp 0), none, [], 0, 0, false⟩,
  ⟨(some 4), .mov (.tmp 10), none, [], 0, 0, false⟩,
  ⟨(some 5), .mov (.val (.bool false)), none, [], 0, 0, false⟩]
def c430_r3 : List AOper := [
  ⟨(some 11), .mov (.tmp 0), none, [], 0, 0, false⟩,
  ⟨(some 12), .mov (.tmp 1), none, [], 0, 0, false⟩,
  ⟨(some 13), .lenStr (.tmp 12), none, [], 0, 0, false⟩,
  ⟨(some 14), .sliceStr (.tmp 11) (some (.tmp 13)) none, none, [], 0, 0, false⟩,
  ⟨(some 4), .mov (.tmp 14), none, [], 0, 0, false⟩,
  ⟨(some 5), .mov (.val (.bool true)), none, [], 0, 0, false⟩]
def c430 : AFn := ⟨15, [(4, none), (5, none)],
  (.seq (.region c430_r0 false) (.seq (.seq (.region c430_r1 false) (.cond (.tmp 9) (.seq (.region c430_r2 false) .ret) .skip)) (.seq (.region c430_r3 false) .ret)))⟩
theorem F430 : funcsOf Tryz.prog [] 430 = some c430 := by kernel_rfl

def c431_r0 : List AOper := [
  ⟨(some 4), .mov (.val (.str [])), none, [], 0, 0, false⟩,
  ⟨(some 5), .mov (.val (.bool false)), none, [], 0, 0, false⟩]
def c431_r1 : List AOper := [
  ⟨(some 6), .mov (.tmp 0), none, [], 0, 0, false⟩,
  ⟨(some 7), .mov (.tmp 1), none, [], 0, 0, false⟩,
  ⟨(some 8), .call (.val (.func (.func 487) [] [])) [(.tmp 6), (.tmp 7)], none, [], 0, 0, false⟩,
  ⟨(some 9), .un .not (.tmp 8), none, [], 0, 0, false⟩]
def c431_r2 : List AOper := [
  ⟨(some 10), .mov (.tmp 0), none, [], 0, 0, false⟩,
  ⟨(some 4), .mov (.tmp 10), none, [], 0, 0, false⟩,
  ⟨(some 5), .mov (.val (.bool false)), none, [], 0, 0, false⟩]
def c431_r3 : List AOper := [
  ⟨(some 11), .mov (.tmp 0), none, [], 0, 0, false⟩,
  ⟨(some 12), .mov (.tmp 0), none, [], 0, 0, false⟩,
  ⟨(some 13), .lenStr (.tmp 12), none, [], 0, 0, false⟩,
  ⟨(some 14), .mov (.tmp 1), none, [], 0, 0, false⟩,
  ⟨(some 15), .lenStr (.tmp 14), none, [], 0, 0, false⟩,
  ⟨(some 16), .bin .sub (.tmp 13) (.tmp 15), none, [], 0, 0, false⟩,
  ⟨(some 17), .sliceStr (.tmp 11) none (some (.tmp 16)), none, [], 0, 0, false⟩,
  ⟨(some 4), .mov (.tmp 17), none, [], 0, 0, false⟩,
  ⟨(some 5), .mov (.val (.bool true)), none, [], 0, 0, false⟩]
def c431 : AFn := ⟨18, [(4, none), (5, none)],
  (.seq (.region c431_r0 false) (.seq (.seq (.region c431_r1 false) (.cond (.tmp 9) (.seq (.region c431_r2 false) .ret) .skip)) (.seq (.region c431_r3 false) .ret)))⟩
theorem F431 : funcsOf Tryz.prog [] 431 = some c431 := by kernel_rfl

def c432_r0 : List AOper := [
  ⟨(some 2), .mov (.val (.int .i64 0)), none, [], 0, 0, false⟩]
def c432_r1 : List AOper := [
  ⟨(some 4), .mov (.tmp 0), none, [], 0, 0, false⟩,
  ⟨(some 5), .bin .geq (.tmp 4) (.val (.int .i32 48)), none, [], 0, 0, false⟩,
  ⟨(some 6), .mov (.tmp 5), none, [], 0, 0, false⟩,
  ⟨(some 7), .mov (.tmp 0), (some (6, true)), [], 0, 0, false⟩,
  ⟨(some 8), .bin .leq (.tmp 7) (.val (.int .i32 57)), (some (6, true)), [], 0, 0, false⟩,
  ⟨(some 9), .pick (.tmp 6) (.tmp 8) (.val (.bool false)), none, [], 0, 0, false⟩,
  ⟨(some 3), .mov (.tmp 9), none, [], 0, 0, false⟩]
def c432_r2 : List AOper := [
  ⟨(some 10), .mov (.tmp 0), none, [], 0, 0, false⟩,
  ⟨(some 11), .bin .sub (.tmp 10) (.val (.int .i32 48)), none, [], 0, 0, false⟩,
  ⟨(some 12), .convInt .i64 (.tmp 11), none, [], 0, 0, false⟩,
  ⟨(some 2), .mov (.tmp 12), none, [], 0, 0, false⟩]
def c432_r3 : List AOper := [
  ⟨(some 14), .mov (.tmp 0), none, [], 0, 0, false⟩,
  ⟨(some 15), .bin .geq (.tmp 14) (.val (.int .i32 97)), none, [], 0, 0, false⟩,
  ⟨(some 16), .mov (.tmp 15), none, [], 0, 0, false⟩,
  ⟨(some 17), .mov (.tmp 0), (some (16, true)), [], 0, 0, false⟩,
  ⟨(some 18), .bin .leq (.tmp 17) (.val (.int .i32 102)), (some (16, true)), [], 0, 0, false⟩,
  ⟨(some 19), .pick (.tmp 16) (.tmp 18) (.val (.bool false)), none, [], 0, 0, false⟩,
  ⟨(some 13), .mov (.tmp 19), none, [], 0, 0, false⟩]
def c432_r4 : List AOper := [
  ⟨(some 20), .mov (.tmp 0), none, [], 0, 0, false⟩,
  ⟨(some 21), .bin .sub (.tmp 20) (.val (.int .i32 97)), none, [], 0, 0, false⟩,
  ⟨(some 22), .convInt .i64 (.tmp 21), none, [], 0, 0, false⟩,
  ⟨(some 23), .bin .add (.tmp 22) (.val (.int .i64 10)), none, [], 0, 0, false⟩,
  ⟨(some 2), .mov (.tmp 23), none, [], 0, 0, false⟩]
def c432_r5 : List AOper := [
  ⟨(some 25), .mov (.tmp 0), none, [], 0, 0, false⟩,
  ⟨(some 26), .bin .geq (.tmp 25) (.val (.int .i32 65)), none, [], 0, 0, false⟩,
  ⟨(some 27), .mov (.tmp 26), none, [], 0, 0, false⟩,
  ⟨(some 28), .mov (.tmp 0), (some (27, true)), [], 0, 0, false⟩,
  ⟨(some 29), .bin .leq (.tmp 28) (.val (.int .i32 70)), (some (27, true)), [], 0, 0, false⟩,
  ⟨(some 30), .pick (.tmp 27) (.tmp 29) (.val (.bool false)), none, [], 0, 0, false⟩,
  ⟨(some 24), .mov (.tmp 30), none, [], 0, 0, false⟩]
def c432_r6 : List AOper := [
  ⟨(some 31), .mov (.tmp 0), none, [], 0, 0, false⟩,
  ⟨(some 32), .bin .sub (.tmp 31) (.val (.int .i32 65)), none, [], 0, 0, false⟩,
  ⟨(some 33), .convInt .i64 (.tmp 32), none, [], 0, 0, false⟩,
  ⟨(some 34), .bin .add (.tmp 33) (.val (.int .i64 10)), none, [], 0, 0, false⟩,
  ⟨(some 2), .mov (.tmp 34), none, [], 0, 0, false⟩]
def c432_r7 : List AOper := [
  ⟨(some 2), .mov (.val (.int .i64 (-1))), none, [], 0, 0, false⟩]
def c432 : AFn := ⟨35, [(2, none)],
  (.seq (.region c432_r0 false) (.seq (.block 0 (.seq (.region c432_r1 false) (.cond (.tmp 3) (.seq (.region c432_r2 false) .ret) (.seq (.region c432_r3 false) (.cond (.tmp 13) (.seq (.region c432_r4 false) .ret) (.seq (.region c432_r5 false) (.cond (.tmp 24) (.seq (.region c432_r6 false) .ret) .skip))))))) (.seq (.region c432_r7 false) .ret)))⟩
theorem F432 : funcsOf Tryz.prog [] 432 = some c432 := by kernel_rfl

def c487_r0 : List AOper := [
  ⟨(some 4), .mov (.val (.bool false)), none, [], 0, 0, false⟩]
def c487_r1 : List AOper := [
  ⟨(some 5), .mov (.tmp 0), none, [], 0, 0, false⟩,
  ⟨(some 6), .lenStr (.tmp 5), none, [], 0, 0, false⟩,
  ⟨(some 7), .mov (.tmp 1), none, [], 0, 0, false⟩,
  ⟨(some 8), .lenStr (.tmp 7), none, [], 0, 0, false⟩,
  ⟨(some 9), .bin .geq (.tmp 6) (.tmp 8), none, [], 0, 0, false⟩,
  ⟨(some 10), .mov (.tmp 9), none, [], 0, 0, false⟩,
  ⟨(some 11), .mov (.tmp 0), (some (10, true)), [], 0, 0, false⟩,
  ⟨(some 12), .mov (.tmp 0), (some (10, true)), [], 0, 0, false⟩,
  ⟨(some 13), .lenStr (.tmp 12), (some (10, true)), [], 0, 0, false⟩,
  ⟨(some 14), .mov (.tmp 1), (some (10, true)), [], 0, 0, false⟩,
  ⟨(some 15), .lenStr (.tmp 14), (some (10, true)), [], 0, 0, false⟩,
  ⟨(some 16), .bin .sub (.tmp 13) (.tmp 15), (some (10, true)), [], 0, 0, false⟩,
  ⟨(some 17), .sliceStr (.tmp 11) (some (.tmp 16)) none, (some (10, true)), [], 0, 0, false⟩,
  ⟨(some 18), .mov (.tmp 1), (some (10, true)), [], 0, 0, false⟩,
  ⟨(some 19), .bin .eql (.tmp 17) (.tmp 18), (some (10, true)), [], 0, 0, false⟩,
  ⟨(some 20), .pick (.tmp 10) (.tmp 19) (.val (.bool false)), none, [], 0, 0, false⟩,
  ⟨(some 4), .mov (.tmp 20), none, [], 0, 0, false⟩]
def c487 : AFn := ⟨21, [(4, none)],
  (.seq (.region c487_r0 false) (.seq (.region c487_r1 false) .ret))⟩
theorem F487 : funcsOf Tryz.prog [] 487 = some c487 := by kernel_rfl

end Go.Proofs.YtjihmonajekomaaGreatDoor.Ax
