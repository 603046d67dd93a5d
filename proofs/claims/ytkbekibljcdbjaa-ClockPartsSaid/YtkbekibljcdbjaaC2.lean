/- The compiled text of some functions (printed by wip/tools/AxPrint.lean), and that it is what the compiler gives. Conditions: none. -/
import Derived.Test.YtkbekibljcdbjaaAx22
import Derived.Test.YtkbekibljcdbjaaProg
namespace Go.Proofs.Ytkbekibljcdbjaa.Ax
open Go
def c7_r0 : List AOper := [
  ⟨(some 4), .mov (.val (.bool false)), none, [], 0, 0, false⟩]
def c7_r1 : List AOper := [
  ⟨(some 15), .mov (.tmp 0), none, [], 0, 0, false⟩,
  ⟨(some 16), .call (.val (.func (.func 33) [] [])) [(.tmp 15)], none, [], 0, 0, false⟩,
  ⟨(some 5), .mov (.tmp 16), none, [], 0, 0, false⟩]
def c7_r2 : List AOper := [
  ⟨(some 17), .mov (.tmp 0), none, [], 0, 0, false⟩,
  ⟨(some 18), .bin .lss (.tmp 17) (.val (.int .i64 (-281474976710656))), none, [], 0, 0, false⟩,
  ⟨(some 19), .mov (.tmp 18), none, [], 0, 0, false⟩,
  ⟨(some 20), .mov (.tmp 0), (some (19, false)), [], 0, 0, false⟩,
  ⟨(some 21), .bin .gtr (.tmp 20) (.val (.int .i64 281474976710656)), (some (19, false)), [], 0, 0, false⟩,
  ⟨(some 22), .pick (.tmp 19) (.val (.bool true)) (.tmp 21), none, [], 0, 0, false⟩,
  ⟨(some 23), .mov (.tmp 22), none, [], 0, 0, false⟩,
  ⟨(some 24), .mov (.tmp 1), (some (23, false)), [], 0, 0, false⟩,
  ⟨(some 25), .lenSlice (.tmp 24), (some (23, false)), [], 0, 0, false⟩,
  ⟨(some 26), .bin .gtr (.tmp 25) (.val (.int .i64 100)), (some (23, false)), [], 0, 0, false⟩,
  ⟨(some 27), .pick (.tmp 23) (.val (.bool true)) (.tmp 26), none, [], 0, 0, false⟩]
def c7_r3 : List AOper := [
  ⟨(some 28), .mov (.tmp 5), none, [], 0, 0, false⟩,
  ⟨(some 29), .eq false .ptr (.tmp 28) (.val (.ptr none)), none, [], 0, 0, false⟩,
  ⟨(some 30), .mov (.tmp 0), none, [], 0, 0, false⟩,
  ⟨(some 31), .bin .lss (.tmp 30) (.val (.int .i64 (-281474976710656))), none, [], 0, 0, false⟩,
  ⟨(some 32), .mov (.tmp 31), none, [], 0, 0, false⟩,
  ⟨(some 33), .mov (.tmp 0), (some (32, false)), [], 0, 0, false⟩,
  ⟨(some 34), .bin .gtr (.tmp 33) (.val (.int .i64 281474976710656)), (some (32, false)), [], 0, 0, false⟩,
  ⟨(some 35), .pick (.tmp 32) (.val (.bool true)) (.tmp 34), none, [], 0, 0, false⟩,
  ⟨(some 36), .eq false .bool (.tmp 29) (.tmp 35), none, [], 0, 0, false⟩,
  ⟨(some 37), .mov (.tmp 36), none, [], 0, 0, false⟩,
  ⟨(some 38), .call (.val (.func (.func 34) [] [])) [], (some (37, true)), [], 0, 0, false⟩,
  ⟨(some 39), .pick (.tmp 37) (.tmp 38) (.val (.bool false)), none, [], 0, 0, false⟩,
  ⟨(some 4), .mov (.tmp 39), none, [], 0, 0, false⟩]
def c7_r4 : List AOper := [
  ⟨(some 40), .mov (.tmp 5), none, [], 0, 0, false⟩,
  ⟨(some 41), .eq false .ptr (.tmp 40) (.val (.ptr none)), none, [], 0, 0, false⟩]
def c7_r5 : List AOper := [
  ⟨(some 4), .mov (.val (.bool false)), none, [], 0, 0, false⟩]
def c7_r6 : List AOper := [
  ⟨(some 42), .buildSlice [(.int .i64 0), (.int .i64 0)] 75 0 [], none, [], 0, 0, false⟩,
  ⟨(some 6), .mov (.tmp 42), none, [], 0, 0, false⟩]
def c7_r7 : List AOper := [
  ⟨(some 43), .mov (.tmp 1), none, [], 0, 0, false⟩,
  ⟨(some 44), .lenSlice (.tmp 43), none, [], 0, 0, false⟩,
  ⟨(some 45), .mov (.val (.int .i64 0)), none, [], 0, 0, false⟩]
def c7_r8 : List AOper := [
  ⟨(some 46), .bin .lss (.tmp 45) (.tmp 44), none, [], 0, 0, false⟩]
def c7_r9 : List AOper := [
  ⟨(some 47), .idxAddr 3 (.tmp 43) (.tmp 45), none, [], 0, 0, false⟩,
  ⟨(some 48), .load (some 3) (.tmp 47), none, [], 0, 0, false⟩,
  ⟨(some 8), .alloc [(.int .i64 0), (.int .i64 0), (.int .i64 0)] 72, none, [], 0, 0, false⟩,
  ⟨none, .store 3 (.tmp 8) (.tmp 48), none, [], 0, 0, false⟩]
def c7_r10 : List AOper := [
  ⟨(some 49), .fieldAddr 0 (.tmp 8), none, [], 0, 0, false⟩,
  ⟨(some 50), .load none (.tmp 49), none, [], 0, 0, false⟩]
def c7_r11 : List AOper := [
  ⟨(some 71), .bin .eql (.tmp 50) (.val (.int .i64 1)), none, [], 0, 0, false⟩,
  ⟨(some 70), .mov (.tmp 71), none, [], 0, 0, false⟩]
def c7_r12 : List AOper := [
  ⟨(some 72), .mov (.tmp 5), none, [], 0, 0, false⟩,
  ⟨(some 73), .fieldAddr 1 (.tmp 8), none, [], 0, 0, false⟩,
  ⟨(some 74), .load none (.tmp 73), none, [], 0, 0, false⟩,
  ⟨(some 75), .fieldAddr 2 (.tmp 8), none, [], 0, 0, false⟩,
  ⟨(some 76), .load none (.tmp 75), none, [], 0, 0, false⟩,
  ⟨(some 77), .call (.val (.func (.func 35) [] [])) [(.tmp 72), (.tmp 74), (.tmp 76)], none, [], 0, 0, false⟩]
def c7_r13 : List AOper := [
  ⟨(some 78), .mov (.tmp 6), none, [6], 0, 0, false⟩,
  ⟨(some 79), .fieldAddr 1 (.tmp 8), none, [8], 0, 0, false⟩,
  ⟨(some 80), .load none (.tmp 79), none, [79], 0, 0, false⟩,
  ⟨(some 81), .call (.val (.func (.func 36) [] [])) [(.tmp 78), (.tmp 80)], none, [78, 80], 0, 1, false⟩,
  ⟨(some 82), .fieldAddr 1 (.tmp 8), none, [8], 0, 2, false⟩,
  ⟨(some 83), .load none (.tmp 82), none, [82], 0, 2, false⟩,
  ⟨(some 84), .mov (.tmp 0), none, [0], 0, 2, false⟩,
  ⟨(some 85), .fieldAddr 2 (.tmp 8), none, [8], 0, 1, false⟩,
  ⟨(some 86), .load none (.tmp 85), none, [85], 0, 1, false⟩,
  ⟨(some 87), .call (.val (.func (.func 37) [] [])) [(.tmp 86)], none, [86], 1, 2, false⟩,
  ⟨(some 88), .bin .add (.tmp 84) (.tmp 87), none, [84, 87], 2, 2, false⟩,
  ⟨(some 89), .build [(.int .i64 0), (.int .i64 0)] [(0, 1, (.tmp 83)), (1, 1, (.tmp 88))], none, [83, 88], 2, 2, false⟩,
  ⟨(some 90), .buildSlice [(.int .i64 0), (.int .i64 0)] 75 1 [(0, 2, (.tmp 89))], none, [89], 2, 3, false⟩,
  ⟨(some 91), .append 75 2 16 (.tmp 81) (.tmp 90), none, [81, 90], 3, 4, false⟩,
  ⟨(some 6), .mov (.tmp 91), none, [91], 4, 4, false⟩]
def c7_r14 : List AOper := [
  ⟨(some 93), .bin .eql (.tmp 50) (.val (.int .i64 2)), none, [], 0, 0, false⟩,
  ⟨(some 92), .mov (.tmp 93), none, [], 0, 0, false⟩]
def c7_r15 : List AOper := [
  ⟨(some 94), .mov (.tmp 5), none, [], 0, 0, false⟩,
  ⟨(some 95), .fieldAddr 1 (.tmp 8), none, [], 0, 0, false⟩,
  ⟨(some 96), .load none (.tmp 95), none, [], 0, 0, false⟩,
  ⟨(some 97), .call (.val (.func (.func 38) [] [])) [(.tmp 94), (.tmp 96)], none, [], 0, 0, false⟩]
def c7_r16 : List AOper := [
  ⟨(some 98), .mov (.tmp 6), none, [], 0, 0, false⟩,
  ⟨(some 99), .fieldAddr 1 (.tmp 8), none, [], 0, 0, false⟩,
  ⟨(some 100), .load none (.tmp 99), none, [], 0, 0, false⟩,
  ⟨(some 101), .call (.val (.func (.func 36) [] [])) [(.tmp 98), (.tmp 100)], none, [], 0, 0, false⟩,
  ⟨(some 6), .mov (.tmp 101), none, [], 0, 0, false⟩]
def c7_r17 : List AOper := [
  ⟨(some 103), .bin .eql (.tmp 50) (.val (.int .i64 3)), none, [], 0, 0, false⟩,
  ⟨(some 102), .mov (.tmp 103), none, [], 0, 0, false⟩]
def c7_r18 : List AOper := [
  ⟨(some 105), .mov (.tmp 5), none, [], 0, 0, false⟩,
  ⟨(some 106), .fieldAddr 1 (.tmp 8), none, [], 0, 0, false⟩,
  ⟨(some 107), .load none (.tmp 106), none, [], 0, 0, false⟩,
  ⟨(some 108), .call (.val (.func (.func 39) [] [])) [(.tmp 105), (.tmp 107)], none, [], 0, 0, false⟩,
  ⟨(some 104), .mov (.tmp 108), none, [], 0, 0, false⟩,
  ⟨(some 109), .extract (.tmp 104) 0, none, [], 0, 0, false⟩,
  ⟨(some 110), .extract (.tmp 104) 1, none, [], 0, 0, false⟩,
  ⟨(some 9), .mov (.tmp 109), none, [], 0, 0, false⟩,
  ⟨(some 10), .mov (.tmp 110), none, [], 0, 0, false⟩]
def c7_r19 : List AOper := [
  ⟨(some 112), .mov (.tmp 6), none, [], 0, 0, false⟩,
  ⟨(some 113), .fieldAddr 1 (.tmp 8), none, [], 0, 0, false⟩,
  ⟨(some 114), .load none (.tmp 113), none, [], 0, 0, false⟩,
  ⟨(some 115), .mov (.tmp 0), none, [], 0, 0, false⟩,
  ⟨(some 116), .call (.val (.func (.func 40) [] [])) [(.tmp 112), (.tmp 114), (.tmp 115)], none, [], 0, 0, false⟩,
  ⟨(some 111), .mov (.tmp 116), none, [], 0, 0, false⟩,
  ⟨(some 117), .extract (.tmp 111) 0, none, [], 0, 0, false⟩,
  ⟨(some 118), .extract (.tmp 111) 1, none, [], 0, 0, false⟩,
  ⟨(some 11), .mov (.tmp 117), none, [], 0, 0, false⟩,
  ⟨(some 12), .mov (.tmp 118), none, [], 0, 0, false⟩]
def c7_r20 : List AOper := [
  ⟨(some 119), .mov (.tmp 9), none, [], 0, 0, false⟩,
  ⟨(some 120), .mov (.tmp 11), none, [], 0, 0, false⟩,
  ⟨(some 121), .bin .neq (.tmp 119) (.tmp 120), none, [], 0, 0, false⟩,
  ⟨(some 122), .mov (.tmp 121), none, [], 0, 0, false⟩,
  ⟨(some 123), .mov (.tmp 10), (some (122, false)), [], 0, 0, false⟩,
  ⟨(some 124), .mov (.tmp 12), (some (122, false)), [], 0, 0, false⟩,
  ⟨(some 125), .eq true .bool (.tmp 123) (.tmp 124), (some (122, false)), [], 0, 0, false⟩,
  ⟨(some 126), .pick (.tmp 122) (.val (.bool true)) (.tmp 125), none, [], 0, 0, false⟩]
def c7_r21 : List AOper := [
  ⟨(some 4), .mov (.val (.bool false)), none, [], 0, 0, false⟩]
def c7_r22 : List AOper := [
  ⟨(some 51), .mov (.tmp 0), none, [], 0, 0, false⟩,
  ⟨(some 52), .fieldAddr 2 (.tmp 8), none, [], 0, 0, false⟩,
  ⟨(some 53), .load none (.tmp 52), none, [], 0, 0, false⟩,
  ⟨(some 54), .call (.val (.func (.func 37) [] [])) [(.tmp 53)], none, [], 0, 0, false⟩,
  ⟨(some 55), .bin .add (.tmp 51) (.tmp 54), none, [], 0, 0, false⟩,
  ⟨(some 0), .mov (.tmp 55), none, [], 0, 0, false⟩]
def c7_r23 : List AOper := [
  ⟨(some 57), .mov (.tmp 6), none, [], 0, 0, false⟩,
  ⟨(some 58), .mov (.tmp 0), none, [], 0, 0, false⟩,
  ⟨(some 59), .call (.val (.func (.func 41) [] [])) [(.tmp 57), (.tmp 58)], none, [], 0, 0, false⟩,
  ⟨(some 56), .mov (.tmp 59), none, [], 0, 0, false⟩,
  ⟨(some 60), .extract (.tmp 56) 0, none, [], 0, 0, false⟩,
  ⟨(some 61), .extract (.tmp 56) 1, none, [], 0, 0, false⟩,
  ⟨(some 13), .mov (.tmp 60), none, [], 0, 0, false⟩,
  ⟨(some 14), .mov (.tmp 61), none, [], 0, 0, false⟩]
def c7_r24 : List AOper := [
  ⟨(some 62), .mov (.tmp 14), none, [], 0, 0, false⟩,
  ⟨(some 6), .mov (.tmp 62), none, [], 0, 0, false⟩]
def c7_r25 : List AOper := [
  ⟨(some 63), .mov (.tmp 5), none, [], 0, 0, false⟩,
  ⟨(some 64), .fieldAddr 2 (.tmp 8), none, [], 0, 0, false⟩,
  ⟨(some 65), .load none (.tmp 64), none, [], 0, 0, false⟩,
  ⟨(some 66), .call (.val (.func (.func 43) [] [])) [(.tmp 63), (.tmp 65)], none, [], 0, 0, false⟩,
  ⟨(some 67), .mov (.tmp 13), none, [], 0, 0, false⟩,
  ⟨(some 68), .call (.val (.func (.func 42) [] [])) [(.tmp 66), (.tmp 67)], none, [], 0, 0, false⟩,
  ⟨(some 69), .un .not (.tmp 68), none, [], 0, 0, false⟩]
def c7_r26 : List AOper := [
  ⟨(some 4), .mov (.val (.bool false)), none, [], 0, 0, false⟩]
def c7_r27 : List AOper := [
  ⟨(some 127), .mov (.tmp 5), none, [], 0, 0, false⟩,
  ⟨(some 128), .call (.val (.func (.func 44) [] [])) [(.tmp 127)], none, [], 0, 0, false⟩,
  ⟨(some 129), .mov (.tmp 0), none, [], 0, 0, false⟩,
  ⟨(some 130), .bin .neq (.tmp 128) (.tmp 129), none, [], 0, 0, false⟩]
def c7_r28 : List AOper := [
  ⟨(some 4), .mov (.val (.bool false)), none, [], 0, 0, false⟩]
def c7_r29 : List AOper := [
  ⟨(some 131), .bin .add (.tmp 45) (.val (.int .i64 1)), none, [], 0, 0, false⟩,
  ⟨(some 45), .mov (.tmp 131), none, [], 0, 0, false⟩]
def c7_l30 : ACode := (.seq (.region c7_r8 false) (.seq (.cond (.tmp 46) .skip (.exit 0)) (.seq (.block 1 (.seq (.region c7_r9 false) (.seq (.seq (.region c7_r10 false) (.block 2 (.seq (.region c7_r11 false) (.cond (.tmp 70) (.seq (.region c7_r12 false) (.region c7_r13 true)) (.seq (.region c7_r14 false) (.cond (.tmp 92) (.seq (.region c7_r15 false) (.region c7_r16 false)) (.seq (.region c7_r17 false) (.cond (.tmp 102) (.seq (.region c7_r18 false) (.seq (.region c7_r19 false) (.seq (.region c7_r20 false) (.cond (.tmp 126) (.seq (.region c7_r21 false) .ret) .skip)))) (.seq (.region c7_r22 false) (.seq (.region c7_r23 false) (.seq (.region c7_r24 false) (.seq (.region c7_r25 false) (.cond (.tmp 69) (.seq (.region c7_r26 false) .ret) .skip))))))))))))) (.seq (.region c7_r27 false) (.cond (.tmp 130) (.seq (.region c7_r28 false) .ret) .skip))))) (.region c7_r29 false))))
def c7_r31 : List AOper := [
  ⟨(some 132), .call (.val (.func (.func 34) [] [])) [], none, [], 0, 0, false⟩,
  ⟨(some 4), .mov (.tmp 132), none, [], 0, 0, false⟩]
def c7 : AFn := ⟨133, [(4, none)],
  (.seq (.region c7_r0 false) (.seq (.region c7_r1 false) (.seq (.seq (.region c7_r2 false) (.cond (.tmp 27) (.seq (.region c7_r3 false) .ret) .skip)) (.seq (.seq (.region c7_r4 false) (.cond (.tmp 41) (.seq (.region c7_r5 false) .ret) .skip)) (.seq (.region c7_r6 false) (.seq (.seq (.region c7_r7 false) (.block 0 (.loop c7_l30))) (.seq (.region c7_r31 false) .ret)))))))⟩
theorem F7 : funcsOf Try.prog [] 7 = some c7 := by kernel_rfl

def c8_r0 : List AOper := [
  ⟨(some 4), .mov (.val (.bool false)), none, [], 0, 0, false⟩]
def c8_r1 : List AOper := [
  ⟨(some 5), .mov (.val (.ptr none)), none, [], 0, 0, false⟩]
def c8_r2 : List AOper := [
  ⟨(some 21), .mov (.tmp 5), none, [], 0, 0, false⟩,
  ⟨(some 22), .call (.val (.func (.func 35) [] [])) [(.tmp 21), (.val (.int .i64 1)), (.val (.int .i64 1))], none, [], 0, 0, false⟩]
def c8_r3 : List AOper := [
  ⟨(some 23), .mov (.tmp 5), none, [], 0, 0, false⟩,
  ⟨(some 24), .call (.val (.func (.func 38) [] [])) [(.tmp 23), (.val (.int .i64 1))], none, [], 0, 0, false⟩]
def c8_r4 : List AOper := [
  ⟨(some 26), .mov (.tmp 5), none, [], 0, 0, false⟩,
  ⟨(some 27), .call (.val (.func (.func 39) [] [])) [(.tmp 26), (.val (.int .i64 1))], none, [], 0, 0, false⟩,
  ⟨(some 25), .mov (.tmp 27), none, [], 0, 0, false⟩,
  ⟨(some 28), .extract (.tmp 25) 0, none, [], 0, 0, false⟩,
  ⟨(some 29), .extract (.tmp 25) 1, none, [], 0, 0, false⟩,
  ⟨(some 6), .mov (.tmp 28), none, [], 0, 0, false⟩,
  ⟨(some 7), .mov (.tmp 29), none, [], 0, 0, false⟩]
def c8_r5 : List AOper := [
  ⟨(some 30), .mov (.tmp 7), none, [], 0, 0, false⟩,
  ⟨(some 31), .mov (.tmp 30), none, [], 0, 0, false⟩,
  ⟨(some 32), .mov (.tmp 5), (some (31, false)), [], 0, 0, false⟩,
  ⟨(some 33), .call (.val (.func (.func 43) [] [])) [(.tmp 32), (.val (.int .i64 5))], (some (31, false)), [], 0, 0, false⟩,
  ⟨(some 34), .lenSlice (.tmp 33), (some (31, false)), [], 0, 0, false⟩,
  ⟨(some 35), .bin .gtr (.tmp 34) (.val (.int .i64 0)), (some (31, false)), [], 0, 0, false⟩,
  ⟨(some 36), .pick (.tmp 31) (.val (.bool true)) (.tmp 35), none, [], 0, 0, false⟩,
  ⟨(some 37), .mov (.tmp 36), none, [], 0, 0, false⟩,
  ⟨(some 38), .mov (.tmp 5), (some (37, false)), [], 0, 0, false⟩,
  ⟨(some 39), .call (.val (.func (.func 44) [] [])) [(.tmp 38)], (some (37, false)), [], 0, 0, false⟩,
  ⟨(some 40), .bin .neq (.tmp 39) (.val (.int .i64 0)), (some (37, false)), [], 0, 0, false⟩,
  ⟨(some 41), .pick (.tmp 37) (.val (.bool true)) (.tmp 40), none, [], 0, 0, false⟩]
def c8_r6 : List AOper := [
  ⟨(some 4), .mov (.val (.bool false)), none, [], 0, 0, false⟩]
def c8_r7 : List AOper := [
  ⟨(some 42), .mov (.tmp 0), none, [], 0, 0, false⟩,
  ⟨(some 43), .lenSlice (.tmp 42), none, [], 0, 0, false⟩,
  ⟨(some 44), .bin .gtr (.tmp 43) (.val (.int .i64 100)), none, [], 0, 0, false⟩,
  ⟨(some 45), .mov (.tmp 44), none, [], 0, 0, false⟩,
  ⟨(some 46), .mov (.tmp 1), (some (45, false)), [], 0, 0, false⟩,
  ⟨(some 47), .lenSlice (.tmp 46), (some (45, false)), [], 0, 0, false⟩,
  ⟨(some 48), .bin .gtr (.tmp 47) (.val (.int .i64 100)), (some (45, false)), [], 0, 0, false⟩,
  ⟨(some 49), .pick (.tmp 45) (.val (.bool true)) (.tmp 48), none, [], 0, 0, false⟩]
def c8_r8 : List AOper := [
  ⟨(some 50), .call (.val (.func (.func 34) [] [])) [], none, [], 0, 0, false⟩,
  ⟨(some 4), .mov (.tmp 50), none, [], 0, 0, false⟩]
def c8_r9 : List AOper := [
  ⟨(some 51), .call (.val (.func (.func 33) [] [])) [(.val (.int .i64 0))], none, [], 0, 0, false⟩,
  ⟨(some 52), .call (.val (.func (.func 33) [] [])) [(.val (.int .i64 0))], none, [], 0, 0, false⟩,
  ⟨(some 8), .mov (.tmp 51), none, [], 0, 0, false⟩,
  ⟨(some 9), .mov (.tmp 52), none, [], 0, 0, false⟩]
def c8_r10 : List AOper := [
  ⟨(some 53), .mov (.tmp 0), none, [], 0, 0, false⟩,
  ⟨(some 54), .lenSlice (.tmp 53), none, [], 0, 0, false⟩,
  ⟨(some 55), .mov (.val (.int .i64 0)), none, [], 0, 0, false⟩]
def c8_r11 : List AOper := [
  ⟨(some 56), .bin .lss (.tmp 55) (.tmp 54), none, [], 0, 0, false⟩]
def c8_r12 : List AOper := [
  ⟨(some 57), .idxAddr 3 (.tmp 53) (.tmp 55), none, [], 0, 0, false⟩,
  ⟨(some 58), .load (some 3) (.tmp 57), none, [], 0, 0, false⟩,
  ⟨(some 11), .alloc [(.int .i64 0), (.int .i64 0), (.int .i64 0)] 72, none, [], 0, 0, false⟩,
  ⟨none, .store 3 (.tmp 11) (.tmp 58), none, [], 0, 0, false⟩]
def c8_r13 : List AOper := [
  ⟨(some 59), .mov (.tmp 8), none, [], 0, 0, false⟩,
  ⟨(some 60), .fieldAddr 1 (.tmp 11), none, [], 0, 0, false⟩,
  ⟨(some 61), .load none (.tmp 60), none, [], 0, 0, false⟩,
  ⟨(some 62), .fieldAddr 2 (.tmp 11), none, [], 0, 0, false⟩,
  ⟨(some 63), .load none (.tmp 62), none, [], 0, 0, false⟩,
  ⟨(some 64), .call (.val (.func (.func 35) [] [])) [(.tmp 59), (.tmp 61), (.tmp 63)], none, [], 0, 0, false⟩]
def c8_r14 : List AOper := [
  ⟨(some 65), .mov (.tmp 9), none, [], 0, 0, false⟩,
  ⟨(some 66), .fieldAddr 1 (.tmp 11), none, [], 0, 0, false⟩,
  ⟨(some 67), .load none (.tmp 66), none, [], 0, 0, false⟩,
  ⟨(some 68), .fieldAddr 2 (.tmp 11), none, [], 0, 0, false⟩,
  ⟨(some 69), .load none (.tmp 68), none, [], 0, 0, false⟩,
  ⟨(some 70), .call (.val (.func (.func 35) [] [])) [(.tmp 65), (.tmp 67), (.tmp 69)], none, [], 0, 0, false⟩]
def c8_r15 : List AOper := [
  ⟨(some 71), .bin .add (.tmp 55) (.val (.int .i64 1)), none, [], 0, 0, false⟩,
  ⟨(some 55), .mov (.tmp 71), none, [], 0, 0, false⟩]
def c8_l16 : ACode := (.seq (.region c8_r11 false) (.seq (.cond (.tmp 56) .skip (.exit 0)) (.seq (.block 1 (.seq (.region c8_r12 false) (.seq (.region c8_r13 false) (.region c8_r14 false)))) (.region c8_r15 false))))
def c8_r17 : List AOper := [
  ⟨(some 72), .buildSlice [(.int .i64 0)] 3 0 [], none, [], 0, 0, false⟩,
  ⟨(some 12), .mov (.tmp 72), none, [], 0, 0, false⟩,
  ⟨(some 13), .mov (.val (.int .i64 0)), none, [], 0, 0, false⟩]
def c8_r18 : List AOper := [
  ⟨(some 73), .mov (.tmp 1), none, [], 0, 0, false⟩,
  ⟨(some 74), .lenSlice (.tmp 73), none, [], 0, 0, false⟩,
  ⟨(some 75), .mov (.val (.int .i64 0)), none, [], 0, 0, false⟩]
def c8_r19 : List AOper := [
  ⟨(some 76), .bin .lss (.tmp 75) (.tmp 74), none, [], 0, 0, false⟩]
def c8_r20 : List AOper := [
  ⟨(some 77), .mov (.tmp 75), none, [], 0, 0, false⟩,
  ⟨(some 78), .idxAddr 1 (.tmp 73) (.tmp 75), none, [], 0, 0, false⟩,
  ⟨(some 79), .load none (.tmp 78), none, [], 0, 0, false⟩,
  ⟨(some 14), .mov (.tmp 77), none, [], 0, 0, false⟩,
  ⟨(some 15), .mov (.tmp 79), none, [], 0, 0, false⟩]
def c8_r21 : List AOper := [
  ⟨(some 80), .mov (.tmp 15), none, [], 0, 0, false⟩,
  ⟨(some 81), .call (.val (.func (.func 37) [] [])) [(.tmp 80)], none, [], 0, 0, false⟩,
  ⟨(some 15), .mov (.tmp 81), none, [], 0, 0, false⟩]
def c8_r22 : List AOper := [
  ⟨(some 82), .mov (.tmp 15), none, [], 0, 0, false⟩,
  ⟨(some 83), .mov (.tmp 13), none, [], 0, 0, false⟩,
  ⟨(some 84), .bin .sub (.val (.int .i64 1073741824)) (.tmp 83), none, [], 0, 0, false⟩,
  ⟨(some 85), .bin .gtr (.tmp 82) (.tmp 84), none, [], 0, 0, false⟩]
def c8_r23 : List AOper := [
  ⟨(some 86), .call (.val (.func (.func 34) [] [])) [], none, [], 0, 0, false⟩,
  ⟨(some 4), .mov (.tmp 86), none, [], 0, 0, false⟩]
def c8_r24 : List AOper := [
  ⟨(some 87), .mov (.tmp 8), none, [], 0, 0, false⟩,
  ⟨(some 88), .mov (.tmp 15), none, [], 0, 0, false⟩,
  ⟨(some 89), .call (.val (.func (.func 43) [] [])) [(.tmp 87), (.tmp 88)], none, [], 0, 0, false⟩,
  ⟨(some 16), .mov (.tmp 89), none, [], 0, 0, false⟩]
def c8_r25 : List AOper := [
  ⟨(some 90), .mov (.tmp 16), none, [], 0, 0, false⟩,
  ⟨(some 91), .lenSlice (.tmp 90), none, [], 0, 0, false⟩,
  ⟨(some 92), .mov (.val (.int .i64 0)), none, [], 0, 0, false⟩]
def c8_r26 : List AOper := [
  ⟨(some 93), .bin .lss (.tmp 92) (.tmp 91), none, [], 0, 0, false⟩]
def c8_r27 : List AOper := [
  ⟨(some 94), .idxAddr 1 (.tmp 90) (.tmp 92), none, [], 0, 0, false⟩,
  ⟨(some 95), .load none (.tmp 94), none, [], 0, 0, false⟩,
  ⟨(some 18), .mov (.tmp 95), none, [], 0, 0, false⟩]
def c8_r28 : List AOper := [
  ⟨(some 97), .mov (.tmp 9), none, [], 0, 0, false⟩,
  ⟨(some 98), .mov (.tmp 18), none, [], 0, 0, false⟩,
  ⟨(some 99), .call (.val (.func (.func 39) [] [])) [(.tmp 97), (.tmp 98)], none, [], 0, 0, false⟩,
  ⟨(some 96), .mov (.tmp 99), none, [], 0, 0, false⟩,
  ⟨(some 100), .extract (.tmp 96) 0, none, [], 0, 0, false⟩,
  ⟨(some 101), .extract (.tmp 96) 1, none, [], 0, 0, false⟩,
  ⟨(some 19), .mov (.tmp 100), none, [], 0, 0, false⟩,
  ⟨(some 20), .mov (.tmp 101), none, [], 0, 0, false⟩]
def c8_r29 : List AOper := [
  ⟨(some 102), .mov (.tmp 20), none, [], 0, 0, false⟩,
  ⟨(some 103), .un .not (.tmp 102), none, [], 0, 0, false⟩,
  ⟨(some 104), .mov (.tmp 103), none, [], 0, 0, false⟩,
  ⟨(some 105), .mov (.tmp 19), (some (104, false)), [], 0, 0, false⟩,
  ⟨(some 106), .mov (.tmp 13), (some (104, false)), [], 0, 0, false⟩,
  ⟨(some 107), .mov (.tmp 15), (some (104, false)), [], 0, 0, false⟩,
  ⟨(some 108), .bin .add (.tmp 106) (.tmp 107), (some (104, false)), [], 0, 0, false⟩,
  ⟨(some 109), .bin .gtr (.tmp 105) (.tmp 108), (some (104, false)), [], 0, 0, false⟩,
  ⟨(some 110), .pick (.tmp 104) (.val (.bool true)) (.tmp 109), none, [], 0, 0, false⟩,
  ⟨(some 111), .mov (.tmp 110), none, [], 0, 0, false⟩,
  ⟨(some 112), .mov (.tmp 19), (some (111, false)), [], 0, 0, false⟩,
  ⟨(some 113), .mov (.tmp 13), (some (111, false)), [], 0, 0, false⟩,
  ⟨(some 114), .bin .leq (.tmp 112) (.tmp 113), (some (111, false)), [], 0, 0, false⟩,
  ⟨(some 115), .mov (.tmp 114), (some (111, false)), [], 0, 0, false⟩,
  ⟨(some 116), .mov (.tmp 14), (some (115, true)), [], 0, 0, false⟩,
  ⟨(some 117), .bin .gtr (.tmp 116) (.val (.int .i64 0)), (some (115, true)), [], 0, 0, false⟩,
  ⟨(some 118), .pick (.tmp 115) (.tmp 117) (.val (.bool false)), (some (111, false)), [], 0, 0, false⟩,
  ⟨(some 119), .pick (.tmp 111) (.val (.bool true)) (.tmp 118), none, [], 0, 0, false⟩]
def c8_r30 : List AOper := [
  ⟨(some 4), .mov (.val (.bool false)), none, [], 0, 0, false⟩]
def c8_r31 : List AOper := [
  ⟨(some 120), .bin .add (.tmp 92) (.val (.int .i64 1)), none, [], 0, 0, false⟩,
  ⟨(some 92), .mov (.tmp 120), none, [], 0, 0, false⟩]
def c8_l32 : ACode := (.seq (.region c8_r26 false) (.seq (.cond (.tmp 93) .skip (.exit 4)) (.seq (.block 5 (.seq (.region c8_r27 false) (.seq (.region c8_r28 false) (.seq (.region c8_r29 false) (.cond (.tmp 119) (.seq (.region c8_r30 false) .ret) .skip))))) (.region c8_r31 false))))
def c8_r33 : List AOper := [
  ⟨(some 121), .mov (.tmp 12), none, [], 0, 0, false⟩,
  ⟨(some 122), .mov (.tmp 16), none, [], 0, 0, false⟩,
  ⟨(some 123), .append 3 1 8 (.tmp 121) (.tmp 122), none, [], 0, 0, false⟩,
  ⟨(some 12), .mov (.tmp 123), none, [], 0, 0, false⟩]
def c8_r34 : List AOper := [
  ⟨(some 124), .mov (.tmp 13), none, [], 0, 0, false⟩,
  ⟨(some 125), .mov (.tmp 15), none, [], 0, 0, false⟩,
  ⟨(some 126), .bin .add (.tmp 124) (.tmp 125), none, [], 0, 0, false⟩,
  ⟨(some 13), .mov (.tmp 126), none, [], 0, 0, false⟩]
def c8_r35 : List AOper := [
  ⟨(some 127), .bin .add (.tmp 75) (.val (.int .i64 1)), none, [], 0, 0, false⟩,
  ⟨(some 75), .mov (.tmp 127), none, [], 0, 0, false⟩]
def c8_l36 : ACode := (.seq (.region c8_r19 false) (.seq (.cond (.tmp 76) .skip (.exit 2)) (.seq (.block 3 (.seq (.region c8_r20 false) (.seq (.region c8_r21 false) (.seq (.seq (.region c8_r22 false) (.cond (.tmp 85) (.seq (.region c8_r23 false) .ret) .skip)) (.seq (.region c8_r24 false) (.seq (.seq (.region c8_r25 false) (.block 4 (.loop c8_l32))) (.seq (.region c8_r33 false) (.region c8_r34 false)))))))) (.region c8_r35 false))))
def c8_r37 : List AOper := [
  ⟨(some 128), .mov (.tmp 1), none, [], 0, 0, false⟩,
  ⟨(some 129), .lenSlice (.tmp 128), none, [], 0, 0, false⟩,
  ⟨(some 130), .bin .eql (.tmp 129) (.val (.int .i64 0)), none, [], 0, 0, false⟩]
def c8_r38 : List AOper := [
  ⟨(some 131), .call (.val (.func (.func 34) [] [])) [], none, [], 0, 0, false⟩,
  ⟨(some 4), .mov (.tmp 131), none, [], 0, 0, false⟩]
def c8_r39 : List AOper := [
  ⟨(some 132), .mov (.tmp 12), none, [], 0, 0, false⟩,
  ⟨(some 133), .mov (.tmp 9), none, [], 0, 0, false⟩,
  ⟨(some 134), .mov (.tmp 13), none, [], 0, 0, false⟩,
  ⟨(some 135), .call (.val (.func (.func 43) [] [])) [(.tmp 133), (.tmp 134)], none, [], 0, 0, false⟩,
  ⟨(some 136), .call (.val (.func (.func 42) [] [])) [(.tmp 132), (.tmp 135)], none, [], 0, 0, false⟩,
  ⟨(some 137), .mov (.tmp 136), none, [], 0, 0, false⟩,
  ⟨(some 138), .mov (.tmp 8), (some (137, true)), [], 0, 0, false⟩,
  ⟨(some 139), .call (.val (.func (.func 44) [] [])) [(.tmp 138)], (some (137, true)), [], 0, 0, false⟩,
  ⟨(some 140), .mov (.tmp 13), (some (137, true)), [], 0, 0, false⟩,
  ⟨(some 141), .bin .eql (.tmp 139) (.tmp 140), (some (137, true)), [], 0, 0, false⟩,
  ⟨(some 142), .pick (.tmp 137) (.tmp 141) (.val (.bool false)), none, [], 0, 0, false⟩,
  ⟨(some 143), .mov (.tmp 142), none, [], 0, 0, false⟩,
  ⟨(some 144), .mov (.tmp 9), (some (143, true)), [], 0, 0, false⟩,
  ⟨(some 145), .call (.val (.func (.func 44) [] [])) [(.tmp 144)], (some (143, true)), [], 0, 0, false⟩,
  ⟨(some 146), .mov (.tmp 13), (some (143, true)), [], 0, 0, false⟩,
  ⟨(some 147), .bin .eql (.tmp 145) (.tmp 146), (some (143, true)), [], 0, 0, false⟩,
  ⟨(some 148), .pick (.tmp 143) (.tmp 147) (.val (.bool false)), none, [], 0, 0, false⟩,
  ⟨(some 149), .mov (.tmp 148), none, [], 0, 0, false⟩,
  ⟨(some 150), .call (.val (.func (.func 34) [] [])) [], (some (149, true)), [], 0, 0, false⟩,
  ⟨(some 151), .pick (.tmp 149) (.tmp 150) (.val (.bool false)), none, [], 0, 0, false⟩,
  ⟨(some 4), .mov (.tmp 151), none, [], 0, 0, false⟩]
def c8 : AFn := ⟨152, [(4, none)],
  (.seq (.region c8_r0 false) (.seq (.region c8_r1 false) (.seq (.region c8_r2 false) (.seq (.region c8_r3 false) (.seq (.seq (.region c8_r4 false) (.seq (.region c8_r5 false) (.cond (.tmp 41) (.seq (.region c8_r6 false) .ret) .skip))) (.seq (.seq (.region c8_r7 false) (.cond (.tmp 49) (.seq (.region c8_r8 false) .ret) .skip)) (.seq (.region c8_r9 false) (.seq (.seq (.region c8_r10 false) (.block 0 (.loop c8_l16))) (.seq (.region c8_r17 false) (.seq (.seq (.region c8_r18 false) (.block 2 (.loop c8_l36))) (.seq (.seq (.region c8_r37 false) (.cond (.tmp 130) (.seq (.region c8_r38 false) .ret) .skip)) (.seq (.region c8_r39 false) .ret))))))))))))⟩
theorem F8 : funcsOf Try.prog [] 8 = some c8 := by kernel_rfl

def c33_r0 : List AOper := [
  ⟨(some 2), .mov (.val (.ptr none)), none, [], 0, 0, false⟩]
def c33_r1 : List AOper := [
  ⟨(some 3), .mov (.tmp 0), none, [], 0, 0, false⟩,
  ⟨(some 4), .bin .lss (.tmp 3) (.val (.int .i64 (-281474976710656))), none, [], 0, 0, false⟩,
  ⟨(some 5), .mov (.tmp 4), none, [], 0, 0, false⟩,
  ⟨(some 6), .mov (.tmp 0), (some (5, false)), [], 0, 0, false⟩,
  ⟨(some 7), .bin .gtr (.tmp 6) (.val (.int .i64 281474976710656)), (some (5, false)), [], 0, 0, false⟩,
  ⟨(some 8), .pick (.tmp 5) (.val (.bool true)) (.tmp 7), none, [], 0, 0, false⟩]
def c33_r2 : List AOper := [
  ⟨(some 2), .mov (.val (.ptr none)), none, [], 0, 0, false⟩]
def c33_r3 : List AOper := [
  ⟨(some 9), .mov (.tmp 0), none, [], 0, 0, false⟩,
  ⟨(some 10), .mkMap, none, [], 0, 0, false⟩,
  ⟨(some 11), .build [(.int .i64 0), (.map none)] [(0, 1, (.tmp 9)), (1, 1, (.tmp 10))], none, [], 0, 0, false⟩,
  ⟨(some 12), .box 2 103 (.tmp 11), none, [], 0, 0, false⟩,
  ⟨(some 2), .mov (.tmp 12), none, [], 0, 0, false⟩]
def c33 : AFn := ⟨13, [(2, none)],
  (.seq (.region c33_r0 false) (.seq (.seq (.region c33_r1 false) (.cond (.tmp 8) (.seq (.region c33_r2 false) .ret) .skip)) (.seq (.region c33_r3 false) .ret)))⟩
theorem F33 : funcsOf Try.prog [] 33 = some c33 := by kernel_rfl

def c34_r0 : List AOper := [
  ⟨(some 0), .mov (.val (.bool false)), none, [], 0, 0, false⟩]
def c34_r1 : List AOper := [
  ⟨(some 4), .call (.val (.func (.func 33) [] [])) [(.val (.int .i64 0))], none, [], 0, 0, false⟩,
  ⟨(some 1), .mov (.tmp 4), none, [], 0, 0, false⟩]
def c34_r2 : List AOper := [
  ⟨(some 5), .mov (.tmp 1), none, [], 0, 0, false⟩,
  ⟨(some 6), .call (.val (.func (.func 35) [] [])) [(.tmp 5), (.val (.int .i64 1)), (.val (.int .i64 5))], none, [], 0, 0, false⟩]
def c34_r3 : List AOper := [
  ⟨(some 7), .mov (.tmp 1), none, [], 0, 0, false⟩,
  ⟨(some 8), .call (.val (.func (.func 35) [] [])) [(.tmp 7), (.val (.int .i64 2)), (.val (.int .i64 3))], none, [], 0, 0, false⟩]
def c34_r4 : List AOper := [
  ⟨(some 9), .mov (.tmp 1), none, [], 0, 0, false⟩,
  ⟨(some 10), .call (.val (.func (.func 43) [] [])) [(.tmp 9), (.val (.int .i64 3))], none, [], 0, 0, false⟩,
  ⟨(some 2), .mov (.tmp 10), none, [], 0, 0, false⟩]
def c34_r5 : List AOper := [
  ⟨(some 11), .mov (.tmp 1), none, [], 0, 0, false⟩,
  ⟨(some 12), .call (.val (.func (.func 43) [] [])) [(.tmp 11), (.val (.int .i64 2))], none, [], 0, 0, false⟩,
  ⟨(some 3), .mov (.tmp 12), none, [], 0, 0, false⟩]
def c34_r6 : List AOper := [
  ⟨(some 13), .mov (.tmp 2), none, [], 0, 0, false⟩,
  ⟨(some 14), .buildSlice [(.int .i64 0)] 3 1 [(0, 1, (.val (.int .i64 2)))], none, [], 0, 0, false⟩,
  ⟨(some 15), .call (.val (.func (.func 42) [] [])) [(.tmp 13), (.tmp 14)], none, [], 0, 0, false⟩,
  ⟨(some 16), .mov (.tmp 15), none, [], 0, 0, false⟩,
  ⟨(some 17), .mov (.tmp 3), (some (16, true)), [], 0, 0, false⟩,
  ⟨(some 18), .buildSlice [(.int .i64 0)] 3 1 [(0, 1, (.val (.int .i64 1)))], (some (16, true)), [], 0, 0, false⟩,
  ⟨(some 19), .call (.val (.func (.func 42) [] [])) [(.tmp 17), (.tmp 18)], (some (16, true)), [], 0, 0, false⟩,
  ⟨(some 20), .pick (.tmp 16) (.tmp 19) (.val (.bool false)), none, [], 0, 0, false⟩,
  ⟨(some 21), .mov (.tmp 20), none, [], 0, 0, false⟩,
  ⟨(some 22), .mov (.tmp 1), (some (21, true)), [], 0, 0, false⟩,
  ⟨(some 23), .call (.val (.func (.func 44) [] [])) [(.tmp 22)], (some (21, true)), [], 0, 0, false⟩,
  ⟨(some 24), .bin .eql (.tmp 23) (.val (.int .i64 5)), (some (21, true)), [], 0, 0, false⟩,
  ⟨(some 25), .pick (.tmp 21) (.tmp 24) (.val (.bool false)), none, [], 0, 0, false⟩,
  ⟨(some 0), .mov (.tmp 25), none, [], 0, 0, false⟩]
def c34 : AFn := ⟨26, [(0, none)],
  (.seq (.region c34_r0 false) (.seq (.region c34_r1 false) (.seq (.region c34_r2 false) (.seq (.region c34_r3 false) (.seq (.region c34_r4 false) (.seq (.region c34_r5 false) (.seq (.region c34_r6 false) .ret)))))))⟩
theorem F34 : funcsOf Try.prog [] 34 = some c34 := by kernel_rfl

def c35_r0 : List AOper := [
  ⟨(some 6), .mov (.tmp 0), none, [], 0, 0, false⟩,
  ⟨(some 7), .eq true .ptr (.tmp 6) (.val (.ptr none)), none, [], 0, 0, false⟩]
def c35_r1 : List AOper := [
  ⟨(some 8), .mov (.tmp 0), none, [0], 0, 1, false⟩,
  ⟨(some 9), .nilCheck (.tmp 8), none, [8], 0, 1, false⟩,
  ⟨(some 10), .fieldAddr 1 (.tmp 9), none, [9], 0, 1, false⟩,
  ⟨(some 11), .load none (.tmp 10), none, [10], 0, 1, false⟩,
  ⟨(some 12), .mov (.tmp 1), none, [1], 0, 1, false⟩,
  ⟨(some 13), .mov (.tmp 0), none, [0], 0, 1, false⟩,
  ⟨(some 14), .nilCheck (.tmp 13), none, [13], 0, 1, false⟩,
  ⟨(some 15), .fieldAddr 0 (.tmp 14), none, [14], 0, 1, false⟩,
  ⟨(some 16), .load none (.tmp 15), none, [15], 0, 1, false⟩,
  ⟨(some 17), .mov (.tmp 2), none, [2], 0, 0, false⟩,
  ⟨(some 18), .call (.val (.func (.func 53) [] [])) [(.tmp 17)], none, [17], 0, 1, false⟩,
  ⟨(some 19), .bin .add (.tmp 16) (.tmp 18), none, [16, 18], 1, 1, false⟩,
  ⟨none, .mapUpd .int (.tmp 11) (.tmp 12) (.tmp 19), none, [11, 12, 19], 1, 2, false⟩]
def c35 : AFn := ⟨20, [],
  (.seq (.region c35_r0 false) (.cond (.tmp 7) (.region c35_r1 true) .skip))⟩
theorem F35 : funcsOf Try.prog [] 35 = some c35 := by kernel_rfl

def c36_r0 : List AOper := [
  ⟨(some 4), .mov (.val (.slice none 0 0 0)), none, [], 0, 0, false⟩]
def c36_r1 : List AOper := [
  ⟨(some 7), .buildSlice [(.int .i64 0), (.int .i64 0)] 75 0 [], none, [], 0, 0, false⟩,
  ⟨(some 5), .mov (.tmp 7), none, [], 0, 0, false⟩]
def c36_r2 : List AOper := [
  ⟨(some 6), .mov (.val (.int .i64 0)), none, [], 0, 0, false⟩]
def c36_r3 : List AOper := [
  ⟨(some 8), .mov (.tmp 6), none, [], 0, 0, false⟩,
  ⟨(some 9), .mov (.tmp 0), none, [], 0, 0, false⟩,
  ⟨(some 10), .lenSlice (.tmp 9), none, [], 0, 0, false⟩,
  ⟨(some 11), .bin .lss (.tmp 8) (.tmp 10), none, [], 0, 0, false⟩]
def c36_r4 : List AOper := [
  ⟨(some 14), .mov (.tmp 0), none, [], 0, 0, false⟩,
  ⟨(some 15), .mov (.tmp 6), none, [], 0, 0, false⟩,
  ⟨(some 16), .idxAddr 2 (.tmp 14) (.tmp 15), none, [], 0, 0, false⟩,
  ⟨(some 17), .fieldAddr 0 (.tmp 16), none, [], 0, 0, false⟩,
  ⟨(some 18), .load none (.tmp 17), none, [], 0, 0, false⟩,
  ⟨(some 19), .mov (.tmp 1), none, [], 0, 0, false⟩,
  ⟨(some 20), .bin .neq (.tmp 18) (.tmp 19), none, [], 0, 0, false⟩]
def c36_r5 : List AOper := [
  ⟨(some 21), .mov (.tmp 5), none, [], 0, 0, false⟩,
  ⟨(some 22), .mov (.tmp 0), none, [], 0, 0, false⟩,
  ⟨(some 23), .mov (.tmp 6), none, [], 0, 0, false⟩,
  ⟨(some 24), .idxAddr 2 (.tmp 22) (.tmp 23), none, [], 0, 0, false⟩,
  ⟨(some 25), .load (some 2) (.tmp 24), none, [], 0, 0, false⟩,
  ⟨(some 26), .buildSlice [(.int .i64 0), (.int .i64 0)] 75 1 [(0, 2, (.tmp 25))], none, [], 0, 0, false⟩,
  ⟨(some 27), .append 75 2 16 (.tmp 21) (.tmp 26), none, [], 0, 0, false⟩,
  ⟨(some 5), .mov (.tmp 27), none, [], 0, 0, false⟩]
def c36_r6 : List AOper := [
  ⟨(some 12), .mov (.tmp 6), none, [], 0, 0, false⟩,
  ⟨(some 13), .bin .add (.tmp 12) (.val (.int .i64 1)), none, [], 0, 0, false⟩,
  ⟨(some 6), .mov (.tmp 13), none, [], 0, 0, false⟩]
def c36_l7 : ACode := (.seq (.seq (.region c36_r3 false) (.cond (.tmp 11) .skip (.exit 0))) (.seq (.block 1 (.seq (.region c36_r4 false) (.cond (.tmp 20) (.region c36_r5 false) .skip))) (.region c36_r6 false)))
def c36_r8 : List AOper := [
  ⟨(some 28), .mov (.tmp 5), none, [], 0, 0, false⟩,
  ⟨(some 4), .mov (.tmp 28), none, [], 0, 0, false⟩]
def c36 : AFn := ⟨29, [(4, none)],
  (.seq (.region c36_r0 false) (.seq (.region c36_r1 false) (.seq (.seq (.region c36_r2 false) (.block 0 (.loop c36_l7))) (.seq (.region c36_r8 false) .ret))))⟩
theorem F36 : funcsOf Try.prog [] 36 = some c36 := by kernel_rfl

def c37_r0 : List AOper := [
  ⟨(some 2), .mov (.val (.int .i64 0)), none, [], 0, 0, false⟩]
def c37_r1 : List AOper := [
  ⟨(some 3), .mov (.tmp 0), none, [], 0, 0, false⟩,
  ⟨(some 4), .bin .lss (.tmp 3) (.val (.int .i64 0)), none, [], 0, 0, false⟩]
def c37_r2 : List AOper := [
  ⟨(some 2), .mov (.val (.int .i64 0)), none, [], 0, 0, false⟩]
def c37_r3 : List AOper := [
  ⟨(some 5), .mov (.tmp 0), none, [], 0, 0, false⟩,
  ⟨(some 6), .bin .gtr (.tmp 5) (.val (.int .i64 1073741824)), none, [], 0, 0, false⟩]
def c37_r4 : List AOper := [
  ⟨(some 2), .mov (.val (.int .i64 1073741824)), none, [], 0, 0, false⟩]
def c37_r5 : List AOper := [
  ⟨(some 7), .mov (.tmp 0), none, [], 0, 0, false⟩,
  ⟨(some 2), .mov (.tmp 7), none, [], 0, 0, false⟩]
def c37 : AFn := ⟨8, [(2, none)],
  (.seq (.region c37_r0 false) (.seq (.seq (.region c37_r1 false) (.cond (.tmp 4) (.seq (.region c37_r2 false) .ret) .skip)) (.seq (.seq (.region c37_r3 false) (.cond (.tmp 6) (.seq (.region c37_r4 false) .ret) .skip)) (.seq (.region c37_r5 false) .ret))))⟩
theorem F37 : funcsOf Try.prog [] 37 = some c37 := by kernel_rfl

def c38_r0 : List AOper := [
  ⟨(some 4), .mov (.tmp 0), none, [], 0, 0, false⟩,
  ⟨(some 5), .eq true .ptr (.tmp 4) (.val (.ptr none)), none, [], 0, 0, false⟩]
def c38_r1 : List AOper := [
  ⟨(some 6), .mov (.tmp 0), none, [], 0, 0, false⟩,
  ⟨(some 7), .nilCheck (.tmp 6), none, [], 0, 0, false⟩,
  ⟨(some 8), .fieldAddr 1 (.tmp 7), none, [], 0, 0, false⟩,
  ⟨(some 9), .load none (.tmp 8), none, [], 0, 0, false⟩,
  ⟨(some 10), .mov (.tmp 1), none, [], 0, 0, false⟩,
  ⟨none, .delete .int (.tmp 9) (.tmp 10), none, [], 0, 0, false⟩]
def c38 : AFn := ⟨11, [],
  (.seq (.region c38_r0 false) (.cond (.tmp 5) (.region c38_r1 false) .skip))⟩
theorem F38 : funcsOf Try.prog [] 38 = some c38 := by kernel_rfl

def c39_r0 : List AOper := [
  ⟨(some 4), .mov (.val (.int .i64 0)), none, [], 0, 0, false⟩,
  ⟨(some 5), .mov (.val (.bool false)), none, [], 0, 0, false⟩]
def c39_r1 : List AOper := [
  ⟨(some 8), .mov (.tmp 0), none, [], 0, 0, false⟩,
  ⟨(some 9), .eq false .ptr (.tmp 8) (.val (.ptr none)), none, [], 0, 0, false⟩]
def c39_r2 : List AOper := [
  ⟨(some 4), .mov (.val (.int .i64 0)), none, [], 0, 0, false⟩,
  ⟨(some 5), .mov (.val (.bool false)), none, [], 0, 0, false⟩]
def c39_r3 : List AOper := [
  ⟨(some 11), .mov (.tmp 0), none, [], 0, 0, false⟩,
  ⟨(some 12), .nilCheck (.tmp 11), none, [], 0, 0, false⟩,
  ⟨(some 13), .fieldAddr 1 (.tmp 12), none, [], 0, 0, false⟩,
  ⟨(some 14), .load none (.tmp 13), none, [], 0, 0, false⟩,
  ⟨(some 15), .mov (.tmp 1), none, [], 0, 0, false⟩,
  ⟨(some 16), .lookup .int (.int .i64 0) true (.tmp 14) (.tmp 15), none, [], 0, 0, false⟩,
  ⟨(some 10), .mov (.tmp 16), none, [], 0, 0, false⟩,
  ⟨(some 17), .extract (.tmp 10) 0, none, [], 0, 0, false⟩,
  ⟨(some 18), .extract (.tmp 10) 1, none, [], 0, 0, false⟩,
  ⟨(some 6), .mov (.tmp 17), none, [], 0, 0, false⟩,
  ⟨(some 7), .mov (.tmp 18), none, [], 0, 0, false⟩]
def c39_r4 : List AOper := [
  ⟨(some 19), .mov (.tmp 7), none, [], 0, 0, false⟩,
  ⟨(some 20), .un .not (.tmp 19), none, [], 0, 0, false⟩]
def c39_r5 : List AOper := [
  ⟨(some 4), .mov (.val (.int .i64 0)), none, [], 0, 0, false⟩,
  ⟨(some 5), .mov (.val (.bool false)), none, [], 0, 0, false⟩]
def c39_r6 : List AOper := [
  ⟨(some 21), .mov (.tmp 6), none, [], 0, 0, false⟩,
  ⟨(some 22), .mov (.tmp 0), none, [], 0, 0, false⟩,
  ⟨(some 23), .nilCheck (.tmp 22), none, [], 0, 0, false⟩,
  ⟨(some 24), .fieldAddr 0 (.tmp 23), none, [], 0, 0, false⟩,
  ⟨(some 25), .load none (.tmp 24), none, [], 0, 0, false⟩,
  ⟨(some 26), .bin .sub (.tmp 21) (.tmp 25), none, [], 0, 0, false⟩,
  ⟨(some 4), .mov (.tmp 26), none, [], 0, 0, false⟩,
  ⟨(some 5), .mov (.val (.bool true)), none, [], 0, 0, false⟩]
def c39 : AFn := ⟨27, [(4, none), (5, none)],
  (.seq (.region c39_r0 false) (.seq (.seq (.region c39_r1 false) (.cond (.tmp 9) (.seq (.region c39_r2 false) .ret) .skip)) (.seq (.region c39_r3 false) (.seq (.seq (.region c39_r4 false) (.cond (.tmp 20) (.seq (.region c39_r5 false) .ret) .skip)) (.seq (.region c39_r6 false) .ret)))))⟩
theorem F39 : funcsOf Try.prog [] 39 = some c39 := by kernel_rfl

def c40_r0 : List AOper := [
  ⟨(some 6), .mov (.val (.int .i64 0)), none, [], 0, 0, false⟩,
  ⟨(some 7), .mov (.val (.bool false)), none, [], 0, 0, false⟩]
def c40_r1 : List AOper := [
  ⟨(some 8), .mov (.val (.int .i64 0)), none, [], 0, 0, false⟩]
def c40_r2 : List AOper := [
  ⟨(some 9), .mov (.tmp 8), none, [], 0, 0, false⟩,
  ⟨(some 10), .mov (.tmp 0), none, [], 0, 0, false⟩,
  ⟨(some 11), .lenSlice (.tmp 10), none, [], 0, 0, false⟩,
  ⟨(some 12), .bin .lss (.tmp 9) (.tmp 11), none, [], 0, 0, false⟩]
def c40_r3 : List AOper := [
  ⟨(some 15), .mov (.tmp 0), none, [], 0, 0, false⟩,
  ⟨(some 16), .mov (.tmp 8), none, [], 0, 0, false⟩,
  ⟨(some 17), .idxAddr 2 (.tmp 15) (.tmp 16), none, [], 0, 0, false⟩,
  ⟨(some 18), .fieldAddr 0 (.tmp 17), none, [], 0, 0, false⟩,
  ⟨(some 19), .load none (.tmp 18), none, [], 0, 0, false⟩,
  ⟨(some 20), .mov (.tmp 1), none, [], 0, 0, false⟩,
  ⟨(some 21), .bin .eql (.tmp 19) (.tmp 20), none, [], 0, 0, false⟩]
def c40_r4 : List AOper := [
  ⟨(some 22), .mov (.tmp 0), none, [], 0, 0, false⟩,
  ⟨(some 23), .mov (.tmp 8), none, [], 0, 0, false⟩,
  ⟨(some 24), .idxAddr 2 (.tmp 22) (.tmp 23), none, [], 0, 0, false⟩,
  ⟨(some 25), .fieldAddr 1 (.tmp 24), none, [], 0, 0, false⟩,
  ⟨(some 26), .load none (.tmp 25), none, [], 0, 0, false⟩,
  ⟨(some 27), .mov (.tmp 2), none, [], 0, 0, false⟩,
  ⟨(some 28), .bin .sub (.tmp 26) (.tmp 27), none, [], 0, 0, false⟩,
  ⟨(some 6), .mov (.tmp 28), none, [], 0, 0, false⟩,
  ⟨(some 7), .mov (.val (.bool true)), none, [], 0, 0, false⟩]
def c40_r5 : List AOper := [
  ⟨(some 13), .mov (.tmp 8), none, [], 0, 0, false⟩,
  ⟨(some 14), .bin .add (.tmp 13) (.val (.int .i64 1)), none, [], 0, 0, false⟩,
  ⟨(some 8), .mov (.tmp 14), none, [], 0, 0, false⟩]
def c40_l6 : ACode := (.seq (.seq (.region c40_r2 false) (.cond (.tmp 12) .skip (.exit 0))) (.seq (.block 1 (.seq (.region c40_r3 false) (.cond (.tmp 21) (.seq (.region c40_r4 false) .ret) .skip))) (.region c40_r5 false)))
def c40_r7 : List AOper := [
  ⟨(some 6), .mov (.val (.int .i64 0)), none, [], 0, 0, false⟩,
  ⟨(some 7), .mov (.val (.bool false)), none, [], 0, 0, false⟩]
def c40 : AFn := ⟨29, [(6, none), (7, none)],
  (.seq (.region c40_r0 false) (.seq (.seq (.region c40_r1 false) (.block 0 (.loop c40_l6))) (.seq (.region c40_r7 false) .ret)))⟩
theorem F40 : funcsOf Try.prog [] 40 = some c40 := by kernel_rfl

def c41_r0 : List AOper := [
  ⟨(some 4), .mov (.val (.slice none 0 0 0)), none, [], 0, 0, false⟩,
  ⟨(some 5), .mov (.val (.slice none 0 0 0)), none, [], 0, 0, false⟩]
def c41_r1 : List AOper := [
  ⟨(some 9), .buildSlice [(.int .i64 0)] 3 0 [], none, [], 0, 0, false⟩,
  ⟨(some 6), .mov (.tmp 9), none, [], 0, 0, false⟩]
def c41_r2 : List AOper := [
  ⟨(some 7), .mov (.val (.int .i64 (-1))), none, [], 0, 0, false⟩]
def c41_r3 : List AOper := [
  ⟨(some 8), .mov (.val (.int .i64 0)), none, [], 0, 0, false⟩]
def c41_r4 : List AOper := [
  ⟨(some 10), .mov (.tmp 8), none, [], 0, 0, false⟩,
  ⟨(some 11), .mov (.tmp 0), none, [], 0, 0, false⟩,
  ⟨(some 12), .lenSlice (.tmp 11), none, [], 0, 0, false⟩,
  ⟨(some 13), .bin .lss (.tmp 10) (.tmp 12), none, [], 0, 0, false⟩]
def c41_r5 : List AOper := [
  ⟨(some 16), .mov (.tmp 0), none, [0], 0, 0, false⟩,
  ⟨(some 17), .mov (.tmp 8), none, [8], 0, 0, false⟩,
  ⟨(some 18), .idxAddr 2 (.tmp 16) (.tmp 17), none, [16, 17], 0, 0, false⟩,
  ⟨(some 19), .fieldAddr 1 (.tmp 18), none, [18], 0, 0, false⟩,
  ⟨(some 20), .load none (.tmp 19), none, [19], 0, 0, false⟩,
  ⟨(some 21), .mov (.tmp 1), none, [1], 0, 0, false⟩,
  ⟨(some 22), .bin .leq (.tmp 20) (.tmp 21), none, [20, 21], 0, 0, false⟩,
  ⟨(some 23), .mov (.tmp 22), none, [22], 0, 0, false⟩,
  ⟨(some 24), .mov (.tmp 7), (some (23, true)), [7], 0, 0, false⟩,
  ⟨(some 25), .bin .lss (.tmp 24) (.val (.int .i64 0)), (some (23, true)), [24], 0, 0, false⟩,
  ⟨(some 26), .mov (.tmp 25), (some (23, true)), [25], 0, 0, false⟩,
  ⟨(some 27), .mov (.tmp 0), (some (26, false)), [0], 0, 0, false⟩,
  ⟨(some 28), .mov (.tmp 8), (some (26, false)), [8], 0, 0, false⟩,
  ⟨(some 29), .idxAddr 2 (.tmp 27) (.tmp 28), (some (26, false)), [27, 28], 0, 0, false⟩,
  ⟨(some 30), .fieldAddr 1 (.tmp 29), (some (26, false)), [29], 0, 0, false⟩,
  ⟨(some 31), .load none (.tmp 30), (some (26, false)), [30], 0, 0, false⟩,
  ⟨(some 32), .mov (.tmp 0), (some (26, false)), [0], 0, 0, false⟩,
  ⟨(some 33), .mov (.tmp 7), (some (26, false)), [7], 0, 0, false⟩,
  ⟨(some 34), .idxAddr 2 (.tmp 32) (.tmp 33), (some (26, false)), [32, 33], 0, 0, false⟩,
  ⟨(some 35), .fieldAddr 1 (.tmp 34), (some (26, false)), [34], 0, 0, false⟩,
  ⟨(some 36), .load none (.tmp 35), (some (26, false)), [35], 0, 0, false⟩,
  ⟨(some 37), .bin .lss (.tmp 31) (.tmp 36), (some (26, false)), [31, 36], 0, 0, false⟩,
  ⟨(some 38), .pick (.tmp 26) (.val (.bool true)) (.tmp 37), (some (23, true)), [26, 37], 0, 0, false⟩,
  ⟨(some 39), .mov (.tmp 38), (some (23, true)), [38], 0, 0, false⟩,
  ⟨(some 40), .mov (.tmp 0), (some (39, false)), [0], 0, 0, false⟩,
  ⟨(some 41), .mov (.tmp 8), (some (39, false)), [8], 0, 0, false⟩,
  ⟨(some 42), .idxAddr 2 (.tmp 40) (.tmp 41), (some (39, false)), [40, 41], 0, 0, false⟩,
  ⟨(some 43), .fieldAddr 1 (.tmp 42), (some (39, false)), [42], 0, 0, false⟩,
  ⟨(some 44), .load none (.tmp 43), (some (39, false)), [43], 0, 0, false⟩,
  ⟨(some 45), .mov (.tmp 0), (some (39, false)), [0], 0, 0, false⟩,
  ⟨(some 46), .mov (.tmp 7), (some (39, false)), [7], 0, 0, false⟩,
  ⟨(some 47), .idxAddr 2 (.tmp 45) (.tmp 46), (some (39, false)), [45, 46], 0, 0, false⟩,
  ⟨(some 48), .fieldAddr 1 (.tmp 47), (some (39, false)), [47], 0, 0, false⟩,
  ⟨(some 49), .load none (.tmp 48), (some (39, false)), [48], 0, 0, false⟩,
  ⟨(some 50), .bin .eql (.tmp 44) (.tmp 49), (some (39, false)), [44, 49], 0, 0, false⟩,
  ⟨(some 51), .mov (.tmp 50), (some (39, false)), [50], 0, 0, false⟩,
  ⟨(some 52), .mov (.tmp 0), (some (51, true)), [0], 0, 0, false⟩,
  ⟨(some 53), .mov (.tmp 8), (some (51, true)), [8], 0, 0, false⟩,
  ⟨(some 54), .idxAddr 2 (.tmp 52) (.tmp 53), (some (51, true)), [52, 53], 0, 0, false⟩,
  ⟨(some 55), .fieldAddr 0 (.tmp 54), (some (51, true)), [54], 0, 0, false⟩,
  ⟨(some 56), .load none (.tmp 55), (some (51, true)), [55], 0, 0, false⟩,
  ⟨(some 57), .mov (.tmp 0), (some (51, true)), [0], 0, 0, false⟩,
  ⟨(some 58), .mov (.tmp 7), (some (51, true)), [7], 0, 0, false⟩,
  ⟨(some 59), .idxAddr 2 (.tmp 57) (.tmp 58), (some (51, true)), [57, 58], 0, 0, false⟩,
  ⟨(some 60), .fieldAddr 0 (.tmp 59), (some (51, true)), [59], 0, 0, false⟩,
  ⟨(some 61), .load none (.tmp 60), (some (51, true)), [60], 0, 0, false⟩,
  ⟨(some 62), .bin .lss (.tmp 56) (.tmp 61), (some (51, true)), [56, 61], 0, 0, false⟩,
  ⟨(some 63), .pick (.tmp 51) (.tmp 62) (.val (.bool false)), (some (39, false)), [51, 62], 0, 0, false⟩,
  ⟨(some 64), .pick (.tmp 39) (.val (.bool true)) (.tmp 63), (some (23, true)), [39, 63], 0, 0, false⟩,
  ⟨(some 65), .pick (.tmp 23) (.tmp 64) (.val (.bool false)), none, [23, 64], 0, 0, false⟩]
def c41_r6 : List AOper := [
  ⟨(some 66), .mov (.tmp 8), none, [], 0, 0, false⟩,
  ⟨(some 7), .mov (.tmp 66), none, [], 0, 0, false⟩]
def c41_r7 : List AOper := [
  ⟨(some 14), .mov (.tmp 8), none, [], 0, 0, false⟩,
  ⟨(some 15), .bin .add (.tmp 14) (.val (.int .i64 1)), none, [], 0, 0, false⟩,
  ⟨(some 8), .mov (.tmp 15), none, [], 0, 0, false⟩]
def c41_l8 : ACode := (.seq (.seq (.region c41_r4 false) (.cond (.tmp 13) .skip (.exit 2))) (.seq (.block 3 (.seq (.region c41_r5 true) (.cond (.tmp 65) (.region c41_r6 false) .skip))) (.region c41_r7 false)))
def c41_r9 : List AOper := [
  ⟨(some 67), .mov (.tmp 7), none, [], 0, 0, false⟩,
  ⟨(some 68), .bin .lss (.tmp 67) (.val (.int .i64 0)), none, [], 0, 0, false⟩]
def c41_r10 : List AOper := [
  ⟨(some 69), .mov (.tmp 6), none, [], 0, 0, false⟩,
  ⟨(some 70), .mov (.tmp 0), none, [], 0, 0, false⟩,
  ⟨(some 4), .mov (.tmp 69), none, [], 0, 0, false⟩,
  ⟨(some 5), .mov (.tmp 70), none, [], 0, 0, false⟩]
def c41_r11 : List AOper := [
  ⟨(some 71), .mov (.tmp 6), none, [], 0, 0, false⟩,
  ⟨(some 72), .mov (.tmp 0), none, [], 0, 0, false⟩,
  ⟨(some 73), .mov (.tmp 7), none, [], 0, 0, false⟩,
  ⟨(some 74), .idxAddr 2 (.tmp 72) (.tmp 73), none, [], 0, 0, false⟩,
  ⟨(some 75), .fieldAddr 0 (.tmp 74), none, [], 0, 0, false⟩,
  ⟨(some 76), .load none (.tmp 75), none, [], 0, 0, false⟩,
  ⟨(some 77), .buildSlice [(.int .i64 0)] 3 1 [(0, 1, (.tmp 76))], none, [], 0, 0, false⟩,
  ⟨(some 78), .append 3 1 8 (.tmp 71) (.tmp 77), none, [], 0, 0, false⟩,
  ⟨(some 6), .mov (.tmp 78), none, [], 0, 0, false⟩]
def c41_r12 : List AOper := [
  ⟨(some 79), .mov (.tmp 0), none, [], 0, 0, false⟩,
  ⟨(some 80), .mov (.tmp 0), none, [], 0, 0, false⟩,
  ⟨(some 81), .mov (.tmp 7), none, [], 0, 0, false⟩,
  ⟨(some 82), .idxAddr 2 (.tmp 80) (.tmp 81), none, [], 0, 0, false⟩,
  ⟨(some 83), .fieldAddr 0 (.tmp 82), none, [], 0, 0, false⟩,
  ⟨(some 84), .load none (.tmp 83), none, [], 0, 0, false⟩,
  ⟨(some 85), .call (.val (.func (.func 36) [] [])) [(.tmp 79), (.tmp 84)], none, [], 0, 0, false⟩,
  ⟨(some 0), .mov (.tmp 85), none, [], 0, 0, false⟩]
def c41_l13 : ACode := (.block 1 (.seq (.region c41_r2 false) (.seq (.seq (.region c41_r3 false) (.block 2 (.loop c41_l8))) (.seq (.seq (.region c41_r9 false) (.cond (.tmp 68) (.seq (.region c41_r10 false) .ret) .skip)) (.seq (.region c41_r11 false) (.region c41_r12 false))))))
def c41 : AFn := ⟨86, [(4, none), (5, none)],
  (.seq (.region c41_r0 false) (.seq (.region c41_r1 false) (.block 0 (.loop c41_l13))))⟩
theorem F41 : funcsOf Try.prog [] 41 = some c41 := by kernel_rfl

def c42_r0 : List AOper := [
  ⟨(some 4), .mov (.val (.bool false)), none, [], 0, 0, false⟩]
def c42_r1 : List AOper := [
  ⟨(some 6), .mov (.tmp 0), none, [], 0, 0, false⟩,
  ⟨(some 7), .lenSlice (.tmp 6), none, [], 0, 0, false⟩,
  ⟨(some 8), .mov (.tmp 1), none, [], 0, 0, false⟩,
  ⟨(some 9), .lenSlice (.tmp 8), none, [], 0, 0, false⟩,
  ⟨(some 10), .bin .neq (.tmp 7) (.tmp 9), none, [], 0, 0, false⟩]
def c42_r2 : List AOper := [
  ⟨(some 4), .mov (.val (.bool false)), none, [], 0, 0, false⟩]
def c42_r3 : List AOper := [
  ⟨(some 5), .mov (.val (.int .i64 0)), none, [], 0, 0, false⟩]
def c42_r4 : List AOper := [
  ⟨(some 11), .mov (.tmp 5), none, [], 0, 0, false⟩,
  ⟨(some 12), .mov (.tmp 0), none, [], 0, 0, false⟩,
  ⟨(some 13), .lenSlice (.tmp 12), none, [], 0, 0, false⟩,
  ⟨(some 14), .bin .lss (.tmp 11) (.tmp 13), none, [], 0, 0, false⟩]
def c42_r5 : List AOper := [
  ⟨(some 17), .mov (.tmp 0), none, [0], 0, 0, false⟩,
  ⟨(some 18), .mov (.tmp 5), none, [5], 0, 0, false⟩,
  ⟨(some 19), .idxAddr 1 (.tmp 17) (.tmp 18), none, [17, 18], 0, 0, false⟩,
  ⟨(some 20), .load none (.tmp 19), none, [19], 0, 0, false⟩,
  ⟨(some 21), .mov (.tmp 1), none, [1], 0, 0, false⟩,
  ⟨(some 22), .mov (.tmp 5), none, [5], 0, 0, false⟩,
  ⟨(some 23), .idxAddr 1 (.tmp 21) (.tmp 22), none, [21, 22], 0, 0, false⟩,
  ⟨(some 24), .load none (.tmp 23), none, [23], 0, 0, false⟩,
  ⟨(some 25), .bin .neq (.tmp 20) (.tmp 24), none, [20, 24], 0, 0, false⟩]
def c42_r6 : List AOper := [
  ⟨(some 4), .mov (.val (.bool false)), none, [], 0, 0, false⟩]
def c42_r7 : List AOper := [
  ⟨(some 15), .mov (.tmp 5), none, [], 0, 0, false⟩,
  ⟨(some 16), .bin .add (.tmp 15) (.val (.int .i64 1)), none, [], 0, 0, false⟩,
  ⟨(some 5), .mov (.tmp 16), none, [], 0, 0, false⟩]
def c42_l8 : ACode := (.seq (.seq (.region c42_r4 false) (.cond (.tmp 14) .skip (.exit 0))) (.seq (.block 1 (.seq (.region c42_r5 true) (.cond (.tmp 25) (.seq (.region c42_r6 false) .ret) .skip))) (.region c42_r7 false)))
def c42_r9 : List AOper := [
  ⟨(some 4), .mov (.val (.bool true)), none, [], 0, 0, false⟩]
def c42 : AFn := ⟨26, [(4, none)],
  (.seq (.region c42_r0 false) (.seq (.seq (.region c42_r1 false) (.cond (.tmp 10) (.seq (.region c42_r2 false) .ret) .skip)) (.seq (.seq (.region c42_r3 false) (.block 0 (.loop c42_l8))) (.seq (.region c42_r9 false) .ret))))⟩
theorem F42 : funcsOf Try.prog [] 42 = some c42 := by kernel_rfl

def c43_r0 : List AOper := [
  ⟨(some 4), .mov (.val (.slice none 0 0 0)), none, [], 0, 0, false⟩]
def c43_r1 : List AOper := [
  ⟨(some 11), .mov (.tmp 0), none, [], 0, 0, false⟩,
  ⟨(some 12), .eq false .ptr (.tmp 11) (.val (.ptr none)), none, [], 0, 0, false⟩]
def c43_r2 : List AOper := [
  ⟨(some 4), .mov (.val (.slice none 0 0 0)), none, [], 0, 0, false⟩]
def c43_r3 : List AOper := [
  ⟨(some 13), .mov (.tmp 0), none, [0], 0, 1, false⟩,
  ⟨(some 14), .nilCheck (.tmp 13), none, [13], 0, 1, false⟩,
  ⟨(some 15), .fieldAddr 0 (.tmp 14), none, [14], 0, 1, false⟩,
  ⟨(some 16), .load none (.tmp 15), none, [15], 0, 1, false⟩,
  ⟨(some 17), .mov (.tmp 1), none, [1], 0, 0, false⟩,
  ⟨(some 18), .call (.val (.func (.func 53) [] [])) [(.tmp 17)], none, [17], 0, 1, false⟩,
  ⟨(some 19), .bin .add (.tmp 16) (.tmp 18), none, [16, 18], 1, 1, false⟩,
  ⟨(some 20), .nilCheck (.tmp 13), none, [13], 1, 1, false⟩,
  ⟨(some 21), .fieldAddr 0 (.tmp 20), none, [20], 1, 1, false⟩,
  ⟨none, .store 1 (.tmp 21) (.tmp 19), none, [21, 19], 1, 2, false⟩]
def c43_r4 : List AOper := [
  ⟨(some 5), .mov (.val (.slice none 0 0 0)), none, [], 0, 0, false⟩]
def c43_r5 : List AOper := [
  ⟨(some 22), .mkMap, none, [], 0, 0, false⟩,
  ⟨(some 6), .alloc [(.map none)] 101, none, [], 0, 0, false⟩,
  ⟨none, .store 1 (.tmp 6) (.tmp 22), none, [], 0, 0, false⟩]
def c43_r6 : List AOper := [
  ⟨(some 23), .mov (.tmp 0), none, [], 0, 0, false⟩,
  ⟨(some 24), .nilCheck (.tmp 23), none, [], 0, 0, false⟩,
  ⟨(some 25), .fieldAddr 1 (.tmp 24), none, [], 0, 0, false⟩,
  ⟨(some 26), .load none (.tmp 25), none, [], 0, 0, false⟩,
  ⟨(some 27), .rangeMap (.tmp 26), none, [], 0, 0, false⟩]
def c43_r7 : List AOper := [
  ⟨(some 28), .nextMap (.tmp 27), none, [], 0, 0, false⟩,
  ⟨(some 29), .extract (.tmp 28) 0, none, [], 0, 0, false⟩]
def c43_r8 : List AOper := [
  ⟨(some 30), .entry (.tmp 27), none, [], 0, 0, false⟩,
  ⟨(some 31), .extract (.tmp 30) 0, none, [], 0, 0, false⟩,
  ⟨(some 32), .extract (.tmp 30) 1, none, [], 0, 0, false⟩,
  ⟨(some 7), .mov (.tmp 31), none, [], 0, 0, false⟩,
  ⟨(some 8), .mov (.tmp 32), none, [], 0, 0, false⟩]
def c43_r9 : List AOper := [
  ⟨(some 33), .mov (.tmp 8), none, [], 0, 0, false⟩,
  ⟨(some 34), .mov (.tmp 0), none, [], 0, 0, false⟩,
  ⟨(some 35), .nilCheck (.tmp 34), none, [], 0, 0, false⟩,
  ⟨(some 36), .fieldAddr 0 (.tmp 35), none, [], 0, 0, false⟩,
  ⟨(some 37), .load none (.tmp 36), none, [], 0, 0, false⟩,
  ⟨(some 38), .bin .leq (.tmp 33) (.tmp 37), none, [], 0, 0, false⟩]
def c43_r10 : List AOper := [
  ⟨(some 39), .load none (.tmp 6), none, [], 0, 0, false⟩,
  ⟨(some 40), .mov (.tmp 7), none, [], 0, 0, false⟩,
  ⟨(some 41), .mov (.tmp 8), none, [], 0, 0, false⟩,
  ⟨none, .mapUpd .int (.tmp 39) (.tmp 40) (.tmp 41), none, [], 0, 0, false⟩]
def c43_r11 : List AOper := [
  ⟨(some 42), .mov (.tmp 5), none, [], 0, 0, false⟩,
  ⟨(some 43), .mov (.tmp 7), none, [], 0, 0, false⟩,
  ⟨(some 44), .buildSlice [(.int .i64 0)] 3 1 [(0, 1, (.tmp 43))], none, [], 0, 0, false⟩,
  ⟨(some 45), .append 3 1 8 (.tmp 42) (.tmp 44), none, [], 0, 0, false⟩,
  ⟨(some 5), .mov (.tmp 45), none, [], 0, 0, false⟩]
def c43_l12 : ACode := (.seq (.region c43_r7 false) (.seq (.cond (.tmp 29) .skip (.exit 0)) (.block 1 (.seq (.region c43_r8 false) (.seq (.region c43_r9 false) (.cond (.tmp 38) (.seq (.region c43_r10 false) (.region c43_r11 false)) .skip))))))
def c43_r13 : List AOper := [
  ⟨(some 46), .mov (.tmp 5), none, [], 0, 0, false⟩,
  ⟨(some 47), .mkFunc (.func 55) [] [(.tmp 6)], none, [], 0, 0, false⟩,
  ⟨(some 48), .call (.val (.func (.func 54) [] [])) [(.tmp 46), (.tmp 47)], none, [], 0, 0, false⟩]
def c43_r14 : List AOper := [
  ⟨(some 49), .mov (.tmp 5), none, [], 0, 0, false⟩,
  ⟨(some 50), .lenSlice (.tmp 49), none, [], 0, 0, false⟩,
  ⟨(some 51), .mov (.val (.int .i64 0)), none, [], 0, 0, false⟩]
def c43_r15 : List AOper := [
  ⟨(some 52), .bin .lss (.tmp 51) (.tmp 50), none, [], 0, 0, false⟩]
def c43_r16 : List AOper := [
  ⟨(some 53), .idxAddr 1 (.tmp 49) (.tmp 51), none, [], 0, 0, false⟩,
  ⟨(some 54), .load none (.tmp 53), none, [], 0, 0, false⟩,
  ⟨(some 10), .mov (.tmp 54), none, [], 0, 0, false⟩]
def c43_r17 : List AOper := [
  ⟨(some 55), .mov (.tmp 0), none, [], 0, 0, false⟩,
  ⟨(some 56), .nilCheck (.tmp 55), none, [], 0, 0, false⟩,
  ⟨(some 57), .fieldAddr 1 (.tmp 56), none, [], 0, 0, false⟩,
  ⟨(some 58), .load none (.tmp 57), none, [], 0, 0, false⟩,
  ⟨(some 59), .mov (.tmp 10), none, [], 0, 0, false⟩,
  ⟨none, .delete .int (.tmp 58) (.tmp 59), none, [], 0, 0, false⟩]
def c43_r18 : List AOper := [
  ⟨(some 60), .bin .add (.tmp 51) (.val (.int .i64 1)), none, [], 0, 0, false⟩,
  ⟨(some 51), .mov (.tmp 60), none, [], 0, 0, false⟩]
def c43_l19 : ACode := (.seq (.region c43_r15 false) (.seq (.cond (.tmp 52) .skip (.exit 2)) (.seq (.block 3 (.seq (.region c43_r16 false) (.region c43_r17 false))) (.region c43_r18 false))))
def c43_r20 : List AOper := [
  ⟨(some 61), .mov (.tmp 5), none, [], 0, 0, false⟩,
  ⟨(some 4), .mov (.tmp 61), none, [], 0, 0, false⟩]
def c43 : AFn := ⟨62, [(4, none)],
  (.seq (.region c43_r0 false) (.seq (.seq (.region c43_r1 false) (.cond (.tmp 12) (.seq (.region c43_r2 false) .ret) .skip)) (.seq (.region c43_r3 true) (.seq (.region c43_r4 false) (.seq (.region c43_r5 false) (.seq (.seq (.region c43_r6 false) (.block 0 (.loop c43_l12))) (.seq (.region c43_r13 false) (.seq (.seq (.region c43_r14 false) (.block 2 (.loop c43_l19))) (.seq (.region c43_r20 false) .ret)))))))))⟩
theorem F43 : funcsOf Try.prog [] 43 = some c43 := by kernel_rfl

def c44_r0 : List AOper := [
  ⟨(some 2), .mov (.val (.int .i64 0)), none, [], 0, 0, false⟩]
def c44_r1 : List AOper := [
  ⟨(some 3), .mov (.tmp 0), none, [], 0, 0, false⟩,
  ⟨(some 4), .eq false .ptr (.tmp 3) (.val (.ptr none)), none, [], 0, 0, false⟩]
def c44_r2 : List AOper := [
  ⟨(some 2), .mov (.val (.int .i64 0)), none, [], 0, 0, false⟩]
def c44_r3 : List AOper := [
  ⟨(some 5), .mov (.tmp 0), none, [], 0, 0, false⟩,
  ⟨(some 6), .nilCheck (.tmp 5), none, [], 0, 0, false⟩,
  ⟨(some 7), .fieldAddr 0 (.tmp 6), none, [], 0, 0, false⟩,
  ⟨(some 8), .load none (.tmp 7), none, [], 0, 0, false⟩,
  ⟨(some 2), .mov (.tmp 8), none, [], 0, 0, false⟩]
def c44 : AFn := ⟨9, [(2, none)],
  (.seq (.region c44_r0 false) (.seq (.seq (.region c44_r1 false) (.cond (.tmp 4) (.seq (.region c44_r2 false) .ret) .skip)) (.seq (.region c44_r3 false) .ret)))⟩
theorem F44 : funcsOf Try.prog [] 44 = some c44 := by kernel_rfl

def c53_r0 : List AOper := [
  ⟨(some 2), .mov (.val (.int .i64 0)), none, [], 0, 0, false⟩]
def c53_r1 : List AOper := [
  ⟨(some 3), .mov (.tmp 0), none, [], 0, 0, false⟩,
  ⟨(some 4), .minmax false [(.tmp 3), (.val (.int .i64 1073741824))], none, [], 0, 0, false⟩,
  ⟨(some 5), .minmax true [(.val (.int .i64 0)), (.tmp 4)], none, [], 0, 0, false⟩,
  ⟨(some 2), .mov (.tmp 5), none, [], 0, 0, false⟩]
def c53 : AFn := ⟨6, [(2, none)],
  (.seq (.region c53_r0 false) (.seq (.region c53_r1 false) .ret))⟩
theorem F53 : funcsOf Try.prog [] 53 = some c53 := by kernel_rfl

def c54_r0 : List AOper := [
  ⟨(some 5), .mov (.tmp 0), none, [], 0, 0, false⟩,
  ⟨(some 6), .lenSlice (.tmp 5), none, [], 0, 0, false⟩,
  ⟨(some 4), .mov (.tmp 6), none, [], 0, 0, false⟩]
def c54_r1 : List AOper := [
  ⟨(some 7), .mov (.tmp 0), none, [], 0, 0, false⟩,
  ⟨(some 8), .mov (.tmp 4), none, [], 0, 0, false⟩,
  ⟨(some 9), .mov (.tmp 4), none, [], 0, 0, false⟩,
  ⟨(some 10), .convInt .u64 (.tmp 9), none, [], 0, 0, false⟩,
  ⟨(some 11), .call (.val (.func (.func 61) [] [])) [(.tmp 10)], none, [], 0, 0, false⟩,
  ⟨(some 12), .mov (.tmp 1), none, [], 0, 0, false⟩,
  ⟨(some 13), .call (.val (.func (.func 60) [] [])) [(.tmp 7), (.val (.int .i64 0)), (.tmp 8), (.tmp 11), (.tmp 12)], none, [], 0, 0, false⟩]
def c54 : AFn := ⟨14, [],
  (.seq (.region c54_r0 false) (.region c54_r1 false))⟩
theorem F54 : funcsOf Try.prog [] 54 = some c54 := by kernel_rfl

def c55_r0 : List AOper := [
  ⟨(some 5), .mov (.val (.int .i64 0)), none, [], 0, 0, false⟩]
def c55_r1 : List AOper := [
  ⟨(some 6), .load none (.tmp 2), none, [], 0, 0, false⟩,
  ⟨(some 7), .mov (.tmp 0), none, [], 0, 0, false⟩,
  ⟨(some 8), .lookup .int (.int .i64 0) false (.tmp 6) (.tmp 7), none, [], 0, 0, false⟩,
  ⟨(some 9), .load none (.tmp 2), none, [], 0, 0, false⟩,
  ⟨(some 10), .mov (.tmp 1), none, [], 0, 0, false⟩,
  ⟨(some 11), .lookup .int (.int .i64 0) false (.tmp 9) (.tmp 10), none, [], 0, 0, false⟩,
  ⟨(some 12), .call (.val (.func (.func 57) [] [])) [(.tmp 8), (.tmp 11)], none, [], 0, 0, false⟩,
  ⟨(some 13), .mov (.tmp 0), none, [], 0, 0, false⟩,
  ⟨(some 14), .mov (.tmp 1), none, [], 0, 0, false⟩,
  ⟨(some 15), .call (.val (.func (.func 57) [] [])) [(.tmp 13), (.tmp 14)], none, [], 0, 0, false⟩,
  ⟨(some 16), .buildSlice [(.int .i64 0)] 3 2 [(0, 1, (.tmp 12)), (1, 1, (.tmp 15))], none, [], 0, 0, false⟩,
  ⟨(some 17), .call (.val (.func (.func 56) [] [])) [(.tmp 16)], none, [], 0, 0, false⟩,
  ⟨(some 5), .mov (.tmp 17), none, [], 0, 0, false⟩]
def c55 : AFn := ⟨18, [(5, none)],
  (.seq (.region c55_r0 false) (.seq (.region c55_r1 false) .ret))⟩
theorem F55 : funcsOf Try.prog [] 55 = some c55 := by kernel_rfl

def c56_r0 : List AOper := [
  ⟨(some 2), .mov (.val (.int .i64 0)), none, [], 0, 0, false⟩]
def c56_r1 : List AOper := [
  ⟨(some 3), .mov (.val (.int .i64 0)), none, [], 0, 0, false⟩]
def c56_r2 : List AOper := [
  ⟨(some 6), .mov (.tmp 0), none, [], 0, 0, false⟩,
  ⟨(some 7), .lenSlice (.tmp 6), none, [], 0, 0, false⟩,
  ⟨(some 8), .mov (.val (.int .i64 0)), none, [], 0, 0, false⟩]
def c56_r3 : List AOper := [
  ⟨(some 9), .bin .lss (.tmp 8) (.tmp 7), none, [], 0, 0, false⟩]
def c56_r4 : List AOper := [
  ⟨(some 10), .idxAddr 1 (.tmp 6) (.tmp 8), none, [], 0, 0, false⟩,
  ⟨(some 11), .load none (.tmp 10), none, [], 0, 0, false⟩,
  ⟨(some 5), .mov (.tmp 11), none, [], 0, 0, false⟩]
def c56_r5 : List AOper := [
  ⟨(some 12), .mov (.tmp 5), none, [], 0, 0, false⟩,
  ⟨(some 13), .mov (.tmp 3), none, [], 0, 0, false⟩,
  ⟨(some 14), .bin .neq (.tmp 12) (.tmp 13), none, [], 0, 0, false⟩]
def c56_r6 : List AOper := [
  ⟨(some 15), .mov (.tmp 5), none, [], 0, 0, false⟩,
  ⟨(some 2), .mov (.tmp 15), none, [], 0, 0, false⟩]
def c56_r7 : List AOper := [
  ⟨(some 16), .bin .add (.tmp 8) (.val (.int .i64 1)), none, [], 0, 0, false⟩,
  ⟨(some 8), .mov (.tmp 16), none, [], 0, 0, false⟩]
def c56_l8 : ACode := (.seq (.region c56_r3 false) (.seq (.cond (.tmp 9) .skip (.exit 0)) (.seq (.block 1 (.seq (.region c56_r4 false) (.seq (.region c56_r5 false) (.cond (.tmp 14) (.seq (.region c56_r6 false) .ret) .skip)))) (.region c56_r7 false))))
def c56_r9 : List AOper := [
  ⟨(some 17), .mov (.tmp 3), none, [], 0, 0, false⟩,
  ⟨(some 2), .mov (.tmp 17), none, [], 0, 0, false⟩]
def c56 : AFn := ⟨18, [(2, none)],
  (.seq (.region c56_r0 false) (.seq (.region c56_r1 false) (.seq (.seq (.region c56_r2 false) (.block 0 (.loop c56_l8))) (.seq (.region c56_r9 false) .ret))))⟩
theorem F56 : funcsOf Try.prog [] 56 = some c56 := by kernel_rfl

def c57_r0 : List AOper := [
  ⟨(some 4), .mov (.val (.int .i64 0)), none, [], 0, 0, false⟩]
def c57_r1 : List AOper := [
  ⟨(some 7), .mov (.tmp 0), none, [], 0, 0, false⟩,
  ⟨(some 8), .call (.val (.func (.func 62) [] [])) [(.tmp 7)], none, [], 0, 0, false⟩,
  ⟨(some 5), .mov (.tmp 8), none, [], 0, 0, false⟩]
def c57_r2 : List AOper := [
  ⟨(some 9), .mov (.tmp 1), none, [], 0, 0, false⟩,
  ⟨(some 10), .call (.val (.func (.func 62) [] [])) [(.tmp 9)], none, [], 0, 0, false⟩,
  ⟨(some 6), .mov (.tmp 10), none, [], 0, 0, false⟩]
def c57_r3 : List AOper := [
  ⟨(some 11), .mov (.tmp 5), none, [], 0, 0, false⟩]
def c57_r4 : List AOper := [
  ⟨(some 12), .mov (.tmp 6), none, [], 0, 0, false⟩]
def c57_r5 : List AOper := [
  ⟨(some 4), .mov (.val (.int .i64 0)), none, [], 0, 0, false⟩]
def c57_r6 : List AOper := [
  ⟨(some 4), .mov (.val (.int .i64 (-1))), none, [], 0, 0, false⟩]
def c57_r7 : List AOper := [
  ⟨(some 13), .mov (.tmp 6), none, [], 0, 0, false⟩]
def c57_r8 : List AOper := [
  ⟨(some 4), .mov (.val (.int .i64 1)), none, [], 0, 0, false⟩]
def c57_r9 : List AOper := [
  ⟨(some 14), .mov (.tmp 0), none, [], 0, 0, false⟩,
  ⟨(some 15), .mov (.tmp 1), none, [], 0, 0, false⟩,
  ⟨(some 16), .bin .lss (.tmp 14) (.tmp 15), none, [], 0, 0, false⟩]
def c57_r10 : List AOper := [
  ⟨(some 4), .mov (.val (.int .i64 (-1))), none, [], 0, 0, false⟩]
def c57_r11 : List AOper := [
  ⟨(some 17), .mov (.tmp 0), none, [], 0, 0, false⟩,
  ⟨(some 18), .mov (.tmp 1), none, [], 0, 0, false⟩,
  ⟨(some 19), .bin .gtr (.tmp 17) (.tmp 18), none, [], 0, 0, false⟩]
def c57_r12 : List AOper := [
  ⟨(some 4), .mov (.val (.int .i64 1)), none, [], 0, 0, false⟩]
def c57_r13 : List AOper := [
  ⟨(some 4), .mov (.val (.int .i64 0)), none, [], 0, 0, false⟩]
def c57 : AFn := ⟨20, [(4, none)],
  (.seq (.region c57_r0 false) (.seq (.region c57_r1 false) (.seq (.region c57_r2 false) (.seq (.seq (.region c57_r3 false) (.cond (.tmp 11) (.seq (.seq (.region c57_r4 false) (.cond (.tmp 12) (.seq (.region c57_r5 false) .ret) .skip)) (.seq (.region c57_r6 false) .ret)) .skip)) (.seq (.seq (.region c57_r7 false) (.cond (.tmp 13) (.seq (.region c57_r8 false) .ret) .skip)) (.seq (.seq (.region c57_r9 false) (.cond (.tmp 16) (.seq (.region c57_r10 false) .ret) .skip)) (.seq (.seq (.region c57_r11 false) (.cond (.tmp 19) (.seq (.region c57_r12 false) .ret) .skip)) (.seq (.region c57_r13 false) .ret))))))))⟩
theorem F57 : funcsOf Try.prog [] 57 = some c57 := by kernel_rfl

def c60_r0 : List AOper := [
  ⟨(some 10), .mov (.val (.bool true)), none, [], 0, 0, false⟩]
def c60_r1 : List AOper := [
  ⟨(some 11), .mov (.val (.bool true)), none, [], 0, 0, false⟩]
def c60_r2 : List AOper := [
  ⟨(some 21), .mov (.tmp 2), none, [], 0, 0, false⟩,
  ⟨(some 22), .mov (.tmp 1), none, [], 0, 0, false⟩,
  ⟨(some 23), .bin .sub (.tmp 21) (.tmp 22), none, [], 0, 0, false⟩,
  ⟨(some 12), .mov (.tmp 23), none, [], 0, 0, false⟩]
def c60_r3 : List AOper := [
  ⟨(some 24), .mov (.tmp 12), none, [], 0, 0, false⟩,
  ⟨(some 25), .bin .leq (.tmp 24) (.val (.int .i64 12)), none, [], 0, 0, false⟩]
def c60_r4 : List AOper := [
  ⟨(some 26), .mov (.tmp 0), none, [], 0, 0, false⟩,
  ⟨(some 27), .mov (.tmp 1), none, [], 0, 0, false⟩,
  ⟨(some 28), .mov (.tmp 2), none, [], 0, 0, false⟩,
  ⟨(some 29), .mov (.tmp 4), none, [], 0, 0, false⟩,
  ⟨(some 30), .call (.val (.func (.func 63) [] [])) [(.tmp 26), (.tmp 27), (.tmp 28), (.tmp 29)], none, [], 0, 0, false⟩]
def c60_r5 : List AOper := [
  ⟨(some 31), .mov (.tmp 3), none, [], 0, 0, false⟩,
  ⟨(some 32), .bin .eql (.tmp 31) (.val (.int .i64 0)), none, [], 0, 0, false⟩]
def c60_r6 : List AOper := [
  ⟨(some 33), .mov (.tmp 0), none, [], 0, 0, false⟩,
  ⟨(some 34), .mov (.tmp 1), none, [], 0, 0, false⟩,
  ⟨(some 35), .mov (.tmp 2), none, [], 0, 0, false⟩,
  ⟨(some 36), .mov (.tmp 4), none, [], 0, 0, false⟩,
  ⟨(some 37), .call (.val (.func (.func 64) [] [])) [(.tmp 33), (.tmp 34), (.tmp 35), (.tmp 36)], none, [], 0, 0, false⟩]
def c60_r7 : List AOper := [
  ⟨(some 38), .mov (.tmp 10), none, [], 0, 0, false⟩,
  ⟨(some 39), .un .not (.tmp 38), none, [], 0, 0, false⟩]
def c60_r8 : List AOper := [
  ⟨(some 40), .mov (.tmp 0), none, [], 0, 0, false⟩,
  ⟨(some 41), .mov (.tmp 1), none, [], 0, 0, false⟩,
  ⟨(some 42), .mov (.tmp 2), none, [], 0, 0, false⟩,
  ⟨(some 43), .mov (.tmp 4), none, [], 0, 0, false⟩,
  ⟨(some 44), .call (.val (.func (.func 65) [] [])) [(.tmp 40), (.tmp 41), (.tmp 42), (.tmp 43)], none, [], 0, 0, false⟩]
def c60_r9 : List AOper := [
  ⟨(some 45), .mov (.tmp 3), none, [], 0, 0, false⟩,
  ⟨(some 46), .bin .sub (.tmp 45) (.val (.int .i64 1)), none, [], 0, 0, false⟩,
  ⟨(some 3), .mov (.tmp 46), none, [], 0, 0, false⟩]
def c60_r10 : List AOper := [
  ⟨(some 48), .mov (.tmp 0), none, [], 0, 0, false⟩,
  ⟨(some 49), .mov (.tmp 1), none, [], 0, 0, false⟩,
  ⟨(some 50), .mov (.tmp 2), none, [], 0, 0, false⟩,
  ⟨(some 51), .mov (.tmp 4), none, [], 0, 0, false⟩,
  ⟨(some 52), .call (.val (.func (.func 66) [] [])) [(.tmp 48), (.tmp 49), (.tmp 50), (.tmp 51)], none, [], 0, 0, false⟩,
  ⟨(some 47), .mov (.tmp 52), none, [], 0, 0, false⟩,
  ⟨(some 53), .extract (.tmp 47) 0, none, [], 0, 0, false⟩,
  ⟨(some 54), .extract (.tmp 47) 1, none, [], 0, 0, false⟩,
  ⟨(some 13), .mov (.tmp 53), none, [], 0, 0, false⟩,
  ⟨(some 14), .mov (.tmp 54), none, [], 0, 0, false⟩]
def c60_r11 : List AOper := [
  ⟨(some 55), .mov (.tmp 14), none, [], 0, 0, false⟩,
  ⟨(some 56), .bin .eql (.tmp 55) (.val (.int .i64 2)), none, [], 0, 0, false⟩]
def c60_r12 : List AOper := [
  ⟨(some 57), .mov (.tmp 0), none, [], 0, 0, false⟩,
  ⟨(some 58), .mov (.tmp 1), none, [], 0, 0, false⟩,
  ⟨(some 59), .mov (.tmp 2), none, [], 0, 0, false⟩,
  ⟨(some 60), .mov (.tmp 4), none, [], 0, 0, false⟩,
  ⟨(some 61), .call (.val (.func (.func 67) [] [])) [(.tmp 57), (.tmp 58), (.tmp 59), (.tmp 60)], none, [], 0, 0, false⟩]
def c60_r13 : List AOper := [
  ⟨(some 62), .mov (.tmp 2), none, [], 0, 0, false⟩,
  ⟨(some 63), .bin .sub (.tmp 62) (.val (.int .i64 1)), none, [], 0, 0, false⟩,
  ⟨(some 64), .mov (.tmp 13), none, [], 0, 0, false⟩,
  ⟨(some 65), .mov (.tmp 1), none, [], 0, 0, false⟩,
  ⟨(some 66), .bin .sub (.tmp 64) (.tmp 65), none, [], 0, 0, false⟩,
  ⟨(some 67), .bin .sub (.tmp 63) (.tmp 66), none, [], 0, 0, false⟩,
  ⟨(some 13), .mov (.tmp 67), none, [], 0, 0, false⟩]
def c60_r14 : List AOper := [
  ⟨(some 14), .mov (.val (.int .i64 1)), none, [], 0, 0, false⟩]
def c60_r15 : List AOper := [
  ⟨(some 68), .mov (.tmp 10), none, [], 0, 0, false⟩,
  ⟨(some 69), .mov (.tmp 68), none, [], 0, 0, false⟩,
  ⟨(some 70), .mov (.tmp 11), (some (69, true)), [], 0, 0, false⟩,
  ⟨(some 71), .pick (.tmp 69) (.tmp 70) (.val (.bool false)), none, [], 0, 0, false⟩,
  ⟨(some 72), .mov (.tmp 71), none, [], 0, 0, false⟩,
  ⟨(some 73), .mov (.tmp 14), (some (72, true)), [], 0, 0, false⟩,
  ⟨(some 74), .bin .eql (.tmp 73) (.val (.int .i64 1)), (some (72, true)), [], 0, 0, false⟩,
  ⟨(some 75), .pick (.tmp 72) (.tmp 74) (.val (.bool false)), none, [], 0, 0, false⟩]
def c60_r16 : List AOper := [
  ⟨(some 76), .mov (.tmp 0), none, [], 0, 0, false⟩,
  ⟨(some 77), .mov (.tmp 1), none, [], 0, 0, false⟩,
  ⟨(some 78), .mov (.tmp 2), none, [], 0, 0, false⟩,
  ⟨(some 79), .mov (.tmp 4), none, [], 0, 0, false⟩,
  ⟨(some 80), .call (.val (.func (.func 68) [] [])) [(.tmp 76), (.tmp 77), (.tmp 78), (.tmp 79)], none, [], 0, 0, false⟩]
def c60_r17 : List AOper := [
  ⟨(some 81), .mov (.tmp 1), none, [1], 0, 0, false⟩,
  ⟨(some 82), .bin .gtr (.tmp 81) (.val (.int .i64 0)), none, [81], 0, 0, false⟩,
  ⟨(some 83), .mov (.tmp 82), none, [82], 0, 0, false⟩,
  ⟨(some 84), .mov (.tmp 4), (some (83, true)), [4], 0, 0, false⟩,
  ⟨(some 85), .mov (.tmp 0), (some (83, true)), [0], 0, 0, false⟩,
  ⟨(some 86), .mov (.tmp 1), (some (83, true)), [1], 0, 0, false⟩,
  ⟨(some 87), .bin .sub (.tmp 86) (.val (.int .i64 1)), (some (83, true)), [86], 0, 0, false⟩,
  ⟨(some 88), .idxAddr 1 (.tmp 85) (.tmp 87), (some (83, true)), [85, 87], 0, 0, false⟩,
  ⟨(some 89), .load none (.tmp 88), (some (83, true)), [88], 0, 0, false⟩,
  ⟨(some 90), .mov (.tmp 0), (some (83, true)), [0], 0, 0, false⟩,
  ⟨(some 91), .mov (.tmp 13), (some (83, true)), [13], 0, 0, false⟩,
  ⟨(some 92), .idxAddr 1 (.tmp 90) (.tmp 91), (some (83, true)), [90, 91], 0, 0, false⟩,
  ⟨(some 93), .load none (.tmp 92), (some (83, true)), [92], 0, 0, false⟩,
  ⟨(some 94), .call (.tmp 84) [(.tmp 89), (.tmp 93)], (some (83, true)), [84, 89, 93], 0, 1, false⟩,
  ⟨(some 95), .bin .lss (.tmp 94) (.val (.int .i64 0)), (some (83, true)), [94], 1, 1, false⟩,
  ⟨(some 96), .un .not (.tmp 95), (some (83, true)), [95], 1, 1, false⟩,
  ⟨(some 97), .pick (.tmp 83) (.tmp 96) (.val (.bool false)), none, [83, 96], 1, 1, false⟩]
def c60_r18 : List AOper := [
  ⟨(some 98), .mov (.tmp 0), none, [], 0, 0, false⟩,
  ⟨(some 99), .mov (.tmp 1), none, [], 0, 0, false⟩,
  ⟨(some 100), .mov (.tmp 2), none, [], 0, 0, false⟩,
  ⟨(some 101), .mov (.tmp 13), none, [], 0, 0, false⟩,
  ⟨(some 102), .mov (.tmp 4), none, [], 0, 0, false⟩,
  ⟨(some 103), .call (.val (.func (.func 69) [] [])) [(.tmp 98), (.tmp 99), (.tmp 100), (.tmp 101), (.tmp 102)], none, [], 0, 0, false⟩,
  ⟨(some 15), .mov (.tmp 103), none, [], 0, 0, false⟩]
def c60_r19 : List AOper := [
  ⟨(some 104), .mov (.tmp 15), none, [], 0, 0, false⟩,
  ⟨(some 1), .mov (.tmp 104), none, [], 0, 0, false⟩]
def c60_r20 : List AOper := [
  ⟨(some 106), .mov (.tmp 0), none, [], 0, 0, false⟩,
  ⟨(some 107), .mov (.tmp 1), none, [], 0, 0, false⟩,
  ⟨(some 108), .mov (.tmp 2), none, [], 0, 0, false⟩,
  ⟨(some 109), .mov (.tmp 13), none, [], 0, 0, false⟩,
  ⟨(some 110), .mov (.tmp 4), none, [], 0, 0, false⟩,
  ⟨(some 111), .call (.val (.func (.func 70) [] [])) [(.tmp 106), (.tmp 107), (.tmp 108), (.tmp 109), (.tmp 110)], none, [], 0, 0, false⟩,
  ⟨(some 105), .mov (.tmp 111), none, [], 0, 0, false⟩,
  ⟨(some 112), .extract (.tmp 105) 0, none, [], 0, 0, false⟩,
  ⟨(some 113), .extract (.tmp 105) 1, none, [], 0, 0, false⟩,
  ⟨(some 16), .mov (.tmp 112), none, [], 0, 0, false⟩,
  ⟨(some 17), .mov (.tmp 113), none, [], 0, 0, false⟩]
def c60_r21 : List AOper := [
  ⟨(some 114), .mov (.tmp 17), none, [], 0, 0, false⟩,
  ⟨(some 11), .mov (.tmp 114), none, [], 0, 0, false⟩]
def c60_r22 : List AOper := [
  ⟨(some 115), .mov (.tmp 16), none, [], 0, 0, false⟩,
  ⟨(some 116), .mov (.tmp 1), none, [], 0, 0, false⟩,
  ⟨(some 117), .bin .sub (.tmp 115) (.tmp 116), none, [], 0, 0, false⟩,
  ⟨(some 118), .mov (.tmp 2), none, [], 0, 0, false⟩,
  ⟨(some 119), .mov (.tmp 16), none, [], 0, 0, false⟩,
  ⟨(some 120), .bin .sub (.tmp 118) (.tmp 119), none, [], 0, 0, false⟩,
  ⟨(some 18), .mov (.tmp 117), none, [], 0, 0, false⟩,
  ⟨(some 19), .mov (.tmp 120), none, [], 0, 0, false⟩]
def c60_r23 : List AOper := [
  ⟨(some 121), .mov (.tmp 12), none, [], 0, 0, false⟩,
  ⟨(some 122), .bin .quo (.tmp 121) (.val (.int .i64 8)), none, [], 0, 0, false⟩,
  ⟨(some 20), .mov (.tmp 122), none, [], 0, 0, false⟩]
def c60_r24 : List AOper := [
  ⟨(some 123), .mov (.tmp 18), none, [], 0, 0, false⟩,
  ⟨(some 124), .mov (.tmp 19), none, [], 0, 0, false⟩,
  ⟨(some 125), .bin .lss (.tmp 123) (.tmp 124), none, [], 0, 0, false⟩]
def c60_r25 : List AOper := [
  ⟨(some 126), .mov (.tmp 18), none, [], 0, 0, false⟩,
  ⟨(some 127), .mov (.tmp 20), none, [], 0, 0, false⟩,
  ⟨(some 128), .bin .geq (.tmp 126) (.tmp 127), none, [], 0, 0, false⟩,
  ⟨(some 10), .mov (.tmp 128), none, [], 0, 0, false⟩]
def c60_r26 : List AOper := [
  ⟨(some 129), .mov (.tmp 0), none, [], 0, 0, false⟩,
  ⟨(some 130), .mov (.tmp 1), none, [], 0, 0, false⟩,
  ⟨(some 131), .mov (.tmp 16), none, [], 0, 0, false⟩,
  ⟨(some 132), .mov (.tmp 3), none, [], 0, 0, false⟩,
  ⟨(some 133), .mov (.tmp 4), none, [], 0, 0, false⟩,
  ⟨(some 134), .call (.val (.func (.func 60) [] [])) [(.tmp 129), (.tmp 130), (.tmp 131), (.tmp 132), (.tmp 133)], none, [], 0, 0, false⟩]
def c60_r27 : List AOper := [
  ⟨(some 135), .mov (.tmp 16), none, [], 0, 0, false⟩,
  ⟨(some 136), .bin .add (.tmp 135) (.val (.int .i64 1)), none, [], 0, 0, false⟩,
  ⟨(some 1), .mov (.tmp 136), none, [], 0, 0, false⟩]
def c60_r28 : List AOper := [
  ⟨(some 137), .mov (.tmp 19), none, [], 0, 0, false⟩,
  ⟨(some 138), .mov (.tmp 20), none, [], 0, 0, false⟩,
  ⟨(some 139), .bin .geq (.tmp 137) (.tmp 138), none, [], 0, 0, false⟩,
  ⟨(some 10), .mov (.tmp 139), none, [], 0, 0, false⟩]
def c60_r29 : List AOper := [
  ⟨(some 140), .mov (.tmp 0), none, [], 0, 0, false⟩,
  ⟨(some 141), .mov (.tmp 16), none, [], 0, 0, false⟩,
  ⟨(some 142), .bin .add (.tmp 141) (.val (.int .i64 1)), none, [], 0, 0, false⟩,
  ⟨(some 143), .mov (.tmp 2), none, [], 0, 0, false⟩,
  ⟨(some 144), .mov (.tmp 3), none, [], 0, 0, false⟩,
  ⟨(some 145), .mov (.tmp 4), none, [], 0, 0, false⟩,
  ⟨(some 146), .call (.val (.func (.func 60) [] [])) [(.tmp 140), (.tmp 142), (.tmp 143), (.tmp 144), (.tmp 145)], none, [], 0, 0, false⟩]
def c60_r30 : List AOper := [
  ⟨(some 147), .mov (.tmp 16), none, [], 0, 0, false⟩,
  ⟨(some 2), .mov (.tmp 147), none, [], 0, 0, false⟩]
def c60_l31 : ACode := (.block 1 (.seq (.region c60_r2 false) (.seq (.seq (.region c60_r3 false) (.cond (.tmp 25) (.seq (.region c60_r4 false) .ret) .skip)) (.seq (.seq (.region c60_r5 false) (.cond (.tmp 32) (.seq (.region c60_r6 false) .ret) .skip)) (.seq (.seq (.region c60_r7 false) (.cond (.tmp 39) (.seq (.region c60_r8 false) (.region c60_r9 false)) .skip)) (.seq (.region c60_r10 false) (.seq (.seq (.region c60_r11 false) (.cond (.tmp 56) (.seq (.region c60_r12 false) (.seq (.region c60_r13 false) (.region c60_r14 false))) .skip)) (.seq (.seq (.region c60_r15 false) (.cond (.tmp 75) (.seq (.region c60_r16 false) (.cond (.tmp 80) .ret .skip)) .skip)) (.seq (.seq (.region c60_r17 true) (.cond (.tmp 97) (.seq (.region c60_r18 false) (.seq (.region c60_r19 false) (.exit 1))) .skip)) (.seq (.region c60_r20 false) (.seq (.region c60_r21 false) (.seq (.region c60_r22 false) (.seq (.region c60_r23 false) (.seq (.region c60_r24 false) (.cond (.tmp 125) (.seq (.region c60_r25 false) (.seq (.region c60_r26 false) (.region c60_r27 false))) (.seq (.region c60_r28 false) (.seq (.region c60_r29 false) (.region c60_r30 false))))))))))))))))))
def c60 : AFn := ⟨148, [],
  (.seq (.region c60_r0 false) (.seq (.region c60_r1 false) (.block 0 (.loop c60_l31))))⟩
theorem F60 : funcsOf Try.prog [] 60 = some c60 := by kernel_rfl

def c61_r0 : List AOper := [
  ⟨(some 2), .mov (.val (.int .i64 0)), none, [], 0, 0, false⟩]
def c61_r1 : List AOper := [
  ⟨(some 3), .mov (.tmp 0), none, [], 0, 0, false⟩,
  ⟨(some 4), .convInt .u32 (.tmp 3), none, [], 0, 0, false⟩,
  ⟨(some 5), .call (.val (.func (.func 71) [] [])) [(.tmp 4)], none, [], 0, 0, false⟩,
  ⟨(some 2), .mov (.tmp 5), none, [], 0, 0, false⟩]
def c61_r2 : List AOper := [
  ⟨(some 6), .mov (.tmp 0), none, [], 0, 0, false⟩,
  ⟨(some 7), .call (.val (.func (.func 72) [] [])) [(.tmp 6)], none, [], 0, 0, false⟩,
  ⟨(some 2), .mov (.tmp 7), none, [], 0, 0, false⟩]
def c61 : AFn := ⟨8, [(2, none)],
  (.seq (.region c61_r0 false) (.seq (.cond (.val (.bool false)) (.seq (.region c61_r1 false) .ret) .skip) (.seq (.region c61_r2 false) .ret)))⟩
theorem F61 : funcsOf Try.prog [] 61 = some c61 := by kernel_rfl

def c62_r0 : List AOper := [
  ⟨(some 2), .mov (.val (.bool false)), none, [], 0, 0, false⟩]
def c62_r1 : List AOper := [
  ⟨(some 3), .mov (.tmp 0), none, [], 0, 0, false⟩,
  ⟨(some 4), .mov (.tmp 0), none, [], 0, 0, false⟩,
  ⟨(some 5), .bin .neq (.tmp 3) (.tmp 4), none, [], 0, 0, false⟩,
  ⟨(some 2), .mov (.tmp 5), none, [], 0, 0, false⟩]
def c62 : AFn := ⟨6, [(2, none)],
  (.seq (.region c62_r0 false) (.seq (.region c62_r1 false) .ret))⟩
theorem F62 : funcsOf Try.prog [] 62 = some c62 := by kernel_rfl

def c63_r0 : List AOper := [
  ⟨(some 10), .mov (.tmp 1), none, [], 0, 0, false⟩,
  ⟨(some 11), .bin .add (.tmp 10) (.val (.int .i64 1)), none, [], 0, 0, false⟩,
  ⟨(some 8), .mov (.tmp 11), none, [], 0, 0, false⟩]
def c63_r1 : List AOper := [
  ⟨(some 12), .mov (.tmp 8), none, [], 0, 0, false⟩,
  ⟨(some 13), .mov (.tmp 2), none, [], 0, 0, false⟩,
  ⟨(some 14), .bin .lss (.tmp 12) (.tmp 13), none, [], 0, 0, false⟩]
def c63_r2 : List AOper := [
  ⟨(some 17), .mov (.tmp 8), none, [], 0, 0, false⟩,
  ⟨(some 9), .mov (.tmp 17), none, [], 0, 0, false⟩]
def c63_r3 : List AOper := [
  ⟨(some 18), .mov (.tmp 9), none, [9], 0, 0, false⟩,
  ⟨(some 19), .mov (.tmp 1), none, [1], 0, 0, false⟩,
  ⟨(some 20), .bin .gtr (.tmp 18) (.tmp 19), none, [18, 19], 0, 0, false⟩,
  ⟨(some 21), .mov (.tmp 20), none, [20], 0, 0, false⟩,
  ⟨(some 22), .mov (.tmp 3), (some (21, true)), [3], 0, 0, false⟩,
  ⟨(some 23), .mov (.tmp 0), (some (21, true)), [0], 0, 0, false⟩,
  ⟨(some 24), .mov (.tmp 9), (some (21, true)), [9], 0, 0, false⟩,
  ⟨(some 25), .idxAddr 1 (.tmp 23) (.tmp 24), (some (21, true)), [23, 24], 0, 0, false⟩,
  ⟨(some 26), .load none (.tmp 25), (some (21, true)), [25], 0, 0, false⟩,
  ⟨(some 27), .mov (.tmp 0), (some (21, true)), [0], 0, 0, false⟩,
  ⟨(some 28), .mov (.tmp 9), (some (21, true)), [9], 0, 0, false⟩,
  ⟨(some 29), .bin .sub (.tmp 28) (.val (.int .i64 1)), (some (21, true)), [28], 0, 0, false⟩,
  ⟨(some 30), .idxAddr 1 (.tmp 27) (.tmp 29), (some (21, true)), [27, 29], 0, 0, false⟩,
  ⟨(some 31), .load none (.tmp 30), (some (21, true)), [30], 0, 0, false⟩,
  ⟨(some 32), .call (.tmp 22) [(.tmp 26), (.tmp 31)], (some (21, true)), [22, 26, 31], 0, 1, false⟩,
  ⟨(some 33), .bin .lss (.tmp 32) (.val (.int .i64 0)), (some (21, true)), [32], 1, 1, false⟩,
  ⟨(some 34), .pick (.tmp 21) (.tmp 33) (.val (.bool false)), none, [21, 33], 1, 1, false⟩]
def c63_r4 : List AOper := [
  ⟨(some 37), .mov (.tmp 0), none, [0], 0, 0, false⟩,
  ⟨(some 38), .mov (.tmp 9), none, [9], 0, 0, false⟩,
  ⟨(some 39), .mov (.tmp 0), none, [0], 0, 1, false⟩,
  ⟨(some 40), .mov (.tmp 9), none, [9], 0, 1, false⟩,
  ⟨(some 41), .bin .sub (.tmp 40) (.val (.int .i64 1)), none, [40], 0, 1, false⟩,
  ⟨(some 42), .mov (.tmp 0), none, [0], 0, 0, false⟩,
  ⟨(some 43), .mov (.tmp 9), none, [9], 0, 0, false⟩,
  ⟨(some 44), .bin .sub (.tmp 43) (.val (.int .i64 1)), none, [43], 0, 0, false⟩,
  ⟨(some 45), .idxAddr 1 (.tmp 42) (.tmp 44), none, [42, 44], 0, 0, false⟩,
  ⟨(some 46), .load none (.tmp 45), none, [45], 0, 0, false⟩,
  ⟨(some 47), .mov (.tmp 0), none, [0], 0, 0, false⟩,
  ⟨(some 48), .mov (.tmp 9), none, [9], 0, 0, false⟩,
  ⟨(some 49), .idxAddr 1 (.tmp 47) (.tmp 48), none, [47, 48], 0, 0, false⟩,
  ⟨(some 50), .load none (.tmp 49), none, [49], 0, 0, false⟩,
  ⟨(some 51), .idxAddr 1 (.tmp 37) (.tmp 38), none, [37, 38], 0, 0, false⟩,
  ⟨none, .store 1 (.tmp 51) (.tmp 46), none, [51, 46], 0, 1, false⟩,
  ⟨(some 52), .idxAddr 1 (.tmp 39) (.tmp 41), none, [39, 41], 1, 1, false⟩,
  ⟨none, .store 1 (.tmp 52) (.tmp 50), none, [52, 50], 1, 2, false⟩]
def c63_r5 : List AOper := [
  ⟨(some 35), .mov (.tmp 9), none, [], 0, 0, false⟩,
  ⟨(some 36), .bin .sub (.tmp 35) (.val (.int .i64 1)), none, [], 0, 0, false⟩,
  ⟨(some 9), .mov (.tmp 36), none, [], 0, 0, false⟩]
def c63_l6 : ACode := (.seq (.seq (.region c63_r3 true) (.cond (.tmp 34) .skip (.exit 2))) (.seq (.block 3 (.region c63_r4 true)) (.region c63_r5 false)))
def c63_r7 : List AOper := [
  ⟨(some 15), .mov (.tmp 8), none, [], 0, 0, false⟩,
  ⟨(some 16), .bin .add (.tmp 15) (.val (.int .i64 1)), none, [], 0, 0, false⟩,
  ⟨(some 8), .mov (.tmp 16), none, [], 0, 0, false⟩]
def c63_l8 : ACode := (.seq (.seq (.region c63_r1 false) (.cond (.tmp 14) .skip (.exit 0))) (.seq (.block 1 (.seq (.region c63_r2 false) (.block 2 (.loop c63_l6)))) (.region c63_r7 false)))
def c63 : AFn := ⟨53, [],
  (.seq (.region c63_r0 false) (.block 0 (.loop c63_l8)))⟩
theorem F63 : funcsOf Try.prog [] 63 = some c63 := by kernel_rfl

def c64_r0 : List AOper := [
  ⟨(some 13), .mov (.tmp 1), none, [], 0, 0, false⟩,
  ⟨(some 8), .mov (.tmp 13), none, [], 0, 0, false⟩]
def c64_r1 : List AOper := [
  ⟨(some 9), .mov (.val (.int .i64 0)), none, [], 0, 0, false⟩]
def c64_r2 : List AOper := [
  ⟨(some 14), .mov (.tmp 2), none, [], 0, 0, false⟩,
  ⟨(some 15), .mov (.tmp 1), none, [], 0, 0, false⟩,
  ⟨(some 16), .bin .sub (.tmp 14) (.tmp 15), none, [], 0, 0, false⟩,
  ⟨(some 10), .mov (.tmp 16), none, [], 0, 0, false⟩]
def c64_r3 : List AOper := [
  ⟨(some 17), .mov (.tmp 10), none, [], 0, 0, false⟩,
  ⟨(some 18), .bin .sub (.tmp 17) (.val (.int .i64 1)), none, [], 0, 0, false⟩,
  ⟨(some 19), .bin .quo (.tmp 18) (.val (.int .i64 2)), none, [], 0, 0, false⟩,
  ⟨(some 11), .mov (.tmp 19), none, [], 0, 0, false⟩]
def c64_r4 : List AOper := [
  ⟨(some 20), .mov (.tmp 11), none, [], 0, 0, false⟩,
  ⟨(some 21), .bin .geq (.tmp 20) (.val (.int .i64 0)), none, [], 0, 0, false⟩]
def c64_r5 : List AOper := [
  ⟨(some 24), .mov (.tmp 0), none, [], 0, 0, false⟩,
  ⟨(some 25), .mov (.tmp 11), none, [], 0, 0, false⟩,
  ⟨(some 26), .mov (.tmp 10), none, [], 0, 0, false⟩,
  ⟨(some 27), .mov (.tmp 8), none, [], 0, 0, false⟩,
  ⟨(some 28), .mov (.tmp 3), none, [], 0, 0, false⟩,
  ⟨(some 29), .call (.val (.func (.func 73) [] [])) [(.tmp 24), (.tmp 25), (.tmp 26), (.tmp 27), (.tmp 28)], none, [], 0, 0, false⟩]
def c64_r6 : List AOper := [
  ⟨(some 22), .mov (.tmp 11), none, [], 0, 0, false⟩,
  ⟨(some 23), .bin .sub (.tmp 22) (.val (.int .i64 1)), none, [], 0, 0, false⟩,
  ⟨(some 11), .mov (.tmp 23), none, [], 0, 0, false⟩]
def c64_l7 : ACode := (.seq (.seq (.region c64_r4 false) (.cond (.tmp 21) .skip (.exit 0))) (.seq (.block 1 (.region c64_r5 false)) (.region c64_r6 false)))
def c64_r8 : List AOper := [
  ⟨(some 30), .mov (.tmp 10), none, [], 0, 0, false⟩,
  ⟨(some 31), .bin .sub (.tmp 30) (.val (.int .i64 1)), none, [], 0, 0, false⟩,
  ⟨(some 12), .mov (.tmp 31), none, [], 0, 0, false⟩]
def c64_r9 : List AOper := [
  ⟨(some 32), .mov (.tmp 12), none, [], 0, 0, false⟩,
  ⟨(some 33), .bin .geq (.tmp 32) (.val (.int .i64 0)), none, [], 0, 0, false⟩]
def c64_r10 : List AOper := [
  ⟨(some 36), .mov (.tmp 0), none, [0], 0, 0, false⟩,
  ⟨(some 37), .mov (.tmp 8), none, [8], 0, 0, false⟩,
  ⟨(some 38), .mov (.tmp 0), none, [0], 0, 1, false⟩,
  ⟨(some 39), .mov (.tmp 8), none, [8], 0, 1, false⟩,
  ⟨(some 40), .mov (.tmp 12), none, [12], 0, 1, false⟩,
  ⟨(some 41), .bin .add (.tmp 39) (.tmp 40), none, [39, 40], 0, 1, false⟩,
  ⟨(some 42), .mov (.tmp 0), none, [0], 0, 0, false⟩,
  ⟨(some 43), .mov (.tmp 8), none, [8], 0, 0, false⟩,
  ⟨(some 44), .mov (.tmp 12), none, [12], 0, 0, false⟩,
  ⟨(some 45), .bin .add (.tmp 43) (.tmp 44), none, [43, 44], 0, 0, false⟩,
  ⟨(some 46), .idxAddr 1 (.tmp 42) (.tmp 45), none, [42, 45], 0, 0, false⟩,
  ⟨(some 47), .load none (.tmp 46), none, [46], 0, 0, false⟩,
  ⟨(some 48), .mov (.tmp 0), none, [0], 0, 0, false⟩,
  ⟨(some 49), .mov (.tmp 8), none, [8], 0, 0, false⟩,
  ⟨(some 50), .idxAddr 1 (.tmp 48) (.tmp 49), none, [48, 49], 0, 0, false⟩,
  ⟨(some 51), .load none (.tmp 50), none, [50], 0, 0, false⟩,
  ⟨(some 52), .idxAddr 1 (.tmp 36) (.tmp 37), none, [36, 37], 0, 0, false⟩,
  ⟨none, .store 1 (.tmp 52) (.tmp 47), none, [52, 47], 0, 1, false⟩,
  ⟨(some 53), .idxAddr 1 (.tmp 38) (.tmp 41), none, [38, 41], 1, 1, false⟩,
  ⟨none, .store 1 (.tmp 53) (.tmp 51), none, [53, 51], 1, 2, false⟩]
def c64_r11 : List AOper := [
  ⟨(some 54), .mov (.tmp 0), none, [], 0, 0, false⟩,
  ⟨(some 55), .mov (.tmp 9), none, [], 0, 0, false⟩,
  ⟨(some 56), .mov (.tmp 12), none, [], 0, 0, false⟩,
  ⟨(some 57), .mov (.tmp 8), none, [], 0, 0, false⟩,
  ⟨(some 58), .mov (.tmp 3), none, [], 0, 0, false⟩,
  ⟨(some 59), .call (.val (.func (.func 73) [] [])) [(.tmp 54), (.tmp 55), (.tmp 56), (.tmp 57), (.tmp 58)], none, [], 0, 0, false⟩]
def c64_r12 : List AOper := [
  ⟨(some 34), .mov (.tmp 12), none, [], 0, 0, false⟩,
  ⟨(some 35), .bin .sub (.tmp 34) (.val (.int .i64 1)), none, [], 0, 0, false⟩,
  ⟨(some 12), .mov (.tmp 35), none, [], 0, 0, false⟩]
def c64_l13 : ACode := (.seq (.seq (.region c64_r9 false) (.cond (.tmp 33) .skip (.exit 2))) (.seq (.block 3 (.seq (.region c64_r10 true) (.region c64_r11 false))) (.region c64_r12 false)))
def c64 : AFn := ⟨60, [],
  (.seq (.region c64_r0 false) (.seq (.region c64_r1 false) (.seq (.region c64_r2 false) (.seq (.seq (.region c64_r3 false) (.block 0 (.loop c64_l7))) (.seq (.region c64_r8 false) (.block 2 (.loop c64_l13)))))))⟩
theorem F64 : funcsOf Try.prog [] 64 = some c64 := by kernel_rfl

def c65_r0 : List AOper := [
  ⟨(some 13), .mov (.tmp 2), none, [], 0, 0, false⟩,
  ⟨(some 14), .mov (.tmp 1), none, [], 0, 0, false⟩,
  ⟨(some 15), .bin .sub (.tmp 13) (.tmp 14), none, [], 0, 0, false⟩,
  ⟨(some 8), .mov (.tmp 15), none, [], 0, 0, false⟩]
def c65_r1 : List AOper := [
  ⟨(some 16), .mov (.tmp 8), none, [], 0, 0, false⟩,
  ⟨(some 17), .bin .geq (.tmp 16) (.val (.int .i64 8)), none, [], 0, 0, false⟩]
def c65_r2 : List AOper := [
  ⟨(some 18), .mov (.tmp 8), none, [], 0, 0, false⟩,
  ⟨(some 19), .convInt .u64 (.tmp 18), none, [], 0, 0, false⟩,
  ⟨(some 9), .alloc [(.int .u64 0)] 121, none, [], 0, 0, false⟩,
  ⟨none, .store 1 (.tmp 9) (.tmp 19), none, [], 0, 0, false⟩]
def c65_r3 : List AOper := [
  ⟨(some 20), .mov (.tmp 8), none, [], 0, 0, false⟩,
  ⟨(some 21), .call (.val (.func (.func 74) [] [])) [(.tmp 20)], none, [], 0, 0, false⟩,
  ⟨(some 10), .mov (.tmp 21), none, [], 0, 0, false⟩]
def c65_r4 : List AOper := [
  ⟨(some 22), .mov (.tmp 1), none, [], 0, 0, false⟩,
  ⟨(some 23), .mov (.tmp 8), none, [], 0, 0, false⟩,
  ⟨(some 24), .bin .quo (.tmp 23) (.val (.int .i64 4)), none, [], 0, 0, false⟩,
  ⟨(some 25), .bin .mul (.tmp 24) (.val (.int .i64 2)), none, [], 0, 0, false⟩,
  ⟨(some 26), .bin .add (.tmp 22) (.tmp 25), none, [], 0, 0, false⟩,
  ⟨(some 27), .bin .sub (.tmp 26) (.val (.int .i64 1)), none, [], 0, 0, false⟩,
  ⟨(some 11), .mov (.tmp 27), none, [], 0, 0, false⟩]
def c65_r5 : List AOper := [
  ⟨(some 28), .mov (.tmp 11), none, [], 0, 0, false⟩,
  ⟨(some 29), .mov (.tmp 1), none, [], 0, 0, false⟩,
  ⟨(some 30), .mov (.tmp 8), none, [], 0, 0, false⟩,
  ⟨(some 31), .bin .quo (.tmp 30) (.val (.int .i64 4)), none, [], 0, 0, false⟩,
  ⟨(some 32), .bin .mul (.tmp 31) (.val (.int .i64 2)), none, [], 0, 0, false⟩,
  ⟨(some 33), .bin .add (.tmp 29) (.tmp 32), none, [], 0, 0, false⟩,
  ⟨(some 34), .bin .add (.tmp 33) (.val (.int .i64 1)), none, [], 0, 0, false⟩,
  ⟨(some 35), .bin .leq (.tmp 28) (.tmp 34), none, [], 0, 0, false⟩]
def c65_r6 : List AOper := [
  ⟨(some 38), .call (.val (.func (.func 75) [] [])) [(.tmp 9)], none, [], 0, 0, false⟩,
  ⟨(some 39), .mov (.tmp 10), none, [], 0, 0, false⟩,
  ⟨(some 40), .bin .sub (.tmp 39) (.val (.int .u64 1)), none, [], 0, 0, false⟩,
  ⟨(some 41), .bin .and (.tmp 38) (.tmp 40), none, [], 0, 0, false⟩,
  ⟨(some 42), .convInt .i64 (.tmp 41), none, [], 0, 0, false⟩,
  ⟨(some 12), .mov (.tmp 42), none, [], 0, 0, false⟩]
def c65_r7 : List AOper := [
  ⟨(some 43), .mov (.tmp 12), none, [], 0, 0, false⟩,
  ⟨(some 44), .mov (.tmp 8), none, [], 0, 0, false⟩,
  ⟨(some 45), .bin .geq (.tmp 43) (.tmp 44), none, [], 0, 0, false⟩]
def c65_r8 : List AOper := [
  ⟨(some 46), .mov (.tmp 12), none, [], 0, 0, false⟩,
  ⟨(some 47), .mov (.tmp 8), none, [], 0, 0, false⟩,
  ⟨(some 48), .bin .sub (.tmp 46) (.tmp 47), none, [], 0, 0, false⟩,
  ⟨(some 12), .mov (.tmp 48), none, [], 0, 0, false⟩]
def c65_r9 : List AOper := [
  ⟨(some 49), .mov (.tmp 0), none, [0], 0, 0, false⟩,
  ⟨(some 50), .mov (.tmp 11), none, [11], 0, 0, false⟩,
  ⟨(some 51), .mov (.tmp 0), none, [0], 0, 1, false⟩,
  ⟨(some 52), .mov (.tmp 1), none, [1], 0, 1, false⟩,
  ⟨(some 53), .mov (.tmp 12), none, [12], 0, 1, false⟩,
  ⟨(some 54), .bin .add (.tmp 52) (.tmp 53), none, [52, 53], 0, 1, false⟩,
  ⟨(some 55), .mov (.tmp 0), none, [0], 0, 0, false⟩,
  ⟨(some 56), .mov (.tmp 1), none, [1], 0, 0, false⟩,
  ⟨(some 57), .mov (.tmp 12), none, [12], 0, 0, false⟩,
  ⟨(some 58), .bin .add (.tmp 56) (.tmp 57), none, [56, 57], 0, 0, false⟩,
  ⟨(some 59), .idxAddr 1 (.tmp 55) (.tmp 58), none, [55, 58], 0, 0, false⟩,
  ⟨(some 60), .load none (.tmp 59), none, [59], 0, 0, false⟩,
  ⟨(some 61), .mov (.tmp 0), none, [0], 0, 0, false⟩,
  ⟨(some 62), .mov (.tmp 11), none, [11], 0, 0, false⟩,
  ⟨(some 63), .idxAddr 1 (.tmp 61) (.tmp 62), none, [61, 62], 0, 0, false⟩,
  ⟨(some 64), .load none (.tmp 63), none, [63], 0, 0, false⟩,
  ⟨(some 65), .idxAddr 1 (.tmp 49) (.tmp 50), none, [49, 50], 0, 0, false⟩,
  ⟨none, .store 1 (.tmp 65) (.tmp 60), none, [65, 60], 0, 1, false⟩,
  ⟨(some 66), .idxAddr 1 (.tmp 51) (.tmp 54), none, [51, 54], 1, 1, false⟩,
  ⟨none, .store 1 (.tmp 66) (.tmp 64), none, [66, 64], 1, 2, false⟩]
def c65_r10 : List AOper := [
  ⟨(some 36), .mov (.tmp 11), none, [], 0, 0, false⟩,
  ⟨(some 37), .bin .add (.tmp 36) (.val (.int .i64 1)), none, [], 0, 0, false⟩,
  ⟨(some 11), .mov (.tmp 37), none, [], 0, 0, false⟩]
def c65_l11 : ACode := (.seq (.seq (.region c65_r5 false) (.cond (.tmp 35) .skip (.exit 0))) (.seq (.block 1 (.seq (.region c65_r6 false) (.seq (.seq (.region c65_r7 false) (.cond (.tmp 45) (.region c65_r8 false) .skip)) (.region c65_r9 true)))) (.region c65_r10 false)))
def c65 : AFn := ⟨67, [],
  (.seq (.region c65_r0 false) (.seq (.region c65_r1 false) (.cond (.tmp 17) (.seq (.region c65_r2 false) (.seq (.region c65_r3 false) (.seq (.region c65_r4 false) (.block 0 (.loop c65_l11))))) .skip)))⟩
theorem F65 : funcsOf Try.prog [] 65 = some c65 := by kernel_rfl

def c66_r0 : List AOper := [
  ⟨(some 8), .mov (.val (.int .i64 0)), none, [], 0, 0, false⟩,
  ⟨(some 9), .mov (.val (.int .i64 0)), none, [], 0, 0, false⟩]
def c66_r1 : List AOper := [
  ⟨(some 15), .mov (.tmp 2), none, [], 0, 0, false⟩,
  ⟨(some 16), .mov (.tmp 1), none, [], 0, 0, false⟩,
  ⟨(some 17), .bin .sub (.tmp 15) (.tmp 16), none, [], 0, 0, false⟩,
  ⟨(some 10), .mov (.tmp 17), none, [], 0, 0, false⟩]
def c66_r2 : List AOper := [
  ⟨(some 11), .alloc [(.int .i64 0)] 3, none, [], 0, 0, false⟩]
def c66_r3 : List AOper := [
  ⟨(some 18), .mov (.tmp 1), none, [], 0, 0, false⟩,
  ⟨(some 19), .mov (.tmp 10), none, [], 0, 0, false⟩,
  ⟨(some 20), .bin .quo (.tmp 19) (.val (.int .i64 4)), none, [], 0, 0, false⟩,
  ⟨(some 21), .bin .mul (.tmp 20) (.val (.int .i64 1)), none, [], 0, 0, false⟩,
  ⟨(some 22), .bin .add (.tmp 18) (.tmp 21), none, [], 0, 0, false⟩,
  ⟨(some 12), .mov (.tmp 22), none, [], 0, 0, false⟩]
def c66_r4 : List AOper := [
  ⟨(some 23), .mov (.tmp 1), none, [], 0, 0, false⟩,
  ⟨(some 24), .mov (.tmp 10), none, [], 0, 0, false⟩,
  ⟨(some 25), .bin .quo (.tmp 24) (.val (.int .i64 4)), none, [], 0, 0, false⟩,
  ⟨(some 26), .bin .mul (.tmp 25) (.val (.int .i64 2)), none, [], 0, 0, false⟩,
  ⟨(some 27), .bin .add (.tmp 23) (.tmp 26), none, [], 0, 0, false⟩,
  ⟨(some 13), .mov (.tmp 27), none, [], 0, 0, false⟩]
def c66_r5 : List AOper := [
  ⟨(some 28), .mov (.tmp 1), none, [], 0, 0, false⟩,
  ⟨(some 29), .mov (.tmp 10), none, [], 0, 0, false⟩,
  ⟨(some 30), .bin .quo (.tmp 29) (.val (.int .i64 4)), none, [], 0, 0, false⟩,
  ⟨(some 31), .bin .mul (.tmp 30) (.val (.int .i64 3)), none, [], 0, 0, false⟩,
  ⟨(some 32), .bin .add (.tmp 28) (.tmp 31), none, [], 0, 0, false⟩,
  ⟨(some 14), .mov (.tmp 32), none, [], 0, 0, false⟩]
def c66_r6 : List AOper := [
  ⟨(some 33), .mov (.tmp 10), none, [], 0, 0, false⟩,
  ⟨(some 34), .bin .geq (.tmp 33) (.val (.int .i64 8)), none, [], 0, 0, false⟩]
def c66_r7 : List AOper := [
  ⟨(some 35), .mov (.tmp 10), none, [], 0, 0, false⟩,
  ⟨(some 36), .bin .geq (.tmp 35) (.val (.int .i64 50)), none, [], 0, 0, false⟩]
def c66_r8 : List AOper := [
  ⟨(some 37), .mov (.tmp 0), none, [], 0, 0, false⟩,
  ⟨(some 38), .mov (.tmp 12), none, [], 0, 0, false⟩,
  ⟨(some 39), .mov (.tmp 3), none, [], 0, 0, false⟩,
  ⟨(some 40), .call (.val (.func (.func 76) [] [])) [(.tmp 37), (.tmp 38), (.tmp 11), (.tmp 39)], none, [], 0, 0, false⟩,
  ⟨(some 12), .mov (.tmp 40), none, [], 0, 0, false⟩]
def c66_r9 : List AOper := [
  ⟨(some 41), .mov (.tmp 0), none, [], 0, 0, false⟩,
  ⟨(some 42), .mov (.tmp 13), none, [], 0, 0, false⟩,
  ⟨(some 43), .mov (.tmp 3), none, [], 0, 0, false⟩,
  ⟨(some 44), .call (.val (.func (.func 76) [] [])) [(.tmp 41), (.tmp 42), (.tmp 11), (.tmp 43)], none, [], 0, 0, false⟩,
  ⟨(some 13), .mov (.tmp 44), none, [], 0, 0, false⟩]
def c66_r10 : List AOper := [
  ⟨(some 45), .mov (.tmp 0), none, [], 0, 0, false⟩,
  ⟨(some 46), .mov (.tmp 14), none, [], 0, 0, false⟩,
  ⟨(some 47), .mov (.tmp 3), none, [], 0, 0, false⟩,
  ⟨(some 48), .call (.val (.func (.func 76) [] [])) [(.tmp 45), (.tmp 46), (.tmp 11), (.tmp 47)], none, [], 0, 0, false⟩,
  ⟨(some 14), .mov (.tmp 48), none, [], 0, 0, false⟩]
def c66_r11 : List AOper := [
  ⟨(some 49), .mov (.tmp 0), none, [], 0, 0, false⟩,
  ⟨(some 50), .mov (.tmp 12), none, [], 0, 0, false⟩,
  ⟨(some 51), .mov (.tmp 13), none, [], 0, 0, false⟩,
  ⟨(some 52), .mov (.tmp 14), none, [], 0, 0, false⟩,
  ⟨(some 53), .mov (.tmp 3), none, [], 0, 0, false⟩,
  ⟨(some 54), .call (.val (.func (.func 77) [] [])) [(.tmp 49), (.tmp 50), (.tmp 51), (.tmp 52), (.tmp 11), (.tmp 53)], none, [], 0, 0, false⟩,
  ⟨(some 13), .mov (.tmp 54), none, [], 0, 0, false⟩]
def c66_r12 : List AOper := [
  ⟨(some 55), .load none (.tmp 11), none, [], 0, 0, false⟩]
def c66_r13 : List AOper := [
  ⟨(some 58), .bin .eql (.tmp 55) (.val (.int .i64 0)), none, [], 0, 0, false⟩,
  ⟨(some 57), .mov (.tmp 58), none, [], 0, 0, false⟩]
def c66_r14 : List AOper := [
  ⟨(some 59), .mov (.tmp 13), none, [], 0, 0, false⟩,
  ⟨(some 8), .mov (.tmp 59), none, [], 0, 0, false⟩,
  ⟨(some 9), .mov (.val (.int .i64 1)), none, [], 0, 0, false⟩]
def c66_r15 : List AOper := [
  ⟨(some 61), .bin .eql (.tmp 55) (.val (.int .i64 12)), none, [], 0, 0, false⟩,
  ⟨(some 60), .mov (.tmp 61), none, [], 0, 0, false⟩]
def c66_r16 : List AOper := [
  ⟨(some 62), .mov (.tmp 13), none, [], 0, 0, false⟩,
  ⟨(some 8), .mov (.tmp 62), none, [], 0, 0, false⟩,
  ⟨(some 9), .mov (.val (.int .i64 2)), none, [], 0, 0, false⟩]
def c66_r17 : List AOper := [
  ⟨(some 56), .mov (.tmp 13), none, [], 0, 0, false⟩,
  ⟨(some 8), .mov (.tmp 56), none, [], 0, 0, false⟩,
  ⟨(some 9), .mov (.val (.int .i64 0)), none, [], 0, 0, false⟩]
def c66 : AFn := ⟨63, [(8, none), (9, none)],
  (.seq (.region c66_r0 false) (.seq (.region c66_r1 false) (.seq (.region c66_r2 false) (.seq (.region c66_r3 false) (.seq (.region c66_r4 false) (.seq (.region c66_r5 false) (.seq (.seq (.region c66_r6 false) (.cond (.tmp 34) (.seq (.seq (.region c66_r7 false) (.cond (.tmp 36) (.seq (.region c66_r8 false) (.seq (.region c66_r9 false) (.region c66_r10 false))) .skip)) (.region c66_r11 false)) .skip)) (.seq (.region c66_r12 false) (.block 0 (.seq (.region c66_r13 false) (.cond (.tmp 57) (.seq (.region c66_r14 false) .ret) (.seq (.region c66_r15 false) (.cond (.tmp 60) (.seq (.region c66_r16 false) .ret) (.seq (.region c66_r17 false) .ret))))))))))))))⟩
theorem F66 : funcsOf Try.prog [] 66 = some c66 := by kernel_rfl

def c67_r0 : List AOper := [
  ⟨(some 10), .mov (.tmp 1), none, [], 0, 0, false⟩,
  ⟨(some 8), .mov (.tmp 10), none, [], 0, 0, false⟩]
def c67_r1 : List AOper := [
  ⟨(some 11), .mov (.tmp 2), none, [], 0, 0, false⟩,
  ⟨(some 12), .bin .sub (.tmp 11) (.val (.int .i64 1)), none, [], 0, 0, false⟩,
  ⟨(some 9), .mov (.tmp 12), none, [], 0, 0, false⟩]
def c67_r2 : List AOper := [
  ⟨(some 13), .mov (.tmp 8), none, [], 0, 0, false⟩,
  ⟨(some 14), .mov (.tmp 9), none, [], 0, 0, false⟩,
  ⟨(some 15), .bin .lss (.tmp 13) (.tmp 14), none, [], 0, 0, false⟩]
def c67_r3 : List AOper := [
  ⟨(some 16), .mov (.tmp 0), none, [0], 0, 0, false⟩,
  ⟨(some 17), .mov (.tmp 8), none, [8], 0, 0, false⟩,
  ⟨(some 18), .mov (.tmp 0), none, [0], 0, 1, false⟩,
  ⟨(some 19), .mov (.tmp 9), none, [9], 0, 1, false⟩,
  ⟨(some 20), .mov (.tmp 0), none, [0], 0, 0, false⟩,
  ⟨(some 21), .mov (.tmp 9), none, [9], 0, 0, false⟩,
  ⟨(some 22), .idxAddr 1 (.tmp 20) (.tmp 21), none, [20, 21], 0, 0, false⟩,
  ⟨(some 23), .load none (.tmp 22), none, [22], 0, 0, false⟩,
  ⟨(some 24), .mov (.tmp 0), none, [0], 0, 0, false⟩,
  ⟨(some 25), .mov (.tmp 8), none, [8], 0, 0, false⟩,
  ⟨(some 26), .idxAddr 1 (.tmp 24) (.tmp 25), none, [24, 25], 0, 0, false⟩,
  ⟨(some 27), .load none (.tmp 26), none, [26], 0, 0, false⟩,
  ⟨(some 28), .idxAddr 1 (.tmp 16) (.tmp 17), none, [16, 17], 0, 0, false⟩,
  ⟨none, .store 1 (.tmp 28) (.tmp 23), none, [28, 23], 0, 1, false⟩,
  ⟨(some 29), .idxAddr 1 (.tmp 18) (.tmp 19), none, [18, 19], 1, 1, false⟩,
  ⟨none, .store 1 (.tmp 29) (.tmp 27), none, [29, 27], 1, 2, false⟩]
def c67_r4 : List AOper := [
  ⟨(some 30), .mov (.tmp 8), none, [], 0, 0, false⟩,
  ⟨(some 31), .bin .add (.tmp 30) (.val (.int .i64 1)), none, [], 0, 0, false⟩,
  ⟨(some 8), .mov (.tmp 31), none, [], 0, 0, false⟩]
def c67_r5 : List AOper := [
  ⟨(some 32), .mov (.tmp 9), none, [], 0, 0, false⟩,
  ⟨(some 33), .bin .sub (.tmp 32) (.val (.int .i64 1)), none, [], 0, 0, false⟩,
  ⟨(some 9), .mov (.tmp 33), none, [], 0, 0, false⟩]
def c67_l6 : ACode := (.seq (.seq (.region c67_r2 false) (.cond (.tmp 15) .skip (.exit 0))) (.block 1 (.seq (.region c67_r3 true) (.seq (.region c67_r4 false) (.region c67_r5 false)))))
def c67 : AFn := ⟨34, [],
  (.seq (.region c67_r0 false) (.seq (.region c67_r1 false) (.block 0 (.loop c67_l6))))⟩
theorem F67 : funcsOf Try.prog [] 67 = some c67 := by kernel_rfl

def c68_r0 : List AOper := [
  ⟨(some 8), .mov (.val (.bool false)), none, [], 0, 0, false⟩]
def c68_r1 : List AOper := [
  ⟨(some 13), .mov (.tmp 1), none, [], 0, 0, false⟩,
  ⟨(some 14), .bin .add (.tmp 13) (.val (.int .i64 1)), none, [], 0, 0, false⟩,
  ⟨(some 9), .mov (.tmp 14), none, [], 0, 0, false⟩]
def c68_r2 : List AOper := [
  ⟨(some 10), .mov (.val (.int .i64 0)), none, [], 0, 0, false⟩]
def c68_r3 : List AOper := [
  ⟨(some 15), .mov (.tmp 10), none, [], 0, 0, false⟩,
  ⟨(some 16), .bin .lss (.tmp 15) (.val (.int .i64 5)), none, [], 0, 0, false⟩]
def c68_r4 : List AOper := [
  ⟨(some 19), .mov (.tmp 9), none, [9], 0, 0, false⟩,
  ⟨(some 20), .mov (.tmp 2), none, [2], 0, 0, false⟩,
  ⟨(some 21), .bin .lss (.tmp 19) (.tmp 20), none, [19, 20], 0, 0, false⟩,
  ⟨(some 22), .mov (.tmp 21), none, [21], 0, 0, false⟩,
  ⟨(some 23), .mov (.tmp 3), (some (22, true)), [3], 0, 0, false⟩,
  ⟨(some 24), .mov (.tmp 0), (some (22, true)), [0], 0, 0, false⟩,
  ⟨(some 25), .mov (.tmp 9), (some (22, true)), [9], 0, 0, false⟩,
  ⟨(some 26), .idxAddr 1 (.tmp 24) (.tmp 25), (some (22, true)), [24, 25], 0, 0, false⟩,
  ⟨(some 27), .load none (.tmp 26), (some (22, true)), [26], 0, 0, false⟩,
  ⟨(some 28), .mov (.tmp 0), (some (22, true)), [0], 0, 0, false⟩,
  ⟨(some 29), .mov (.tmp 9), (some (22, true)), [9], 0, 0, false⟩,
  ⟨(some 30), .bin .sub (.tmp 29) (.val (.int .i64 1)), (some (22, true)), [29], 0, 0, false⟩,
  ⟨(some 31), .idxAddr 1 (.tmp 28) (.tmp 30), (some (22, true)), [28, 30], 0, 0, false⟩,
  ⟨(some 32), .load none (.tmp 31), (some (22, true)), [31], 0, 0, false⟩,
  ⟨(some 33), .call (.tmp 23) [(.tmp 27), (.tmp 32)], (some (22, true)), [23, 27, 32], 0, 1, false⟩,
  ⟨(some 34), .bin .lss (.tmp 33) (.val (.int .i64 0)), (some (22, true)), [33], 1, 1, false⟩,
  ⟨(some 35), .un .not (.tmp 34), (some (22, true)), [34], 1, 1, false⟩,
  ⟨(some 36), .pick (.tmp 22) (.tmp 35) (.val (.bool false)), none, [22, 35], 1, 1, false⟩]
def c68_r5 : List AOper := [
  ⟨(some 37), .mov (.tmp 9), none, [], 0, 0, false⟩,
  ⟨(some 38), .bin .add (.tmp 37) (.val (.int .i64 1)), none, [], 0, 0, false⟩,
  ⟨(some 9), .mov (.tmp 38), none, [], 0, 0, false⟩]
def c68_l6 : ACode := (.seq (.seq (.region c68_r4 true) (.cond (.tmp 36) .skip (.exit 2))) (.block 3 (.region c68_r5 false)))
def c68_r7 : List AOper := [
  ⟨(some 39), .mov (.tmp 9), none, [], 0, 0, false⟩,
  ⟨(some 40), .mov (.tmp 2), none, [], 0, 0, false⟩,
  ⟨(some 41), .bin .eql (.tmp 39) (.tmp 40), none, [], 0, 0, false⟩]
def c68_r8 : List AOper := [
  ⟨(some 8), .mov (.val (.bool true)), none, [], 0, 0, false⟩]
def c68_r9 : List AOper := [
  ⟨(some 42), .mov (.tmp 2), none, [], 0, 0, false⟩,
  ⟨(some 43), .mov (.tmp 1), none, [], 0, 0, false⟩,
  ⟨(some 44), .bin .sub (.tmp 42) (.tmp 43), none, [], 0, 0, false⟩,
  ⟨(some 45), .bin .lss (.tmp 44) (.val (.int .i64 50)), none, [], 0, 0, false⟩]
def c68_r10 : List AOper := [
  ⟨(some 8), .mov (.val (.bool false)), none, [], 0, 0, false⟩]
def c68_r11 : List AOper := [
  ⟨(some 46), .mov (.tmp 0), none, [0], 0, 0, false⟩,
  ⟨(some 47), .mov (.tmp 9), none, [9], 0, 0, false⟩,
  ⟨(some 48), .mov (.tmp 0), none, [0], 0, 1, false⟩,
  ⟨(some 49), .mov (.tmp 9), none, [9], 0, 1, false⟩,
  ⟨(some 50), .bin .sub (.tmp 49) (.val (.int .i64 1)), none, [49], 0, 1, false⟩,
  ⟨(some 51), .mov (.tmp 0), none, [0], 0, 0, false⟩,
  ⟨(some 52), .mov (.tmp 9), none, [9], 0, 0, false⟩,
  ⟨(some 53), .bin .sub (.tmp 52) (.val (.int .i64 1)), none, [52], 0, 0, false⟩,
  ⟨(some 54), .idxAddr 1 (.tmp 51) (.tmp 53), none, [51, 53], 0, 0, false⟩,
  ⟨(some 55), .load none (.tmp 54), none, [54], 0, 0, false⟩,
  ⟨(some 56), .mov (.tmp 0), none, [0], 0, 0, false⟩,
  ⟨(some 57), .mov (.tmp 9), none, [9], 0, 0, false⟩,
  ⟨(some 58), .idxAddr 1 (.tmp 56) (.tmp 57), none, [56, 57], 0, 0, false⟩,
  ⟨(some 59), .load none (.tmp 58), none, [58], 0, 0, false⟩,
  ⟨(some 60), .idxAddr 1 (.tmp 46) (.tmp 47), none, [46, 47], 0, 0, false⟩,
  ⟨none, .store 1 (.tmp 60) (.tmp 55), none, [60, 55], 0, 1, false⟩,
  ⟨(some 61), .idxAddr 1 (.tmp 48) (.tmp 50), none, [48, 50], 1, 1, false⟩,
  ⟨none, .store 1 (.tmp 61) (.tmp 59), none, [61, 59], 1, 2, false⟩]
def c68_r12 : List AOper := [
  ⟨(some 62), .mov (.tmp 9), none, [], 0, 0, false⟩,
  ⟨(some 63), .mov (.tmp 1), none, [], 0, 0, false⟩,
  ⟨(some 64), .bin .sub (.tmp 62) (.tmp 63), none, [], 0, 0, false⟩,
  ⟨(some 65), .bin .geq (.tmp 64) (.val (.int .i64 2)), none, [], 0, 0, false⟩]
def c68_r13 : List AOper := [
  ⟨(some 66), .mov (.tmp 9), none, [], 0, 0, false⟩,
  ⟨(some 67), .bin .sub (.tmp 66) (.val (.int .i64 1)), none, [], 0, 0, false⟩,
  ⟨(some 11), .mov (.tmp 67), none, [], 0, 0, false⟩]
def c68_r14 : List AOper := [
  ⟨(some 68), .mov (.tmp 11), none, [], 0, 0, false⟩,
  ⟨(some 69), .bin .geq (.tmp 68) (.val (.int .i64 1)), none, [], 0, 0, false⟩]
def c68_r15 : List AOper := [
  ⟨(some 72), .mov (.tmp 3), none, [3], 0, 0, false⟩,
  ⟨(some 73), .mov (.tmp 0), none, [0], 0, 0, false⟩,
  ⟨(some 74), .mov (.tmp 11), none, [11], 0, 0, false⟩,
  ⟨(some 75), .idxAddr 1 (.tmp 73) (.tmp 74), none, [73, 74], 0, 0, false⟩,
  ⟨(some 76), .load none (.tmp 75), none, [75], 0, 0, false⟩,
  ⟨(some 77), .mov (.tmp 0), none, [0], 0, 0, false⟩,
  ⟨(some 78), .mov (.tmp 11), none, [11], 0, 0, false⟩,
  ⟨(some 79), .bin .sub (.tmp 78) (.val (.int .i64 1)), none, [78], 0, 0, false⟩,
  ⟨(some 80), .idxAddr 1 (.tmp 77) (.tmp 79), none, [77, 79], 0, 0, false⟩,
  ⟨(some 81), .load none (.tmp 80), none, [80], 0, 0, false⟩,
  ⟨(some 82), .call (.tmp 72) [(.tmp 76), (.tmp 81)], none, [72, 76, 81], 0, 1, false⟩,
  ⟨(some 83), .bin .lss (.tmp 82) (.val (.int .i64 0)), none, [82], 1, 1, false⟩,
  ⟨(some 84), .un .not (.tmp 83), none, [83], 1, 1, false⟩]
def c68_r16 : List AOper := [
  ⟨(some 85), .mov (.tmp 0), none, [0], 0, 0, false⟩,
  ⟨(some 86), .mov (.tmp 11), none, [11], 0, 0, false⟩,
  ⟨(some 87), .mov (.tmp 0), none, [0], 0, 1, false⟩,
  ⟨(some 88), .mov (.tmp 11), none, [11], 0, 1, false⟩,
  ⟨(some 89), .bin .sub (.tmp 88) (.val (.int .i64 1)), none, [88], 0, 1, false⟩,
  ⟨(some 90), .mov (.tmp 0), none, [0], 0, 0, false⟩,
  ⟨(some 91), .mov (.tmp 11), none, [11], 0, 0, false⟩,
  ⟨(some 92), .bin .sub (.tmp 91) (.val (.int .i64 1)), none, [91], 0, 0, false⟩,
  ⟨(some 93), .idxAddr 1 (.tmp 90) (.tmp 92), none, [90, 92], 0, 0, false⟩,
  ⟨(some 94), .load none (.tmp 93), none, [93], 0, 0, false⟩,
  ⟨(some 95), .mov (.tmp 0), none, [0], 0, 0, false⟩,
  ⟨(some 96), .mov (.tmp 11), none, [11], 0, 0, false⟩,
  ⟨(some 97), .idxAddr 1 (.tmp 95) (.tmp 96), none, [95, 96], 0, 0, false⟩,
  ⟨(some 98), .load none (.tmp 97), none, [97], 0, 0, false⟩,
  ⟨(some 99), .idxAddr 1 (.tmp 85) (.tmp 86), none, [85, 86], 0, 0, false⟩,
  ⟨none, .store 1 (.tmp 99) (.tmp 94), none, [99, 94], 0, 1, false⟩,
  ⟨(some 100), .idxAddr 1 (.tmp 87) (.tmp 89), none, [87, 89], 1, 1, false⟩,
  ⟨none, .store 1 (.tmp 100) (.tmp 98), none, [100, 98], 1, 2, false⟩]
def c68_r17 : List AOper := [
  ⟨(some 70), .mov (.tmp 11), none, [], 0, 0, false⟩,
  ⟨(some 71), .bin .sub (.tmp 70) (.val (.int .i64 1)), none, [], 0, 0, false⟩,
  ⟨(some 11), .mov (.tmp 71), none, [], 0, 0, false⟩]
def c68_l18 : ACode := (.seq (.seq (.region c68_r14 false) (.cond (.tmp 69) .skip (.exit 4))) (.seq (.block 5 (.seq (.seq (.region c68_r15 true) (.cond (.tmp 84) (.exit 4) .skip)) (.region c68_r16 true))) (.region c68_r17 false)))
def c68_r19 : List AOper := [
  ⟨(some 101), .mov (.tmp 2), none, [], 0, 0, false⟩,
  ⟨(some 102), .mov (.tmp 9), none, [], 0, 0, false⟩,
  ⟨(some 103), .bin .sub (.tmp 101) (.tmp 102), none, [], 0, 0, false⟩,
  ⟨(some 104), .bin .geq (.tmp 103) (.val (.int .i64 2)), none, [], 0, 0, false⟩]
def c68_r20 : List AOper := [
  ⟨(some 105), .mov (.tmp 9), none, [], 0, 0, false⟩,
  ⟨(some 106), .bin .add (.tmp 105) (.val (.int .i64 1)), none, [], 0, 0, false⟩,
  ⟨(some 12), .mov (.tmp 106), none, [], 0, 0, false⟩]
def c68_r21 : List AOper := [
  ⟨(some 107), .mov (.tmp 12), none, [], 0, 0, false⟩,
  ⟨(some 108), .mov (.tmp 2), none, [], 0, 0, false⟩,
  ⟨(some 109), .bin .lss (.tmp 107) (.tmp 108), none, [], 0, 0, false⟩]
def c68_r22 : List AOper := [
  ⟨(some 112), .mov (.tmp 3), none, [3], 0, 0, false⟩,
  ⟨(some 113), .mov (.tmp 0), none, [0], 0, 0, false⟩,
  ⟨(some 114), .mov (.tmp 12), none, [12], 0, 0, false⟩,
  ⟨(some 115), .idxAddr 1 (.tmp 113) (.tmp 114), none, [113, 114], 0, 0, false⟩,
  ⟨(some 116), .load none (.tmp 115), none, [115], 0, 0, false⟩,
  ⟨(some 117), .mov (.tmp 0), none, [0], 0, 0, false⟩,
  ⟨(some 118), .mov (.tmp 12), none, [12], 0, 0, false⟩,
  ⟨(some 119), .bin .sub (.tmp 118) (.val (.int .i64 1)), none, [118], 0, 0, false⟩,
  ⟨(some 120), .idxAddr 1 (.tmp 117) (.tmp 119), none, [117, 119], 0, 0, false⟩,
  ⟨(some 121), .load none (.tmp 120), none, [120], 0, 0, false⟩,
  ⟨(some 122), .call (.tmp 112) [(.tmp 116), (.tmp 121)], none, [112, 116, 121], 0, 1, false⟩,
  ⟨(some 123), .bin .lss (.tmp 122) (.val (.int .i64 0)), none, [122], 1, 1, false⟩,
  ⟨(some 124), .un .not (.tmp 123), none, [123], 1, 1, false⟩]
def c68_r23 : List AOper := [
  ⟨(some 125), .mov (.tmp 0), none, [0], 0, 0, false⟩,
  ⟨(some 126), .mov (.tmp 12), none, [12], 0, 0, false⟩,
  ⟨(some 127), .mov (.tmp 0), none, [0], 0, 1, false⟩,
  ⟨(some 128), .mov (.tmp 12), none, [12], 0, 1, false⟩,
  ⟨(some 129), .bin .sub (.tmp 128) (.val (.int .i64 1)), none, [128], 0, 1, false⟩,
  ⟨(some 130), .mov (.tmp 0), none, [0], 0, 0, false⟩,
  ⟨(some 131), .mov (.tmp 12), none, [12], 0, 0, false⟩,
  ⟨(some 132), .bin .sub (.tmp 131) (.val (.int .i64 1)), none, [131], 0, 0, false⟩,
  ⟨(some 133), .idxAddr 1 (.tmp 130) (.tmp 132), none, [130, 132], 0, 0, false⟩,
  ⟨(some 134), .load none (.tmp 133), none, [133], 0, 0, false⟩,
  ⟨(some 135), .mov (.tmp 0), none, [0], 0, 0, false⟩,
  ⟨(some 136), .mov (.tmp 12), none, [12], 0, 0, false⟩,
  ⟨(some 137), .idxAddr 1 (.tmp 135) (.tmp 136), none, [135, 136], 0, 0, false⟩,
  ⟨(some 138), .load none (.tmp 137), none, [137], 0, 0, false⟩,
  ⟨(some 139), .idxAddr 1 (.tmp 125) (.tmp 126), none, [125, 126], 0, 0, false⟩,
  ⟨none, .store 1 (.tmp 139) (.tmp 134), none, [139, 134], 0, 1, false⟩,
  ⟨(some 140), .idxAddr 1 (.tmp 127) (.tmp 129), none, [127, 129], 1, 1, false⟩,
  ⟨none, .store 1 (.tmp 140) (.tmp 138), none, [140, 138], 1, 2, false⟩]
def c68_r24 : List AOper := [
  ⟨(some 110), .mov (.tmp 12), none, [], 0, 0, false⟩,
  ⟨(some 111), .bin .add (.tmp 110) (.val (.int .i64 1)), none, [], 0, 0, false⟩,
  ⟨(some 12), .mov (.tmp 111), none, [], 0, 0, false⟩]
def c68_l25 : ACode := (.seq (.seq (.region c68_r21 false) (.cond (.tmp 109) .skip (.exit 6))) (.seq (.block 7 (.seq (.seq (.region c68_r22 true) (.cond (.tmp 124) (.exit 6) .skip)) (.region c68_r23 true))) (.region c68_r24 false)))
def c68_r26 : List AOper := [
  ⟨(some 17), .mov (.tmp 10), none, [], 0, 0, false⟩,
  ⟨(some 18), .bin .add (.tmp 17) (.val (.int .i64 1)), none, [], 0, 0, false⟩,
  ⟨(some 10), .mov (.tmp 18), none, [], 0, 0, false⟩]
def c68_l27 : ACode := (.seq (.seq (.region c68_r3 false) (.cond (.tmp 16) .skip (.exit 0))) (.seq (.block 1 (.seq (.block 2 (.loop c68_l6)) (.seq (.seq (.region c68_r7 false) (.cond (.tmp 41) (.seq (.region c68_r8 false) .ret) .skip)) (.seq (.seq (.region c68_r9 false) (.cond (.tmp 45) (.seq (.region c68_r10 false) .ret) .skip)) (.seq (.region c68_r11 true) (.seq (.seq (.region c68_r12 false) (.cond (.tmp 65) (.seq (.region c68_r13 false) (.block 4 (.loop c68_l18))) .skip)) (.seq (.region c68_r19 false) (.cond (.tmp 104) (.seq (.region c68_r20 false) (.block 6 (.loop c68_l25))) .skip)))))))) (.region c68_r26 false)))
def c68_r28 : List AOper := [
  ⟨(some 8), .mov (.val (.bool false)), none, [], 0, 0, false⟩]
def c68 : AFn := ⟨141, [(8, none)],
  (.seq (.region c68_r0 false) (.seq (.region c68_r1 false) (.seq (.seq (.region c68_r2 false) (.block 0 (.loop c68_l27))) (.seq (.region c68_r28 false) .ret))))⟩
theorem F68 : funcsOf Try.prog [] 68 = some c68 := by kernel_rfl

def c69_r0 : List AOper := [
  ⟨(some 10), .mov (.val (.int .i64 0)), none, [], 0, 0, false⟩]
def c69_r1 : List AOper := [
  ⟨(some 13), .mov (.tmp 0), none, [0], 0, 0, false⟩,
  ⟨(some 14), .mov (.tmp 1), none, [1], 0, 0, false⟩,
  ⟨(some 15), .mov (.tmp 0), none, [0], 0, 1, false⟩,
  ⟨(some 16), .mov (.tmp 3), none, [3], 0, 1, false⟩,
  ⟨(some 17), .mov (.tmp 0), none, [0], 0, 0, false⟩,
  ⟨(some 18), .mov (.tmp 3), none, [3], 0, 0, false⟩,
  ⟨(some 19), .idxAddr 1 (.tmp 17) (.tmp 18), none, [17, 18], 0, 0, false⟩,
  ⟨(some 20), .load none (.tmp 19), none, [19], 0, 0, false⟩,
  ⟨(some 21), .mov (.tmp 0), none, [0], 0, 0, false⟩,
  ⟨(some 22), .mov (.tmp 1), none, [1], 0, 0, false⟩,
  ⟨(some 23), .idxAddr 1 (.tmp 21) (.tmp 22), none, [21, 22], 0, 0, false⟩,
  ⟨(some 24), .load none (.tmp 23), none, [23], 0, 0, false⟩,
  ⟨(some 25), .idxAddr 1 (.tmp 13) (.tmp 14), none, [13, 14], 0, 0, false⟩,
  ⟨none, .store 1 (.tmp 25) (.tmp 20), none, [25, 20], 0, 1, false⟩,
  ⟨(some 26), .idxAddr 1 (.tmp 15) (.tmp 16), none, [15, 16], 1, 1, false⟩,
  ⟨none, .store 1 (.tmp 26) (.tmp 24), none, [26, 24], 1, 2, false⟩]
def c69_r2 : List AOper := [
  ⟨(some 27), .mov (.tmp 1), none, [], 0, 0, false⟩,
  ⟨(some 28), .bin .add (.tmp 27) (.val (.int .i64 1)), none, [], 0, 0, false⟩,
  ⟨(some 29), .mov (.tmp 2), none, [], 0, 0, false⟩,
  ⟨(some 30), .bin .sub (.tmp 29) (.val (.int .i64 1)), none, [], 0, 0, false⟩,
  ⟨(some 11), .mov (.tmp 28), none, [], 0, 0, false⟩,
  ⟨(some 12), .mov (.tmp 30), none, [], 0, 0, false⟩]
def c69_r3 : List AOper := [
  ⟨(some 31), .mov (.tmp 11), none, [11], 0, 0, false⟩,
  ⟨(some 32), .mov (.tmp 12), none, [12], 0, 0, false⟩,
  ⟨(some 33), .bin .leq (.tmp 31) (.tmp 32), none, [31, 32], 0, 0, false⟩,
  ⟨(some 34), .mov (.tmp 33), none, [33], 0, 0, false⟩,
  ⟨(some 35), .mov (.tmp 4), (some (34, true)), [4], 0, 0, false⟩,
  ⟨(some 36), .mov (.tmp 0), (some (34, true)), [0], 0, 0, false⟩,
  ⟨(some 37), .mov (.tmp 1), (some (34, true)), [1], 0, 0, false⟩,
  ⟨(some 38), .idxAddr 1 (.tmp 36) (.tmp 37), (some (34, true)), [36, 37], 0, 0, false⟩,
  ⟨(some 39), .load none (.tmp 38), (some (34, true)), [38], 0, 0, false⟩,
  ⟨(some 40), .mov (.tmp 0), (some (34, true)), [0], 0, 0, false⟩,
  ⟨(some 41), .mov (.tmp 11), (some (34, true)), [11], 0, 0, false⟩,
  ⟨(some 42), .idxAddr 1 (.tmp 40) (.tmp 41), (some (34, true)), [40, 41], 0, 0, false⟩,
  ⟨(some 43), .load none (.tmp 42), (some (34, true)), [42], 0, 0, false⟩,
  ⟨(some 44), .call (.tmp 35) [(.tmp 39), (.tmp 43)], (some (34, true)), [35, 39, 43], 0, 1, false⟩,
  ⟨(some 45), .bin .lss (.tmp 44) (.val (.int .i64 0)), (some (34, true)), [44], 1, 1, false⟩,
  ⟨(some 46), .un .not (.tmp 45), (some (34, true)), [45], 1, 1, false⟩,
  ⟨(some 47), .pick (.tmp 34) (.tmp 46) (.val (.bool false)), none, [34, 46], 1, 1, false⟩]
def c69_r4 : List AOper := [
  ⟨(some 48), .mov (.tmp 11), none, [], 0, 0, false⟩,
  ⟨(some 49), .bin .add (.tmp 48) (.val (.int .i64 1)), none, [], 0, 0, false⟩,
  ⟨(some 11), .mov (.tmp 49), none, [], 0, 0, false⟩]
def c69_l5 : ACode := (.seq (.seq (.region c69_r3 true) (.cond (.tmp 47) .skip (.exit 2))) (.block 3 (.region c69_r4 false)))
def c69_r6 : List AOper := [
  ⟨(some 50), .mov (.tmp 11), none, [11], 0, 0, false⟩,
  ⟨(some 51), .mov (.tmp 12), none, [12], 0, 0, false⟩,
  ⟨(some 52), .bin .leq (.tmp 50) (.tmp 51), none, [50, 51], 0, 0, false⟩,
  ⟨(some 53), .mov (.tmp 52), none, [52], 0, 0, false⟩,
  ⟨(some 54), .mov (.tmp 4), (some (53, true)), [4], 0, 0, false⟩,
  ⟨(some 55), .mov (.tmp 0), (some (53, true)), [0], 0, 0, false⟩,
  ⟨(some 56), .mov (.tmp 1), (some (53, true)), [1], 0, 0, false⟩,
  ⟨(some 57), .idxAddr 1 (.tmp 55) (.tmp 56), (some (53, true)), [55, 56], 0, 0, false⟩,
  ⟨(some 58), .load none (.tmp 57), (some (53, true)), [57], 0, 0, false⟩,
  ⟨(some 59), .mov (.tmp 0), (some (53, true)), [0], 0, 0, false⟩,
  ⟨(some 60), .mov (.tmp 12), (some (53, true)), [12], 0, 0, false⟩,
  ⟨(some 61), .idxAddr 1 (.tmp 59) (.tmp 60), (some (53, true)), [59, 60], 0, 0, false⟩,
  ⟨(some 62), .load none (.tmp 61), (some (53, true)), [61], 0, 0, false⟩,
  ⟨(some 63), .call (.tmp 54) [(.tmp 58), (.tmp 62)], (some (53, true)), [54, 58, 62], 0, 1, false⟩,
  ⟨(some 64), .bin .lss (.tmp 63) (.val (.int .i64 0)), (some (53, true)), [63], 1, 1, false⟩,
  ⟨(some 65), .pick (.tmp 53) (.tmp 64) (.val (.bool false)), none, [53, 64], 1, 1, false⟩]
def c69_r7 : List AOper := [
  ⟨(some 66), .mov (.tmp 12), none, [], 0, 0, false⟩,
  ⟨(some 67), .bin .sub (.tmp 66) (.val (.int .i64 1)), none, [], 0, 0, false⟩,
  ⟨(some 12), .mov (.tmp 67), none, [], 0, 0, false⟩]
def c69_l8 : ACode := (.seq (.seq (.region c69_r6 true) (.cond (.tmp 65) .skip (.exit 4))) (.block 5 (.region c69_r7 false)))
def c69_r9 : List AOper := [
  ⟨(some 68), .mov (.tmp 11), none, [], 0, 0, false⟩,
  ⟨(some 69), .mov (.tmp 12), none, [], 0, 0, false⟩,
  ⟨(some 70), .bin .gtr (.tmp 68) (.tmp 69), none, [], 0, 0, false⟩]
def c69_r10 : List AOper := [
  ⟨(some 71), .mov (.tmp 0), none, [0], 0, 0, false⟩,
  ⟨(some 72), .mov (.tmp 11), none, [11], 0, 0, false⟩,
  ⟨(some 73), .mov (.tmp 0), none, [0], 0, 1, false⟩,
  ⟨(some 74), .mov (.tmp 12), none, [12], 0, 1, false⟩,
  ⟨(some 75), .mov (.tmp 0), none, [0], 0, 0, false⟩,
  ⟨(some 76), .mov (.tmp 12), none, [12], 0, 0, false⟩,
  ⟨(some 77), .idxAddr 1 (.tmp 75) (.tmp 76), none, [75, 76], 0, 0, false⟩,
  ⟨(some 78), .load none (.tmp 77), none, [77], 0, 0, false⟩,
  ⟨(some 79), .mov (.tmp 0), none, [0], 0, 0, false⟩,
  ⟨(some 80), .mov (.tmp 11), none, [11], 0, 0, false⟩,
  ⟨(some 81), .idxAddr 1 (.tmp 79) (.tmp 80), none, [79, 80], 0, 0, false⟩,
  ⟨(some 82), .load none (.tmp 81), none, [81], 0, 0, false⟩,
  ⟨(some 83), .idxAddr 1 (.tmp 71) (.tmp 72), none, [71, 72], 0, 0, false⟩,
  ⟨none, .store 1 (.tmp 83) (.tmp 78), none, [83, 78], 0, 1, false⟩,
  ⟨(some 84), .idxAddr 1 (.tmp 73) (.tmp 74), none, [73, 74], 1, 1, false⟩,
  ⟨none, .store 1 (.tmp 84) (.tmp 82), none, [84, 82], 1, 2, false⟩]
def c69_r11 : List AOper := [
  ⟨(some 85), .mov (.tmp 11), none, [], 0, 0, false⟩,
  ⟨(some 86), .bin .add (.tmp 85) (.val (.int .i64 1)), none, [], 0, 0, false⟩,
  ⟨(some 11), .mov (.tmp 86), none, [], 0, 0, false⟩]
def c69_r12 : List AOper := [
  ⟨(some 87), .mov (.tmp 12), none, [], 0, 0, false⟩,
  ⟨(some 88), .bin .sub (.tmp 87) (.val (.int .i64 1)), none, [], 0, 0, false⟩,
  ⟨(some 12), .mov (.tmp 88), none, [], 0, 0, false⟩]
def c69_l13 : ACode := (.block 1 (.seq (.block 2 (.loop c69_l5)) (.seq (.block 4 (.loop c69_l8)) (.seq (.seq (.region c69_r9 false) (.cond (.tmp 70) (.exit 0) .skip)) (.seq (.region c69_r10 true) (.seq (.region c69_r11 false) (.region c69_r12 false)))))))
def c69_r14 : List AOper := [
  ⟨(some 89), .mov (.tmp 11), none, [], 0, 0, false⟩,
  ⟨(some 10), .mov (.tmp 89), none, [], 0, 0, false⟩]
def c69 : AFn := ⟨90, [(10, none)],
  (.seq (.region c69_r0 false) (.seq (.region c69_r1 true) (.seq (.region c69_r2 false) (.seq (.block 0 (.loop c69_l13)) (.seq (.region c69_r14 false) .ret)))))⟩
theorem F69 : funcsOf Try.prog [] 69 = some c69 := by kernel_rfl

def c70_r0 : List AOper := [
  ⟨(some 10), .mov (.val (.int .i64 0)), none, [], 0, 0, false⟩,
  ⟨(some 11), .mov (.val (.bool false)), none, [], 0, 0, false⟩]
def c70_r1 : List AOper := [
  ⟨(some 14), .mov (.tmp 0), none, [0], 0, 0, false⟩,
  ⟨(some 15), .mov (.tmp 1), none, [1], 0, 0, false⟩,
  ⟨(some 16), .mov (.tmp 0), none, [0], 0, 1, false⟩,
  ⟨(some 17), .mov (.tmp 3), none, [3], 0, 1, false⟩,
  ⟨(some 18), .mov (.tmp 0), none, [0], 0, 0, false⟩,
  ⟨(some 19), .mov (.tmp 3), none, [3], 0, 0, false⟩,
  ⟨(some 20), .idxAddr 1 (.tmp 18) (.tmp 19), none, [18, 19], 0, 0, false⟩,
  ⟨(some 21), .load none (.tmp 20), none, [20], 0, 0, false⟩,
  ⟨(some 22), .mov (.tmp 0), none, [0], 0, 0, false⟩,
  ⟨(some 23), .mov (.tmp 1), none, [1], 0, 0, false⟩,
  ⟨(some 24), .idxAddr 1 (.tmp 22) (.tmp 23), none, [22, 23], 0, 0, false⟩,
  ⟨(some 25), .load none (.tmp 24), none, [24], 0, 0, false⟩,
  ⟨(some 26), .idxAddr 1 (.tmp 14) (.tmp 15), none, [14, 15], 0, 0, false⟩,
  ⟨none, .store 1 (.tmp 26) (.tmp 21), none, [26, 21], 0, 1, false⟩,
  ⟨(some 27), .idxAddr 1 (.tmp 16) (.tmp 17), none, [16, 17], 1, 1, false⟩,
  ⟨none, .store 1 (.tmp 27) (.tmp 25), none, [27, 25], 1, 2, false⟩]
def c70_r2 : List AOper := [
  ⟨(some 28), .mov (.tmp 1), none, [], 0, 0, false⟩,
  ⟨(some 29), .bin .add (.tmp 28) (.val (.int .i64 1)), none, [], 0, 0, false⟩,
  ⟨(some 30), .mov (.tmp 2), none, [], 0, 0, false⟩,
  ⟨(some 31), .bin .sub (.tmp 30) (.val (.int .i64 1)), none, [], 0, 0, false⟩,
  ⟨(some 12), .mov (.tmp 29), none, [], 0, 0, false⟩,
  ⟨(some 13), .mov (.tmp 31), none, [], 0, 0, false⟩]
def c70_r3 : List AOper := [
  ⟨(some 32), .mov (.tmp 12), none, [12], 0, 0, false⟩,
  ⟨(some 33), .mov (.tmp 13), none, [13], 0, 0, false⟩,
  ⟨(some 34), .bin .leq (.tmp 32) (.tmp 33), none, [32, 33], 0, 0, false⟩,
  ⟨(some 35), .mov (.tmp 34), none, [34], 0, 0, false⟩,
  ⟨(some 36), .mov (.tmp 4), (some (35, true)), [4], 0, 0, false⟩,
  ⟨(some 37), .mov (.tmp 0), (some (35, true)), [0], 0, 0, false⟩,
  ⟨(some 38), .mov (.tmp 12), (some (35, true)), [12], 0, 0, false⟩,
  ⟨(some 39), .idxAddr 1 (.tmp 37) (.tmp 38), (some (35, true)), [37, 38], 0, 0, false⟩,
  ⟨(some 40), .load none (.tmp 39), (some (35, true)), [39], 0, 0, false⟩,
  ⟨(some 41), .mov (.tmp 0), (some (35, true)), [0], 0, 0, false⟩,
  ⟨(some 42), .mov (.tmp 1), (some (35, true)), [1], 0, 0, false⟩,
  ⟨(some 43), .idxAddr 1 (.tmp 41) (.tmp 42), (some (35, true)), [41, 42], 0, 0, false⟩,
  ⟨(some 44), .load none (.tmp 43), (some (35, true)), [43], 0, 0, false⟩,
  ⟨(some 45), .call (.tmp 36) [(.tmp 40), (.tmp 44)], (some (35, true)), [36, 40, 44], 0, 1, false⟩,
  ⟨(some 46), .bin .lss (.tmp 45) (.val (.int .i64 0)), (some (35, true)), [45], 1, 1, false⟩,
  ⟨(some 47), .pick (.tmp 35) (.tmp 46) (.val (.bool false)), none, [35, 46], 1, 1, false⟩]
def c70_r4 : List AOper := [
  ⟨(some 48), .mov (.tmp 12), none, [], 0, 0, false⟩,
  ⟨(some 49), .bin .add (.tmp 48) (.val (.int .i64 1)), none, [], 0, 0, false⟩,
  ⟨(some 12), .mov (.tmp 49), none, [], 0, 0, false⟩]
def c70_l5 : ACode := (.seq (.seq (.region c70_r3 true) (.cond (.tmp 47) .skip (.exit 0))) (.block 1 (.region c70_r4 false)))
def c70_r6 : List AOper := [
  ⟨(some 50), .mov (.tmp 12), none, [12], 0, 0, false⟩,
  ⟨(some 51), .mov (.tmp 13), none, [13], 0, 0, false⟩,
  ⟨(some 52), .bin .leq (.tmp 50) (.tmp 51), none, [50, 51], 0, 0, false⟩,
  ⟨(some 53), .mov (.tmp 52), none, [52], 0, 0, false⟩,
  ⟨(some 54), .mov (.tmp 4), (some (53, true)), [4], 0, 0, false⟩,
  ⟨(some 55), .mov (.tmp 0), (some (53, true)), [0], 0, 0, false⟩,
  ⟨(some 56), .mov (.tmp 13), (some (53, true)), [13], 0, 0, false⟩,
  ⟨(some 57), .idxAddr 1 (.tmp 55) (.tmp 56), (some (53, true)), [55, 56], 0, 0, false⟩,
  ⟨(some 58), .load none (.tmp 57), (some (53, true)), [57], 0, 0, false⟩,
  ⟨(some 59), .mov (.tmp 0), (some (53, true)), [0], 0, 0, false⟩,
  ⟨(some 60), .mov (.tmp 1), (some (53, true)), [1], 0, 0, false⟩,
  ⟨(some 61), .idxAddr 1 (.tmp 59) (.tmp 60), (some (53, true)), [59, 60], 0, 0, false⟩,
  ⟨(some 62), .load none (.tmp 61), (some (53, true)), [61], 0, 0, false⟩,
  ⟨(some 63), .call (.tmp 54) [(.tmp 58), (.tmp 62)], (some (53, true)), [54, 58, 62], 0, 1, false⟩,
  ⟨(some 64), .bin .lss (.tmp 63) (.val (.int .i64 0)), (some (53, true)), [63], 1, 1, false⟩,
  ⟨(some 65), .un .not (.tmp 64), (some (53, true)), [64], 1, 1, false⟩,
  ⟨(some 66), .pick (.tmp 53) (.tmp 65) (.val (.bool false)), none, [53, 65], 1, 1, false⟩]
def c70_r7 : List AOper := [
  ⟨(some 67), .mov (.tmp 13), none, [], 0, 0, false⟩,
  ⟨(some 68), .bin .sub (.tmp 67) (.val (.int .i64 1)), none, [], 0, 0, false⟩,
  ⟨(some 13), .mov (.tmp 68), none, [], 0, 0, false⟩]
def c70_l8 : ACode := (.seq (.seq (.region c70_r6 true) (.cond (.tmp 66) .skip (.exit 2))) (.block 3 (.region c70_r7 false)))
def c70_r9 : List AOper := [
  ⟨(some 69), .mov (.tmp 12), none, [], 0, 0, false⟩,
  ⟨(some 70), .mov (.tmp 13), none, [], 0, 0, false⟩,
  ⟨(some 71), .bin .gtr (.tmp 69) (.tmp 70), none, [], 0, 0, false⟩]
def c70_r10 : List AOper := [
  ⟨(some 72), .mov (.tmp 0), none, [0], 0, 0, false⟩,
  ⟨(some 73), .mov (.tmp 13), none, [13], 0, 0, false⟩,
  ⟨(some 74), .mov (.tmp 0), none, [0], 0, 1, false⟩,
  ⟨(some 75), .mov (.tmp 1), none, [1], 0, 1, false⟩,
  ⟨(some 76), .mov (.tmp 0), none, [0], 0, 0, false⟩,
  ⟨(some 77), .mov (.tmp 1), none, [1], 0, 0, false⟩,
  ⟨(some 78), .idxAddr 1 (.tmp 76) (.tmp 77), none, [76, 77], 0, 0, false⟩,
  ⟨(some 79), .load none (.tmp 78), none, [78], 0, 0, false⟩,
  ⟨(some 80), .mov (.tmp 0), none, [0], 0, 0, false⟩,
  ⟨(some 81), .mov (.tmp 13), none, [13], 0, 0, false⟩,
  ⟨(some 82), .idxAddr 1 (.tmp 80) (.tmp 81), none, [80, 81], 0, 0, false⟩,
  ⟨(some 83), .load none (.tmp 82), none, [82], 0, 0, false⟩,
  ⟨(some 84), .idxAddr 1 (.tmp 72) (.tmp 73), none, [72, 73], 0, 0, false⟩,
  ⟨none, .store 1 (.tmp 84) (.tmp 79), none, [84, 79], 0, 1, false⟩,
  ⟨(some 85), .idxAddr 1 (.tmp 74) (.tmp 75), none, [74, 75], 1, 1, false⟩,
  ⟨none, .store 1 (.tmp 85) (.tmp 83), none, [85, 83], 1, 2, false⟩]
def c70_r11 : List AOper := [
  ⟨(some 86), .mov (.tmp 13), none, [], 0, 0, false⟩,
  ⟨(some 10), .mov (.tmp 86), none, [], 0, 0, false⟩,
  ⟨(some 11), .mov (.val (.bool true)), none, [], 0, 0, false⟩]
def c70_r12 : List AOper := [
  ⟨(some 87), .mov (.tmp 0), none, [0], 0, 0, false⟩,
  ⟨(some 88), .mov (.tmp 12), none, [12], 0, 0, false⟩,
  ⟨(some 89), .mov (.tmp 0), none, [0], 0, 1, false⟩,
  ⟨(some 90), .mov (.tmp 13), none, [13], 0, 1, false⟩,
  ⟨(some 91), .mov (.tmp 0), none, [0], 0, 0, false⟩,
  ⟨(some 92), .mov (.tmp 13), none, [13], 0, 0, false⟩,
  ⟨(some 93), .idxAddr 1 (.tmp 91) (.tmp 92), none, [91, 92], 0, 0, false⟩,
  ⟨(some 94), .load none (.tmp 93), none, [93], 0, 0, false⟩,
  ⟨(some 95), .mov (.tmp 0), none, [0], 0, 0, false⟩,
  ⟨(some 96), .mov (.tmp 12), none, [12], 0, 0, false⟩,
  ⟨(some 97), .idxAddr 1 (.tmp 95) (.tmp 96), none, [95, 96], 0, 0, false⟩,
  ⟨(some 98), .load none (.tmp 97), none, [97], 0, 0, false⟩,
  ⟨(some 99), .idxAddr 1 (.tmp 87) (.tmp 88), none, [87, 88], 0, 0, false⟩,
  ⟨none, .store 1 (.tmp 99) (.tmp 94), none, [99, 94], 0, 1, false⟩,
  ⟨(some 100), .idxAddr 1 (.tmp 89) (.tmp 90), none, [89, 90], 1, 1, false⟩,
  ⟨none, .store 1 (.tmp 100) (.tmp 98), none, [100, 98], 1, 2, false⟩]
def c70_r13 : List AOper := [
  ⟨(some 101), .mov (.tmp 12), none, [], 0, 0, false⟩,
  ⟨(some 102), .bin .add (.tmp 101) (.val (.int .i64 1)), none, [], 0, 0, false⟩,
  ⟨(some 12), .mov (.tmp 102), none, [], 0, 0, false⟩]
def c70_r14 : List AOper := [
  ⟨(some 103), .mov (.tmp 13), none, [], 0, 0, false⟩,
  ⟨(some 104), .bin .sub (.tmp 103) (.val (.int .i64 1)), none, [], 0, 0, false⟩,
  ⟨(some 13), .mov (.tmp 104), none, [], 0, 0, false⟩]
def c70_r15 : List AOper := [
  ⟨(some 105), .mov (.tmp 12), none, [12], 0, 0, false⟩,
  ⟨(some 106), .mov (.tmp 13), none, [13], 0, 0, false⟩,
  ⟨(some 107), .bin .leq (.tmp 105) (.tmp 106), none, [105, 106], 0, 0, false⟩,
  ⟨(some 108), .mov (.tmp 107), none, [107], 0, 0, false⟩,
  ⟨(some 109), .mov (.tmp 4), (some (108, true)), [4], 0, 0, false⟩,
  ⟨(some 110), .mov (.tmp 0), (some (108, true)), [0], 0, 0, false⟩,
  ⟨(some 111), .mov (.tmp 12), (some (108, true)), [12], 0, 0, false⟩,
  ⟨(some 112), .idxAddr 1 (.tmp 110) (.tmp 111), (some (108, true)), [110, 111], 0, 0, false⟩,
  ⟨(some 113), .load none (.tmp 112), (some (108, true)), [112], 0, 0, false⟩,
  ⟨(some 114), .mov (.tmp 0), (some (108, true)), [0], 0, 0, false⟩,
  ⟨(some 115), .mov (.tmp 1), (some (108, true)), [1], 0, 0, false⟩,
  ⟨(some 116), .idxAddr 1 (.tmp 114) (.tmp 115), (some (108, true)), [114, 115], 0, 0, false⟩,
  ⟨(some 117), .load none (.tmp 116), (some (108, true)), [116], 0, 0, false⟩,
  ⟨(some 118), .call (.tmp 109) [(.tmp 113), (.tmp 117)], (some (108, true)), [109, 113, 117], 0, 1, false⟩,
  ⟨(some 119), .bin .lss (.tmp 118) (.val (.int .i64 0)), (some (108, true)), [118], 1, 1, false⟩,
  ⟨(some 120), .pick (.tmp 108) (.tmp 119) (.val (.bool false)), none, [108, 119], 1, 1, false⟩]
def c70_r16 : List AOper := [
  ⟨(some 121), .mov (.tmp 12), none, [], 0, 0, false⟩,
  ⟨(some 122), .bin .add (.tmp 121) (.val (.int .i64 1)), none, [], 0, 0, false⟩,
  ⟨(some 12), .mov (.tmp 122), none, [], 0, 0, false⟩]
def c70_l17 : ACode := (.seq (.seq (.region c70_r15 true) (.cond (.tmp 120) .skip (.exit 6))) (.block 7 (.region c70_r16 false)))
def c70_r18 : List AOper := [
  ⟨(some 123), .mov (.tmp 12), none, [12], 0, 0, false⟩,
  ⟨(some 124), .mov (.tmp 13), none, [13], 0, 0, false⟩,
  ⟨(some 125), .bin .leq (.tmp 123) (.tmp 124), none, [123, 124], 0, 0, false⟩,
  ⟨(some 126), .mov (.tmp 125), none, [125], 0, 0, false⟩,
  ⟨(some 127), .mov (.tmp 4), (some (126, true)), [4], 0, 0, false⟩,
  ⟨(some 128), .mov (.tmp 0), (some (126, true)), [0], 0, 0, false⟩,
  ⟨(some 129), .mov (.tmp 13), (some (126, true)), [13], 0, 0, false⟩,
  ⟨(some 130), .idxAddr 1 (.tmp 128) (.tmp 129), (some (126, true)), [128, 129], 0, 0, false⟩,
  ⟨(some 131), .load none (.tmp 130), (some (126, true)), [130], 0, 0, false⟩,
  ⟨(some 132), .mov (.tmp 0), (some (126, true)), [0], 0, 0, false⟩,
  ⟨(some 133), .mov (.tmp 1), (some (126, true)), [1], 0, 0, false⟩,
  ⟨(some 134), .idxAddr 1 (.tmp 132) (.tmp 133), (some (126, true)), [132, 133], 0, 0, false⟩,
  ⟨(some 135), .load none (.tmp 134), (some (126, true)), [134], 0, 0, false⟩,
  ⟨(some 136), .call (.tmp 127) [(.tmp 131), (.tmp 135)], (some (126, true)), [127, 131, 135], 0, 1, false⟩,
  ⟨(some 137), .bin .lss (.tmp 136) (.val (.int .i64 0)), (some (126, true)), [136], 1, 1, false⟩,
  ⟨(some 138), .un .not (.tmp 137), (some (126, true)), [137], 1, 1, false⟩,
  ⟨(some 139), .pick (.tmp 126) (.tmp 138) (.val (.bool false)), none, [126, 138], 1, 1, false⟩]
def c70_r19 : List AOper := [
  ⟨(some 140), .mov (.tmp 13), none, [], 0, 0, false⟩,
  ⟨(some 141), .bin .sub (.tmp 140) (.val (.int .i64 1)), none, [], 0, 0, false⟩,
  ⟨(some 13), .mov (.tmp 141), none, [], 0, 0, false⟩]
def c70_l20 : ACode := (.seq (.seq (.region c70_r18 true) (.cond (.tmp 139) .skip (.exit 8))) (.block 9 (.region c70_r19 false)))
def c70_r21 : List AOper := [
  ⟨(some 142), .mov (.tmp 12), none, [], 0, 0, false⟩,
  ⟨(some 143), .mov (.tmp 13), none, [], 0, 0, false⟩,
  ⟨(some 144), .bin .gtr (.tmp 142) (.tmp 143), none, [], 0, 0, false⟩]
def c70_r22 : List AOper := [
  ⟨(some 145), .mov (.tmp 0), none, [0], 0, 0, false⟩,
  ⟨(some 146), .mov (.tmp 12), none, [12], 0, 0, false⟩,
  ⟨(some 147), .mov (.tmp 0), none, [0], 0, 1, false⟩,
  ⟨(some 148), .mov (.tmp 13), none, [13], 0, 1, false⟩,
  ⟨(some 149), .mov (.tmp 0), none, [0], 0, 0, false⟩,
  ⟨(some 150), .mov (.tmp 13), none, [13], 0, 0, false⟩,
  ⟨(some 151), .idxAddr 1 (.tmp 149) (.tmp 150), none, [149, 150], 0, 0, false⟩,
  ⟨(some 152), .load none (.tmp 151), none, [151], 0, 0, false⟩,
  ⟨(some 153), .mov (.tmp 0), none, [0], 0, 0, false⟩,
  ⟨(some 154), .mov (.tmp 12), none, [12], 0, 0, false⟩,
  ⟨(some 155), .idxAddr 1 (.tmp 153) (.tmp 154), none, [153, 154], 0, 0, false⟩,
  ⟨(some 156), .load none (.tmp 155), none, [155], 0, 0, false⟩,
  ⟨(some 157), .idxAddr 1 (.tmp 145) (.tmp 146), none, [145, 146], 0, 0, false⟩,
  ⟨none, .store 1 (.tmp 157) (.tmp 152), none, [157, 152], 0, 1, false⟩,
  ⟨(some 158), .idxAddr 1 (.tmp 147) (.tmp 148), none, [147, 148], 1, 1, false⟩,
  ⟨none, .store 1 (.tmp 158) (.tmp 156), none, [158, 156], 1, 2, false⟩]
def c70_r23 : List AOper := [
  ⟨(some 159), .mov (.tmp 12), none, [], 0, 0, false⟩,
  ⟨(some 160), .bin .add (.tmp 159) (.val (.int .i64 1)), none, [], 0, 0, false⟩,
  ⟨(some 12), .mov (.tmp 160), none, [], 0, 0, false⟩]
def c70_r24 : List AOper := [
  ⟨(some 161), .mov (.tmp 13), none, [], 0, 0, false⟩,
  ⟨(some 162), .bin .sub (.tmp 161) (.val (.int .i64 1)), none, [], 0, 0, false⟩,
  ⟨(some 13), .mov (.tmp 162), none, [], 0, 0, false⟩]
def c70_l25 : ACode := (.block 5 (.seq (.block 6 (.loop c70_l17)) (.seq (.block 8 (.loop c70_l20)) (.seq (.seq (.region c70_r21 false) (.cond (.tmp 144) (.exit 4) .skip)) (.seq (.region c70_r22 true) (.seq (.region c70_r23 false) (.region c70_r24 false)))))))
def c70_r26 : List AOper := [
  ⟨(some 163), .mov (.tmp 0), none, [0], 0, 0, false⟩,
  ⟨(some 164), .mov (.tmp 13), none, [13], 0, 0, false⟩,
  ⟨(some 165), .mov (.tmp 0), none, [0], 0, 1, false⟩,
  ⟨(some 166), .mov (.tmp 1), none, [1], 0, 1, false⟩,
  ⟨(some 167), .mov (.tmp 0), none, [0], 0, 0, false⟩,
  ⟨(some 168), .mov (.tmp 1), none, [1], 0, 0, false⟩,
  ⟨(some 169), .idxAddr 1 (.tmp 167) (.tmp 168), none, [167, 168], 0, 0, false⟩,
  ⟨(some 170), .load none (.tmp 169), none, [169], 0, 0, false⟩,
  ⟨(some 171), .mov (.tmp 0), none, [0], 0, 0, false⟩,
  ⟨(some 172), .mov (.tmp 13), none, [13], 0, 0, false⟩,
  ⟨(some 173), .idxAddr 1 (.tmp 171) (.tmp 172), none, [171, 172], 0, 0, false⟩,
  ⟨(some 174), .load none (.tmp 173), none, [173], 0, 0, false⟩,
  ⟨(some 175), .idxAddr 1 (.tmp 163) (.tmp 164), none, [163, 164], 0, 0, false⟩,
  ⟨none, .store 1 (.tmp 175) (.tmp 170), none, [175, 170], 0, 1, false⟩,
  ⟨(some 176), .idxAddr 1 (.tmp 165) (.tmp 166), none, [165, 166], 1, 1, false⟩,
  ⟨none, .store 1 (.tmp 176) (.tmp 174), none, [176, 174], 1, 2, false⟩]
def c70_r27 : List AOper := [
  ⟨(some 177), .mov (.tmp 13), none, [], 0, 0, false⟩,
  ⟨(some 10), .mov (.tmp 177), none, [], 0, 0, false⟩,
  ⟨(some 11), .mov (.val (.bool false)), none, [], 0, 0, false⟩]
def c70 : AFn := ⟨178, [(10, none), (11, none)],
  (.seq (.region c70_r0 false) (.seq (.region c70_r1 true) (.seq (.region c70_r2 false) (.seq (.block 0 (.loop c70_l5)) (.seq (.block 2 (.loop c70_l8)) (.seq (.seq (.region c70_r9 false) (.cond (.tmp 71) (.seq (.region c70_r10 true) (.seq (.region c70_r11 false) .ret)) .skip)) (.seq (.region c70_r12 true) (.seq (.region c70_r13 false) (.seq (.region c70_r14 false) (.seq (.block 4 (.loop c70_l25)) (.seq (.region c70_r26 true) (.seq (.region c70_r27 false) .ret))))))))))))⟩
theorem F70 : funcsOf Try.prog [] 70 = some c70 := by kernel_rfl

def c71_r0 : List AOper := [
  ⟨(some 2), .mov (.val (.int .i64 0)), none, [], 0, 0, false⟩]
def c71_r1 : List AOper := [
  ⟨(some 3), .mov (.tmp 0), none, [], 0, 0, false⟩,
  ⟨(some 4), .bin .geq (.tmp 3) (.val (.int .u32 65536)), none, [], 0, 0, false⟩]
def c71_r2 : List AOper := [
  ⟨(some 5), .mov (.tmp 0), none, [], 0, 0, false⟩,
  ⟨(some 6), .bin .shr (.tmp 5) (.val (.int .u64 16)), none, [], 0, 0, false⟩,
  ⟨(some 0), .mov (.tmp 6), none, [], 0, 0, false⟩]
def c71_r3 : List AOper := [
  ⟨(some 2), .mov (.val (.int .i64 16)), none, [], 0, 0, false⟩]
def c71_r4 : List AOper := [
  ⟨(some 7), .mov (.tmp 0), none, [], 0, 0, false⟩,
  ⟨(some 8), .bin .geq (.tmp 7) (.val (.int .u32 256)), none, [], 0, 0, false⟩]
def c71_r5 : List AOper := [
  ⟨(some 9), .mov (.tmp 0), none, [], 0, 0, false⟩,
  ⟨(some 10), .bin .shr (.tmp 9) (.val (.int .u64 8)), none, [], 0, 0, false⟩,
  ⟨(some 0), .mov (.tmp 10), none, [], 0, 0, false⟩]
def c71_r6 : List AOper := [
  ⟨(some 11), .mov (.tmp 2), none, [], 0, 0, false⟩,
  ⟨(some 12), .bin .add (.tmp 11) (.val (.int .i64 8)), none, [], 0, 0, false⟩,
  ⟨(some 2), .mov (.tmp 12), none, [], 0, 0, false⟩]
def c71_r7 : List AOper := [
  ⟨(some 13), .mov (.tmp 2), none, [], 0, 0, false⟩,
  ⟨(some 14), .mov (.tmp 0), none, [], 0, 0, false⟩,
  ⟨(some 15), .convInt .u8 (.tmp 14), none, [], 0, 0, false⟩,
  ⟨(some 16), .idxStr (.val (.str [0, 1, 2, 2, 3, 3, 3, 3, 4, 4, 4, 4, 4, 4, 4, 4, 5, 5, 5, 5, 5, 5, 5, 5, 5, 5, 5, 5, 5, 5, 5, 5, 6, 6, 6, 6, 6, 6, 6, 6, 6, 6, 6, 6, 6, 6, 6, 6, 6, 6, 6, 6, 6, 6, 6, 6, 6, 6, 6, 6, 6, 6, 6, 6, 7, 7, 7, 7, 7, 7, 7, 7, 7, 7, 7, 7, 7, 7, 7, 7, 7, 7, 7, 7, 7, 7, 7, 7, 7, 7, 7, 7, 7, 7, 7, 7, 7, 7, 7, 7, 7, 7, 7, 7, 7, 7, 7, 7, 7, 7, 7, 7, 7, 7, 7, 7, 7, 7, 7, 7, 7, 7, 7, 7, 7, 7, 7, 7, 8, 8, 8, 8, 8, 8, 8, 8, 8, 8, 8, 8, 8, 8, 8, 8, 8, 8, 8, 8, 8, 8, 8, 8, 8, 8, 8, 8, 8, 8, 8, 8, 8, 8, 8, 8, 8, 8, 8, 8, 8, 8, 8, 8, 8, 8, 8, 8, 8, 8, 8, 8, 8, 8, 8, 8, 8, 8, 8, 8, 8, 8, 8, 8, 8, 8, 8, 8, 8, 8, 8, 8, 8, 8, 8, 8, 8, 8, 8, 8, 8, 8, 8, 8, 8, 8, 8, 8, 8, 8, 8, 8, 8, 8, 8, 8, 8, 8, 8, 8, 8, 8, 8, 8, 8, 8, 8, 8, 8, 8, 8, 8, 8, 8, 8, 8, 8, 8, 8, 8, 8, 8, 8, 8, 8, 8, 8, 8])) (.tmp 15), none, [], 0, 0, false⟩,
  ⟨(some 17), .convInt .i64 (.tmp 16), none, [], 0, 0, false⟩,
  ⟨(some 18), .bin .add (.tmp 13) (.tmp 17), none, [], 0, 0, false⟩,
  ⟨(some 2), .mov (.tmp 18), none, [], 0, 0, false⟩]
def c71 : AFn := ⟨19, [(2, none)],
  (.seq (.region c71_r0 false) (.seq (.seq (.region c71_r1 false) (.cond (.tmp 4) (.seq (.region c71_r2 false) (.region c71_r3 false)) .skip)) (.seq (.seq (.region c71_r4 false) (.cond (.tmp 8) (.seq (.region c71_r5 false) (.region c71_r6 false)) .skip)) (.seq (.region c71_r7 false) .ret))))⟩
theorem F71 : funcsOf Try.prog [] 71 = some c71 := by kernel_rfl

def c72_r0 : List AOper := [
  ⟨(some 2), .mov (.val (.int .i64 0)), none, [], 0, 0, false⟩]
def c72_r1 : List AOper := [
  ⟨(some 3), .mov (.tmp 0), none, [], 0, 0, false⟩,
  ⟨(some 4), .bin .geq (.tmp 3) (.val (.int .u64 4294967296)), none, [], 0, 0, false⟩]
def c72_r2 : List AOper := [
  ⟨(some 5), .mov (.tmp 0), none, [], 0, 0, false⟩,
  ⟨(some 6), .bin .shr (.tmp 5) (.val (.int .u64 32)), none, [], 0, 0, false⟩,
  ⟨(some 0), .mov (.tmp 6), none, [], 0, 0, false⟩]
def c72_r3 : List AOper := [
  ⟨(some 2), .mov (.val (.int .i64 32)), none, [], 0, 0, false⟩]
def c72_r4 : List AOper := [
  ⟨(some 7), .mov (.tmp 0), none, [], 0, 0, false⟩,
  ⟨(some 8), .bin .geq (.tmp 7) (.val (.int .u64 65536)), none, [], 0, 0, false⟩]
def c72_r5 : List AOper := [
  ⟨(some 9), .mov (.tmp 0), none, [], 0, 0, false⟩,
  ⟨(some 10), .bin .shr (.tmp 9) (.val (.int .u64 16)), none, [], 0, 0, false⟩,
  ⟨(some 0), .mov (.tmp 10), none, [], 0, 0, false⟩]
def c72_r6 : List AOper := [
  ⟨(some 11), .mov (.tmp 2), none, [], 0, 0, false⟩,
  ⟨(some 12), .bin .add (.tmp 11) (.val (.int .i64 16)), none, [], 0, 0, false⟩,
  ⟨(some 2), .mov (.tmp 12), none, [], 0, 0, false⟩]
def c72_r7 : List AOper := [
  ⟨(some 13), .mov (.tmp 0), none, [], 0, 0, false⟩,
  ⟨(some 14), .bin .geq (.tmp 13) (.val (.int .u64 256)), none, [], 0, 0, false⟩]
def c72_r8 : List AOper := [
  ⟨(some 15), .mov (.tmp 0), none, [], 0, 0, false⟩,
  ⟨(some 16), .bin .shr (.tmp 15) (.val (.int .u64 8)), none, [], 0, 0, false⟩,
  ⟨(some 0), .mov (.tmp 16), none, [], 0, 0, false⟩]
def c72_r9 : List AOper := [
  ⟨(some 17), .mov (.tmp 2), none, [], 0, 0, false⟩,
  ⟨(some 18), .bin .add (.tmp 17) (.val (.int .i64 8)), none, [], 0, 0, false⟩,
  ⟨(some 2), .mov (.tmp 18), none, [], 0, 0, false⟩]
def c72_r10 : List AOper := [
  ⟨(some 19), .mov (.tmp 2), none, [], 0, 0, false⟩,
  ⟨(some 20), .mov (.tmp 0), none, [], 0, 0, false⟩,
  ⟨(some 21), .convInt .u8 (.tmp 20), none, [], 0, 0, false⟩,
  ⟨(some 22), .idxStr (.val (.str [0, 1, 2, 2, 3, 3, 3, 3, 4, 4, 4, 4, 4, 4, 4, 4, 5, 5, 5, 5, 5, 5, 5, 5, 5, 5, 5, 5, 5, 5, 5, 5, 6, 6, 6, 6, 6, 6, 6, 6, 6, 6, 6, 6, 6, 6, 6, 6, 6, 6, 6, 6, 6, 6, 6, 6, 6, 6, 6, 6, 6, 6, 6, 6, 7, 7, 7, 7, 7, 7, 7, 7, 7, 7, 7, 7, 7, 7, 7, 7, 7, 7, 7, 7, 7, 7, 7, 7, 7, 7, 7, 7, 7, 7, 7, 7, 7, 7, 7, 7, 7, 7, 7, 7, 7, 7, 7, 7, 7, 7, 7, 7, 7, 7, 7, 7, 7, 7, 7, 7, 7, 7, 7, 7, 7, 7, 7, 7, 8, 8, 8, 8, 8, 8, 8, 8, 8, 8, 8, 8, 8, 8, 8, 8, 8, 8, 8, 8, 8, 8, 8, 8, 8, 8, 8, 8, 8, 8, 8, 8, 8, 8, 8, 8, 8, 8, 8, 8, 8, 8, 8, 8, 8, 8, 8, 8, 8, 8, 8, 8, 8, 8, 8, 8, 8, 8, 8, 8, 8, 8, 8, 8, 8, 8, 8, 8, 8, 8, 8, 8, 8, 8, 8, 8, 8, 8, 8, 8, 8, 8, 8, 8, 8, 8, 8, 8, 8, 8, 8, 8, 8, 8, 8, 8, 8, 8, 8, 8, 8, 8, 8, 8, 8, 8, 8, 8, 8, 8, 8, 8, 8, 8, 8, 8, 8, 8, 8, 8, 8, 8, 8, 8, 8, 8, 8, 8])) (.tmp 21), none, [], 0, 0, false⟩,
  ⟨(some 23), .convInt .i64 (.tmp 22), none, [], 0, 0, false⟩,
  ⟨(some 24), .bin .add (.tmp 19) (.tmp 23), none, [], 0, 0, false⟩,
  ⟨(some 2), .mov (.tmp 24), none, [], 0, 0, false⟩]
def c72 : AFn := ⟨25, [(2, none)],
  (.seq (.region c72_r0 false) (.seq (.seq (.region c72_r1 false) (.cond (.tmp 4) (.seq (.region c72_r2 false) (.region c72_r3 false)) .skip)) (.seq (.seq (.region c72_r4 false) (.cond (.tmp 8) (.seq (.region c72_r5 false) (.region c72_r6 false)) .skip)) (.seq (.seq (.region c72_r7 false) (.cond (.tmp 14) (.seq (.region c72_r8 false) (.region c72_r9 false)) .skip)) (.seq (.region c72_r10 false) .ret)))))⟩
theorem F72 : funcsOf Try.prog [] 72 = some c72 := by kernel_rfl

def c73_r0 : List AOper := [
  ⟨(some 12), .mov (.tmp 1), none, [], 0, 0, false⟩,
  ⟨(some 10), .mov (.tmp 12), none, [], 0, 0, false⟩]
def c73_r1 : List AOper := [
  ⟨(some 13), .mov (.tmp 10), none, [], 0, 0, false⟩,
  ⟨(some 14), .bin .mul (.val (.int .i64 2)) (.tmp 13), none, [], 0, 0, false⟩,
  ⟨(some 15), .bin .add (.tmp 14) (.val (.int .i64 1)), none, [], 0, 0, false⟩,
  ⟨(some 11), .mov (.tmp 15), none, [], 0, 0, false⟩]
def c73_r2 : List AOper := [
  ⟨(some 16), .mov (.tmp 11), none, [], 0, 0, false⟩,
  ⟨(some 17), .mov (.tmp 2), none, [], 0, 0, false⟩,
  ⟨(some 18), .bin .geq (.tmp 16) (.tmp 17), none, [], 0, 0, false⟩]
def c73_r3 : List AOper := [
  ⟨(some 19), .mov (.tmp 11), none, [11], 0, 0, false⟩,
  ⟨(some 20), .bin .add (.tmp 19) (.val (.int .i64 1)), none, [19], 0, 0, false⟩,
  ⟨(some 21), .mov (.tmp 2), none, [2], 0, 0, false⟩,
  ⟨(some 22), .bin .lss (.tmp 20) (.tmp 21), none, [20, 21], 0, 0, false⟩,
  ⟨(some 23), .mov (.tmp 22), none, [22], 0, 0, false⟩,
  ⟨(some 24), .mov (.tmp 4), (some (23, true)), [4], 0, 0, false⟩,
  ⟨(some 25), .mov (.tmp 0), (some (23, true)), [0], 0, 0, false⟩,
  ⟨(some 26), .mov (.tmp 3), (some (23, true)), [3], 0, 0, false⟩,
  ⟨(some 27), .mov (.tmp 11), (some (23, true)), [11], 0, 0, false⟩,
  ⟨(some 28), .bin .add (.tmp 26) (.tmp 27), (some (23, true)), [26, 27], 0, 0, false⟩,
  ⟨(some 29), .idxAddr 1 (.tmp 25) (.tmp 28), (some (23, true)), [25, 28], 0, 0, false⟩,
  ⟨(some 30), .load none (.tmp 29), (some (23, true)), [29], 0, 0, false⟩,
  ⟨(some 31), .mov (.tmp 0), (some (23, true)), [0], 0, 0, false⟩,
  ⟨(some 32), .mov (.tmp 3), (some (23, true)), [3], 0, 0, false⟩,
  ⟨(some 33), .mov (.tmp 11), (some (23, true)), [11], 0, 0, false⟩,
  ⟨(some 34), .bin .add (.tmp 32) (.tmp 33), (some (23, true)), [32, 33], 0, 0, false⟩,
  ⟨(some 35), .bin .add (.tmp 34) (.val (.int .i64 1)), (some (23, true)), [34], 0, 0, false⟩,
  ⟨(some 36), .idxAddr 1 (.tmp 31) (.tmp 35), (some (23, true)), [31, 35], 0, 0, false⟩,
  ⟨(some 37), .load none (.tmp 36), (some (23, true)), [36], 0, 0, false⟩,
  ⟨(some 38), .call (.tmp 24) [(.tmp 30), (.tmp 37)], (some (23, true)), [24, 30, 37], 0, 1, false⟩,
  ⟨(some 39), .bin .lss (.tmp 38) (.val (.int .i64 0)), (some (23, true)), [38], 1, 1, false⟩,
  ⟨(some 40), .pick (.tmp 23) (.tmp 39) (.val (.bool false)), none, [23, 39], 1, 1, false⟩]
def c73_r4 : List AOper := [
  ⟨(some 41), .mov (.tmp 11), none, [], 0, 0, false⟩,
  ⟨(some 42), .bin .add (.tmp 41) (.val (.int .i64 1)), none, [], 0, 0, false⟩,
  ⟨(some 11), .mov (.tmp 42), none, [], 0, 0, false⟩]
def c73_r5 : List AOper := [
  ⟨(some 43), .mov (.tmp 4), none, [4], 0, 0, false⟩,
  ⟨(some 44), .mov (.tmp 0), none, [0], 0, 0, false⟩,
  ⟨(some 45), .mov (.tmp 3), none, [3], 0, 0, false⟩,
  ⟨(some 46), .mov (.tmp 10), none, [10], 0, 0, false⟩,
  ⟨(some 47), .bin .add (.tmp 45) (.tmp 46), none, [45, 46], 0, 0, false⟩,
  ⟨(some 48), .idxAddr 1 (.tmp 44) (.tmp 47), none, [44, 47], 0, 0, false⟩,
  ⟨(some 49), .load none (.tmp 48), none, [48], 0, 0, false⟩,
  ⟨(some 50), .mov (.tmp 0), none, [0], 0, 0, false⟩,
  ⟨(some 51), .mov (.tmp 3), none, [3], 0, 0, false⟩,
  ⟨(some 52), .mov (.tmp 11), none, [11], 0, 0, false⟩,
  ⟨(some 53), .bin .add (.tmp 51) (.tmp 52), none, [51, 52], 0, 0, false⟩,
  ⟨(some 54), .idxAddr 1 (.tmp 50) (.tmp 53), none, [50, 53], 0, 0, false⟩,
  ⟨(some 55), .load none (.tmp 54), none, [54], 0, 0, false⟩,
  ⟨(some 56), .call (.tmp 43) [(.tmp 49), (.tmp 55)], none, [43, 49, 55], 0, 1, false⟩,
  ⟨(some 57), .bin .lss (.tmp 56) (.val (.int .i64 0)), none, [56], 1, 1, false⟩,
  ⟨(some 58), .un .not (.tmp 57), none, [57], 1, 1, false⟩]
def c73_r6 : List AOper := [
  ⟨(some 59), .mov (.tmp 0), none, [0], 0, 0, false⟩,
  ⟨(some 60), .mov (.tmp 3), none, [3], 0, 0, false⟩,
  ⟨(some 61), .mov (.tmp 10), none, [10], 0, 0, false⟩,
  ⟨(some 62), .bin .add (.tmp 60) (.tmp 61), none, [60, 61], 0, 0, false⟩,
  ⟨(some 63), .mov (.tmp 0), none, [0], 0, 1, false⟩,
  ⟨(some 64), .mov (.tmp 3), none, [3], 0, 1, false⟩,
  ⟨(some 65), .mov (.tmp 11), none, [11], 0, 1, false⟩,
  ⟨(some 66), .bin .add (.tmp 64) (.tmp 65), none, [64, 65], 0, 1, false⟩,
  ⟨(some 67), .mov (.tmp 0), none, [0], 0, 0, false⟩,
  ⟨(some 68), .mov (.tmp 3), none, [3], 0, 0, false⟩,
  ⟨(some 69), .mov (.tmp 11), none, [11], 0, 0, false⟩,
  ⟨(some 70), .bin .add (.tmp 68) (.tmp 69), none, [68, 69], 0, 0, false⟩,
  ⟨(some 71), .idxAddr 1 (.tmp 67) (.tmp 70), none, [67, 70], 0, 0, false⟩,
  ⟨(some 72), .load none (.tmp 71), none, [71], 0, 0, false⟩,
  ⟨(some 73), .mov (.tmp 0), none, [0], 0, 0, false⟩,
  ⟨(some 74), .mov (.tmp 3), none, [3], 0, 0, false⟩,
  ⟨(some 75), .mov (.tmp 10), none, [10], 0, 0, false⟩,
  ⟨(some 76), .bin .add (.tmp 74) (.tmp 75), none, [74, 75], 0, 0, false⟩,
  ⟨(some 77), .idxAddr 1 (.tmp 73) (.tmp 76), none, [73, 76], 0, 0, false⟩,
  ⟨(some 78), .load none (.tmp 77), none, [77], 0, 0, false⟩,
  ⟨(some 79), .idxAddr 1 (.tmp 59) (.tmp 62), none, [59, 62], 0, 0, false⟩,
  ⟨none, .store 1 (.tmp 79) (.tmp 72), none, [79, 72], 0, 1, false⟩,
  ⟨(some 80), .idxAddr 1 (.tmp 63) (.tmp 66), none, [63, 66], 1, 1, false⟩,
  ⟨none, .store 1 (.tmp 80) (.tmp 78), none, [80, 78], 1, 2, false⟩]
def c73_r7 : List AOper := [
  ⟨(some 81), .mov (.tmp 11), none, [], 0, 0, false⟩,
  ⟨(some 10), .mov (.tmp 81), none, [], 0, 0, false⟩]
def c73_l8 : ACode := (.block 1 (.seq (.region c73_r1 false) (.seq (.seq (.region c73_r2 false) (.cond (.tmp 18) (.exit 0) .skip)) (.seq (.seq (.region c73_r3 true) (.cond (.tmp 40) (.region c73_r4 false) .skip)) (.seq (.seq (.region c73_r5 true) (.cond (.tmp 58) .ret .skip)) (.seq (.region c73_r6 true) (.region c73_r7 false)))))))
def c73 : AFn := ⟨82, [],
  (.seq (.region c73_r0 false) (.block 0 (.loop c73_l8)))⟩
theorem F73 : funcsOf Try.prog [] 73 = some c73 := by kernel_rfl

def c74_r0 : List AOper := [
  ⟨(some 2), .mov (.val (.int .u64 0)), none, [], 0, 0, false⟩]
def c74_r1 : List AOper := [
  ⟨(some 3), .mov (.tmp 0), none, [], 0, 0, false⟩,
  ⟨(some 4), .convInt .u64 (.tmp 3), none, [], 0, 0, false⟩,
  ⟨(some 5), .call (.val (.func (.func 61) [] [])) [(.tmp 4)], none, [], 0, 0, false⟩,
  ⟨(some 6), .bin .shl (.val (.int .u64 1)) (.tmp 5), none, [], 0, 0, false⟩,
  ⟨(some 2), .mov (.tmp 6), none, [], 0, 0, false⟩]
def c74 : AFn := ⟨7, [(2, none)],
  (.seq (.region c74_r0 false) (.seq (.region c74_r1 false) .ret))⟩
theorem F74 : funcsOf Try.prog [] 74 = some c74 := by kernel_rfl

def c75_r0 : List AOper := [
  ⟨(some 2), .mov (.val (.int .u64 0)), none, [], 0, 0, false⟩]
def c75_r1 : List AOper := [
  ⟨(some 3), .mov (.tmp 0), none, [0], 0, 0, false⟩,
  ⟨(some 4), .nilCheck (.tmp 3), none, [3], 0, 0, false⟩,
  ⟨(some 5), .load none (.tmp 4), none, [4], 0, 0, false⟩,
  ⟨(some 6), .mov (.tmp 0), none, [0], 0, 0, false⟩,
  ⟨(some 7), .nilCheck (.tmp 6), none, [6], 0, 0, false⟩,
  ⟨(some 8), .load none (.tmp 7), none, [7], 0, 0, false⟩,
  ⟨(some 9), .bin .shl (.tmp 8) (.val (.int .u64 13)), none, [8], 0, 0, false⟩,
  ⟨(some 10), .bin .xor (.tmp 5) (.tmp 9), none, [5, 9], 0, 0, false⟩,
  ⟨(some 11), .nilCheck (.tmp 3), none, [3], 0, 0, false⟩,
  ⟨none, .store 1 (.tmp 11) (.tmp 10), none, [11, 10], 0, 1, false⟩]
def c75_r2 : List AOper := [
  ⟨(some 12), .mov (.tmp 0), none, [0], 0, 0, false⟩,
  ⟨(some 13), .nilCheck (.tmp 12), none, [12], 0, 0, false⟩,
  ⟨(some 14), .load none (.tmp 13), none, [13], 0, 0, false⟩,
  ⟨(some 15), .mov (.tmp 0), none, [0], 0, 0, false⟩,
  ⟨(some 16), .nilCheck (.tmp 15), none, [15], 0, 0, false⟩,
  ⟨(some 17), .load none (.tmp 16), none, [16], 0, 0, false⟩,
  ⟨(some 18), .bin .shr (.tmp 17) (.val (.int .u64 7)), none, [17], 0, 0, false⟩,
  ⟨(some 19), .bin .xor (.tmp 14) (.tmp 18), none, [14, 18], 0, 0, false⟩,
  ⟨(some 20), .nilCheck (.tmp 12), none, [12], 0, 0, false⟩,
  ⟨none, .store 1 (.tmp 20) (.tmp 19), none, [20, 19], 0, 1, false⟩]
def c75_r3 : List AOper := [
  ⟨(some 21), .mov (.tmp 0), none, [0], 0, 0, false⟩,
  ⟨(some 22), .nilCheck (.tmp 21), none, [21], 0, 0, false⟩,
  ⟨(some 23), .load none (.tmp 22), none, [22], 0, 0, false⟩,
  ⟨(some 24), .mov (.tmp 0), none, [0], 0, 0, false⟩,
  ⟨(some 25), .nilCheck (.tmp 24), none, [24], 0, 0, false⟩,
  ⟨(some 26), .load none (.tmp 25), none, [25], 0, 0, false⟩,
  ⟨(some 27), .bin .shl (.tmp 26) (.val (.int .u64 17)), none, [26], 0, 0, false⟩,
  ⟨(some 28), .bin .xor (.tmp 23) (.tmp 27), none, [23, 27], 0, 0, false⟩,
  ⟨(some 29), .nilCheck (.tmp 21), none, [21], 0, 0, false⟩,
  ⟨none, .store 1 (.tmp 29) (.tmp 28), none, [29, 28], 0, 1, false⟩]
def c75_r4 : List AOper := [
  ⟨(some 30), .mov (.tmp 0), none, [], 0, 0, false⟩,
  ⟨(some 31), .nilCheck (.tmp 30), none, [], 0, 0, false⟩,
  ⟨(some 32), .load none (.tmp 31), none, [], 0, 0, false⟩,
  ⟨(some 2), .mov (.tmp 32), none, [], 0, 0, false⟩]
def c75 : AFn := ⟨33, [(2, none)],
  (.seq (.region c75_r0 false) (.seq (.region c75_r1 true) (.seq (.region c75_r2 true) (.seq (.region c75_r3 true) (.seq (.region c75_r4 false) .ret)))))⟩
theorem F75 : funcsOf Try.prog [] 75 = some c75 := by kernel_rfl

def c76_r0 : List AOper := [
  ⟨(some 8), .mov (.val (.int .i64 0)), none, [], 0, 0, false⟩]
def c76_r1 : List AOper := [
  ⟨(some 9), .mov (.tmp 0), none, [], 0, 0, false⟩,
  ⟨(some 10), .mov (.tmp 1), none, [], 0, 0, false⟩,
  ⟨(some 11), .bin .sub (.tmp 10) (.val (.int .i64 1)), none, [], 0, 0, false⟩,
  ⟨(some 12), .mov (.tmp 1), none, [], 0, 0, false⟩,
  ⟨(some 13), .mov (.tmp 1), none, [], 0, 0, false⟩,
  ⟨(some 14), .bin .add (.tmp 13) (.val (.int .i64 1)), none, [], 0, 0, false⟩,
  ⟨(some 15), .mov (.tmp 2), none, [], 0, 0, false⟩,
  ⟨(some 16), .mov (.tmp 3), none, [], 0, 0, false⟩,
  ⟨(some 17), .call (.val (.func (.func 77) [] [])) [(.tmp 9), (.tmp 11), (.tmp 12), (.tmp 14), (.tmp 15), (.tmp 16)], none, [], 0, 0, false⟩,
  ⟨(some 8), .mov (.tmp 17), none, [], 0, 0, false⟩]
def c76 : AFn := ⟨18, [(8, none)],
  (.seq (.region c76_r0 false) (.seq (.region c76_r1 false) .ret))⟩
theorem F76 : funcsOf Try.prog [] 76 = some c76 := by kernel_rfl

def c77_r0 : List AOper := [
  ⟨(some 12), .mov (.val (.int .i64 0)), none, [], 0, 0, false⟩]
def c77_r1 : List AOper := [
  ⟨(some 14), .mov (.tmp 0), none, [], 0, 0, false⟩,
  ⟨(some 15), .mov (.tmp 1), none, [], 0, 0, false⟩,
  ⟨(some 16), .mov (.tmp 2), none, [], 0, 0, false⟩,
  ⟨(some 17), .mov (.tmp 4), none, [], 0, 0, false⟩,
  ⟨(some 18), .mov (.tmp 5), none, [], 0, 0, false⟩,
  ⟨(some 19), .call (.val (.func (.func 78) [] [])) [(.tmp 14), (.tmp 15), (.tmp 16), (.tmp 17), (.tmp 18)], none, [], 0, 0, false⟩,
  ⟨(some 13), .mov (.tmp 19), none, [], 0, 0, false⟩,
  ⟨(some 20), .extract (.tmp 13) 0, none, [], 0, 0, false⟩,
  ⟨(some 21), .extract (.tmp 13) 1, none, [], 0, 0, false⟩,
  ⟨(some 1), .mov (.tmp 20), none, [], 0, 0, false⟩,
  ⟨(some 2), .mov (.tmp 21), none, [], 0, 0, false⟩]
def c77_r2 : List AOper := [
  ⟨(some 23), .mov (.tmp 0), none, [], 0, 0, false⟩,
  ⟨(some 24), .mov (.tmp 2), none, [], 0, 0, false⟩,
  ⟨(some 25), .mov (.tmp 3), none, [], 0, 0, false⟩,
  ⟨(some 26), .mov (.tmp 4), none, [], 0, 0, false⟩,
  ⟨(some 27), .mov (.tmp 5), none, [], 0, 0, false⟩,
  ⟨(some 28), .call (.val (.func (.func 78) [] [])) [(.tmp 23), (.tmp 24), (.tmp 25), (.tmp 26), (.tmp 27)], none, [], 0, 0, false⟩,
  ⟨(some 22), .mov (.tmp 28), none, [], 0, 0, false⟩,
  ⟨(some 29), .extract (.tmp 22) 0, none, [], 0, 0, false⟩,
  ⟨(some 30), .extract (.tmp 22) 1, none, [], 0, 0, false⟩,
  ⟨(some 2), .mov (.tmp 29), none, [], 0, 0, false⟩,
  ⟨(some 3), .mov (.tmp 30), none, [], 0, 0, false⟩]
def c77_r3 : List AOper := [
  ⟨(some 32), .mov (.tmp 0), none, [], 0, 0, false⟩,
  ⟨(some 33), .mov (.tmp 1), none, [], 0, 0, false⟩,
  ⟨(some 34), .mov (.tmp 2), none, [], 0, 0, false⟩,
  ⟨(some 35), .mov (.tmp 4), none, [], 0, 0, false⟩,
  ⟨(some 36), .mov (.tmp 5), none, [], 0, 0, false⟩,
  ⟨(some 37), .call (.val (.func (.func 78) [] [])) [(.tmp 32), (.tmp 33), (.tmp 34), (.tmp 35), (.tmp 36)], none, [], 0, 0, false⟩,
  ⟨(some 31), .mov (.tmp 37), none, [], 0, 0, false⟩,
  ⟨(some 38), .extract (.tmp 31) 0, none, [], 0, 0, false⟩,
  ⟨(some 39), .extract (.tmp 31) 1, none, [], 0, 0, false⟩,
  ⟨(some 1), .mov (.tmp 38), none, [], 0, 0, false⟩,
  ⟨(some 2), .mov (.tmp 39), none, [], 0, 0, false⟩]
def c77_r4 : List AOper := [
  ⟨(some 40), .mov (.tmp 2), none, [], 0, 0, false⟩,
  ⟨(some 12), .mov (.tmp 40), none, [], 0, 0, false⟩]
def c77 : AFn := ⟨41, [(12, none)],
  (.seq (.region c77_r0 false) (.seq (.region c77_r1 false) (.seq (.region c77_r2 false) (.seq (.region c77_r3 false) (.seq (.region c77_r4 false) .ret)))))⟩
theorem F77 : funcsOf Try.prog [] 77 = some c77 := by kernel_rfl

def c78_r0 : List AOper := [
  ⟨(some 10), .mov (.val (.int .i64 0)), none, [], 0, 0, false⟩,
  ⟨(some 11), .mov (.val (.int .i64 0)), none, [], 0, 0, false⟩]
def c78_r1 : List AOper := [
  ⟨(some 12), .mov (.tmp 4), none, [4], 0, 0, false⟩,
  ⟨(some 13), .mov (.tmp 0), none, [0], 0, 0, false⟩,
  ⟨(some 14), .mov (.tmp 2), none, [2], 0, 0, false⟩,
  ⟨(some 15), .idxAddr 1 (.tmp 13) (.tmp 14), none, [13, 14], 0, 0, false⟩,
  ⟨(some 16), .load none (.tmp 15), none, [15], 0, 0, false⟩,
  ⟨(some 17), .mov (.tmp 0), none, [0], 0, 0, false⟩,
  ⟨(some 18), .mov (.tmp 1), none, [1], 0, 0, false⟩,
  ⟨(some 19), .idxAddr 1 (.tmp 17) (.tmp 18), none, [17, 18], 0, 0, false⟩,
  ⟨(some 20), .load none (.tmp 19), none, [19], 0, 0, false⟩,
  ⟨(some 21), .call (.tmp 12) [(.tmp 16), (.tmp 20)], none, [12, 16, 20], 0, 1, false⟩,
  ⟨(some 22), .bin .lss (.tmp 21) (.val (.int .i64 0)), none, [21], 1, 1, false⟩]
def c78_r2 : List AOper := [
  ⟨(some 23), .mov (.tmp 3), none, [], 0, 0, false⟩,
  ⟨(some 24), .nilCheck (.tmp 23), none, [], 0, 0, false⟩,
  ⟨(some 25), .load none (.tmp 24), none, [], 0, 0, false⟩,
  ⟨(some 26), .bin .add (.tmp 25) (.val (.int .i64 1)), none, [], 0, 0, false⟩,
  ⟨(some 27), .nilCheck (.tmp 23), none, [], 0, 0, false⟩,
  ⟨none, .store 1 (.tmp 27) (.tmp 26), none, [], 0, 0, false⟩]
def c78_r3 : List AOper := [
  ⟨(some 28), .mov (.tmp 2), none, [], 0, 0, false⟩,
  ⟨(some 29), .mov (.tmp 1), none, [], 0, 0, false⟩,
  ⟨(some 10), .mov (.tmp 28), none, [], 0, 0, false⟩,
  ⟨(some 11), .mov (.tmp 29), none, [], 0, 0, false⟩]
def c78_r4 : List AOper := [
  ⟨(some 30), .mov (.tmp 1), none, [], 0, 0, false⟩,
  ⟨(some 31), .mov (.tmp 2), none, [], 0, 0, false⟩,
  ⟨(some 10), .mov (.tmp 30), none, [], 0, 0, false⟩,
  ⟨(some 11), .mov (.tmp 31), none, [], 0, 0, false⟩]
def c78 : AFn := ⟨32, [(10, none), (11, none)],
  (.seq (.region c78_r0 false) (.seq (.seq (.region c78_r1 true) (.cond (.tmp 22) (.seq (.region c78_r2 false) (.seq (.region c78_r3 false) .ret)) .skip)) (.seq (.region c78_r4 false) .ret)))⟩
theorem F78 : funcsOf Try.prog [] 78 = some c78 := by kernel_rfl

end Go.Proofs.Ytkbekibljcdbjaa.Ax
