/- The compiled text of some functions (printed by wip/tools/AxPrint.lean), and that it is what the compiler gives. Conditions: none. -/
import Derived.Test.YtkbekibljcdbjaaAx22
import Derived.Test.YtkbekibljcdbjaaProg
namespace Go.Proofs.Ytkbekibljcdbjaa.Ax
open Go
def c4_r0 : List AOper := [
  ⟨(some 4), .mov (.val (.bool false)), none, [], 0, 0, false⟩]
def c4_r1 : List AOper := [
  ⟨(some 18), .mov (.tmp 0), none, [], 0, 0, false⟩,
  ⟨(some 19), .bin .lss (.tmp 18) (.val (.int .i64 0)), none, [], 0, 0, false⟩,
  ⟨(some 20), .mov (.tmp 19), none, [], 0, 0, false⟩,
  ⟨(some 21), .mov (.tmp 0), (some (20, false)), [], 0, 0, false⟩,
  ⟨(some 22), .bin .gtr (.tmp 21) (.val (.int .i64 200)), (some (20, false)), [], 0, 0, false⟩,
  ⟨(some 23), .pick (.tmp 20) (.val (.bool true)) (.tmp 22), none, [], 0, 0, false⟩,
  ⟨(some 24), .mov (.tmp 23), none, [], 0, 0, false⟩,
  ⟨(some 25), .mov (.tmp 1), (some (24, false)), [], 0, 0, false⟩,
  ⟨(some 26), .lenSlice (.tmp 25), (some (24, false)), [], 0, 0, false⟩,
  ⟨(some 27), .bin .gtr (.tmp 26) (.val (.int .i64 100)), (some (24, false)), [], 0, 0, false⟩,
  ⟨(some 28), .pick (.tmp 24) (.val (.bool true)) (.tmp 27), none, [], 0, 0, false⟩]
def c4_r2 : List AOper := [
  ⟨(some 29), .mov (.tmp 0), none, [], 0, 0, false⟩,
  ⟨(some 30), .bin .geq (.tmp 29) (.val (.int .i64 0)), none, [], 0, 0, false⟩,
  ⟨(some 31), .mov (.tmp 30), none, [], 0, 0, false⟩,
  ⟨(some 32), .mov (.tmp 0), (some (31, true)), [], 0, 0, false⟩,
  ⟨(some 33), .bin .leq (.tmp 32) (.val (.int .i64 1000)), (some (31, true)), [], 0, 0, false⟩,
  ⟨(some 34), .pick (.tmp 31) (.tmp 33) (.val (.bool false)), none, [], 0, 0, false⟩,
  ⟨(some 35), .mov (.tmp 34), none, [], 0, 0, false⟩,
  ⟨(some 36), .mov (.tmp 0), (some (35, false)), [], 0, 0, false⟩,
  ⟨(some 37), .call (.val (.func (.func 14) [] [])) [(.tmp 36)], (some (35, false)), [], 0, 0, false⟩,
  ⟨(some 38), .eq false .ptr (.tmp 37) (.val (.ptr none)), (some (35, false)), [], 0, 0, false⟩,
  ⟨(some 39), .pick (.tmp 35) (.val (.bool true)) (.tmp 38), none, [], 0, 0, false⟩,
  ⟨(some 40), .mov (.tmp 39), none, [], 0, 0, false⟩,
  ⟨(some 41), .call (.val (.func (.func 15) [] [])) [], (some (40, true)), [], 0, 0, false⟩,
  ⟨(some 42), .pick (.tmp 40) (.tmp 41) (.val (.bool false)), none, [], 0, 0, false⟩,
  ⟨(some 4), .mov (.tmp 42), none, [], 0, 0, false⟩]
def c4_r3 : List AOper := [
  ⟨(some 43), .mov (.tmp 0), none, [0], 0, 1, false⟩,
  ⟨(some 44), .call (.val (.func (.func 14) [] [])) [(.tmp 43)], none, [43], 0, 2, false⟩,
  ⟨(some 45), .mov (.tmp 0), none, [0], 0, 1, false⟩,
  ⟨(some 46), .mkSlice [(.int .i64 0), (.bool false)] 91 2 16 (.tmp 45) (.tmp 45), none, [45, 45], 0, 2, true⟩,
  ⟨(some 5), .mov (.tmp 44), none, [44], 1, 2, false⟩,
  ⟨(some 6), .mov (.tmp 46), none, [46], 1, 2, false⟩]
def c4_r4 : List AOper := [
  ⟨(some 47), .mov (.tmp 5), none, [], 0, 0, false⟩,
  ⟨(some 48), .eq false .ptr (.tmp 47) (.val (.ptr none)), none, [], 0, 0, false⟩]
def c4_r5 : List AOper := [
  ⟨(some 4), .mov (.val (.bool false)), none, [], 0, 0, false⟩]
def c4_r6 : List AOper := [
  ⟨(some 49), .mov (.tmp 1), none, [], 0, 0, false⟩,
  ⟨(some 50), .lenSlice (.tmp 49), none, [], 0, 0, false⟩,
  ⟨(some 51), .mov (.val (.int .i64 0)), none, [], 0, 0, false⟩]
def c4_r7 : List AOper := [
  ⟨(some 52), .bin .lss (.tmp 51) (.tmp 50), none, [], 0, 0, false⟩]
def c4_r8 : List AOper := [
  ⟨(some 53), .idxAddr 3 (.tmp 49) (.tmp 51), none, [], 0, 0, false⟩,
  ⟨(some 54), .load (some 3) (.tmp 53), none, [], 0, 0, false⟩,
  ⟨(some 8), .alloc [(.int .i64 0), (.int .i64 0), (.int .i64 0)] 37, none, [], 0, 0, false⟩,
  ⟨none, .store 3 (.tmp 8) (.tmp 54), none, [], 0, 0, false⟩]
def c4_r9 : List AOper := [
  ⟨(some 55), .fieldAddr 0 (.tmp 8), none, [], 0, 0, false⟩,
  ⟨(some 56), .load none (.tmp 55), none, [], 0, 0, false⟩]
def c4_r10 : List AOper := [
  ⟨(some 72), .bin .eql (.tmp 56) (.val (.int .i64 1)), none, [], 0, 0, false⟩,
  ⟨(some 71), .mov (.tmp 72), none, [], 0, 0, false⟩]
def c4_r11 : List AOper := [
  ⟨(some 74), .mov (.tmp 6), none, [], 0, 0, false⟩,
  ⟨(some 75), .fieldAddr 2 (.tmp 8), none, [], 0, 0, false⟩,
  ⟨(some 76), .load none (.tmp 75), none, [], 0, 0, false⟩,
  ⟨(some 77), .call (.val (.func (.func 16) [] [])) [(.tmp 74), (.tmp 76)], none, [], 0, 0, false⟩,
  ⟨(some 73), .mov (.tmp 77), none, [], 0, 0, false⟩,
  ⟨(some 78), .extract (.tmp 73) 0, none, [], 0, 0, false⟩,
  ⟨(some 79), .extract (.tmp 73) 1, none, [], 0, 0, false⟩,
  ⟨(some 80), .extract (.tmp 73) 2, none, [], 0, 0, false⟩,
  ⟨(some 9), .mov (.tmp 78), none, [], 0, 0, false⟩,
  ⟨(some 10), .mov (.tmp 79), none, [], 0, 0, false⟩,
  ⟨(some 11), .mov (.tmp 80), none, [], 0, 0, false⟩]
def c4_r12 : List AOper := [
  ⟨(some 81), .mov (.tmp 9), none, [], 0, 0, false⟩,
  ⟨(some 6), .mov (.tmp 81), none, [], 0, 0, false⟩]
def c4_r13 : List AOper := [
  ⟨(some 82), .mov (.tmp 11), none, [], 0, 0, false⟩,
  ⟨(some 83), .un .not (.tmp 82), none, [], 0, 0, false⟩]
def c4_r14 : List AOper := [
  ⟨(some 10), .mov (.val (.int .i64 (-1))), none, [], 0, 0, false⟩]
def c4_r15 : List AOper := [
  ⟨(some 84), .mov (.tmp 5), none, [], 0, 0, false⟩,
  ⟨(some 85), .fieldAddr 2 (.tmp 8), none, [], 0, 0, false⟩,
  ⟨(some 86), .load none (.tmp 85), none, [], 0, 0, false⟩,
  ⟨(some 87), .call (.val (.func (.func 17) [] [])) [(.tmp 84), (.tmp 86)], none, [], 0, 0, false⟩,
  ⟨(some 88), .mov (.tmp 10), none, [], 0, 0, false⟩,
  ⟨(some 89), .bin .neq (.tmp 87) (.tmp 88), none, [], 0, 0, false⟩]
def c4_r16 : List AOper := [
  ⟨(some 4), .mov (.val (.bool false)), none, [], 0, 0, false⟩]
def c4_r17 : List AOper := [
  ⟨(some 91), .bin .eql (.tmp 56) (.val (.int .i64 2)), none, [], 0, 0, false⟩,
  ⟨(some 90), .mov (.tmp 91), none, [], 0, 0, false⟩]
def c4_r18 : List AOper := [
  ⟨(some 93), .mov (.tmp 5), none, [], 0, 0, false⟩,
  ⟨(some 94), .fieldAddr 1 (.tmp 8), none, [], 0, 0, false⟩,
  ⟨(some 95), .load none (.tmp 94), none, [], 0, 0, false⟩,
  ⟨(some 96), .call (.val (.func (.func 18) [] [])) [(.tmp 93), (.tmp 95)], none, [], 0, 0, false⟩,
  ⟨(some 92), .mov (.tmp 96), none, [], 0, 0, false⟩,
  ⟨(some 97), .extract (.tmp 92) 0, none, [], 0, 0, false⟩,
  ⟨(some 98), .extract (.tmp 92) 1, none, [], 0, 0, false⟩,
  ⟨(some 12), .mov (.tmp 97), none, [], 0, 0, false⟩,
  ⟨(some 13), .mov (.tmp 98), none, [], 0, 0, false⟩]
def c4_r19 : List AOper := [
  ⟨(some 100), .mov (.tmp 6), none, [], 0, 0, false⟩,
  ⟨(some 101), .fieldAddr 1 (.tmp 8), none, [], 0, 0, false⟩,
  ⟨(some 102), .load none (.tmp 101), none, [], 0, 0, false⟩,
  ⟨(some 103), .call (.val (.func (.func 19) [] [])) [(.tmp 100), (.tmp 102)], none, [], 0, 0, false⟩,
  ⟨(some 99), .mov (.tmp 103), none, [], 0, 0, false⟩,
  ⟨(some 104), .extract (.tmp 99) 0, none, [], 0, 0, false⟩,
  ⟨(some 105), .extract (.tmp 99) 1, none, [], 0, 0, false⟩,
  ⟨(some 14), .mov (.tmp 104), none, [], 0, 0, false⟩,
  ⟨(some 15), .mov (.tmp 105), none, [], 0, 0, false⟩]
def c4_r20 : List AOper := [
  ⟨(some 106), .mov (.tmp 13), none, [], 0, 0, false⟩,
  ⟨(some 107), .mov (.tmp 15), none, [], 0, 0, false⟩,
  ⟨(some 108), .eq true .bool (.tmp 106) (.tmp 107), none, [], 0, 0, false⟩,
  ⟨(some 109), .mov (.tmp 108), none, [], 0, 0, false⟩,
  ⟨(some 110), .mov (.tmp 13), (some (109, false)), [], 0, 0, false⟩,
  ⟨(some 111), .mov (.tmp 110), (some (109, false)), [], 0, 0, false⟩,
  ⟨(some 112), .mov (.tmp 12), (some (111, true)), [], 0, 0, false⟩,
  ⟨(some 113), .mov (.tmp 14), (some (111, true)), [], 0, 0, false⟩,
  ⟨(some 114), .bin .neq (.tmp 112) (.tmp 113), (some (111, true)), [], 0, 0, false⟩,
  ⟨(some 115), .pick (.tmp 111) (.tmp 114) (.val (.bool false)), (some (109, false)), [], 0, 0, false⟩,
  ⟨(some 116), .pick (.tmp 109) (.val (.bool true)) (.tmp 115), none, [], 0, 0, false⟩]
def c4_r21 : List AOper := [
  ⟨(some 4), .mov (.val (.bool false)), none, [], 0, 0, false⟩]
def c4_r22 : List AOper := [
  ⟨(some 58), .mov (.tmp 6), none, [], 0, 0, false⟩,
  ⟨(some 59), .fieldAddr 1 (.tmp 8), none, [], 0, 0, false⟩,
  ⟨(some 60), .load none (.tmp 59), none, [], 0, 0, false⟩,
  ⟨(some 61), .call (.val (.func (.func 20) [] [])) [(.tmp 58), (.tmp 60)], none, [], 0, 0, false⟩,
  ⟨(some 57), .mov (.tmp 61), none, [], 0, 0, false⟩,
  ⟨(some 62), .extract (.tmp 57) 0, none, [], 0, 0, false⟩,
  ⟨(some 63), .extract (.tmp 57) 1, none, [], 0, 0, false⟩,
  ⟨(some 16), .mov (.tmp 62), none, [], 0, 0, false⟩,
  ⟨(some 17), .mov (.tmp 63), none, [], 0, 0, false⟩]
def c4_r23 : List AOper := [
  ⟨(some 64), .mov (.tmp 16), none, [], 0, 0, false⟩,
  ⟨(some 6), .mov (.tmp 64), none, [], 0, 0, false⟩]
def c4_r24 : List AOper := [
  ⟨(some 65), .mov (.tmp 5), none, [], 0, 0, false⟩,
  ⟨(some 66), .fieldAddr 1 (.tmp 8), none, [], 0, 0, false⟩,
  ⟨(some 67), .load none (.tmp 66), none, [], 0, 0, false⟩,
  ⟨(some 68), .call (.val (.func (.func 21) [] [])) [(.tmp 65), (.tmp 67)], none, [], 0, 0, false⟩,
  ⟨(some 69), .mov (.tmp 17), none, [], 0, 0, false⟩,
  ⟨(some 70), .eq true .bool (.tmp 68) (.tmp 69), none, [], 0, 0, false⟩]
def c4_r25 : List AOper := [
  ⟨(some 4), .mov (.val (.bool false)), none, [], 0, 0, false⟩]
def c4_r26 : List AOper := [
  ⟨(some 117), .mov (.tmp 5), none, [], 0, 0, false⟩,
  ⟨(some 118), .mov (.tmp 6), none, [], 0, 0, false⟩,
  ⟨(some 119), .call (.val (.func (.func 22) [] [])) [(.tmp 117), (.tmp 118)], none, [], 0, 0, false⟩,
  ⟨(some 120), .un .not (.tmp 119), none, [], 0, 0, false⟩]
def c4_r27 : List AOper := [
  ⟨(some 4), .mov (.val (.bool false)), none, [], 0, 0, false⟩]
def c4_r28 : List AOper := [
  ⟨(some 121), .bin .add (.tmp 51) (.val (.int .i64 1)), none, [], 0, 0, false⟩,
  ⟨(some 51), .mov (.tmp 121), none, [], 0, 0, false⟩]
def c4_l29 : ACode := (.seq (.region c4_r7 false) (.seq (.cond (.tmp 52) .skip (.exit 0)) (.seq (.block 1 (.seq (.region c4_r8 false) (.seq (.seq (.region c4_r9 false) (.block 2 (.seq (.region c4_r10 false) (.cond (.tmp 71) (.seq (.region c4_r11 false) (.seq (.region c4_r12 false) (.seq (.seq (.region c4_r13 false) (.cond (.tmp 83) (.region c4_r14 false) .skip)) (.seq (.region c4_r15 false) (.cond (.tmp 89) (.seq (.region c4_r16 false) .ret) .skip))))) (.seq (.region c4_r17 false) (.cond (.tmp 90) (.seq (.region c4_r18 false) (.seq (.region c4_r19 false) (.seq (.region c4_r20 false) (.cond (.tmp 116) (.seq (.region c4_r21 false) .ret) .skip)))) (.seq (.region c4_r22 false) (.seq (.region c4_r23 false) (.seq (.region c4_r24 false) (.cond (.tmp 70) (.seq (.region c4_r25 false) .ret) .skip)))))))))) (.seq (.region c4_r26 false) (.cond (.tmp 120) (.seq (.region c4_r27 false) .ret) .skip))))) (.region c4_r28 false))))
def c4_r30 : List AOper := [
  ⟨(some 122), .call (.val (.func (.func 15) [] [])) [], none, [], 0, 0, false⟩,
  ⟨(some 4), .mov (.tmp 122), none, [], 0, 0, false⟩]
def c4 : AFn := ⟨123, [(4, none)],
  (.seq (.region c4_r0 false) (.seq (.seq (.region c4_r1 false) (.cond (.tmp 28) (.seq (.region c4_r2 false) .ret) .skip)) (.seq (.region c4_r3 true) (.seq (.seq (.region c4_r4 false) (.cond (.tmp 48) (.seq (.region c4_r5 false) .ret) .skip)) (.seq (.seq (.region c4_r6 false) (.block 0 (.loop c4_l29))) (.seq (.region c4_r30 false) .ret))))))⟩
theorem F4 : funcsOf Try.prog [] 4 = some c4 := by kernel_rfl

def c5_r0 : List AOper := [
  ⟨(some 2), .mov (.val (.bool false)), none, [], 0, 0, false⟩]
def c5_r1 : List AOper := [
  ⟨(some 15), .mov (.tmp 0), none, [], 0, 0, false⟩,
  ⟨(some 16), .lenSlice (.tmp 15), none, [], 0, 0, false⟩,
  ⟨(some 17), .bin .gtr (.tmp 16) (.val (.int .i64 100)), none, [], 0, 0, false⟩]
def c5_r2 : List AOper := [
  ⟨(some 18), .call (.val (.func (.func 15) [] [])) [], none, [], 0, 0, false⟩,
  ⟨(some 2), .mov (.tmp 18), none, [], 0, 0, false⟩]
def c5_r3 : List AOper := [
  ⟨(some 3), .alloc [(.slice none 0 0 0)] 51, none, [], 0, 0, false⟩]
def c5_r4 : List AOper := [
  ⟨(some 19), .buildSlice [(.int .i64 0), (.int .i64 0)] 55 0 [], none, [], 0, 0, false⟩,
  ⟨(some 4), .mov (.tmp 19), none, [], 0, 0, false⟩]
def c5_r5 : List AOper := [
  ⟨(some 20), .mov (.tmp 0), none, [], 0, 0, false⟩,
  ⟨(some 21), .lenSlice (.tmp 20), none, [], 0, 0, false⟩,
  ⟨(some 22), .mov (.val (.int .i64 0)), none, [], 0, 0, false⟩]
def c5_r6 : List AOper := [
  ⟨(some 23), .bin .lss (.tmp 22) (.tmp 21), none, [], 0, 0, false⟩]
def c5_r7 : List AOper := [
  ⟨(some 24), .idxAddr 3 (.tmp 20) (.tmp 22), none, [], 0, 0, false⟩,
  ⟨(some 25), .load (some 3) (.tmp 24), none, [], 0, 0, false⟩,
  ⟨(some 6), .alloc [(.int .i64 0), (.int .i64 0), (.int .i64 0)] 37, none, [], 0, 0, false⟩,
  ⟨none, .store 3 (.tmp 6) (.tmp 25), none, [], 0, 0, false⟩]
def c5_r8 : List AOper := [
  ⟨(some 26), .fieldAddr 0 (.tmp 6), none, [], 0, 0, false⟩,
  ⟨(some 27), .load none (.tmp 26), none, [], 0, 0, false⟩]
def c5_r9 : List AOper := [
  ⟨(some 75), .bin .eql (.tmp 27) (.val (.int .i64 1)), none, [], 0, 0, false⟩,
  ⟨(some 74), .mov (.tmp 75), none, [], 0, 0, false⟩]
def c5_r10 : List AOper := [
  ⟨(some 76), .fieldAddr 1 (.tmp 6), none, [], 0, 0, false⟩,
  ⟨(some 77), .load none (.tmp 76), none, [], 0, 0, false⟩,
  ⟨(some 78), .fieldAddr 2 (.tmp 6), none, [], 0, 0, false⟩,
  ⟨(some 79), .load none (.tmp 78), none, [], 0, 0, false⟩,
  ⟨(some 80), .call (.val (.func (.func 23) [] [])) [(.tmp 3), (.tmp 77), (.tmp 79)], none, [], 0, 0, false⟩]
def c5_r11 : List AOper := [
  ⟨(some 81), .mov (.tmp 4), none, [], 0, 0, false⟩,
  ⟨(some 82), .fieldAddr 1 (.tmp 6), none, [], 0, 0, false⟩,
  ⟨(some 83), .load none (.tmp 82), none, [], 0, 0, false⟩,
  ⟨(some 84), .fieldAddr 2 (.tmp 6), none, [], 0, 0, false⟩,
  ⟨(some 85), .load none (.tmp 84), none, [], 0, 0, false⟩,
  ⟨(some 86), .build [(.int .i64 0), (.int .i64 0)] [(0, 1, (.tmp 83)), (1, 1, (.tmp 85))], none, [], 0, 0, false⟩,
  ⟨(some 87), .buildSlice [(.int .i64 0), (.int .i64 0)] 55 1 [(0, 2, (.tmp 86))], none, [], 0, 0, false⟩,
  ⟨(some 88), .append 55 2 16 (.tmp 81) (.tmp 87), none, [], 0, 0, false⟩,
  ⟨(some 4), .mov (.tmp 88), none, [], 0, 0, false⟩]
def c5_r12 : List AOper := [
  ⟨(some 90), .bin .eql (.tmp 27) (.val (.int .i64 2)), none, [], 0, 0, false⟩,
  ⟨(some 89), .mov (.tmp 90), none, [], 0, 0, false⟩]
def c5_r13 : List AOper := [
  ⟨(some 92), .fieldAddr 1 (.tmp 6), none, [], 0, 0, false⟩,
  ⟨(some 93), .load none (.tmp 92), none, [], 0, 0, false⟩,
  ⟨(some 94), .call (.val (.func (.func 24) [] [])) [(.tmp 3), (.tmp 93)], none, [], 0, 0, false⟩,
  ⟨(some 91), .mov (.tmp 94), none, [], 0, 0, false⟩,
  ⟨(some 95), .extract (.tmp 91) 0, none, [], 0, 0, false⟩,
  ⟨(some 96), .extract (.tmp 91) 1, none, [], 0, 0, false⟩,
  ⟨(some 7), .mov (.tmp 95), none, [], 0, 0, false⟩,
  ⟨(some 8), .mov (.tmp 96), none, [], 0, 0, false⟩]
def c5_r14 : List AOper := [
  ⟨(some 98), .mov (.tmp 4), none, [], 0, 0, false⟩,
  ⟨(some 99), .fieldAddr 1 (.tmp 6), none, [], 0, 0, false⟩,
  ⟨(some 100), .load none (.tmp 99), none, [], 0, 0, false⟩,
  ⟨(some 101), .call (.val (.func (.func 25) [] [])) [(.tmp 98), (.tmp 100)], none, [], 0, 0, false⟩,
  ⟨(some 97), .mov (.tmp 101), none, [], 0, 0, false⟩,
  ⟨(some 102), .extract (.tmp 97) 0, none, [], 0, 0, false⟩,
  ⟨(some 103), .extract (.tmp 97) 1, none, [], 0, 0, false⟩,
  ⟨(some 104), .extract (.tmp 97) 2, none, [], 0, 0, false⟩,
  ⟨(some 9), .mov (.tmp 102), none, [], 0, 0, false⟩,
  ⟨(some 10), .mov (.tmp 103), none, [], 0, 0, false⟩,
  ⟨(some 11), .mov (.tmp 104), none, [], 0, 0, false⟩]
def c5_r15 : List AOper := [
  ⟨(some 105), .mov (.tmp 9), none, [], 0, 0, false⟩,
  ⟨(some 4), .mov (.tmp 105), none, [], 0, 0, false⟩]
def c5_r16 : List AOper := [
  ⟨(some 106), .mov (.tmp 7), none, [], 0, 0, false⟩,
  ⟨(some 107), .mov (.tmp 10), none, [], 0, 0, false⟩,
  ⟨(some 108), .bin .neq (.tmp 106) (.tmp 107), none, [], 0, 0, false⟩,
  ⟨(some 109), .mov (.tmp 108), none, [], 0, 0, false⟩,
  ⟨(some 110), .mov (.tmp 8), (some (109, false)), [], 0, 0, false⟩,
  ⟨(some 111), .mov (.tmp 11), (some (109, false)), [], 0, 0, false⟩,
  ⟨(some 112), .eq true .bool (.tmp 110) (.tmp 111), (some (109, false)), [], 0, 0, false⟩,
  ⟨(some 113), .pick (.tmp 109) (.val (.bool true)) (.tmp 112), none, [], 0, 0, false⟩]
def c5_r17 : List AOper := [
  ⟨(some 2), .mov (.val (.bool false)), none, [], 0, 0, false⟩]
def c5_r18 : List AOper := [
  ⟨(some 29), .call (.val (.func (.func 26) [] [])) [(.tmp 3)], none, [], 0, 0, false⟩,
  ⟨(some 28), .mov (.tmp 29), none, [], 0, 0, false⟩,
  ⟨(some 30), .extract (.tmp 28) 0, none, [], 0, 0, false⟩,
  ⟨(some 31), .extract (.tmp 28) 1, none, [], 0, 0, false⟩,
  ⟨(some 32), .extract (.tmp 28) 2, none, [], 0, 0, false⟩,
  ⟨(some 12), .mov (.tmp 30), none, [], 0, 0, false⟩,
  ⟨(some 13), .mov (.tmp 31), none, [], 0, 0, false⟩,
  ⟨(some 14), .mov (.tmp 32), none, [], 0, 0, false⟩]
def c5_r19 : List AOper := [
  ⟨(some 33), .mov (.tmp 14), none, [], 0, 0, false⟩,
  ⟨(some 34), .mov (.tmp 4), none, [], 0, 0, false⟩,
  ⟨(some 35), .lenSlice (.tmp 34), none, [], 0, 0, false⟩,
  ⟨(some 36), .bin .gtr (.tmp 35) (.val (.int .i64 0)), none, [], 0, 0, false⟩,
  ⟨(some 37), .eq true .bool (.tmp 33) (.tmp 36), none, [], 0, 0, false⟩,
  ⟨(some 38), .mov (.tmp 37), none, [], 0, 0, false⟩,
  ⟨(some 39), .mov (.tmp 14), (some (38, false)), [], 0, 0, false⟩,
  ⟨(some 40), .mov (.tmp 39), (some (38, false)), [], 0, 0, false⟩,
  ⟨(some 41), .mov (.tmp 12), (some (40, true)), [], 0, 0, false⟩,
  ⟨(some 42), .mov (.tmp 4), (some (40, true)), [], 0, 0, false⟩,
  ⟨(some 43), .idxAddr 2 (.tmp 42) (.val (.int .i64 0)), (some (40, true)), [], 0, 0, false⟩,
  ⟨(some 44), .fieldAddr 0 (.tmp 43), (some (40, true)), [], 0, 0, false⟩,
  ⟨(some 45), .load none (.tmp 44), (some (40, true)), [], 0, 0, false⟩,
  ⟨(some 46), .bin .neq (.tmp 41) (.tmp 45), (some (40, true)), [], 0, 0, false⟩,
  ⟨(some 47), .mov (.tmp 46), (some (40, true)), [], 0, 0, false⟩,
  ⟨(some 48), .mov (.tmp 13), (some (47, false)), [], 0, 0, false⟩,
  ⟨(some 49), .mov (.tmp 4), (some (47, false)), [], 0, 0, false⟩,
  ⟨(some 50), .idxAddr 2 (.tmp 49) (.val (.int .i64 0)), (some (47, false)), [], 0, 0, false⟩,
  ⟨(some 51), .fieldAddr 1 (.tmp 50), (some (47, false)), [], 0, 0, false⟩,
  ⟨(some 52), .load none (.tmp 51), (some (47, false)), [], 0, 0, false⟩,
  ⟨(some 53), .bin .neq (.tmp 48) (.tmp 52), (some (47, false)), [], 0, 0, false⟩,
  ⟨(some 54), .pick (.tmp 47) (.val (.bool true)) (.tmp 53), (some (40, true)), [], 0, 0, false⟩,
  ⟨(some 55), .pick (.tmp 40) (.tmp 54) (.val (.bool false)), (some (38, false)), [], 0, 0, false⟩,
  ⟨(some 56), .pick (.tmp 38) (.val (.bool true)) (.tmp 55), none, [], 0, 0, false⟩,
  ⟨(some 57), .mov (.tmp 56), none, [], 0, 0, false⟩,
  ⟨(some 58), .mov (.tmp 14), (some (57, false)), [], 0, 0, false⟩,
  ⟨(some 59), .un .not (.tmp 58), (some (57, false)), [], 0, 0, false⟩,
  ⟨(some 60), .mov (.tmp 59), (some (57, false)), [], 0, 0, false⟩,
  ⟨(some 61), .mov (.tmp 12), (some (60, true)), [], 0, 0, false⟩,
  ⟨(some 62), .bin .neq (.tmp 61) (.val (.int .i64 0)), (some (60, true)), [], 0, 0, false⟩,
  ⟨(some 63), .mov (.tmp 62), (some (60, true)), [], 0, 0, false⟩,
  ⟨(some 64), .mov (.tmp 13), (some (63, false)), [], 0, 0, false⟩,
  ⟨(some 65), .bin .neq (.tmp 64) (.val (.int .i64 0)), (some (63, false)), [], 0, 0, false⟩,
  ⟨(some 66), .pick (.tmp 63) (.val (.bool true)) (.tmp 65), (some (60, true)), [], 0, 0, false⟩,
  ⟨(some 67), .pick (.tmp 60) (.tmp 66) (.val (.bool false)), (some (57, false)), [], 0, 0, false⟩,
  ⟨(some 68), .pick (.tmp 57) (.val (.bool true)) (.tmp 67), none, [], 0, 0, false⟩]
def c5_r20 : List AOper := [
  ⟨(some 2), .mov (.val (.bool false)), none, [], 0, 0, false⟩]
def c5_r21 : List AOper := [
  ⟨(some 69), .mov (.tmp 4), none, [], 0, 0, false⟩,
  ⟨(some 70), .mov (.tmp 4), none, [], 0, 0, false⟩,
  ⟨(some 71), .lenSlice (.tmp 70), none, [], 0, 0, false⟩,
  ⟨(some 72), .minmax false [(.val (.int .i64 1)), (.tmp 71)], none, [], 0, 0, false⟩,
  ⟨(some 73), .slice 2 (.tmp 69) (some (.tmp 72)) none none, none, [], 0, 0, false⟩,
  ⟨(some 4), .mov (.tmp 73), none, [], 0, 0, false⟩]
def c5_r22 : List AOper := [
  ⟨(some 114), .call (.val (.func (.func 27) [] [])) [(.tmp 3)], none, [], 0, 0, false⟩,
  ⟨(some 115), .mov (.tmp 4), none, [], 0, 0, false⟩,
  ⟨(some 116), .lenSlice (.tmp 115), none, [], 0, 0, false⟩,
  ⟨(some 117), .bin .neq (.tmp 114) (.tmp 116), none, [], 0, 0, false⟩]
def c5_r23 : List AOper := [
  ⟨(some 2), .mov (.val (.bool false)), none, [], 0, 0, false⟩]
def c5_r24 : List AOper := [
  ⟨(some 118), .bin .add (.tmp 22) (.val (.int .i64 1)), none, [], 0, 0, false⟩,
  ⟨(some 22), .mov (.tmp 118), none, [], 0, 0, false⟩]
def c5_l25 : ACode := (.seq (.region c5_r6 false) (.seq (.cond (.tmp 23) .skip (.exit 0)) (.seq (.block 1 (.seq (.region c5_r7 false) (.seq (.seq (.region c5_r8 false) (.block 2 (.seq (.region c5_r9 false) (.cond (.tmp 74) (.seq (.region c5_r10 false) (.region c5_r11 false)) (.seq (.region c5_r12 false) (.cond (.tmp 89) (.seq (.region c5_r13 false) (.seq (.region c5_r14 false) (.seq (.region c5_r15 false) (.seq (.region c5_r16 false) (.cond (.tmp 113) (.seq (.region c5_r17 false) .ret) .skip))))) (.seq (.region c5_r18 false) (.seq (.seq (.region c5_r19 false) (.cond (.tmp 68) (.seq (.region c5_r20 false) .ret) .skip)) (.region c5_r21 false))))))))) (.seq (.region c5_r22 false) (.cond (.tmp 117) (.seq (.region c5_r23 false) .ret) .skip))))) (.region c5_r24 false))))
def c5_r26 : List AOper := [
  ⟨(some 119), .call (.val (.func (.func 15) [] [])) [], none, [], 0, 0, false⟩,
  ⟨(some 2), .mov (.tmp 119), none, [], 0, 0, false⟩]
def c5 : AFn := ⟨120, [(2, none)],
  (.seq (.region c5_r0 false) (.seq (.seq (.region c5_r1 false) (.cond (.tmp 17) (.seq (.region c5_r2 false) .ret) .skip)) (.seq (.region c5_r3 false) (.seq (.region c5_r4 false) (.seq (.seq (.region c5_r5 false) (.block 0 (.loop c5_l25))) (.seq (.region c5_r26 false) .ret))))))⟩
theorem F5 : funcsOf Try.prog [] 5 = some c5 := by kernel_rfl

def c14_r0 : List AOper := [
  ⟨(some 2), .mov (.val (.ptr none)), none, [], 0, 0, false⟩]
def c14_r1 : List AOper := [
  ⟨(some 3), .mov (.tmp 0), none, [], 0, 0, false⟩,
  ⟨(some 4), .bin .lss (.tmp 3) (.val (.int .i64 0)), none, [], 0, 0, false⟩,
  ⟨(some 5), .mov (.tmp 4), none, [], 0, 0, false⟩,
  ⟨(some 6), .mov (.tmp 0), (some (5, false)), [], 0, 0, false⟩,
  ⟨(some 7), .bin .gtr (.tmp 6) (.val (.int .i64 1000)), (some (5, false)), [], 0, 0, false⟩,
  ⟨(some 8), .pick (.tmp 5) (.val (.bool true)) (.tmp 7), none, [], 0, 0, false⟩]
def c14_r2 : List AOper := [
  ⟨(some 2), .mov (.val (.ptr none)), none, [], 0, 0, false⟩]
def c14_r3 : List AOper := [
  ⟨(some 9), .mov (.tmp 0), none, [], 0, 0, false⟩,
  ⟨(some 10), .mkSlice [(.int .i64 0), (.bool false)] 93 2 16 (.tmp 9) (.tmp 9), none, [], 0, 0, false⟩,
  ⟨(some 11), .build [(.slice none 0 0 0), (.int .i64 0)] [(0, 1, (.tmp 10))], none, [], 0, 0, false⟩,
  ⟨(some 12), .box 2 89 (.tmp 11), none, [], 0, 0, false⟩,
  ⟨(some 2), .mov (.tmp 12), none, [], 0, 0, false⟩]
def c14 : AFn := ⟨13, [(2, none)],
  (.seq (.region c14_r0 false) (.seq (.seq (.region c14_r1 false) (.cond (.tmp 8) (.seq (.region c14_r2 false) .ret) .skip)) (.seq (.region c14_r3 false) .ret)))⟩
theorem F14 : funcsOf Try.prog [] 14 = some c14 := by kernel_rfl

def c15_r0 : List AOper := [
  ⟨(some 0), .mov (.val (.bool false)), none, [], 0, 0, false⟩]
def c15_r1 : List AOper := [
  ⟨(some 6), .call (.val (.func (.func 14) [] [])) [(.val (.int .i64 2))], none, [], 0, 0, false⟩,
  ⟨(some 1), .mov (.tmp 6), none, [], 0, 0, false⟩]
def c15_r2 : List AOper := [
  ⟨(some 8), .mov (.tmp 1), none, [], 0, 0, false⟩,
  ⟨(some 9), .call (.val (.func (.func 28) [] [])) [(.tmp 8), (.val (.int .i64 7))], none, [], 0, 0, false⟩,
  ⟨(some 7), .mov (.tmp 9), none, [], 0, 0, false⟩,
  ⟨(some 10), .extract (.tmp 7) 0, none, [], 0, 0, false⟩,
  ⟨(some 11), .extract (.tmp 7) 1, none, [], 0, 0, false⟩,
  ⟨(some 2), .mov (.tmp 10), none, [], 0, 0, false⟩,
  ⟨(some 3), .mov (.tmp 11), none, [], 0, 0, false⟩]
def c15_r3 : List AOper := [
  ⟨(some 13), .mov (.tmp 1), none, [], 0, 0, false⟩,
  ⟨(some 14), .call (.val (.func (.func 28) [] [])) [(.tmp 13), (.val (.int .i64 8))], none, [], 0, 0, false⟩,
  ⟨(some 12), .mov (.tmp 14), none, [], 0, 0, false⟩,
  ⟨(some 15), .extract (.tmp 12) 0, none, [], 0, 0, false⟩,
  ⟨(some 16), .extract (.tmp 12) 1, none, [], 0, 0, false⟩,
  ⟨(some 4), .mov (.tmp 15), none, [], 0, 0, false⟩,
  ⟨(some 5), .mov (.tmp 16), none, [], 0, 0, false⟩]
def c15_r4 : List AOper := [
  ⟨(some 17), .mov (.tmp 2), none, [], 0, 0, false⟩,
  ⟨(some 18), .bin .eql (.tmp 17) (.val (.int .i64 0)), none, [], 0, 0, false⟩,
  ⟨(some 19), .mov (.tmp 18), none, [], 0, 0, false⟩,
  ⟨(some 20), .mov (.tmp 3), (some (19, true)), [], 0, 0, false⟩,
  ⟨(some 21), .pick (.tmp 19) (.tmp 20) (.val (.bool false)), none, [], 0, 0, false⟩,
  ⟨(some 22), .mov (.tmp 21), none, [], 0, 0, false⟩,
  ⟨(some 23), .mov (.tmp 4), (some (22, true)), [], 0, 0, false⟩,
  ⟨(some 24), .bin .eql (.tmp 23) (.val (.int .i64 1)), (some (22, true)), [], 0, 0, false⟩,
  ⟨(some 25), .pick (.tmp 22) (.tmp 24) (.val (.bool false)), none, [], 0, 0, false⟩,
  ⟨(some 26), .mov (.tmp 25), none, [], 0, 0, false⟩,
  ⟨(some 27), .mov (.tmp 5), (some (26, true)), [], 0, 0, false⟩,
  ⟨(some 28), .pick (.tmp 26) (.tmp 27) (.val (.bool false)), none, [], 0, 0, false⟩,
  ⟨(some 29), .mov (.tmp 28), none, [], 0, 0, false⟩,
  ⟨(some 30), .mov (.tmp 1), (some (29, true)), [], 0, 0, false⟩,
  ⟨(some 31), .call (.val (.func (.func 21) [] [])) [(.tmp 30), (.val (.int .i64 0))], (some (29, true)), [], 0, 0, false⟩,
  ⟨(some 32), .pick (.tmp 29) (.tmp 31) (.val (.bool false)), none, [], 0, 0, false⟩,
  ⟨(some 33), .mov (.tmp 32), none, [], 0, 0, false⟩,
  ⟨(some 34), .mov (.tmp 1), (some (33, true)), [], 0, 0, false⟩,
  ⟨(some 35), .call (.val (.func (.func 17) [] [])) [(.tmp 34), (.val (.int .i64 9))], (some (33, true)), [], 0, 0, false⟩,
  ⟨(some 36), .bin .eql (.tmp 35) (.val (.int .i64 0)), (some (33, true)), [], 0, 0, false⟩,
  ⟨(some 37), .pick (.tmp 33) (.tmp 36) (.val (.bool false)), none, [], 0, 0, false⟩,
  ⟨(some 38), .mov (.tmp 37), none, [], 0, 0, false⟩,
  ⟨(some 39), .mov (.tmp 1), (some (38, true)), [], 0, 0, false⟩,
  ⟨(some 40), .call (.val (.func (.func 17) [] [])) [(.tmp 39), (.val (.int .i64 5))], (some (38, true)), [], 0, 0, false⟩,
  ⟨(some 41), .bin .eql (.tmp 40) (.val (.int .i64 (-1))), (some (38, true)), [], 0, 0, false⟩,
  ⟨(some 42), .pick (.tmp 38) (.tmp 41) (.val (.bool false)), none, [], 0, 0, false⟩,
  ⟨(some 43), .mov (.tmp 42), none, [], 0, 0, false⟩,
  ⟨(some 44), .call (.val (.func (.func 14) [] [])) [(.val (.int .i64 (-1)))], (some (43, true)), [], 0, 0, false⟩,
  ⟨(some 45), .eq false .ptr (.tmp 44) (.val (.ptr none)), (some (43, true)), [], 0, 0, false⟩,
  ⟨(some 46), .pick (.tmp 43) (.tmp 45) (.val (.bool false)), none, [], 0, 0, false⟩,
  ⟨(some 0), .mov (.tmp 46), none, [], 0, 0, false⟩]
def c15 : AFn := ⟨47, [(0, none)],
  (.seq (.region c15_r0 false) (.seq (.region c15_r1 false) (.seq (.region c15_r2 false) (.seq (.region c15_r3 false) (.seq (.region c15_r4 false) .ret)))))⟩
theorem F15 : funcsOf Try.prog [] 15 = some c15 := by kernel_rfl

def c16_r0 : List AOper := [
  ⟨(some 4), .mov (.val (.slice none 0 0 0)), none, [], 0, 0, false⟩,
  ⟨(some 5), .mov (.val (.int .i64 0)), none, [], 0, 0, false⟩,
  ⟨(some 6), .mov (.val (.bool false)), none, [], 0, 0, false⟩]
def c16_r1 : List AOper := [
  ⟨(some 7), .mov (.val (.int .i64 0)), none, [], 0, 0, false⟩]
def c16_r2 : List AOper := [
  ⟨(some 9), .mov (.tmp 7), none, [], 0, 0, false⟩,
  ⟨(some 10), .mov (.tmp 0), none, [], 0, 0, false⟩,
  ⟨(some 11), .lenSlice (.tmp 10), none, [], 0, 0, false⟩,
  ⟨(some 12), .bin .lss (.tmp 9) (.tmp 11), none, [], 0, 0, false⟩]
def c16_r3 : List AOper := [
  ⟨(some 15), .mov (.tmp 0), none, [], 0, 0, false⟩,
  ⟨(some 16), .mov (.tmp 7), none, [], 0, 0, false⟩,
  ⟨(some 17), .idxAddr 2 (.tmp 15) (.tmp 16), none, [], 0, 0, false⟩,
  ⟨(some 18), .fieldAddr 1 (.tmp 17), none, [], 0, 0, false⟩,
  ⟨(some 19), .load none (.tmp 18), none, [], 0, 0, false⟩,
  ⟨(some 20), .un .not (.tmp 19), none, [], 0, 0, false⟩]
def c16_r4 : List AOper := [
  ⟨(some 21), .buildSlice [(.int .i64 0), (.bool false)] 91 0 [], none, [], 0, 0, false⟩,
  ⟨(some 22), .mov (.tmp 0), none, [], 0, 0, false⟩,
  ⟨(some 23), .append 91 2 16 (.tmp 21) (.tmp 22), none, [], 0, 0, false⟩,
  ⟨(some 8), .mov (.tmp 23), none, [], 0, 0, false⟩]
def c16_r5 : List AOper := [
  ⟨(some 24), .mov (.tmp 8), none, [], 0, 0, false⟩,
  ⟨(some 25), .mov (.tmp 7), none, [], 0, 0, false⟩,
  ⟨(some 26), .mov (.tmp 1), none, [], 0, 0, false⟩,
  ⟨(some 27), .build [(.int .i64 0), (.bool false)] [(0, 1, (.tmp 26)), (1, 1, (.val (.bool true)))], none, [], 0, 0, false⟩,
  ⟨(some 28), .idxAddr 2 (.tmp 24) (.tmp 25), none, [], 0, 0, false⟩,
  ⟨none, .store 2 (.tmp 28) (.tmp 27), none, [], 0, 0, false⟩]
def c16_r6 : List AOper := [
  ⟨(some 29), .mov (.tmp 8), none, [], 0, 0, false⟩,
  ⟨(some 30), .mov (.tmp 7), none, [], 0, 0, false⟩,
  ⟨(some 4), .mov (.tmp 29), none, [], 0, 0, false⟩,
  ⟨(some 5), .mov (.tmp 30), none, [], 0, 0, false⟩,
  ⟨(some 6), .mov (.val (.bool true)), none, [], 0, 0, false⟩]
def c16_r7 : List AOper := [
  ⟨(some 13), .mov (.tmp 7), none, [], 0, 0, false⟩,
  ⟨(some 14), .bin .add (.tmp 13) (.val (.int .i64 1)), none, [], 0, 0, false⟩,
  ⟨(some 7), .mov (.tmp 14), none, [], 0, 0, false⟩]
def c16_l8 : ACode := (.seq (.seq (.region c16_r2 false) (.cond (.tmp 12) .skip (.exit 0))) (.seq (.block 1 (.seq (.region c16_r3 false) (.cond (.tmp 20) (.seq (.region c16_r4 false) (.seq (.region c16_r5 false) (.seq (.region c16_r6 false) .ret))) .skip))) (.region c16_r7 false)))
def c16_r9 : List AOper := [
  ⟨(some 31), .mov (.tmp 0), none, [], 0, 0, false⟩,
  ⟨(some 4), .mov (.tmp 31), none, [], 0, 0, false⟩,
  ⟨(some 5), .mov (.val (.int .i64 0)), none, [], 0, 0, false⟩,
  ⟨(some 6), .mov (.val (.bool false)), none, [], 0, 0, false⟩]
def c16 : AFn := ⟨32, [(4, none), (5, none), (6, none)],
  (.seq (.region c16_r0 false) (.seq (.seq (.region c16_r1 false) (.block 0 (.loop c16_l8))) (.seq (.region c16_r9 false) .ret)))⟩
theorem F16 : funcsOf Try.prog [] 16 = some c16 := by kernel_rfl

def c17_r0 : List AOper := [
  ⟨(some 4), .mov (.val (.int .i64 0)), none, [], 0, 0, false⟩]
def c17_r1 : List AOper := [
  ⟨(some 8), .mov (.tmp 0), none, [], 0, 0, false⟩,
  ⟨(some 9), .mov (.tmp 1), none, [], 0, 0, false⟩,
  ⟨(some 10), .call (.val (.func (.func 28) [] [])) [(.tmp 8), (.tmp 9)], none, [], 0, 0, false⟩,
  ⟨(some 7), .mov (.tmp 10), none, [], 0, 0, false⟩,
  ⟨(some 11), .extract (.tmp 7) 0, none, [], 0, 0, false⟩,
  ⟨(some 12), .extract (.tmp 7) 1, none, [], 0, 0, false⟩,
  ⟨(some 5), .mov (.tmp 11), none, [], 0, 0, false⟩,
  ⟨(some 6), .mov (.tmp 12), none, [], 0, 0, false⟩]
def c17_r2 : List AOper := [
  ⟨(some 13), .mov (.tmp 6), none, [], 0, 0, false⟩,
  ⟨(some 14), .un .not (.tmp 13), none, [], 0, 0, false⟩]
def c17_r3 : List AOper := [
  ⟨(some 4), .mov (.val (.int .i64 (-1))), none, [], 0, 0, false⟩]
def c17_r4 : List AOper := [
  ⟨(some 15), .mov (.tmp 5), none, [], 0, 0, false⟩,
  ⟨(some 4), .mov (.tmp 15), none, [], 0, 0, false⟩]
def c17 : AFn := ⟨16, [(4, none)],
  (.seq (.region c17_r0 false) (.seq (.region c17_r1 false) (.seq (.seq (.region c17_r2 false) (.cond (.tmp 14) (.seq (.region c17_r3 false) .ret) .skip)) (.seq (.region c17_r4 false) .ret))))⟩
theorem F17 : funcsOf Try.prog [] 17 = some c17 := by kernel_rfl

def c18_r0 : List AOper := [
  ⟨(some 4), .mov (.val (.int .i64 0)), none, [], 0, 0, false⟩,
  ⟨(some 5), .mov (.val (.bool false)), none, [], 0, 0, false⟩]
def c18_r1 : List AOper := [
  ⟨(some 6), .mov (.tmp 0), none, [], 0, 0, false⟩,
  ⟨(some 7), .eq false .ptr (.tmp 6) (.val (.ptr none)), none, [], 0, 0, false⟩,
  ⟨(some 8), .mov (.tmp 7), none, [], 0, 0, false⟩,
  ⟨(some 9), .mov (.tmp 1), (some (8, false)), [], 0, 0, false⟩,
  ⟨(some 10), .bin .lss (.tmp 9) (.val (.int .i64 0)), (some (8, false)), [], 0, 0, false⟩,
  ⟨(some 11), .pick (.tmp 8) (.val (.bool true)) (.tmp 10), none, [], 0, 0, false⟩,
  ⟨(some 12), .mov (.tmp 11), none, [], 0, 0, false⟩,
  ⟨(some 13), .mov (.tmp 1), (some (12, false)), [], 0, 0, false⟩,
  ⟨(some 14), .mov (.tmp 0), (some (12, false)), [], 0, 0, false⟩,
  ⟨(some 15), .nilCheck (.tmp 14), (some (12, false)), [], 0, 0, false⟩,
  ⟨(some 16), .fieldAddr 0 (.tmp 15), (some (12, false)), [], 0, 0, false⟩,
  ⟨(some 17), .load none (.tmp 16), (some (12, false)), [], 0, 0, false⟩,
  ⟨(some 18), .lenSlice (.tmp 17), (some (12, false)), [], 0, 0, false⟩,
  ⟨(some 19), .bin .geq (.tmp 13) (.tmp 18), (some (12, false)), [], 0, 0, false⟩,
  ⟨(some 20), .pick (.tmp 12) (.val (.bool true)) (.tmp 19), none, [], 0, 0, false⟩]
def c18_r2 : List AOper := [
  ⟨(some 21), .mov (.tmp 4), none, [], 0, 0, false⟩,
  ⟨(some 4), .mov (.tmp 21), none, [], 0, 0, false⟩,
  ⟨(some 5), .mov (.val (.bool false)), none, [], 0, 0, false⟩]
def c18_r3 : List AOper := [
  ⟨(some 22), .mov (.tmp 0), none, [0], 0, 0, false⟩,
  ⟨(some 23), .nilCheck (.tmp 22), none, [22], 0, 0, false⟩,
  ⟨(some 24), .fieldAddr 0 (.tmp 23), none, [23], 0, 0, false⟩,
  ⟨(some 25), .load none (.tmp 24), none, [24], 0, 0, false⟩,
  ⟨(some 26), .mov (.tmp 1), none, [1], 0, 0, false⟩,
  ⟨(some 27), .idxAddr 2 (.tmp 25) (.tmp 26), none, [25, 26], 0, 0, false⟩,
  ⟨(some 28), .fieldAddr 0 (.tmp 27), none, [27], 0, 0, false⟩,
  ⟨(some 29), .load none (.tmp 28), none, [28], 0, 0, false⟩,
  ⟨(some 30), .mov (.tmp 0), none, [0], 0, 0, false⟩,
  ⟨(some 31), .nilCheck (.tmp 30), none, [30], 0, 0, false⟩,
  ⟨(some 32), .fieldAddr 0 (.tmp 31), none, [31], 0, 0, false⟩,
  ⟨(some 33), .load none (.tmp 32), none, [32], 0, 0, false⟩,
  ⟨(some 34), .mov (.tmp 1), none, [1], 0, 0, false⟩,
  ⟨(some 35), .idxAddr 2 (.tmp 33) (.tmp 34), none, [33, 34], 0, 0, false⟩,
  ⟨(some 36), .fieldAddr 1 (.tmp 35), none, [35], 0, 0, false⟩,
  ⟨(some 37), .load none (.tmp 36), none, [36], 0, 0, false⟩,
  ⟨(some 4), .mov (.tmp 29), none, [29], 0, 0, false⟩,
  ⟨(some 5), .mov (.tmp 37), none, [37], 0, 0, false⟩]
def c18 : AFn := ⟨38, [(4, none), (5, none)],
  (.seq (.region c18_r0 false) (.seq (.seq (.region c18_r1 false) (.cond (.tmp 20) (.seq (.region c18_r2 false) .ret) .skip)) (.seq (.region c18_r3 true) .ret)))⟩
theorem F18 : funcsOf Try.prog [] 18 = some c18 := by kernel_rfl

def c19_r0 : List AOper := [
  ⟨(some 4), .mov (.val (.int .i64 0)), none, [], 0, 0, false⟩,
  ⟨(some 5), .mov (.val (.bool false)), none, [], 0, 0, false⟩]
def c19_r1 : List AOper := [
  ⟨(some 6), .mov (.tmp 1), none, [], 0, 0, false⟩,
  ⟨(some 7), .bin .lss (.tmp 6) (.val (.int .i64 0)), none, [], 0, 0, false⟩,
  ⟨(some 8), .mov (.tmp 7), none, [], 0, 0, false⟩,
  ⟨(some 9), .mov (.tmp 1), (some (8, false)), [], 0, 0, false⟩,
  ⟨(some 10), .mov (.tmp 0), (some (8, false)), [], 0, 0, false⟩,
  ⟨(some 11), .lenSlice (.tmp 10), (some (8, false)), [], 0, 0, false⟩,
  ⟨(some 12), .bin .geq (.tmp 9) (.tmp 11), (some (8, false)), [], 0, 0, false⟩,
  ⟨(some 13), .pick (.tmp 8) (.val (.bool true)) (.tmp 12), none, [], 0, 0, false⟩,
  ⟨(some 14), .mov (.tmp 13), none, [], 0, 0, false⟩,
  ⟨(some 15), .mov (.tmp 0), (some (14, false)), [], 0, 0, false⟩,
  ⟨(some 16), .mov (.tmp 1), (some (14, false)), [], 0, 0, false⟩,
  ⟨(some 17), .idxAddr 2 (.tmp 15) (.tmp 16), (some (14, false)), [], 0, 0, false⟩,
  ⟨(some 18), .fieldAddr 1 (.tmp 17), (some (14, false)), [], 0, 0, false⟩,
  ⟨(some 19), .load none (.tmp 18), (some (14, false)), [], 0, 0, false⟩,
  ⟨(some 20), .un .not (.tmp 19), (some (14, false)), [], 0, 0, false⟩,
  ⟨(some 21), .pick (.tmp 14) (.val (.bool true)) (.tmp 20), none, [], 0, 0, false⟩]
def c19_r2 : List AOper := [
  ⟨(some 4), .mov (.val (.int .i64 0)), none, [], 0, 0, false⟩,
  ⟨(some 5), .mov (.val (.bool false)), none, [], 0, 0, false⟩]
def c19_r3 : List AOper := [
  ⟨(some 22), .mov (.tmp 0), none, [], 0, 0, false⟩,
  ⟨(some 23), .mov (.tmp 1), none, [], 0, 0, false⟩,
  ⟨(some 24), .idxAddr 2 (.tmp 22) (.tmp 23), none, [], 0, 0, false⟩,
  ⟨(some 25), .fieldAddr 0 (.tmp 24), none, [], 0, 0, false⟩,
  ⟨(some 26), .load none (.tmp 25), none, [], 0, 0, false⟩,
  ⟨(some 4), .mov (.tmp 26), none, [], 0, 0, false⟩,
  ⟨(some 5), .mov (.val (.bool true)), none, [], 0, 0, false⟩]
def c19 : AFn := ⟨27, [(4, none), (5, none)],
  (.seq (.region c19_r0 false) (.seq (.seq (.region c19_r1 false) (.cond (.tmp 21) (.seq (.region c19_r2 false) .ret) .skip)) (.seq (.region c19_r3 false) .ret)))⟩
theorem F19 : funcsOf Try.prog [] 19 = some c19 := by kernel_rfl

def c20_r0 : List AOper := [
  ⟨(some 4), .mov (.val (.slice none 0 0 0)), none, [], 0, 0, false⟩,
  ⟨(some 5), .mov (.val (.bool false)), none, [], 0, 0, false⟩]
def c20_r1 : List AOper := [
  ⟨(some 10), .mov (.tmp 0), none, [], 0, 0, false⟩,
  ⟨(some 11), .mov (.tmp 1), none, [], 0, 0, false⟩,
  ⟨(some 12), .call (.val (.func (.func 19) [] [])) [(.tmp 10), (.tmp 11)], none, [], 0, 0, false⟩,
  ⟨(some 9), .mov (.tmp 12), none, [], 0, 0, false⟩,
  ⟨(some 13), .extract (.tmp 9) 0, none, [], 0, 0, false⟩,
  ⟨(some 14), .extract (.tmp 9) 1, none, [], 0, 0, false⟩,
  ⟨(some 6), .mov (.tmp 13), none, [], 0, 0, false⟩,
  ⟨(some 7), .mov (.tmp 14), none, [], 0, 0, false⟩]
def c20_r2 : List AOper := [
  ⟨(some 15), .mov (.tmp 7), none, [], 0, 0, false⟩,
  ⟨(some 16), .un .not (.tmp 15), none, [], 0, 0, false⟩]
def c20_r3 : List AOper := [
  ⟨(some 17), .mov (.tmp 0), none, [], 0, 0, false⟩,
  ⟨(some 4), .mov (.tmp 17), none, [], 0, 0, false⟩,
  ⟨(some 5), .mov (.val (.bool false)), none, [], 0, 0, false⟩]
def c20_r4 : List AOper := [
  ⟨(some 18), .buildSlice [(.int .i64 0), (.bool false)] 91 0 [], none, [], 0, 0, false⟩,
  ⟨(some 19), .mov (.tmp 0), none, [], 0, 0, false⟩,
  ⟨(some 20), .append 91 2 16 (.tmp 18) (.tmp 19), none, [], 0, 0, false⟩,
  ⟨(some 8), .mov (.tmp 20), none, [], 0, 0, false⟩]
def c20_r5 : List AOper := [
  ⟨(some 21), .mov (.tmp 8), none, [], 0, 0, false⟩,
  ⟨(some 22), .mov (.tmp 1), none, [], 0, 0, false⟩,
  ⟨(some 23), .build [(.int .i64 0), (.bool false)] [], none, [], 0, 0, false⟩,
  ⟨(some 24), .idxAddr 2 (.tmp 21) (.tmp 22), none, [], 0, 0, false⟩,
  ⟨none, .store 2 (.tmp 24) (.tmp 23), none, [], 0, 0, false⟩]
def c20_r6 : List AOper := [
  ⟨(some 25), .mov (.tmp 8), none, [], 0, 0, false⟩,
  ⟨(some 4), .mov (.tmp 25), none, [], 0, 0, false⟩,
  ⟨(some 5), .mov (.val (.bool true)), none, [], 0, 0, false⟩]
def c20 : AFn := ⟨26, [(4, none), (5, none)],
  (.seq (.region c20_r0 false) (.seq (.seq (.region c20_r1 false) (.seq (.region c20_r2 false) (.cond (.tmp 16) (.seq (.region c20_r3 false) .ret) .skip))) (.seq (.region c20_r4 false) (.seq (.region c20_r5 false) (.seq (.region c20_r6 false) .ret)))))⟩
theorem F20 : funcsOf Try.prog [] 20 = some c20 := by kernel_rfl

def c21_r0 : List AOper := [
  ⟨(some 4), .mov (.val (.bool false)), none, [], 0, 0, false⟩]
def c21_r1 : List AOper := [
  ⟨(some 8), .mov (.tmp 0), none, [], 0, 0, false⟩,
  ⟨(some 9), .mov (.tmp 1), none, [], 0, 0, false⟩,
  ⟨(some 10), .call (.val (.func (.func 18) [] [])) [(.tmp 8), (.tmp 9)], none, [], 0, 0, false⟩,
  ⟨(some 7), .mov (.tmp 10), none, [], 0, 0, false⟩,
  ⟨(some 11), .extract (.tmp 7) 0, none, [], 0, 0, false⟩,
  ⟨(some 12), .extract (.tmp 7) 1, none, [], 0, 0, false⟩,
  ⟨(some 5), .mov (.tmp 11), none, [], 0, 0, false⟩,
  ⟨(some 6), .mov (.tmp 12), none, [], 0, 0, false⟩]
def c21_r2 : List AOper := [
  ⟨(some 13), .mov (.tmp 6), none, [], 0, 0, false⟩,
  ⟨(some 14), .un .not (.tmp 13), none, [], 0, 0, false⟩]
def c21_r3 : List AOper := [
  ⟨(some 4), .mov (.val (.bool false)), none, [], 0, 0, false⟩]
def c21_r4 : List AOper := [
  ⟨(some 15), .mov (.tmp 0), none, [], 0, 0, false⟩,
  ⟨(some 16), .nilCheck (.tmp 15), none, [], 0, 0, false⟩,
  ⟨(some 17), .fieldAddr 0 (.tmp 16), none, [], 0, 0, false⟩,
  ⟨(some 18), .load none (.tmp 17), none, [], 0, 0, false⟩,
  ⟨(some 19), .mov (.tmp 1), none, [], 0, 0, false⟩,
  ⟨(some 20), .build [(.int .i64 0), (.bool false)] [], none, [], 0, 0, false⟩,
  ⟨(some 21), .idxAddr 2 (.tmp 18) (.tmp 19), none, [], 0, 0, false⟩,
  ⟨none, .store 2 (.tmp 21) (.tmp 20), none, [], 0, 0, false⟩]
def c21_r5 : List AOper := [
  ⟨(some 22), .mov (.tmp 0), none, [], 0, 0, false⟩,
  ⟨(some 23), .nilCheck (.tmp 22), none, [], 0, 0, false⟩,
  ⟨(some 24), .fieldAddr 1 (.tmp 23), none, [], 0, 0, false⟩,
  ⟨(some 25), .load none (.tmp 24), none, [], 0, 0, false⟩,
  ⟨(some 26), .bin .sub (.tmp 25) (.val (.int .i64 1)), none, [], 0, 0, false⟩,
  ⟨(some 27), .nilCheck (.tmp 22), none, [], 0, 0, false⟩,
  ⟨(some 28), .fieldAddr 1 (.tmp 27), none, [], 0, 0, false⟩,
  ⟨none, .store 1 (.tmp 28) (.tmp 26), none, [], 0, 0, false⟩]
def c21_r6 : List AOper := [
  ⟨(some 4), .mov (.val (.bool true)), none, [], 0, 0, false⟩]
def c21 : AFn := ⟨29, [(4, none)],
  (.seq (.region c21_r0 false) (.seq (.seq (.region c21_r1 false) (.seq (.region c21_r2 false) (.cond (.tmp 14) (.seq (.region c21_r3 false) .ret) .skip))) (.seq (.region c21_r4 false) (.seq (.region c21_r5 false) (.seq (.region c21_r6 false) .ret)))))⟩
theorem F21 : funcsOf Try.prog [] 21 = some c21 := by kernel_rfl

def c22_r0 : List AOper := [
  ⟨(some 3), .box 1 35 (.tmp 1), none, [], 0, 0, false⟩,
  ⟨(some 4), .mov (.val (.bool false)), none, [], 0, 0, false⟩]
def c22_r1 : List AOper := [
  ⟨(some 9), .mov (.tmp 0), none, [0], 0, 0, false⟩,
  ⟨(some 10), .call (.val (.func (.func 31) [] [])) [(.tmp 9)], none, [9], 0, 1, false⟩,
  ⟨(some 11), .load none (.tmp 3), none, [3], 0, 1, false⟩,
  ⟨(some 12), .call (.val (.func (.func 45) [] [])) [(.tmp 11)], none, [11], 1, 2, false⟩,
  ⟨(some 13), .bin .neq (.tmp 10) (.tmp 12), none, [10, 12], 2, 2, false⟩,
  ⟨(some 14), .mov (.tmp 13), none, [13], 2, 2, false⟩,
  ⟨(some 15), .mov (.tmp 0), (some (14, false)), [0], 2, 2, false⟩,
  ⟨(some 16), .call (.val (.func (.func 32) [] [])) [(.tmp 15)], (some (14, false)), [15], 2, 3, false⟩,
  ⟨(some 17), .load none (.tmp 3), (some (14, false)), [3], 2, 4, false⟩,
  ⟨(some 18), .lenSlice (.tmp 17), (some (14, false)), [17], 2, 4, false⟩,
  ⟨(some 19), .load none (.tmp 3), (some (14, false)), [3], 2, 3, false⟩,
  ⟨(some 20), .call (.val (.func (.func 45) [] [])) [(.tmp 19)], (some (14, false)), [19], 3, 4, false⟩,
  ⟨(some 21), .bin .sub (.tmp 18) (.tmp 20), (some (14, false)), [18, 20], 4, 4, false⟩,
  ⟨(some 22), .bin .neq (.tmp 16) (.tmp 21), (some (14, false)), [16, 21], 4, 4, false⟩,
  ⟨(some 23), .pick (.tmp 14) (.val (.bool true)) (.tmp 22), none, [14, 22], 4, 4, false⟩]
def c22_r2 : List AOper := [
  ⟨(some 4), .mov (.val (.bool false)), none, [], 0, 0, false⟩]
def c22_r3 : List AOper := [
  ⟨(some 5), .alloc [(.int .i64 0)] 3, none, [], 0, 0, false⟩,
  ⟨(some 6), .alloc [(.bool false)] 4, none, [], 0, 0, false⟩,
  ⟨none, .store 1 (.tmp 5) (.val (.int .i64 (-1))), none, [], 0, 0, false⟩,
  ⟨none, .store 1 (.tmp 6) (.val (.bool true)), none, [], 0, 0, false⟩]
def c22_r4 : List AOper := [
  ⟨(some 24), .mov (.tmp 0), none, [], 0, 0, false⟩,
  ⟨(some 25), .call (.val (.func (.func 29) [] [])) [(.tmp 24)], none, [], 0, 0, false⟩,
  ⟨(some 7), .mov (.tmp 25), none, [], 0, 0, false⟩]
def c22_r5 : List AOper := [
  ⟨(some 26), .mov (.tmp 7), none, [], 0, 0, false⟩,
  ⟨(some 27), .eq false .func (.tmp 26) (.val .nilFunc), none, [], 0, 0, false⟩]
def c22_r6 : List AOper := [
  ⟨(some 4), .mov (.val (.bool false)), none, [], 0, 0, false⟩]
def c22_r7 : List AOper := [
  ⟨(some 28), .mov (.tmp 7), none, [], 0, 0, false⟩,
  ⟨(some 29), .mkFunc (.func 46) [] [(.tmp 3), (.tmp 6), (.tmp 5)], none, [], 0, 0, false⟩,
  ⟨(some 30), .call (.tmp 28) [(.tmp 29)], none, [], 0, 0, false⟩]
def c22_r8 : List AOper := [
  ⟨(some 8), .alloc [(.int .i64 0)] 3, none, [], 0, 0, false⟩,
  ⟨none, .store 1 (.tmp 8) (.val (.int .i64 0)), none, [], 0, 0, false⟩]
def c22_r9 : List AOper := [
  ⟨(some 31), .mov (.tmp 7), none, [], 0, 0, false⟩,
  ⟨(some 32), .mkFunc (.func 47) [] [(.tmp 8)], none, [], 0, 0, false⟩,
  ⟨(some 33), .call (.tmp 31) [(.tmp 32)], none, [], 0, 0, false⟩]
def c22_r10 : List AOper := [
  ⟨(some 34), .load none (.tmp 6), none, [6], 0, 0, false⟩,
  ⟨(some 35), .mov (.tmp 34), none, [34], 0, 0, false⟩,
  ⟨(some 36), .load none (.tmp 8), (some (35, true)), [8], 0, 1, false⟩,
  ⟨(some 37), .load none (.tmp 3), (some (35, true)), [3], 0, 0, false⟩,
  ⟨(some 38), .call (.val (.func (.func 45) [] [])) [(.tmp 37)], (some (35, true)), [37], 0, 1, false⟩,
  ⟨(some 39), .minmax false [(.val (.int .i64 2)), (.tmp 38)], (some (35, true)), [38], 1, 1, false⟩,
  ⟨(some 40), .bin .eql (.tmp 36) (.tmp 39), (some (35, true)), [36, 39], 1, 1, false⟩,
  ⟨(some 41), .pick (.tmp 35) (.tmp 40) (.val (.bool false)), none, [35, 40], 1, 1, false⟩,
  ⟨(some 4), .mov (.tmp 41), none, [41], 1, 1, false⟩]
def c22 : AFn := ⟨42, [(4, none)],
  (.seq (.region c22_r0 false) (.seq (.seq (.region c22_r1 true) (.cond (.tmp 23) (.seq (.region c22_r2 false) .ret) .skip)) (.seq (.region c22_r3 false) (.seq (.region c22_r4 false) (.seq (.seq (.region c22_r5 false) (.cond (.tmp 27) (.seq (.region c22_r6 false) .ret) .skip)) (.seq (.region c22_r7 false) (.seq (.region c22_r8 false) (.seq (.region c22_r9 false) (.seq (.region c22_r10 true) .ret)))))))))⟩
theorem F22 : funcsOf Try.prog [] 22 = some c22 := by kernel_rfl

def c23_r0 : List AOper := [
  ⟨(some 6), .mov (.tmp 0), none, [], 0, 0, false⟩,
  ⟨(some 7), .eq true .ptr (.tmp 6) (.val (.ptr none)), none, [], 0, 0, false⟩]
def c23_r1 : List AOper := [
  ⟨(some 8), .mov (.tmp 0), none, [], 0, 0, false⟩,
  ⟨(some 9), .mov (.tmp 0), none, [], 0, 0, false⟩,
  ⟨(some 10), .nilCheck (.tmp 9), none, [], 0, 0, false⟩,
  ⟨(some 11), .fieldAddr 0 (.tmp 10), none, [], 0, 0, false⟩,
  ⟨(some 12), .load none (.tmp 11), none, [], 0, 0, false⟩,
  ⟨(some 13), .mov (.tmp 1), none, [], 0, 0, false⟩,
  ⟨(some 14), .mov (.tmp 2), none, [], 0, 0, false⟩,
  ⟨(some 15), .build [(.int .i64 0), (.int .i64 0)] [(0, 1, (.tmp 13)), (1, 1, (.tmp 14))], none, [], 0, 0, false⟩,
  ⟨(some 16), .buildSlice [(.int .i64 0), (.int .i64 0)] 96 1 [(0, 2, (.tmp 15))], none, [], 0, 0, false⟩,
  ⟨(some 17), .append 96 2 16 (.tmp 12) (.tmp 16), none, [], 0, 0, false⟩,
  ⟨(some 18), .nilCheck (.tmp 8), none, [], 0, 0, false⟩,
  ⟨(some 19), .fieldAddr 0 (.tmp 18), none, [], 0, 0, false⟩,
  ⟨none, .store 1 (.tmp 19) (.tmp 17), none, [], 0, 0, false⟩]
def c23 : AFn := ⟨20, [],
  (.seq (.region c23_r0 false) (.cond (.tmp 7) (.region c23_r1 false) .skip))⟩
theorem F23 : funcsOf Try.prog [] 23 = some c23 := by kernel_rfl

def c24_r0 : List AOper := [
  ⟨(some 4), .mov (.val (.int .i64 0)), none, [], 0, 0, false⟩,
  ⟨(some 5), .mov (.val (.bool false)), none, [], 0, 0, false⟩]
def c24_r1 : List AOper := [
  ⟨(some 7), .mov (.tmp 0), none, [], 0, 0, false⟩,
  ⟨(some 8), .call (.val (.func (.func 27) [] [])) [(.tmp 7)], none, [], 0, 0, false⟩,
  ⟨(some 9), .bin .sub (.tmp 8) (.val (.int .i64 1)), none, [], 0, 0, false⟩,
  ⟨(some 6), .mov (.tmp 9), none, [], 0, 0, false⟩]
def c24_r2 : List AOper := [
  ⟨(some 10), .mov (.tmp 6), none, [], 0, 0, false⟩,
  ⟨(some 11), .bin .geq (.tmp 10) (.val (.int .i64 0)), none, [], 0, 0, false⟩]
def c24_r3 : List AOper := [
  ⟨(some 14), .mov (.tmp 0), none, [], 0, 0, false⟩,
  ⟨(some 15), .nilCheck (.tmp 14), none, [], 0, 0, false⟩,
  ⟨(some 16), .fieldAddr 0 (.tmp 15), none, [], 0, 0, false⟩,
  ⟨(some 17), .load none (.tmp 16), none, [], 0, 0, false⟩,
  ⟨(some 18), .mov (.tmp 6), none, [], 0, 0, false⟩,
  ⟨(some 19), .idxAddr 2 (.tmp 17) (.tmp 18), none, [], 0, 0, false⟩,
  ⟨(some 20), .fieldAddr 0 (.tmp 19), none, [], 0, 0, false⟩,
  ⟨(some 21), .load none (.tmp 20), none, [], 0, 0, false⟩,
  ⟨(some 22), .mov (.tmp 1), none, [], 0, 0, false⟩,
  ⟨(some 23), .bin .eql (.tmp 21) (.tmp 22), none, [], 0, 0, false⟩]
def c24_r4 : List AOper := [
  ⟨(some 24), .mov (.tmp 0), none, [], 0, 0, false⟩,
  ⟨(some 25), .mov (.tmp 6), none, [], 0, 0, false⟩,
  ⟨(some 26), .call (.val (.func (.func 48) [] [])) [(.tmp 24), (.tmp 25)], none, [], 0, 0, false⟩,
  ⟨(some 27), .field 1 none (.tmp 26), none, [], 0, 0, false⟩,
  ⟨(some 4), .mov (.tmp 27), none, [], 0, 0, false⟩,
  ⟨(some 5), .mov (.val (.bool true)), none, [], 0, 0, false⟩]
def c24_r5 : List AOper := [
  ⟨(some 12), .mov (.tmp 6), none, [], 0, 0, false⟩,
  ⟨(some 13), .bin .sub (.tmp 12) (.val (.int .i64 1)), none, [], 0, 0, false⟩,
  ⟨(some 6), .mov (.tmp 13), none, [], 0, 0, false⟩]
def c24_l6 : ACode := (.seq (.seq (.region c24_r2 false) (.cond (.tmp 11) .skip (.exit 0))) (.seq (.block 1 (.seq (.region c24_r3 false) (.cond (.tmp 23) (.seq (.region c24_r4 false) .ret) .skip))) (.region c24_r5 false)))
def c24_r7 : List AOper := [
  ⟨(some 28), .mov (.tmp 4), none, [], 0, 0, false⟩,
  ⟨(some 4), .mov (.tmp 28), none, [], 0, 0, false⟩,
  ⟨(some 5), .mov (.val (.bool false)), none, [], 0, 0, false⟩]
def c24 : AFn := ⟨29, [(4, none), (5, none)],
  (.seq (.region c24_r0 false) (.seq (.seq (.region c24_r1 false) (.block 0 (.loop c24_l6))) (.seq (.region c24_r7 false) .ret)))⟩
theorem F24 : funcsOf Try.prog [] 24 = some c24 := by kernel_rfl

def c25_r0 : List AOper := [
  ⟨(some 4), .mov (.val (.slice none 0 0 0)), none, [], 0, 0, false⟩,
  ⟨(some 5), .mov (.val (.int .i64 0)), none, [], 0, 0, false⟩,
  ⟨(some 6), .mov (.val (.bool false)), none, [], 0, 0, false⟩]
def c25_r1 : List AOper := [
  ⟨(some 8), .mov (.tmp 0), none, [], 0, 0, false⟩,
  ⟨(some 9), .lenSlice (.tmp 8), none, [], 0, 0, false⟩,
  ⟨(some 10), .bin .sub (.tmp 9) (.val (.int .i64 1)), none, [], 0, 0, false⟩,
  ⟨(some 7), .mov (.tmp 10), none, [], 0, 0, false⟩]
def c25_r2 : List AOper := [
  ⟨(some 11), .mov (.tmp 7), none, [], 0, 0, false⟩,
  ⟨(some 12), .bin .geq (.tmp 11) (.val (.int .i64 0)), none, [], 0, 0, false⟩]
def c25_r3 : List AOper := [
  ⟨(some 15), .mov (.tmp 0), none, [], 0, 0, false⟩,
  ⟨(some 16), .mov (.tmp 7), none, [], 0, 0, false⟩,
  ⟨(some 17), .idxAddr 2 (.tmp 15) (.tmp 16), none, [], 0, 0, false⟩,
  ⟨(some 18), .fieldAddr 0 (.tmp 17), none, [], 0, 0, false⟩,
  ⟨(some 19), .load none (.tmp 18), none, [], 0, 0, false⟩,
  ⟨(some 20), .mov (.tmp 1), none, [], 0, 0, false⟩,
  ⟨(some 21), .bin .eql (.tmp 19) (.tmp 20), none, [], 0, 0, false⟩]
def c25_r4 : List AOper := [
  ⟨(some 22), .buildSlice [(.int .i64 0), (.int .i64 0)] 55 0 [], none, [], 0, 1, false⟩,
  ⟨(some 23), .mov (.tmp 0), none, [0], 0, 1, false⟩,
  ⟨(some 24), .mov (.tmp 7), none, [7], 0, 1, false⟩,
  ⟨(some 25), .slice 2 (.tmp 23) none (some (.tmp 24)) none, none, [23, 24], 0, 1, false⟩,
  ⟨(some 26), .append 55 2 16 (.tmp 22) (.tmp 25), none, [22, 25], 1, 2, false⟩,
  ⟨(some 27), .mov (.tmp 0), none, [0], 0, 2, false⟩,
  ⟨(some 28), .mov (.tmp 7), none, [7], 0, 2, false⟩,
  ⟨(some 29), .bin .add (.tmp 28) (.val (.int .i64 1)), none, [28], 0, 2, false⟩,
  ⟨(some 30), .slice 2 (.tmp 27) (some (.tmp 29)) none none, none, [27, 29], 0, 2, false⟩,
  ⟨(some 31), .append 55 2 16 (.tmp 26) (.tmp 30), none, [26, 30], 2, 3, false⟩,
  ⟨(some 32), .mov (.tmp 0), none, [0], 0, 3, false⟩,
  ⟨(some 33), .mov (.tmp 7), none, [7], 0, 3, false⟩,
  ⟨(some 34), .idxAddr 2 (.tmp 32) (.tmp 33), none, [32, 33], 0, 3, false⟩,
  ⟨(some 35), .fieldAddr 1 (.tmp 34), none, [34], 0, 3, false⟩,
  ⟨(some 36), .load none (.tmp 35), none, [35], 0, 3, false⟩,
  ⟨(some 4), .mov (.tmp 31), none, [31], 3, 3, false⟩,
  ⟨(some 5), .mov (.tmp 36), none, [36], 3, 3, false⟩,
  ⟨(some 6), .mov (.val (.bool true)), none, [], 3, 3, false⟩]
def c25_r5 : List AOper := [
  ⟨(some 13), .mov (.tmp 7), none, [], 0, 0, false⟩,
  ⟨(some 14), .bin .sub (.tmp 13) (.val (.int .i64 1)), none, [], 0, 0, false⟩,
  ⟨(some 7), .mov (.tmp 14), none, [], 0, 0, false⟩]
def c25_l6 : ACode := (.seq (.seq (.region c25_r2 false) (.cond (.tmp 12) .skip (.exit 0))) (.seq (.block 1 (.seq (.region c25_r3 false) (.cond (.tmp 21) (.seq (.region c25_r4 true) .ret) .skip))) (.region c25_r5 false)))
def c25_r7 : List AOper := [
  ⟨(some 37), .mov (.tmp 0), none, [], 0, 0, false⟩,
  ⟨(some 4), .mov (.tmp 37), none, [], 0, 0, false⟩,
  ⟨(some 5), .mov (.val (.int .i64 0)), none, [], 0, 0, false⟩,
  ⟨(some 6), .mov (.val (.bool false)), none, [], 0, 0, false⟩]
def c25 : AFn := ⟨38, [(4, none), (5, none), (6, none)],
  (.seq (.region c25_r0 false) (.seq (.seq (.region c25_r1 false) (.block 0 (.loop c25_l6))) (.seq (.region c25_r7 false) .ret)))⟩
theorem F25 : funcsOf Try.prog [] 25 = some c25 := by kernel_rfl

def c26_r0 : List AOper := [
  ⟨(some 2), .mov (.val (.int .i64 0)), none, [], 0, 0, false⟩,
  ⟨(some 3), .mov (.val (.int .i64 0)), none, [], 0, 0, false⟩,
  ⟨(some 4), .mov (.val (.bool false)), none, [], 0, 0, false⟩]
def c26_r1 : List AOper := [
  ⟨(some 6), .mov (.tmp 0), none, [], 0, 0, false⟩,
  ⟨(some 7), .call (.val (.func (.func 27) [] [])) [(.tmp 6)], none, [], 0, 0, false⟩,
  ⟨(some 8), .bin .eql (.tmp 7) (.val (.int .i64 0)), none, [], 0, 0, false⟩]
def c26_r2 : List AOper := [
  ⟨(some 9), .mov (.tmp 2), none, [], 0, 0, false⟩,
  ⟨(some 10), .mov (.tmp 3), none, [], 0, 0, false⟩,
  ⟨(some 2), .mov (.tmp 9), none, [], 0, 0, false⟩,
  ⟨(some 3), .mov (.tmp 10), none, [], 0, 0, false⟩,
  ⟨(some 4), .mov (.val (.bool false)), none, [], 0, 0, false⟩]
def c26_r3 : List AOper := [
  ⟨(some 11), .mov (.tmp 0), none, [], 0, 0, false⟩,
  ⟨(some 12), .call (.val (.func (.func 48) [] [])) [(.tmp 11), (.val (.int .i64 0))], none, [], 0, 0, false⟩,
  ⟨(some 5), .alloc [(.int .i64 0), (.int .i64 0)] 96, none, [], 0, 0, false⟩,
  ⟨none, .store 2 (.tmp 5) (.tmp 12), none, [], 0, 0, false⟩]
def c26_r4 : List AOper := [
  ⟨(some 13), .fieldAddr 0 (.tmp 5), none, [5], 0, 0, false⟩,
  ⟨(some 14), .load none (.tmp 13), none, [13], 0, 0, false⟩,
  ⟨(some 15), .fieldAddr 1 (.tmp 5), none, [5], 0, 0, false⟩,
  ⟨(some 16), .load none (.tmp 15), none, [15], 0, 0, false⟩,
  ⟨(some 2), .mov (.tmp 14), none, [14], 0, 0, false⟩,
  ⟨(some 3), .mov (.tmp 16), none, [16], 0, 0, false⟩,
  ⟨(some 4), .mov (.val (.bool true)), none, [], 0, 0, false⟩]
def c26 : AFn := ⟨17, [(2, none), (3, none), (4, none)],
  (.seq (.region c26_r0 false) (.seq (.seq (.region c26_r1 false) (.cond (.tmp 8) (.seq (.region c26_r2 false) .ret) .skip)) (.seq (.region c26_r3 false) (.seq (.region c26_r4 true) .ret))))⟩
theorem F26 : funcsOf Try.prog [] 26 = some c26 := by kernel_rfl

def c27_r0 : List AOper := [
  ⟨(some 2), .mov (.val (.int .i64 0)), none, [], 0, 0, false⟩]
def c27_r1 : List AOper := [
  ⟨(some 3), .mov (.tmp 0), none, [], 0, 0, false⟩,
  ⟨(some 4), .eq false .ptr (.tmp 3) (.val (.ptr none)), none, [], 0, 0, false⟩]
def c27_r2 : List AOper := [
  ⟨(some 2), .mov (.val (.int .i64 0)), none, [], 0, 0, false⟩]
def c27_r3 : List AOper := [
  ⟨(some 5), .mov (.tmp 0), none, [], 0, 0, false⟩,
  ⟨(some 6), .nilCheck (.tmp 5), none, [], 0, 0, false⟩,
  ⟨(some 7), .fieldAddr 0 (.tmp 6), none, [], 0, 0, false⟩,
  ⟨(some 8), .load none (.tmp 7), none, [], 0, 0, false⟩,
  ⟨(some 9), .lenSlice (.tmp 8), none, [], 0, 0, false⟩,
  ⟨(some 2), .mov (.tmp 9), none, [], 0, 0, false⟩]
def c27 : AFn := ⟨10, [(2, none)],
  (.seq (.region c27_r0 false) (.seq (.seq (.region c27_r1 false) (.cond (.tmp 4) (.seq (.region c27_r2 false) .ret) .skip)) (.seq (.region c27_r3 false) .ret)))⟩
theorem F27 : funcsOf Try.prog [] 27 = some c27 := by kernel_rfl

def c28_r0 : List AOper := [
  ⟨(some 4), .mov (.val (.int .i64 0)), none, [], 0, 0, false⟩,
  ⟨(some 5), .mov (.val (.bool false)), none, [], 0, 0, false⟩]
def c28_r1 : List AOper := [
  ⟨(some 6), .mov (.tmp 0), none, [], 0, 0, false⟩,
  ⟨(some 7), .call (.val (.func (.func 32) [] [])) [(.tmp 6)], none, [], 0, 0, false⟩,
  ⟨(some 8), .bin .eql (.tmp 7) (.val (.int .i64 0)), none, [], 0, 0, false⟩]
def c28_r2 : List AOper := [
  ⟨(some 4), .mov (.val (.int .i64 0)), none, [], 0, 0, false⟩,
  ⟨(some 5), .mov (.val (.bool false)), none, [], 0, 0, false⟩]
def c28_r3 : List AOper := [
  ⟨(some 9), .mov (.tmp 0), none, [], 0, 0, false⟩,
  ⟨(some 10), .nilCheck (.tmp 9), none, [], 0, 0, false⟩,
  ⟨(some 11), .fieldAddr 0 (.tmp 10), none, [], 0, 0, false⟩,
  ⟨(some 12), .load none (.tmp 11), none, [], 0, 0, false⟩,
  ⟨(some 13), .call (.val (.func (.func 49) [] [])) [(.tmp 12), (.val (.func (.func 50) [] []))], none, [], 0, 0, false⟩,
  ⟨(some 4), .mov (.tmp 13), none, [], 0, 0, false⟩]
def c28_r4 : List AOper := [
  ⟨(some 14), .mov (.tmp 0), none, [], 0, 0, false⟩,
  ⟨(some 15), .nilCheck (.tmp 14), none, [], 0, 0, false⟩,
  ⟨(some 16), .fieldAddr 0 (.tmp 15), none, [], 0, 0, false⟩,
  ⟨(some 17), .load none (.tmp 16), none, [], 0, 0, false⟩,
  ⟨(some 18), .mov (.tmp 4), none, [], 0, 0, false⟩,
  ⟨(some 19), .mov (.tmp 1), none, [], 0, 0, false⟩,
  ⟨(some 20), .build [(.int .i64 0), (.bool false)] [(0, 1, (.tmp 19)), (1, 1, (.val (.bool true)))], none, [], 0, 0, false⟩,
  ⟨(some 21), .idxAddr 2 (.tmp 17) (.tmp 18), none, [], 0, 0, false⟩,
  ⟨none, .store 2 (.tmp 21) (.tmp 20), none, [], 0, 0, false⟩]
def c28_r5 : List AOper := [
  ⟨(some 22), .mov (.tmp 0), none, [], 0, 0, false⟩,
  ⟨(some 23), .nilCheck (.tmp 22), none, [], 0, 0, false⟩,
  ⟨(some 24), .fieldAddr 1 (.tmp 23), none, [], 0, 0, false⟩,
  ⟨(some 25), .load none (.tmp 24), none, [], 0, 0, false⟩,
  ⟨(some 26), .bin .add (.tmp 25) (.val (.int .i64 1)), none, [], 0, 0, false⟩,
  ⟨(some 27), .nilCheck (.tmp 22), none, [], 0, 0, false⟩,
  ⟨(some 28), .fieldAddr 1 (.tmp 27), none, [], 0, 0, false⟩,
  ⟨none, .store 1 (.tmp 28) (.tmp 26), none, [], 0, 0, false⟩]
def c28_r6 : List AOper := [
  ⟨(some 29), .mov (.tmp 4), none, [], 0, 0, false⟩,
  ⟨(some 4), .mov (.tmp 29), none, [], 0, 0, false⟩,
  ⟨(some 5), .mov (.val (.bool true)), none, [], 0, 0, false⟩]
def c28 : AFn := ⟨30, [(4, none), (5, none)],
  (.seq (.region c28_r0 false) (.seq (.seq (.region c28_r1 false) (.cond (.tmp 8) (.seq (.region c28_r2 false) .ret) .skip)) (.seq (.region c28_r3 false) (.seq (.region c28_r4 false) (.seq (.region c28_r5 false) (.seq (.region c28_r6 false) .ret))))))⟩
theorem F28 : funcsOf Try.prog [] 28 = some c28 := by kernel_rfl

def c29_r0 : List AOper := [
  ⟨(some 1), .box 1 33 (.tmp 0), none, [], 0, 0, false⟩,
  ⟨(some 2), .mov (.val .nilFunc), none, [], 0, 0, false⟩]
def c29_r1 : List AOper := [
  ⟨(some 3), .mkFunc (.func 51) [] [(.tmp 1)], none, [], 0, 0, false⟩,
  ⟨(some 2), .mov (.tmp 3), none, [], 0, 0, false⟩]
def c29 : AFn := ⟨4, [(2, none)],
  (.seq (.region c29_r0 false) (.seq (.region c29_r1 false) .ret))⟩
theorem F29 : funcsOf Try.prog [] 29 = some c29 := by kernel_rfl

def c31_r0 : List AOper := [
  ⟨(some 2), .mov (.val (.int .i64 0)), none, [], 0, 0, false⟩]
def c31_r1 : List AOper := [
  ⟨(some 3), .mov (.tmp 0), none, [], 0, 0, false⟩,
  ⟨(some 4), .eq false .ptr (.tmp 3) (.val (.ptr none)), none, [], 0, 0, false⟩]
def c31_r2 : List AOper := [
  ⟨(some 2), .mov (.val (.int .i64 0)), none, [], 0, 0, false⟩]
def c31_r3 : List AOper := [
  ⟨(some 5), .mov (.tmp 0), none, [], 0, 0, false⟩,
  ⟨(some 6), .nilCheck (.tmp 5), none, [], 0, 0, false⟩,
  ⟨(some 7), .fieldAddr 1 (.tmp 6), none, [], 0, 0, false⟩,
  ⟨(some 8), .load none (.tmp 7), none, [], 0, 0, false⟩,
  ⟨(some 2), .mov (.tmp 8), none, [], 0, 0, false⟩]
def c31 : AFn := ⟨9, [(2, none)],
  (.seq (.region c31_r0 false) (.seq (.seq (.region c31_r1 false) (.cond (.tmp 4) (.seq (.region c31_r2 false) .ret) .skip)) (.seq (.region c31_r3 false) .ret)))⟩
theorem F31 : funcsOf Try.prog [] 31 = some c31 := by kernel_rfl

def c32_r0 : List AOper := [
  ⟨(some 2), .mov (.val (.int .i64 0)), none, [], 0, 0, false⟩]
def c32_r1 : List AOper := [
  ⟨(some 3), .mov (.tmp 0), none, [], 0, 0, false⟩,
  ⟨(some 4), .eq false .ptr (.tmp 3) (.val (.ptr none)), none, [], 0, 0, false⟩]
def c32_r2 : List AOper := [
  ⟨(some 2), .mov (.val (.int .i64 0)), none, [], 0, 0, false⟩]
def c32_r3 : List AOper := [
  ⟨(some 5), .mov (.tmp 0), none, [0], 0, 0, false⟩,
  ⟨(some 6), .nilCheck (.tmp 5), none, [5], 0, 0, false⟩,
  ⟨(some 7), .fieldAddr 0 (.tmp 6), none, [6], 0, 0, false⟩,
  ⟨(some 8), .load none (.tmp 7), none, [7], 0, 0, false⟩,
  ⟨(some 9), .lenSlice (.tmp 8), none, [8], 0, 0, false⟩,
  ⟨(some 10), .mov (.tmp 0), none, [0], 0, 0, false⟩,
  ⟨(some 11), .nilCheck (.tmp 10), none, [10], 0, 0, false⟩,
  ⟨(some 12), .fieldAddr 1 (.tmp 11), none, [11], 0, 0, false⟩,
  ⟨(some 13), .load none (.tmp 12), none, [12], 0, 0, false⟩,
  ⟨(some 14), .bin .sub (.tmp 9) (.tmp 13), none, [9, 13], 0, 0, false⟩,
  ⟨(some 2), .mov (.tmp 14), none, [14], 0, 0, false⟩]
def c32 : AFn := ⟨15, [(2, none)],
  (.seq (.region c32_r0 false) (.seq (.seq (.region c32_r1 false) (.cond (.tmp 4) (.seq (.region c32_r2 false) .ret) .skip)) (.seq (.region c32_r3 true) .ret)))⟩
theorem F32 : funcsOf Try.prog [] 32 = some c32 := by kernel_rfl

def c45_r0 : List AOper := [
  ⟨(some 2), .mov (.val (.int .i64 0)), none, [], 0, 0, false⟩]
def c45_r1 : List AOper := [
  ⟨(some 3), .mov (.val (.int .i64 0)), none, [], 0, 0, false⟩]
def c45_r2 : List AOper := [
  ⟨(some 4), .mov (.val (.int .i64 0)), none, [], 0, 0, false⟩]
def c45_r3 : List AOper := [
  ⟨(some 5), .mov (.tmp 4), none, [], 0, 0, false⟩,
  ⟨(some 6), .mov (.tmp 0), none, [], 0, 0, false⟩,
  ⟨(some 7), .lenSlice (.tmp 6), none, [], 0, 0, false⟩,
  ⟨(some 8), .bin .lss (.tmp 5) (.tmp 7), none, [], 0, 0, false⟩]
def c45_r4 : List AOper := [
  ⟨(some 11), .mov (.tmp 0), none, [], 0, 0, false⟩,
  ⟨(some 12), .mov (.tmp 4), none, [], 0, 0, false⟩,
  ⟨(some 13), .idxAddr 2 (.tmp 11) (.tmp 12), none, [], 0, 0, false⟩,
  ⟨(some 14), .fieldAddr 1 (.tmp 13), none, [], 0, 0, false⟩,
  ⟨(some 15), .load none (.tmp 14), none, [], 0, 0, false⟩]
def c45_r5 : List AOper := [
  ⟨(some 16), .mov (.tmp 3), none, [], 0, 0, false⟩,
  ⟨(some 17), .bin .add (.tmp 16) (.val (.int .i64 1)), none, [], 0, 0, false⟩,
  ⟨(some 3), .mov (.tmp 17), none, [], 0, 0, false⟩]
def c45_r6 : List AOper := [
  ⟨(some 9), .mov (.tmp 4), none, [], 0, 0, false⟩,
  ⟨(some 10), .bin .add (.tmp 9) (.val (.int .i64 1)), none, [], 0, 0, false⟩,
  ⟨(some 4), .mov (.tmp 10), none, [], 0, 0, false⟩]
def c45_l7 : ACode := (.seq (.seq (.region c45_r3 false) (.cond (.tmp 8) .skip (.exit 0))) (.seq (.block 1 (.seq (.region c45_r4 false) (.cond (.tmp 15) (.region c45_r5 false) .skip))) (.region c45_r6 false)))
def c45_r8 : List AOper := [
  ⟨(some 18), .mov (.tmp 3), none, [], 0, 0, false⟩,
  ⟨(some 2), .mov (.tmp 18), none, [], 0, 0, false⟩]
def c45 : AFn := ⟨19, [(2, none)],
  (.seq (.region c45_r0 false) (.seq (.region c45_r1 false) (.seq (.seq (.region c45_r2 false) (.block 0 (.loop c45_l7))) (.seq (.region c45_r8 false) .ret))))⟩
theorem F45 : funcsOf Try.prog [] 45 = some c45 := by kernel_rfl

def c46_r0 : List AOper := [
  ⟨(some 7), .mov (.val (.bool false)), none, [], 0, 0, false⟩]
def c46_r1 : List AOper := [
  ⟨(some 11), .load none (.tmp 2), none, [], 0, 0, false⟩,
  ⟨(some 12), .mov (.tmp 0), none, [], 0, 0, false⟩,
  ⟨(some 13), .call (.val (.func (.func 19) [] [])) [(.tmp 11), (.tmp 12)], none, [], 0, 0, false⟩,
  ⟨(some 10), .mov (.tmp 13), none, [], 0, 0, false⟩,
  ⟨(some 14), .extract (.tmp 10) 0, none, [], 0, 0, false⟩,
  ⟨(some 15), .extract (.tmp 10) 1, none, [], 0, 0, false⟩,
  ⟨(some 8), .mov (.tmp 14), none, [], 0, 0, false⟩,
  ⟨(some 9), .mov (.tmp 15), none, [], 0, 0, false⟩]
def c46_r2 : List AOper := [
  ⟨(some 16), .load none (.tmp 3), none, [], 0, 0, false⟩,
  ⟨(some 17), .mov (.tmp 16), none, [], 0, 0, false⟩,
  ⟨(some 18), .mov (.tmp 0), (some (17, true)), [], 0, 0, false⟩,
  ⟨(some 19), .load none (.tmp 4), (some (17, true)), [], 0, 0, false⟩,
  ⟨(some 20), .bin .gtr (.tmp 18) (.tmp 19), (some (17, true)), [], 0, 0, false⟩,
  ⟨(some 21), .pick (.tmp 17) (.tmp 20) (.val (.bool false)), none, [], 0, 0, false⟩,
  ⟨(some 22), .mov (.tmp 21), none, [], 0, 0, false⟩,
  ⟨(some 23), .mov (.tmp 9), (some (22, true)), [], 0, 0, false⟩,
  ⟨(some 24), .pick (.tmp 22) (.tmp 23) (.val (.bool false)), none, [], 0, 0, false⟩,
  ⟨(some 25), .mov (.tmp 24), none, [], 0, 0, false⟩,
  ⟨(some 26), .mov (.tmp 1), (some (25, true)), [], 0, 0, false⟩,
  ⟨(some 27), .mov (.tmp 8), (some (25, true)), [], 0, 0, false⟩,
  ⟨(some 28), .bin .eql (.tmp 26) (.tmp 27), (some (25, true)), [], 0, 0, false⟩,
  ⟨(some 29), .pick (.tmp 25) (.tmp 28) (.val (.bool false)), none, [], 0, 0, false⟩,
  ⟨none, .store 1 (.tmp 3) (.tmp 29), none, [], 0, 0, false⟩]
def c46_r3 : List AOper := [
  ⟨(some 30), .mov (.tmp 0), none, [], 0, 0, false⟩,
  ⟨none, .store 1 (.tmp 4) (.tmp 30), none, [], 0, 0, false⟩]
def c46_r4 : List AOper := [
  ⟨(some 7), .mov (.val (.bool true)), none, [], 0, 0, false⟩]
def c46 : AFn := ⟨31, [(7, none)],
  (.seq (.region c46_r0 false) (.seq (.region c46_r1 false) (.seq (.region c46_r2 false) (.seq (.region c46_r3 false) (.seq (.region c46_r4 false) .ret)))))⟩
theorem F46 : funcsOf Try.prog [] 46 = some c46 := by kernel_rfl

def c47_r0 : List AOper := [
  ⟨(some 5), .mov (.val (.bool false)), none, [], 0, 0, false⟩]
def c47_r1 : List AOper := [
  ⟨(some 6), .load none (.tmp 2), none, [], 0, 0, false⟩,
  ⟨(some 7), .bin .add (.tmp 6) (.val (.int .i64 1)), none, [], 0, 0, false⟩,
  ⟨none, .store 1 (.tmp 2) (.tmp 7), none, [], 0, 0, false⟩]
def c47_r2 : List AOper := [
  ⟨(some 8), .load none (.tmp 2), none, [], 0, 0, false⟩,
  ⟨(some 9), .bin .lss (.tmp 8) (.val (.int .i64 2)), none, [], 0, 0, false⟩,
  ⟨(some 5), .mov (.tmp 9), none, [], 0, 0, false⟩]
def c47 : AFn := ⟨10, [(5, none)],
  (.seq (.region c47_r0 false) (.seq (.region c47_r1 false) (.seq (.region c47_r2 false) .ret)))⟩
theorem F47 : funcsOf Try.prog [] 47 = some c47 := by kernel_rfl

def c48_r0 : List AOper := [
  ⟨(some 4), .alloc [(.int .i64 0), (.int .i64 0)] 96, none, [], 0, 0, false⟩]
def c48_r1 : List AOper := [
  ⟨(some 6), .mov (.tmp 0), none, [], 0, 0, false⟩,
  ⟨(some 7), .nilCheck (.tmp 6), none, [], 0, 0, false⟩,
  ⟨(some 8), .fieldAddr 0 (.tmp 7), none, [], 0, 0, false⟩,
  ⟨(some 9), .load none (.tmp 8), none, [], 0, 0, false⟩,
  ⟨(some 10), .mov (.tmp 1), none, [], 0, 0, false⟩,
  ⟨(some 11), .idxAddr 2 (.tmp 9) (.tmp 10), none, [], 0, 0, false⟩,
  ⟨(some 12), .load (some 2) (.tmp 11), none, [], 0, 0, false⟩,
  ⟨(some 5), .alloc [(.int .i64 0), (.int .i64 0)] 96, none, [], 0, 0, false⟩,
  ⟨none, .store 2 (.tmp 5) (.tmp 12), none, [], 0, 0, false⟩]
def c48_r2 : List AOper := [
  ⟨(some 13), .mov (.tmp 0), none, [], 0, 0, false⟩,
  ⟨(some 14), .mov (.tmp 0), none, [], 0, 0, false⟩,
  ⟨(some 15), .nilCheck (.tmp 14), none, [], 0, 0, false⟩,
  ⟨(some 16), .fieldAddr 0 (.tmp 15), none, [], 0, 0, false⟩,
  ⟨(some 17), .load none (.tmp 16), none, [], 0, 0, false⟩,
  ⟨(some 18), .call (.val (.func (.func 59) [] [])) [(.tmp 17)], none, [], 0, 0, false⟩,
  ⟨(some 19), .mov (.tmp 1), none, [], 0, 0, false⟩,
  ⟨(some 20), .mov (.tmp 1), none, [], 0, 0, false⟩,
  ⟨(some 21), .bin .add (.tmp 20) (.val (.int .i64 1)), none, [], 0, 0, false⟩,
  ⟨(some 22), .call (.val (.func (.func 58) [] [])) [(.tmp 18), (.tmp 19), (.tmp 21)], none, [], 0, 0, false⟩,
  ⟨(some 23), .nilCheck (.tmp 13), none, [], 0, 0, false⟩,
  ⟨(some 24), .fieldAddr 0 (.tmp 23), none, [], 0, 0, false⟩,
  ⟨none, .store 1 (.tmp 24) (.tmp 22), none, [], 0, 0, false⟩]
def c48_r3 : List AOper := [
  ⟨(some 25), .load (some 2) (.tmp 5), none, [], 0, 0, false⟩,
  ⟨none, .store 2 (.tmp 4) (.tmp 25), none, [], 0, 0, false⟩]
def c48 : AFn := ⟨26, [(4, (some (some 2)))],
  (.seq (.region c48_r0 false) (.seq (.region c48_r1 false) (.seq (.region c48_r2 false) (.seq (.region c48_r3 false) .ret))))⟩
theorem F48 : funcsOf Try.prog [] 48 = some c48 := by kernel_rfl

def c49_r0 : List AOper := [
  ⟨(some 4), .mov (.val (.int .i64 0)), none, [], 0, 0, false⟩]
def c49_r1 : List AOper := [
  ⟨(some 6), .mov (.tmp 0), none, [], 0, 0, false⟩,
  ⟨(some 7), .lenSlice (.tmp 6), none, [], 0, 0, false⟩,
  ⟨(some 8), .mov (.val (.int .i64 0)), none, [], 0, 0, false⟩]
def c49_r2 : List AOper := [
  ⟨(some 9), .bin .lss (.tmp 8) (.tmp 7), none, [], 0, 0, false⟩]
def c49_r3 : List AOper := [
  ⟨(some 10), .mov (.tmp 8), none, [], 0, 0, false⟩,
  ⟨(some 5), .mov (.tmp 10), none, [], 0, 0, false⟩]
def c49_r4 : List AOper := [
  ⟨(some 11), .mov (.tmp 1), none, [], 0, 0, false⟩,
  ⟨(some 12), .mov (.tmp 0), none, [], 0, 0, false⟩,
  ⟨(some 13), .mov (.tmp 5), none, [], 0, 0, false⟩,
  ⟨(some 14), .idxAddr 2 (.tmp 12) (.tmp 13), none, [], 0, 0, false⟩,
  ⟨(some 15), .load (some 2) (.tmp 14), none, [], 0, 0, false⟩,
  ⟨(some 16), .call (.tmp 11) [(.tmp 15)], none, [], 0, 0, false⟩]
def c49_r5 : List AOper := [
  ⟨(some 17), .mov (.tmp 5), none, [], 0, 0, false⟩,
  ⟨(some 4), .mov (.tmp 17), none, [], 0, 0, false⟩]
def c49_r6 : List AOper := [
  ⟨(some 18), .bin .add (.tmp 8) (.val (.int .i64 1)), none, [], 0, 0, false⟩,
  ⟨(some 8), .mov (.tmp 18), none, [], 0, 0, false⟩]
def c49_l7 : ACode := (.seq (.region c49_r2 false) (.seq (.cond (.tmp 9) .skip (.exit 0)) (.seq (.block 1 (.seq (.region c49_r3 false) (.seq (.region c49_r4 false) (.cond (.tmp 16) (.seq (.region c49_r5 false) .ret) .skip)))) (.region c49_r6 false))))
def c49_r8 : List AOper := [
  ⟨(some 4), .mov (.val (.int .i64 (-1))), none, [], 0, 0, false⟩]
def c49 : AFn := ⟨19, [(4, none)],
  (.seq (.region c49_r0 false) (.seq (.seq (.region c49_r1 false) (.block 0 (.loop c49_l7))) (.seq (.region c49_r8 false) .ret)))⟩
theorem F49 : funcsOf Try.prog [] 49 = some c49 := by kernel_rfl

def c50_r0 : List AOper := [
  ⟨(some 1), .box 2 93 (.tmp 0), none, [], 0, 0, false⟩,
  ⟨(some 2), .mov (.val (.bool false)), none, [], 0, 0, false⟩]
def c50_r1 : List AOper := [
  ⟨(some 3), .fieldAddr 1 (.tmp 1), none, [], 0, 0, false⟩,
  ⟨(some 4), .load none (.tmp 3), none, [], 0, 0, false⟩,
  ⟨(some 5), .un .not (.tmp 4), none, [], 0, 0, false⟩,
  ⟨(some 2), .mov (.tmp 5), none, [], 0, 0, false⟩]
def c50 : AFn := ⟨6, [(2, none)],
  (.seq (.region c50_r0 false) (.seq (.region c50_r1 false) .ret))⟩
theorem F50 : funcsOf Try.prog [] 50 = some c50 := by kernel_rfl

def c51_r0 : List AOper := [
  ⟨(some 5), .load none (.tmp 1), none, [], 0, 0, false⟩,
  ⟨(some 6), .eq false .ptr (.tmp 5) (.val (.ptr none)), none, [], 0, 0, false⟩]
def c51_r1 : List AOper := [
  ⟨(some 7), .load none (.tmp 1), none, [], 0, 0, false⟩,
  ⟨(some 8), .nilCheck (.tmp 7), none, [], 0, 0, false⟩,
  ⟨(some 9), .fieldAddr 0 (.tmp 8), none, [], 0, 0, false⟩,
  ⟨(some 10), .load none (.tmp 9), none, [], 0, 0, false⟩,
  ⟨(some 11), .call (.val (.func (.func 52) [] [])) [(.tmp 10)], none, [], 0, 0, false⟩,
  ⟨(some 12), .lenSlice (.tmp 11), none, [], 0, 0, false⟩,
  ⟨(some 13), .mov (.val (.int .i64 0)), none, [], 0, 0, false⟩]
def c51_r2 : List AOper := [
  ⟨(some 14), .bin .lss (.tmp 13) (.tmp 12), none, [], 0, 0, false⟩]
def c51_r3 : List AOper := [
  ⟨(some 15), .mov (.tmp 13), none, [], 0, 0, false⟩,
  ⟨(some 16), .idxAddr 2 (.tmp 11) (.tmp 13), none, [], 0, 0, false⟩,
  ⟨(some 17), .load (some 2) (.tmp 16), none, [], 0, 0, false⟩,
  ⟨(some 4), .alloc [(.int .i64 0), (.bool false)] 93, none, [], 0, 0, false⟩,
  ⟨(some 3), .mov (.tmp 15), none, [], 0, 0, false⟩,
  ⟨none, .store 2 (.tmp 4) (.tmp 17), none, [], 0, 0, false⟩]
def c51_r4 : List AOper := [
  ⟨(some 18), .fieldAddr 1 (.tmp 4), none, [], 0, 0, false⟩,
  ⟨(some 19), .load none (.tmp 18), none, [], 0, 0, false⟩,
  ⟨(some 20), .mov (.tmp 19), none, [], 0, 0, false⟩,
  ⟨(some 21), .mov (.tmp 0), (some (20, true)), [], 0, 0, false⟩,
  ⟨(some 22), .mov (.tmp 3), (some (20, true)), [], 0, 0, false⟩,
  ⟨(some 23), .fieldAddr 0 (.tmp 4), (some (20, true)), [], 0, 0, false⟩,
  ⟨(some 24), .load none (.tmp 23), (some (20, true)), [], 0, 0, false⟩,
  ⟨(some 25), .call (.tmp 21) [(.tmp 22), (.tmp 24)], (some (20, true)), [], 0, 0, false⟩,
  ⟨(some 26), .un .not (.tmp 25), (some (20, true)), [], 0, 0, false⟩,
  ⟨(some 27), .pick (.tmp 20) (.tmp 26) (.val (.bool false)), none, [], 0, 0, false⟩]
def c51_r5 : List AOper := [
  ⟨(some 28), .bin .add (.tmp 13) (.val (.int .i64 1)), none, [], 0, 0, false⟩,
  ⟨(some 13), .mov (.tmp 28), none, [], 0, 0, false⟩]
def c51_l6 : ACode := (.seq (.region c51_r2 false) (.seq (.cond (.tmp 14) .skip (.exit 0)) (.seq (.block 1 (.seq (.region c51_r3 false) (.seq (.region c51_r4 false) (.cond (.tmp 27) .ret .skip)))) (.region c51_r5 false))))
def c51 : AFn := ⟨29, [],
  (.seq (.seq (.region c51_r0 false) (.cond (.tmp 6) .ret .skip)) (.seq (.region c51_r1 false) (.block 0 (.loop c51_l6))))⟩
theorem F51 : funcsOf Try.prog [] 51 = some c51 := by kernel_rfl

def c52_r0 : List AOper := [
  ⟨(some 2), .mov (.val (.slice none 0 0 0)), none, [], 0, 0, false⟩]
def c52_r1 : List AOper := [
  ⟨(some 3), .mov (.tmp 0), none, [], 0, 0, false⟩,
  ⟨(some 4), .eq false .slice (.tmp 3) (.val (.slice none 0 0 0)), none, [], 0, 0, false⟩]
def c52_r2 : List AOper := [
  ⟨(some 2), .mov (.val (.slice none 0 0 0)), none, [], 0, 0, false⟩]
def c52_r3 : List AOper := [
  ⟨(some 5), .buildSlice [(.int .i64 0), (.bool false)] 93 0 [], none, [], 0, 0, false⟩,
  ⟨(some 6), .mov (.tmp 0), none, [], 0, 0, false⟩,
  ⟨(some 7), .append 93 2 16 (.tmp 5) (.tmp 6), none, [], 0, 0, false⟩,
  ⟨(some 2), .mov (.tmp 7), none, [], 0, 0, false⟩]
def c52 : AFn := ⟨8, [(2, none)],
  (.seq (.region c52_r0 false) (.seq (.seq (.region c52_r1 false) (.cond (.tmp 4) (.seq (.region c52_r2 false) .ret) .skip)) (.seq (.region c52_r3 false) .ret)))⟩
theorem F52 : funcsOf Try.prog [] 52 = some c52 := by kernel_rfl

def c58_r0 : List AOper := [
  ⟨(some 6), .mov (.val (.slice none 0 0 0)), none, [], 0, 0, false⟩]
def c58_r1 : List AOper := [
  ⟨(some 8), .mov (.tmp 0), none, [], 0, 0, false⟩,
  ⟨(some 9), .mov (.tmp 1), none, [], 0, 0, false⟩,
  ⟨(some 10), .mov (.tmp 2), none, [], 0, 0, false⟩,
  ⟨(some 11), .mov (.tmp 0), none, [], 0, 0, false⟩,
  ⟨(some 12), .lenSlice (.tmp 11), none, [], 0, 0, false⟩,
  ⟨(some 13), .slice 2 (.tmp 8) (some (.tmp 9)) (some (.tmp 10)) (some (.tmp 12)), none, [], 0, 0, false⟩]
def c58_r2 : List AOper := [
  ⟨(some 14), .mov (.tmp 1), none, [], 0, 0, false⟩,
  ⟨(some 15), .mov (.tmp 2), none, [], 0, 0, false⟩,
  ⟨(some 16), .bin .eql (.tmp 14) (.tmp 15), none, [], 0, 0, false⟩]
def c58_r3 : List AOper := [
  ⟨(some 17), .mov (.tmp 0), none, [], 0, 0, false⟩,
  ⟨(some 6), .mov (.tmp 17), none, [], 0, 0, false⟩]
def c58_r4 : List AOper := [
  ⟨(some 18), .mov (.tmp 0), none, [], 0, 0, false⟩,
  ⟨(some 19), .lenSlice (.tmp 18), none, [], 0, 0, false⟩,
  ⟨(some 7), .mov (.tmp 19), none, [], 0, 0, false⟩]
def c58_r5 : List AOper := [
  ⟨(some 20), .mov (.tmp 0), none, [0], 0, 0, false⟩,
  ⟨(some 21), .mov (.tmp 1), none, [1], 0, 0, false⟩,
  ⟨(some 22), .slice 2 (.tmp 20) none (some (.tmp 21)) none, none, [20, 21], 0, 0, false⟩,
  ⟨(some 23), .mov (.tmp 0), none, [0], 0, 0, false⟩,
  ⟨(some 24), .mov (.tmp 2), none, [2], 0, 0, false⟩,
  ⟨(some 25), .slice 2 (.tmp 23) (some (.tmp 24)) none none, none, [23, 24], 0, 0, false⟩,
  ⟨(some 26), .append 96 2 16 (.tmp 22) (.tmp 25), none, [22, 25], 0, 1, false⟩,
  ⟨(some 0), .mov (.tmp 26), none, [26], 1, 1, false⟩]
def c58_r6 : List AOper := [
  ⟨(some 27), .mov (.tmp 0), none, [], 0, 0, false⟩,
  ⟨(some 28), .mov (.tmp 0), none, [], 0, 0, false⟩,
  ⟨(some 29), .lenSlice (.tmp 28), none, [], 0, 0, false⟩,
  ⟨(some 30), .mov (.tmp 7), none, [], 0, 0, false⟩,
  ⟨(some 31), .slice 2 (.tmp 27) (some (.tmp 29)) (some (.tmp 30)) none, none, [], 0, 0, false⟩,
  ⟨none, .clearSlice [(.int .i64 0), (.int .i64 0)] (.tmp 31), none, [], 0, 0, false⟩]
def c58_r7 : List AOper := [
  ⟨(some 32), .mov (.tmp 0), none, [], 0, 0, false⟩,
  ⟨(some 6), .mov (.tmp 32), none, [], 0, 0, false⟩]
def c58 : AFn := ⟨33, [(6, none)],
  (.seq (.region c58_r0 false) (.seq (.region c58_r1 false) (.seq (.seq (.region c58_r2 false) (.cond (.tmp 16) (.seq (.region c58_r3 false) .ret) .skip)) (.seq (.region c58_r4 false) (.seq (.region c58_r5 true) (.seq (.region c58_r6 false) (.seq (.region c58_r7 false) .ret)))))))⟩
theorem F58 : funcsOf Try.prog [] 58 = some c58 := by kernel_rfl

def c59_r0 : List AOper := [
  ⟨(some 2), .mov (.val (.slice none 0 0 0)), none, [], 0, 0, false⟩]
def c59_r1 : List AOper := [
  ⟨(some 3), .mov (.tmp 0), none, [], 0, 0, false⟩,
  ⟨(some 4), .eq false .slice (.tmp 3) (.val (.slice none 0 0 0)), none, [], 0, 0, false⟩]
def c59_r2 : List AOper := [
  ⟨(some 2), .mov (.val (.slice none 0 0 0)), none, [], 0, 0, false⟩]
def c59_r3 : List AOper := [
  ⟨(some 5), .buildSlice [(.int .i64 0), (.int .i64 0)] 96 0 [], none, [], 0, 0, false⟩,
  ⟨(some 6), .mov (.tmp 0), none, [], 0, 0, false⟩,
  ⟨(some 7), .append 96 2 16 (.tmp 5) (.tmp 6), none, [], 0, 0, false⟩,
  ⟨(some 2), .mov (.tmp 7), none, [], 0, 0, false⟩]
def c59 : AFn := ⟨8, [(2, none)],
  (.seq (.region c59_r0 false) (.seq (.seq (.region c59_r1 false) (.cond (.tmp 4) (.seq (.region c59_r2 false) .ret) .skip)) (.seq (.region c59_r3 false) .ret)))⟩
theorem F59 : funcsOf Try.prog [] 59 = some c59 := by kernel_rfl

end Go.Proofs.Ytkbekibljcdbjaa.Ax
