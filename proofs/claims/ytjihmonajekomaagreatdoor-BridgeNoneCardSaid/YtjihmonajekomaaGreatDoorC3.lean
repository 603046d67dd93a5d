/- The compiled text of some functions (printed by wip/tools/AxPrint.lean), and that it is what the compiler gives. Conditions: none.
   The compiled text of some functions (printed by wip/tools/AxPrint.lean), and that it is what the compiler gives. Conditions: none. -/
import Derived.Test.YtjihmonajekomaaGreatDoorAx22
import Derived.Test.YtjihmonajekomaaGreatDoorProg
namespace Go.Proofs.YtjihmonajekomaaGreatDoor.Ax
open Go
def c232_r0 : List AOper := [
  ⟨(some 4), .mov (.val (.int .i64 0)), none, [], 0, 0, false⟩,
  ⟨(some 5), .mov (.val (.int .i64 0)), none, [], 0, 0, false⟩]
def c232_r1 : List AOper := [
  ⟨(some 6), .mov (.tmp 0), none, [], 0, 0, false⟩,
  ⟨(some 7), .mov (.tmp 1), none, [], 0, 0, false⟩,
  ⟨(some 8), .call (.val (.func (.func 327) [] [])) [(.tmp 6), (.val (.int .i64 10)), (.tmp 7)], none, [], 0, 0, false⟩,
  ⟨(some 9), .extract (.tmp 8) 0, none, [], 0, 0, false⟩,
  ⟨(some 10), .extract (.tmp 8) 1, none, [], 0, 0, false⟩,
  ⟨(some 4), .mov (.tmp 9), none, [], 0, 0, false⟩,
  ⟨(some 5), .mov (.tmp 10), none, [], 0, 0, false⟩]
def c232 : AFn := ⟨11, [(4, none), (5, none)],
  (.seq (.region c232_r0 false) (.seq (.region c232_r1 false) .ret))⟩
theorem F232 : funcsOf Tryz.prog [] 232 = some c232 := by kernel_rfl

end Go.Proofs.YtjihmonajekomaaGreatDoor.Ax

namespace Go.Proofs.YtjihmonajekomaaGreatDoor.Ax
open Go
def c51_r0 : List AOper := [
  ⟨(some 3), .box 5 23 (.tmp 1), none, [], 0, 0, false⟩,
  ⟨(some 4), .mov (.val (.ptr none)), none, [], 0, 0, false⟩]
def c51_r1 : List AOper := [
  ⟨(some 6), .mov (.tmp 0), none, [], 0, 0, false⟩,
  ⟨(some 7), .load (some 5) (.tmp 3), none, [], 0, 0, false⟩,
  ⟨(some 8), .call (.val (.func (.func 122) [] [])) [(.tmp 6), (.tmp 7)], none, [], 0, 0, false⟩,
  ⟨(some 5), .mov (.tmp 8), none, [], 0, 0, false⟩]
def c51_r2 : List AOper := [
  ⟨(some 9), .mov (.tmp 5), none, [], 0, 0, false⟩,
  ⟨(some 10), .eq false .ptr (.tmp 9) (.val (.ptr none)), none, [], 0, 0, false⟩]
def c51_r3 : List AOper := [
  ⟨(some 4), .mov (.val (.ptr none)), none, [], 0, 0, false⟩]
def c51_r4 : List AOper := [
  ⟨(some 11), .mov (.tmp 0), none, [], 0, 0, false⟩,
  ⟨(some 12), .load (some 5) (.tmp 3), none, [], 0, 0, false⟩,
  ⟨(some 13), .mov (.tmp 5), none, [], 0, 0, false⟩,
  ⟨(some 14), .build [(.str []), (.str []), (.int .i64 0), (.int .i64 0), (.str []), (.slice none 0 0 0), (.int .i64 0), (.int .i64 0), (.slice none 0 0 0), (.int .i64 0), (.int .i64 0), (.int .i64 0), (.int .i64 0), (.int .i64 0), (.int .i64 0), (.str []), (.ptr none), (.ptr none), (.bool false), (.int .i64 0)] [(9, 1, (.tmp 11)), (10, 5, (.tmp 12)), (16, 1, (.tmp 13))], none, [], 0, 0, false⟩,
  ⟨(some 15), .box 20 170 (.tmp 14), none, [], 0, 0, false⟩,
  ⟨(some 4), .mov (.tmp 15), none, [], 0, 0, false⟩]
def c51 : AFn := ⟨16, [(4, none)],
  (.seq (.region c51_r0 false) (.seq (.region c51_r1 false) (.seq (.seq (.region c51_r2 false) (.cond (.tmp 10) (.seq (.region c51_r3 false) .ret) .skip)) (.seq (.region c51_r4 false) .ret))))⟩
theorem F51 : funcsOf Tryz.prog [] 51 = some c51 := by kernel_rfl

def c122_r0 : List AOper := [
  ⟨(some 3), .box 5 23 (.tmp 1), none, [], 0, 0, false⟩,
  ⟨(some 4), .mov (.val (.ptr none)), none, [], 0, 0, false⟩]
def c122_r1 : List AOper := [
  ⟨(some 6), .fieldAddr 0 (.tmp 3), none, [], 0, 0, false⟩,
  ⟨(some 7), .load none (.tmp 6), none, [], 0, 0, false⟩,
  ⟨(some 8), .call (.val (.func (.func 228) [] [])) [(.tmp 7)], none, [], 0, 0, false⟩,
  ⟨(some 5), .mov (.tmp 8), none, [], 0, 0, false⟩]
def c122_r2 : List AOper := [
  ⟨(some 9), .mov (.tmp 5), none, [], 0, 0, false⟩,
  ⟨(some 10), .eq false .ptr (.tmp 9) (.val (.ptr none)), none, [], 0, 0, false⟩,
  ⟨(some 11), .mov (.tmp 10), none, [], 0, 0, false⟩,
  ⟨(some 12), .mov (.tmp 0), (some (11, false)), [], 0, 0, false⟩,
  ⟨(some 13), .bin .neq (.tmp 12) (.val (.int .i64 1)), (some (11, false)), [], 0, 0, false⟩,
  ⟨(some 14), .mov (.tmp 13), (some (11, false)), [], 0, 0, false⟩,
  ⟨(some 15), .mov (.tmp 0), (some (14, true)), [], 0, 0, false⟩,
  ⟨(some 16), .bin .neq (.tmp 15) (.val (.int .i64 2)), (some (14, true)), [], 0, 0, false⟩,
  ⟨(some 17), .pick (.tmp 14) (.tmp 16) (.val (.bool false)), (some (11, false)), [], 0, 0, false⟩,
  ⟨(some 18), .pick (.tmp 11) (.val (.bool true)) (.tmp 17), none, [], 0, 0, false⟩]
def c122_r3 : List AOper := [
  ⟨(some 4), .mov (.val (.ptr none)), none, [], 0, 0, false⟩]
def c122_r4 : List AOper := [
  ⟨(some 19), .mov (.tmp 5), none, [], 0, 0, false⟩,
  ⟨(some 20), .mov (.tmp 0), none, [], 0, 0, false⟩,
  ⟨(some 21), .load (some 5) (.tmp 3), none, [], 0, 0, false⟩,
  ⟨(some 22), .build [(.ptr none), (.int .i64 0), (.int .i64 0), (.int .i64 0), (.int .i64 0), (.int .i64 0), (.int .i64 0), (.slice none 0 0 0), (.bool false), (.str []), (.str []), (.int .i64 0), (.int .i64 0), (.str []), (.slice none 0 0 0), (.int .i64 0)] [(0, 1, (.tmp 19)), (1, 1, (.tmp 20)), (2, 5, (.tmp 21))], none, [], 0, 0, false⟩,
  ⟨(some 23), .box 16 275 (.tmp 22), none, [], 0, 0, false⟩,
  ⟨(some 4), .mov (.tmp 23), none, [], 0, 0, false⟩]
def c122 : AFn := ⟨24, [(4, none)],
  (.seq (.region c122_r0 false) (.seq (.region c122_r1 false) (.seq (.seq (.region c122_r2 false) (.cond (.tmp 18) (.seq (.region c122_r3 false) .ret) .skip)) (.seq (.region c122_r4 false) .ret))))⟩
theorem F122 : funcsOf Tryz.prog [] 122 = some c122 := by kernel_rfl

def c228_r0 : List AOper := [
  ⟨(some 2), .mov (.val (.ptr none)), none, [], 0, 0, false⟩]
def c228_r1 : List AOper := [
  ⟨(some 3), .mov (.tmp 0), none, [], 0, 0, false⟩,
  ⟨(some 4), .bin .lss (.tmp 3) (.val (.int .i64 0)), none, [], 0, 0, false⟩,
  ⟨(some 5), .mov (.tmp 4), none, [], 0, 0, false⟩,
  ⟨(some 6), .mov (.tmp 0), (some (5, false)), [], 0, 0, false⟩,
  ⟨(some 7), .bin .gtr (.tmp 6) (.val (.int .i64 65536)), (some (5, false)), [], 0, 0, false⟩,
  ⟨(some 8), .pick (.tmp 5) (.val (.bool true)) (.tmp 7), none, [], 0, 0, false⟩]
def c228_r2 : List AOper := [
  ⟨(some 2), .mov (.val (.ptr none)), none, [], 0, 0, false⟩]
def c228_r3 : List AOper := [
  ⟨(some 9), .mov (.tmp 0), none, [], 0, 0, false⟩,
  ⟨(some 10), .build [(.int .i64 0), (.int .i64 0), (.slice none 0 0 0), (.bool false), (.bool false), (.bool false), (.int .i64 0)] [(0, 1, (.tmp 9))], none, [], 0, 0, false⟩,
  ⟨(some 11), .box 7 359 (.tmp 10), none, [], 0, 0, false⟩,
  ⟨(some 2), .mov (.tmp 11), none, [], 0, 0, false⟩]
def c228 : AFn := ⟨12, [(2, none)],
  (.seq (.region c228_r0 false) (.seq (.seq (.region c228_r1 false) (.cond (.tmp 8) (.seq (.region c228_r2 false) .ret) .skip)) (.seq (.region c228_r3 false) .ret)))⟩
theorem F228 : funcsOf Tryz.prog [] 228 = some c228 := by kernel_rfl

end Go.Proofs.YtjihmonajekomaaGreatDoor.Ax
