/- The compiled text of some functions (printed by wip/tools/AxPrint2.lean), that it is what the compiler gives, and a table of them. Conditions: none. -/
import Derived.Test.YtjihmonajekomaaGreatDoorAx30
import Derived.Test.YtjihmonajekomaaGreatDoorProg
namespace Go.Proofs.YtjihmonajekomaaGreatDoor.Ax.K
open Go
def k7 : AFn := ⟨21, [(2, none), (3, none)],
 (a (r [p 2 (.mov (v N)), p 3 (.mov (v E))])
 (a (a (r [p 4 (.mov (t 0)), p 5 (.eq false .ptr (t 4) (v N)), p 6 (.mov (t 5)), g 7 6 false (.mov (t 0)), g 8 6 false (.nilCheck (t 7)), g 9 6 false (.fieldAddr 34 (t 8)), g 10 6 false (.load none (t 9)), g 11 6 false (.eq false .ptr (t 10) (v N)), p 12 (.pick (t 6) (v Y) (t 11))])
 (c (t 12) (a (r [p 2 (.mov (v N)), p 3 (.mov (v E))])
 .ret) .skip))
 (a (z [⟨(some 13), .mov (t 0), none, [0], 0, 0, false⟩, ⟨(some 14), .nilCheck (t 13), none, [13], 0, 0, false⟩, ⟨(some 15), .fieldAddr 34 (t 14), none, [14], 0, 0, false⟩, ⟨(some 16), .load none (t 15), none, [15], 0, 0, false⟩, ⟨(some 17), .mov (t 0), none, [0], 0, 0, false⟩, ⟨(some 18), .nilCheck (t 17), none, [17], 0, 0, false⟩, ⟨(some 19), .fieldAddr 35 (t 18), none, [18], 0, 0, false⟩, ⟨(some 20), .load none (t 19), none, [19], 0, 0, false⟩, ⟨(some 2), .mov (t 16), none, [16], 0, 0, false⟩, ⟨(some 3), .mov (t 20), none, [20], 0, 0, false⟩])
 .ret)))⟩
theorem H7 : funcsOf Tryz.prog [] 7 = some k7 := by kernel_rfl
def k10 : AFn := ⟨59, [(4, none)],
 (a (r [p 4 (.mov (v B))])
 (a (a (r [p 5 (.mov (t 0)), p 6 (.call (v (G 11)) [(t 5)]), p 7 (.bin .eql (t 6) (v (I 9)))])
 (c (t 7) (a (r [p 4 (.mov (v B))])
 .ret) .skip))
 (a (r [p 8 (.mov (t 0)), p 9 (.mov (t 1)), p 10 (.nilCheck (t 8)), p 11 (.fieldAddr 40 (t 10)), q (.store 1 (t 11) (t 9))])
 (a (.block 0 (a (r [p 15 (.mov (t 0)), p 16 (.nilCheck (t 15)), p 17 (.fieldAddr 39 (t 16)), p 18 (.load none (t 17)), p 19 (.bin .eql (t 18) (v (I 8))), p 20 (.mov (t 19)), g 21 20 false (.mov (t 0)), g 22 20 false (.nilCheck (t 21)), g 23 20 false (.fieldAddr 39 (t 22)), g 24 20 false (.load none (t 23)), g 25 20 false (.bin .eql (t 24) (v (I 1))), g 26 20 false (.mov (t 25)), g 27 26 true (.mov (t 0)), g 28 26 true (.nilCheck (t 27)), g 29 26 true (.fieldAddr 37 (t 28)), g 30 26 true (.load none (t 29)), g 31 26 true (.call (v (G 48)) [(t 30)]), g 32 26 true (.bin .eql (t 31) (v O)), g 33 20 false (.pick (t 26) (t 32) (v B)), p 34 (.pick (t 20) (v Y) (t 33)), p 14 (.mov (t 34))])
 (c (t 14) (r [p 35 (.mov (t 0)), p 36 (.call (v (G 49)) [(t 35)])]) (a (r [p 38 (.mov (t 0)), p 39 (.nilCheck (t 38)), p 40 (.fieldAddr 39 (t 39)), p 41 (.load none (t 40)), p 42 (.bin .eql (t 41) (v (I 1))), p 43 (.mov (t 42)), g 44 43 false (.mov (t 0)), g 45 43 false (.nilCheck (t 44)), g 46 43 false (.fieldAddr 39 (t 45)), g 47 43 false (.load none (t 46)), g 48 43 false (.bin .eql (t 47) (v (I 2))), p 49 (.pick (t 43) (v Y) (t 48)), p 50 (.mov (t 49)), g 51 50 false (.mov (t 0)), g 52 50 false (.nilCheck (t 51)), g 53 50 false (.fieldAddr 39 (t 52)), g 54 50 false (.load none (t 53)), g 55 50 false (.bin .eql (t 54) (v (I 5))), p 56 (.pick (t 50) (v Y) (t 55)), p 37 (.mov (t 56))])
 (c (t 37) (r [p 57 (.mov (t 0)), p 58 (.call (v (G 50)) [(t 57), (v (I 1)), (v (I 21))])]) (r [p 12 (.mov (t 0)), p 13 (.call (v (G 50)) [(t 12), (v (I 2)), (v (I 21))])]))))))
 (a (r [p 4 (.mov (v Y))])
 .ret)))))⟩
theorem H10 : funcsOf Tryz.prog [] 10 = some k10 := by kernel_rfl
def k14 : AFn := ⟨26, [(2, none)],
 (a (r [p 2 (.mov (v N))])
 (a (a (r [p 4 (.mov (t 0)), p 5 (.call (v (G 11)) [(t 4)]), p 6 (.bin .neq (t 5) (v (I 1))), p 7 (.mov (t 6)), g 8 7 false (.mov (t 0)), g 9 7 false (.nilCheck (t 8)), g 10 7 false (.fieldAddr 37 (t 9)), g 11 7 false (.load none (t 10)), g 12 7 false (.call (v (G 48)) [(t 11)]), g 13 7 false (.bin .neq (t 12) (v O)), p 14 (.pick (t 7) (v Y) (t 13))])
 (c (t 14) (a (r [p 2 (.mov (v N))])
 .ret) .skip))
 (a (r [p 15 (.mov (t 0)), p 16 (.nilCheck (t 15)), p 17 (.fieldAddr 34 (t 16)), p 18 (.load none (t 17)), p 3 (.mov (t 18))])
 (a (r [p 19 (.mov (t 0)), p 20 (.mov (t 0)), p 21 (.nilCheck (t 19)), p 22 (.fieldAddr 34 (t 21)), q (.store 1 (t 22) (v N)), p 23 (.nilCheck (t 20)), p 24 (.fieldAddr 35 (t 23)), q (.store 1 (t 24) (v E))])
 (a (r [p 25 (.mov (t 3)), p 2 (.mov (t 25))])
 .ret)))))⟩
theorem H14 : funcsOf Tryz.prog [] 14 = some k14 := by kernel_rfl
def T3 : Tbl := (.node 10 k10 (.node 7 k7 .leaf .leaf) (.node 14 k14 .leaf .leaf))
theorem T3_all : T3.All fun f x => funcsOf Tryz.prog [] f = some x := ⟨H10, ⟨H7, trivial, trivial⟩, ⟨H14, trivial, trivial⟩⟩
theorem T3_le : ∀ f x, T3.get f = some x → funcsOf Tryz.prog [] f = some x := fun _ _ e => Tbl.get_all T3_all e
end Go.Proofs.YtjihmonajekomaaGreatDoor.Ax.K
