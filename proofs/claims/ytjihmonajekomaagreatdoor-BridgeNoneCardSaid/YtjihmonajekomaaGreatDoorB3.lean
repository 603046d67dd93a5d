/- BridgeNone's example by the kernel, a round of its loop at a time. Conditions: none. -/
import Derived.Test.YtjihmonajekomaaGreatDoorB2
import Derived.Test.YtjihmonajekomaaGreatDoorT6
import Derived.Test.YtjihmonajekomaaGreatDoorG6
namespace Go.Proofs.YtjihmonajekomaaGreatDoor.Ax.K
open Go
def lb6 : ACode := (a (a (r [p 14 (.mov (t 3)), p 15 (.bin .lss (t 14) (v (I 20)))])
 (c (t 15) .skip (.exit 0)))
 (a (.block 1 (a (r [p 18 (.mov (t 2)), p 19 (.nilCheck (t 18)), p 20 (.fieldAddr 18 (t 19)), p 21 (.load none (t 20)), p 22 (.call (v (G 9)) [(t 21), (v O)])])
 (r [p 23 (.mov (t 2)), p 24 (.call (v (G 38)) [(t 23)])])))
 (r [p 16 (.mov (t 3)), p 17 (.bin .add (t 16) (v (I 1))), p 3 (.mov (t 17))])))
noncomputable def C6 : Callee := acall T6.get libS noMt 1000 60
def pre6 : ACode := .seq (.seq (.seq (.seq (.seq (r [p 0 (.mov (v B))]) (r [p 4 (.call (v (G 35)) []), p 1 (.alloc [E, E, O, O, O, O, O, O, O, O, O, O, O, O, O, O, O, O] 25), q (.store 18 (t 1) (t 4))])) (r [p 5 (.load (some 18) (t 1)), p 6 (.call (v (G 36)) [(t 5)]), p 2 (.mov (t 6))])) (a (r [p 7 (.mov (t 2)), p 8 (.eq false .ptr (t 7) (v N))])
 (c (t 8) (a (r [p 0 (.mov (v B))])
 .ret) .skip))) (r [p 9 (.mov (t 2)), p 10 (.nilCheck (t 9)), p 11 (.fieldAddr 19 (t 10)), p 12 (.load none (t 11)), p 13 (.call (v (G 37)) [(t 12), (v (S [71, 69, 84, 32, 47, 32, 72, 84, 84, 80, 47, 49, 46, 49, 13, 10, 72, 111, 115, 116, 58, 32, 97, 13, 10, 13, 10]))])])) (r [p 3 (.mov (v O))])
def rest6 : ACode := (a (r [p 25 (.mov (t 2)), p 26 (.nilCheck (t 25)), p 27 (.fieldAddr 20 (t 26)), p 28 (.load none (t 27)), p 29 (.lenSlice (t 28)), p 30 (.bin .eql (t 29) (v (I 1))), p 31 (.mov (t 30)), g 32 31 true (.mov (t 2)), g 33 31 true (.nilCheck (t 32)), g 34 31 true (.fieldAddr 20 (t 33)), g 35 31 true (.load none (t 34)), g 36 31 true (.idxAddr 1 (t 35) (v O)), g 37 31 true (.load none (t 36)), g 38 31 true (.call (v (G 39)) [(t 37), (v (I 1000))]), g 39 31 true (.bin .eql (t 38) (v (S [71, 69, 84, 32, 47, 32, 72, 84, 84, 80, 47, 49, 46, 49, 13, 10, 72, 111, 115, 116, 58, 32, 97, 13, 10, 86, 105, 97, 58, 32, 49, 46, 49, 32, 97, 98, 117, 116, 109, 101, 110, 116, 13, 10, 13, 10]))), p 40 (.pick (t 31) (t 39) (v B)), p 41 (.mov (t 40)), g 42 41 true (.mov (t 2)), g 43 41 true (.nilCheck (t 42)), g 44 41 true (.fieldAddr 18 (t 43)), g 45 41 true (.load none (t 44)), g 46 41 true (.call (v (G 11)) [(t 45)]), g 47 41 true (.bin .eql (t 46) (v (I 6))), p 48 (.pick (t 41) (t 47) (v B)), p 0 (.mov (t 48))])
 .ret)
theorem pre6_0 : acode noMt C6 1000 false pre6 (List.replicate 49 .undef) H0 = some (.normal, be0, bh0) := by kernel_rfl
theorem it6_0 : acode noMt C6 1000 false lb6 be0 bh0 = some (.normal, be1, bh1) := by kernel_rfl
theorem it6_1 : acode noMt C6 1000 false lb6 be1 bh1 = some (.normal, be2, bh2) := by kernel_rfl
theorem it6_2 : acode noMt C6 1000 false lb6 be2 bh2 = some (.normal, be3, bh3) := by kernel_rfl
theorem it6_3 : acode noMt C6 1000 false lb6 be3 bh3 = some (.normal, be4, bh4) := by kernel_rfl
theorem it6_4 : acode noMt C6 1000 false lb6 be4 bh4 = some (.normal, be5, bh5) := by kernel_rfl
theorem it6_5 : acode noMt C6 1000 false lb6 be5 bh5 = some (.normal, be6, bh6) := by kernel_rfl
theorem it6_6 : acode noMt C6 1000 false lb6 be6 bh6 = some (.normal, be7, bh7) := by kernel_rfl
theorem it6_7 : acode noMt C6 1000 false lb6 be7 bh7 = some (.normal, be8, bh8) := by kernel_rfl
theorem it6_8 : acode noMt C6 1000 false lb6 be8 bh8 = some (.normal, be9, bh9) := by kernel_rfl
theorem it6_9 : acode noMt C6 1000 false lb6 be9 bh9 = some (.normal, be10, bh10) := by kernel_rfl
theorem it6_10 : acode noMt C6 1000 false lb6 be10 bh10 = some (.normal, be11, bh11) := by kernel_rfl
theorem it6_11 : acode noMt C6 1000 false lb6 be11 bh11 = some (.normal, be12, bh12) := by kernel_rfl
theorem it6_12 : acode noMt C6 1000 false lb6 be12 bh12 = some (.normal, be13, bh13) := by kernel_rfl
theorem it6_13 : acode noMt C6 1000 false lb6 be13 bh13 = some (.normal, be14, bh14) := by kernel_rfl
theorem it6_14 : acode noMt C6 1000 false lb6 be14 bh14 = some (.normal, be15, bh15) := by kernel_rfl
theorem it6_15 : acode noMt C6 1000 false lb6 be15 bh15 = some (.normal, be16, bh16) := by kernel_rfl
theorem it6_16 : acode noMt C6 1000 false lb6 be16 bh16 = some (.normal, be17, bh17) := by kernel_rfl
theorem it6_17 : acode noMt C6 1000 false lb6 be17 bh17 = some (.normal, be18, bh18) := by kernel_rfl
theorem it6_18 : acode noMt C6 1000 false lb6 be18 bh18 = some (.normal, be19, bh19) := by kernel_rfl
theorem it6_19 : acode noMt C6 1000 false lb6 be19 bh19 = some (.normal, be20, bh20) := by kernel_rfl
theorem it6_20 : (acode noMt C6 1000 false lb6 be20 bh20).map (fun r => (r.1, r.2.2)) = some (.exit 0, bh20) := by kernel_rfl
theorem end6 : (match acode noMt C6 1000 false lb6 be20 bh20 with
    | some (.exit 0, env, h) => (match acode noMt C6 1000 false rest6 env h with
      | some (.ret, env', h') => (resultsOf env' h' [(0, none)]).map oneOrTuple
      | _ => none)
    | _ => none) = some (.bool true) := by kernel_rfl
end Go.Proofs.YtjihmonajekomaaGreatDoor.Ax.K
