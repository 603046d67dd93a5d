/- The clock's example. Conditions: as each theorem states. -/
import Derived.Test.YtkbekibljcdbjaaP12
namespace Go.Proofs.Ytkbekibljcdbjaa.Ax
open Go
set_option linter.unusedVariables false
set_option linter.unusedSimpArgs false

theorem tick_is {l : ML} {now : Int} {s : List Int} {l' : ML} (h : TickOk l now s l') {s' : List Int} (hs : s'.Pairwise (lx (atM l))) (hm : ∀ id, id ∈ s' ↔ ∃ t, mget l id = some t ∧ t ≤ now) : s = s' :=
  lx_unique h.sorted hs fun id => by rw [h.mem id, hm id]

set_option maxHeartbeats 1000000 in
theorem lives34 {h : AH} {Q : AV → AH → Prop} (q : ∀ h', Keep h h' [] → Q (.bool true) h') : NCall Try.prog [] (.fn 34) [] h Q := by
  refine NCall.fn F34 ?_
  refine NCode.seq (nregion ?_)
  simp [c34, c34_r0]
  refine NCode.seq (nregion ?_)
  simp [c34_r1]
  refine ncall0 (new33 (fun e => by omega) fun _ _ h1 p m c k1 g1 hp hm => ?_)
  simp
  refine NCode.seq (nregion ?_)
  simp [c34_r2]
  refine ncall0 (set35 k1 (by omega) fun h2 c2 k2 g2 => ?_)
  simp
  refine NCode.seq (nregion ?_)
  simp [c34_r3]
  refine ncall0 (set35 k2 (by omega) fun h3 c3 k3 g3 => ?_)
  simp
  have hl : mset (mset [] 1 (0 + within 5) c) 2 (0 + within 3) c2 = [(1, 5, c), (2, 3, c2)] := by simp [mset, within]
  rw [hl] at k3
  have n1 := g1.next
  have n2 := g2.next
  have n3 := g3.next
  refine NCode.seq (nregion ?_)
  simp [c34_r4]
  refine tick43 k3 (by omega) (by simp) fun v4 h4 F4 s4 l4 c4 k4 sl4 g4 hF4 t4 => ?_
  have hw3 : (0 : Int) + within 3 = 3 := rfl
  rw [hw3] at k4 t4
  have e4 : s4 = [2] := tick_is t4 (by simp) fun id => by
    simp only [mget, List.mem_singleton]
    constructor
    · rintro rfl; exact ⟨3, by simp, by omega⟩
    · rintro ⟨t, h1, h2⟩
      by_cases c1 : (1 : Int) = id
      · subst c1; simp at h1; omega
      · by_cases c2 : (2 : Int) = id
        · exact c2.symm
        · simp [c1, c2] at h1
  subst e4
  have hg4 : ∀ id, mget l4 id = if id = 1 then some 5 else none := fun id => by
    rw [t4.rest id]
    simp only [mget, List.mem_singleton]
    by_cases c1 : id = 2
    · subst c1; simp
    · by_cases c2 : id = 1
      · subst c2; simp
      · have c1' : ¬ (2 : Int) = id := fun e => c1 e.symm
        have c2' : ¬ (1 : Int) = id := fun e => c2 e.symm
        simp [c1, c2, c1', c2']
  have n4 := g4.next
  simp
  refine NCode.seq (nregion ?_)
  simp [c34_r5]
  refine tick43 k4 (by omega) (by have := t4.len; simp at this; omega) fun v5 h5 F5 s5 l5 c5 k5 sl5 g5 hF5 t5 => ?_
  have hw2 : (3 : Int) + within 2 = 5 := rfl
  rw [hw2] at k5 t5
  have e5 : s5 = [1] := tick_is t5 (by simp) fun id => by
    rw [hg4 id]
    simp only [List.mem_singleton]
    constructor
    · rintro rfl; exact ⟨5, by simp, by omega⟩
    · rintro ⟨t, h1, h2⟩
      by_cases c1 : id = 1
      · exact c1
      · simp [c1] at h1
  subst e5
  have n5 := g5.next
  have hlt := k3.lt
  have sl4' := sl4.keep g5 (by simp; omega)
  simp
  refine NCode.seq (nregion ?_)
  have ka := Keep.row h5 [.int .i64 2] 3 true []
  have sa : IsSl (h5.row [.int .i64 2] 3 true) (.slice (some (h5.next, 0)) 1 1 1) 3 1 intC [2] h5.next := IsSl.one h5 3 (f := intC) (fun _ => rfl) (fun _ => rfl) 2
  simp [c34_r6]
  refine ncall0 (same42 (sl4'.keep ka (by simp)) sa (by simp) rfl ?_)
  simp
  have kb := Keep.row (h5.row [.int .i64 2] 3 true) [.int .i64 1] 3 true []
  have sb : IsSl ((h5.row [.int .i64 2] 3 true).row [.int .i64 1] 3 true) (.slice (some (h5.next + 1, 0)) 1 1 1) 3 1 intC [1] (h5.next + 1) := IsSl.one (h5.row [.int .i64 2] 3 true) 3 (f := intC) (fun _ => rfl) (fun _ => rfl) 1
  refine ncall0 (same42 ((sl5.keep ka (by simp)).keep kb (by simp)) sb (by simp) rfl ?_)
  simp
  refine ncall0 (now44 ((k5.keep ka (by simp) (by simp)).keep kb (by simp) (by simp)) ?_)
  simp
  refine NCode.ret ?_
  simp
  refine q _ ?_
  have q1 : Keep h h3 [] := (g1.trans g2 (U := []) (by simp) (by simp; omega)).trans g3 (by simp) (by simp; omega)
  have q2 : Keep h h5 [] := (q1.trans g4 (U := []) (by simp) (by simp; omega)).trans g5 (by simp) (by simp; omega)
  exact (q2.trans ka (U := []) (by simp) (by simp)).trans kb (by simp) (by simp)
end Go.Proofs.Ytkbekibljcdbjaa.Ax
