/- The walks of DrillDice: what Dice.Next, Dice.Below, New, the reference and the law itself come to, for every seed and slice. Conditions: as each theorem states. -/
import Derived.Test.YtkbekibljcdbjaaRows
import Derived.WalkKit
import Derived.WalkSpells
import Derived.WalkLawsBesides
import Derived.Deep.RegionWith
import Derived.Lib.Hide
namespace Go.Proofs.Ytkbekibljcdbjaa
open Go.RowKit

def nxt (s : Int) : Int := IntKind.u64.wrap (s + 11400714819323198485)
def mixA (z : Int) : Int := IntKind.u64.wrap (bits BinOp.xor IntKind.u64 z (z / 1073741824) * 13787848793156543929)
def mixB (z : Int) : Int := IntKind.u64.wrap (bits BinOp.xor IntKind.u64 z (z / 134217728) * 10723151780598845931)
def mixC (z : Int) : Int := bits BinOp.xor IntKind.u64 z (z / 2147483648)
def zed (s : Int) : Int := mixC (mixB (mixA (nxt s)))

theorem next_nil (w : World) :
    Calls Try.prog 12 #[.pointer none] w fun e w' => e = .returned (.int .u64 0) ∧ w = w' := by
  go_enter Try.func12, Try.ntmps12
  go_wp2
  go_ret
  exact ⟨rfl, rfl⟩

theorem next_any (b : Nat) (s : Int) (w : World) (hc : w.cell? ⟨b, 0, none⟩ = some (.int .u64 s)) (hf : w.frozen? ⟨b, 0, none⟩ = false) :
    Calls Try.prog 12 #[.pointer (some ⟨b, 0, none⟩)] w fun e w' => e = .returned (.int .u64 (zed s)) ∧ w.setCell ⟨b, 0, none⟩ (.int .u64 (nxt s)) = w' := by
  go_enter Try.func12, Try.ntmps12
  go_wp2
  go_ret
  exact ⟨rfl, rfl⟩

theorem quoU (z k : Int) (h : 0 < k) (h2 : k < 18446744073709551616) : IntKind.u64.wrap ((IntKind.u64.wrap z).tdiv k) = IntKind.u64.wrap z / k := by
  have h0 : 0 ≤ IntKind.u64.wrap z ∧ IntKind.u64.wrap z < 18446744073709551616 := by rw [IntKind.wrap_u64]; omega
  rw [Int.tdiv_eq_ediv_of_nonneg h0.1, IntKind.wrap_u64]
  have h3 : 0 ≤ IntKind.u64.wrap z / k := Int.ediv_nonneg h0.1 (by omega)
  have h4 : IntKind.u64.wrap z / k ≤ IntKind.u64.wrap z := Int.ediv_le_self _ h0.1
  omega

theorem refnext_any (s : Int) (w : World) :
    Calls Try.prog 11 #[.int .u64 s] w fun e w' => e = .returned (.tuple #[.int .u64 (nxt s), .int .u64 (zed s)]) ∧ w = w' := by
  have q1 := fun z => quoU z 1073741824 (by decide) (by decide)
  have q2 := fun z => quoU z 134217728 (by decide) (by decide)
  have q3 := fun z => quoU z 2147483648 (by decide) (by decide)
  go_enter Try.func11, Try.ntmps11
  go_wp2
  go_ret2
  exact ⟨rfl, rfl⟩

theorem new_any (s : Int) (w : World) :
    Calls Try.prog 9 #[.int .i64 s] w fun e w' => e = .returned (.pointer (some ⟨w.heap.size, 0, none⟩)) ∧ w.alloc (.cells #[.int .u64 (IntKind.u64.wrap s)] 85) = w' := by
  go_enter Try.func9, Try.ntmps9
  go_wp2
  go_ret
  exact ⟨rfl, rfl⟩

theorem below_small (p : Option Addr) (n : Int) (h : n < 1) (w : World) :
    Calls Try.prog 10 #[.pointer p, .int .i64 n] w fun e w' => e = .returned (.int .i64 0) ∧ w = w' := by
  go_enter Try.func10, Try.ntmps10
  go_wp2
  go_ret
  exact ⟨rfl, rfl⟩

theorem u64_small (n : Int) (h : 1 ≤ n) (h2 : n ≤ 9223372036854775807) : IntKind.u64.wrap n = n := by rw [IntKind.wrap_u64]; omega

theorem below_nil (n : Int) (h : 1 ≤ n) (h2 : n ≤ 9223372036854775807) (w : World) :
    Calls Try.prog 10 #[.pointer none, .int .i64 n] w fun e w' => e = .returned (.int .i64 0) ∧ w = w' := by
  have h3 := u64_small n h h2
  have h4 : (n == 0) = false := by simp; omega
  clear h2
  go_enter Try.func10, Try.ntmps10
  go_wp2_with (go_at_call 12; refine (next_nil _).mono ?_; rintro e w' ⟨rfl, rfl⟩)
  go_ret
  exact ⟨rfl, rfl⟩

def belowOf (s n : Int) : Int := wrap64 ((zed s).tmod n)

theorem below_any (b : Nat) (s n : Int) (h : 1 ≤ n) (h2 : n ≤ 9223372036854775807) (w : World) (hc : w.cell? ⟨b, 0, none⟩ = some (.int .u64 s)) (hf : w.frozen? ⟨b, 0, none⟩ = false) :
    Calls Try.prog 10 #[.pointer (some ⟨b, 0, none⟩), .int .i64 n] w fun e w' => e = .returned (.int .i64 (belowOf s n)) ∧ w.setCell ⟨b, 0, none⟩ (.int .u64 (nxt s)) = w' := by
  have h3 := u64_small n h h2
  have h4 : (n == 0) = false := by simp; omega
  clear h2
  go_enter Try.func10, Try.ntmps10
  go_wp2_with (go_at_call 12; refine (next_any b s _ hc hf).mono ?_; rintro e w' ⟨rfl, rfl⟩)
  go_ret
  exact ⟨rfl, rfl⟩

theorem new_zero (w : World) :
    Calls Try.prog 9 #[.int .i64 0] w fun e w' => e = .returned (.pointer (some ⟨w.heap.size, 0, none⟩)) ∧ w.alloc (.cells #[.int .u64 0] 85) = w' := by
  go_enter Try.func9, Try.ntmps9
  go_wp2
  go_ret
  exact ⟨rfl, rfl⟩

theorem lives_num : zed 0 = 16294208416658607535 := by decide +kernel

theorem lives_any (w : World) :
    Calls Try.prog 13 #[] w fun e w' => e = .returned (.bool true) ∧ Below w.heap.size w w' := by
  have H : Hid (zed 0 = 16294208416658607535) := lives_num
  go_enter Try.func13, Try.ntmps13
  go_wp2_with (first | (go_at_call 9; refine (new_zero _).mono ?_; rintro e w' ⟨rfl, rfl⟩) | (go_at_call 12; refine (next_any w.heap.size 0 _ (by simp) (by simp)).mono ?_; rintro e w' ⟨rfl, rfl⟩))
  go_ret
  refine ⟨?_, ?_⟩
  · rw [H.out]; rfl
  · exact ((Below.refl _ _).alloc (Nat.le_refl _) _)

def DInv (w wr : World) (s : Int) : Prop := Below w.heap.size w wr ∧ wr.cell? ⟨w.heap.size, 0, none⟩ = some (.int .u64 s) ∧ wr.frozen? ⟨w.heap.size, 0, none⟩ = false

theorem below_same (s n : Int) : (belowOf s n != IntKind.i64.wrap ((zed s).tmod n)) = false := by
  simp [belowOf, wrap64, IntKind.wrap_i64]

theorem DInv.start (w : World) (s : Int) : DInv w (w.alloc (.cells #[.int .u64 s] 85)) s :=
  ⟨(Below.refl _ _).alloc (Nat.le_refl _) _, by simp, by simp⟩

theorem DInv.set {w wr : World} {s : Int} (h : DInv w wr s) (t : Int) : DInv w (wr.setCell ⟨w.heap.size, 0, none⟩ (.int .u64 t)) t :=
  ⟨h.1.setCell (Nat.le_refl _) _, World.cell?_setCell_same _ _ _ h.2.1, by simp [World.frozen?_setCell, h.2.2]⟩

theorem DInv.drew {w wr : World} {s : Int} (h : DInv w wr s) : DInv w wr.drew s := ⟨h.1.drew, h.2.1, h.2.2⟩


theorem dice_nil (seed : Int) (w : World) :
    Calls Try.prog 3 #[.int .i64 seed, .slice none 0 0] w fun e w' => e = .returned (.bool true) ∧ Below w.heap.size w w' := by
  go_enter Try.func3, Try.ntmps3
  go_wp2_with (go_at_call 9; refine (new_any _ _).mono ?_; rintro e w' ⟨rfl, rfl⟩)
  go_loopw [6, 24] (fun v i wr => ∃ s : Int, i = .int .i64 0 ∧ v = .int .u64 s ∧ DInv w wr s) (fun _ _ _ => 0)
  case atStart => exact ⟨_, rfl, rfl, DInv.start w _⟩
  case round =>
    obtain ⟨s, rfl, rfl, hI⟩ := hrel
    have hd := hI.2.1
    have hf := hI.2.2
    have HI := Lib.hid hI
    clear hI
    go_wp2_with (first | (go_at_call 11; refine (refnext_any _ _).mono ?_; rintro e w' ⟨rfl, rfl⟩))
    refine (next_any w.heap.size s _ hd hf).mono ?_
    rintro e w' ⟨rfl, rfl⟩
    go_wp2_with (first | (go_at_call 12; refine (next_nil _).mono ?_; rintro e w' ⟨rfl, rfl⟩) | (go_at_call 10; refine (below_nil 5 (by decide) (by decide) _).mono ?_; rintro e w' ⟨rfl, rfl⟩) | (go_at_call 13; refine (lives_any _).mono ?_; rintro e w' ⟨rfl, hb⟩))
    go_ret
    exact ⟨rfl, (HI.out.set _).1.trans (hb.mono (HI.out.set _).1.size)⟩
set_option maxHeartbeats 400000 in
theorem dice_big (seed : Int) (a : Addr) (len cap : Nat) (zs : List Int) (w : World) (ha : ∀ k, k < len → (a.add k).block < w.heap.size)
    (hc : ∀ i, i < len → w.cell? (a.add i) = some (.int .i64 (zs.getD i 0))) (hz : ∀ i, i < len → zs.getD i 0 ≤ 9223372036854775807) (hcap : len ≤ cap)
    (hmin : 60 < len) :
    Calls Try.prog 3 #[.int .i64 seed, .slice (some a) len cap] w fun e w' => e = .returned (.bool true) ∧ Below w.heap.size w w' := by
  go_enter Try.func3, Try.ntmps3
  go_wp2_with (go_at_call 9; refine (new_any _ _).mono ?_; rintro e w' ⟨rfl, rfl⟩)
  go_loopw [6, 24] (fun v i wr => ∃ (k : Nat) (s : Int), k ≤ 60 ∧ i = .int .i64 k ∧ v = .int .u64 s ∧ DInv w wr s) (fun _ i _ => 60 - (intOf i).toNat)
  case atStart => exact ⟨0, _, Nat.zero_le _, rfl, rfl, DInv.start w _⟩
  case round =>
    obtain ⟨k, s, hk, rfl, rfl, hI⟩ := hrel
    have hd := hI.2.1
    have hf := hI.2.2
    by_cases hlt : k < 60
    · have hcell : wr.cell? (a.add k) = some (.int .i64 (zs.getD k 0)) := (hI.1.cell (ha k (by omega))).trans (hc k (by omega))
      have hnz := hz k (by omega)
      obtain ⟨n, hn⟩ : ∃ n, n = zs.getD k 0 := ⟨_, rfl⟩
      rw [← hn] at hcell hnz
      have HI := Lib.hid hI
      clear hn hc hz hI
      by_cases h1 : n < 1
      · have h1' : ((0 : Int) != 0) = false := rfl
        go_wp2_with (go_at_call 10; refine (below_small _ _ h1 _).mono ?_; rintro e w' ⟨rfl, rfl⟩)
        go_roundw
        case rel => exact ⟨k + 1, s, by omega, by go_num, rfl, HI.out⟩
        case measure => simp [intOf]; omega
      · have h3 := u64_small n (by omega) hnz
        have h4 : (n == 0) = false := by simp; omega
        have h5 : 1 ≤ n := by omega
        clear h1
        go_wp2_with (go_at_call 11; refine (refnext_any _ _).mono ?_; rintro e w' ⟨rfl, rfl⟩)
        have hb := below_same s n
        go_region_with (go_at_call 10; refine (below_any w.heap.size s n h5 hnz _ (by simpa using hd) (by simpa using hf)).mono ?_; rintro e w' ⟨rfl, rfl⟩)
        all_goals
          go_wp2
          go_roundw
          case rel => exact ⟨k + 1, nxt s, by omega, by go_num, rfl, by first | exact HI.out.drew.set _ | exact (HI.out.set _).drew⟩
          case measure => simp [intOf]; omega
    · have HI := Lib.hid hI
      clear hI hc hz
      go_wp2_with (first | (go_at_call 11; refine (refnext_any _ _).mono ?_; rintro e w' ⟨rfl, rfl⟩))
      refine (next_any w.heap.size s _ hd hf).mono ?_
      rintro e w' ⟨rfl, rfl⟩
      go_wp2_with (first | (go_at_call 12; refine (next_nil _).mono ?_; rintro e w' ⟨rfl, rfl⟩) | (go_at_call 10; refine (below_nil 5 (by decide) (by decide) _).mono ?_; rintro e w' ⟨rfl, rfl⟩) | (go_at_call 13; refine (lives_any _).mono ?_; rintro e w' ⟨rfl, hb⟩))
      go_ret
      exact ⟨rfl, (HI.out.set _).1.trans (hb.mono (HI.out.set _).1.size)⟩
set_option maxHeartbeats 400000 in
theorem dice_small (seed : Int) (a : Addr) (len cap : Nat) (zs : List Int) (w : World) (ha : ∀ k, k < len → (a.add k).block < w.heap.size)
    (hc : ∀ i, i < len → w.cell? (a.add i) = some (.int .i64 (zs.getD i 0))) (hz : ∀ i, i < len → zs.getD i 0 ≤ 9223372036854775807) (hcap : len ≤ cap)
    (hmin : len ≤ 60) :
    Calls Try.prog 3 #[.int .i64 seed, .slice (some a) len cap] w fun e w' => e = .returned (.bool true) ∧ Below w.heap.size w w' := by
  go_enter Try.func3, Try.ntmps3
  go_wp2_with (go_at_call 9; refine (new_any _ _).mono ?_; rintro e w' ⟨rfl, rfl⟩)
  go_loopw [6, 24] (fun v i wr => ∃ (k : Nat) (s : Int), k ≤ len ∧ i = .int .i64 k ∧ v = .int .u64 s ∧ DInv w wr s) (fun _ i _ => len - (intOf i).toNat)
  case atStart => exact ⟨0, _, Nat.zero_le _, rfl, rfl, DInv.start w _⟩
  case round =>
    obtain ⟨k, s, hk, rfl, rfl, hI⟩ := hrel
    have hd := hI.2.1
    have hf := hI.2.2
    by_cases hlt : k < len
    · have hcell : wr.cell? (a.add k) = some (.int .i64 (zs.getD k 0)) := (hI.1.cell (ha k (by omega))).trans (hc k (by omega))
      have hnz := hz k (by omega)
      obtain ⟨n, hn⟩ : ∃ n, n = zs.getD k 0 := ⟨_, rfl⟩
      rw [← hn] at hcell hnz
      have HI := Lib.hid hI
      clear hn hc hz hI
      by_cases h1 : n < 1
      · have h1' : ((0 : Int) != 0) = false := rfl
        go_wp2_with (go_at_call 10; refine (below_small _ _ h1 _).mono ?_; rintro e w' ⟨rfl, rfl⟩)
        go_roundw
        case rel => exact ⟨k + 1, s, by omega, by go_num, rfl, HI.out⟩
        case measure => simp [intOf]; omega
      · have h3 := u64_small n (by omega) hnz
        have h4 : (n == 0) = false := by simp; omega
        have h5 : 1 ≤ n := by omega
        clear h1
        go_wp2_with (go_at_call 11; refine (refnext_any _ _).mono ?_; rintro e w' ⟨rfl, rfl⟩)
        have hb := below_same s n
        go_region_with (go_at_call 10; refine (below_any w.heap.size s n h5 hnz _ (by simpa using hd) (by simpa using hf)).mono ?_; rintro e w' ⟨rfl, rfl⟩)
        all_goals
          go_wp2
          go_roundw
          case rel => exact ⟨k + 1, nxt s, by omega, by go_num, rfl, by first | exact HI.out.drew.set _ | exact (HI.out.set _).drew⟩
          case measure => simp [intOf]; omega
    · have HI := Lib.hid hI
      clear hI hc hz
      go_wp2_with (first | (go_at_call 11; refine (refnext_any _ _).mono ?_; rintro e w' ⟨rfl, rfl⟩))
      refine (next_any w.heap.size s _ hd hf).mono ?_
      rintro e w' ⟨rfl, rfl⟩
      go_wp2_with (first | (go_at_call 12; refine (next_nil _).mono ?_; rintro e w' ⟨rfl, rfl⟩) | (go_at_call 10; refine (below_nil 5 (by decide) (by decide) _).mono ?_; rintro e w' ⟨rfl, rfl⟩) | (go_at_call 13; refine (lives_any _).mono ?_; rintro e w' ⟨rfl, hb⟩))
      go_ret
      exact ⟨rfl, (HI.out.set _).1.trans (hb.mono (HI.out.set _).1.size)⟩
end Go.Proofs.Ytkbekibljcdbjaa
