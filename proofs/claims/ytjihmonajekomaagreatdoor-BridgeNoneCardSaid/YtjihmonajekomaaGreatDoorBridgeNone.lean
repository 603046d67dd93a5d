/- BridgeNone: the walk by the evaluator, then the law's row (whatever the config and the time, true; they read as they did), then the tied card. Conditions: none beyond the statement's own (the row lists utf8's two tables; the card ties them; the walk reads neither). -/
import Derived.Test.YtjihmonajekomaaGreatDoorRows
import Derived.Test.YtjihmonajekomaaGreatDoorCards
import Derived.Test.YtjihmonajekomaaGreatDoorTie
import Derived.Test.YtjihmonajekomaaGreatDoorL3
import Derived.Test.YtjihmonajekomaaGreatDoorK3
import Derived.WalkKit
import Derived.ProofKit
import Derived.OpenShut
import Derived.ChangeOld
import Derived.Carry
import Derived.Lay
import Derived.LaidOnce
import Derived.SevenTiedAt
namespace Go.Proofs.YtjihmonajekomaaGreatDoor.bridgeNone
open Go.ChangeShapes Go.WideShapes Go.ChangeAt Go.RowKit
set_option linter.unusedVariables false

def laid : List (String × DataW Unit) := [("unicode/utf8.acceptRanges", Rows.laid_unicode_utf8_acceptRanges), ("unicode/utf8.first", Rows.laid_unicode_utf8_first)]
theorem own : ownKnob Tryz.prog.godebug = none := by kernel_rfl
theorem cells25 : Tryz.prog.cellsOf 25 = 18 := by kernel_rfl
theorem cells23 : Tryz.prog.cellsOf 23 = 5 := by kernel_rfl
theorem cells3 : Tryz.prog.cellsOf 3 = 1 := by kernel_rfl
theorem cells9 : Tryz.prog.cellsOf 9 = 1 := by kernel_rfl

section
variable {H : Type} {enc : TypeId × Value → H} {w : World} {base : Nat} {sp : Nat → Bool} {held : Bool}
theorem int_cell {n : Nat} {c : Value} {xs : List (DataW H × List MemPlace)} {j : Nat} (hj : j < xs.length) (h : DataW.trod enc Tryz.prog w base sp held n 3 [c] = xs[j]?) : ∃ m, c = .int .i64 m := by
  rw [List.getElem?_eq_getElem hj] at h
  obtain ⟨m, e, _, _⟩ := DataW.trod_int Tryz.underlying3 h
  simp at e
  exact ⟨m, e⟩
theorem str_cell {n : Nat} {c : Value} {xs : List (DataW H × List MemPlace)} {j : Nat} (hj : j < xs.length) (h : DataW.trod enc Tryz.prog w base sp held n 9 [c] = xs[j]?) : ∃ m : ByteArray, c = .string m := by
  rw [List.getElem?_eq_getElem hj] at h
  obtain ⟨m, e, _, _⟩ := DataW.trod_string Tryz.underlying9 h
  simp at e
  exact ⟨m, e⟩

set_option maxRecDepth 100000 in
theorem cfg_row (n : Nat) (cs : List Value) (x : DataW H × List MemPlace) (h : DataW.trod enc Tryz.prog w base sp held n 25 cs = some x) (hl : cs.length = 18) : ∃ c : Ax.Cf, ∀ φ, Ax.VRs φ (Ax.K.cl c) cs := by
  obtain ⟨xs, k, _, _, _, hlen, hf⟩ := DataW.trod_struct Tryz.underlying25 h
  have hlen' : xs.length = 14 := hlen
  match cs, hl with
  | [v0, v1, v2, v3, v4, v5, v6, v7, v8, v9, v10, v11, v12, v13, v14, v15, v16, v17], _ =>
    have g0 : DataW.trod enc Tryz.prog w base sp held k 9 [v0] = xs[0]? := by have := hf 0 _ rfl; simpa [cells9] using this
    obtain ⟨n0, rfl⟩ := str_cell (by omega) g0
    have g1 : DataW.trod enc Tryz.prog w base sp held k 9 [v1] = xs[1]? := by have := hf 1 _ rfl; simpa [cells9] using this
    obtain ⟨n1, rfl⟩ := str_cell (by omega) g1
    have g2 : DataW.trod enc Tryz.prog w base sp held k 3 [v2] = xs[2]? := by have := hf 2 _ rfl; simpa [cells3] using this
    obtain ⟨n2, rfl⟩ := int_cell (by omega) g2
    have g3 : DataW.trod enc Tryz.prog w base sp held k 3 [v3] = xs[3]? := by have := hf 3 _ rfl; simpa [cells3] using this
    obtain ⟨n3, rfl⟩ := int_cell (by omega) g3
    have g4 : DataW.trod enc Tryz.prog w base sp held k 3 [v4] = xs[4]? := by have := hf 4 _ rfl; simpa [cells3] using this
    obtain ⟨n4, rfl⟩ := int_cell (by omega) g4
    have g5 : DataW.trod enc Tryz.prog w base sp held k 3 [v5] = xs[5]? := by have := hf 5 _ rfl; simpa [cells3] using this
    obtain ⟨n5, rfl⟩ := int_cell (by omega) g5
    have g6 : DataW.trod enc Tryz.prog w base sp held k 3 [v6] = xs[6]? := by have := hf 6 _ rfl; simpa [cells3] using this
    obtain ⟨n6, rfl⟩ := int_cell (by omega) g6
    have g7 : DataW.trod enc Tryz.prog w base sp held k 3 [v7] = xs[7]? := by have := hf 7 _ rfl; simpa [cells3] using this
    obtain ⟨n7, rfl⟩ := int_cell (by omega) g7
    have g8 : DataW.trod enc Tryz.prog w base sp held k 3 [v8] = xs[8]? := by have := hf 8 _ rfl; simpa [cells3] using this
    obtain ⟨n8, rfl⟩ := int_cell (by omega) g8
    have g9 : DataW.trod enc Tryz.prog w base sp held k 3 [v9] = xs[9]? := by have := hf 9 _ rfl; simpa [cells3] using this
    obtain ⟨n9, rfl⟩ := int_cell (by omega) g9
    have g10 : DataW.trod enc Tryz.prog w base sp held k 3 [v10] = xs[10]? := by have := hf 10 _ rfl; simpa [cells3] using this
    obtain ⟨n10, rfl⟩ := int_cell (by omega) g10
    have g11 : DataW.trod enc Tryz.prog w base sp held k 3 [v11] = xs[11]? := by have := hf 11 _ rfl; simpa [cells3] using this
    obtain ⟨n11, rfl⟩ := int_cell (by omega) g11
    have g12 : DataW.trod enc Tryz.prog w base sp held k 3 [v12] = xs[12]? := by have := hf 12 _ rfl; simpa [cells3] using this
    obtain ⟨n12, rfl⟩ := int_cell (by omega) g12
    have g13 := hf 13 _ rfl
    simp [cells23, List.getElem?_eq_getElem (show 13 < xs.length by omega)] at g13
    obtain ⟨ys, k2, _, _, _, hlen2, hf2⟩ := DataW.trod_struct Tryz.underlying23 g13
    have hlen2' : ys.length = 5 := hlen2
    have g13 : DataW.trod enc Tryz.prog w base sp held k2 3 [v13] = ys[0]? := by have := hf2 0 _ rfl; simpa [cells3] using this
    obtain ⟨n13, rfl⟩ := int_cell (by omega) g13
    have g14 : DataW.trod enc Tryz.prog w base sp held k2 3 [v14] = ys[1]? := by have := hf2 1 _ rfl; simpa [cells3] using this
    obtain ⟨n14, rfl⟩ := int_cell (by omega) g14
    have g15 : DataW.trod enc Tryz.prog w base sp held k2 3 [v15] = ys[2]? := by have := hf2 2 _ rfl; simpa [cells3] using this
    obtain ⟨n15, rfl⟩ := int_cell (by omega) g15
    have g16 : DataW.trod enc Tryz.prog w base sp held k2 3 [v16] = ys[3]? := by have := hf2 3 _ rfl; simpa [cells3] using this
    obtain ⟨n16, rfl⟩ := int_cell (by omega) g16
    have g17 : DataW.trod enc Tryz.prog w base sp held k2 3 [v17] = ys[4]? := by have := hf2 4 _ rfl; simpa [cells3] using this
    obtain ⟨n17, rfl⟩ := int_cell (by omega) g17
    exact ⟨⟨n0.data.toList.map UInt8.toNat, n1.data.toList.map UInt8.toNat, n2, n3, n4, n5, n6, n7, n8, n9, n10, n11, n12, n13, n14, n15, n16, n17⟩, fun φ => by
      have hs : ∀ b : ByteArray, Ax.VR φ (.str (b.data.toList.map UInt8.toNat)) (.string b) := fun b => by simp only [Ax.VR]; exact ⟨b, rfl, rfl⟩
      have hi : ∀ m : Int, Ax.VR φ (.int .i64 m) (.int .i64 m) := fun m => by simp [Ax.VR]
      exact Ax.VRs.cons (hs _) (Ax.VRs.cons (hs _) (Ax.VRs.cons (hi _) (Ax.VRs.cons (hi _) (Ax.VRs.cons (hi _) (Ax.VRs.cons (hi _) (Ax.VRs.cons (hi _) (Ax.VRs.cons (hi _) (Ax.VRs.cons (hi _) (Ax.VRs.cons (hi _) (Ax.VRs.cons (hi _) (Ax.VRs.cons (hi _) (Ax.VRs.cons (hi _) (Ax.VRs.cons (hi _) (Ax.VRs.cons (hi _) (Ax.VRs.cons (hi _) (Ax.VRs.cons (hi _) (Ax.VRs.cons (hi _) Ax.VRs.nil)))))))))))))))))⟩
end

theorem walk (c : Ax.Cf) (cs : Array Value) (x : Int) (hc : ∀ φ, Ax.VRs φ (Ax.K.cl c) cs.toList) (W : World) : Calls Tryz.prog 3 #[.agg cs, .int .i64 x] W fun e w' => e = .returned (.bool true) ∧ Below W.heap.size W w' :=
  Ax.ncalls_bool (ifs := []) (Ax.Rel.init Tryz.prog [] W) (Ax.law3 (c := c) (now := x))
    (Ax.VRs.cons (a := .agg (Ax.K.cl c)) (by simp only [Ax.VR]; exact ⟨cs, rfl, hc _⟩) (Ax.VRs.cons (a := .int .i64 x) (by simp [Ax.VR]) Ax.VRs.nil)) ⟨Tryz.f3, Tryz.func3, rfl⟩

set_option maxRecDepth 100000 in
theorem lifted (os : Os) (started : os.Started) (H : Type) (enc : TypeId × Value → H) :
    ReturnsInHanded {} Tryz.checked os 3 .any (fun w args => (Rows.bridgeNoneSpec.pre enc Tryz.prog Tryz.f3 [] false w args ∧ laidMetH Tryz.prog laid w) ∧ sizedMet enc Tryz.prog Tryz.f3 (OpenSpec.ofChange Rows.bridgeNoneSpec) false w args)
      (Rows.bridgeNoneSpec.post enc Tryz.prog Tryz.f3 false true false false) := by
  refine returnsInHanded_of_change_and (C := Tryz.checked) (X := fun w _ => laidMetH Tryz.prog laid w) (fun _ _ _ hh h => h.of_heap hh) own started (by kernel_rfl) Tryz.func3
    (ChangeSpec.witness_shaped (enc := enc) (C := Tryz.checked) (os := os) (X := fun w _ => laidMetH Tryz.prog laid w) false (World.laidAll Tryz.prog os laid) #[.agg #[.string (ByteArray.mk #[]), .string (ByteArray.mk #[]), .int .i64 0, .int .i64 0, .int .i64 0, .int .i64 0, .int .i64 0, .int .i64 0, .int .i64 0, .int .i64 0, .int .i64 0, .int .i64 0, .int .i64 0, .int .i64 0, .int .i64 0, .int .i64 0, .int .i64 0, .int .i64 0], .int .i64 0] 8 (World.laidAll_os _ _ _)
      (World.shaped_of_ZipB (by kernel_rfl) (by kernel_rfl)) (by kernel_rfl) (by kernel_rfl) (by kernel_rfl)
      (by rw [MakeChecks.laidMetH_plain _ _ _ (by kernel_rfl)]; exact laidMet_laidAll _ (by kernel_rfl) (by kernel_rfl))) ?_
  intro W base args ds gs before hval0 hW _ _ hL _
  have hval : ∀ (j : Nat) t v, Tryz.f3.params[j]? = some t → args[j]? = some v → Value.okWide Tryz.prog W .any base t v := hval0
  have hW' := hW
  obtain ⟨p, q, hA0, hV, rfl, _, _⟩ := hW
  have hA : DataW.TrodAll enc Tryz.prog W 0 (fun _ => true) true Tryz.f3.params.toList args.toList ds p := hA0
  rw [Tryz.params3] at hA hval
  obtain ⟨v0, v1, d0, d1, p0, p1, rfl, rfl, rfl, h0, h1⟩ := trodAll_two hA
  obtain ⟨rfl, rfl⟩ := trodVars_none hV
  obtain ⟨x, rfl, rfl, rfl, wx⟩ := open_int Tryz.underlying3 (hval 1 3 v1 rfl rfl) h1
  obtain ⟨cs, rfl, hsz⟩ := okWide_struct Tryz.underlying25 (hval 0 25 v0 rfl rfl)
  have k0 := h0
  have lt0 : ∀ x ∈ p0, x.block < W.heap.size := by obtain ⟨m, hm⟩ := k0; exact DataW.trod_lt m _ _ _ hm
  obtain ⟨m, hm⟩ := h0
  obtain ⟨c, hc⟩ := cfg_row m cs.toList _ hm (by rw [Array.length_toList, hsz, cells25])
  refine (walk c cs x hc W).mono fun e W' ⟨he, hb⟩ => ?_
  subst he
  exact ⟨_, rfl, _, _, _, [], _, [], hW', trodAll_mk1 (shut_bool Tryz.underlying4 _), trodAll_mk2 (Below.trod laidOut (by kernel_rfl) (of_decide_eq_true (by kernel_rfl)) k0 hb lt0) (shut_int Tryz.underlying3 wx), rfl, hb.frame _, fun h => by cases h⟩

theorem over : Rows.BridgeNoneSaid :=
  OpenClaim.holds_of_wide 3 Tryz.f3 rfl rfl rfl rfl rfl rfl rfl ⟨rfl, rfl, rfl, rfl, rfl⟩ rfl rfl rfl rfl rfl fnm Tryz.func3 closed
    (of_decide_eq_true (by kernel_rfl)) (by unfold Func.isWrapper; first | (rw [if_pos (by decide +kernel)]; kernel_rfl) | (rw [if_neg (by decide +kernel)]; exact ⟨rfl, rfl⟩))
    (fun os started H enc _ => lifted os started H enc)

/-- THE STATEMENT: the tied card. -/
theorem proved : Rows.BridgeNoneCardSaid :=
  Claim7.holds_tied_plain_at .later [] [.data, .pinned] true (true, "d0e05ad33adb58585c7ca094888f119bb771ce124a7fca4e85aa374745582a11") true over (fun _ h => by cases h) (by kernel_rfl) (fun _ h => by cases h) bridgeNone_row_tie rfl ⟨rfl, rfl⟩ (by kernel_rfl) rfl
    (fun f fn hf hfn => by
      obtain rfl : f = 3 := Option.some.inj (fnm.symm.trans hf) |>.symm
      obtain rfl : fn = Tryz.f3 := (Option.some.inj (Tryz.func3.symm.trans hfn)).symm
      exact ⟨by kernel_rfl, fun j t ht => by
        rw [Tryz.params3] at ht
        have hm : t ∈ [25, 3] := by simpa using Array.mem_of_getElem? ht
        have hall : ([25, 3].all fun u => !Tryz.prog.wantsStandIn u) = true := by kernel_rfl
        exact (show Tryz.prog.wantsStandIn t = false by simpa using List.all_eq_true.1 hall t hm)⟩)
    goes
#print axioms proved
end Go.Proofs.YtjihmonajekomaaGreatDoor.bridgeNone
