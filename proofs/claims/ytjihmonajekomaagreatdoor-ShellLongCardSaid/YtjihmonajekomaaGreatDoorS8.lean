/- shell.Run at lines of names; the law ShellLong's own text: true. Conditions: as each theorem states. -/
import Derived.Test.YtjihmonajekomaaGreatDoorS7
namespace Go.Proofs.YtjihmonajekomaaGreatDoor.Ax
open Go
set_option linter.unusedVariables false
set_option linter.unusedSimpArgs false

theorem usual35 {h : AH} {Q : AV → AH → Prop} (q : ∀ (cs : List AV) h', cs.length = 18 → cs.all flat = true → Keep h h' [] → Q (.agg cs) h') : WCall E1 (.fn 35) [] h Q := by
  refine call1 F35 (by decide) (WCode.seq (WCode.region ?_))
  simp [c35, c35_r0]
  refine WCode.seq (WCode.region ?_)
  simp [c35_r1]
  refine BQ.of (store_new (by rfl) (by rfl) (by rfl)) ?_
  simp
  refine WCode.ret ?_
  have hc := cells_row h [.str [97, 98, 117, 116, 109, 101, 110, 116], .str [], .int .i64 1, .int .i64 0, .int .i64 1, .int .i64 1, .int .i64 1024, .int .i64 4096, .int .i64 10, .int .i64 0, .int .i64 8, .int .i64 8, .int .i64 0, .int .i64 8192, .int .i64 100, .int .i64 256, .int .i64 65536, .int .i64 0] 25 true
  simp only [List.length_cons, List.length_nil] at hc
  simp [hc]
  exact q _ _ rfl rfl (Keep.row _ _ _ _ _)

/-- Too long, or too many lines. -/
theorem run34_long {h : AH} {s : List Nat} {Q : AV → AH → Prop} (hl : 20000 < s.length ∨ s.length ≤ 20000 ∧ 300 ≤ cntE 10 s) (q : Q (.tuple [.slice none 0 0 0, .int .i64 4]) h) : WCall E1 (.fn 34) [.str s] h Q := by
  refine call1 F34 (by decide) (WCode.seq (WCode.region ?_))
  simp [c34, c34_r0]
  refine WCode.seq (WCode.seq (WCode.region ?_))
  rcases hl with h1 | ⟨h1, h2⟩
  · have h1' : (20000 : Int) < s.length := by omega
    simp [c34_r1, h1, h1']
    refine WCode.condT (by simp) (WCode.seq (WCode.region ?_))
    simp [c34_r2]
    refine WCode.ret ?_
    simp
    exact q
  · have h1' : ¬ (20000 : Int) < s.length := by omega
    have h2' : (300 : Int) ≤ cntE 10 s := by omega
    have h1'' : ¬ 20000 < s.length := by omega
    simp [c34_r1, h1', h1'']
    refine count86 (by omega) ?_
    simp [h2']
    refine WCode.condT (by simp [h2, h2']) (WCode.seq (WCode.region ?_))
    simp [c34_r2]
    refine WCode.ret ?_
    simp
    exact q

/-- The closure of 'lines', whose text is run with Run's yield. -/
theorem lines158 {h : AH} {en : List AV} {l1 p4 p5 pt : Nat} {ls : List (List Nat)} {last : List Nat} {Q : AV → AH → Prop} (r : RunInv h en l1 p4 p5 [] 0) (hls : ∀ x ∈ ls, Good x) (hla : LastOk last) (hlen : (textOf ls last).length ≤ 20000) (hk : ls.length < 90000)
    (gt : h.get pt = .cells [some (.str (textOf ls last))] 9 pt 0 false false true) (q : ∀ h' M, RunInv h' en l1 p4 p5 M (ls.length + lastN last) → Q (.tuple []) h') :
    WCall E1 (.body 158) [.func (.yield l1) [] [], .ptr (some (pt, 0))] h Q := by
  refine body1 F158 (WCode.seq (WCode.region ?_))
  simp [c158, c158_r0, boxV]
  have k1 := Keep.row h [.func (.yield l1) [] []] 92 true []
  have gc := get_row_new h [.func (.yield l1) [] []] 92 true h.next rfl
  have gt1 := k1.cells gt (cells_lt gt) (by simp)
  have n1 : (h.row [.func (.yield l1) [] []] 92 true).next = h.next + 1 := rfl
  have r1 := r.push k1 (N := [h.next]) (by simpa using Own.cells gc)
  generalize (h.row [.func (.yield l1) [] []] 92 true) = h1 at *
  simp only [List.map_cons, List.map_nil] at gc
  have ct := cell1_of gt1 0
  simp only [List.getElem?_cons_zero] at ct
  refine WCode.seq (WCode.region ?_)
  simp [c158_r1, ct]
  refine split159 fun h2 b1 b2 b3 k2 o1 o2 o3 g1 g2 g3 => ?_
  simp
  have gc2 := k2.cells gc (by omega) (by simp)
  have r2 := r1.push k2 (N := [b1, b2, b3]) (by
    intro x hx
    simp only [List.mem_cons, List.not_mem_nil, or_false] at hx
    rcases hx with rfl | rfl | rfl
    · exact ⟨Own.cells g1, by omega⟩
    · exact ⟨Own.cells g2, by omega⟩
    · exact ⟨Own.cells g3, by omega⟩)
  refine WCode.block (WCode.rangeFunc (g := 355) (first := []) (captured := [.ptr (some (b1, 0)), .ptr (some (b2, 0)), .ptr (some (b3, 0))]) (by simp) ?_)
  have lt1 := cells_lt g1
  have lt2 := cells_lt g2
  have lt3 := cells_lt g3
  have ltc := cells_lt gc2
  refine split355 (M := [h2.next, b1, b2, b3, h.next]) (l2 := h2.next) (c := h.next) ⟨r2.push (Keep.push h2 _ []) (N := [h2.next]) (by simp; exact Own.loop (get_push_new h2 _ h2.next rfl)), rfl, by simp, get_push_new h2 _ h2.next rfl, (Keep.push h2 _ []).cells gc2 (by omega) (by simp), by simp, by simp, by omega⟩ hls hla hlen (by omega) (by simp) (by simp) (by simp) (by omega) (by omega) (by omega) (by omega) (by omega) (by omega)
    ((Keep.push h2 _ []).cells g1 (by omega) (by simp)) ((Keep.push h2 _ []).cells g2 (by omega) (by simp)) ((Keep.push h2 _ []).cells g3 (by omega) (by simp)) fun h' r' => ?_
  refine ⟨_, _, _, _, _, _, r'.l, by omega, ?_⟩
  simp [c158]
  exact q _ _ (by simpa using r'.run.set r'.ml (x := .loop 3 none _ [6] c158_a4 c158_b4) (by simp) rfl)

/-- The closure itself. -/
theorem lines87 {h : AH} {s : List Nat} {Q : AV → AH → Prop} (q : ∀ h' pt, Keep h h' [] → h'.get pt = .cells [some (.str s)] 9 pt 0 false false true → Q (.func (.func 158) [] [.ptr (some (pt, 0))]) h') : WCall E1 (.fn 87) [.str s] h Q := by
  refine call1 F87 (by decide) (WCode.seq (WCode.region ?_))
  simp [c87, c87_r0, boxV]
  refine WCode.seq (WCode.region ?_)
  simp [c87_r1]
  refine WCode.ret ?_
  simp
  exact q _ h.next (Keep.row _ _ _ _ _) (get_row_new _ _ _ _ _ rfl)

set_option maxHeartbeats 1000000 in
/-- Run, at lines of names. -/
theorem run34 {h : AH} {ls : List (List Nat)} {last : List Nat} {Q : AV → AH → Prop} (hls : ∀ x ∈ ls, Good x) (hla : LastOk last) (hlen : (textOf ls last).length ≤ 20000) (hc : ls.length < 300) (q : ∀ a c e h', Q (.tuple [.slice a (ls.length + lastN last) c e, .int .i64 0]) h') :
    WCall E1 (.fn 34) [.str (textOf ls last)] h Q := by
  have hcnt := cnt_text hla.lf ls fun x hx => (hls x hx).lf
  have ht : ¬ (20000 : Int) < (textOf ls last).length := by omega
  have ht' : ¬ 20000 < (textOf ls last).length := by omega
  have hc' : ¬ (300 : Int) ≤ ls.length := by omega
  refine call1 F34 (by decide) (WCode.seq (WCode.region ?_))
  simp [c34, c34_r0]
  refine WCode.seq (WCode.seq (WCode.region ?_))
  simp [c34_r1, ht, ht']
  refine count86 (by omega) ?_
  rw [hcnt]
  simp [hc, hc']
  refine WCode.condF (by simp [hc, hc']) (WCode.skip ?_)
  simp
  refine WCode.seq (WCode.region ?_)
  simp [c34_r3]
  refine usual35 fun cs h1 l1 f1 k1 => ?_
  simp [l1, f1]
  refine BQ.of (store_new (by rfl) (by rfl) (by rfl)) ?_
  simp
  refine WCode.seq (WCode.region ?_)
  simp [c34_r4]
  generalize hbx : h1.row (cs ++ [AV.int .i64 0]) 141 true = h2 at *
  have n2 : h2.next = h1.next + 1 := by rw [← hbx]; rfl
  have g4 := get_row_new h2 [.ptr (some (h1.next, 0))] 139 true h2.next rfl
  have g5 := get_row_new (h2.row [.ptr (some (h1.next, 0))] 139 true) [.slice none 0 0 0] 60 true (h2.next + 1) rfl
  have k5 := Keep.row (h2.row [.ptr (some (h1.next, 0))] 139 true) [.slice none 0 0 0] 60 true []
  have g4' := k5.cells g4 (by simp) (by simp)
  have n5 : ((h2.row [.ptr (some (h1.next, 0))] 139 true).row [.slice none 0 0 0] 60 true).next = h2.next + 2 := rfl
  generalize ((h2.row [.ptr (some (h1.next, 0))] 139 true).row [.slice none 0 0 0] 60 true) = h3 at *
  simp only [List.map_cons, List.map_nil, next_row] at g4' g5
  refine WCode.seq (WCode.seq (WCode.region ?_))
  simp [c34_r5]
  refine lines87 fun h4 pt k4 gt => ?_
  simp
  have n4 := k4.next
  have g44 := k4.cells g4' (by omega) (by simp)
  have g54 := k4.cells g5 (by omega) (by simp)
  refine WCode.block (WCode.rangeFunc (g := 158) (first := []) (captured := [.ptr (some (pt, 0))]) (by simp) ?_)
  have kp := fun b => Keep.push h4 b []
  have lpt := cells_lt gt
  refine lines158 (l1 := h4.next) (p4 := h2.next) (p5 := h2.next + 1) ⟨rfl, by simp [n2], by simp [n2], get_push_new h4 _ h4.next rfl, ⟨_, (kp _).cells g44 (by omega) (by simp)⟩, ⟨.slice none 0 0 0, [], h1.next, rfl, (kp _).cells g54 (by omega) (by simp), ⟨by simp; omega, strC_len, strC_flat, .inl ⟨rfl, 0, rfl⟩⟩, by omega, by omega, by omega, by simp⟩, ⟨by omega, by omega, by omega⟩, by simp⟩ hls hla hlen (by omega) ((kp _).cells gt (by omega) (by simp)) fun h' M r' => ?_
  refine ⟨_, _, _, _, _, _, r'.l, by omega, ?_⟩
  obtain ⟨v, L, F, hL, gv, hs, _, _, _, _⟩ := r'.is
  have key : ∀ tm : List AV, cell1 (h'.set h4.next (.loop 3 none tm [20] c34_a8 c34_b8)) (h2.next + 1) 0 = some v := fun tm => by
    have gv' := (Keep.setAt (Own.loop r'.l) (.loop 3 none tm [20] c34_a8 c34_b8)).cells gv (cells_lt gv) (by simp; omega)
    simpa using cell1_of gv' 0
  rw [n2] at key
  obtain ⟨a, c, e, rfl⟩ := hs.slice
  simp
  refine WCode.seq (WCode.region ?_)
  simp [c34_r9, key]
  refine WCode.ret ?_
  simp
  rw [hL]
  exact q _ _ _ _

/-! ### The law -/
theorem textOf_app (t : List Nat) : ∀ ls : List (List Nat), textOf ls [] ++ t = textOf ls t
  | [] => rfl
  | x :: r => by simp only [textOf, List.append_assoc, List.cons_append, textOf_app t r]
theorem textOf_snoc (x : List Nat) : ∀ ls : List (List Nat), textOf ls (nameL x ++ [10]) = textOf (ls ++ [x]) []
  | [] => rfl
  | y :: r => by simp only [textOf, List.cons_append, textOf_snoc x r]
theorem text_rep (i : Nat) : textOf (List.replicate i [97]) [] ++ [110, 97, 109, 101, 32, 97, 10] = textOf (List.replicate (i + 1) [97]) [] := by
  rw [textOf_app, show [110, 97, 109, 101, 32, 97, 10] = nameL [97] ++ [10] from rfl, textOf_snoc, List.replicate_succ']
theorem text_len (i : Nat) : (textOf (List.replicate i [97]) []).length = 7 * i := by
  induction i with
  | zero => rfl
  | succ i ih => rw [List.replicate_succ, textOf, List.length_append, List.length_cons, ih]; simp [nameL]; omega

theorem goodRep (n b : Nat) (hb : b < 128 ∧ b ≠ 10) (hn : n < 100000 ∧ n ≠ 4 ∧ n ≠ 2 ∧ n ≠ 16 ∧ n ≠ 3) : Good (List.replicate n b) := by
  refine ⟨by rw [List.length_replicate]; omega, fun x hx => by rw [List.eq_of_mem_replicate hx]; omega, fun hx => by have := List.eq_of_mem_replicate hx; omega, fun x hx => ?_⟩
  rw [List.length_replicate]
  simp [specials] at hx
  rcases hx with rfl | rfl | rfl | rfl <;> simp <;> omega
theorem goodA : Good [97] := goodRep 1 97 (by omega) (by omega)
theorem goodZ : Good (List.replicate 19995 0) := goodRep 19995 0 (by omega) (by omega)

theorem nlives33 {h : AH} {Q : AV → AH → Prop} (q : Q (.bool true) h) : NCall Tryz.prog [] (.fn 33) [] h Q :=
  NCall.fresh extS_sound (noMt_ok _) mixed0 (args := []) rfl rfl lives33 q
theorem nofW {ac : ACode} {env : List AV} {h : AH} {Q : AExit → List AV → AH → Prop} (hw : WCode E1 false ac env h Q) : NCode Tryz.prog [] ac env h Q := NCode.ofW extS_sound (noMt_ok _) mixed0 hw
theorem ncall0 {f : FuncId} {args : List AV} {h : AH} {Q : AV → AH → Prop} (hw : WCall E1 (.fn f) args h Q) : NCall Tryz.prog [] (.fn f) args h Q := NCall.ofW extS_sound (noMt_ok _) mixed0 hw
theorem nregion {ops : List AOper} {env : List AV} {h : AH} {Q : AExit → List AV → AH → Prop} (hw : wpOps (NCall Tryz.prog []) noMt ops env h (NQ Q)) : NCode Tryz.prog [] (.region ops false) env h Q := NCode.region (noMt_ok _) hw

set_option maxHeartbeats 1000000 in
theorem law5 {h : AH} {n : Int} : NCall Tryz.prog [] (.fn 5) [.int .i64 n] h fun v _ => v = .bool true := by
  refine NCall.fn F5 ?_
  refine NCode.seq (nregion ?_)
  simp [c5, c5_r0]
  refine NCode.seq (NCode.seq (nregion ?_))
  by_cases h1 : n < 0
  · simp [c5_r1, h1]
    refine NCode.condT (by simp) (NCode.seq (nregion ?_))
    simp [c5_r2]
    refine nlives33 ?_
    simp
    refine NCode.ret ?_
    simp
  by_cases h2 : 400 < n
  · simp [c5_r1, h1, h2]
    refine NCode.condT (by simp) (NCode.seq (nregion ?_))
    simp [c5_r2]
    refine nlives33 ?_
    simp
    refine NCode.ret ?_
    simp
  simp [c5_r1, h1, h2]
  refine NCode.condF (by simp) (NCode.skip ?_)
  simp
  obtain ⟨k, rfl⟩ : ∃ k : Nat, n = k := ⟨n.toNat, by omega⟩
  refine NCode.seq (nregion ?_)
  simp [c5_r3]
  refine NCode.seq (NCode.seq (nregion ?_))
  simp [c5_r4]
  refine NCode.block (NCode.loop (Inv := fun m env h' => m ≤ k ∧ env.length = 78 ∧ slot env 0 = .int .i64 k ∧ slot env 3 = .str (textOf (List.replicate (k - m) [97]) []) ∧ slot env 4 = .int .i64 ((k - m : Nat) : Int)) ?_ k _ _ ⟨Nat.le_refl _, rfl, rfl, by simp [slot_zero, slot_succ, textOf], by simp [slot_zero, slot_succ]⟩)
  rintro m env h ⟨hm, el, e0, e3, e4⟩
  refine NCode.seq (NCode.seq (nregion ?_))
  simp [c5_r5, el, e0, e4]
  cases m with
  | succ m =>
    refine NCode.condT (by simp [el]; omega) (NCode.skip ?_)
    simp
    have ht := text_len (k - (m + 1))
    refine NCode.seq (NCode.block (nregion ?_))
    simp [c5_r6, el, e3, ht, maxText]
    refine ⟨by omega, ?_⟩
    refine nregion ?_
    simp [c5_r7, el, e4]
    refine ⟨m, by omega, by omega, e0, ?_, ?_⟩
    · rw [text_rep, show k - (m + 1) + 1 = k - m by omega]
    · rw [wrap_i64 (by omega) (by omega)]; omega
  | zero =>
    refine NCode.condF (by simp [el]) (NCode.exit ?_)
    simp
    simp only [Nat.sub_zero] at e3 e4
    refine NCode.seq (nregion ?_)
    simp [c5_r9, el, e3]
    by_cases h3 : 300 ≤ k
    · refine ncall0 (run34_long (.inr ⟨by rw [text_len]; omega, by rw [cnt_text (by simp) _ (fun x hx => by rw [List.eq_of_mem_replicate hx]; simp)]; simpa using h3⟩) ?_)
      simp [el]
      refine NCode.seq (NCode.seq (nregion ?_))
      have h3' : (300 : Int) ≤ k := by omega
      simp [c5_r10, el, e0, h3, h3']
      refine NCode.condT (by simp [el]) (NCode.seq (nregion ?_))
      simp [c5_r11, el]
      refine nlives33 ?_
      simp [el]
      refine NCode.ret ?_
      simp [el]
    · refine ncall0 (run34 (fun x hx => by rw [List.eq_of_mem_replicate hx]; exact goodA) (.inl rfl) (by rw [text_len]; omega) (by simp; omega) fun a c e h4 => ?_)
      simp [el, lastN]
      refine NCode.seq (NCode.seq (nregion ?_))
      have h3' : ¬ (300 : Int) ≤ k := by omega
      simp [c5_r10, el, e0, h3, h3']
      refine NCode.condF (by simp [el]) (NCode.skip ?_)
      simp
      refine NCode.seq (nregion ?_)
      have hmod : (k : Int).tmod 2 = 0 ∨ (k : Int).tmod 2 = 1 := by
        rw [Int.tmod_eq_emod_of_nonneg (by omega)]; omega
      obtain ⟨m, hmI, hm0, hm1⟩ : ∃ m : Nat, IntKind.i64.wrap (19995 + (k : Int).tmod 2) = (m : Int) ∧ ((k : Int).tmod 2 = 0 → m = 19995) ∧ ((k : Int).tmod 2 = 1 → m = 19996) := by
        refine ⟨19995 + ((k : Int).tmod 2).toNat, ?_, by omega, by omega⟩
        rw [wrap_i64 (by omega) (by omega)]; omega
      have hmb : 19995 ≤ m ∧ m ≤ 19996 := by
        rcases hmod with h | h
        · have := hm0 h; omega
        · have := hm1 h; omega
      have hmk : mkSliceV h4 [.int .u8 0] 5 1 1 (.int .i64 m) (.int .i64 m) = some (.slice (some (h4.next, 0)) m m 1, h4.row (List.replicate m (.int .u8 0)) 5 true) := by
        rw [mkSliceV_int, if_pos ⟨by omega, by omega, by simp [room]; omega, by simp [maxText]; omega⟩, copies_one]
        simp
      have hby : ofBytesV (h4.row (List.replicate m (.int .u8 0)) 5 true) (.slice (some (h4.next, 0)) m m 1) = some (.str (List.replicate m 0)) := by
        have := (IsSl.rowP h4 5 true (L := List.replicate m (0 : Int)) u8C_len u8C_flat (replicate_u8 m 0)).bytes
        simpa using this
      simp [c5_r12, el, e0, hmI, hmk, hby, maxText]
      refine ⟨by omega, ?_⟩
      have fin : ∀ (x : Int) (b : Bool) (va : AV) (N : Nat) (ca ea : Nat) (aa : Option (Nat × Nat)) (h5 : AH), (x = 0 ∧ N = 1 ∧ (k : Int).tmod 2 = 0 ∨ x = 4 ∧ N = 0 ∧ (k : Int).tmod 2 = 1) → ∀ env5 : List AV, env5.length = 78 → slot env5 6 = .int .i64 0 → slot env5 5 = .slice a k c e → slot env5 0 = .int .i64 k → slot env5 8 = .int .i64 x → slot env5 7 = .slice aa N ca ea →
          NCode Tryz.prog [] (.seq (.region c5_r13 false) .ret) env5 h5 (BodyQ [(2, none)] fun v x => v = AV.bool true) := by
        intro x b va N ca ea aa h5 hx env5 l5 s6 s5 s0 s8 s7
        refine NCode.seq (nregion ?_)
        rcases hx with ⟨rfl, rfl, hk⟩ | ⟨rfl, rfl, hk⟩
        · simp [c5_r13, l5, s6, s5, s0, s8, s7, hk]
          refine nlives33 ?_
          simp [l5]
          refine NCode.ret ?_
          simp [l5]
        · simp [c5_r13, l5, s6, s5, s0, s8, s7, hk]
          refine nlives33 ?_
          simp [l5]
          refine NCode.ret ?_
          simp [l5]
      rcases hmod with hk | hk
      · have hm := hm0 hk
        refine ncall0 (run34 (ls := []) (last := nameL (List.replicate m 0)) (by simp) (.inr ⟨_, rfl, goodRep m 0 (by omega) (by omega)⟩) (by simp [textOf, nameL]; omega) (by simp) fun a' c' e' h5 => ?_)
        simp [el]
        exact fin 0 true .nilFunc 1 c' e' a' h5 (.inl ⟨rfl, rfl, hk⟩) _ (by simp [el]) (by simp [el]) (by simp [el]) (by simp [el, e0]) (by simp [el]) (by simp [el, lastN, nameL])
      · have hm := hm1 hk
        refine ncall0 (run34_long (s := nameL (List.replicate m 0)) (.inl (by simp [nameL]; omega)) ?_)
        simp [el]
        exact fin 4 true .nilFunc 0 0 0 none _ (.inr ⟨rfl, rfl, hk⟩) _ (by simp [el]) (by simp [el]) (by simp [el]) (by simp [el, e0]) (by simp [el]) (by simp [el])
end Go.Proofs.YtjihmonajekomaaGreatDoor.Ax
