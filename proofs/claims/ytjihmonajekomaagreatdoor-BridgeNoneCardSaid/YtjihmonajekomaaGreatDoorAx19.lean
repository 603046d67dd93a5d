/- Code and calls: what the evaluator computes of a function is what the function does. Conditions: as each theorem states. -/
import Derived.Test.YtjihmonajekomaaGreatDoorAx18
namespace Go.Proofs.YtjihmonajekomaaGreatDoor.Ax
open Go Go.RowKit
set_option linter.unusedVariables false

theorem optAll_get {α β : Type} {f : α → Option β} : ∀ {l : List α} {r : List β}, optAll (l.map f) = some r → r.length = l.length ∧ ∀ (i : Nat) (x : α), l[i]? = some x → ∃ y, r[i]? = some y ∧ f x = some y
  | [], r, h => by simp [optAll] at h; subst h; exact ⟨rfl, fun i x h => by simp at h⟩
  | x :: l, r, h => by
    obtain ⟨a, r', h1, h2, rfl⟩ := optAll_cons h
    obtain ⟨h3, h4⟩ := optAll_get h2
    refine ⟨by simp [h3], fun i y hy => ?_⟩
    cases i with
    | zero => simp at hy; subst hy; exact ⟨a, rfl, h1⟩
    | succ i => simpa using h4 i y (by simpa using hy)

section
variable {P : Program} {ifs : List TypeId} {φ0 : Emb} {w0 wS : World} {mt : Methods} {call : Callee} {ops : Array Oper} {l : List AOper}

theorem zip_get {α β : Type} {a : List α} {b : List β} {i : Nat} {x : α} {y : β} (h1 : a[i]? = some x) (h2 : b[i]? = some y) : (a.zip b)[i]? = some (x, y) := by
  simp [List.getElem?_zip_eq_some, h1, h2]

theorem cRegion_plain (hc : cRegion P ifs ops false = some l) : RegionOk P ifs ops l := by
  unfold cRegion at hc
  split at hc
  case h_2 => cases hc
  rename_i aops gs h1 h2
  simp only [Bool.false_eq_true, if_false, Option.some.injEq] at hc
  obtain ⟨a1, a2⟩ := optAll_get h1
  obtain ⟨g1, g2⟩ := optAll_get h2
  subst hc
  simp only [Array.length_toList] at a1 g1
  refine ⟨by simp [a1, g1], fun i o ao ho hao => ?_⟩
  obtain ⟨p, hp, hcp⟩ := a2 i o (by simpa using ho)
  obtain ⟨g, hg, hcg⟩ := g2 i o (by simpa using ho)
  have hz : (ops.toList.zip (aops.zip gs))[i]? = some (o, p, g) := zip_get (by simpa using ho) (zip_get hp hg)
  simp only [List.getElem?_map, hz, Option.map_some, Option.some.injEq] at hao
  subst hao
  exact ⟨by simpa using hcp.symm, rfl, hcg⟩

theorem cRegion_draw (hc : cRegion P ifs ops true = some l) : DrawOk P ifs ops l := by
  unfold cRegion at hc
  split at hc
  case h_2 => cases hc
  rename_i aops gs h1 h2
  simp only [if_true] at hc
  split at hc
  case isFalse => cases hc
  rename_i hok
  simp only [Bool.and_eq_true] at hok
  obtain ⟨⟨hslots, hedges⟩, hlates⟩ := hok
  simp only [Option.some.injEq] at hc
  obtain ⟨a1, a2⟩ := optAll_get h1
  obtain ⟨g1, g2⟩ := optAll_get h2
  simp only [Array.length_toList] at a1 g1
  have key : ∀ i ao, l[i]? = some ao → ∃ o p g, ops[i]? = some o ∧ aops[i]? = some p ∧ some (cOpS P ifs o) = some p ∧ cGuard ops o.guard = some g ∧
      ao = ({ dst := o.dst, op := p, guard := g, names := tmpsOf o.op.operands, lo := ((strongs aops).filter fun s => ((bef ops.toList []).getD i 0).testBit s && !isLate aops (bef ops.toList []) s).length, hi := ((strongs aops).filter fun s => !((bef ops.toList []).getD s 0).testBit i).length, late := isLate aops (bef ops.toList []) i } : AOper) := by
    intro i ao hao
    rw [← hc] at hao
    simp only [List.getElem?_map, Option.map_eq_some_iff] at hao
    obtain ⟨⟨⟨o, p, g⟩, j⟩, hz, rfl⟩ := hao
    simp only [List.getElem?_zipIdx, Option.map_eq_some_iff, Nat.zero_add, Prod.mk.injEq] at hz
    obtain ⟨x, hz, e1, rfl⟩ := hz
    subst e1
    rw [List.getElem?_zip_eq_some] at hz
    obtain ⟨hz1, hz2⟩ := hz
    rw [List.getElem?_zip_eq_some] at hz2
    obtain ⟨hz2, hz3⟩ := hz2
    obtain ⟨p2, hp2, hcp⟩ := a2 i o hz1
    obtain ⟨g2', hg2, hcg⟩ := g2 i o hz1
    simp only at hz2 hz3
    rw [hz2] at hp2; rw [hz3] at hg2
    simp at hp2 hg2
    subst hp2; subst hg2
    exact ⟨o, p, g, by simpa using hz1, hz2, hcp, hcg, rfl⟩
  have hlen : l.length = ops.size := by rw [← hc]; simp [a1, g1]
  have hmap : l.map (·.op) = aops := by
    refine List.ext_getElem? fun i => ?_
    rw [List.getElem?_map]
    cases e : l[i]? with
    | none =>
      have := List.getElem?_eq_none_iff.1 e
      rw [List.getElem?_eq_none (by omega)]; rfl
    | some ao =>
      obtain ⟨o, p, g, _, hp, _, _, rfl⟩ := key i ao e
      rw [hp]; rfl
  have hcnt : ∀ (S : Nat → Bool), ((strongs aops).filter S).length = cntS (l.map (·.op)) 0 S := by
    intro S
    rw [hmap, ← strongs_count S aops 0, List.countP_eq_length_filter]; rfl
  have hlt : ∀ k, k < l.length → lt l k = isLate aops (bef ops.toList []) k := by
    intro k hk
    obtain ⟨o, p, g, _, _, _, _, e⟩ := key k l[k] (by simp [hk])
    rw [lt_of (by simp [hk] : l[k]? = some l[k]), e]
  have hmem : ∀ (k : Nat), sg l k = true → k ∈ strongs aops := by
    intro k hs
    unfold sg at hs
    split at hs
    case h_2 => cases hs
    rename_i z hz
    unfold strongs
    simp only [List.mem_map, List.mem_filter]
    exact ⟨(z.op, k), ⟨by rw [List.mem_zipIdx_iff_getElem?, ← hmap]; simp [hz], hs⟩, rfl⟩
  have hsl : ∀ k, sg l k = true → k < l.length := by
    intro k hs
    unfold sg at hs
    split at hs
    · rename_i z hz; exact (List.getElem?_eq_some_iff.1 hz).1
    · cases hs
  have hal : ∀ k, lt l k = true → ∃ o p, ops[k]? = some o ∧ aops[k]? = some p ∧ p.isAlloc = true ∧ sg l k = true := by
    intro k hk
    obtain ⟨ao, hao, hl⟩ := lt_spec hk
    obtain ⟨o, p, g, ho, hp, _, _, e⟩ := key k ao hao
    rw [e] at hl
    simp only [isLate, hp, Bool.and_eq_true] at hl
    exact ⟨o, p, ho, hp, hl.1, by rw [sg_of hao, e]; exact isAlloc_strong hl.1⟩
  unfold latesOk at hlates
  simp only [Bool.and_eq_true] at hlates
  obtain ⟨hch, hgs⟩ := hlates
  have hG : ∀ g, lt l g = true → g ∈ (strongs aops).filter (isLate aops (bef ops.toList [])) := by
    intro g hg
    obtain ⟨_, _, _, _, _, hs⟩ := hal g hg
    exact List.mem_filter.2 ⟨hmem g hs, by rw [← hlt g (lt_lt hg)]; exact hg⟩
  have hgs' := fun g hg => List.all_eq_true.1 hgs g (hG g hg)
  refine ⟨⟨hlen, fun i o ao ho hao => ?_⟩, fun i o ao ho hao => ?_, fun i ao hao => ?_, fun i ao hao => ?_, ?_, ?_, ?_, ?_, ?_, ?_, ?_⟩
  · obtain ⟨o', p, g, ho', hp, hcp, hcg, rfl⟩ := key i ao hao
    rw [ho] at ho'; simp at ho'; subst ho'
    exact ⟨by simpa using hcp.symm, rfl, hcg⟩
  · obtain ⟨o', p, g, ho', hp, hcp, hcg, rfl⟩ := key i ao hao
    rw [ho] at ho'; simp at ho'; subst ho'
    rfl
  · obtain ⟨o', p, g, ho', hp, hcp, hcg, rfl⟩ := key i ao hao
    dsimp only
    rw [hcnt]
    exact cnt_congr fun k hk _ => by rw [hlt k hk]
  · obtain ⟨o', p, g, ho', hp, hcp, hcg, rfl⟩ := key i ao hao
    exact hcnt _
  · intro j o t i p ho ht hp hpd hij
    unfold slotsOk at hslots
    rw [List.all_eq_true] at hslots
    have e1 := hslots (o, j) (by rw [List.mem_zipIdx_iff_getElem?]; simpa using ho)
    simp only [List.all_eq_true] at e1
    have e2 := e1 t ht (p, i) (by rw [List.mem_zipIdx_iff_getElem?]; simpa using hp)
    simp only [hpd, Bool.or_eq_true, bne_self_eq_false, Bool.false_eq_true, false_or, beq_iff_eq] at e2
    exact e2.resolve_left hij
  · intro j o e ho he hb
    unfold edgesOk at hedges
    rw [List.all_eq_true] at hedges
    have e1 := hedges (o, j) (by rw [List.mem_zipIdx_iff_getElem?]; simpa using ho)
    simp only [List.all_eq_true] at e1
    have e2 := e1 e he
    simpa [hb] using e2
  · intro i j sx sy lx ly hij
    rw [List.all_eq_true] at hch
    have e1 := hch i (hmem i sx)
    rw [List.all_eq_true] at e1
    have e2 := e1 j (hmem j sy)
    rw [← hlt i (hsl i sx), ← hlt j (hsl j sy), lx, ly] at e2
    simp only [Bool.or_false, Bool.or_eq_true, decide_eq_true_eq] at e2
    exact e2.resolve_left (by omega)
  · intro i ao hao hl
    obtain ⟨o, p, g, ho, hp, hcp, hcg, e⟩ := key i ao hao
    have hlti : lt l i = true := by rw [lt_of hao]; exact hl
    obtain ⟨o2, p2, ho2, hp2, ha2, _⟩ := hal i hlti
    rw [hp] at hp2; simp at hp2; subst hp2
    have e1 := hgs' i hlti
    simp only [Bool.and_eq_true] at e1
    have e2 := e1.1.1
    rw [ho] at e2
    simp only [Option.isNone_iff_eq_none] at e2
    rw [e]
    refine ⟨ha2, ?_⟩
    rw [e2] at hcg
    simpa [cGuard] using hcg.symm
  · intro s g g' hs hls hg hg'
    have e1 := hgs' g hg
    simp only [Bool.and_eq_true] at e1
    have e2 := List.all_eq_true.1 e1.1.2 s (hmem s hs)
    rw [← hlt s (hsl s hs), hls] at e2
    simp only [Bool.false_or, Bool.and_eq_true] at e2
    have e3 := List.all_eq_true.1 e2.1 g' (hG g' hg')
    simp only [beq_iff_eq, decide_eq_decide] at e3
    exact e3
  · intro s g hs hls hg hgs1
    have e1 := hgs' g hg
    simp only [Bool.and_eq_true] at e1
    have e2 := List.all_eq_true.1 e1.1.2 s (hmem s hs)
    rw [← hlt s (hsl s hs), hls] at e2
    simp only [Bool.false_or, Bool.and_eq_true, Bool.or_eq_true, decide_eq_true_eq] at e2
    exact e2.2.resolve_left (by omega)
  · intro g j y o t hy hyl hyd ho ht hjg s hs
    have hlg : lt l g = true := by rw [lt_of hy]; exact hyl
    have e1 := hgs' g hlg
    simp only [Bool.and_eq_true] at e1
    have e2 := List.all_eq_true.1 e1.2 (o, j) (by rw [List.mem_zipIdx_iff_getElem?]; simpa using ho)
    obtain ⟨o2, p2, g2', ho2, _, _, _, ey⟩ := key g y hy
    simp only [Bool.or_eq_true, beq_iff_eq] at e2
    have e3 := e2.resolve_left (by
      rintro (h | h)
      · exact hjg h
      · simp only [Bool.not_eq_true', List.any_eq_false] at h
        refine h t ht ?_
        rw [ho2]
        simp only [beq_iff_eq]
        rw [ey] at hyd; exact hyd)
    simp only [ag, Bool.and_eq_true, Bool.or_eq_true] at hs
    have e4 := List.all_eq_true.1 e3 s (hmem s hs.1)
    simp only [Bool.or_eq_true, Bool.and_eq_true, Bool.not_eq_true', decide_eq_true_eq] at e4
    refine e4.resolve_left ?_
    rintro ⟨h3, h4⟩
    rw [← hlt s (hsl s hs.1)] at h3
    rcases hs.2 with h5 | h5
    · rw [h3] at h5; cases h5
    · obtain ⟨_, g', _, hg', hsg'⟩ := isA_iff.1 h5
      have e5 := List.all_eq_true.1 e1.1.2 s (hmem s hs.1)
      rw [← hlt s (hsl s hs.1), h3] at e5
      simp only [Bool.false_or, Bool.and_eq_true] at e5
      have e6 := List.all_eq_true.1 e5.1 g' (hG g' hg')
      simp only [beq_iff_eq, decide_eq_decide] at e6
      have := e6.2 hsg'
      omega

/-- A REGION. -/
theorem region_wp {rd : Option Nat} (hcs : CallSound P ifs call) (hmt : MtOk P mt) (hmix : P.follows .mixedOrders = true) {id : Nat} {draw : Bool} (hc : cRegion P ifs ops draw = some l) {env : List AV} {h : AH} {env' : List AV} {h' : AH} (hrun : runRegion mt call l draw env h = some (env', h'))
    {φ : Emb} {w : World} {a : Act} (hE : VRs φ env a.tmps.toList) (hr : Rel P ifs φ w0 h w) {Q : Exit → Act → World → Prop} (hQ : ∀ φ' w' a', VRs φ' env' a'.tmps.toList → a'.defers = a.defers → Rel P ifs φ' w0 h' w' → Stp φ φ' w w' → Q .normal a' w') :
    (Code.region id ops draw).wpIn (FW rd) 0 P Q a w := by
  unfold runRegion at hrun
  cases draw with
  | false =>
    simp only [Bool.false_eq_true, if_false] at hrun
    refine wpIn_region ?_
    rw [List.range_eq_range']
    exact inorder_wp hcs hmt (cRegion_plain hc) ops.size 0 (by omega) env h env' h' (by simpa using hrun) φ w a hE hr hQ
  | true =>
    simp only [if_true] at hrun
    split at hrun
    case h_2 => cases hrun
    rename_i env1 h1 hs cs hd
    split at hrun
    case isFalse => cases hrun
    rename_i hchk
    simp only [Option.some.injEq, Prod.mk.injEq] at hrun
    obtain ⟨rfl, rfl⟩ := hrun
    obtain ⟨c', _, _, k3, k4, k5⟩ := runDraw_tr l env h [h] [] _ _ _ _ 0 hd rfl rfl
    obtain ⟨⟨t, kt⟩, _⟩ := (show (∃ t, hs = [h] ++ t) ∧ True from ⟨by obtain ⟨c'', k1, _⟩ := runDraw_tr l env h [h] [] _ _ _ _ 0 hd rfl rfl; exact k1, trivial⟩)
    obtain ⟨E, V, C, e0, c0, e1, c1, hst⟩ := Tr.fun k5
    have hok := cRegion_draw hc
    refine wpIn_region_any hmix ?_
    subst e0
    have hg : ∀ k, (Array.replicate ops.size false).getD k false = false := by
      intro k
      rw [Array.getD_eq_getD_getElem?, Array.getElem?_replicate]; split <;> rfl
    refine draw_any (a0 := a) (φ0 := φ) (wS := w) (w0 := w0) hcs hmt hok c0 hst hchk hr.below.size (by rw [c1]; exact k4) (fun φ' w' a' q1 q2 q3 q4 => hQ φ' w' a' (by rw [← e1]; exact q1) q2 q3 q4) ops.size _ φ a _ ?_ ?_
    · refine ⟨by simp, fun i j hi => (by rw [hg] at hi; cases hi), ⟨h, ?_, hr.of_heap rfl rfl rfl rfl⟩, Stp.drawn rfl, ?_, fun t ht _ => ?_, rfl, fun _ => ⟨fun _ => 0, fun _ => 0, fun _ => default, fun _ => undef, fun g y _ _ hL => (by rw [hg] at hL; cases hL), fun g g' _ _ hL => (by rw [hg] at hL; cases hL), fun g _ hL => (by rw [hg] at hL; cases hL)⟩⟩
      · have e3 := cntS_zero (l.map (·.op)) 0 0 (Nat.le_refl _)
        have e4 := cntS_congr (S := fun k => (Array.replicate ops.size false).getD k false) (S' := fun k => decide (k < 0)) (l.map (·.op)) 0 (fun k x _ _ => by rw [Nat.zero_add, hg]; simp)
        have e5 := cntS_congr (S := fun k => (Array.replicate ops.size false).getD k false && isA l k) (S' := fun k => decide (k < 0)) (l.map (·.op)) 0 (fun k x _ _ => by rw [Nat.zero_add, hg]; simp)
        have : hidx l (fun k => (Array.replicate ops.size false).getD k false) = 0 := by
          unfold hidx
          split
          · rw [e4, e3]
          · rw [e5, e3]
        rw [this, kt]; rfl
      · have := hE.len; simp at this; exact this.symm
      · have e2 : valAt l V (E 0) (fun k => (Array.replicate ops.size false).getD k false) ops.size t = (E 0).getD t .undef := by
          rw [valAt_none (i := 0) ops.size (by omega) (fun k _ _ _ => hg k)]; rfl
        rw [e2]
        exact opds_of hE (.tmp t) (.tmp t) rfl
    · rw [Array.toList_replicate, List.countP_replicate]; simp

def exOf : AExit → Exit
  | .normal => .normal
  | .exit id => .exit id
  | .ret => .ret

/-- Marks of ranges over functions, among the deferred calls: blocks of their own that nobody knows. -/
def Marks (φ : Emb) (wS w : World) : List Deferred → Prop
  | [] => True
  | d :: ms => (∃ r, d = { target := .collected r, args := #[] } ∧ wS.heap.size ≤ r ∧ w.heap[r]? = some (.deferred (some [])) ∧ (∀ j co N, φ j ≠ some (r, co, N)) ∧ (∀ d' ∈ ms, d' ≠ d)) ∧ Marks φ wS w ms

def DfrR (φ : Emb) (wS w : World) (a a' : Act) : Prop := ∃ ms, a'.defers = ms ++ a.defers ∧ Marks φ wS w ms

theorem DfrR.refl {φ : Emb} {wS w : World} {a a' : Act} (h : a'.defers = a.defers) : DfrR φ wS w a a' := ⟨[], by simpa using h, trivial⟩

theorem Marks.keep {φ φ' : Emb} {wS w w' : World} (hs : Stp φ φ' w w') : ∀ {ms : List Deferred}, Marks φ wS w ms → Marks φ' wS w' ms
  | [], _ => trivial
  | d :: ms, h => by
    obtain ⟨⟨r, e, h1, h2, h3, h4⟩, h5⟩ := h
    have hr : r < w.heap.size := (Array.getElem?_eq_some_iff.1 h2).1
    refine ⟨⟨r, e, h1, (hs.keep r hr h3).trans h2, fun j co N hj => ?_, h4⟩, h5.keep hs⟩
    obtain ⟨j', co', N', hj'⟩ := hs.rng j r co N hj hr
    exact h3 _ _ _ hj'

theorem Marks.lower {φ : Emb} {wS wS' w : World} (h : wS'.heap.size ≤ wS.heap.size) : ∀ {ms : List Deferred}, Marks φ wS w ms → Marks φ wS' w ms
  | [], _ => trivial
  | d :: ms, hm => by
    obtain ⟨⟨r, e, h1, h2⟩, h5⟩ := hm
    exact ⟨⟨r, e, Nat.le_trans h h1, h2⟩, h5.lower h⟩

theorem Marks.ge {φ : Emb} {wS w : World} : ∀ {ms : List Deferred}, Marks φ wS w ms → ∀ d ∈ ms, ∃ r, d = { target := .collected r, args := #[] } ∧ wS.heap.size ≤ r ∧ r < w.heap.size
  | [], _, d, hd => by simp at hd
  | x :: ms, hm, d, hd => by
    obtain ⟨⟨r, e, h1, h2, _⟩, h5⟩ := hm
    rcases List.mem_cons.1 hd with rfl | hd
    · exact ⟨r, e, h1, (Array.getElem?_eq_some_iff.1 h2).1⟩
    · exact h5.ge d hd

theorem Marks.append {φ : Emb} {wS w1 w : World} (hle : wS.heap.size ≤ w1.heap.size) : ∀ {ms ns : List Deferred}, Marks φ w1 w ms → Marks φ wS w ns → (∀ d ∈ ns, ∃ r, d = { target := .collected r, args := #[] } ∧ r < w1.heap.size) → Marks φ wS w (ms ++ ns)
  | [], ns, _, hn, _ => hn
  | d :: ms, ns, hm, hn, hlt => by
    obtain ⟨⟨r, e, h1, h2, h3, h4⟩, h5⟩ := hm
    refine ⟨⟨r, e, Nat.le_trans hle h1, h2, h3, fun d' hd' => ?_⟩, Marks.append hle h5 hn hlt⟩
    rcases List.mem_append.1 hd' with hd' | hd'
    · exact h4 d' hd'
    · obtain ⟨r', e', hr'⟩ := hlt d' hd'
      rw [e, e']
      intro hq
      simp only [Deferred.mk.injEq, Target.collected.injEq, and_true] at hq
      omega

theorem DfrR.trans {φ1 φ2 : Emb} {wS w1 w2 : World} {a a1 a2 : Act} (h : DfrR φ1 wS w1 a a1) (hle : wS.heap.size ≤ w1.heap.size) (hs : Stp φ1 φ2 w1 w2) (k : DfrR φ2 w1 w2 a1 a2) : DfrR φ2 wS w2 a a2 := by
  obtain ⟨ms, h1, h2⟩ := h
  obtain ⟨ns, k1, k2⟩ := k
  refine ⟨ns ++ ms, by rw [k1, h1, List.append_assoc], k2.append hle (h2.keep hs) fun d hd => ?_⟩
  obtain ⟨r, e, _, hr⟩ := h2.ge d hd
  exact ⟨r, e, hr⟩

theorem loop_rounds {rd : Option Nat} {c : Code} {step : List AV → AH → Option (AExit × List AV × AH)} {Q : Exit → Act → World → Prop} {a0 : Act}
    (hs : ∀ env h ex env' h', step env h = some (ex, env', h') → ∀ φ w a, VRs φ env a.tmps.toList → Rel P ifs φ w0 h w → ∀ Q : Exit → Act → World → Prop, (∀ φ' w' a', VRs φ' env' a'.tmps.toList → DfrR φ' w w' a a' → Rel P ifs φ' w0 h' w' → Stp φ φ' w w' → Q (exOf ex) a' w') → c.wpIn (FW rd) 0 P Q a w) :
    ∀ (n : Nat) (env : List AV) (h : AH) (ex : AExit) (env' : List AV) (h' : AH), loopN step n env h = some (ex, env', h') → ∀ φ w a, VRs φ env a.tmps.toList → DfrR φ wS w a0 a → Rel P ifs φ w0 h w → Stp φ0 φ wS w →
    (∀ φ' w' a', VRs φ' env' a'.tmps.toList → DfrR φ' wS w' a0 a' → Rel P ifs φ' w0 h' w' → Stp φ0 φ' wS w' → Q (exOf ex) a' w') → Code.roundsIn (FW rd) 0 P c Q n a w := by
  intro n
  induction n with
  | zero => intro env h ex env' h' hrun; simp [loopN] at hrun
  | succ n ih =>
    intro env h ex env' h' hrun φ w a hE hd hr hst hQ
    rw [roundsIn_succ]
    simp only [loopN] at hrun
    split at hrun
    · rename_i env1 h1 h1e
      refine hs _ _ _ _ _ h1e φ w a hE hr _ fun φ' w' a' q1 q2 q3 q4 => ?_
      exact ih _ _ _ _ _ hrun φ' w' a' q1 (hd.trans hst.size q4 q2) q3 (hst.trans q4) hQ
    · rename_i id env1 h1 h1e
      simp only [Option.some.injEq, Prod.mk.injEq] at hrun
      obtain ⟨rfl, rfl, rfl⟩ := hrun
      exact hs _ _ _ _ _ h1e φ w a hE hr _ fun φ' w' a' q1 q2 q3 q4 => hQ φ' w' a' q1 (hd.trans hst.size q4 q2) q3 (hst.trans q4)
    · rename_i env1 h1 h1e
      simp only [Option.some.injEq, Prod.mk.injEq] at hrun
      obtain ⟨rfl, rfl, rfl⟩ := hrun
      exact hs _ _ _ _ _ h1e φ w a hE hr _ fun φ' w' a' q1 q2 q3 q4 => hQ φ' w' a' q1 (hd.trans hst.size q4 q2) q3 (hst.trans q4)
    · cases hrun

theorem run_getLoop {b : Nat} {w : World} {L : Loop} (h : w.heap[b]? = some (.loop L)) : (Instr.getLoop b).run P w = .ok L w := by
  simp [Instr.getLoop, getObj, Sem.run, h]

/-- A loop's record, where the evaluator has it. -/
theorem Rel.loopAt {φ : Emb} {w : World} {h : AH} (hr : Rel P ifs φ w0 h w) {l b N : Nat} (hl : φ l = some (b, 0, N)) {st : Nat} {pd : Option AJump} {tm : List AV} {ps : List Nat} {as bd : ACode} (hg : h.get l = .loop st pd tm ps as bd) :
    ∃ L, w.heap[b]? = some (.loop L) ∧ L.state = stOf st ∧ L.pending = pd.map jumpOf ∧ VRs φ tm L.tmps.toList ∧ L.params.toList = ps ∧ cCode P ifs L.assign = some as ∧ cCode P ifs L.body = some bd := by
  obtain ⟨o, h1, h2⟩ := hr.blk _ _ _ _ hl
  rw [hg] at h2
  obtain ⟨_, L, rfl, h3⟩ := h2
  exact ⟨L, h1, h3⟩

/-- A RANGE OVER A FUNCTION. -/
theorem rangeFunc_wp (hcs : CallSound P ifs call) {f : Operand} {af : AOpd} {params : Array Nat} {assign body : Code} {aas abd : ACode} (hf : cOpd f = some af) (has : cCode P ifs assign = some aas) (hbd : cCode P ifs body = some abd)
    {env : List AV} {h h' : AH} {v : AV} (hcall : applyBody call (af.ev env) [.func (.yield h.next) [] []] (h.push (.loop 0 none env params.toList aas abd)) = some (v, h')) {st : Nat} {pd : Option AJump} {tm : List AV} {ps : List Nat} {as' bd' : ACode}
    (hget : h'.get h.next = .loop st pd tm ps as' bd') (hst : st ≠ 1) {φ : Emb} {w : World} {a : Act} (hE : VRs φ env a.tmps.toList) (hr : Rel P ifs φ w0 h w) {Q : Exit → Act → World → Prop} {ex : AExit} {env' : List AV} {h2 : AH} (hend : rangeEnd pd env (h'.set h.next (.loop 3 pd tm ps as' bd')) = some (ex, env', h2))
    (hQ : ∀ φ' w' a', VRs φ' env' a'.tmps.toList → DfrR φ' w w' a a' → Rel P ifs φ' w0 h2 w' → Stp φ φ' w w' → Q (exOf ex) a' w') :
    (Code.rangeFunc f params assign body).wpIn (FW none) 0 P Q a w := by
  unfold applyBody at hcall
  split at hcall
  case h_2 => cases hcall
  rename_i g first captured ef
  refine wpIn_rangeFunc fun fn _ => ?_
  have hfv := opds_of hE f af hf
  rw [ef] at hfv
  simp only [VR] at hfv
  obtain ⟨fs', cs', e1, e2, e3⟩ := hfv
  obtain ⟨r1, s1⟩ := hr.extra (.deferred (some []))
  let L0 : Loop := { state := .ready, pending := none, fn := fn, tmps := a.tmps, params := params, assign := assign, body := body, defers := w.heap.size }
  obtain ⟨r2, s2⟩ := r1.push (.loop 0 none env params.toList aas abd) (.loop L0) 0 ⟨rfl, L0, rfl, rfl, rfl, VRs.ext (ext_upd r1.none_next) _ _ hE, rfl, has, hbd⟩
  have hs12 := s1.trans s2
  have hargs : VRs (upd φ h.next ((w.alloc (.deferred (some []))).heap.size, 0, 0)) (first ++ [.func (.yield h.next) [] []] ++ captured) (fs' ++ #[Value.func (.yield (w.alloc (.deferred (some []))).heap.size) #[] #[]] ++ cs').toList := by
    have e4 : (fs' ++ #[Value.func (.yield (w.alloc (.deferred (some []))).heap.size) #[] #[]] ++ cs').toList = fs'.toList ++ [Value.func (.yield (w.alloc (.deferred (some []))).heap.size) #[] #[]] ++ cs'.toList := by simp
    rw [e4]
    refine ((VRs.ext hs12.ext _ _ e2).append (VRs.cons ?_ VRs.nil)).append (VRs.ext hs12.ext _ _ e3)
    simp only [VR]
    exact ⟨_, 0, _, _, upd_same _ _ _, rfl, VRs.nil, VRs.nil⟩
  obtain ⟨b1, b2⟩ := hcs.body g _ _ _ _ hcall _ w0 _ _ hargs r2
  have hr1 : (Instr.enterLoop fn a.tmps params assign body (FW none).round).run P w = .ok ((w.alloc (.deferred (some []))).heap.size, [({ target := .collected w.heap.size, args := #[] } : Deferred)]) ((w.alloc (.deferred (some []))).alloc (.loop L0)) := by
    simp [Instr.enterLoop, FW, Fence.wide, L0]
  have hr2 : (resolve a.eval (rangeCall f (w.alloc (.deferred (some []))).heap.size) 0).run P ((w.alloc (.deferred (some []))).alloc (.loop L0)) = .ok ({ target := .fn (.func g) cs', args := fs' ++ #[Value.func (.yield (w.alloc (.deferred (some []))).heap.size) #[] #[]] } : Deferred) ((w.alloc (.deferred (some []))).alloc (.loop L0)) := by
    unfold resolve rangeCall
    have hmap : Array.map a.eval #[Operand.const (Value.func (.yield (w.alloc (.deferred (some []))).heap.size) #[] #[])] = #[Value.func (.yield (w.alloc (.deferred (some []))).heap.size) #[] #[]] := by
      apply Array.ext'; simp only [Array.toList_map, List.map_cons, List.map_nil]; rfl
    simp only [e1, Deferred.ofValue, Sem.run_pure, hmap]
  refine ⟨_, _, _, _, _, g, _, _, hr1, hr2, fun _ _ => trivial, (show (invoke (.fn (.func g) cs') _).run P _ = _ from (by simp only [invoke]; exact b1)), fun hh => by simp [FW, Fence.wide] at hh, callsIn_FW.2 (Calls.mono b2 fun e w3 he => ?_)⟩
  · obtain ⟨v', φ3, rfl, k1, k2, k3⟩ := he
    have hl3 : φ3 h.next = some ((w.alloc (.deferred (some []))).heap.size, 0, 0) := k3.ext _ _ (upd_same _ _ _)
    obtain ⟨L, m1, m2, m3, m4, m5, m6, m7⟩ := k2.loopAt hl3 hget
    have hbusy : (L.state == .busy) = false := by
      rw [m2]
      match st, hst with
      | 0, _ => rfl
      | 1, h => exact absurd rfl h
      | 2, _ => rfl
      | n + 3, _ => rfl
    obtain ⟨r4, s4⟩ := k2.setObj (blk := .loop 3 pd tm ps as' bd') (o := .loop { L with state := .exhausted }) hl3 (by rw [hget]; simp) (by rw [hget]; rfl) rfl ⟨rfl, _, rfl, rfl, m3, m4, m5, m6, m7⟩
    have hrun : (Instr.endLoop (w.alloc (.deferred (some []))).heap.size).run P w3 = .ok L.pending { w3 with heap := w3.heap.setIfInBounds (w.alloc (.deferred (some []))).heap.size (.loop { L with state := .exhausted }) } := by
      simp only [Instr.endLoop, Sem.run_bind, run_getLoop m1, Result.andThen_ok, hbusy, Bool.false_eq_true, if_false, Sem.run_pure, run_setObjX m1 (by simp)]
    have hs24 := hs12.trans (k3.trans s4)
    have hno : ∀ j co N, upd φ h.next ((w.alloc (.deferred (some []))).heap.size, 0, 0) j ≠ some (w.heap.size, co, N) := by
      intro j co N hj
      unfold upd at hj
      split at hj
      · simp at hj
      · have := (hr.dom _ _ _ _ hj).2; omega
    have hmark : DfrR φ3 w { w3 with heap := w3.heap.setIfInBounds (w.alloc (.deferred (some []))).heap.size (.loop { L with state := .exhausted }) } a { a with defers := [{ target := .collected w.heap.size, args := #[] }] ++ a.defers } := by
      refine ⟨_, rfl, ⟨⟨w.heap.size, rfl, Nat.le_refl _, ?_, fun j co N hj => ?_, by simp⟩, trivial⟩⟩
      · have h1 : ((w.alloc (.deferred (some []))).alloc (.loop L0)).heap[w.heap.size]? = some (.deferred (some [])) := by
          rw [Below.heap_alloc _ _ _ (by simp)]; exact heap_alloc_new w _
        have hlt : w.heap.size < ((w.alloc (.deferred (some []))).alloc (.loop L0)).heap.size := by simp; omega
        have h2 := (k3.trans s4).keep w.heap.size hlt hno
        exact h2.trans h1
      · have hlt : w.heap.size < ((w.alloc (.deferred (some []))).alloc (.loop L0)).heap.size := by simp; omega
        obtain ⟨j', co', N', hj'⟩ := k3.rng j _ co N hj hlt
        exact hno _ _ _ hj'
    refine ⟨pd.map jumpOf, _, by rw [← m3]; exact hrun, ?_⟩
    unfold rangeEnd at hend
    cases pd with
    | none =>
      simp only [Option.some.injEq, Prod.mk.injEq] at hend
      obtain ⟨rfl, rfl, rfl⟩ := hend
      exact hQ φ3 _ _ (VRs.ext hs24.ext _ _ hE) hmark r4 hs24
    | some j =>
      cases j with
      | exit id =>
        simp only [Option.some.injEq, Prod.mk.injEq] at hend
        obtain ⟨rfl, rfl, rfl⟩ := hend
        exact wpIn_exit (hQ φ3 _ _ (VRs.ext hs24.ext _ _ hE) hmark r4 hs24)
      | ret =>
        simp only [Option.some.injEq, Prod.mk.injEq] at hend
        obtain ⟨rfl, rfl, rfl⟩ := hend
        exact wpIn_ret (hQ φ3 _ _ (VRs.ext hs24.ext _ _ hE) hmark r4 hs24)

/-- CODE. -/
theorem code_wp (hcs : CallSound P ifs call) (hmt : MtOk P mt) (hmix : P.follows .mixedOrders = true) (k : Nat) (rd : Option Nat) : ∀ (c : Code) (ac : ACode), cCode P ifs c = some ac → ∀ (env : List AV) (h : AH) (ex : AExit) (env' : List AV) (h' : AH), acode mt call k rd.isSome ac env h = some (ex, env', h') →
    ∀ φ w a, VRs φ env a.tmps.toList → Rel P ifs φ w0 h w → ∀ Q : Exit → Act → World → Prop, (∀ φ' w' a', VRs φ' env' a'.tmps.toList → DfrR φ' w w' a a' → Rel P ifs φ' w0 h' w' → Stp φ φ' w w' → Q (exOf ex) a' w') → c.wpIn (FW rd) 0 P Q a w := by
  intro c
  induction c with
  | skip =>
    intro ac hc env h ex env' h' hrun φ w a hE hr Q hQ
    simp [cCode] at hc; subst hc
    simp only [acode, Option.some.injEq, Prod.mk.injEq] at hrun
    obtain ⟨rfl, rfl, rfl⟩ := hrun
    exact wpIn_skip (hQ φ w a hE (.refl rfl) hr (Stp.refl _ _))
  | region id ops draw =>
    intro ac hc env h ex env' h' hrun φ w a hE hr Q hQ
    simp only [cCode, Option.map_eq_some_iff] at hc
    obtain ⟨l, hl, rfl⟩ := hc
    simp only [acode, Option.map_eq_some_iff, Prod.mk.injEq] at hrun
    obtain ⟨⟨e1, h1⟩, h2, rfl, rfl, rfl⟩ := hrun
    exact region_wp hcs hmt hmix hl h2 hE hr fun φ' w' a' q1 q2 q3 q4 => hQ φ' w' a' q1 (.refl q2) q3 q4
  | seq x y ihx ihy =>
    intro ac hc env h ex env' h' hrun φ w a hE hr Q hQ
    simp only [cCode] at hc
    split at hc <;> simp at hc
    rename_i ax ay h1 h2
    subst hc
    refine wpIn_seq ?_
    simp only [acode] at hrun
    split at hrun
    · rename_i env1 h1' hx
      refine ihx _ h1 _ _ _ _ _ hx φ w a hE hr _ fun φ' w' a' q1 q2 q3 q4 => ?_
      exact ihy _ h2 _ _ _ _ _ hrun φ' w' a' q1 q3 _ fun φ2 w2 a2 r1 r2 r3 r4 => hQ φ2 w2 a2 r1 (q2.trans q4.size r4 r2) r3 (q4.trans r4)
    · rename_i id env1 h1' hx
      simp only [Option.some.injEq, Prod.mk.injEq] at hrun
      obtain ⟨rfl, rfl, rfl⟩ := hrun
      exact ihx _ h1 _ _ _ _ _ hx φ w a hE hr _ hQ
    · rename_i env1 h1' hx
      simp only [Option.some.injEq, Prod.mk.injEq] at hrun
      obtain ⟨rfl, rfl, rfl⟩ := hrun
      exact ihx _ h1 _ _ _ _ _ hx φ w a hE hr _ hQ
    · cases hrun
  | cond cnd x y ihx ihy =>
    intro ac hc env h ex env' h' hrun φ w a hE hr Q hQ
    simp only [cCode] at hc
    split at hc <;> simp at hc
    rename_i ac' ax ay h0 h1 h2
    subst hc
    simp only [acode] at hrun
    split at hrun
    case h_2 => cases hrun
    rename_i t et
    have hb := opds_of hE cnd _ h0
    rw [et] at hb
    refine wpIn_cond (vr_bool hb) ?_
    cases t with
    | true => simp only [if_true] at hrun ⊢; exact ihx _ h1 _ _ _ _ _ hrun φ w a hE hr _ hQ
    | false => simp only [Bool.false_eq_true, if_false] at hrun ⊢; exact ihy _ h2 _ _ _ _ _ hrun φ w a hE hr _ hQ
  | block id x ihx =>
    intro ac hc env h ex env' h' hrun φ w a hE hr Q hQ
    simp only [cCode, Option.map_eq_some_iff] at hc
    obtain ⟨ax, h1, rfl⟩ := hc
    refine wpIn_block ?_
    simp only [acode] at hrun
    split at hrun
    · rename_i j env1 h1' hx
      refine ihx _ h1 _ _ _ _ _ hx φ w a hE hr _ fun φ' w' a' q1 q2 q3 q4 => ?_
      split at hrun
      · rename_i hj
        simp only [Option.some.injEq, Prod.mk.injEq] at hrun
        obtain ⟨rfl, rfl, rfl⟩ := hrun
        simp only [exOf, Exit.inBlock, hj, if_true]
        exact hQ φ' w' a' q1 q2 q3 q4
      · rename_i hj
        simp only [Option.some.injEq, Prod.mk.injEq] at hrun
        obtain ⟨rfl, rfl, rfl⟩ := hrun
        simp only [exOf, Exit.inBlock, hj, if_false]
        exact hQ φ' w' a' q1 q2 q3 q4
    · rename_i r hno
      refine ihx _ h1 _ _ _ _ _ hrun φ w a hE hr _ fun φ' w' a' q1 q2 q3 q4 => ?_
      cases ex with
      | normal => exact hQ φ' w' a' q1 q2 q3 q4
      | ret => exact hQ φ' w' a' q1 q2 q3 q4
      | exit j => exact absurd hrun (hno j env' h')
  | loop x ihx =>
    intro ac hc env h ex env' h' hrun φ w a hE hr Q hQ
    simp only [cCode, Option.map_eq_some_iff] at hc
    obtain ⟨ax, h1, rfl⟩ := hc
    simp only [acode] at hrun
    exact wpIn_loop_rounds k (loop_rounds (a0 := a) (φ0 := φ) (wS := w) (fun env h ex env' h' hh φ w a hE hr Q hQ => ihx _ h1 _ _ _ _ _ hh φ w a hE hr Q hQ) k _ _ _ _ _ hrun φ w a hE (.refl rfl) hr (Stp.refl _ _) hQ)
  | rangeFunc f params x y ihx ihy =>
    intro ac hc env h ex env' h' hrun φ w a hE hr Q hQ
    simp only [cCode] at hc
    split at hc <;> simp at hc
    rename_i af ax ay h0 h1 h2
    subst hc
    simp only [acode] at hrun
    split at hrun
    · cases hrun
    rename_i hrd
    obtain rfl : rd = none := by cases rd <;> simp_all
    split at hrun
    case h_2 => cases hrun
    rename_i v h1' hcall
    split at hrun
    case h_2 => cases hrun
    rename_i st pd tm ps as' bd' hget
    split at hrun
    · cases hrun
    rename_i hst
    exact rangeFunc_wp hcs h0 h1 h2 hcall hget hst hE hr hrun hQ
  | exit id =>
    intro ac hc env h ex env' h' hrun φ w a hE hr Q hQ
    simp [cCode] at hc; subst hc
    simp only [acode, Option.some.injEq, Prod.mk.injEq] at hrun
    obtain ⟨rfl, rfl, rfl⟩ := hrun
    exact wpIn_exit (hQ φ w a hE (.refl rfl) hr (Stp.refl _ _))
  | ret =>
    intro ac hc env h ex env' h' hrun φ w a hE hr Q hQ
    simp [cCode] at hc; subst hc
    simp only [acode, Option.some.injEq, Prod.mk.injEq] at hrun
    obtain ⟨rfl, rfl, rfl⟩ := hrun
    exact wpIn_ret (hQ φ w a hE (.refl rfl) hr (Stp.refl _ _))
  | _ =>
    intro ac hc env h ex env' h' hrun
    simp [cCode] at hc; subst hc
    simp [acode, AOpd.ev, AV.undef] at hrun

/-! ### Results -/
theorem result_sound {φ : Emb} {w : World} {env : List AV} {h : AH} {tmps : Array Value} (hE : VRs φ env tmps.toList) (hr : Rel P ifs φ w0 h w) {rv : ResultVar} {r : Nat × Option (Option Nat)} (hc : cResult P rv = some r) {v : AV} (hv : resultOf env h r = some v) :
    ∃ u, ((match rv with | .tmp t => pure (tmps.getD t undef) | .cell a t => do loadVar t (← asAddr (tmps.getD a undef))) : Sem Value).run P w = .ok u w ∧ VR φ v u := by
  have hop := opds_of (a := { tmps := tmps, defers := [] }) hE
  cases rv with
  | tmp t =>
    simp [cResult] at hc; subst hc
    simp only [resultOf, Option.some.injEq] at hv
    subst hv
    exact ⟨_, rfl, hop (.tmp t) (.tmp t) rfl⟩
  | cell a t =>
    simp only [cResult, Option.map_eq_some_iff] at hc
    obtain ⟨s, hs, rfl⟩ := hc
    simp only [resultOf] at hv
    obtain ⟨p, u, e, g1, g2⟩ := loadVar_sound hr hs (y := .tmp a) (hop (.tmp a) (.tmp a) rfl) hv
    have e' : tmps.getD a undef = .pointer (some p) := e
    exact ⟨u, by simp only [Sem.run_bind, e', asAddr, Sem.run_pure, Result.andThen_ok, g1], g2⟩

theorem results_sound {φ : Emb} {w : World} {env : List AV} {h : AH} {tmps : Array Value} (hE : VRs φ env tmps.toList) (hr : Rel P ifs φ w0 h w) : ∀ {l : List ResultVar} {rs : List (Nat × Option (Option Nat))} {vs : List AV}, optAll (l.map (cResult P)) = some rs → resultsOf env h rs = some vs →
    ∃ us : List Value, (l.mapM fun rv => ((match rv with | .tmp t => pure (tmps.getD t undef) | .cell a t => do loadVar t (← asAddr (tmps.getD a undef))) : Sem Value)).run P w = .ok us w ∧ VRs φ vs us
  | [], rs, vs, h1, h2 => by
    simp [optAll] at h1; subst h1
    simp [resultsOf] at h2; subst h2
    exact ⟨[], by simp, VRs.nil⟩
  | rv :: l, rs, vs, h1, h2 => by
    obtain ⟨r, r', h3, h4, rfl⟩ := optAll_cons h1
    simp only [resultsOf, Option.bind_eq_some_iff, Option.map_eq_some_iff] at h2
    obtain ⟨v, hv, vs', hvs, rfl⟩ := h2
    obtain ⟨u, g1, g2⟩ := result_sound hE hr h3 hv
    obtain ⟨us, k1, k2⟩ := results_sound hE hr h4 hvs
    exact ⟨u :: us, by rw [List.mapM_cons]; simp only [Sem.run_bind, g1, k1, Result.andThen_ok, Sem.run_pure], VRs.cons g2 k2⟩

theorem resultsFn_sound {φ : Emb} {w : World} {env : List AV} {h : AH} {tmps : Array Value} (hE : VRs φ env tmps.toList) (hr : Rel P ifs φ w0 h w) {fn : Func} {rs : List (Nat × Option (Option Nat))} {vs : List AV} (h1 : optAll (fn.results.toList.map (cResult P)) = some rs) (h2 : resultsOf env h rs = some vs) :
    ∃ u, (results fn tmps).run P w = .ok u w ∧ VR φ (oneOrTuple vs) u := by
  obtain ⟨us, g1, g2⟩ := results_sound hE hr h1 h2
  have hm : (fn.results.mapM fun rv => ((match rv with | .tmp t => pure (tmps.getD t undef) | .cell a t => do loadVar t (← asAddr (tmps.getD a undef))) : Sem Value)).run P w = .ok us.toArray w := by
    rw [Array.mapM_eq_mapM_toList]
    simp only [map_eq_pure_bind, Sem.run_bind]
    rw [g1]
    rfl
  refine ⟨if h : us.toArray.size = 1 then us.toArray[0] else .tuple us.toArray, ?_, ?_⟩
  · unfold results
    simp only [Sem.run_bind]
    exact (congrArg (fun r => Result.andThen r _) hm).trans rfl
  · cases vs with
    | nil =>
      simp only [VRs] at g2; subst g2
      simp only [oneOrTuple, VR]; exact ⟨#[], by simp, VRs.nil⟩
    | cons v vs =>
      simp only [VRs] at g2
      obtain ⟨u, us', rfl, k1, k2⟩ := g2
      cases vs with
      | nil => simp only [VRs] at k2; subst k2; simpa [oneOrTuple] using k1
      | cons v2 vs =>
        simp only [VRs] at k2
        obtain ⟨u2, us2, rfl, k3, k4⟩ := k2
        simp only [oneOrTuple, VR]
        exact ⟨_, by simp, VRs.cons k1 (VRs.cons k3 k4)⟩

/-- The marks are taken, one by one; the results then. -/
theorem leaves_marks {fn : Func} {tmps : Array Value} {R : Ending → World → Prop} {φ φ0 : Emb} {h : AH} {wS : World} (hwS : w0.heap.size ≤ wS.heap.size) : ∀ (ms : List Deferred) (w : World), Marks φ wS w ms → Rel P ifs φ w0 h w → Stp φ0 φ wS w →
    (∀ w', Rel P ifs φ w0 h w' → Stp φ0 φ wS w' → ∃ v, (results fn tmps).run P w' = .ok v w' ∧ R (.returned v) w') → LeavesInM (FW none) 0 P fn tmps R ms .returning w
  | [], w, _, hr, hs, hf => hf w hr hs
  | d :: ms, w, hm, hr, hs, hf => by
    obtain ⟨⟨r, rfl, h1, h2, h3, h4⟩, h5⟩ := hm
    have hrlt : r < w.heap.size := (Array.getElem?_eq_some_iff.1 h2).1
    have hne : ∀ k, k ≠ r → (w.heap.setIfInBounds r (Obj.deferred none))[k]? = w.heap[k]? := fun k hk => by rw [Array.getElem?_setIfInBounds_ne (by omega)]
    have hr' : Rel P ifs φ w0 h { w with heap := w.heap.setIfInBounds r (.deferred none) } := by
      refine ⟨⟨hr.below.os, hr.below.tape, hr.below.output, by simpa using hr.below.size, fun k hk => (hne k (by omega)).trans (hr.below.block k hk)⟩, fun i b co N hi => by simpa using hr.dom _ _ _ _ hi, hr.all, fun i b co N hi => ?_, hr.ni, hr.own⟩
      obtain ⟨o, k1, k2⟩ := hr.blk _ _ _ _ hi
      exact ⟨o, (hne b (by rintro rfl; exact h3 _ _ _ hi)).trans k1, k2⟩
    have hs' : Stp φ0 φ wS { w with heap := w.heap.setIfInBounds r (.deferred none) } :=
      ⟨hs.ext, by simpa using hs.size, hs.rng, fun b hb hn => (hne b (by omega)).trans (hs.keep b hb hn)⟩
    have hms : ∀ {ms : List Deferred}, Marks φ wS w ms → (∀ d' ∈ ms, d' ≠ ({ target := .collected r, args := #[] } : Deferred)) → Marks φ wS { w with heap := w.heap.setIfInBounds r (.deferred none) } ms := by
      intro ms
      induction ms with
      | nil => intro _ _; trivial
      | cons x ms ih =>
        intro hm hd
        obtain ⟨⟨r', e, g1, g2, g3, g4⟩, g5⟩ := hm
        refine ⟨⟨r', e, g1, (hne r' ?_).trans g2, g3, g4⟩, ih g5 (fun d' hd' => hd d' (by simp [hd']))⟩
        rintro rfl
        exact hd x (by simp) e
    refine ⟨by simp, .inl ⟨r, { w with heap := w.heap.setIfInBounds r (.deferred none) }, rfl, ?_, leaves_marks hwS ms _ (hms h5 h4) hr' hs' hf⟩⟩
    simp [Instr.takeDeferred, getObj, Sem.run, h2, setObj]

/-- What is told of a function is so. -/
def SumSound (P : Program) (ifs : List TypeId) (T : Summary) : Prop := ∀ (f : FuncId) (s : List AV → AH → Option (AV × AH)), T f = some s → ∀ (args : List AV) (h : AH) (v : AV) (h' : AH), s args h = some (v, h') →
  ∀ (φ : Emb) (w0 w : World) (vs : Array Value), VRs φ args vs.toList → Rel P ifs φ w0 h w → CallOk P ifs φ w0 w h' v f vs

/-- A FUNCTION's TEXT. -/
theorem abody_sound (hcs : CallSound P ifs call) (hmt : MtOk P mt) (hmix : P.follows .mixedOrders = true) (k : Nat) {f : FuncId} {afn : AFn} (hf : funcsOf P ifs f = some afn) {args : List AV} {h : AH} {v : AV} {h' : AH} (hv : abody mt call k afn args h = some (v, h'))
    (φ : Emb) (w0 w : World) (vs : Array Value) (hvs : VRs φ args vs.toList) (hr : Rel P ifs φ w0 h w) : BodyOk P ifs φ w0 w h' v f vs := by
  unfold funcsOf at hf
  split at hf
  case h_2 => cases hf
  rename_i fn hfn
  unfold cFunc at hf
  split at hf
  case h_2 => cases hf
  rename_i c hbody
  split at hf
  case h_2 => cases hf
  rename_i body rs hcc hrs
  split at hf
  · cases hf
  rename_i hname
  simp only [Option.some.injEq] at hf
  subst hf
  refine ⟨by
    have hn : ¬ fn.name = "runtime.NumGoroutine" := by simpa using hname
    simp [callFunc, hfn, hn, hbody], ?_⟩
  have hE : VRs φ (args ++ List.replicate (fn.ntmps - args.length) .undef) (vs ++ Array.replicate (fn.ntmps - vs.size) undef).toList := by
    have hl := hvs.len
    simp only [Array.length_toList] at hl
    rw [Array.toList_append, Array.toList_replicate, hl]
    refine hvs.append ?_
    generalize fn.ntmps - vs.size = m
    induction m with
    | zero => exact VRs.nil
    | succ m ihm => rw [List.replicate_succ, List.replicate_succ]; exact VRs.cons vr_undef ihm
  have fin : ∀ {env' : List AV} {h1 : AH}, ((resultsOf env' h1 rs).map fun vs => (oneOrTuple vs, h1)) = some (v, h') → ∀ φ' w' a', VRs φ' env' a'.tmps.toList → DfrR φ' w w' { tmps := vs ++ Array.replicate (fn.ntmps - vs.size) undef, defers := [] } a' → Rel P ifs φ' w0 h1 w' → Stp φ φ' w w' →
      LeavesInM (FW none) 0 P fn a'.tmps (Ret P ifs φ w0 w h' v) a'.defers .returning w' := by
    intro env' h1 hv φ' w' a' q1 q2 q3 q4
    obtain ⟨vs', hvs', hq⟩ := Option.map_eq_some_iff.1 hv
    simp only [Prod.mk.injEq] at hq
    obtain ⟨rfl, rfl⟩ := hq
    obtain ⟨ms, e1, e2⟩ := q2
    rw [e1, List.append_nil]
    refine leaves_marks hr.below.size ms w' e2 q3 q4 fun w2 r2 s2 => ?_
    obtain ⟨u, g1, g2⟩ := resultsFn_sound q1 r2 hrs hvs'
    exact ⟨u, g1, u, φ', rfl, g2, r2, s2⟩
  refine callsIn_FW.1 (callsIn_of_wp_marks (F := FW none) (n := 0) hfn hbody trivial ?_)
  unfold abody at hv
  dsimp only at hv
  split at hv
  · rename_i env' h1 hrun
    exact code_wp hcs hmt hmix k none c body hcc _ _ _ _ _ hrun φ w _ hE hr _ fun φ' w' a' q1 q2 q3 q4 => fin hv φ' w' a' q1 q2 q3 q4
  · rename_i env' h1 hrun
    exact code_wp hcs hmt hmix k none c body hcc _ _ _ _ _ hrun φ w _ hE hr _ fun φ' w' a' q1 q2 q3 q4 => fin hv φ' w' a' q1 q2 q3 q4
  · cases hv

theorem setParams_vr {φ : Emb} : ∀ (ps : List Nat) (as : List AV) (us : List Value) (env : List AV) (tmps : Array Value), VRs φ as us → VRs φ env tmps.toList → VRs φ (setParams env ps as) ((ps.zip us).foldl (fun t p => t.setIfInBounds p.1 p.2) tmps).toList
  | [], as, us, env, tmps, _, hE => by simpa [setParams] using hE
  | p :: ps, [], us, env, tmps, ha, hE => by simp only [VRs] at ha; subst ha; simpa [setParams] using hE
  | p :: ps, a :: as, us, env, tmps, ha, hE => by
    simp only [VRs] at ha
    obtain ⟨u, r, rfl, h1, h2⟩ := ha
    simp only [setParams, List.zip_cons_cons, List.foldl_cons]
    refine setParams_vr ps as r _ _ h2 ?_
    rw [Array.toList_setIfInBounds]; exact VRs.set hE p h1

/-- A ROUND. -/
theorem around_sound (hcs : CallSound P ifs call) (hmt : MtOk P mt) (hmix : P.follows .mixedOrders = true) (k : Nat) {l : Nat} {args : List AV} {h : AH} {v : AV} {h' : AH} (hv : around mt call k l args h = some (v, h'))
    (φ : Emb) (w0 w : World) (vs : Array Value) (b N : Nat) (hl : φ l = some (b, 0, N)) (hvs : VRs φ args vs.toList) (hr : Rel P ifs φ w0 h w) :
    ∃ f tmps assign body, (Instr.yield b vs).run P w = .ok (.round b f tmps assign body) w ∧ RoundIn Fence.wide 0 P b f tmps assign body w (Ret P ifs φ w0 w h' v) := by
  unfold around at hv
  split at hv
  case h_2 => cases hv
  rename_i st pd0 tm ps as bd hget
  split at hv
  case isFalse => cases hv
  rename_i hlen
  split at hv
  case h_2 => cases hv
  rename_i env1 h1 hassign
  split at hv
  case h_2 => cases hv
  rename_i pd tm1 ps1 as1 bd1 hget1
  split at hv
  case h_2 => cases hv
  rename_i ex env2 h3 hbody
  split at hv
  case h_2 => cases hv
  rename_i st3 pd3 tm3 ps3 as3 bd3 hget3
  simp only [Option.some.injEq, Prod.mk.injEq] at hv
  obtain ⟨rfl, rfl⟩ := hv
  obtain ⟨L, m1, m2, m3, m4, m5, m6, m7⟩ := hr.loopAt hl hget
  have hsz : vs.size = L.params.size := by
    have := hvs.len
    simp only [Array.length_toList] at this
    rw [← this, ← hlen, ← m5]; simp
  refine ⟨L.fn, _, L.assign, L.body, by simp only [Instr.yield, Sem.run_bind, run_getLoop m1, Result.andThen_ok, hsz, ne_eq, not_true_eq_false, if_false, Sem.run_pure]; rfl, ?_⟩
  refine roundIn_of_wpIn (F := Fence.wide) trivial ?_
  have hE : VRs φ (setParams tm ps args) ((L.params.zip vs).foldl (fun tmps (t, a) => tmps.setIfInBounds t a) L.tmps).toList := by
    have := setParams_vr ps args vs.toList tm L.tmps hvs m4
    rw [← m5] at this ⊢
    rw [← Array.foldl_toList, Array.toList_zip]
    exact this
  refine code_wp hcs hmt hmix k (some b) L.assign as m6 _ _ _ _ _ hassign φ w { tmps := (L.params.zip vs).foldl (fun tmps (t, a) => tmps.setIfInBounds t a) L.tmps, defers := [] } hE hr _ fun φ1 w1 a1 q1 q2 q3 q4 => ?_
  have hl1 := q4.ext _ _ hl
  obtain ⟨L1, n1, n2, n3, n4, n5, n6, n7⟩ := q3.loopAt hl1 hget1
  obtain ⟨r2, s2⟩ := q3.setObj (blk := .loop 1 pd tm1 ps1 as1 bd1) (o := .loop { L1 with state := .busy }) hl1 (by rw [hget1]; simp) (by rw [hget1]; rfl) rfl ⟨rfl, _, rfl, rfl, n3, n4, n5, n6, n7⟩
  refine ⟨_, (show (Instr.beginRound b).run P w1 = .ok () { w1 with heap := w1.heap.setIfInBounds b (.loop { L1 with state := .busy }) } from by
    simp only [Instr.beginRound, Sem.run_bind, run_getLoop n1, Result.andThen_ok, run_setObjX n1 (by simp), n2, stOf]; rfl), ?_⟩
  refine code_wp hcs hmt hmix k (some b) L.body bd m7 _ _ _ _ _ hbody φ1 _ a1 q1 r2 _ fun φ3 w3 a3 t1 t2 t3 t4 => ?_
  have hl3 := t4.ext _ _ hl1
  obtain ⟨L3, p1, p2, p3, p4, p5, p6, p7⟩ := t3.loopAt hl3 hget3
  have fin : ∀ (jump : Option Code), jump = ex.jump.map jumpOf → ∃ v w', (Instr.endRound b jump).run P w3 = .ok v w' ∧ Ret P ifs φ w0 w (h3.set l (.loop (if ex.jump.isNone then 0 else 2) ex.jump tm3 ps3 as3 bd3)) (.bool ex.jump.isNone) (.returned v) w' := by
    intro jump hj
    have hn : jump.isNone = ex.jump.isNone := by rw [hj]; cases ex.jump <;> rfl
    obtain ⟨r5, s5⟩ := t3.setObj (blk := .loop (if ex.jump.isNone then 0 else 2) ex.jump tm3 ps3 as3 bd3) (o := .loop { L3 with state := if jump.isNone then .ready else .done, pending := jump }) hl3 (by rw [hget3]; simp) (by rw [hget3]; rfl) rfl
      ⟨rfl, _, rfl, by rw [hn]; cases ex.jump <;> rfl, hj, p4, p5, p6, p7⟩
    refine ⟨.bool jump.isNone, _, by simp only [Instr.endRound, Sem.run_bind, run_getLoop p1, Result.andThen_ok, run_setObjX p1 (by simp), Sem.run_pure], .bool jump.isNone, φ3, rfl, by rw [hn]; simp [VR], r5, ((q4.trans s2).trans t4).trans s5⟩
  cases ex with
  | normal => exact fin none rfl
  | ret => exact fin (some .ret) rfl
  | exit id => exact fin (some (.exit id)) rfl

/-- **CALLS**: what the evaluator gives is what the function does. -/
theorem acall_sound {T : Summary} (hT : SumSound P ifs T) (hmt : MtOk P mt) (hmix : P.follows .mixedOrders = true) (k : Nat) : ∀ n, CallSound P ifs (acall (funcsOf P ifs) T mt k n) := by
  intro n
  induction n with
  | zero => exact ⟨fun f args h v h' hv => by simp [acall] at hv, fun f args h v h' hv => by simp [acall] at hv, fun l args h v h' hv => by simp [acall] at hv⟩
  | succ n ih =>
    refine ⟨fun f args h v h' hv => ?_, fun f args h v h' hv => ?_, fun l args h v h' hv => ?_⟩
    · intro φ w0 w vs hvs hr
      simp only [acall] at hv
      split at hv
      · rename_i s hs
        exact hT f s hs args h v h' hv φ w0 w vs hvs hr
      · split at hv
        · cases hv
        · rename_i afn hf
          exact .inl (abody_sound ih hmt hmix k hf hv φ w0 w vs hvs hr)
    · intro φ w0 w vs hvs hr
      simp only [acall] at hv
      split at hv
      · cases hv
      · rename_i afn hf
        exact abody_sound ih hmt hmix k hf hv φ w0 w vs hvs hr
    · intro φ w0 w vs b N hl hvs hr
      simp only [acall] at hv
      exact around_sound ih hmt hmix k hv φ w0 w vs b N hl hvs hr
end
end Go.Proofs.YtjihmonajekomaaGreatDoor.Ax
