/- Code and calls: what the evaluator computes of a function is what the function does. Conditions: as each theorem states. -/
import Derived.Test.YtkbekibljcdbjaaAx18
import Derived.LoopN
namespace Go.Proofs.Ytkbekibljcdbjaa.Ax
open Go Go.RowKit
set_option linter.unusedVariables false

theorem optAll_get {α β : Type} {f : α → Option β} : ∀ {l : List α} {r : List β}, optAll (l.map f) = some r → r.length = l.length ∧ ∀ (i : Nat) (x : α), l[i]? = some x → ∃ y, r[i]? = some y ∧ f x = some y
  | [], r, h => by simp [optAll] at h; subst h; exact ⟨rfl, fun i x h => by simp at h⟩
  | x :: l, r, h => by
    obtain ⟨a, r', h1, h2, rfl⟩ := optAll_cons h
    obtain ⟨h3, h4⟩ := optAll_get h2
    refine ⟨by simp [h3], fun i y hy => ?_⟩
    cases i with
    | zero => simp at hy; subst hy; exact ⟨a, rfl, h1⟩
    | succ i => simpa using h4 i y (by simpa using hy)

section
variable {P : Program} {ifs : List TypeId} {φ0 : Emb} {w0 wS : World} {mt : Methods} {call : Callee} {ops : Array Oper} {l : List AOper}

theorem zip_get {α β : Type} {a : List α} {b : List β} {i : Nat} {x : α} {y : β} (h1 : a[i]? = some x) (h2 : b[i]? = some y) : (a.zip b)[i]? = some (x, y) := by
  simp [List.getElem?_zip_eq_some, h1, h2]

theorem cRegion_plain (hc : cRegion P ifs ops false = some l) : RegionOk P ifs ops l := by
  unfold cRegion at hc
  split at hc
  case h_2 => cases hc
  rename_i aops gs h1 h2
  simp only [Bool.false_eq_true, if_false, Option.some.injEq] at hc
  obtain ⟨a1, a2⟩ := optAll_get h1
  obtain ⟨g1, g2⟩ := optAll_get h2
  subst hc
  simp only [Array.length_toList] at a1 g1
  refine ⟨by simp [a1, g1], fun i o ao ho hao => ?_⟩
  obtain ⟨p, hp, hcp⟩ := a2 i o (by simpa using ho)
  obtain ⟨g, hg, hcg⟩ := g2 i o (by simpa using ho)
  have hz : (ops.toList.zip (aops.zip gs))[i]? = some (o, p, g) := zip_get (by simpa using ho) (zip_get hp hg)
  simp only [List.getElem?_map, hz, Option.map_some, Option.some.injEq] at hao
  subst hao
  exact ⟨hcp, rfl, hcg⟩

theorem cRegion_draw (hc : cRegion P ifs ops true = some l) : DrawOk P ifs ops l := by
  unfold cRegion at hc
  split at hc
  case h_2 => cases hc
  rename_i aops gs h1 h2
  simp only [if_true] at hc
  split at hc
  case isFalse => cases hc
  rename_i hok
  simp only [Bool.and_eq_true] at hok
  obtain ⟨⟨hslots, hedges⟩, hchain⟩ := hok
  simp only [Option.some.injEq] at hc
  obtain ⟨a1, a2⟩ := optAll_get h1
  obtain ⟨g1, g2⟩ := optAll_get h2
  simp only [Array.length_toList] at a1 g1
  have key : ∀ i ao, l[i]? = some ao → ∃ o p g, ops[i]? = some o ∧ aops[i]? = some p ∧ cOp P ifs o = some p ∧ cGuard ops o.guard = some g ∧
      ao = ({ dst := o.dst, op := p, guard := g, names := tmpsOf o.op.operands, lo := ((strongs aops).filter fun s => ((bef ops.toList []).getD i 0).testBit s).length, hi := ((strongs aops).filter fun s => !((bef ops.toList []).getD s 0).testBit i).length } : AOper) := by
    intro i ao hao
    rw [← hc] at hao
    simp only [List.getElem?_map, Option.map_eq_some_iff] at hao
    obtain ⟨⟨⟨o, p, g⟩, j⟩, hz, rfl⟩ := hao
    simp only [List.getElem?_zipIdx, Option.map_eq_some_iff, Nat.zero_add, Prod.mk.injEq] at hz
    obtain ⟨x, hz, e1, rfl⟩ := hz
    subst e1
    rw [List.getElem?_zip_eq_some] at hz
    obtain ⟨hz1, hz2⟩ := hz
    rw [List.getElem?_zip_eq_some] at hz2
    obtain ⟨hz2, hz3⟩ := hz2
    obtain ⟨p2, hp2, hcp⟩ := a2 i o hz1
    obtain ⟨g2', hg2, hcg⟩ := g2 i o hz1
    simp only at hz2 hz3
    rw [hz2] at hp2; rw [hz3] at hg2
    simp at hp2 hg2
    subst hp2; subst hg2
    exact ⟨o, p, g, by simpa using hz1, hz2, hcp, hcg, rfl⟩
  have hlen : l.length = ops.size := by rw [← hc]; simp [a1, g1]
  have hmap : l.map (·.op) = aops := by
    refine List.ext_getElem? fun i => ?_
    rw [List.getElem?_map]
    cases e : l[i]? with
    | none =>
      have := List.getElem?_eq_none_iff.1 e
      rw [List.getElem?_eq_none (by omega)]; rfl
    | some ao =>
      obtain ⟨o, p, g, _, hp, _, _, rfl⟩ := key i ao e
      rw [hp]; rfl
  have hcnt : ∀ (S : Nat → Bool), ((strongs aops).filter S).length = cntS (l.map (·.op)) 0 S := by
    intro S
    rw [hmap, ← strongs_count S aops 0, List.countP_eq_length_filter]; rfl
  refine ⟨⟨hlen, fun i o ao ho hao => ?_⟩, fun i o ao ho hao => ?_, fun i ao hao => ?_, fun i ao hao => ?_, ?_, ?_, ?_⟩
  · obtain ⟨o', p, g, ho', hp, hcp, hcg, rfl⟩ := key i ao hao
    rw [ho] at ho'; simp at ho'; subst ho'
    exact ⟨hcp, rfl, hcg⟩
  · obtain ⟨o', p, g, ho', hp, hcp, hcg, rfl⟩ := key i ao hao
    rw [ho] at ho'; simp at ho'; subst ho'
    rfl
  · obtain ⟨o', p, g, ho', hp, hcp, hcg, rfl⟩ := key i ao hao
    exact hcnt _
  · obtain ⟨o', p, g, ho', hp, hcp, hcg, rfl⟩ := key i ao hao
    exact hcnt _
  · intro j o t i p ho ht hp hpd hij
    unfold slotsOk at hslots
    rw [List.all_eq_true] at hslots
    have e1 := hslots (o, j) (by rw [List.mem_zipIdx_iff_getElem?]; simpa using ho)
    simp only [List.all_eq_true] at e1
    have e2 := e1 t ht (p, i) (by rw [List.mem_zipIdx_iff_getElem?]; simpa using hp)
    simp only [hpd, Bool.or_eq_true, bne_self_eq_false, Bool.false_eq_true, false_or, beq_iff_eq] at e2
    exact e2.resolve_left hij
  · intro j o e ho he hb
    unfold edgesOk at hedges
    rw [List.all_eq_true] at hedges
    have e1 := hedges (o, j) (by rw [List.mem_zipIdx_iff_getElem?]; simpa using ho)
    simp only [List.all_eq_true] at e1
    have e2 := e1 e he
    simpa [hb] using e2
  · intro i j x y hx hy sx sy hij
    have hmem : ∀ (k : Nat) (z : AOper), l[k]? = some z → isStrong z.op = true → k ∈ strongs aops := by
      intro k z hz hs
      unfold strongs
      simp only [List.mem_map, List.mem_filter]
      exact ⟨(z.op, k), ⟨by rw [List.mem_zipIdx_iff_getElem?, ← hmap]; simp [hz], hs⟩, rfl⟩
    rw [List.all_eq_true] at hchain
    have e1 := hchain i (hmem i x hx sx)
    rw [List.all_eq_true] at e1
    have e2 := e1 j (hmem j y hy sy)
    simp only [Bool.or_eq_true, decide_eq_true_eq] at e2
    exact e2.resolve_left (by omega)

/-- A REGION. -/
theorem region_wp (hcs : CallSound P ifs call) (hmt : MtOk P mt) (hmix : P.follows .mixedOrders = true) {id : Nat} {draw : Bool} (hc : cRegion P ifs ops draw = some l) {env : List AV} {h : AH} {env' : List AV} {h' : AH} (hrun : runRegion mt call l draw env h = some (env', h'))
    {φ : Emb} {w : World} {a : Act} (hE : VRs φ env a.tmps.toList) (hr : Rel P ifs φ w0 h w) {Q : Exit → Act → World → Prop} (hQ : ∀ φ' w' a', VRs φ' env' a'.tmps.toList → a'.defers = a.defers → Rel P ifs φ' w0 h' w' → Stp φ φ' w w' → Q .normal a' w') :
    (Code.region id ops draw).wp P Q a w := by
  unfold runRegion at hrun
  cases draw with
  | false =>
    simp only [Bool.false_eq_true, if_false] at hrun
    refine wp_region ?_
    rw [List.range_eq_range']
    exact inorder_wp hcs hmt (cRegion_plain hc) ops.size 0 (by omega) env h env' h' (by simpa using hrun) φ w a hE hr hQ
  | true =>
    simp only [if_true] at hrun
    split at hrun
    case h_2 => cases hrun
    rename_i env1 h1 hs cs hd
    split at hrun
    case isFalse => cases hrun
    rename_i hchk
    simp only [Option.some.injEq, Prod.mk.injEq] at hrun
    obtain ⟨rfl, rfl⟩ := hrun
    obtain ⟨c', _, _, k3, k4, k5⟩ := runDraw_tr l env h [h] [] _ _ _ _ 0 hd rfl rfl
    obtain ⟨⟨t, kt⟩, _⟩ := (show (∃ t, hs = [h] ++ t) ∧ True from ⟨by obtain ⟨c'', k1, _⟩ := runDraw_tr l env h [h] [] _ _ _ _ 0 hd rfl rfl; exact k1, trivial⟩)
    obtain ⟨E, V, C, e0, c0, e1, c1, hst⟩ := Tr.fun k5
    have hok := cRegion_draw hc
    refine wp_region_any hmix ?_
    subst e0
    refine draw_any (a0 := a) (φ0 := φ) (wS := w) (w0 := w0) hcs hmt hok c0 hst hchk (by rw [c1]; exact k4) (fun φ' w' a' q1 q2 q3 q4 => hQ φ' w' a' (by rw [← e1]; exact q1) q2 q3 q4) ops.size _ φ a _ ?_ ?_
    · have hg : ∀ k, (Array.replicate ops.size false).getD k false = false := by
        intro k
        rw [Array.getD_eq_getD_getElem?, Array.getElem?_replicate]; split <;> rfl
      refine ⟨by simp, fun i j hi => (by rw [hg] at hi; cases hi), ⟨h, ?_, hr.of_heap rfl rfl rfl rfl⟩, Stp.drawn rfl, ?_, fun t ht => ?_, rfl⟩
      · have : cntS (l.map (·.op)) 0 (fun k => (Array.replicate ops.size false).getD k false) = 0 := by
          have e3 := cntS_zero (l.map (·.op)) 0 0 (Nat.le_refl _)
          have e4 := cntS_congr (S := fun k => (Array.replicate ops.size false).getD k false) (S' := fun k => decide (k < 0)) (l.map (·.op)) 0 (fun k x _ _ => by rw [Nat.zero_add, hg]; simp)
          rw [e4, e3]
        rw [this, kt]; rfl
      · have := hE.len; simp at this; exact this.symm
      · have e2 : valAt l V (E 0) (fun k => (Array.replicate ops.size false).getD k false) ops.size t = (E 0).getD t .undef := by
          rw [valAt_none (i := 0) ops.size (by omega) (fun k _ _ _ => hg k)]; rfl
        rw [e2]
        exact opds_of hE (.tmp t) (.tmp t) rfl
    · rw [Array.toList_replicate, List.countP_replicate]; simp

def exOf : AExit → Exit
  | .normal => .normal
  | .exit id => .exit id
  | .ret => .ret

theorem loop_rounds {c : Code} {step : List AV → AH → Option (AExit × List AV × AH)} {Q : Exit → Act → World → Prop} {a0 : Act}
    (hs : ∀ env h ex env' h', step env h = some (ex, env', h') → ∀ φ w a, VRs φ env a.tmps.toList → Rel P ifs φ w0 h w → ∀ Q : Exit → Act → World → Prop, (∀ φ' w' a', VRs φ' env' a'.tmps.toList → a'.defers = a.defers → Rel P ifs φ' w0 h' w' → Stp φ φ' w w' → Q (exOf ex) a' w') → c.wp P Q a w) :
    ∀ (n : Nat) (env : List AV) (h : AH) (ex : AExit) (env' : List AV) (h' : AH), loopN step n env h = some (ex, env', h') → ∀ φ w a, VRs φ env a.tmps.toList → a.defers = a0.defers → Rel P ifs φ w0 h w → Stp φ0 φ wS w →
    (∀ φ' w' a', VRs φ' env' a'.tmps.toList → a'.defers = a0.defers → Rel P ifs φ' w0 h' w' → Stp φ0 φ' wS w' → Q (exOf ex) a' w') → Code.rounds P c Q n a w := by
  intro n
  induction n with
  | zero => intro env h ex env' h' hrun; simp [loopN] at hrun
  | succ n ih =>
    intro env h ex env' h' hrun φ w a hE hd hr hst hQ
    rw [rounds_succ]
    simp only [loopN] at hrun
    split at hrun
    · rename_i env1 h1 h1e
      refine hs _ _ _ _ _ h1e φ w a hE hr _ fun φ' w' a' q1 q2 q3 q4 => ?_
      exact ih _ _ _ _ _ hrun φ' w' a' q1 (q2.trans hd) q3 (hst.trans q4) hQ
    · rename_i id env1 h1 h1e
      simp only [Option.some.injEq, Prod.mk.injEq] at hrun
      obtain ⟨rfl, rfl, rfl⟩ := hrun
      exact hs _ _ _ _ _ h1e φ w a hE hr _ fun φ' w' a' q1 q2 q3 q4 => hQ φ' w' a' q1 (q2.trans hd) q3 (hst.trans q4)
    · rename_i env1 h1 h1e
      simp only [Option.some.injEq, Prod.mk.injEq] at hrun
      obtain ⟨rfl, rfl, rfl⟩ := hrun
      exact hs _ _ _ _ _ h1e φ w a hE hr _ fun φ' w' a' q1 q2 q3 q4 => hQ φ' w' a' q1 (q2.trans hd) q3 (hst.trans q4)
    · cases hrun

/-- CODE. -/
theorem code_wp (hcs : CallSound P ifs call) (hmt : MtOk P mt) (hmix : P.follows .mixedOrders = true) (k : Nat) : ∀ (c : Code) (ac : ACode), cCode P ifs c = some ac → ∀ (env : List AV) (h : AH) (ex : AExit) (env' : List AV) (h' : AH), acode mt call k ac env h = some (ex, env', h') →
    ∀ φ w a, VRs φ env a.tmps.toList → Rel P ifs φ w0 h w → ∀ Q : Exit → Act → World → Prop, (∀ φ' w' a', VRs φ' env' a'.tmps.toList → a'.defers = a.defers → Rel P ifs φ' w0 h' w' → Stp φ φ' w w' → Q (exOf ex) a' w') → c.wp P Q a w := by
  intro c
  induction c with
  | skip =>
    intro ac hc env h ex env' h' hrun φ w a hE hr Q hQ
    simp [cCode] at hc; subst hc
    simp only [acode, Option.some.injEq, Prod.mk.injEq] at hrun
    obtain ⟨rfl, rfl, rfl⟩ := hrun
    exact wp_skip (hQ φ w a hE rfl hr (Stp.refl _ _))
  | region id ops draw =>
    intro ac hc env h ex env' h' hrun φ w a hE hr Q hQ
    simp only [cCode, Option.map_eq_some_iff] at hc
    obtain ⟨l, hl, rfl⟩ := hc
    simp only [acode, Option.map_eq_some_iff, Prod.mk.injEq] at hrun
    obtain ⟨⟨e1, h1⟩, h2, rfl, rfl, rfl⟩ := hrun
    exact region_wp hcs hmt hmix hl h2 hE hr hQ
  | seq x y ihx ihy =>
    intro ac hc env h ex env' h' hrun φ w a hE hr Q hQ
    simp only [cCode] at hc
    split at hc <;> simp at hc
    rename_i ax ay h1 h2
    subst hc
    refine wp_seq ?_
    simp only [acode] at hrun
    split at hrun
    · rename_i env1 h1' hx
      refine ihx _ h1 _ _ _ _ _ hx φ w a hE hr _ fun φ' w' a' q1 q2 q3 q4 => ?_
      exact ihy _ h2 _ _ _ _ _ hrun φ' w' a' q1 q3 _ fun φ2 w2 a2 r1 r2 r3 r4 => hQ φ2 w2 a2 r1 (r2.trans q2) r3 (q4.trans r4)
    · rename_i id env1 h1' hx
      simp only [Option.some.injEq, Prod.mk.injEq] at hrun
      obtain ⟨rfl, rfl, rfl⟩ := hrun
      exact ihx _ h1 _ _ _ _ _ hx φ w a hE hr _ hQ
    · rename_i env1 h1' hx
      simp only [Option.some.injEq, Prod.mk.injEq] at hrun
      obtain ⟨rfl, rfl, rfl⟩ := hrun
      exact ihx _ h1 _ _ _ _ _ hx φ w a hE hr _ hQ
    · cases hrun
  | cond cnd x y ihx ihy =>
    intro ac hc env h ex env' h' hrun φ w a hE hr Q hQ
    simp only [cCode] at hc
    split at hc <;> simp at hc
    rename_i ac' ax ay h0 h1 h2
    subst hc
    simp only [acode] at hrun
    split at hrun
    case h_2 => cases hrun
    rename_i t et
    have hb := opds_of hE cnd _ h0
    rw [et] at hb
    refine wp_cond (vr_bool hb) ?_
    cases t with
    | true => simp only [if_true] at hrun ⊢; exact ihx _ h1 _ _ _ _ _ hrun φ w a hE hr _ hQ
    | false => simp only [Bool.false_eq_true, if_false] at hrun ⊢; exact ihy _ h2 _ _ _ _ _ hrun φ w a hE hr _ hQ
  | block id x ihx =>
    intro ac hc env h ex env' h' hrun φ w a hE hr Q hQ
    simp only [cCode, Option.map_eq_some_iff] at hc
    obtain ⟨ax, h1, rfl⟩ := hc
    refine wp_block ?_
    simp only [acode] at hrun
    split at hrun
    · rename_i j env1 h1' hx
      refine ihx _ h1 _ _ _ _ _ hx φ w a hE hr _ fun φ' w' a' q1 q2 q3 q4 => ?_
      split at hrun
      · rename_i hj
        simp only [Option.some.injEq, Prod.mk.injEq] at hrun
        obtain ⟨rfl, rfl, rfl⟩ := hrun
        simp only [exOf, Exit.inBlock, hj, if_true]
        exact hQ φ' w' a' q1 q2 q3 q4
      · rename_i hj
        simp only [Option.some.injEq, Prod.mk.injEq] at hrun
        obtain ⟨rfl, rfl, rfl⟩ := hrun
        simp only [exOf, Exit.inBlock, hj, if_false]
        exact hQ φ' w' a' q1 q2 q3 q4
    · rename_i r hno
      refine ihx _ h1 _ _ _ _ _ hrun φ w a hE hr _ fun φ' w' a' q1 q2 q3 q4 => ?_
      cases ex with
      | normal => exact hQ φ' w' a' q1 q2 q3 q4
      | ret => exact hQ φ' w' a' q1 q2 q3 q4
      | exit j => exact absurd hrun (hno j env' h')
  | loop x ihx =>
    intro ac hc env h ex env' h' hrun φ w a hE hr Q hQ
    simp only [cCode, Option.map_eq_some_iff] at hc
    obtain ⟨ax, h1, rfl⟩ := hc
    simp only [acode] at hrun
    exact wp_loop_rounds k (loop_rounds (a0 := a) (φ0 := φ) (wS := w) (fun env h ex env' h' hh φ w a hE hr Q hQ => ihx _ h1 _ _ _ _ _ hh φ w a hE hr Q hQ) k _ _ _ _ _ hrun φ w a hE rfl hr (Stp.refl _ _) hQ)
  | exit id =>
    intro ac hc env h ex env' h' hrun φ w a hE hr Q hQ
    simp [cCode] at hc; subst hc
    simp only [acode, Option.some.injEq, Prod.mk.injEq] at hrun
    obtain ⟨rfl, rfl, rfl⟩ := hrun
    exact wp_exit (hQ φ w a hE rfl hr (Stp.refl _ _))
  | ret =>
    intro ac hc env h ex env' h' hrun φ w a hE hr Q hQ
    simp [cCode] at hc; subst hc
    simp only [acode, Option.some.injEq, Prod.mk.injEq] at hrun
    obtain ⟨rfl, rfl, rfl⟩ := hrun
    exact wp_ret (hQ φ w a hE rfl hr (Stp.refl _ _))
  | _ => intro ac hc; simp [cCode] at hc

/-! ### Results -/
theorem result_sound {φ : Emb} {w : World} {env : List AV} {h : AH} {tmps : Array Value} (hE : VRs φ env tmps.toList) (hr : Rel P ifs φ w0 h w) {rv : ResultVar} {r : Nat × Option (Option Nat)} (hc : cResult P rv = some r) {v : AV} (hv : resultOf env h r = some v) :
    ∃ u, ((match rv with | .tmp t => pure (tmps.getD t undef) | .cell a t => do loadVar t (← asAddr (tmps.getD a undef))) : Sem Value).run P w = .ok u w ∧ VR φ v u := by
  have hop := opds_of (a := { tmps := tmps, defers := [] }) hE
  cases rv with
  | tmp t =>
    simp [cResult] at hc; subst hc
    simp only [resultOf, Option.some.injEq] at hv
    subst hv
    exact ⟨_, rfl, hop (.tmp t) (.tmp t) rfl⟩
  | cell a t =>
    simp only [cResult, Option.map_eq_some_iff] at hc
    obtain ⟨s, hs, rfl⟩ := hc
    simp only [resultOf] at hv
    obtain ⟨p, u, e, g1, g2⟩ := loadVar_sound hr hs (y := .tmp a) (hop (.tmp a) (.tmp a) rfl) hv
    have e' : tmps.getD a undef = .pointer (some p) := e
    exact ⟨u, by simp only [Sem.run_bind, e', asAddr, Sem.run_pure, Result.andThen_ok, g1], g2⟩

theorem results_sound {φ : Emb} {w : World} {env : List AV} {h : AH} {tmps : Array Value} (hE : VRs φ env tmps.toList) (hr : Rel P ifs φ w0 h w) : ∀ {l : List ResultVar} {rs : List (Nat × Option (Option Nat))} {vs : List AV}, optAll (l.map (cResult P)) = some rs → resultsOf env h rs = some vs →
    ∃ us : List Value, (l.mapM fun rv => ((match rv with | .tmp t => pure (tmps.getD t undef) | .cell a t => do loadVar t (← asAddr (tmps.getD a undef))) : Sem Value)).run P w = .ok us w ∧ VRs φ vs us
  | [], rs, vs, h1, h2 => by
    simp [optAll] at h1; subst h1
    simp [resultsOf] at h2; subst h2
    exact ⟨[], by simp, VRs.nil⟩
  | rv :: l, rs, vs, h1, h2 => by
    obtain ⟨r, r', h3, h4, rfl⟩ := optAll_cons h1
    simp only [resultsOf, Option.bind_eq_some_iff, Option.map_eq_some_iff] at h2
    obtain ⟨v, hv, vs', hvs, rfl⟩ := h2
    obtain ⟨u, g1, g2⟩ := result_sound hE hr h3 hv
    obtain ⟨us, k1, k2⟩ := results_sound hE hr h4 hvs
    exact ⟨u :: us, by rw [List.mapM_cons]; simp only [Sem.run_bind, g1, k1, Result.andThen_ok, Sem.run_pure], VRs.cons g2 k2⟩

theorem resultsFn_sound {φ : Emb} {w : World} {env : List AV} {h : AH} {tmps : Array Value} (hE : VRs φ env tmps.toList) (hr : Rel P ifs φ w0 h w) {fn : Func} {rs : List (Nat × Option (Option Nat))} {vs : List AV} (h1 : optAll (fn.results.toList.map (cResult P)) = some rs) (h2 : resultsOf env h rs = some vs) :
    ∃ u, (results fn tmps).run P w = .ok u w ∧ VR φ (oneOrTuple vs) u := by
  obtain ⟨us, g1, g2⟩ := results_sound hE hr h1 h2
  have hm : (fn.results.mapM fun rv => ((match rv with | .tmp t => pure (tmps.getD t undef) | .cell a t => do loadVar t (← asAddr (tmps.getD a undef))) : Sem Value)).run P w = .ok us.toArray w := by
    rw [Array.mapM_eq_mapM_toList]
    simp only [map_eq_pure_bind, Sem.run_bind]
    rw [g1]
    rfl
  refine ⟨if h : us.toArray.size = 1 then us.toArray[0] else .tuple us.toArray, ?_, ?_⟩
  · unfold results
    simp only [Sem.run_bind]
    exact (congrArg (fun r => Result.andThen r _) hm).trans rfl
  · cases vs with
    | nil =>
      simp only [VRs] at g2; subst g2
      simp only [oneOrTuple, VR]; exact ⟨#[], by simp, VRs.nil⟩
    | cons v vs =>
      simp only [VRs] at g2
      obtain ⟨u, us', rfl, k1, k2⟩ := g2
      cases vs with
      | nil => simp only [VRs] at k2; subst k2; simpa [oneOrTuple] using k1
      | cons v2 vs =>
        simp only [VRs] at k2
        obtain ⟨u2, us2, rfl, k3, k4⟩ := k2
        simp only [oneOrTuple, VR]
        exact ⟨_, by simp, VRs.cons k1 (VRs.cons k3 k4)⟩

/-- What is told of a function is so. -/
def SumSound (P : Program) (ifs : List TypeId) (T : Summary) : Prop := ∀ (f : FuncId) (s : List AV → AH → Option (AV × AH)), T f = some s → ∀ (args : List AV) (h : AH) (v : AV) (h' : AH), s args h = some (v, h') →
  ∀ (φ : Emb) (w0 w : World) (vs : Array Value), VRs φ args vs.toList → Rel P ifs φ w0 h w → CallOk P ifs φ w0 w h' v f vs

/-- **CALLS**: what the evaluator gives is what the function does. -/
theorem acall_sound {T : Summary} (hT : SumSound P ifs T) (hmt : MtOk P mt) (hmix : P.follows .mixedOrders = true) (k : Nat) : ∀ n, CallSound P ifs (acall (funcsOf P ifs) T mt k n) := by
  intro n
  induction n with
  | zero => exact ⟨fun f args h v h' hv => by simp [acall] at hv, fun l args h => rfl⟩
  | succ n ih =>
    refine ⟨fun f args h v h' hv => ?_, fun l args h => rfl⟩
    intro φ w0 w vs hvs hr
    simp only [acall] at hv
    split at hv
    · rename_i s hs
      exact hT f s hs args h v h' hv φ w0 w vs hvs hr
    · split at hv
      · cases hv
      · rename_i afn hf
        unfold funcsOf at hf
        split at hf
        case h_2 => cases hf
        rename_i fn hfn
        unfold cFunc at hf
        split at hf
        case h_2 => cases hf
        rename_i c hbody
        split at hf
        case h_2 => cases hf
        rename_i body rs hcc hrs
        split at hf
        · cases hf
        rename_i hname
        simp only [Option.some.injEq] at hf
        subst hf
        refine .inl ⟨by
           have hn : ¬ fn.name = "runtime.NumGoroutine" := by simpa using hname
           simp [callFunc, hfn, hn, hbody], ?_⟩
        have hE : VRs φ (args ++ List.replicate (fn.ntmps - args.length) .undef) (vs ++ Array.replicate (fn.ntmps - vs.size) undef).toList := by
          have hl := hvs.len
          simp only [Array.length_toList] at hl
          rw [Array.toList_append, Array.toList_replicate, hl]
          refine hvs.append ?_
          generalize fn.ntmps - vs.size = m
          induction m with
          | zero => exact VRs.nil
          | succ m ihm => rw [List.replicate_succ, List.replicate_succ]; exact VRs.cons vr_undef ihm
        refine calls_of_wp hfn hbody ?_
        dsimp only at hv
        split at hv
        · rename_i env' h1 hrun
          obtain ⟨vs', hvs', hq⟩ := Option.map_eq_some_iff.1 hv
          simp only [Prod.mk.injEq] at hq
          obtain ⟨rfl, rfl⟩ := hq
          refine code_wp ih hmt hmix k c body hcc _ _ _ _ _ hrun φ w _ hE hr _ fun φ' w' a' q1 q2 q3 q4 => ?_
          obtain ⟨u, g1, g2⟩ := resultsFn_sound q1 q3 hrs hvs'
          exact ⟨q2, u, g1, u, φ', rfl, g2, q3, q4⟩
        · rename_i env' h1 hrun
          obtain ⟨vs', hvs', hq⟩ := Option.map_eq_some_iff.1 hv
          simp only [Prod.mk.injEq] at hq
          obtain ⟨rfl, rfl⟩ := hq
          refine code_wp ih hmt hmix k c body hcc _ _ _ _ _ hrun φ w _ hE hr _ fun φ' w' a' q1 q2 q3 q4 => ?_
          obtain ⟨u, g1, g2⟩ := resultsFn_sound q1 q3 hrs hvs'
          exact ⟨q2, u, g1, u, φ', rfl, g2, q3, q4⟩
        · cases hv
end
end Go.Proofs.Ytkbekibljcdbjaa.Ax
