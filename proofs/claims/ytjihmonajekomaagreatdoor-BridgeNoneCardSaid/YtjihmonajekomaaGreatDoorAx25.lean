/- Where something is left open (the order of a map's entries): rules for code as for the evaluator without a bound, whatever is chosen. Conditions: as each theorem states. -/
import Derived.Test.YtjihmonajekomaaGreatDoorAx24
namespace Go.Proofs.YtjihmonajekomaaGreatDoor.Ax
open Go Go.RowKit
set_option linter.unusedVariables false

section
variable {P : Program} {ifs : List TypeId} {φ : Emb} {w0 w : World} {h : AH} {env : List AV}

/-- A map's iterator, stepped: over, or any entry that it has not met. -/
theorem nextMap_any (hr : Rel P ifs φ w0 h w) (ty : TypeId) {x' : Value} {r m since last clock : Nat} {seen : List Nat} {es : List (AV × AV × Nat)} (hx : VR φ (.ptr (some (r, 0))) x') (hg : h.get r = .mapIter (some m) since seen last) (hgm : h.get m = .map es clock)
    (hold : ∀ e ∈ es, e.2.2 < since) (hlast : since ≤ last) :
    ∃ v w', (do pure (Next.value (← Instr.next x' false ty)) : Sem Next).run P w = .ok (.value v) w' ∧
      (((∀ e ∈ es, e.2.2 ∈ seen) ∧ VR φ (.tuple [.bool false]) v ∧ Rel P ifs φ w0 h w' ∧ Stp φ φ w w') ∨
       (∃ e ∈ es, e.2.2 ∉ seen ∧ VR φ (.tuple [.bool true, e.1, e.2.1]) v ∧ Rel P ifs φ w0 (h.set r (.mapIter (some m) since (seen ++ [e.2.2]) clock)) w' ∧ Stp φ φ w w')) := by
  obtain ⟨bk, N, o, hφ, rfl, h1, h2⟩ := hr.iterAt hx hg (.inr ⟨_, _, _, _, rfl⟩)
  obtain ⟨_, m', rfl, h3⟩ := h2
  obtain ⟨bm, Nm, hφm, h4⟩ := vr_map h3
  obtain rfl : m' = some bm := by simpa using h4
  have hget : (getObj bk).run P w = .ok _ w := hr.getObj hφ h1 (by simp)
  obtain ⟨E, q1, q2, q3⟩ := hr.mapAt hφm hgm
  obtain ⟨l⟩ := E
  simp only at q2
  have hleft := MR.filter (fun n => !seen.contains n) q2
  have hgone' : (!seen.toArray.isEmpty && !l.toArray.isEmpty && l.toArray.all (·.born ≥ last)) = false := by
    have e1 := MR.all (fun n => decide (n ≥ last)) q2
    have e2 := q2.isEmpty
    have : (!es.isEmpty && es.all fun e => decide (e.2.2 ≥ last)) = false := by
      cases es with
      | nil => rfl
      | cons e r =>
        have := hold e (by simp)
        simp only [List.isEmpty_cons, Bool.not_false, Bool.true_and, List.all_cons, Bool.and_eq_false_imp, decide_eq_true_eq]
        intro h; omega
    cases hs : seen.toArray.isEmpty
    · simp only [Bool.not_false, Bool.true_and]
      rw [← this, ← e2, ← e1]; simp
    · simp
  have hlold : ∀ x ∈ l, x.born < since := by
    have := MR.all (fun n => decide (n < since)) q2
    have h2 : (es.all fun e => decide (e.2.2 < since)) = true := by simpa using hold
    rw [h2] at this
    simpa using this
  have hfo : (l.filter fun e => !seen.contains e.born).filter (fun e => decide (e.born < since)) = l.filter fun e => !seen.contains e.born := List.filter_eq_self.2 fun x hx => by simpa using hlold x (List.mem_filter.1 hx).1
  have hfn : (l.filter fun e => !seen.contains e.born).filter (fun e => decide (e.born ≥ since)) = [] := List.filter_eq_nil_iff.2 fun x hx => by have := hlold x (List.mem_filter.1 hx).1; simp; omega
  have hcand : ((if ((l.toArray.filter fun e : MapEntry => !seen.toArray.contains e.born).filter (·.born < since)).isEmpty then #[none] else #[]) ++ ((((l.toArray.filter fun e : MapEntry => !seen.toArray.contains e.born).filter (·.born < since)) ++ ((l.toArray.filter fun e : MapEntry => !seen.toArray.contains e.born).filter (·.born ≥ since))).map some) : Array (Option MapEntry)) = ((if (l.filter fun e : MapEntry => !seen.contains e.born).isEmpty then [none] else []) ++ (l.filter fun e : MapEntry => !seen.contains e.born).map some).toArray := by
    have a1 : (l.toArray.filter fun e : MapEntry => !seen.toArray.contains e.born) = (l.filter fun e : MapEntry => !seen.contains e.born).toArray := by simp
    rw [a1, List.filter_toArray, List.filter_toArray, hfo, hfn]
    cases (l.filter fun e : MapEntry => !seen.contains e.born) <;> simp
  cases hL : (l.filter fun e : MapEntry => !seen.contains e.born) with
  | nil =>
    refine ⟨.tuple #[.bool false], w, ?_, .inl ⟨?_, ?_, hr, Stp.refl _ _⟩⟩
    · unfold Instr.next
      simp only [Sem.run_bind, hget, Result.andThen_ok, q3, hgone', Bool.false_eq_true, if_false, hcand, hL, Sem.run_pure]
      simp [Question.forced]
    · have := MR.len hleft
      rw [hL] at this
      have h0 : es.filter (fun e => !seen.contains e.2.2) = [] := List.eq_nil_of_length_eq_zero (by simpa using this)
      intro e he
      have := List.filter_eq_nil_iff.1 h0 e he
      simpa using this
    · simp only [VR]; exact ⟨_, rfl, VRs.cons (by simp [VR]) VRs.nil⟩
  | cons x L =>
    -- some answer
    have hans : ∃ (i : Nat) (w1 : World), i < (x :: L).length ∧ (choose (.mapNext (x :: L).length)).run P w = .ok i w1 ∧ w1.heap = w.heap ∧ w1.os = w.os ∧ w1.tape = w.tape ∧ w1.output = w.output := by
      simp only [run_choose_drew]
      by_cases hf : (Question.mapNext (x :: L).length).forced = true
      · exact ⟨0, w, by simp, by rw [if_pos hf], rfl, rfl, rfl, rfl⟩
      · refine ⟨_, w.drew, ?_, by rw [if_neg hf], rfl, rfl, rfl, rfl⟩
        simp only [Question.cut]
        exact Nat.mod_lt _ (by simp)
    obtain ⟨i, w1, hi, hch, hw1, hw2, hw3, hw4⟩ := hans
    have hr1 : Rel P ifs φ w0 h w1 := hr.of_heap hw1 hw2 hw3 hw4
    have hs1 : Stp φ φ w w1 := Stp.drawn hw1
    have hlen := MR.len hleft
    rw [hL] at hlen hleft
    obtain ⟨e, he⟩ : ∃ e, (es.filter fun e => !seen.contains e.2.2)[i]? = some e := ⟨_, List.getElem?_eq_getElem (by omega)⟩
    have hme : ∃ me, (x :: L)[i]? = some me ∧ VR φ e.1 me.key ∧ VR φ e.2.1 me.val ∧ me.born = e.2.2 := by
      clear hch hL hlen hi
      revert hleft he
      generalize (es.filter fun e => !seen.contains e.2.2) = A
      generalize x :: L = B
      intro hA
      induction A generalizing B i with
      | nil => intro he; simp at he
      | cons a A ih =>
        intro he
        simp only [MR] at hA
        obtain ⟨mm, t, rfl, k1, k2, k3, k4⟩ := hA
        cases i with
        | zero => simp at he; subst he; exact ⟨mm, by simp, k1, k2, k3⟩
        | succ i =>
          obtain ⟨me, g1, g2⟩ := ih i t k4 (by simpa using he)
          exact ⟨me, by simpa using g1, g2⟩
    obtain ⟨me, g1, g2, g3, g4⟩ := hme
    have hmem := List.mem_filter.1 (List.mem_of_getElem? he)
    have hb1 : w1.heap[bk]? = some (.mapIter (some bm) since seen.toArray last) := by rw [hw1]; exact h1
    obtain ⟨z1, z2⟩ := hr1.setObj (blk := .mapIter (some m) since (seen ++ [e.2.2]) clock) (o := .mapIter (some bm) since (seen.toArray.push me.born) clock) hφ (by rw [hg]; simp) (by rw [hg]; rfl) rfl ⟨rfl, some bm, by rw [g4]; simp, h3⟩
    refine ⟨.tuple #[.bool true, me.key, me.val], _, ?_, .inr ⟨e, hmem.1, by simpa using hmem.2, ?_, z1, hs1.trans z2⟩⟩
    · unfold Instr.next
      have hsz : (((if (x :: L).isEmpty then [none] else []) ++ (x :: L).map some : List (Option MapEntry)).toArray).size = (x :: L).length := by simp
      simp only [Sem.run_bind, hget, Result.andThen_ok, q3, hgone', Bool.false_eq_true, if_false, hcand, hL, hsz, hch]
      have hgi : ((((if (x :: L).isEmpty then [none] else []) ++ (x :: L).map some : List (Option MapEntry)).toArray)[i]?) = some (some me) := by
        simp only [List.isEmpty_cons, Bool.false_eq_true, if_false, List.nil_append, List.getElem?_toArray, List.getElem?_map, g1, Option.map]
      rw [hgi]
      simp [run_setObjX hb1]
    · simp only [VR]
      exact ⟨_, rfl, VRs.cons (by simp [VR]) (VRs.cons g2 (VRs.cons g3 VRs.nil))⟩
end

/-! ### Code, whatever is chosen -/
section n
variable (P : Program) (ifs : List TypeId)

/-- How a call ends, whatever is chosen. -/
def RetN (φ : Emb) (w0 w : World) (Q : AV → AH → Prop) (e : Ending) (w' : World) : Prop := ∃ v h' v' φ', Q v h' ∧ e = .returned v' ∧ VR φ' v v' ∧ Rel P ifs φ' w0 h' w' ∧ Stp φ φ' w w'

/-- What a function does, whatever is chosen. -/
def NCall (t : Target) (args : List AV) (h : AH) (Q : AV → AH → Prop) : Prop :=
  match t with
  | .fn f => ∀ (φ : Emb) (w0 w : World) (vs : Array Value), VRs φ args vs.toList → Rel P ifs φ w0 h w →
      ((callFunc f vs).run P w = .ok (.enter f vs) w ∧ Calls P f vs w (RetN P ifs φ w0 w Q)) ∨
      (∃ v h' v' w' φ', Q v h' ∧ (callFunc f vs).run P w = .ok (.value v') w' ∧ VR φ' v v' ∧ Rel P ifs φ' w0 h' w' ∧ Stp φ φ' w w')
  | _ => False

/-- What code does, whatever is chosen. -/
def NCode (ac : ACode) (env : List AV) (h : AH) (Q : AExit → List AV → AH → Prop) : Prop :=
  ∀ (c : Code), cCode P ifs c = some ac → ∀ (φ : Emb) (w0 w : World) (a : Act), VRs φ env a.tmps.toList → Rel P ifs φ w0 h w →
    ∀ R : Exit → Act → World → Prop, (∀ ex env' h' φ' w' a', Q ex env' h' → VRs φ' env' a'.tmps.toList → DfrR φ' w w' a a' → Rel P ifs φ' w0 h' w' → Stp φ φ' w w' → R (exOf ex) a' w') → c.wpIn (FW none) 0 P R a w
variable {P ifs}

theorem NCall.mono {t : Target} {args : List AV} {h : AH} {Q Q' : AV → AH → Prop} (hw : NCall P ifs t args h Q) (hq : ∀ v h', Q v h' → Q' v h') : NCall P ifs t args h Q' := by
  cases t with
  | fn f =>
    intro φ w0 w vs hvs hr
    rcases hw φ w0 w vs hvs hr with ⟨h1, h2⟩ | ⟨v, h', v', w', φ', h1, h2⟩
    · exact .inl ⟨h1, Calls.mono h2 fun e w' ⟨v, h', v', φ', k1, k2⟩ => ⟨v, h', v', φ', hq _ _ k1, k2⟩⟩
    · exact .inr ⟨v, h', v', w', φ', hq _ _ h1, h2⟩
  | _ => exact hw.elim

theorem NCode.mono {ac : ACode} {env : List AV} {h : AH} {Q Q' : AExit → List AV → AH → Prop} (hw : NCode P ifs ac env h Q) (hq : ∀ ex env' h', Q ex env' h' → Q' ex env' h') : NCode P ifs ac env h Q' :=
  fun c hc φ w0 w a hE hr R hR => hw c hc φ w0 w a hE hr R fun ex env' h' φ' w' a' q => hR ex env' h' φ' w' a' (hq _ _ _ q)

variable {T : Summary} {mt : Methods}

/-- What the evaluator gives is so, whatever is chosen. -/
theorem NCall.ofW (hT : SumSound P ifs T) (hmt : MtOk P mt) (hmix : P.follows .mixedOrders = true) {f : FuncId} {args : List AV} {h : AH} {Q : AV → AH → Prop} (hw : WCall ⟨funcsOf P ifs, T, mt⟩ (.fn f) args h Q) : NCall P ifs (.fn f) args h Q := by
  obtain ⟨k, n, v, h', e, q⟩ := hw.run
  intro φ w0 w vs hvs hr
  rcases (acall_sound hT hmt hmix k n).fn f args h v h' e φ w0 w vs hvs hr with ⟨h1, h2⟩ | ⟨v', w', φ', h1, h2, h3, h4⟩
  · exact .inl ⟨h1, Calls.mono h2 fun e w' ⟨v', φ', k1, k2, k3, k4⟩ => ⟨v, h', v', φ', q, k1, k2, k3, k4⟩⟩
  · exact .inr ⟨v, h', v', w', φ', q, h1, h2, h3, h4⟩

theorem NCode.ofW (hT : SumSound P ifs T) (hmt : MtOk P mt) (hmix : P.follows .mixedOrders = true) {ac : ACode} {env : List AV} {h : AH} {Q : AExit → List AV → AH → Prop} (hw : WCode ⟨funcsOf P ifs, T, mt⟩ false ac env h Q) : NCode P ifs ac env h Q := by
  obtain ⟨K, ⟨ex, env', h'⟩, h1, h2⟩ := hw
  intro c hc φ w0 w a hE hr R hR
  exact code_wp (acall_sound hT hmt hmix K K) hmt hmix K none c ac hc env h ex env' h' (h1 K K (Nat.le_refl _) (Nat.le_refl _)) φ w a hE hr R fun φ' w' a' q1 q2 q3 q4 => hR _ _ _ _ _ _ h2 q1 q2 q3 q4

/-- One operation, whatever is chosen. -/
theorem opN_wp (hmt : MtOk P mt) {φ : Emb} {w0 w : World} {h : AH} {env : List AV} (hr : Rel P ifs φ w0 h w) {o : Oper} {ao : AOp} (hc : ao = cOpS P ifs o) {a : Act} (hE : VRs φ env a.tmps.toList) {Q : AV → AH → Prop} (hv : wpOp (NCall P ifs) mt ao env h Q)
    {next : Act → World → Prop} {R : Exit → Act → World → Prop} (hn : ∀ v h' φ' w' v', Q v h' → VR φ' v v' → Rel P ifs φ' w0 h' w' → Stp φ φ' w w' → next (a.put o.dst v') w') : o.wpIn (FW none) 0 P a w next R := by
  have ho := opds_of hE
  -- what isn't a call
  have plain : ∀ v h', evalOp noMt noCall env h ao = some (v, h') → Q v h' → o.wpIn (FW none) 0 P a w next R := by
    intro v h' he q
    have hno : CallSound P ifs noCall := ⟨fun f args h v h' hv => (by cases hv), fun f args h v h' hv => (by cases hv), fun l args h v h' hv => (by cases hv)⟩
    exact op_wp hno (noMt_ok P) hr (opc hc he) ho rfl he fun φ' w' v' k1 k2 k3 => hn v h' φ' w' v' q k1 k2 k3
  unfold wpOp at hv
  split at hv
  · rename_i ek
    obtain ⟨v, e, q⟩ := hv
    exact plain v h (by unfold evalOp; rw [ek]; simp only [e]; rfl) q
  · rename_i ek
    obtain ⟨v, e, q⟩ := hv
    exact plain v h (by unfold evalOp; rw [ek]; simp only [e]; rfl) q
  · rename_i ek
    have strong : BQ (evalStrong noMt noCall env h ao) (fun r => Q r.1 r.2) → o.wpIn (FW none) 0 P a w next R := fun ⟨r, e, q⟩ => plain r.1 r.2 (by unfold evalOp; rw [ek]; exact e) q
    -- a call's end
    have fin : ∀ (f : FuncId) (vs : Array Value) (args : List AV), NCall P ifs (.fn f) args h Q → VRs φ args vs.toList → cOp P ifs o = some ao → (execOp a.eval o).run P w = (callFunc f vs).run P w → o.wpIn (FW none) 0 P a w next R := by
      intro f vs args hN hvs hcc hrun
      refine wpIn_of hcc ?_
      rw [hrun]
      rcases hN φ w0 w vs hvs hr with ⟨h1, h2⟩ | ⟨v, h', v', w', φ', h1, h2, h3, h4, h5⟩
      · rw [h1, Oper.uponIn_enter]
        refine ⟨fun h => by simp [FW, Fence.wide] at h, callsIn_FW.2 (Calls.mono h2 fun e w' ⟨v, h', v', φ', q, he, k1, k2, k3⟩ => ?_)⟩
        subst he
        exact hn v h' φ' w' v' q k1 k2 k3
      · rw [h2, Oper.uponIn_value]
        exact hn v h' φ' w' v' h1 h3 h4 h5
    have hcc : ao.isCall = true → cOp P ifs o = some ao := by
      intro hcall
      unfold cOpS at hc
      split at hc
      · rename_i x e; rw [hc, e]
      · subst hc; simp [AOp.isCall] at hcall
    cases ao
    case call f xs =>
      have hcc := hcc rfl
      obtain ⟨c, fo, h1, h2, h3, h4⟩ := call_inv hcc
      unfold wpStrong at hv
      simp only at hv
      unfold wpApply at hv
      split at hv
      · rename_i g first captured ef
        have hf := ho fo f h3
        rw [ef] at hf
        simp only [VR] at hf
        obtain ⟨fs', cs', e1, e2, e3⟩ := hf
        have hargs := cOpds_vr ho h4
        refine fin g (fs' ++ (c.args.map a.eval) ++ cs') _ hv ?_ hcc ?_
        · have e4 : (fs' ++ (c.args.map a.eval) ++ cs').toList = fs'.toList ++ (c.args.toList.map a.eval) ++ cs'.toList := by simp
          rw [e4]
          exact (e2.append hargs).append e3
        · obtain ⟨dst, op, ty, pos, after, guard⟩ := o
          simp only at h1
          subst h1
          simp [execOp, resolve, h2, e1, Deferred.ofValue, invoke]
      · exact hv.elim
      · exact hv.elim
    case invoke r name xs =>
      have hcc := hcc rfl
      obtain ⟨c, ro, h1, h2, h3, h4⟩ := invoke_inv hcc
      unfold wpStrong at hv
      simp only at hv
      unfold wpInvoke at hv
      split at hv
      case h_2 => exact hv.elim
      rename_i t u er
      obtain ⟨f, hf, hv⟩ := hv
      have hrv := ho ro r h3
      rw [er] at hrv
      obtain ⟨u', e1, e2⟩ := vr_iface hrv
      have hargs := cOpds_vr ho h4
      refine fin f (#[u'] ++ (c.args.map a.eval)) _ hv (vrs_cons_arr e2 (by simpa using hargs)) hcc ?_
      obtain ⟨dst, op, ty, pos, after, guard⟩ := o
      simp only at h1
      subst h1
      have hex : Array.extract (#[Value.iface t u'] ++ Array.map a.eval c.args) 1 (#[Value.iface t u'] ++ Array.map a.eval c.args).size = Array.map a.eval c.args := by
        apply Array.ext'
        simp
        exact List.take_of_length_le (by simp)
      have hex0 : (#[Value.iface t u'] ++ Array.map a.eval c.args)[0]? = some (Value.iface t u') := by
        rw [Array.getElem?_append_left (by simp)]; rfl
      simp only [execOp, resolve, h2, Sem.run_bind, Sem.run_pure, Result.andThen_ok, e1, invoke, hex, hex0]
      simp only [callMethod, Sem.run_bind, run_program, Result.andThen_ok, hmt t name f hf u' w]
    all_goals exact strong hv

/-- A region in the text's order, whatever is chosen. -/
theorem inorderN_wp (hmt : MtOk P mt) {ops : Array Oper} {l : List AOper} (hl : RegionOk P ifs ops l) {w0 : World} {R : Exit → Act → World → Prop} : ∀ (m i : Nat), i + m = ops.size → ∀ (env : List AV) (h : AH) (Q : List AV → AH → Prop), wpOps (NCall P ifs) mt (l.drop i) env h Q →
    ∀ (φ : Emb) (w : World) (a : Act), VRs φ env a.tmps.toList → Rel P ifs φ w0 h w →
    (∀ env' h' φ' w' a', Q env' h' → VRs φ' env' a'.tmps.toList → a'.defers = a.defers → Rel P ifs φ' w0 h' w' → Stp φ φ' w w' → R .normal a' w') → wpOpsIn (FW none) 0 P ops R (List.range' i m) a w := by
  intro m
  induction m with
  | zero =>
    intro i hi env h Q hrun φ w a hE hr hQ
    have : l.drop i = [] := List.drop_eq_nil_of_le (by have := hl.1; omega)
    rw [this] at hrun
    exact hQ env h φ w a hrun hE rfl hr (Stp.refl _ _)
  | succ m ih =>
    intro i hi env h Q hrun φ w a hE hr hQ
    have hil : i < l.length := by have := hl.1; omega
    have hio : i < ops.size := by omega
    have hd : l.drop i = l[i] :: l.drop (i + 1) := List.drop_eq_getElem_cons hil
    rw [hd] at hrun
    have hok := hl.2 i ops[i] l[i] (by simp [hio]) (by simp [hil])
    rw [List.range'_succ, wpOpsIn_cons]
    unfold wpOpIn
    rw [Array.getElem?_eq_getElem hio]
    simp only
    unfold wpOps at hrun
    rw [wanted_sound hok.guard (fun s want _ => vrs_slot hE s)]
    split at hrun
    · rename_i hw
      rw [if_pos hw]
      refine opN_wp hmt hr hok.op hE hrun fun v h1 φ' w' v' q k1 k2 k3 => ?_
      rw [hok.dst] at q
      refine ih (i + 1) (by omega) _ _ _ q φ' w' _ (put_vr (VRs.ext k3.ext _ _ hE) k1) k2 fun env2 h2 φ2 w2 a2 q0 q1 q2 q3 q4 => ?_
      exact hQ env2 h2 φ2 w2 a2 q0 q1 (by rw [q2, put_defers]) q3 (k3.trans q4)
    · rename_i hw
      rw [if_neg hw]
      rw [hok.dst] at hrun
      refine ⟨about_any _ _ _, ?_⟩
      refine ih (i + 1) (by omega) _ _ _ hrun φ w _ (put_vr hE vr_undef) hr fun env2 h2 φ2 w2 a2 q0 q1 q2 q3 q4 => ?_
      exact hQ env2 h2 φ2 w2 a2 q0 q1 (by rw [q2, put_defers]) q3 q4

theorem cCode_region {c : Code} {ops : List AOper} {d : Bool} (hc : cCode P ifs c = some (.region ops d)) : ∃ id mops, c = .region id mops d ∧ cRegion P ifs mops d = some ops := by
  unfold cCode at hc
  split at hc <;> first | (cases hc; done) | (split at hc <;> first | (cases hc; done) | (simp at hc; done)) | (simp at hc; done) | skip
  simp only [Option.map_eq_some_iff] at hc
  obtain ⟨l, hl, e⟩ := hc
  simp only [ACode.region.injEq] at e
  obtain ⟨rfl, rfl⟩ := e
  exact ⟨_, _, rfl, hl⟩

theorem cCode_seq {c : Code} {x y : ACode} (hc : cCode P ifs c = some (.seq x y)) : ∃ a b, c = .seq a b ∧ cCode P ifs a = some x ∧ cCode P ifs b = some y := by
  unfold cCode at hc
  split at hc <;> first | (cases hc; done) | (simp at hc; done) | skip
  all_goals split at hc <;> first | (cases hc; done) | (simp at hc; done) | skip
  rename_i a b _ _ _ h1 h2
  simp at hc
  obtain ⟨rfl, rfl⟩ := hc
  exact ⟨_, _, rfl, h1, h2⟩

theorem cCode_block {c : Code} {id : Nat} {x : ACode} (hc : cCode P ifs c = some (.block id x)) : ∃ a, c = .block id a ∧ cCode P ifs a = some x := by
  unfold cCode at hc
  split at hc <;> first | (cases hc; done) | (split at hc <;> first | (cases hc; done) | (simp at hc; done)) | (simp at hc; done) | skip
  simp only [Option.map_eq_some_iff] at hc
  obtain ⟨l, hl, e⟩ := hc
  simp only [ACode.block.injEq] at e
  obtain ⟨rfl, rfl⟩ := e
  exact ⟨_, rfl, hl⟩

theorem cCode_loop {c : Code} {x : ACode} (hc : cCode P ifs c = some (.loop x)) : ∃ a, c = .loop a ∧ cCode P ifs a = some x := by
  unfold cCode at hc
  split at hc <;> first | (cases hc; done) | (split at hc <;> first | (cases hc; done) | (simp at hc; done)) | (simp at hc; done) | skip
  simp only [Option.map_eq_some_iff] at hc
  obtain ⟨l, hl, e⟩ := hc
  simp only [ACode.loop.injEq] at e
  subst e
  exact ⟨_, rfl, hl⟩

theorem NCode.region (hmt : MtOk P mt) {ops : List AOper} {env : List AV} {h : AH} {Q : AExit → List AV → AH → Prop} (hw : wpOps (NCall P ifs) mt ops env h (NQ Q)) : NCode P ifs (.region ops false) env h Q := by
  intro c hc φ w0 w a hE hr R hR
  obtain ⟨id, mops, rfl, hl⟩ := cCode_region hc
  refine wpIn_region ?_
  rw [List.range_eq_range']
  exact inorderN_wp hmt (cRegion_plain hl) mops.size 0 (by omega) env h (NQ Q) (by simpa using hw) φ w a hE hr fun env' h' φ' w' a' q q1 q2 q3 q4 => hR .normal env' h' φ' w' a' q q1 (.refl q2) q3 q4

theorem NCode.seq {x y : ACode} {env : List AV} {h : AH} {Q : AExit → List AV → AH → Prop} (hw : NCode P ifs x env h (SeqQ (NCode P ifs) y Q)) : NCode P ifs (.seq x y) env h Q := by
  intro c hc φ w0 w a hE hr R hR
  obtain ⟨ca, cb, rfl, h1, h2⟩ := cCode_seq hc
  refine wpIn_seq ?_
  refine hw ca h1 φ w0 w a hE hr _ fun ex env' h' φ' w' a' q q1 q2 q3 q4 => ?_
  cases ex with
  | normal => exact q cb h2 φ' w0 w' a' q1 q3 R fun ex env2 h2 φ2 w2 a2 r0 r1 r2 r3 r4 => hR ex env2 h2 φ2 w2 a2 r0 r1 (q2.trans q4.size r4 r2) r3 (q4.trans r4)
  | exit id => exact hR _ _ _ _ _ _ q q1 q2 q3 q4
  | ret => exact hR _ _ _ _ _ _ q q1 q2 q3 q4

theorem NCode.skip {env : List AV} {h : AH} {Q : AExit → List AV → AH → Prop} (hw : Q .normal env h) : NCode P ifs .skip env h Q := by
  intro c hc φ w0 w a hE hr R hR
  have : c = .skip := by
    unfold cCode at hc
    split at hc <;> first | rfl | (cases hc; done) | (split at hc <;> first | (cases hc; done) | (simp at hc; done)) | (simp at hc; done)
  subst this
  exact wpIn_skip (hR _ _ _ φ w a hw hE (.refl rfl) hr (Stp.refl _ _))

theorem NCode.exit {id : Nat} {env : List AV} {h : AH} {Q : AExit → List AV → AH → Prop} (hw : Q (.exit id) env h) : NCode P ifs (.exit id) env h Q := by
  intro c hc φ w0 w a hE hr R hR
  have : c = .exit id := by
    unfold cCode at hc
    split at hc <;> first | (cases hc; done) | (split at hc <;> first | (cases hc; done) | (simp at hc; done)) | (simp at hc; done) | (simp at hc; subst hc; rfl)
  subst this
  exact wpIn_exit (hR _ _ _ φ w a hw hE (.refl rfl) hr (Stp.refl _ _))

theorem NCode.ret {env : List AV} {h : AH} {Q : AExit → List AV → AH → Prop} (hw : Q .ret env h) : NCode P ifs .ret env h Q := by
  intro c hc φ w0 w a hE hr R hR
  have : c = .ret := by
    unfold cCode at hc
    split at hc <;> first | rfl | (cases hc; done) | (split at hc <;> first | (cases hc; done) | (simp at hc; done)) | (simp at hc; done)
  subst this
  exact wpIn_ret (hR _ _ _ φ w a hw hE (.refl rfl) hr (Stp.refl _ _))

theorem NCode.cond {cnd : AOpd} {x y : ACode} {env : List AV} {h : AH} {Q : AExit → List AV → AH → Prop} (hw : CondQ (cnd.ev env) (NCode P ifs x env h Q) (NCode P ifs y env h Q)) : NCode P ifs (.cond cnd x y) env h Q := by
  intro c hc φ w0 w a hE hr R hR
  unfold CondQ at hw
  split at hw
  case h_2 => exact hw.elim
  rename_i t et
  have : ∃ mc ca cb, c = .cond mc ca cb ∧ cOpd mc = some cnd ∧ cCode P ifs ca = some x ∧ cCode P ifs cb = some y := by
    unfold cCode at hc
    split at hc <;> first | (cases hc; done) | (simp at hc; done) | skip
    all_goals first | (split at hc <;> first | (cases hc; done) | (simp at hc; done) | skip) | skip
    · rename_i mc ca cb _ _ _ h0 h1 h2
      simp at hc
      obtain ⟨rfl, rfl, rfl⟩ := hc
      exact ⟨_, _, _, rfl, h0, h1, h2⟩
    · simp at hc
      obtain ⟨rfl, _⟩ := hc
      simp [AOpd.ev, AV.undef] at et
  obtain ⟨mc, ca, cb, rfl, h0, h1, h2⟩ := this
  have hb := opds_of hE mc _ h0
  rw [et] at hb
  refine wpIn_cond (vr_bool hb) ?_
  cases t with
  | true => simp only [if_true]; exact hw.1 rfl ca h1 φ w0 w a hE hr R hR
  | false => simp only [Bool.false_eq_true, if_false]; exact hw.2 rfl cb h2 φ w0 w a hE hr R hR

theorem NCode.condT {cnd : AOpd} {x y : ACode} {env : List AV} {h : AH} {Q : AExit → List AV → AH → Prop} (e : cnd.ev env = .bool true) (hw : NCode P ifs x env h Q) : NCode P ifs (.cond cnd x y) env h Q :=
  .cond (by rw [e, CondQ_true]; exact hw)
theorem NCode.condF {cnd : AOpd} {x y : ACode} {env : List AV} {h : AH} {Q : AExit → List AV → AH → Prop} (e : cnd.ev env = .bool false) (hw : NCode P ifs y env h Q) : NCode P ifs (.cond cnd x y) env h Q :=
  .cond (by rw [e, CondQ_false]; exact hw)

theorem NCode.block {id : Nat} {x : ACode} {env : List AV} {h : AH} {Q : AExit → List AV → AH → Prop} (hw : NCode P ifs x env h (BlockQ id Q)) : NCode P ifs (.block id x) env h Q := by
  intro c hc φ w0 w a hE hr R hR
  obtain ⟨ca, rfl, h1⟩ := cCode_block hc
  refine wpIn_block ?_
  refine hw ca h1 φ w0 w a hE hr _ fun ex env' h' φ' w' a' q q1 q2 q3 q4 => ?_
  cases ex with
  | normal => exact hR _ _ _ _ _ _ q q1 q2 q3 q4
  | ret => exact hR _ _ _ _ _ _ q q1 q2 q3 q4
  | exit j =>
    simp only [BlockQ_exit] at q
    by_cases hj : j = id
    · rw [if_pos hj] at q
      simp only [exOf, Exit.inBlock, hj, if_true]
      exact hR .normal _ _ _ _ _ q q1 q2 q3 q4
    · rw [if_neg hj] at q
      simp only [exOf, Exit.inBlock, hj, if_false]
      exact hR (.exit j) _ _ _ _ _ q q1 q2 q3 q4

/-- A loop: an invariant with a measure that falls. -/
theorem NCode.loop {x : ACode} {Q : AExit → List AV → AH → Prop} (Inv : Nat → List AV → AH → Prop)
    (hstep : ∀ m env h, Inv m env h → NCode P ifs x env h fun ex env' h' => match ex with
      | .normal => ∃ m', m' < m ∧ Inv m' env' h'
      | ex => Q ex env' h') : ∀ m env h, Inv m env h → NCode P ifs (.loop x) env h Q := by
  intro m0 env0 h0 hi0 c hc φ0 w0 w a0 hE0 hr0 R hR
  obtain ⟨ca, rfl, h1⟩ := cCode_loop hc
  have key : ∀ (n m : Nat), m < n → ∀ env h, Inv m env h → ∀ φ w1 a, VRs φ env a.tmps.toList → DfrR φ w w1 a0 a → Rel P ifs φ w0 h w1 → Stp φ0 φ w w1 → Code.roundsIn (FW none) 0 P ca R n a w1 := by
    intro n
    induction n with
    | zero => intro m hm; omega
    | succ n ih =>
      intro m hm env h hi φ w1 a hE hd hr hst
      rw [roundsIn_succ]
      refine hstep m env h hi ca h1 φ w0 w1 a hE hr _ fun ex env' h' φ' w' a' q q1 q2 q3 q4 => ?_
      cases ex with
      | normal =>
        obtain ⟨m', hm', hi'⟩ := q
        exact ih m' (by omega) env' h' hi' φ' w' a' q1 (hd.trans hst.size q4 q2) q3 (hst.trans q4)
      | exit id => exact hR (.exit id) _ _ _ _ _ q q1 (hd.trans hst.size q4 q2) q3 (hst.trans q4)
      | ret => exact hR .ret _ _ _ _ _ q q1 (hd.trans hst.size q4 q2) q3 (hst.trans q4)
  exact wpIn_loop_rounds (m0 + 1) (key (m0 + 1) m0 (by omega) env0 h0 hi0 φ0 w a0 hE0 (.refl rfl) hr0 (Stp.refl _ _))

theorem next_inv {o : Oper} {it : AOpd} (hc : cOp P ifs o = some (.nextMap it)) : ∃ x, o.op = .next x false ∧ cOpd x = some it := by
  obtain ⟨dst, op, ty, pos, after, guard⟩ := o
  cases op <;> simp only [cOp] at hc
  case next x b =>
    simp only [Option.map_eq_some_iff] at hc
    obtain ⟨y, hy, e⟩ := hc
    cases b with
    | true => cases e
    | false =>
      simp only [Bool.false_eq_true, if_false, AOp.nextMap.injEq] at e
      subst e
      exact ⟨x, rfl, hy⟩
  case call c =>
    exfalso
    split at hc
    · ((repeat' split at hc) <;> first | (cases hc; done) | (simp at hc; done) | (obtain ⟨_, _, hq⟩ := Option.map_eq_some_iff.1 hc; cases hq; done))
    · ((repeat' split at hc) <;> first | (cases hc; done) | (simp at hc; done) | (obtain ⟨_, _, hq⟩ := Option.map_eq_some_iff.1 hc; cases hq; done))
    · unfold cBuiltin at hc
      (repeat' split at hc) <;> first | (cases hc; done) | (simp at hc; done) | (obtain ⟨_, _, hq⟩ := Option.map_eq_some_iff.1 hc; cases hq; done)
  case makeMap t r => cases r <;> simp at hc
  all_goals ((repeat' split at hc) <;> first | (cases hc; done) | (simp at hc; done) | (obtain ⟨_, _, hq⟩ := Option.map_eq_some_iff.1 hc; cases hq; done))

/-- A region that begins with a step of a map's iterator: over, or any entry not met yet. -/
theorem NCode.next (hmt : MtOk P mt) {d : Nat} {it : AOpd} {lo hi : Nat} {lt : Bool} {rest : List AOper} {env : List AV} {h : AH} {Q : AExit → List AV → AH → Prop} {r m since last clock : Nat} {seen : List Nat} {es : List (AV × AV × Nat)}
    (hit : it.ev env = .ptr (some (r, 0))) (hg : h.get r = .mapIter (some m) since seen last) (hgm : h.get m = .map es clock) (hold : ∀ e ∈ es, e.2.2 < since) (hlast : since ≤ last)
    (h0 : (∀ e ∈ es, e.2.2 ∈ seen) → wpOps (NCall P ifs) mt rest (env.set d (.tuple [.bool false])) h (NQ Q))
    (h1 : ∀ e ∈ es, e.2.2 ∉ seen → wpOps (NCall P ifs) mt rest (env.set d (.tuple [.bool true, e.1, e.2.1])) (h.set r (.mapIter (some m) since (seen ++ [e.2.2]) clock)) (NQ Q)) :
    NCode P ifs (.region (⟨some d, .nextMap it, none, [], lo, hi, lt⟩ :: rest) false) env h Q := by
  intro c hc φ w0 w a hE hr R hR
  obtain ⟨id, mops, rfl, hl⟩ := cCode_region hc
  have hreg := cRegion_plain hl
  refine wpIn_region ?_
  rw [List.range_eq_range']
  have hlen := hreg.1
  simp only [List.length_cons] at hlen
  obtain ⟨n, hn⟩ : ∃ n, mops.size = n + 1 := ⟨mops.size - 1, by omega⟩
  rw [hn, List.range'_succ, wpOpsIn_cons]
  unfold wpOpIn
  have hio : 0 < mops.size := by omega
  rw [Array.getElem?_eq_getElem hio]
  have hok := hreg.2 0 mops[0] ⟨some d, .nextMap it, none, [], lo, hi, lt⟩ (by simp [hio]) rfl
  have hcop : cOp P ifs mops[0] = some (.nextMap it) := by
    have := hok.op
    unfold cOpS at this
    simp only at this
    split at this
    · rename_i x e; rw [e, ← this]
    · cases this
  obtain ⟨x, ho, hx⟩ := next_inv hcop
  simp only
  rw [wanted_sound hok.guard (fun s want _ => vrs_slot hE s)]
  simp only [wanted, if_true]
  have hxv := opds_of hE x it hx
  rw [hit] at hxv
  obtain ⟨v, w', k0, k1⟩ := nextMap_any hr (mops[0]).type hxv hg hgm hold hlast
  refine wpIn_of hcop ?_
  have hex : ∀ o : Oper, o.op = .next x false → (execOp a.eval o).run P w = (do pure (Next.value (← Instr.next (a.eval x) false o.type)) : Sem Next).run P w := by
    rintro ⟨dst, op, ty, pos, after, guard⟩ ho
    simp only at ho
    subst ho
    rfl
  have hrun : (execOp a.eval mops[0]).run P w = .ok (.value v) w' := by rw [hex _ ho, k0]
  rw [hrun, Oper.uponIn_value]
  have hdst := hok.dst
  simp only at hdst
  rw [← hdst]
  rcases k1 with ⟨g1, g2, g3, g4⟩ | ⟨e, he, hns, g2, g3, g4⟩
  · refine inorderN_wp hmt hreg n 1 (by omega) _ _ (NQ Q) (by simpa using h0 g1) φ w' _ (put_vr (dst := some d) hE g2) g3 fun env' h' φ' w2 a' q q1 q2 q3 q4 => ?_
    exact hR .normal env' h' φ' w2 a' q q1 (.refl (by rw [q2, put_defers])) q3 (g4.trans q4)
  · refine inorderN_wp hmt hreg n 1 (by omega) _ _ (NQ Q) (by simpa using h1 e he hns) φ w' _ (put_vr (dst := some d) hE g2) g3 fun env' h' φ' w2 a' q q1 q2 q3 q4 => ?_
    exact hR .normal env' h' φ' w2 a' q q1 (.refl (by rw [q2, put_defers])) q3 (g4.trans q4)

/-- A function, by its text. -/
theorem NCall.fn {f : FuncId} {fn : AFn} {args : List AV} {h : AH} {Q : AV → AH → Prop} (hf : funcsOf P ifs f = some fn)
    (hw : NCode P ifs fn.body (args ++ List.replicate (fn.ntmps - args.length) .undef) h (BodyQ fn.results Q)) : NCall P ifs (.fn f) args h Q := by
  intro φ w0 w vs hvs hr
  unfold funcsOf at hf
  split at hf
  case h_2 => cases hf
  rename_i mfn hfn
  unfold cFunc at hf
  split at hf
  case h_2 => cases hf
  rename_i c hbody
  split at hf
  case h_2 => cases hf
  rename_i body rs hcc hrs
  split at hf
  · cases hf
  rename_i hname
  simp only [Option.some.injEq] at hf
  subst hf
  refine .inl ⟨by
    have hn : ¬ mfn.name = "runtime.NumGoroutine" := by simpa using hname
    simp [callFunc, hfn, hn, hbody], ?_⟩
  have hE : VRs φ (args ++ List.replicate (mfn.ntmps - args.length) .undef) (vs ++ Array.replicate (mfn.ntmps - vs.size) undef).toList := by
    have hl := hvs.len
    simp only [Array.length_toList] at hl
    rw [Array.toList_append, Array.toList_replicate, hl]
    refine hvs.append ?_
    generalize mfn.ntmps - vs.size = m
    induction m with
    | zero => exact VRs.nil
    | succ m ihm => rw [List.replicate_succ, List.replicate_succ]; exact VRs.cons vr_undef ihm
  have fin : ∀ (env' : List AV) (h1 : AH) φ' w' a', BQ (resultsOf env' h1 rs) (fun vs => Q (oneOrTuple vs) h1) → VRs φ' env' a'.tmps.toList → DfrR φ' w w' { tmps := vs ++ Array.replicate (mfn.ntmps - vs.size) undef, defers := [] } a' → Rel P ifs φ' w0 h1 w' → Stp φ φ' w w' →
      LeavesInM (FW none) 0 P mfn a'.tmps (RetN P ifs φ w0 w Q) a'.defers .returning w' := by
    intro env' h1 φ' w' a' hq q1 q2 q3 q4
    obtain ⟨vs', hvs', q⟩ := hq
    obtain ⟨ms, e1, e2⟩ := q2
    rw [e1, List.append_nil]
    refine leaves_marks hr.below.size ms w' e2 q3 q4 fun w2 r2 s2 => ?_
    obtain ⟨u, g1, g2⟩ := resultsFn_sound q1 r2 hrs hvs'
    exact ⟨u, g1, _, _, u, φ', q, rfl, g2, r2, s2⟩
  refine callsIn_FW.1 (callsIn_of_wp_marks (F := FW none) (n := 0) hfn hbody trivial ?_)
  refine hw c hcc φ w0 w _ hE hr _ fun ex env' h' φ' w' a' q q1 q2 q3 q4 => ?_
  cases ex with
  | normal => exact fin env' h' φ' w' a' q q1 q2 q3 q4
  | ret => exact fin env' h' φ' w' a' q q1 q2 q3 q4
  | exit id => exact q.elim

/-- A LAW, whatever is chosen. -/
theorem ncalls_bool {f : FuncId} {args : List AV} {φ : Emb} {h : AH} {w : World} (hr : Rel P ifs φ w h w) (hv : NCall P ifs (.fn f) args h fun v _ => v = .bool true) {vs : Array Value} (hvs : VRs φ args vs.toList)
    (hbody : ∃ fn, P.funcs[f]? = some fn ∧ fn.body.isSome = true) : Calls P f vs w fun e w' => e = .returned (.bool true) ∧ Below w.heap.size w w' := by
  rcases hv φ w w vs hvs hr with ⟨_, hc⟩ | ⟨v, h', v', w', φ', _, h1, _⟩
  · refine Calls.mono hc fun e w' ⟨v, h', v', φ', q, he, k1, k2, k3⟩ => ?_
    subst q
    subst he
    rw [vr_bool k1]
    exact ⟨rfl, k2.below⟩
  · obtain ⟨fn, hf, hb⟩ := hbody
    have hbn : fn.body.isNone = false := by cases e : fn.body <;> simp_all
    exfalso
    unfold callFunc at h1
    simp only [Sem.run_bind, run_program, Result.andThen_ok, hf, hbn] at h1
    split at h1 <;> simp at h1
end n
end Go.Proofs.YtjihmonajekomaaGreatDoor.Ax
