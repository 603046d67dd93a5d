/- Any operation, calls too, as the walk takes it; a region in the text's order. Conditions: as each theorem states. -/
import Derived.Test.YtjihmonajekomaaGreatDoorAx15
import Derived.OrdersIn
import Derived.RangeFuncLeaves
import Derived.LoopNIn
namespace Go.Proofs.YtjihmonajekomaaGreatDoor.Ax
open Go Go.RowKit
set_option linter.unusedVariables false

/-- What a call leaves behind. -/
def Ret (P : Program) (ifs : List TypeId) (φ : Emb) (w0 w : World) (h' : AH) (v : AV) (e : Ending) (w' : World) : Prop :=
  ∃ v' φ', e = .returned v' ∧ VR φ' v v' ∧ Rel P ifs φ' w0 h' w' ∧ Stp φ φ' w w'

/-- The fence that lets all in; 'rd': the round's loop, if the frame is a round's. -/
def FW (rd : Option Nat) : Fence := { Fence.wide with round := rd }

theorem callsIn_FW {rd : Option Nat} {n : Nat} {P : Program} {f : FuncId} {args : Array Value} {w : World} {R : Ending → World → Prop} : CallsIn (FW rd) n P f args w R ↔ Calls P f args w R := callsIn_wide

def BodyOk (P : Program) (ifs : List TypeId) (φ : Emb) (w0 w : World) (h' : AH) (v : AV) (f : FuncId) (vs : Array Value) : Prop :=
  (callFunc f vs).run P w = .ok (.enter f vs) w ∧ Calls P f vs w (Ret P ifs φ w0 w h' v)

def CallOk (P : Program) (ifs : List TypeId) (φ : Emb) (w0 w : World) (h' : AH) (v : AV) (f : FuncId) (vs : Array Value) : Prop :=
  BodyOk P ifs φ w0 w h' v f vs ∨
  (∃ v' w' φ', (callFunc f vs).run P w = .ok (.value v') w' ∧ VR φ' v v' ∧ Rel P ifs φ' w0 h' w' ∧ Stp φ φ' w w')

structure CallSound (P : Program) (ifs : List TypeId) (call : Callee) : Prop where
  fn : ∀ (f : FuncId) (args : List AV) (h : AH) (v : AV) (h' : AH), call (.fn f) args h = some (v, h') →
    ∀ (φ : Emb) (w0 w : World) (vs : Array Value), VRs φ args vs.toList → Rel P ifs φ w0 h w → CallOk P ifs φ w0 w h' v f vs
  body : ∀ (f : FuncId) (args : List AV) (h : AH) (v : AV) (h' : AH), call (.body f) args h = some (v, h') →
    ∀ (φ : Emb) (w0 w : World) (vs : Array Value), VRs φ args vs.toList → Rel P ifs φ w0 h w → BodyOk P ifs φ w0 w h' v f vs
  yield : ∀ (l : Nat) (args : List AV) (h : AH) (v : AV) (h' : AH), call (.yield l) args h = some (v, h') →
    ∀ (φ : Emb) (w0 w : World) (vs : Array Value) (b N : Nat), φ l = some (b, 0, N) → VRs φ args vs.toList → Rel P ifs φ w0 h w →
      ∃ f tmps assign body, (Instr.yield b vs).run P w = .ok (.round b f tmps assign body) w ∧ RoundIn Fence.wide 0 P b f tmps assign body w (Ret P ifs φ w0 w h' v)

def MtOk (P : Program) (mt : Methods) : Prop := ∀ t name f, mt t name = some f → ∀ (v : Value) (w : World), (method (P.types.size + Made.depth) t v name).run P w = .ok (f, v) w

section
variable {P : Program} {ifs : List TypeId} {φ : Emb} {w0 w : World} {h h' : AH} {env : List AV} {ρ : Operand → Value} {mt : Methods} {call : Callee} {rd : Option Nat}


theorem builtin_noCall {b : Builtin} {ats : Array TypeId} {args : Array Operand} {ao : AOp} (hc : cBuiltin P b ats args = some ao) : ao.isCall = false := by
  unfold cBuiltin at hc
  (repeat' split at hc) <;> first | (cases hc; done) | (simp at hc; subst hc; rfl) | (obtain ⟨_, _, hq⟩ := Option.map_eq_some_iff.1 hc; subst hq; rfl)

theorem call_inv {o : Oper} {f : AOpd} {xs : List AOpd} (hc : cOp P ifs o = some (.call f xs)) : ∃ c fo, o.op = .call c ∧ c.callee = .value fo ∧ cOpd fo = some f ∧ cOpds c.args = some xs := by
  obtain ⟨dst, op, ty, pos, after, guard⟩ := o
  cases op <;> simp only [cOp] at hc
  case call c =>
    split at hc
    · rename_i fo hf
      split at hc <;> simp at hc
      rename_i h1 h2
      obtain ⟨rfl, rfl⟩ := hc
      exact ⟨c, fo, rfl, hf, h1, h2⟩
    · ((repeat' split at hc) <;> first | (cases hc; done) | (simp at hc; done) | (obtain ⟨_, _, hq⟩ := Option.map_eq_some_iff.1 hc; cases hq; done))
    · have := builtin_noCall hc; simp [AOp.isCall] at this
  case makeMap t r => cases r <;> simp at hc
  case next it isS => cases isS <;> ((repeat' split at hc) <;> first | (cases hc; done) | (simp at hc; done) | (obtain ⟨_, _, hq⟩ := Option.map_eq_some_iff.1 hc; cases hq; done))
  all_goals ((repeat' split at hc) <;> first | (cases hc; done) | (simp at hc; done) | (obtain ⟨_, _, hq⟩ := Option.map_eq_some_iff.1 hc; cases hq; done))

theorem invoke_inv {o : Oper} {r : AOpd} {name : String} {xs : List AOpd} (hc : cOp P ifs o = some (.invoke r name xs)) : ∃ c ro, o.op = .call c ∧ c.callee = .invoke ro name ∧ cOpd ro = some r ∧ cOpds c.args = some xs := by
  obtain ⟨dst, op, ty, pos, after, guard⟩ := o
  cases op <;> simp only [cOp] at hc
  case call c =>
    split at hc
    · ((repeat' split at hc) <;> first | (cases hc; done) | (simp at hc; done) | (obtain ⟨_, _, hq⟩ := Option.map_eq_some_iff.1 hc; cases hq; done))
    · rename_i ro nm hf
      split at hc <;> simp at hc
      rename_i h1 h2
      obtain ⟨rfl, rfl, rfl⟩ := hc
      exact ⟨c, ro, rfl, hf, h1, h2⟩
    · have := builtin_noCall hc; simp [AOp.isCall] at this
  case makeMap t r => cases r <;> simp at hc
  case next it isS => cases isS <;> ((repeat' split at hc) <;> first | (cases hc; done) | (simp at hc; done) | (obtain ⟨_, _, hq⟩ := Option.map_eq_some_iff.1 hc; cases hq; done))
  all_goals ((repeat' split at hc) <;> first | (cases hc; done) | (simp at hc; done) | (obtain ⟨_, _, hq⟩ := Option.map_eq_some_iff.1 hc; cases hq; done))

theorem no_defer {o : Oper} {ao : AOp} (hc : cOp P ifs o = some ao) : ∀ c, o.op ≠ .defer c := by
  intro c e
  unfold cOp at hc
  rw [e] at hc
  cases hc

theorem about_any (o : Oper) (w : World) (ρ : Operand → Value) : ∀ f, o.about P w ρ = some f → (FW rd).fn f := fun _ _ => trivial

theorem wpIn_of {o : Oper} {ao : AOp} (hc : cOp P ifs o = some ao) {a : Act} {next : Act → World → Prop} {Q : Exit → Act → World → Prop} (h : o.uponIn (FW rd) 0 P a next Q ((execOp a.eval o).run P w)) : o.wpIn (FW rd) 0 P a w next Q :=
  ⟨about_any o w a.eval, by rw [Oper.semAt_eq _ _ _ (no_defer hc)]; exact h⟩

theorem callOk_wp {o : Oper} {ao : AOp} (hc : cOp P ifs o = some ao) {a : Act} {f : FuncId} {vs : Array Value} {v : AV} (hrun : (execOp a.eval o).run P w = (callFunc f vs).run P w) (hok : CallOk P ifs φ w0 w h' v f vs) {next : Act → World → Prop} {Q : Exit → Act → World → Prop}
    (hn : ∀ φ' w' v', VR φ' v v' → Rel P ifs φ' w0 h' w' → Stp φ φ' w w' → next (a.put o.dst v') w') : o.wpIn (FW rd) 0 P a w next Q := by
  refine wpIn_of hc ?_
  rw [hrun]
  rcases hok with ⟨h1, h2⟩ | ⟨v', w', φ', h1, h2, h3, h4⟩
  · rw [h1, Oper.uponIn_enter]
    refine ⟨fun h => by simp [FW, Fence.wide] at h, callsIn_FW.2 (Calls.mono h2 fun e w' he => ?_)⟩
    obtain ⟨v', φ', rfl, k1, k2, k3⟩ := he
    exact hn φ' w' v' k1 k2 k3
  · rw [h1, Oper.uponIn_value]
    exact hn φ' w' v' h2 h3 h4

theorem vrs_cons_arr {a : AV} {as : List AV} {v : Value} {l : Array Value} (h : VR φ a v) (k : VRs φ as l.toList) : VRs φ (a :: as) (#[v] ++ l).toList := by
  simpa using VRs.cons h k

/-- ANY OPERATION. -/
theorem op_wp (hcs : CallSound P ifs call) (hmt : MtOk P mt) (hr : Rel P ifs φ w0 h w) {o : Oper} {ao : AOp} (hc : cOp P ifs o = some ao) (ho : Opds φ env ρ) {a : Act} (hρ : execOp a.eval o = execOp ρ o) {v : AV} (hv : evalOp mt call env h ao = some (v, h'))
    {next : Act → World → Prop} {Q : Exit → Act → World → Prop} (hn : ∀ φ' w' v', VR φ' v v' → Rel P ifs φ' w0 h' w' → Stp φ φ' w w' → next (a.put o.dst v') w') : o.wpIn (FW rd) 0 P a w next Q := by
  unfold evalOp at hv
  split at hv
  · simp only [Option.map_eq_some_iff, Prod.mk.injEq] at hv
    obtain ⟨v0, h1, rfl, rfl⟩ := hv
    obtain ⟨v', g1, g2⟩ := pure_sound hc ho h1 w
    refine wpIn_of hc ?_
    rw [hρ, g1, Oper.uponIn_value]
    exact hn φ w v' g2 hr (Stp.refl _ _)
  · simp only [Option.map_eq_some_iff, Prod.mk.injEq] at hv
    obtain ⟨v0, h1, rfl, rfl⟩ := hv
    obtain ⟨v', g1, g2⟩ := weak_sound hr hc ho h1
    refine wpIn_of hc ?_
    rw [hρ, g1, Oper.uponIn_value]
    exact hn φ w v' g2 hr (Stp.refl _ _)
  · by_cases hcall : ao.isCall = true
    · cases ao
      case call f xs _ =>
        obtain ⟨c, fo, h1, h2, h3, h4⟩ := call_inv hc
        simp only [evalStrong] at hv
        unfold apply at hv
        split at hv
        · rename_i g first captured ef
          have hf := ho fo f h3
          rw [ef] at hf
          simp only [VR] at hf
          obtain ⟨fs', cs', e1, e2, e3⟩ := hf
          have hargs := cOpds_vr ho h4
          refine callOk_wp hc (f := g) (vs := fs' ++ (c.args.map ρ) ++ cs') ?_ (hcs.fn _ _ _ _ _ hv φ w0 w _ ?_ hr) hn
          · rw [hρ]
            obtain ⟨dst, op, ty, pos, after, guard⟩ := o
            simp only at h1
            subst h1
            simp [execOp, resolve, h2, e1, Deferred.ofValue, invoke]
          · have e4 : (fs' ++ (c.args.map ρ) ++ cs').toList = fs'.toList ++ (c.args.toList.map ρ) ++ cs'.toList := by simp
            rw [e4]
            exact (e2.append hargs).append e3
        · rename_i l first captured ef
          have hf := ho fo f h3
          rw [ef] at hf
          simp only [VR] at hf
          obtain ⟨b, N, fs', cs', hl, e1, e2, e3⟩ := hf
          have hargs := cOpds_vr ho h4
          have e4 : (fs' ++ (c.args.map ρ)).toList = fs'.toList ++ (c.args.toList.map ρ) := by simp
          obtain ⟨fn, tmps, assign, body, y1, y2⟩ := hcs.yield _ _ _ _ _ hv φ w0 w (fs' ++ (c.args.map ρ)) b N hl (by rw [e4]; exact e2.append hargs) hr
          refine wpIn_of hc ?_
          have hrun : (execOp ρ o).run P w = .ok (.round b fn tmps assign body) w := by
            rw [← y1]
            obtain ⟨dst, op, ty, pos, after, guard⟩ := o
            simp only at h1
            subst h1
            simp [execOp, resolve, h2, e1, Deferred.ofValue, invoke]
          rw [hρ, hrun, Oper.uponIn_round]
          refine ⟨fun h => by simp [FW, Fence.wide] at h, RoundIn.mono (F := FW rd) y2 fun e w' he => ?_⟩
          obtain ⟨v', φ', rfl, k1, k2, k3⟩ := he
          exact hn φ' w' v' k1 k2 k3
        · cases hv
      case invoke r name xs _ =>
        obtain ⟨c, ro, h1, h2, h3, h4⟩ := invoke_inv hc
        simp only [evalStrong] at hv
        split at hv
        case h_2 => cases hv
        rename_i t u er
        simp only [Option.bind_eq_some_iff] at hv
        obtain ⟨f, hf, hv⟩ := hv
        have hrv := ho ro r h3
        rw [er] at hrv
        obtain ⟨u', e1, e2⟩ := vr_iface hrv
        have hargs := cOpds_vr ho h4
        refine callOk_wp hc (f := f) (vs := #[u'] ++ (c.args.map ρ)) ?_ (hcs.fn _ _ _ _ _ hv φ w0 w _ (vrs_cons_arr e2 (by simpa using hargs)) hr) hn
        rw [hρ]
        obtain ⟨dst, op, ty, pos, after, guard⟩ := o
        simp only at h1
        subst h1
        have hex : Array.extract (#[Value.iface t u'] ++ Array.map ρ c.args) 1 (#[Value.iface t u'] ++ Array.map ρ c.args).size = Array.map ρ c.args := by
          apply Array.ext'
          simp
          exact List.take_of_length_le (by simp)
        have hex0 : (#[Value.iface t u'] ++ Array.map ρ c.args)[0]? = some (Value.iface t u') := by
          rw [Array.getElem?_append_left (by simp)]; rfl
        simp only [execOp, resolve, h2, Sem.run_bind, Sem.run_pure, Result.andThen_ok, e1, invoke, hex, hex0]
        simp only [callMethod, Sem.run_bind, run_program, Result.andThen_ok, hmt t name f hf u' w]
      all_goals simp [AOp.isCall] at hcall
    · obtain ⟨φ', w', n, g1, g2, g3, g4⟩ := strong_sound hr hc ho (by simpa using hcall) hv
      refine wpIn_of hc ?_
      rw [hρ, g1]
      cases n <;> simp only [Out] at g2
      · rw [Oper.uponIn_value]; exact hn φ' w' _ g2 g3 g4
      · rw [Oper.uponIn_skip]
        subst g2
        exact hn φ' w' undef (by simp only [AV.undef, VR, undef]; exact ⟨_, rfl, VRs.nil⟩) g3 g4

/-! ### Slots -/
theorem vr_undef : VR φ .undef undef := by simp only [AV.undef, VR, undef]; exact ⟨_, rfl, VRs.nil⟩

theorem opds_of {a : Act} (hE : VRs φ env a.tmps.toList) : Opds φ env a.eval := by
  intro x y hxy
  cases x with
  | tmp t =>
    simp [cOpd] at hxy; subst hxy
    simp only [AOpd.ev, Act.eval]
    cases e : env[t]? with
    | some v =>
      obtain ⟨u, hu, hvr⟩ := hE.get e
      have h1 : env.getD t .undef = v := by simp [List.getD, e]
      have h2 : a.tmps.getD t undef = u := by
        have : a.tmps[t]? = some u := by simpa using hu
        rw [Array.getD_eq_getD_getElem?, this]; rfl
      rw [h1, h2]; exact hvr
    | none =>
      have hl := hE.len
      have h1 : env.getD t .undef = .undef := by simp [List.getD, e]
      have h2 : a.tmps.getD t undef = undef := by
        have : a.tmps[t]? = none := by
          have := List.getElem?_eq_none_iff.1 e
          rw [Array.getElem?_eq_none]; simp at hl; omega
        rw [Array.getD_eq_getD_getElem?, this]; rfl
      rw [h1, h2]; exact vr_undef
  | const v =>
    obtain ⟨b, hb, rfl⟩ := Option.map_eq_some_iff.1 hxy
    exact ofBase_vr hb
  | func f =>
    simp [cOpd] at hxy; subst hxy
    simp only [AOpd.ev, Act.eval, VR]
    exact ⟨_, _, rfl, VRs.nil, VRs.nil⟩
  | global g => cases hxy

theorem put_vr {a : Act} (hE : VRs φ env a.tmps.toList) {dst : Option Nat} {v : AV} {v' : Value} (hv : VR φ v v') : VRs φ (putEnv env dst v) (a.put dst v').tmps.toList := by
  cases dst with
  | none => exact hE
  | some d => simp only [putEnv, Act.put, Array.toList_setIfInBounds]; exact VRs.set hE d hv

theorem put_defers (a : Act) (dst : Option Nat) (v : Value) : (a.put dst v).defers = a.defers := by cases dst <;> rfl

theorem vr_is_bool {a : AV} {b : Bool} (h : VR φ a (.bool b)) : a = .bool b := by
  cases a with
  | bool c => have := vr_bool h; simp at this; rw [this]
  | int k n => have := vr_int h; cases this
  | str s => obtain ⟨_, e, _⟩ := vr_str h; cases e
  | ptr a => cases a with
    | none => simp [VR] at h
    | some a => obtain ⟨_, _, _, _, e⟩ := vr_ptr h; cases e
  | slice a n c es => cases a with
    | none => obtain ⟨_, _, e⟩ := vr_sliceNil h; cases e
    | some a => obtain ⟨_, _, _, _, _, _, e, _⟩ := vr_slice h; cases e
  | map r => cases r with
    | none => have := vr_mapNil h; cases this
    | some r => obtain ⟨_, _, _, e⟩ := vr_map h; cases e
  | func fn fs cs => obtain ⟨_, _, _, e⟩ := vr_func h; cases e
  | nilFunc => simp [VR] at h
  | iface t u => obtain ⟨_, e, _⟩ := vr_iface h; cases e
  | nilIface => have := vr_nilIface h; cases this
  | agg cs => obtain ⟨_, e, _⟩ := vr_agg h; cases e
  | tuple vs => obtain ⟨_, e, _⟩ := vr_tuple h; cases e

/-- The guard, read at its slot alone. -/
theorem wanted_sound {ops : Array Oper} {o : Oper} {g : Option (Nat × Bool)} (hg : cGuard ops o.guard = some g) {tmps : Array Value}
    (hs : ∀ s want, g = some (s, want) → (env[s]? = none ∧ tmps[s]? = none) ∨ ∃ v u, env[s]? = some v ∧ tmps[s]? = some u ∧ VR φ v u) : Region.wanted o (yielded ops tmps) = wanted env g := by
  unfold cGuard at hg
  unfold Region.wanted
  split at hg
  · rename_i e
    simp at hg; subst hg
    rw [e]; rfl
  · rename_i j want e
    split at hg
    case h_2 => cases hg
    rename_i d hd
    simp at hg; subst hg
    rw [e]
    simp only [wanted, yielded, hd, Option.bind_some]
    rcases hs d want rfl with ⟨h1, h2⟩ | ⟨v, u, h1, h2, h3⟩
    · simp [h2, List.getD, h1, AV.undef]
    · have hgd : env.getD d .undef = v := by simp [List.getD, h1]
      rw [h2, hgd]
      cases v with
      | bool b => rw [vr_bool h3]; cases b <;> cases want <;> rfl
      | _ =>
        simp only
        cases u with
        | bool b => have := vr_is_bool h3; cases this
        | _ => rfl

theorem vrs_slot {tmps : Array Value} (hE : VRs φ env tmps.toList) (s : Nat) : (env[s]? = none ∧ tmps[s]? = none) ∨ ∃ v u, env[s]? = some v ∧ tmps[s]? = some u ∧ VR φ v u := by
  cases e : env[s]? with
  | some v =>
    obtain ⟨u, hu, hvr⟩ := hE.get e
    exact .inr ⟨v, u, rfl, by simpa using hu, hvr⟩
  | none =>
    have hl := hE.len
    have := List.getElem?_eq_none_iff.1 e
    exact .inl ⟨rfl, by rw [Array.getElem?_eq_none]; simp at hl; omega⟩

/-- A compiled operation of a region. -/
structure OperOk (P : Program) (ifs : List TypeId) (ops : Array Oper) (o : Oper) (ao : AOper) : Prop where
  op : ao.op = cOpS P ifs o
  dst : ao.dst = o.dst
  guard : cGuard ops o.guard = some ao.guard

theorem opc {o : Oper} {ao : AOp} (h : ao = cOpS P ifs o) {env : List AV} {h1 : AH} {r : AV × AH} (he : evalOp mt call env h1 ao = some r) : cOp P ifs o = some ao := by
  unfold cOpS at h
  split at h
  · rename_i a e; rw [h, e]
  · subst h; simp [evalOp, AOp.kind, evalPure] at he

theorem opc' {o : Oper} {ao : AOp} (h : ao = cOpS P ifs o) (ha : ao.isAlloc = true) : cOp P ifs o = some ao := by
  unfold cOpS at h
  split at h
  · rename_i a e; rw [h, e]
  · subst h; simp [AOp.isAlloc] at ha

def RegionOk (P : Program) (ifs : List TypeId) (ops : Array Oper) (l : List AOper) : Prop :=
  l.length = ops.size ∧ ∀ (i : Nat) (o : Oper) (ao : AOper), ops[i]? = some o → l[i]? = some ao → OperOk P ifs ops o ao

/-- A REGION IN THE TEXT's ORDER. -/
theorem inorder_wp (hcs : CallSound P ifs call) (hmt : MtOk P mt) {ops : Array Oper} {l : List AOper} (hl : RegionOk P ifs ops l) {Q : Exit → Act → World → Prop} : ∀ (m i : Nat), i + m = ops.size → ∀ (env : List AV) (h : AH) (env' : List AV) (h' : AH), runOps mt call (l.drop i) env h = some (env', h') →
    ∀ (φ : Emb) (w : World) (a : Act), VRs φ env a.tmps.toList → Rel P ifs φ w0 h w →
    (∀ φ' w' a', VRs φ' env' a'.tmps.toList → a'.defers = a.defers → Rel P ifs φ' w0 h' w' → Stp φ φ' w w' → Q .normal a' w') → wpOpsIn (FW rd) 0 P ops Q (List.range' i m) a w := by
  intro m
  induction m with
  | zero =>
    intro i hi env h env' h' hrun φ w a hE hr hQ
    have : l.drop i = [] := List.drop_eq_nil_of_le (by have := hl.1; omega)
    rw [this] at hrun
    simp only [runOps, Option.some.injEq, Prod.mk.injEq] at hrun
    obtain ⟨rfl, rfl⟩ := hrun
    exact hQ φ w a hE rfl hr (Stp.refl _ _)
  | succ m ih =>
    intro i hi env h env' h' hrun φ w a hE hr hQ
    have hil : i < l.length := by have := hl.1; omega
    have hio : i < ops.size := by omega
    have hd : l.drop i = l[i] :: l.drop (i + 1) := List.drop_eq_getElem_cons hil
    rw [hd] at hrun
    have hok := hl.2 i ops[i] l[i] (by simp [hio]) (by simp [hil])
    rw [List.range'_succ, wpOpsIn_cons]
    unfold wpOpIn
    rw [Array.getElem?_eq_getElem hio]
    simp only
    simp only [runOps] at hrun
    rw [wanted_sound hok.guard (fun s want _ => vrs_slot hE s)]
    split at hrun
    · rename_i hw
      rw [if_pos hw]
      split at hrun
      case h_2 => cases hrun
      rename_i v h1 hev
      refine op_wp hcs hmt hr (opc hok.op hev) (opds_of hE) rfl hev fun φ' w' v' k1 k2 k3 => ?_
      rw [hok.dst] at hrun
      refine ih (i + 1) (by omega) _ _ _ _ hrun φ' w' _ (put_vr (VRs.ext k3.ext _ _ hE) k1) k2 fun φ2 w2 a2 q1 q2 q3 q4 => ?_
      exact hQ φ2 w2 a2 q1 (by rw [q2, put_defers]) q3 (k3.trans q4)
    · rename_i hw
      rw [if_neg hw]
      rw [hok.dst] at hrun
      refine ⟨about_any _ _ _, ?_⟩
      refine ih (i + 1) (by omega) _ _ _ _ hrun φ w _ (put_vr hE vr_undef) hr fun φ2 w2 a2 q1 q2 q3 q4 => ?_
      exact hQ φ2 w2 a2 q1 (by rw [q2, put_defers]) q3 q4
end
end Go.Proofs.YtjihmonajekomaaGreatDoor.Ax
