/- The evaluator without a bound: what it gives from some depth on; rules for code, operations, loops, calls. Conditions: as each theorem states. -/
import Derived.Test.YtjihmonajekomaaGreatDoorAx20
namespace Go.Proofs.YtjihmonajekomaaGreatDoor.Ax
open Go Go.RowKit
set_option linter.unusedVariables false

/-- A fact that the rewriting is to write out. -/
theorem nr {α : Sort _} {a b : α} (h : a = b) : a = b := h

/-- From some depth on the same is given, and meets Q. -/
def Ev {α : Type} (g : Nat → Nat → Option α) (Q : α → Prop) : Prop := ∃ K r, (∀ k n, K ≤ k → K ≤ n → g k n = some r) ∧ Q r

section ev
variable {α β : Type}

theorem Ev.ret {r : α} {Q : α → Prop} (h : Q r) : Ev (fun _ _ => some r) Q := ⟨0, r, fun _ _ _ _ => rfl, h⟩

theorem Ev.mono {g : Nat → Nat → Option α} {Q Q' : α → Prop} (h : Ev g Q) (hq : ∀ r, Q r → Q' r) : Ev g Q' := by
  obtain ⟨K, r, h1, h2⟩ := h
  exact ⟨K, r, h1, hq r h2⟩

theorem Ev.bind {g : Nat → Nat → Option α} {f : Nat → Nat → α → Option β} {Q : β → Prop} (h : Ev g fun r => Ev (fun k n => f k n r) Q) : Ev (fun k n => (g k n).bind (f k n)) Q := by
  obtain ⟨K, r, h1, K', r', h2, h3⟩ := h
  refine ⟨max K K', r', fun k n hk hn => ?_, h3⟩
  have e1 := h1 k n (by omega) (by omega)
  have e2 := h2 k n (by omega) (by omega)
  simp only [e1, Option.bind]
  exact e2

theorem Ev.congr {g g' : Nat → Nat → Option α} {Q : α → Prop} (h : Ev g Q) (e : ∀ k n, g' k n = g k n) : Ev g' Q := by
  obtain ⟨K, r, h1, h2⟩ := h
  exact ⟨K, r, fun k n hk hn => by rw [e, h1 k n hk hn], h2⟩

theorem Ev.some {g : Nat → Nat → Option α} {r : α} {Q : α → Prop} (e : ∀ k n, g k n = some r) (h : Q r) : Ev g Q := ⟨0, r, fun k n _ _ => e k n, h⟩
end ev

/-- A program: its functions, what is told of some, its methods. -/
structure Pg where
  F : FuncId → Option AFn
  T : Summary
  mt : Methods

def Pg.c (E : Pg) (k n : Nat) : Callee := acall E.F E.T E.mt k n

def WCall (E : Pg) (t : Target) (args : List AV) (h : AH) (Q : AV → AH → Prop) : Prop := Ev (fun k n => E.c k n t args h) fun r => Q r.1 r.2
def WOp (E : Pg) (o : AOp) (env : List AV) (h : AH) (Q : AV → AH → Prop) : Prop := Ev (fun k n => evalOp E.mt (E.c k n) env h o) fun r => Q r.1 r.2
def WStrong (E : Pg) (o : AOp) (env : List AV) (h : AH) (Q : AV → AH → Prop) : Prop := Ev (fun k n => evalStrong E.mt (E.c k n) env h o) fun r => Q r.1 r.2
def WOps (E : Pg) (ops : List AOper) (env : List AV) (h : AH) (Q : List AV → AH → Prop) : Prop := Ev (fun k n => runOps E.mt (E.c k n) ops env h) fun r => Q r.1 r.2
def WDraw (E : Pg) (ops : List AOper) (env : List AV) (h : AH) (hs : List AH) (cs : List Chk) (Q : List AV → AH → List AH → List Chk → Prop) : Prop := Ev (fun k n => runDraw E.mt (E.c k n) ops env h hs cs) fun r => Q r.1 r.2.1 r.2.2.1 r.2.2.2
def WCode (E : Pg) (rd : Bool) (c : ACode) (env : List AV) (h : AH) (Q : AExit → List AV → AH → Prop) : Prop := Ev (fun k n => acode E.mt (E.c k n) k rd c env h) fun r => Q r.1 r.2.1 r.2.2

/-- An option that is there, and meets Q. -/
def BQ {α : Type} (o : Option α) (Q : α → Prop) : Prop := ∃ a, o = some a ∧ Q a

theorem BQ_some {α : Type} (a : α) (Q : α → Prop) : BQ (some a) Q = Q a := by
  refine propext ⟨fun ⟨b, h, q⟩ => ?_, fun q => ⟨a, rfl, q⟩⟩
  cases h; exact q
theorem BQ_none {α : Type} (Q : α → Prop) : BQ none Q = False := propext ⟨fun ⟨_, h, _⟩ => (by cases h), False.elim⟩
@[congr] theorem BQ_congr {α : Type} {o o' : Option α} {Q : α → Prop} (h : o = o') : BQ o Q = BQ o' Q := by rw [h]
theorem BQ.of {α : Type} {o : Option α} {a : α} {Q : α → Prop} (h : o = some a) (q : Q a) : BQ o Q := ⟨a, h, q⟩

/-- What is asked of a call. -/
abbrev CallP := Target → List AV → AH → (AV → AH → Prop) → Prop

/-- A call through a value. -/
def wpApply (C : CallP) (f : AV) (args : List AV) (h : AH) (Q : AV → AH → Prop) : Prop :=
  match f with
  | .func (.func g) first captured => C (.fn g) (first ++ args ++ captured) h Q
  | .func (.yield l) first _ => C (.yield l) (first ++ args) h Q
  | _ => False

theorem wpApply_fn (C : CallP) (g : FuncId) (first captured args : List AV) (h : AH) (Q : AV → AH → Prop) : wpApply C (.func (.func g) first captured) args h Q = C (.fn g) (first ++ args ++ captured) h Q := nr rfl
theorem wpApply_yield (C : CallP) (l : Nat) (first captured args : List AV) (h : AH) (Q : AV → AH → Prop) : wpApply C (.func (.yield l) first captured) args h Q = C (.yield l) (first ++ args) h Q := nr rfl
@[congr] theorem wpApply_congr {C : CallP} {f f' : AV} {args args' : List AV} {h h' : AH} {Q : AV → AH → Prop} (e1 : f = f') (e2 : args = args') (e3 : h = h') : wpApply C f args h Q = wpApply C f' args' h' Q := by rw [e1, e2, e3]
@[congr] theorem WCall_congr {E : Pg} {t t' : Target} {args args' : List AV} {h h' : AH} {Q : AV → AH → Prop} (e0 : t = t') (e2 : args = args') (e3 : h = h') : WCall E t args h Q = WCall E t' args' h' Q := by rw [e0, e2, e3]

def wpInvoke (C : CallP) (mt : Methods) (recv : AV) (name : String) (args : List AV) (h : AH) (Q : AV → AH → Prop) : Prop :=
  match recv with
  | .iface t v => BQ (mt t name) fun f => C (.fn f) (v :: args) h Q
  | _ => False
theorem wpInvoke_iface (C : CallP) (mt : Methods) (t : TypeId) (v : AV) (name : String) (args : List AV) (h : AH) (Q : AV → AH → Prop) : wpInvoke C mt (.iface t v) name args h Q = BQ (mt t name) fun f => C (.fn f) (v :: args) h Q := nr rfl
@[congr] theorem wpInvoke_congr {C : CallP} {mt : Methods} {f f' : AV} {name : String} {args args' : List AV} {h h' : AH} {Q : AV → AH → Prop} (e1 : f = f') (e2 : args = args') (e3 : h = h') : wpInvoke C mt f name args h Q = wpInvoke C mt f' name args' h' Q := by rw [e1, e2, e3]

def noCall : Callee := fun _ _ _ => none

/-- An operation that turns the heap. -/
def wpStrong (C : CallP) (mt : Methods) (o : AOp) (env : List AV) (h : AH) (Q : AV → AH → Prop) : Prop :=
  match o with
  | .call f args => wpApply C (f.ev env) (args.map (·.ev env)) h Q
  | .invoke r name args => wpInvoke C mt (r.ev env) name (args.map (·.ev env)) h Q
  | o => BQ (evalStrong noMt noCall env h o) fun r => Q r.1 r.2

def wpOp (C : CallP) (mt : Methods) (o : AOp) (env : List AV) (h : AH) (Q : AV → AH → Prop) : Prop :=
  match o.kind with
  | .pure => BQ (evalPure env o) fun v => Q v h
  | .weak => BQ (evalWeak env h o) fun v => Q v h
  | .strong => wpStrong C mt o env h Q

def wpOps (C : CallP) (mt : Methods) : List AOper → List AV → AH → (List AV → AH → Prop) → Prop
  | [], env, h, Q => Q env h
  | o :: r, env, h, Q => if wanted env o.guard = true then wpOp C mt o.op env h (fun v h' => wpOps C mt r (putEnv env o.dst v) h' Q) else wpOps C mt r (putEnv env o.dst .undef) h Q

@[congr] theorem wpOps_congr {C : CallP} {mt : Methods} {l : List AOper} {env env' : List AV} {h h' : AH} {Q : List AV → AH → Prop} (e1 : env = env') (e2 : h = h') : wpOps C mt l env h Q = wpOps C mt l env' h' Q := by rw [e1, e2]

theorem BQ.ev {α : Type} {o : Option α} {Q : α → Prop} (h : BQ o Q) : Ev (fun _ _ => o) Q := by
  obtain ⟨a, rfl, q⟩ := h
  exact .ret q

theorem wpApply_sound {E : Pg} {f : AV} {args : List AV} {h : AH} {Q : AV → AH → Prop} (hw : wpApply (WCall E) f args h Q) : Ev (fun k n => apply (E.c k n) f args h) fun r => Q r.1 r.2 := by
  unfold wpApply at hw
  split at hw
  · exact hw
  · exact hw
  · exact hw.elim

theorem wpStrong_sound {E : Pg} {o : AOp} {env : List AV} {h : AH} {Q : AV → AH → Prop} (hw : wpStrong (WCall E) E.mt o env h Q) : WStrong E o env h Q := by
  cases o
  case call f args => exact wpApply_sound hw
  case invoke r name args =>
    unfold wpStrong wpInvoke at hw
    simp only at hw
    unfold WStrong
    simp only [evalStrong]
    split at hw
    · rename_i t v e
      obtain ⟨g, e2, hw⟩ := hw
      rw [e]; simp only [e2, Option.bind]
      exact hw
    · exact hw.elim
  all_goals
    unfold wpStrong at hw
    unfold WStrong
    simp only at hw
    obtain ⟨a, e, q⟩ := hw
    refine Ev.some (r := a) (fun k n => ?_) q
    rw [← e]
    rfl

theorem wpOp_sound {E : Pg} {o : AOp} {env : List AV} {h : AH} {Q : AV → AH → Prop} (hw : wpOp (WCall E) E.mt o env h Q) : WOp E o env h Q := by
  unfold wpOp at hw
  unfold WOp evalOp
  split at hw
  · rename_i e
    obtain ⟨v, e1, q⟩ := hw
    simp only [e, e1, Option.map]
    exact .ret q
  · rename_i e
    obtain ⟨v, e1, q⟩ := hw
    simp only [e, e1, Option.map]
    exact .ret q
  · rename_i e
    simp only [e]
    exact wpStrong_sound hw

theorem wpOps_sound {E : Pg} : ∀ {l : List AOper} {env : List AV} {h : AH} {Q : List AV → AH → Prop}, wpOps (WCall E) E.mt l env h Q → WOps E l env h Q
  | [], env, h, Q, hw => .ret hw
  | o :: r, env, h, Q, hw => by
    unfold wpOps at hw
    unfold WOps
    simp only [runOps]
    split at hw
    · rename_i e
      simp only [e, if_true]
      have := wpOp_sound hw
      unfold WOp at this
      refine Ev.congr (Ev.bind (f := fun k n (r' : AV × AH) => runOps E.mt (E.c k n) r (putEnv env o.dst r'.1) r'.2) (Q := fun r => Q r.1 r.2) (this.mono fun (r' : AV × AH) hr => wpOps_sound hr)) fun k n => ?_
      cases evalOp E.mt (E.c k n) env h o.op <;> rfl
    · rename_i e
      simp only [e]
      exact wpOps_sound hw

/-! ### A region whose order is open -/
def wpDraw (C : CallP) (mt : Methods) : List AOper → List AV → AH → List AH → List Chk → (List AV → AH → List AH → List Chk → Prop) → Prop
  | [], env, h, hs, cs, Q => Q env h hs cs
  | o :: r, env, h, hs, cs, Q =>
    if wanted env o.guard = true then
      match o.op.kind with
      | .pure => BQ (evalPure (mask o.names env) o.op) fun v => wpDraw C mt r (putEnv env o.dst v) h hs cs Q
      | .weak => BQ (evalWeak (mask o.names env) h o.op) fun v => wpDraw C mt r (putEnv env o.dst v) h hs (⟨mask o.names env, o.op, o.lo, o.hi, v⟩ :: cs) Q
      | .strong => wpStrong C mt o.op (mask o.names env) h fun v h' => wpDraw C mt r (putEnv env o.dst v) h' (hs ++ [h']) cs Q
    else wpDraw C mt r (putEnv env o.dst .undef) h (match o.op.kind with | .strong => hs ++ [h] | _ => hs) cs Q

@[congr] theorem wpDraw_congr {C : CallP} {mt : Methods} {l : List AOper} {env env' : List AV} {h h' : AH} {hs hs' : List AH} {cs cs' : List Chk} {Q : List AV → AH → List AH → List Chk → Prop} (e1 : env = env') (e2 : h = h') (e3 : hs = hs') (e4 : cs = cs') : wpDraw C mt l env h hs cs Q = wpDraw C mt l env' h' hs' cs' Q := by rw [e1, e2, e3, e4]

theorem wpDraw_sound {E : Pg} : ∀ {l : List AOper} {env : List AV} {h : AH} {hs : List AH} {cs : List Chk} {Q : List AV → AH → List AH → List Chk → Prop}, wpDraw (WCall E) E.mt l env h hs cs Q → WDraw E l env h hs cs Q
  | [], env, h, hs, cs, Q, hw => .ret hw
  | o :: r, env, h, hs, cs, Q, hw => by
    unfold wpDraw at hw
    unfold WDraw
    simp only [runDraw]
    split at hw
    · rename_i e
      simp only [e, if_true]
      split at hw
      · rename_i ek
        obtain ⟨v, e1, q⟩ := hw
        simp only [ek, e1]
        exact wpDraw_sound q
      · rename_i ek
        obtain ⟨v, e1, q⟩ := hw
        simp only [ek, e1]
        exact wpDraw_sound q
      · rename_i ek
        have := wpStrong_sound hw
        unfold WStrong at this
        simp only [ek]
        refine Ev.congr (Ev.bind (f := fun k n (r' : AV × AH) => runDraw E.mt (E.c k n) r (putEnv env o.dst r'.1) r'.2 (hs ++ [r'.2]) cs) (Q := fun r => Q r.1 r.2.1 r.2.2.1 r.2.2.2) (this.mono fun (r' : AV × AH) hr => wpDraw_sound hr)) fun k n => ?_
        cases evalStrong E.mt (E.c k n) (mask o.names env) h o.op <;> rfl
    · rename_i e
      simp only [e]
      exact wpDraw_sound hw

/-! ### Code -/
/-- Behind a region. -/
def NQ (Q : AExit → List AV → AH → Prop) (env : List AV) (h : AH) : Prop := Q .normal env h
/-- Behind a region whose order is open. -/
def DQ (Q : AExit → List AV → AH → Prop) (env : List AV) (h : AH) (hs : List AH) (cs : List Chk) : Prop := cs.all (Chk.ok hs) = true ∧ Q .normal env h

theorem WCode.region {E : Pg} {rd : Bool} {ops : List AOper} {env : List AV} {h : AH} {Q : AExit → List AV → AH → Prop} (hw : wpOps (WCall E) E.mt ops env h (NQ Q)) : WCode E rd (.region ops false) env h Q := by
  have := wpOps_sound hw
  unfold WOps at this
  unfold WCode
  simp only [acode, runRegion]
  refine Ev.congr (Ev.bind (f := fun k n (r : List AV × AH) => some (AExit.normal, r.1, r.2)) (Q := fun r => Q r.1 r.2.1 r.2.2) (this.mono fun r hr => Ev.ret (r := (AExit.normal, r.1, r.2)) hr)) fun k n => ?_
  cases runOps E.mt (E.c k n) ops env h <;> rfl

theorem WCode.draw {E : Pg} {rd : Bool} {ops : List AOper} {env : List AV} {h : AH} {Q : AExit → List AV → AH → Prop} (hw : wpDraw (WCall E) E.mt ops env h [h] [] (DQ Q)) : WCode E rd (.region ops true) env h Q := by
  have := wpDraw_sound hw
  unfold WDraw at this
  unfold WCode
  simp only [acode, runRegion]
  refine Ev.congr (Ev.bind (g := fun k n => runDraw E.mt (E.c k n) ops env h [h] []) (f := fun k n (r : List AV × AH × List AH × List Chk) => if r.2.2.2.all (Chk.ok r.2.2.1) then some (AExit.normal, r.1, r.2.1) else none) (Q := fun r => Q r.1 r.2.1 r.2.2) (this.mono fun r hr => ?_)) fun k n => ?_
  · obtain ⟨h1, h2⟩ := hr
    simp only [h1, if_true]
    exact Ev.ret (r := (AExit.normal, r.1, r.2.1)) h2
  · cases runDraw E.mt (E.c k n) ops env h [h] [] with
    | none => rfl
    | some r =>
      obtain ⟨a, b, c, d⟩ := r
      simp only [Option.bind, if_true]
      split <;> rfl

theorem WCode.skip {E : Pg} {rd : Bool} {env : List AV} {h : AH} {Q : AExit → List AV → AH → Prop} (hw : Q .normal env h) : WCode E rd .skip env h Q := Ev.ret (r := (AExit.normal, env, h)) hw
theorem WCode.exit {E : Pg} {rd : Bool} {id : Nat} {env : List AV} {h : AH} {Q : AExit → List AV → AH → Prop} (hw : Q (.exit id) env h) : WCode E rd (.exit id) env h Q := Ev.ret (r := (AExit.exit id, env, h)) hw
theorem WCode.ret {E : Pg} {rd : Bool} {env : List AV} {h : AH} {Q : AExit → List AV → AH → Prop} (hw : Q .ret env h) : WCode E rd .ret env h Q := Ev.ret (r := (AExit.ret, env, h)) hw

/-- Behind the first of two: the second, where the first ends by itself. -/
abbrev CodeP := ACode → List AV → AH → (AExit → List AV → AH → Prop) → Prop
def SeqQ (K : CodeP) (b : ACode) (Q : AExit → List AV → AH → Prop) : AExit → List AV → AH → Prop
  | .normal, env, h => K b env h Q
  | ex, env, h => Q ex env h
theorem SeqQ_normal (K : CodeP) (b : ACode) (Q : AExit → List AV → AH → Prop) (env : List AV) (h : AH) : SeqQ K b Q .normal env h = K b env h Q := nr rfl
theorem SeqQ_exit (K : CodeP) (b : ACode) (Q : AExit → List AV → AH → Prop) (id : Nat) (env : List AV) (h : AH) : SeqQ K b Q (.exit id) env h = Q (.exit id) env h := nr rfl
theorem SeqQ_ret (K : CodeP) (b : ACode) (Q : AExit → List AV → AH → Prop) (env : List AV) (h : AH) : SeqQ K b Q .ret env h = Q .ret env h := nr rfl

theorem WCode.seq {E : Pg} {rd : Bool} {a b : ACode} {env : List AV} {h : AH} {Q : AExit → List AV → AH → Prop} (hw : WCode E rd a env h (SeqQ (WCode E rd) b Q)) : WCode E rd (.seq a b) env h Q := by
  unfold WCode at hw ⊢
  simp only [acode]
  refine Ev.congr (Ev.bind (f := fun k n (r : AExit × List AV × AH) => match r with
    | (.normal, env', h') => acode E.mt (E.c k n) k rd b env' h'
    | (.exit id, env', h') => some (.exit id, env', h')
    | (.ret, env', h') => some (.ret, env', h')) (Q := fun r => Q r.1 r.2.1 r.2.2) (hw.mono fun r hr => ?_)) fun k n => ?_
  · obtain ⟨ex, e', h'⟩ := r
    cases ex with
    | normal => exact hr
    | exit id => exact .ret hr
    | ret => exact .ret hr
  · cases acode E.mt (E.c k n) k rd a env h with
    | none => rfl
    | some r => obtain ⟨ex, e', h'⟩ := r; cases ex <;> rfl

/-- A test's two ways. -/
def CondQ (c : AV) (A B : Prop) : Prop :=
  match c with
  | .bool t => (t = true → A) ∧ (t = false → B)
  | _ => False
theorem CondQ_bool (t : Bool) (A B : Prop) : CondQ (.bool t) A B = ((t = true → A) ∧ (t = false → B)) := nr rfl
theorem CondQ_true (A B : Prop) : CondQ (.bool true) A B = A := by simp [CondQ]
theorem CondQ_false (A B : Prop) : CondQ (.bool false) A B = B := by simp [CondQ]
@[congr] theorem CondQ_congr {c c' : AV} {A B : Prop} (h : c = c') : CondQ c A B = CondQ c' A B := by rw [h]

theorem WCode.cond {E : Pg} {rd : Bool} {c : AOpd} {a b : ACode} {env : List AV} {h : AH} {Q : AExit → List AV → AH → Prop} (hw : CondQ (c.ev env) (WCode E rd a env h Q) (WCode E rd b env h Q)) : WCode E rd (.cond c a b) env h Q := by
  unfold CondQ at hw
  split at hw
  · rename_i t e
    unfold WCode
    simp only [acode, e]
    cases t
    · simpa [WCode] using hw.2 rfl
    · simpa [WCode] using hw.1 rfl
  · exact hw.elim

theorem WCode.condT {E : Pg} {rd : Bool} {c : AOpd} {a b : ACode} {env : List AV} {h : AH} {Q : AExit → List AV → AH → Prop} (e : c.ev env = .bool true) (hw : WCode E rd a env h Q) : WCode E rd (.cond c a b) env h Q :=
  .cond (by rw [e, CondQ_true]; exact hw)
theorem WCode.condF {E : Pg} {rd : Bool} {c : AOpd} {a b : ACode} {env : List AV} {h : AH} {Q : AExit → List AV → AH → Prop} (e : c.ev env = .bool false) (hw : WCode E rd b env h Q) : WCode E rd (.cond c a b) env h Q :=
  .cond (by rw [e, CondQ_false]; exact hw)

def BlockQ (id : Nat) (Q : AExit → List AV → AH → Prop) : AExit → List AV → AH → Prop
  | .exit j, env, h => if j = id then Q .normal env h else Q (.exit j) env h
  | ex, env, h => Q ex env h
theorem BlockQ_normal (id : Nat) (Q : AExit → List AV → AH → Prop) (env : List AV) (h : AH) : BlockQ id Q .normal env h = Q .normal env h := nr rfl
theorem BlockQ_ret (id : Nat) (Q : AExit → List AV → AH → Prop) (env : List AV) (h : AH) : BlockQ id Q .ret env h = Q .ret env h := nr rfl
theorem BlockQ_exit (id j : Nat) (Q : AExit → List AV → AH → Prop) (env : List AV) (h : AH) : BlockQ id Q (.exit j) env h = if j = id then Q .normal env h else Q (.exit j) env h := nr rfl

theorem WCode.block {E : Pg} {rd : Bool} {id : Nat} {a : ACode} {env : List AV} {h : AH} {Q : AExit → List AV → AH → Prop} (hw : WCode E rd a env h (BlockQ id Q)) : WCode E rd (.block id a) env h Q := by
  unfold WCode at hw ⊢
  simp only [acode]
  refine Ev.congr (Ev.bind (f := fun k n (r : AExit × List AV × AH) => match r with
    | (.exit j, env', h') => if j = id then some (.normal, env', h') else some (.exit j, env', h')
    | r => some r) (Q := fun r => Q r.1 r.2.1 r.2.2) (hw.mono fun r hr => ?_)) fun k n => ?_
  · obtain ⟨ex, e', h'⟩ := r
    cases ex with
    | normal => exact .ret hr
    | exit j =>
      simp only [BlockQ_exit] at hr
      by_cases e : j = id
      · simp only [e, if_true] at hr ⊢; exact .ret hr
      · simp only [e, if_false] at hr ⊢; exact .ret hr
    | ret => exact .ret hr
  · cases acode E.mt (E.c k n) k rd a env h with
    | none => rfl
    | some r => obtain ⟨ex, e', h'⟩ := r; cases ex <;> rfl

/-- A loop: an invariant with a measure that falls. -/
theorem WCode.loop {E : Pg} {rd : Bool} {a : ACode} {Q : AExit → List AV → AH → Prop} (Inv : Nat → List AV → AH → Prop)
    (hstep : ∀ m env h, Inv m env h → WCode E rd a env h fun ex env' h' => match ex with
      | .normal => ∃ m', m' < m ∧ Inv m' env' h'
      | ex => Q ex env' h') : ∀ m env h, Inv m env h → WCode E rd (.loop a) env h Q := by
  have key : ∀ m env h, Inv m env h → ∃ K r, (∀ j k n, K ≤ j → K ≤ k → K ≤ n → loopN (acode E.mt (E.c k n) k rd a) j env h = some r) ∧ Q r.1 r.2.1 r.2.2 := by
    intro m
    induction m using Nat.strongRecOn with
    | ind m ih =>
      intro env h hi
      obtain ⟨K, ⟨ex, env', h'⟩, h1, h2⟩ := hstep m env h hi
      cases ex with
      | normal =>
        obtain ⟨m', hm, hi'⟩ := h2
        obtain ⟨K', r, h3, h4⟩ := ih m' hm env' h' hi'
        refine ⟨max K K' + 1, r, fun j k n hj hk hn => ?_, h4⟩
        obtain ⟨j, rfl⟩ : ∃ j', j = j' + 1 := ⟨j - 1, by omega⟩
        simp only [loopN]
        have e1 := h1 k n (by omega) (by omega)
        simp only at e1
        rw [e1]
        exact h3 j k n (by omega) (by omega) (by omega)
      | exit id =>
        refine ⟨K + 1, (.exit id, env', h'), fun j k n hj hk hn => ?_, h2⟩
        obtain ⟨j, rfl⟩ : ∃ j', j = j' + 1 := ⟨j - 1, by omega⟩
        simp only [loopN]
        have e1 := h1 k n (by omega) (by omega)
        simp only at e1
        rw [e1]
      | ret =>
        refine ⟨K + 1, (.ret, env', h'), fun j k n hj hk hn => ?_, h2⟩
        obtain ⟨j, rfl⟩ : ∃ j', j = j' + 1 := ⟨j - 1, by omega⟩
        simp only [loopN]
        have e1 := h1 k n (by omega) (by omega)
        simp only at e1
        rw [e1]
  intro m env h hi
  obtain ⟨K, r, h1, h2⟩ := key m env h hi
  exact ⟨K, r, fun k n hk hn => by simp only [acode]; exact h1 k k n hk hk hn, h2⟩

/-! ### Calls -/
def BodyQ (rs : List (Nat × Option (Option Nat))) (Q : AV → AH → Prop) : AExit → List AV → AH → Prop
  | .exit _, _, _ => False
  | _, env, h => BQ (resultsOf env h rs) fun vs => Q (oneOrTuple vs) h
theorem BodyQ_normal (rs : List (Nat × Option (Option Nat))) (Q : AV → AH → Prop) (env : List AV) (h : AH) : BodyQ rs Q .normal env h = BQ (resultsOf env h rs) fun vs => Q (oneOrTuple vs) h := nr rfl
theorem BodyQ_ret (rs : List (Nat × Option (Option Nat))) (Q : AV → AH → Prop) (env : List AV) (h : AH) : BodyQ rs Q .ret env h = BQ (resultsOf env h rs) fun vs => Q (oneOrTuple vs) h := nr rfl
theorem BodyQ_exit (rs : List (Nat × Option (Option Nat))) (Q : AV → AH → Prop) (id : Nat) (env : List AV) (h : AH) : BodyQ rs Q (.exit id) env h = False := nr rfl

theorem WCall.fn {E : Pg} {f : FuncId} {fn : AFn} {args : List AV} {h : AH} {Q : AV → AH → Prop} (hT : E.T f = none) (hF : E.F f = some fn)
    (hw : WCode E false fn.body (args ++ List.replicate (fn.ntmps - args.length) .undef) h (BodyQ fn.results Q)) : WCall E (.fn f) args h Q := by
  obtain ⟨K, ⟨ex, env', h'⟩, h1, h2⟩ := hw
  have fin : ∀ vs, resultsOf env' h' fn.results = some vs → Q (oneOrTuple vs) h' → (ex = .normal ∨ ex = .ret) → WCall E (.fn f) args h Q := by
    intro vs e q hex
    refine ⟨K + 1, (oneOrTuple vs, h'), fun k n hk hn => ?_, q⟩
    obtain ⟨n, rfl⟩ : ∃ n', n = n' + 1 := ⟨n - 1, by omega⟩
    unfold Pg.c
    simp only [acall, hT, hF, abody]
    have := h1 k n (by omega) (by omega)
    unfold Pg.c at this
    simp only at this
    rw [this]
    rcases hex with rfl | rfl <;> simp [e]
  cases ex with
  | normal => obtain ⟨vs, e, q⟩ := h2; exact fin vs e q (.inl rfl)
  | exit id => exact h2.elim
  | ret => obtain ⟨vs, e, q⟩ := h2; exact fin vs e q (.inr rfl)

theorem WCall.sum {E : Pg} {f : FuncId} {s : List AV → AH → Option (AV × AH)} {args : List AV} {h h' : AH} {v : AV} {Q : AV → AH → Prop} (hT : E.T f = some s) (e : s args h = some (v, h')) (q : Q v h') : WCall E (.fn f) args h Q := by
  refine ⟨1, (v, h'), fun k n hk hn => ?_, q⟩
  obtain ⟨n, rfl⟩ : ∃ n', n = n' + 1 := ⟨n - 1, by omega⟩
  unfold Pg.c
  simp only [acall, hT, e]

theorem WCall.mono {E : Pg} {t : Target} {args : List AV} {h : AH} {Q Q' : AV → AH → Prop} (hw : WCall E t args h Q) (hq : ∀ v h', Q v h' → Q' v h') : WCall E t args h Q' := Ev.mono hw fun r hr => hq _ _ hr
theorem WCode.mono {E : Pg} {rd : Bool} {c : ACode} {env : List AV} {h : AH} {Q Q' : AExit → List AV → AH → Prop} (hw : WCode E rd c env h Q) (hq : ∀ ex env' h', Q ex env' h' → Q' ex env' h') : WCode E rd c env h Q' := Ev.mono hw fun r hr => hq _ _ _ hr

/-- A computed call. -/
theorem WCall.run {E : Pg} {t : Target} {args : List AV} {h : AH} {Q : AV → AH → Prop} (h1 : WCall E t args h Q) : ∃ k n v h', acall E.F E.T E.mt k n t args h = some (v, h') ∧ Q v h' := by
  obtain ⟨K, r, h1, h2⟩ := h1
  exact ⟨K, K, r.1, r.2, h1 K K (Nat.le_refl _) (Nat.le_refl _), h2⟩

/-- A FUNCTION THAT GIVES A TRUTH VALUE. -/
theorem wcalls_bool {P : Program} {ifs : List TypeId} {T : Summary} {mt : Methods} (hT : SumSound P ifs T) (hmt : MtOk P mt) (hmix : P.follows .mixedOrders = true) {f : FuncId} {args : List AV} {b : Bool} {φ : Emb} {h : AH} {w : World} (hr : Rel P ifs φ w h w)
    (hv : WCall ⟨funcsOf P ifs, T, mt⟩ (.fn f) args h fun v _ => v = .bool b) {vs : Array Value} (hvs : VRs φ args vs.toList)
    (hbody : ∃ fn, P.funcs[f]? = some fn ∧ fn.body.isSome = true) : Calls P f vs w fun e w' => e = .returned (.bool b) ∧ Below w.heap.size w w' := by
  obtain ⟨k, n, v, h', e, rfl⟩ := hv.run
  exact calls_bool (acall_sound hT hmt hmix k n) hr (b := b) (by simp only at e; rw [e]; simp [isB]) hvs hbody
end Go.Proofs.YtjihmonajekomaaGreatDoor.Ax
