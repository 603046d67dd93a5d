/- How the rules of the evaluator without a bound are rewritten: an operation at a time. Conditions: as each theorem states. -/
import Derived.Test.YtjihmonajekomaaGreatDoorAx21
import Derived.IntWalk
namespace Go.Proofs.YtjihmonajekomaaGreatDoor.Ax
open Go
set_option linter.unusedVariables false
set_option linter.unusedSimpArgs false

/-- What a slot holds. -/
def slot (env : List AV) (t : Nat) : AV := env.getD t .undef
@[simp] theorem slot_zero (a : AV) (r : List AV) : slot (a :: r) 0 = a := by simp [slot]
@[simp] theorem slot_succ (a : AV) (r : List AV) (n : Nat) : slot (a :: r) (n + 1) = slot r n := by simp [slot]
theorem slot_mask (ns : List Nat) (env : List AV) (t : Nat) : slot (mask ns env) t = if ns.contains t then slot env t else .undef := by
  unfold slot
  cases e : ns.contains t with
  | true => rw [mask_get e]; rfl
  | false => rw [mask_out e]; rfl
@[simp] theorem slot_mask1 (ns : List Nat) (env : List AV) (t : Nat) : slot (mask (t :: ns) env) t = slot env t := by simp [slot_mask]
@[simp] theorem slot_mask2 (a : Nat) (ns : List Nat) (env : List AV) (t : Nat) : slot (mask (a :: t :: ns) env) t = slot env t := by simp [slot_mask]
@[simp] theorem slot_mask3 (a b : Nat) (ns : List Nat) (env : List AV) (t : Nat) : slot (mask (a :: b :: t :: ns) env) t = slot env t := by simp [slot_mask]
@[simp] theorem slot_mask4 (a b c : Nat) (ns : List Nat) (env : List AV) (t : Nat) : slot (mask (a :: b :: c :: t :: ns) env) t = slot env t := by simp [slot_mask]

@[simp] theorem slot_set_same {env : List AV} {i : Nat} {v : AV} (h : i < env.length) : slot (env.set i v) i = v := by
  simp [slot, List.getD, h]
@[simp] theorem slot_set_ne {env : List AV} {i j : Nat} {v : AV} (h : i ≠ j) : slot (env.set i v) j = slot env j := by
  simp [slot, List.getD, List.getElem?_set_ne h]

section ops
variable {C : CallP} {mt : Methods} {env : List AV} {h : AH} {Q : AV → AH → Prop}

@[simp] theorem wpOps_nil {Q : List AV → AH → Prop} : wpOps C mt [] env h Q = Q env h := nr rfl
/-- Behind an operation. -/
def opsK (C : CallP) (mt : Methods) (r : List AOper) (env : List AV) (d : Option Nat) (Q : List AV → AH → Prop) (v : AV) (h' : AH) : Prop := wpOps C mt r (putEnv env d v) h' Q
@[simp] theorem opsK_at {r : List AOper} {d : Option Nat} {v : AV} {h' : AH} {Q : List AV → AH → Prop} : opsK C mt r env d Q v h' = wpOps C mt r (putEnv env d v) h' Q := nr rfl
@[simp] theorem wpOps_cons {d : Option Nat} {o : AOp} {ns : List Nat} {lo hi : Nat} {l : Bool} {r : List AOper} {Q : List AV → AH → Prop} : wpOps C mt (⟨d, o, none, ns, lo, hi, l⟩ :: r) env h Q = wpOp C mt o env h (opsK C mt r env d Q) := by
  simp only [wpOps, wanted, if_true]; rfl

/-- Behind an operation, by what it gives. -/
def vK (Q : AV → AH → Prop) (h : AH) (v : AV) : Prop := Q v h
def rK (Q : AV → AH → Prop) (r : AV × AH) : Prop := Q r.1 r.2
def sK (Q : AV → AH → Prop) (h' : AH) : Prop := Q .undef h'
def aggK (Q : AV → AH → Prop) (h : AH) (cs : List AV) : Prop := Q (.agg cs) h
def eqK (neg : Bool) (Q : AV → AH → Prop) (h : AH) (b : Bool) : Prop := Q (.bool (if neg then !b else b)) h
def bsK (n len : Nat) (e : TypeId) (Q : AV → AH → Prop) (h : AH) (cs : List AV) : Prop := Q (.slice (some (h.next, 0)) n n len) (h.row cs e true)
def boxK (e : TypeId) (Q : AV → AH → Prop) (h : AH) (cs : List AV) : Prop := Q (.ptr (some (h.next, 0))) (h.row cs e true)
@[simp] theorem vK_at (Q : AV → AH → Prop) (h : AH) (v : AV) : vK Q h v = Q v h := nr rfl
@[simp] theorem rK_at (Q : AV → AH → Prop) (r : AV × AH) : rK Q r = Q r.1 r.2 := nr rfl
@[simp] theorem sK_at (Q : AV → AH → Prop) (h' : AH) : sK Q h' = Q .undef h' := nr rfl
@[simp] theorem aggK_at (Q : AV → AH → Prop) (h : AH) (cs : List AV) : aggK Q h cs = Q (.agg cs) h := nr rfl
@[simp] theorem eqK_at (neg : Bool) (Q : AV → AH → Prop) (h : AH) (b : Bool) : eqK neg Q h b = Q (.bool (if neg then !b else b)) h := nr rfl
@[simp] theorem bsK_at (n len : Nat) (e : TypeId) (Q : AV → AH → Prop) (h : AH) (cs : List AV) : bsK n len e Q h cs = Q (.slice (some (h.next, 0)) n n len) (h.row cs e true) := nr rfl
@[simp] theorem boxK_at (e : TypeId) (Q : AV → AH → Prop) (h : AH) (cs : List AV) : boxK e Q h cs = Q (.ptr (some (h.next, 0))) (h.row cs e true) := nr rfl

/-- A guard's two ways. -/
def GuardQ (c : AV) (want : Bool) (A B : Prop) : Prop :=
  match c with
  | .bool b => (b = want → A) ∧ (b = !want → B)
  | _ => False
@[congr] theorem GuardQ_congr {c c' : AV} {want : Bool} {A B : Prop} (h : c = c') : GuardQ c want A B = GuardQ c' want A B := by rw [h]
@[simp] theorem GuardQ_tt {A B : Prop} : GuardQ (.bool true) true A B = A := by simp [GuardQ]
@[simp] theorem GuardQ_ft {A B : Prop} : GuardQ (.bool false) true A B = B := by simp [GuardQ]
@[simp] theorem GuardQ_tf {A B : Prop} : GuardQ (.bool true) false A B = B := by simp [GuardQ]
@[simp] theorem GuardQ_ff {A B : Prop} : GuardQ (.bool false) false A B = A := by simp [GuardQ]
theorem GuardQ_bool {b want : Bool} {A B : Prop} : GuardQ (.bool b) want A B = ((b = want → A) ∧ (b = !want → B)) := nr rfl

/-- A guard's slot may be empty (its own guard has turned it off): then it is not wanted. -/
def wantQ (c : AV) (want : Bool) (A B : Prop) : Prop :=
  match c with
  | .bool b => GuardQ (.bool b) want A B
  | _ => B
@[congr] theorem wantQ_congr {c c' : AV} {want : Bool} {A B : Prop} (h : c = c') : wantQ c want A B = wantQ c' want A B := by rw [h]
@[simp] theorem wantQ_bool {b want : Bool} {A B : Prop} : wantQ (.bool b) want A B = GuardQ (.bool b) want A B := nr rfl
@[simp] theorem wantQ_undef {want : Bool} {A B : Prop} : wantQ .undef want A B = B := nr rfl

@[simp] theorem wpOps_consG {d : Option Nat} {o : AOp} {s : Nat} {want : Bool} {ns : List Nat} {lo hi : Nat} {l : Bool} {r : List AOper} {Q : List AV → AH → Prop} : wpOps C mt (⟨d, o, some (s, want), ns, lo, hi, l⟩ :: r) env h Q = wantQ (slot env s) want (wpOp C mt o env h (opsK C mt r env d Q)) (wpOps C mt r (putEnv env d .undef) h Q) := by
  obtain ⟨v, hv⟩ : ∃ v, env.getD s .undef = v := ⟨_, rfl⟩
  simp only [wpOps, wanted, wantQ, slot, hv]
  cases v with
  | bool b => cases b <;> cases want <;> simp [GuardQ] <;> rfl
  | _ => simp

@[simp] theorem wp_mov {x : AOpd} : wpOp C mt (.mov x) env h Q = Q (x.ev env) h := by simp [wpOp, AOp.kind, evalPure, BQ_some]

/-- What a pure or weak operation gives, by the values of its operands. -/
def pickV (c a b : AV) : Option AV := match c with | .bool t => some (if t then a else b) | _ => none
@[simp] theorem pickV_bool (t : Bool) (a b : AV) : pickV (.bool t) a b = some (if t then a else b) := nr rfl
@[simp] theorem wp_pick {c a b : AOpd} : wpOp C mt (.pick c a b) env h Q = BQ (pickV (c.ev env) (a.ev env) (b.ev env)) (vK Q h) := nr rfl
@[simp] theorem wp_bin {o : BinOp} {x y : AOpd} : wpOp C mt (.bin o x y) env h Q = BQ (binAV o (x.ev env) (y.ev env)) (vK Q h) := nr rfl
@[simp] theorem wp_build {z : List AV} {ps : List (Nat × Nat × AOpd)} : wpOp C mt (.build z ps) env h Q = BQ (fillIn z (evParts env ps)) (aggK Q h) := by
  simp only [wpOp, AOp.kind, evalPure]
  cases fillIn z (evParts env ps) <;> simp [BQ_some, BQ_none]
def nilV (v : AV) : Option AV :=
  match v with
  | .ptr (some a) => some (.ptr (some a))
  | .func (.func f) fs cs => some (.func (.func f) fs cs)
  | .func (.yield l) fs cs => some (.func (.yield l) fs cs)
  | .iface t v => some (.iface t v)
  | .map m => some (.map m)
  | _ => none
@[simp] theorem nilV_ptr (a : Nat × Nat) : nilV (.ptr (some a)) = some (.ptr (some a)) := nr rfl
@[simp] theorem nilV_map (a : Option Nat) : nilV (.map a) = some (.map a) := nr rfl
@[simp] theorem nilV_fn (f : FuncId) (a b : List AV) : nilV (.func (.func f) a b) = some (.func (.func f) a b) := nr rfl
@[simp] theorem nilV_iface (t : TypeId) (a : AV) : nilV (.iface t a) = some (.iface t a) := nr rfl
@[simp] theorem wp_nilCheck {x : AOpd} : wpOp C mt (.nilCheck x) env h Q = BQ (nilV (x.ev env)) (vK Q h) := nr rfl
def notV (v : AV) : Option AV := match v with | .bool b => some (.bool (!b)) | _ => none
@[simp] theorem notV_bool (b : Bool) : notV (.bool b) = some (.bool (!b)) := nr rfl
@[simp] theorem wp_not {x : AOpd} : wpOp C mt (.un .not x) env h Q = BQ (notV (x.ev env)) (vK Q h) := nr rfl
def negV (v : AV) : Option AV := match v with | .int k n => some (.int k (k.wrap (0 - n))) | _ => none
@[simp] theorem negV_int (k : IntKind) (n : Int) : negV (.int k n) = some (.int k (k.wrap (0 - n))) := nr rfl
@[simp] theorem wp_neg {x : AOpd} : wpOp C mt (.un .neg x) env h Q = BQ (negV (x.ev env)) (vK Q h) := nr rfl
def convIntV (k : IntKind) (v : AV) : Option AV := match v with | .int _ n => some (.int k (k.wrap n)) | _ => none
@[simp] theorem convIntV_int (k k' : IntKind) (n : Int) : convIntV k (.int k' n) = some (.int k (k.wrap n)) := nr rfl
@[simp] theorem wp_convInt {k : IntKind} {x : AOpd} : wpOp C mt (.convInt k x) env h Q = BQ (convIntV k (x.ev env)) (vK Q h) := nr rfl
def strV (v : AV) : Option AV := match v with | .str s => some (.str s) | _ => none
@[simp] theorem strV_str (s : List Nat) : strV (.str s) = some (.str s) := nr rfl
@[simp] theorem wp_convStr {x : AOpd} : wpOp C mt (.convStr x) env h Q = BQ (strV (x.ev env)) (vK Q h) := nr rfl
@[simp] theorem wp_mkIface {t : TypeId} {x : AOpd} : wpOp C mt (.mkIface t x) env h Q = Q (.iface t (x.ev env)) h := by simp [wpOp, AOp.kind, evalPure, BQ_some]
@[simp] theorem wp_mkFunc {fn : Fn} {a b : List AOpd} : wpOp C mt (.mkFunc fn a b) env h Q = Q (.func fn (a.map (·.ev env)) (b.map (·.ev env))) h := by simp [wpOp, AOp.kind, evalPure, BQ_some]
def sliceStrV (x : AV) (lo hi : Option AV) : Option AV :=
  match x with
  | .str s => (bounds s.length s.length lo hi none).map fun b => .str ((s.drop b.1).take (b.2.1 - b.1))
  | _ => none
@[simp] theorem sliceStrV_str (s : List Nat) (lo hi : Option AV) : sliceStrV (.str s) lo hi = (bounds s.length s.length lo hi none).map fun b => .str ((s.drop b.1).take (b.2.1 - b.1)) := nr rfl
@[simp] theorem wp_sliceStr {x : AOpd} {lo hi : Option AOpd} : wpOp C mt (.sliceStr x lo hi) env h Q = BQ (sliceStrV (x.ev env) (lo.map (·.ev env)) (hi.map (·.ev env))) (vK Q h) := nr rfl
def sliceV (size : Nat) (x : AV) (lo hi mx : Option AV) : Option AV :=
  match x with
  | .slice none len cap es => (bounds len cap lo hi mx).map fun b => .slice none (b.2.1 - b.1) (b.2.2 - b.1) es
  | .slice (some p) len cap es =>
      if es = size then
        (bounds len cap lo hi mx).map fun b => .slice (some (p.1, p.2 + b.1 * size)) (b.2.1 - b.1) (b.2.2 - b.1) es
      else none
  | _ => none
@[simp] theorem sliceV_nil (size len cap es : Nat) (lo hi mx : Option AV) : sliceV size (.slice none len cap es) lo hi mx = (bounds len cap lo hi mx).map fun b => .slice none (b.2.1 - b.1) (b.2.2 - b.1) es := nr rfl
@[simp] theorem sliceV_some (size len cap : Nat) (p : Nat × Nat) (lo hi mx : Option AV) : sliceV size (.slice (some p) len cap size) lo hi mx = (bounds len cap lo hi mx).map fun b => .slice (some (p.1, p.2 + b.1 * size)) (b.2.1 - b.1) (b.2.2 - b.1) size := by simp [sliceV]
@[simp] theorem wp_slice {size : Nat} {x : AOpd} {lo hi mx : Option AOpd} : wpOp C mt (.slice size x lo hi mx) env h Q = BQ (sliceV size (x.ev env) (lo.map (·.ev env)) (hi.map (·.ev env)) (mx.map (·.ev env))) (vK Q h) := nr rfl
def fieldAddrV (off : Nat) (v : AV) : Option AV := match v with | .ptr (some a) => some (.ptr (some (a.1, a.2 + off))) | _ => none
@[simp] theorem fieldAddrV_ptr (off : Nat) (a : Nat × Nat) : fieldAddrV off (.ptr (some a)) = some (.ptr (some (a.1, a.2 + off))) := nr rfl
@[simp] theorem wp_fieldAddr {off : Nat} {x : AOpd} : wpOp C mt (.fieldAddr off x) env h Q = BQ (fieldAddrV off (x.ev env)) (vK Q h) := nr rfl
def fieldV (off : Nat) (size : Option Nat) (v : AV) : Option AV := match v with | .agg cs => partOf cs off size | _ => none
@[simp] theorem fieldV_agg (off : Nat) (size : Option Nat) (cs : List AV) : fieldV off size (.agg cs) = partOf cs off size := nr rfl
@[simp] theorem wp_field {off : Nat} {size : Option Nat} {x : AOpd} : wpOp C mt (.field off size x) env h Q = BQ (fieldV off size (x.ev env)) (vK Q h) := nr rfl
def idxAddrV (size : Nat) (x i : AV) : Option AV :=
  match x, i with
  | .slice (some a) len _ es, .int _ n => if es = size ∧ 0 ≤ n ∧ n < (len : Int) then some (.ptr (some (a.1, a.2 + n.toNat * size))) else none
  | _, _ => none
@[simp] theorem idxAddrV_at (size len cap : Nat) (a : Nat × Nat) (k : IntKind) (n : Int) : idxAddrV size (.slice (some a) len cap size) (.int k n) = if 0 ≤ n ∧ n < (len : Int) then some (.ptr (some (a.1, a.2 + n.toNat * size))) else none := by simp [idxAddrV]
@[simp] theorem wp_idxAddr {size : Nat} {x i : AOpd} : wpOp C mt (.idxAddr size x i) env h Q = BQ (idxAddrV size (x.ev env) (i.ev env)) (vK Q h) := nr rfl
def idxStrV (x i : AV) : Option AV :=
  match x, i with
  | .str s, .int _ n => if 0 ≤ n then (s[n.toNat]?).map byteAV else none
  | _, _ => none
@[simp] theorem idxStrV_at (s : List Nat) (k : IntKind) (n : Int) : idxStrV (.str s) (.int k n) = if 0 ≤ n then (s[n.toNat]?).map byteAV else none := nr rfl
@[simp] theorem wp_idxStr {x i : AOpd} : wpOp C mt (.idxStr x i) env h Q = BQ (idxStrV (x.ev env) (i.ev env)) (vK Q h) := nr rfl
def extractV (x : AV) (i : Nat) : Option AV := match x with | .tuple vs => vs[i]? | _ => none
@[simp] theorem extractV_tuple (vs : List AV) (i : Nat) : extractV (.tuple vs) i = vs[i]? := nr rfl
@[simp] theorem wp_extract {x : AOpd} {i : Nat} : wpOp C mt (.extract x i) env h Q = BQ (extractV (x.ev env) i) (vK Q h) := nr rfl
def lenStrV (x : AV) : Option AV := match x with | .str s => some (.int .i64 s.length) | _ => none
@[simp] theorem lenStrV_str (s : List Nat) : lenStrV (.str s) = some (.int .i64 s.length) := nr rfl
@[simp] theorem wp_lenStr {x : AOpd} : wpOp C mt (.lenStr x) env h Q = BQ (lenStrV (x.ev env)) (vK Q h) := nr rfl
def lenSliceV (x : AV) : Option AV := match x with | .slice _ n _ _ => some (.int .i64 n) | _ => none
@[simp] theorem lenSliceV_slice (a : Option (Nat × Nat)) (n c e : Nat) : lenSliceV (.slice a n c e) = some (.int .i64 n) := nr rfl
@[simp] theorem wp_lenSlice {x : AOpd} : wpOp C mt (.lenSlice x) env h Q = BQ (lenSliceV (x.ev env)) (vK Q h) := nr rfl
def minmaxV (m : Bool) (xs : List AV) : Option AV := match xs with | x :: r => minmaxOf m x r | [] => none
@[simp] theorem minmaxV_two (m : Bool) (k : IntKind) (a b : Int) : minmaxV m [.int k a, .int k b] = some (.int k (if m then (if b > a then b else a) else (if b < a then b else a))) := by simp [minmaxV, minmaxOf]
@[simp] theorem wp_minmax {m : Bool} {xs : List AOpd} : wpOp C mt (.minmax m xs) env h Q = BQ (minmaxV m (xs.map (·.ev env))) (vK Q h) := nr rfl

/-! #### Reads -/
def loadV (h : AH) (v : AV) : Option AV := match v with | .ptr (some a) => (match h.cellsAt a 1 with | some [v] => some v | _ => none) | _ => none
theorem loadV_ptr (a : Nat × Nat) : loadV h (.ptr (some a)) = (match h.cellsAt a 1 with | some [v] => some v | _ => none) := nr rfl
@[simp] theorem wp_load {x : AOpd} : wpOp C mt (.load none x) env h Q = BQ (loadV h (x.ev env)) (vK Q h) := nr rfl
def loadsV (h : AH) (n : Nat) (v : AV) : Option AV := match v with | .ptr (some a) => (h.cellsAt a n).map .agg | _ => none
@[simp] theorem loadsV_ptr (n : Nat) (a : Nat × Nat) : loadsV h n (.ptr (some a)) = (h.cellsAt a n).map .agg := nr rfl
@[simp] theorem wp_loads {n : Nat} {x : AOpd} : wpOp C mt (.load (some n) x) env h Q = BQ (loadsV h n (x.ev env)) (vK Q h) := nr rfl
@[simp] theorem wp_eq {neg : Bool} {ty : EqTy} {x y : AOpd} : wpOp C mt (.eq neg ty x y) env h Q = BQ (ty.eq h (x.ev env) (y.ev env)) (eqK neg Q h) := by
  simp only [wpOp, AOp.kind, evalWeak]
  cases ty.eq h (x.ev env) (y.ev env) <;> simp [BQ_some, BQ_none]

/-! #### What turns the heap -/
@[simp] theorem wp_alloc {z : List AV} {e : TypeId} : wpOp C mt (.alloc z e) env h Q = Q (.ptr (some (h.next, 0))) (h.row z e true) := by simp [wpOp, AOp.kind, wpStrong, evalStrong, BQ_some]
@[simp] theorem wp_buildSlice {z : List AV} {e : TypeId} {n : Nat} {ps : List (Nat × Nat × AOpd)} : wpOp C mt (.buildSlice z e n ps) env h Q = BQ ((fillIn (copies z n) (evParts env ps)).bind fun cs => if cs.all flat then some cs else none) (bsK n z.length e Q h) := by
  simp only [wpOp, AOp.kind, wpStrong, evalStrong]
  cases fillIn (copies z n) (evParts env ps) with
  | none => simp [BQ_none]
  | some cs => simp only [Option.bind]; split <;> simp [BQ_some, BQ_none]
def boxV (size : Nat) (v : AV) : Option (List AV) := if v.cells.length = size ∧ v.cells.all flat = true then some v.cells else none
theorem boxV_of {size : Nat} {v : AV} (h1 : v.cells.length = size) (h2 : v.cells.all flat = true) : boxV size v = some v.cells := if_pos ⟨h1, h2⟩
@[simp] theorem wp_box {size : Nat} {e : TypeId} {x : AOpd} : wpOp C mt (.box size e x) env h Q = BQ (boxV size (x.ev env)) (boxK e Q h) := by
  simp only [wpOp, AOp.kind, wpStrong, evalStrong, boxV]
  split <;> simp [BQ_some, BQ_none]
def storeV (h : AH) (size : Nat) (a v : AV) : Option AH :=
  match a with
  | .ptr (some p) => if v.cells.length = size then h.storeAt p v.cells else none
  | _ => none
theorem storeV_ptr (size : Nat) (p : Nat × Nat) (v : AV) : storeV h size (.ptr (some p)) v = if v.cells.length = size then h.storeAt p v.cells else none := nr rfl
@[simp] theorem wp_store {size : Nat} {a x : AOpd} : wpOp C mt (.store size a x) env h Q = BQ (storeV h size (a.ev env) (x.ev env)) (sK Q) := by
  simp only [wpOp, AOp.kind, wpStrong, evalStrong, storeV]
  cases a.ev env with
  | ptr p =>
    cases p with
    | none => simp [BQ_none]
    | some p =>
      simp only
      split
      · cases h.storeAt p (x.ev env).cells <;> simp [BQ_some, BQ_none]
      · simp [BQ_none]
  | _ => simp [BQ_none]
@[simp] theorem wp_call {f : AOpd} {args : List AOpd} : wpOp C mt (.call f args) env h Q = wpApply C (f.ev env) (args.map (·.ev env)) h Q := nr rfl
@[simp] theorem wp_invoke {r : AOpd} {name : String} {args : List AOpd} : wpOp C mt (.invoke r name args) env h Q = wpInvoke C mt (r.ev env) name (args.map (·.ev env)) h Q := nr rfl
def appendV (h : AH) (e : TypeId) (size bytes : Nat) (s x : AV) : Option (AV × AH) :=
  match s with
  | .slice base len cap es => (taken h size (fun n => n) x).bind fun r => appendTo h e size bytes base len cap es r.1 r.2
  | _ => none
theorem appendV_slice (e : TypeId) (size bytes : Nat) (base : Option (Nat × Nat)) (len cap es : Nat) (x : AV) : appendV h e size bytes (.slice base len cap es) x = (taken h size (fun n => n) x).bind fun r => appendTo h e size bytes base len cap es r.1 r.2 := nr rfl
@[simp] theorem wp_append {e : TypeId} {size bytes : Nat} {s x : AOpd} : wpOp C mt (.append e size bytes s x) env h Q = BQ (appendV h e size bytes (s.ev env) (x.ev env)) (rK Q) := nr rfl
def copyV (h : AH) (size : Nat) (d x : AV) : Option (AV × AH) :=
  match d with
  | .slice base dlen _ es => (taken h size (fun n => min n dlen) x).bind fun r => copyTo h size base es r.1 r.2
  | _ => none
theorem copyV_slice (size : Nat) (base : Option (Nat × Nat)) (len cap es : Nat) (x : AV) : copyV h size (.slice base len cap es) x = (taken h size (fun n => min n len) x).bind fun r => copyTo h size base es r.1 r.2 := nr rfl
@[simp] theorem wp_copy {size : Nat} {d x : AOpd} : wpOp C mt (.copy size d x) env h Q = BQ (copyV h size (d.ev env) (x.ev env)) (rK Q) := nr rfl
def clearV (h : AH) (z : List AV) (x : AV) : Option AH :=
  match x with
  | .slice none _ _ _ => some h
  | .slice (some a) n _ es => if n = 0 then some h else if es ≠ z.length then none else h.storeAt a (copies z n)
  | _ => none
@[simp] theorem clearV_nil (z : List AV) (n c es : Nat) : clearV h z (.slice none n c es) = some h := nr rfl
@[simp] theorem clearV_some (z : List AV) (a : Nat × Nat) (n c es : Nat) : clearV h z (.slice (some a) n c es) = if n = 0 then some h else if es ≠ z.length then none else h.storeAt a (copies z n) := nr rfl
@[simp] theorem wp_clear {z : List AV} {x : AOpd} : wpOp C mt (.clearSlice z x) env h Q = BQ (clearV h z (x.ev env)) (sK Q) := by
  simp only [wpOp, AOp.kind, wpStrong, evalStrong, clearV]
  cases x.ev env with
  | slice p n c es =>
    cases p with
    | none => simp [BQ_some]
    | some p =>
      simp only
      split
      · simp [BQ_some]
      · split
        · simp [BQ_none]
        · cases h.storeAt p (copies z n) <;> simp [BQ_some, BQ_none]
  | _ => simp [BQ_none]
def mkSliceV (h : AH) (z : List AV) (e : TypeId) (size bytes : Nat) (l c : AV) : Option (AV × AH) :=
  match l, c with
  | .int .i64 l, .int .i64 c => if 0 ≤ l ∧ l ≤ c ∧ c * bytes ≤ room ∧ c ≤ maxText then some (.slice (some (h.next, 0)) l.toNat c.toNat size, h.row (copies z c.toNat) e true) else none
  | _, _ => none
theorem mkSliceV_int (z : List AV) (e : TypeId) (size bytes : Nat) (l c : Int) : mkSliceV h z e size bytes (.int .i64 l) (.int .i64 c) = if 0 ≤ l ∧ l ≤ c ∧ c * bytes ≤ room ∧ c ≤ maxText then some (.slice (some (h.next, 0)) l.toNat c.toNat size, h.row (copies z c.toNat) e true) else none := nr rfl
@[simp] theorem wp_mkSlice {z : List AV} {e : TypeId} {size bytes : Nat} {l c : AOpd} : wpOp C mt (.mkSlice z e size bytes l c) env h Q = BQ (mkSliceV h z e size bytes (l.ev env) (c.ev env)) (rK Q) := nr rfl
@[simp] theorem wp_mkMap : wpOp C mt .mkMap env h Q = Q (.map (some h.next)) (h.push (.map [] 0)) := by simp [wpOp, AOp.kind, wpStrong, evalStrong, BQ_some]
end ops

/-! ### The frame -/
@[simp] theorem ev_tmp (env : List AV) (t : Nat) : AOpd.ev env (.tmp t) = slot env t := (Eq.refl (slot env t)).trans rfl
@[simp] theorem ev_val (env : List AV) (v : AV) : AOpd.ev env (.val v) = v := (Eq.refl v).trans rfl
@[simp] theorem putEnv_some (env : List AV) (d : Nat) (v : AV) : putEnv env (some d) v = env.set d v := nr rfl
@[simp] theorem putEnv_none (env : List AV) (v : AV) : putEnv env none v = env := nr rfl

attribute [simp] BQ_some BQ_none wpApply_fn wpApply_yield wpInvoke_iface CondQ_true CondQ_false SeqQ_normal SeqQ_exit SeqQ_ret BlockQ_normal BlockQ_ret BlockQ_exit BodyQ_normal BodyQ_ret BodyQ_exit

theorem resultOf_slot (env : List AV) (h : AH) (t : Nat) : resultOf env h (t, none) = some (slot env t) := nr rfl
theorem resultOf_cell (env : List AV) (h : AH) (t : Nat) : resultOf env h (t, some none) = loadV h (slot env t) := nr rfl
theorem resultOf_cells (env : List AV) (h : AH) (t n : Nat) : resultOf env h (t, some (some n)) = loadsV h n (slot env t) := nr rfl
attribute [simp] resultOf_slot resultOf_cell resultOf_cells
attribute [simp] evParts fillIn copies resultsOf oneOrTuple partOf
@[simp] theorem cells_agg (cs : List AV) : AV.cells (.agg cs) = cs := nr rfl
@[simp] theorem cells_int (k : IntKind) (n : Int) : AV.cells (.int k n) = [.int k n] := nr rfl
@[simp] theorem cells_bool (b : Bool) : AV.cells (.bool b) = [.bool b] := nr rfl
@[simp] theorem cells_str (s : List Nat) : AV.cells (.str s) = [.str s] := nr rfl
@[simp] theorem cells_ptr (a : Option (Nat × Nat)) : AV.cells (.ptr a) = [.ptr a] := nr rfl
@[simp] theorem cells_slice (a : Option (Nat × Nat)) (n c e : Nat) : AV.cells (.slice a n c e) = [.slice a n c e] := nr rfl
@[simp] theorem cells_map (a : Option Nat) : AV.cells (.map a) = [.map a] := nr rfl
@[simp] theorem cells_func (f : Fn) (a b : List AV) : AV.cells (.func f a b) = [.func f a b] := nr rfl
@[simp] theorem cells_nilFunc : AV.cells .nilFunc = [.nilFunc] := nr rfl
@[simp] theorem cells_iface (t : TypeId) (a : AV) : AV.cells (.iface t a) = [.iface t a] := nr rfl
@[simp] theorem cells_nilIface : AV.cells .nilIface = [.nilIface] := nr rfl
@[simp] theorem flat_int (k : IntKind) (n : Int) : flat (.int k n) = true := nr rfl
@[simp] theorem flat_bool (b : Bool) : flat (.bool b) = true := nr rfl
@[simp] theorem flat_str (s : List Nat) : flat (.str s) = true := nr rfl
@[simp] theorem flat_ptr (a : Option (Nat × Nat)) : flat (.ptr a) = true := nr rfl
@[simp] theorem flat_slice (a : Option (Nat × Nat)) (n c e : Nat) : flat (.slice a n c e) = true := nr rfl
@[simp] theorem flat_map (a : Option Nat) : flat (.map a) = true := nr rfl
@[simp] theorem flat_func (f : Fn) (a b : List AV) : flat (.func f a b) = true := nr rfl
@[simp] theorem flat_nilFunc : flat .nilFunc = true := nr rfl
@[simp] theorem flat_iface (t : TypeId) (a : AV) : flat (.iface t a) = true := nr rfl
@[simp] theorem flat_nilIface : flat .nilIface = true := nr rfl

theorem BQ_iff {α : Type} {o : Option α} {Q : α → Prop} : BQ o Q ↔ ∃ a, o = some a ∧ Q a := Iff.rfl
theorem BQ_ite {α : Type} {c : Prop} [Decidable c] {a : α} {Q : α → Prop} (h : c) (q : Q a) : BQ (if c then some a else none) Q := by rw [if_pos h]; exact ⟨a, rfl, q⟩
@[simp] theorem BQ_if {α : Type} {c : Prop} [Decidable c] {a : α} {Q : α → Prop} : BQ (if c then some a else none) Q = (c ∧ Q a) := by
  by_cases h : c <;> simp [h]
@[simp] theorem BQ_map {α β : Type} {f : α → β} {o : Option α} {Q : β → Prop} : BQ (o.map f) Q = BQ o fun a => Q (f a) := by
  cases o <;> simp

/-! ### Whole numbers -/
@[simp] theorem bin_add (k : IntKind) (a b : Int) : binAV .add (.int k a) (.int k b) = some (.int k (k.wrap (a + b))) := by simp [binAV, intBin]
@[simp] theorem bin_sub (k : IntKind) (a b : Int) : binAV .sub (.int k a) (.int k b) = some (.int k (k.wrap (a - b))) := by simp [binAV, intBin]
@[simp] theorem bin_mul (k : IntKind) (a b : Int) : binAV .mul (.int k a) (.int k b) = some (.int k (k.wrap (a * b))) := by simp [binAV, intBin]
@[simp] theorem bin_quo (k : IntKind) (a b : Int) : binAV .quo (.int k a) (.int k b) = if b = 0 then none else some (.int k (k.wrap (a.tdiv b))) := by simp [binAV, intBin]
@[simp] theorem bin_rem (k : IntKind) (a b : Int) : binAV .rem (.int k a) (.int k b) = if b = 0 then none else some (.int k (a.tmod b)) := by simp [binAV, intBin]
@[simp] theorem bin_eql (k : IntKind) (a b : Int) : binAV .eql (.int k a) (.int k b) = some (.bool (a == b)) := by simp [binAV, intBin]
@[simp] theorem bin_neq (k : IntKind) (a b : Int) : binAV .neq (.int k a) (.int k b) = some (.bool (a != b)) := by simp [binAV, intBin]
@[simp] theorem bin_lss (k : IntKind) (a b : Int) : binAV .lss (.int k a) (.int k b) = some (.bool (decide (a < b))) := by simp [binAV, intBin]
@[simp] theorem bin_leq (k : IntKind) (a b : Int) : binAV .leq (.int k a) (.int k b) = some (.bool (decide (a ≤ b))) := by simp [binAV, intBin]
@[simp] theorem bin_gtr (k : IntKind) (a b : Int) : binAV .gtr (.int k a) (.int k b) = some (.bool (decide (b < a))) := by simp [binAV, intBin]
@[simp] theorem bin_geq (k : IntKind) (a b : Int) : binAV .geq (.int k a) (.int k b) = some (.bool (decide (b ≤ a))) := by simp [binAV, intBin]
@[simp] theorem strbin_add (a b : List Nat) : binAV .add (.str a) (.str b) = if a.length + b.length ≤ maxText then some (.str (a ++ b)) else none := by simp [binAV, strBin]
@[simp] theorem strbin_eql (a b : List Nat) : binAV .eql (.str a) (.str b) = some (.bool (a == b)) := by simp [binAV, strBin]
@[simp] theorem strbin_neq (a b : List Nat) : binAV .neq (.str a) (.str b) = some (.bool (!(a == b))) := by simp [binAV, strBin]

theorem wrap_i64 {n : Int} (h1 : -9223372036854775808 ≤ n) (h2 : n ≤ 9223372036854775807) : IntKind.wrap .i64 n = n := IntWalk.i64_in n ⟨h1, h2⟩

/-! ### Comparing -/
@[simp] theorem eqTy_bool (h : AH) (a b : Bool) : EqTy.eq h .bool (.bool a) (.bool b) = some (a == b) := by simp [EqTy.eq, eqBool]
@[simp] theorem eqTy_ptr_none (h : AH) : EqTy.eq h .ptr (.ptr none) (.ptr none) = some true := by simp [EqTy.eq, eqPtr]
@[simp] theorem eqTy_ptr_some (h : AH) (a : Nat × Nat) : EqTy.eq h .ptr (.ptr (some a)) (.ptr none) = some false := by simp [EqTy.eq, eqPtr]
@[simp] theorem eqTy_slice_none (h : AH) (n c e n' c' e' : Nat) : EqTy.eq h .slice (.slice none n c e) (.slice none n' c' e') = some true := by simp [EqTy.eq, eqSlice]
@[simp] theorem eqTy_slice_some (h : AH) (a : Nat × Nat) (n c e n' c' e' : Nat) : EqTy.eq h .slice (.slice (some a) n c e) (.slice none n' c' e') = some false := by simp [EqTy.eq, eqSlice]

/-! ### Memory -/
@[simp] theorem next_row (h : AH) (vs : List AV) (e : TypeId) (p : Bool) : (h.row vs e p).next = h.next + 1 := nr rfl
attribute [simp] AH.next_push AH.next_set AH.next_forget
theorem get_row_new (h : AH) (vs : List AV) (e : TypeId) (p : Bool) (i : Nat) (hi : i = h.next) : (h.row vs e p).get i = .cells (vs.map some) e h.next 0 false false p := by
  subst hi; simp [AH.row, AH.get_push]
theorem get_row_old (h : AH) (vs : List AV) (e : TypeId) (p : Bool) (i : Nat) (hi : i < h.next) : (h.row vs e p).get i = h.get i := by
  simp [AH.row, AH.get_push, Nat.ne_of_lt hi]
theorem get_push_new (h : AH) (b : ABlk) (i : Nat) (hi : i = h.next) : (h.push b).get i = b := by
  subst hi; simp [AH.get_push]
theorem get_push_old (h : AH) (b : ABlk) (i : Nat) (hi : i < h.next) : (h.push b).get i = h.get i := by
  simp [AH.get_push, Nat.ne_of_lt hi]

/-! ### Regions whose order is open -/
@[simp] theorem boxV_agg (size : Nat) (cs : List AV) : boxV size (.agg cs) = if cs.length = size ∧ cs.all flat = true then some cs else none := nr rfl

section draw
variable {C : CallP} {mt : Methods} {env : List AV} {h : AH} {hs : List AH} {cs : List Chk} {Q : List AV → AH → List AH → List Chk → Prop}

/-- What is kept behind an operation of such a region. -/
def drawK (C : CallP) (mt : Methods) (k : Kind) (o : AOp) (menv : List AV) (lo hi : Nat) (r : List AOper) (d : Option Nat) (env : List AV) (h : AH) (hs : List AH) (cs : List Chk) (Q : List AV → AH → List AH → List Chk → Prop) (v : AV) (h' : AH) : Prop :=
  match k with
  | .pure => wpDraw C mt r (putEnv env d v) h hs cs Q
  | .weak => wpDraw C mt r (putEnv env d v) h hs (⟨menv, o, lo, hi, v⟩ :: cs) Q
  | .strong => wpDraw C mt r (putEnv env d v) h' (hs ++ [h']) cs Q
@[simp] theorem drawK_pure {o : AOp} {menv : List AV} {lo hi : Nat} {r : List AOper} {d : Option Nat} {v : AV} {h' : AH} : drawK C mt .pure o menv lo hi r d env h hs cs Q v h' = wpDraw C mt r (putEnv env d v) h hs cs Q := nr rfl
@[simp] theorem drawK_weak {o : AOp} {menv : List AV} {lo hi : Nat} {r : List AOper} {d : Option Nat} {v : AV} {h' : AH} : drawK C mt .weak o menv lo hi r d env h hs cs Q v h' = wpDraw C mt r (putEnv env d v) h hs (⟨menv, o, lo, hi, v⟩ :: cs) Q := nr rfl
@[simp] theorem drawK_strong {o : AOp} {menv : List AV} {lo hi : Nat} {r : List AOper} {d : Option Nat} {v : AV} {h' : AH} : drawK C mt .strong o menv lo hi r d env h hs cs Q v h' = wpDraw C mt r (putEnv env d v) h' (hs ++ [h']) cs Q := nr rfl
@[congr] theorem drawK_congr {k k' : Kind} {o : AOp} {menv : List AV} {lo hi : Nat} {r : List AOper} {d : Option Nat} {v v' : AV} {h' : AH} (e1 : k = k') (e2 : v = v') : drawK C mt k o menv lo hi r d env h hs cs Q v h' = drawK C mt k' o menv lo hi r d env h hs cs Q v' h' := by rw [e1, e2]

@[simp] theorem wpDraw_nil : wpDraw C mt [] env h hs cs Q = Q env h hs cs := nr rfl
@[simp] theorem wpDraw_cons {d : Option Nat} {o : AOp} {ns : List Nat} {lo hi : Nat} {l : Bool} {r : List AOper} : wpDraw C mt (⟨d, o, none, ns, lo, hi, l⟩ :: r) env h hs cs Q = wpOp C mt o (mask ns env) h (drawK C mt o.kind o (mask ns env) lo hi r d env h hs cs Q) := by
  simp only [wpDraw, wanted, if_true, wpOp]
  cases o.kind <;> rfl
@[simp] theorem wpDraw_consG {d : Option Nat} {o : AOp} {s : Nat} {want : Bool} {ns : List Nat} {lo hi : Nat} {l : Bool} {r : List AOper} : wpDraw C mt (⟨d, o, some (s, want), ns, lo, hi, l⟩ :: r) env h hs cs Q = wantQ (slot env s) want (wpOp C mt o (mask ns env) h (drawK C mt o.kind o (mask ns env) lo hi r d env h hs cs Q)) (wpDraw C mt r (putEnv env d .undef) h (match o.kind with | .strong => hs ++ [h] | _ => hs) cs Q) := by
  obtain ⟨v, hv⟩ : ∃ v, env.getD s .undef = v := ⟨_, rfl⟩
  simp only [wpDraw, wanted, wantQ, slot, hv]
  cases v with
  | bool b =>
    cases b <;> cases want <;> simp only [GuardQ_tt, GuardQ_tf, GuardQ_ft, GuardQ_ff, beq_self_eq_true, if_true, Bool.false_eq_true, if_false, Bool.true_beq, Bool.false_beq, Bool.not_true, Bool.not_false, wpOp]
    all_goals cases o.kind <;> rfl
  | _ =>
    simp only [Bool.false_eq_true, if_false]
    cases o.kind <;> rfl
end draw

mutual
theorem same_refl : ∀ v : AV, AV.same v v = true
  | .bool b => by simp [AV.same]
  | .int k n => by simp [AV.same]
  | .str s => by simp [AV.same]
  | .ptr a => by simp [AV.same]
  | .slice a n c e => by simp [AV.same]
  | .map a => by simp [AV.same]
  | .func f a b => by simp [AV.same, sames_refl a, sames_refl b]
  | .nilFunc => by simp [AV.same]
  | .iface t a => by simp [AV.same, same_refl a]
  | .nilIface => by simp [AV.same]
  | .agg cs => by simp [AV.same, sames_refl cs]
  | .tuple cs => by simp [AV.same, sames_refl cs]
theorem sames_refl : ∀ v : List AV, AV.sames v v = true
  | [] => by simp [AV.sames]
  | a :: r => by simp [AV.sames, same_refl a, sames_refl r]
end
attribute [simp] same_refl

/-- A read held against the heaps behind each turn. -/
def okAt (o : AOp) (env : List AV) (v : AV) (h : AH) : Bool := match evalWeak env h o with | some u => AV.same u v | none => false
theorem okAt_of {o : AOp} {env : List AV} {v : AV} {h : AH} (e : evalWeak env h o = some v) : okAt o env v h = true := by simp [okAt, e]
theorem chk_one {hs : List AH} {env : List AV} {o : AOp} {lo : Nat} {v : AV} {h : AH} (hh : hs[lo]? = some h) (e : evalWeak env h o = some v) : Chk.ok hs ⟨env, o, lo, lo, v⟩ = true := by
  simp [Chk.ok, hh, e, show lo + 1 - lo = 1 by omega, List.range_succ]
theorem chk_of {hs : List AH} {env : List AV} {o : AOp} {lo hi : Nat} {v : AV} (e : ∀ i h, lo ≤ i → i ≤ hi → hs[i]? = some h → evalWeak env h o = some v) : Chk.ok hs ⟨env, o, lo, hi, v⟩ = true := by
  simp only [Chk.ok, List.all_eq_true, List.mem_range]
  intro d hd
  split
  · rename_i h hh
    rw [e _ h (by omega) (by omega) hh]
    exact same_refl v
  · rfl

theorem chk_mem {hs : List AH} {env : List AV} {o : AOp} {lo hi : Nat} {v : AV} (e : ∀ h, h ∈ hs → evalWeak env h o = some v) : Chk.ok hs ⟨env, o, lo, hi, v⟩ = true :=
  chk_of fun i h _ _ hi => e h (List.mem_of_getElem? hi)

@[simp] theorem weak_load (env : List AV) (h : AH) (x : AOpd) : evalWeak env h (.load none x) = loadV h (x.ev env) := nr rfl
@[simp] theorem weak_loads (env : List AV) (h : AH) (n : Nat) (x : AOpd) : evalWeak env h (.load (some n) x) = loadsV h n (x.ev env) := nr rfl
attribute [simp] AOp.kind

/-- A new local, filled at once. -/
theorem store_new {h : AH} {z : List AV} {e n : Nat} {pl : Bool} {x : AV} (h1 : x.cells.length = n) (h2 : z.length = n) (h3 : x.cells.all flat = true) : storeV (h.row z e pl) n (.ptr (some (h.next, 0))) x = some (h.row x.cells e pl) := by
  have hg := get_row_new h z e pl h.next rfl
  have hp : putAt (z.map some) 0 x.cells = some (x.cells.map some) := by
    rw [← h2] at h1
    generalize x.cells = ws at *
    clear hg h3 h2 n
    induction ws generalizing z with
    | nil => cases z <;> simp_all [putAt]
    | cons w ws ih =>
      cases z with
      | nil => simp at h1
      | cons y z => simp only [List.map_cons, putAt]; rw [ih (z := z) (by simpa using h1)]; rfl
  simp only [storeV_ptr, h1, if_true, AH.storeAt, hg, h3, hp, Option.map]
  simp [AH.row, AH.set, AH.push]

@[simp] theorem NQ_at (Q : AExit → List AV → AH → Prop) (env : List AV) (h : AH) : NQ Q env h = Q .normal env h := nr rfl
@[simp] theorem DQ_at (Q : AExit → List AV → AH → Prop) (env : List AV) (h : AH) (hs : List AH) (cs : List Chk) : DQ Q env h hs cs = (cs.all (Chk.ok hs) = true ∧ Q .normal env h) := nr rfl
attribute [simp ↓] BQ_some BQ_none BQ_if CondQ_true CondQ_false wantQ_bool wantQ_undef GuardQ_tt GuardQ_tf GuardQ_ft GuardQ_ff wpApply_fn SeqQ_normal SeqQ_exit SeqQ_ret BlockQ_normal BlockQ_ret BlockQ_exit BodyQ_normal BodyQ_ret
end Go.Proofs.YtjihmonajekomaaGreatDoor.Ax
