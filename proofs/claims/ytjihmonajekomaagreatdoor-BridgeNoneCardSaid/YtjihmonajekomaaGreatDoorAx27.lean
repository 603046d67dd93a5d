/- More rules of the evaluator without a bound: ranges over functions and strings; octets. Conditions: as each theorem states. -/
import Derived.Test.YtjihmonajekomaaGreatDoorAx26
namespace Go.Proofs.YtjihmonajekomaaGreatDoor.Ax
open Go
set_option linter.unusedVariables false
set_option linter.unusedSimpArgs false

section ops
variable {C : CallP} {mt : Methods} {env : List AV} {h : AH} {Q : AV → AH → Prop}
def toBytesV (h : AH) (e : TypeId) (x : AV) : Option (AV × AH) := match x with | .str s => some (.slice (some (h.next, 0)) s.length s.length 1, h.row (s.map byteAV) e false) | _ => none
@[simp] theorem toBytesV_str (h : AH) (e : TypeId) (s : List Nat) : toBytesV h e (.str s) = some (.slice (some (h.next, 0)) s.length s.length 1, h.row (s.map byteAV) e false) := nr rfl
@[simp] theorem wp_toBytes {e : TypeId} {x : AOpd} : wpOp C mt (.toBytes e x) env h Q = BQ (toBytesV h e (x.ev env)) (rK Q) := nr rfl
def ofBytesV (h : AH) (x : AV) : Option AV :=
  match x with
  | .slice none _ _ _ => some (.str [])
  | .slice (some a) len _ 1 => (h.cellsAt a len).bind fun cs => (bytesOf cs).map .str
  | _ => none
@[simp] theorem wp_ofBytes {x : AOpd} : wpOp C mt (.ofBytes x) env h Q = BQ (ofBytesV h (x.ev env)) (vK Q h) := nr rfl
def idxArrV (m size : Nat) (agg : Bool) (x i : AV) : Option AV :=
  match x, i with
  | .agg cs, .int _ n => if 0 ≤ n ∧ n < (m : Int) then partOf cs (n.toNat * size) (if agg then some size else none) else none
  | _, _ => none
@[simp] theorem idxArrV_at (m size : Nat) (agg : Bool) (cs : List AV) (k : IntKind) (n : Int) : idxArrV m size agg (.agg cs) (.int k n) = if 0 ≤ n ∧ n < (m : Int) then partOf cs (n.toNat * size) (if agg then some size else none) else none := nr rfl
@[simp] theorem wp_idxArr {m size : Nat} {agg : Bool} {x i : AOpd} : wpOp C mt (.idxArr m size agg x i) env h Q = BQ (idxArrV m size agg (x.ev env) (i.ev env)) (vK Q h) := nr rfl
def rangeStrV (h : AH) (x : AV) : Option (AV × AH) := match x with | .str s => some (.ptr (some (h.next, 0)), h.push (.strIter s 0)) | _ => none
@[simp] theorem rangeStrV_str (h : AH) (s : List Nat) : rangeStrV h (.str s) = some (.ptr (some (h.next, 0)), h.push (.strIter s 0)) := nr rfl
@[simp] theorem wp_rangeStr {x : AOpd} : wpOp C mt (.rangeStr x) env h Q = BQ (rangeStrV h (x.ev env)) (rK Q) := nr rfl
def nextStrV (h : AH) (x : AV) : Option (AV × AH) :=
  match x with
  | .ptr (some (r, 0)) =>
    match h.get r with
    | .strIter s pos =>
      match s[pos]? with
      | some b => if b < 128 then some (.tuple [.bool true, .int .i64 pos, .int .i32 b], h.set r (.strIter s (pos + 1))) else some (.tuple [.bool true, .int .i64 pos, .int .i32 (runeAt s pos).1], h.set r (.strIter s (pos + (runeAt s pos).2)))
      | none => some (.tuple [.bool false], h)
    | _ => none
  | _ => none
theorem nextStrV_some {h : AH} {r : Nat} {s : List Nat} {pos b : Nat} (hg : h.get r = .strIter s pos) (hb : s[pos]? = some b) (h1 : b < 128) : nextStrV h (.ptr (some (r, 0))) = some (.tuple [.bool true, .int .i64 pos, .int .i32 b], h.set r (.strIter s (pos + 1))) := by
  simp only [nextStrV, hg, hb, if_pos h1]
theorem nextStrV_none {h : AH} {r : Nat} {s : List Nat} {pos : Nat} (hg : h.get r = .strIter s pos) (hb : s[pos]? = none) : nextStrV h (.ptr (some (r, 0))) = some (.tuple [.bool false], h) := by
  simp only [nextStrV, hg, hb]
@[simp] theorem wp_nextStr {x : AOpd} : wpOp C mt (.nextStr x) env h Q = BQ (nextStrV h (x.ev env)) (rK Q) := nr rfl
end ops

/-! ### Frames -/
/-- A block of its own name. -/
def Own (h : AH) (q : Nat) : Prop := h.get q ≠ .dead ∧ nameOf q (h.get q) = q
theorem Own.lt {h : AH} {q : Nat} (o : Own h q) : q < h.next := (AH.get_lt o.1).1
theorem Keep.own {h h' : AH} {S : List Nat} (a : Keep h h' S) {q : Nat} (o : Own h q) (hS : q ∉ S) : h'.get q = h.get q :=
  a.old q o.1 (by rw [o.2]; exact o.lt) (by rw [o.2]; exact hS)
theorem Keep.setAt {h : AH} {b : Nat} (o : Own h b) (x : ABlk) : Keep h (h.set b x) [b] := by
  refine ⟨Nat.le_refl _, fun q hq hn hS => ?_⟩
  by_cases c : b = q
  · subst c; rw [o.2] at hS; simp at hS
  · exact AH.get_set_other c _
theorem Own.cells {h : AH} {q : Nat} {row : List (Option AV)} {e base : Nat} {sh ro pl : Bool} (hg : h.get q = .cells row e q base sh ro pl) : Own h q := by
  unfold Own; rw [hg]; exact ⟨by simp, rfl⟩
theorem Own.loop {h : AH} {q : Nat} {st : Nat} {pd : Option AJump} {tm : List AV} {ps : List Nat} {a b : ACode} (hg : h.get q = .loop st pd tm ps a b) : Own h q := by
  unfold Own; rw [hg]; exact ⟨by simp, rfl⟩
theorem Own.iter {h : AH} {q : Nat} {s : List Nat} {pos : Nat} (hg : h.get q = .strIter s pos) : Own h q := by
  unfold Own; rw [hg]; exact ⟨by simp, rfl⟩
theorem cells_row (h : AH) (vs : List AV) (e : TypeId) (p : Bool) : (h.row vs e p).cellsAt (h.next, 0) vs.length = some vs := by
  have hg := get_row_new h vs e p h.next rfl
  refine (cellsAt_iff hg).2 ⟨rfl, fun j v hj => ?_⟩
  rw [Nat.zero_add, List.getElem?_map, hj]; rfl

/-! ### Octets -/
def u8C (n : Int) : List AV := [.int .u8 n]
theorem u8C_len (x : Int) : (u8C x).length = 1 := rfl
theorem u8C_flat (x : Int) : (u8C x).all flat = true := rfl
def strC (s : List Nat) : List AV := [.str s]
theorem strC_len (x : List Nat) : (strC x).length = 1 := rfl
theorem strC_flat (x : List Nat) : (strC x).all flat = true := rfl
theorem map_byteAV (s : List Nat) : s.map byteAV = (s.map fun b : Nat => (b : Int)).flatMap u8C := by
  induction s with
  | nil => rfl
  | cons b s ih => rw [List.map_cons, ih]; rfl
theorem copies_one (x : AV) (n : Nat) : copies [x] n = List.replicate n x := by
  induction n with
  | zero => rfl
  | succ n ih => rw [copies, ih]; rfl
theorem replicate_u8 (n : Nat) (x : Int) : List.replicate n (AV.int .u8 x) = (List.replicate n x).flatMap u8C := by
  induction n with
  | zero => rfl
  | succ n ih => rw [List.replicate_succ, ih]; rfl
theorem bytesOf_u8 : ∀ L : List Int, bytesOf (L.flatMap u8C) = some (L.map fun n => n.toNat % 256)
  | [] => rfl
  | x :: L => by
    have ih := bytesOf_u8 L
    rw [List.flatMap_cons]
    simp only [u8C, List.cons_append, List.nil_append, bytesOf]
    rw [ih]
    rfl

section isl
variable {α : Type} {h : AH} {v : AV} {e es F : Nat} {f : α → List AV}
theorem IsSl.rowP (h : AH) (e : TypeId) (p : Bool) {L : List α} (hf : ∀ x, (f x).length = es) (hfl : ∀ x, (f x).all Ax.flat = true) {cs : List AV} (hc : cs = L.flatMap f) : IsSl (h.row cs e p) (.slice (some (h.next, 0)) L.length L.length es) e es f L h.next := by
  subst hc
  have hg := get_row_new h (L.flatMap f) e p h.next rfl
  refine ⟨Nat.lt_succ_self _, hf, hfl, .inr ⟨h.next, 0, L.length, _, _, _, _, rfl, Nat.le_refl _, hg, ?_⟩⟩
  refine (cellsAt_iff hg).2 ⟨flatMap_len hf L, fun j v hj => ?_⟩
  rw [Nat.zero_add, List.getElem?_map, hj]; rfl

theorem IsSl.bytes {L : List Int} (hs : IsSl h v e 1 u8C L F) : ofBytesV h v = some (.str (L.map fun n => n.toNat % 256)) := by
  rcases hs.is with ⟨rfl, e', rfl⟩ | ⟨b, o, c, row, base, sh, pl, rfl, h2, h3, h4⟩
  · rfl
  · rw [Nat.mul_one] at h4
    simp only [ofBytesV, h4, Option.bind, bytesOf_u8, Option.map]

/-- An octet's place: what is read there, and what a store there makes. -/
theorem IsSl.io1 {L : List Int} (hs : IsSl h v e 1 u8C L F) {i : Nat} {x : Int} (hx : L[i]? = some x) : ∃ b o, (∀ k, idxAddrV 1 v (.int k i) = some (.ptr (some (b, o)))) ∧ cell1 h b o = some (.int .u8 x) ∧
    ∀ y, ∃ h', storeV h 1 (.ptr (some (b, o))) (.int .u8 y) = some h' ∧ IsSl h' v e 1 u8C (L.set i y) F ∧ Keep h h' [F] ∧ h'.next = h.next := by
  have hi := (List.getElem?_eq_some_iff.1 hx).1
  obtain ⟨b, o, h1, h2⟩ := hs.at hx
  refine ⟨b, o + i * 1, h1, by rw [h2.cell0 hx (by omega)]; rfl, fun y => ?_⟩
  obtain ⟨b', o', h', g1, g2, g3, g4, g5⟩ := hs.store hi y
  have := h1 .i64
  rw [g1 .i64] at this
  simp only [Option.some.injEq, AV.ptr.injEq, Prod.mk.injEq] at this
  obtain ⟨rfl, e2⟩ := this
  refine ⟨h', ?_, g3, g4, g5⟩
  rw [← e2, storeV_ptr]
  exact (if_pos (by simp)).trans g2
end isl

/-! ### Ranges over functions -/
/-- Behind a range over a function: the jump that a round has left. -/
def endQ (pending : Option AJump) (Q : AExit → List AV → AH → Prop) (env : List AV) (h : AH) : Prop :=
  match pending with
  | none => Q .normal env h
  | some (.exit id) => Q (.exit id) env h
  | some .ret => Q .ret env h
@[simp] theorem endQ_none (Q : AExit → List AV → AH → Prop) (env : List AV) (h : AH) : endQ none Q env h = Q .normal env h := nr rfl

theorem WCall.body {E : Pg} {f : FuncId} {fn : AFn} {args : List AV} {h : AH} {Q : AV → AH → Prop} (hF : E.F f = some fn)
    (hw : WCode E false fn.body (args ++ List.replicate (fn.ntmps - args.length) .undef) h (BodyQ fn.results Q)) : WCall E (.body f) args h Q := by
  obtain ⟨K, ⟨ex, env', h'⟩, h1, h2⟩ := hw
  have fin : ∀ vs, resultsOf env' h' fn.results = some vs → Q (oneOrTuple vs) h' → (ex = .normal ∨ ex = .ret) → WCall E (.body f) args h Q := by
    intro vs e q hex
    refine ⟨K + 1, (oneOrTuple vs, h'), fun k n hk hn => ?_, q⟩
    obtain ⟨n, rfl⟩ : ∃ n', n = n' + 1 := ⟨n - 1, by omega⟩
    unfold Pg.c
    simp only [acall, hF, abody]
    have := h1 k n (by omega) (by omega)
    unfold Pg.c at this
    simp only at this
    rw [this]
    rcases hex with rfl | rfl <;> simp [e]
  cases ex with
  | normal => obtain ⟨vs, e, q⟩ := h2; exact fin vs e q (.inl rfl)
  | exit id => exact h2.elim
  | ret => obtain ⟨vs, e, q⟩ := h2; exact fin vs e q (.inr rfl)

/-- A range over a function: the function is called with the loop's own yield. -/
theorem WCode.rangeFunc {E : Pg} {f : AOpd} {g : FuncId} {first captured : List AV} {params : List Nat} {assign body : ACode} {env : List AV} {h : AH} {Q : AExit → List AV → AH → Prop} (ef : f.ev env = .func (.func g) first captured)
    (hw : WCall E (.body g) (first ++ [.func (.yield h.next) [] []] ++ captured) (h.push (.loop 0 none env params assign body)) fun _ h' => ∃ st pd tm ps a b, h'.get h.next = .loop st pd tm ps a b ∧ st ≠ 1 ∧ endQ pd Q env (h'.set h.next (.loop 3 pd tm ps a b))) :
    WCode E false (.rangeFunc f params assign body) env h Q := by
  obtain ⟨K, ⟨v, h'⟩, h1, st, pd, tm, ps, a, b, h2, h3, h4⟩ := hw
  simp only at h2 h4
  have key : ∀ r, rangeEnd pd env (h'.set h.next (.loop 3 pd tm ps a b)) = some r → Q r.1 r.2.1 r.2.2 → WCode E false (.rangeFunc f params assign body) env h Q := by
    intro r e q
    refine ⟨K, r, fun k n hk hn => ?_, q⟩
    have := h1 k n hk hn
    simp only [acode, Bool.false_eq_true, if_false, applyBody, ef, this, h2, if_neg h3, e]
  cases pd with
  | none => exact key _ rfl h4
  | some j =>
    cases j with
    | exit id => exact key _ rfl h4
    | ret => exact key _ rfl h4

/-- A round. -/
theorem WCall.yield {E : Pg} {l st : Nat} {pd : Option AJump} {tmps : List AV} {params : List Nat} {assign body : ACode} {args : List AV} {h : AH} {Q : AV → AH → Prop} (hl : h.get l = .loop st pd tmps params assign body) (hlen : params.length = args.length)
    (hw : WCode E true assign (setParams tmps params args) h fun ex env1 h1 => ex = .normal ∧ ∃ pd1 tm ps as bd, h1.get l = .loop 0 pd1 tm ps as bd ∧
      WCode E true body env1 (h1.set l (.loop 1 pd1 tm ps as bd)) fun e _ h3 => ∃ st' pd' tm' ps' as' bd', h3.get l = .loop st' pd' tm' ps' as' bd' ∧ Q (.bool e.jump.isNone) (h3.set l (.loop (if e.jump.isNone then 0 else 2) e.jump tm' ps' as' bd'))) :
    WCall E (.yield l) args h Q := by
  obtain ⟨K, ⟨ex, env1, h1⟩, a1, rfl, pd1, tm, ps, as, bd, a2, K', ⟨e, env2, h3⟩, b1, st', pd', tm', ps', as', bd', b2, q⟩ := hw
  simp only at a1 a2 b1 b2 q
  refine ⟨max K K' + 1, (.bool e.jump.isNone, h3.set l (.loop (if e.jump.isNone then 0 else 2) e.jump tm' ps' as' bd')), fun k n hk hn => ?_, q⟩
  obtain ⟨n, rfl⟩ : ∃ n', n = n' + 1 := ⟨n - 1, by omega⟩
  have e1 := a1 k n (by omega) (by omega)
  have e2 := b1 k n (by omega) (by omega)
  unfold Pg.c at e1 e2 ⊢
  simp only [acall, around, hl, hlen, if_true, e1, a2, e2, b2]
end Go.Proofs.YtjihmonajekomaaGreatDoor.Ax
