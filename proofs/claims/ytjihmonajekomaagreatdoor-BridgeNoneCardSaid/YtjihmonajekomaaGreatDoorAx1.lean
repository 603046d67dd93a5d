/- An evaluator of the model's code over a heap of its own (no draws, no capacities, no block numbers): values, heap, operations, code, calls. Definitions alone; what it computes is shown to be what the model does in the texts that follow. Conditions: none. -/
import Derived.Calls
import Derived.KernelRfl
namespace Go.Proofs.YtjihmonajekomaaGreatDoor.Ax
open Go

/-- A value over the evaluator's own heap: addresses are (block, place); a string is its octets as numbers; a slice bears how many places an element has. -/
inductive AV where
  | bool (b : Bool)
  | int (k : IntKind) (n : Int)
  | str (s : List Nat)
  | ptr (a : Option (Nat × Nat))
  | slice (a : Option (Nat × Nat)) (len cap es : Nat)
  | map (r : Option Nat)
  | func (fn : Fn) (first captured : List AV)
  | nilFunc
  | iface (t : TypeId) (v : AV)
  | nilIface
  | agg (cs : List AV)
  | tuple (vs : List AV)

instance : Inhabited AV := ⟨.tuple []⟩

def AV.undef : AV := .tuple []

def byteAV (b : Nat) : AV := .int .u8 (b : Int)

def AV.cells : AV → List AV
  | .agg cs => cs
  | v => [v]

/-- How two values of a type are compared. -/
inductive EqTy where
  | bool
  | int
  | str
  | ptr
  | slice
  | map
  | func
  | iface
  | struct (fields : List (Nat × Nat × Bool × EqTy))

/-- An operand. -/
inductive AOpd where
  | tmp (t : Nat)
  | val (v : AV)

/-- An operation, its types resolved. -/
inductive AOp where
  | mov (x : AOpd)
  | pick (c a b : AOpd)
  | alloc (zero : List AV) (e : TypeId)
  | box (size : Nat) (e : TypeId) (x : AOpd)
  | build (zero : List AV) (parts : List (Nat × Nat × AOpd))
  | buildSlice (zero : List AV) (e : TypeId) (len : Nat) (parts : List (Nat × Nat × AOpd))
  | load (size : Option Nat) (x : AOpd)
  | store (size : Nat) (a x : AOpd)
  | nilCheck (x : AOpd)
  | bin (op : BinOp) (x y : AOpd)
  | eq (neg : Bool) (ty : EqTy) (x y : AOpd)
  | un (op : UnOp) (x : AOpd)
  | convInt (k : IntKind) (x : AOpd)
  | convStr (x : AOpd)
  | toBytes (e : TypeId) (x : AOpd)
  | ofBytes (x : AOpd)
  | mkIface (t : TypeId) (x : AOpd)
  | mkFunc (fn : Fn) (first captured : List AOpd)
  | mkMap
  | mkSlice (zero : List AV) (e : TypeId) (size bytes : Nat) (len cap : AOpd)
  | sliceStr (x : AOpd) (lo hi : Option AOpd)
  | slice (size : Nat) (x : AOpd) (lo hi mx : Option AOpd)
  | sliceArr (n size : Nat) (x : AOpd) (lo hi mx : Option AOpd)
  | fieldAddr (off : Nat) (x : AOpd)
  | field (off : Nat) (size : Option Nat) (x : AOpd)
  | idxAddr (size : Nat) (x i : AOpd)
  | idxAddrArr (n size : Nat) (x i : AOpd)
  | idxArr (n size : Nat) (agg : Bool) (x i : AOpd)
  | idxStr (x i : AOpd)
  | lookup (ke : EqTy) (zero : AV) (ok : Bool) (m k : AOpd)
  | mapUpd (ke : EqTy) (m k v : AOpd)
  | mapEntry (ke : EqTy) (zero : AV) (m k : AOpd)
  | entryStore (m s v : AOpd)
  | rangeStr (x : AOpd)
  | rangeMap (x : AOpd)
  | nextStr (it : AOpd)
  | nextMap (it : AOpd)
  | entry (it : AOpd)
  | assertTo (t : TypeId) (zero : AV) (ok : Bool) (x : AOpd)
  | assertIface (yes : List TypeId) (no : List TypeId) (ok : Bool) (x : AOpd)
  | extract (x : AOpd) (i : Nat)
  | call (f : AOpd) (args : List AOpd)
  | invoke (recv : AOpd) (name : String) (args : List AOpd)
  | append (e : TypeId) (size bytes : Nat) (s x : AOpd)
  | copy (size : Nat) (d x : AOpd)
  | delete (ke : EqTy) (m k : AOpd)
  | lenStr (x : AOpd)
  | lenSlice (x : AOpd)
  | lenArr (n : Nat)
  | lenMap (x : AOpd)
  | minmax (isMax : Bool) (xs : List AOpd)
  | clearSlice (zero : List AV) (x : AOpd)
  | stuck

/-- An operation with its slot and guard; 'lo', 'hi' (of a read in a region whose order is open): how many of the region's turning operations may lie before it. -/
structure AOper where
  dst : Option Nat
  op : AOp
  guard : Option (Nat × Bool)
  names : List Nat
  lo : Nat
  hi : Nat
  late : Bool

inductive ACode where
  | skip
  | region (ops : List AOper) (draw : Bool)
  | seq (a b : ACode)
  | cond (c : AOpd) (thn els : ACode)
  | block (id : Nat) (body : ACode)
  | loop (body : ACode)
  | rangeFunc (f : AOpd) (params : List Nat) (assign body : ACode)
  | exit (id : Nat)
  | ret

inductive AJump where
  | exit (id : Nat)
  | ret

inductive ABlk where
  | dead
  | cells (cs : List (Option AV)) (e : TypeId) (fam base : Nat) (sh ro plain : Bool)
  | map (es : List (AV × AV × Nat)) (clock : Nat)
  | mapIter (m : Option Nat) (since : Nat) (seen : List Nat) (stepped : Nat)
  | strIter (s : List Nat) (pos : Nat)
  | loop (st : Nat) (pending : Option AJump) (tmps : List AV) (params : List Nat) (assign body : ACode)

/-- The heap: 'blks' holds the youngest block first. -/
structure AH where
  next : Nat
  blks : List ABlk

def AH.get (h : AH) (i : Nat) : ABlk := if i < h.next then h.blks.getD (h.next - 1 - i) .dead else .dead
def AH.set (h : AH) (i : Nat) (b : ABlk) : AH := ⟨h.next, if i < h.next then h.blks.set (h.next - 1 - i) b else h.blks⟩
def AH.push (h : AH) (b : ABlk) : AH := ⟨h.next + 1, b :: h.blks⟩

def AOpd.ev (env : List AV) : AOpd → AV
  | .tmp t => env.getD t .undef
  | .val v => v

def flat : AV → Bool
  | .agg _ => false
  | .tuple _ => false
  | _ => true

def takeSome : Nat → List (Option AV) → Option (List AV)
  | 0, _ => some []
  | _ + 1, [] => none
  | _ + 1, none :: _ => none
  | n + 1, some v :: r => (takeSome n r).map (v :: ·)

/-- Writes a row of values from place o on; the row must lie inside. -/
def putAt : List (Option AV) → Nat → List AV → Option (List (Option AV))
  | cs, _, [] => some cs
  | [], _, _ :: _ => none
  | _ :: r, 0, v :: vs => (putAt r 0 vs).map (some v :: ·)
  | c :: r, o + 1, v :: vs => (putAt r o (v :: vs)).map (c :: ·)

/-- Forgets the places whose number lies in [lo, lo + n); the first place's number is 'at'. -/
def forget (lo n : Nat) : Nat → List (Option AV) → List (Option AV)
  | _, [] => []
  | p, c :: r => (if lo ≤ p ∧ p < lo + n then none else c) :: forget lo n (p + 1) r

/-- In each other block of the family: the places written are forgotten. -/
def forgetIn (fam lo n skip : Nat) : Nat → List ABlk → List ABlk
  | _, [] => []
  | 0, l => l
  | c + 1, b :: r =>
    (match b with
     | .cells cs e f base sh ro pl => if c ≠ skip ∧ f = fam ∧ sh = true then .cells (forget lo n base cs) e f base sh ro pl else b
     | b => b) :: forgetIn fam lo n skip c r

def AH.forget (h : AH) (fam lo n skip : Nat) : AH := ⟨h.next, forgetIn fam lo n skip h.next h.blks⟩

def AH.cellsAt (h : AH) (a : Nat × Nat) (n : Nat) : Option (List AV) :=
  match h.get a.1 with
  | .cells cs .. => takeSome n (cs.drop a.2)
  | _ => none

def AH.storeAt (h : AH) (a : Nat × Nat) (vs : List AV) : Option AH :=
  match h.get a.1 with
  | .cells cs e fam base sh false pl =>
    if vs.all flat then
      (putAt cs a.2 vs).map fun cs' =>
        let h1 := h.set a.1 (.cells cs' e fam base sh false pl)
        if sh then h1.forget fam (base + a.2) vs.length a.1 else h1
    else none
  | _ => none

/-- A new block of cells. -/
def AH.row (h : AH) (vs : List AV) (e : TypeId) (plain : Bool) : AH := h.push (.cells (vs.map some) e h.next 0 false false plain)

def partOf (cs : List AV) (off : Nat) : Option Nat → Option AV
  | some n => if off + n ≤ cs.length then some (.agg ((cs.drop off).take n)) else none
  | none => cs[off]?

/-- Octets compared as Go does. -/
def strLt : List Nat → List Nat → Bool
  | _, [] => false
  | [], _ :: _ => true
  | a :: x, b :: y => a < b || (a == b && strLt x y)

def intBin (op : BinOp) (k : IntKind) (a b : Int) : Option AV :=
  match op with
  | .add => some (.int k (k.wrap (a + b)))
  | .sub => some (.int k (k.wrap (a - b)))
  | .mul => some (.int k (k.wrap (a * b)))
  | .quo => if b = 0 then none else some (.int k (k.wrap (a.tdiv b)))
  | .rem => if b = 0 then none else some (.int k (a.tmod b))
  | .and => some (.int k (k.wrap (BitVec.ofInt k.bits a &&& BitVec.ofInt k.bits b).toNat))
  | .or => some (.int k (k.wrap (BitVec.ofInt k.bits a ||| BitVec.ofInt k.bits b).toNat))
  | .xor => some (.int k (k.wrap (BitVec.ofInt k.bits a ^^^ BitVec.ofInt k.bits b).toNat))
  | .andNot => some (.int k (k.wrap (BitVec.ofInt k.bits a &&& ~~~(BitVec.ofInt k.bits b)).toNat))
  | .eql => some (.bool (a == b))
  | .neq => some (.bool (a != b))
  | .lss => some (.bool (decide (a < b)))
  | .leq => some (.bool (decide (a ≤ b)))
  | .gtr => some (.bool (decide (a > b)))
  | .geq => some (.bool (decide (a ≥ b)))
  | _ => none

def maxText : Nat := 4611686018427387904

def strBin (op : BinOp) (a b : List Nat) : Option AV :=
  match op with
  | .add => if a.length + b.length ≤ maxText then some (.str (a ++ b)) else none
  | .eql => some (.bool (a == b))
  | .neq => some (.bool (!(a == b)))
  | .lss => some (.bool (strLt a b))
  | .leq => some (.bool (strLt a b || a == b))
  | .gtr => some (.bool (!(strLt a b || a == b)))
  | .geq => some (.bool (!strLt a b))
  | _ => none

def binAV (op : BinOp) (x y : AV) : Option AV :=
  match x, y with
  | .int k a, .int k' b =>
    match op with
    | .shl => if b < 0 then none else some (.int k (k.wrap (a * 2 ^ (min b.toNat k.bits))))
    | .shr => if b < 0 then none else some (.int k (a.fdiv (2 ^ (min b.toNat k.bits))))
    | op => if k = k' then intBin op k a b else none
  | .str a, .str b => strBin op a b
  | _, _ => none

/-- Do two addresses name one place? In one block: by their places. In two: they don't, unless the blocks are of one family, or not plain. -/
def AH.samePtr (h : AH) (a b : Nat × Nat) : Option Bool :=
  if a.1 = b.1 then some (a.2 == b.2) else
  match h.get a.1, h.get b.1 with
  | .cells _ _ _ _ sh ro pl, .cells _ _ _ _ sh' ro' pl' => if pl && pl' && !ro && !ro' && !(sh && sh') then some false else none
  | _, _ => none

def eqBool : AV → AV → Option Bool
  | .bool a, .bool b => some (a == b)
  | _, _ => none

def eqInt : AV → AV → Option Bool
  | .int k a, .int k' b => if k = k' then some (a == b) else none
  | _, _ => none

def eqStr : AV → AV → Option Bool
  | .str a, .str b => some (a == b)
  | _, _ => none

def eqPtr (h : AH) : AV → AV → Option Bool
  | .ptr a, .ptr b =>
    match a, b with
    | none, b => some b.isNone
    | some _, none => some false
    | some a, some b => h.samePtr a b
  | _, _ => none

def eqSlice : AV → AV → Option Bool
  | .slice a _ _ _, .slice b _ _ _ => if a.isNone || b.isNone then some (a.isNone && b.isNone) else none
  | _, _ => none

def eqMap : AV → AV → Option Bool
  | .map a, .map b => if a.isNone || b.isNone then some (a.isNone && b.isNone) else none
  | _, _ => none

def eqFunc : AV → AV → Option Bool
  | .nilFunc, .nilFunc => some true
  | .nilFunc, .func _ _ _ => some false
  | .func _ _ _, .nilFunc => some false
  | _, _ => none

def eqIface : AV → AV → Option Bool
  | .nilIface, .nilIface => some true
  | .nilIface, .iface _ _ => some false
  | .iface _ _, .nilIface => some false
  | _, _ => none

def aggOf : AV → Option (List AV)
  | .agg cs => some cs
  | _ => none

mutual
def EqTy.eq (h : AH) : EqTy → AV → AV → Option Bool
  | .bool, x, y => eqBool x y
  | .int, x, y => eqInt x y
  | .str, x, y => eqStr x y
  | .ptr, x, y => eqPtr h x y
  | .slice, x, y => eqSlice x y
  | .map, x, y => eqMap x y
  | .func, x, y => eqFunc x y
  | .iface, x, y => eqIface x y
  | .struct fs, x, y =>
    match aggOf x, aggOf y with
    | some xs, some ys => EqTy.eqs h fs xs ys
    | _, _ => none
def EqTy.eqs (h : AH) : List (Nat × Nat × Bool × EqTy) → List AV → List AV → Option Bool
  | [], _, _ => some true
  | (off, size, agg, ty) :: r, xs, ys =>
    match partOf xs off (if agg then some size else none), partOf ys off (if agg then some size else none) with
    | some x, some y =>
      match EqTy.eq h ty x y with
      | some true => EqTy.eqs h r xs ys
      | some false => some false
      | none => none
    | _, _ => none
end

/-- Is a value a key of this kind? -/
def EqTy.fits : EqTy → AV → Bool
  | .bool, .bool _ => true
  | .int, .int _ _ => true
  | .str, .str _ => true
  | .struct fs, .agg xs => fs.all fun f =>
      match f.2.2.1, f.2.2.2, xs[f.1]? with
      | false, .bool, some (.bool _) => true
      | false, .int, some (.int _ _) => true
      | false, .str, some (.str _) => true
      | _, _, _ => false
  | _, _ => false

/-- The first entry with an equal key: its place and value. -/
def findIn (h : AH) (ke : EqTy) (k : AV) : List (AV × AV × Nat) → Nat → Option (Option (Nat × AV))
  | [], _ => some none
  | e :: r, i =>
    match ke.eq h k e.1 with
    | some true => some (some (i, e.2.1))
    | some false => findIn h ke k r (i + 1)
    | none => none

def findKeyIn (h : AH) (ke : EqTy) (k : AV) (es : List (AV × AV × Nat)) : Option (Option (Nat × AV)) := if ke.fits k then findIn h ke k es 0 else none

def fillIn : List AV → List (Nat × Nat × AV) → Option (List AV)
  | cs, [] => some cs
  | cs, (off, size, v) :: r =>
    if v.cells.length = size ∧ off + size ≤ cs.length then fillIn (cs.take off ++ v.cells ++ cs.drop (off + size)) r else none

def evParts (env : List AV) (ps : List (Nat × Nat × AOpd)) : List (Nat × Nat × AV) := ps.map fun p => (p.1, p.2.1, p.2.2.ev env)

/-- 'n' copies of a row of cells. -/
def copies (z : List AV) : Nat → List AV
  | 0 => []
  | n + 1 => z ++ copies z n

def bound (x : AV) (y : Nat) : Option Nat :=
  match x with
  | .int _ i => if 0 ≤ i ∧ i ≤ y then some i.toNat else none
  | _ => none

def bounds (len cap : Nat) (lo hi mx : Option AV) : Option (Nat × Nat × Nat) :=
  match (match mx with | some v => bound v cap | none => some cap) with
  | none => none
  | some m =>
    match (match hi with | some v => bound v m | none => if mx.isSome then none else some len) with
    | none => none
    | some h =>
      match (match lo with | some v => bound v h | none => some 0) with
      | none => none
      | some l => some (l, h, m)

def minmaxOf (isMax : Bool) : AV → List AV → Option AV
  | x, [] => some x
  | .int k a, .int k' b :: r => if k = k' then minmaxOf isMax (.int k (if isMax then (if b > a then b else a) else (if b < a then b else a))) r else none
  | _, _ => none

def evalPure (env : List AV) : AOp → Option AV
  | .mov x => some (x.ev env)
  | .pick c a b => match c.ev env with | .bool t => some (if t then a.ev env else b.ev env) | _ => none
  | .build zero parts => (fillIn zero (evParts env parts)).map .agg
  | .nilCheck x =>
    match x.ev env with
    | .ptr (some a) => some (.ptr (some a))
    | .func (.func f) fs cs => some (.func (.func f) fs cs)
    | .func (.yield l) fs cs => some (.func (.yield l) fs cs)
    | .iface t v => some (.iface t v)
    | .map m => some (.map m)
    | _ => none
  | .bin op x y => binAV op (x.ev env) (y.ev env)
  | .un .neg x => match x.ev env with | .int k n => some (.int k (k.wrap (0 - n))) | _ => none
  | .un .not x => match x.ev env with | .bool b => some (.bool (!b)) | _ => none
  | .un _ _ => none
  | .convInt k x => match x.ev env with | .int _ n => some (.int k (k.wrap n)) | _ => none
  | .convStr x => match x.ev env with | .str s => some (.str s) | _ => none
  | .mkIface t x => some (.iface t (x.ev env))
  | .mkFunc fn first captured => some (.func fn (first.map (·.ev env)) (captured.map (·.ev env)))
  | .sliceStr x lo hi =>
    match x.ev env with
    | .str s => (bounds s.length s.length (lo.map (·.ev env)) (hi.map (·.ev env)) none).map fun b => .str ((s.drop b.1).take (b.2.1 - b.1))
    | _ => none
  | .slice size x lo hi mx =>
    match x.ev env with
    | .slice none len cap es =>
      (bounds len cap (lo.map (·.ev env)) (hi.map (·.ev env)) (mx.map (·.ev env))).map fun b => .slice none (b.2.1 - b.1) (b.2.2 - b.1) es
    | .slice (some p) len cap es =>
      if es = size then
        (bounds len cap (lo.map (·.ev env)) (hi.map (·.ev env)) (mx.map (·.ev env))).map fun b => .slice (some (p.1, p.2 + b.1 * size)) (b.2.1 - b.1) (b.2.2 - b.1) es
      else none
    | _ => none
  | .fieldAddr off x => match x.ev env with | .ptr (some a) => some (.ptr (some (a.1, a.2 + off))) | _ => none
  | .field off size x => match x.ev env with | .agg cs => partOf cs off size | _ => none
  | .idxAddr size x i =>
    match x.ev env, i.ev env with
    | .slice (some a) len _ es, .int _ n => if es = size ∧ 0 ≤ n ∧ n < (len : Int) then some (.ptr (some (a.1, a.2 + n.toNat * size))) else none
    | _, _ => none
  | .idxAddrArr m size x i =>
    match x.ev env, i.ev env with
    | .ptr (some a), .int _ n => if 0 ≤ n ∧ n < (m : Int) then some (.ptr (some (a.1, a.2 + n.toNat * size))) else none
    | _, _ => none
  | .idxArr m size agg x i =>
    match x.ev env, i.ev env with
    | .agg cs, .int _ n => if 0 ≤ n ∧ n < (m : Int) then partOf cs (n.toNat * size) (if agg then some size else none) else none
    | _, _ => none
  | .idxStr x i =>
    match x.ev env, i.ev env with
    | .str s, .int _ n => if 0 ≤ n then (s[n.toNat]?).map byteAV else none
    | _, _ => none
  | .assertTo t zero ok x =>
    match x.ev env with
    | .nilIface => if ok then some (.tuple [zero, .bool false]) else none
    | .iface u v => if u = t then some (if ok then .tuple [v, .bool true] else v) else if ok then some (.tuple [zero, .bool false]) else none
    | _ => none
  | .assertIface yes no ok x =>
    match x.ev env with
    | .nilIface => if ok then some (.tuple [.nilIface, .bool false]) else none
    | .iface u v => if yes.contains u then some (if ok then .tuple [.iface u v, .bool true] else .iface u v) else if ok && no.contains u then some (.tuple [.nilIface, .bool false]) else none
    | _ => none
  | .extract x i => match x.ev env with | .tuple vs => vs[i]? | _ => none
  | .lenStr x => match x.ev env with | .str s => some (.int .i64 s.length) | _ => none
  | .lenSlice x => match x.ev env with | .slice _ n _ _ => some (.int .i64 n) | _ => none
  | .lenArr n => some (.int .i64 n)
  | .minmax isMax xs => match xs.map (·.ev env) with | x :: r => minmaxOf isMax x r | [] => none
  | _ => none

def bytesOf : List AV → Option (List Nat)
  | [] => some []
  | .int .u8 n :: r => (bytesOf r).map (n.toNat % 256 :: ·)
  | _ :: _ => none

def evalWeak (env : List AV) (h : AH) : AOp → Option AV
  | .load none x => match x.ev env with | .ptr (some a) => (match h.cellsAt a 1 with | some [v] => some v | _ => none) | _ => none
  | .load (some n) x => match x.ev env with | .ptr (some a) => (h.cellsAt a n).map .agg | _ => none
  | .eq neg ty x y => (ty.eq h (x.ev env) (y.ev env)).map fun b => .bool (if neg then !b else b)
  | .ofBytes x =>
    match x.ev env with
    | .slice none _ _ _ => some (.str [])
    | .slice (some a) len _ 1 => (h.cellsAt a len).bind fun cs => (bytesOf cs).map .str
    | _ => none
  | .lookup ke zero ok m k =>
    match m.ev env with
    | .map none => if ke.fits (k.ev env) then some (if ok then .tuple [zero, .bool false] else zero) else none
    | .map (some r) =>
      match h.get r with
      | .map es _ =>
        match findKeyIn h ke (k.ev env) es with
        | some (some (_, v)) => some (if ok then .tuple [v, .bool true] else v)
        | some none => some (if ok then .tuple [zero, .bool false] else zero)
        | none => none
      | _ => none
    | _ => none
  | .sliceArr n size x lo hi mx =>
    match x.ev env with
    | .ptr (some a) =>
      match h.get a.1 with
      | .cells cs .. =>
        if a.2 + n * size ≤ cs.length then
          (bounds n n (lo.map (·.ev env)) (hi.map (·.ev env)) (mx.map (·.ev env))).map fun b => .slice (some (a.1, a.2 + b.1 * size)) (b.2.1 - b.1) (b.2.2 - b.1) size
        else none
      | _ => none
    | _ => none
  | .lenMap x =>
    match x.ev env with
    | .map none => some (.int .i64 0)
    | .map (some r) => match h.get r with | .map es _ => some (.int .i64 es.length) | _ => none
    | _ => none
  | _ => none

inductive Target where
  | fn (f : FuncId)
  | body (f : FuncId)
  | yield (l : Nat)

abbrev Callee := Target → List AV → AH → Option (AV × AH)

/-- Which function a value of an interface answers a method with: (type, name) to function. -/
abbrev Methods := TypeId → String → Option FuncId

def room : Nat := 140737488355328

def apply (call : Callee) (f : AV) (args : List AV) (h : AH) : Option (AV × AH) :=
  match f with
  | .func (.func g) first captured => call (.fn g) (first ++ args ++ captured) h
  | .func (.yield l) first _ => call (.yield l) (first ++ args) h
  | _ => none

/-- The same, of a function whose text is run. -/
def applyBody (call : Callee) (f : AV) (args : List AV) (h : AH) : Option (AV × AH) :=
  match f with
  | .func (.func g) first captured => call (.body g) (first ++ args ++ captured) h
  | _ => none

def flatSame : AV → AV → Bool
  | .bool a, .bool b => a == b
  | .int k a, .int k' b => decide (k = k') && a == b
  | .str a, .str b => a == b
  | _, _ => false

def plainSame : AV → AV → Bool
  | .agg xs, .agg ys => xs.length == ys.length && (xs.zip ys).all fun p => flatSame p.1 p.2
  | a, b => flatSame a b

def sameKeyAt (i : Nat) (k : AV) (es : List (AV × AV × Nat)) : Bool :=
  match es[i]? with
  | some e => plainSame e.1 k
  | none => false

def setEntry (i : Nat) (k v : AV) (es : List (AV × AV × Nat)) : List (AV × AV × Nat) :=
  match es[i]? with
  | some e => es.set i (k, v, e.2.2)
  | none => es

/-- An append of some cells behind a slice: a block of its own, which may share its memory with the old one's. -/
def AH.appendAt (h : AH) (e' : TypeId) (a : Nat × Nat) (size len : Nat) (new : List AV) : Option AH :=
  match h.get a.1 with
  | .cells cs e fam base _ false pl =>
    if new.all flat = true ∧ e = e' then
      (takeSome (len * size) (cs.drop a.2)).map fun old =>
        let m := h.next
        ((h.set a.1 (.cells cs e fam base true false pl)).push (.cells ((old ++ new).map some) e fam (base + a.2) true false pl)).forget fam (base + a.2 + len * size) new.length m
    else none
  | _ => none

/-- What an append or a copy takes in. -/
def taken (h : AH) (size : Nat) (cut : Nat → Nat) : AV → Option (Nat × List AV)
  | .slice none _ _ _ => some (0, [])
  | .slice (some b) n _ es' => if es' = size then (h.cellsAt b (cut n * size)).map fun cs => (cut n, cs) else none
  | .str t => if size = 1 then some (cut t.length, (t.take (cut t.length)).map byteAV) else none
  | _ => none

def appendTo (h : AH) (e : TypeId) (size bytes : Nat) (base : Option (Nat × Nat)) (len cap es n : Nat) (new : List AV) : Option (AV × AH) :=
  if n = 0 then some (.slice base len cap es, h) else
  if (len + n) * bytes ≤ room ∧ len + n ≤ maxText then
    match base with
    | none => if new.all flat then some (.slice (some (h.next, 0)) n n size, h.row new e true) else none
    | some a =>
      if es = size then
        match (if len + n ≤ cap then h.storeAt (a.1, a.2 + len * size) new else none) with
        | some h' => some (.slice (some a) (len + n) cap size, h')
        | none => (h.appendAt e a size len new).map fun h' => (.slice (some (h.next, 0)) (len + n) (len + n) size, h')
      else none
  else none

def copyTo (h : AH) (size : Nat) (base : Option (Nat × Nat)) (es n : Nat) (new : List AV) : Option (AV × AH) :=
  match base with
  | none => some (.int .i64 n, h)
  | some a => if n = 0 then some (.int .i64 0, h) else if es ≠ size then none else (h.storeAt a new).map fun h' => (.int .i64 n, h')

/-- The rune that begins at a place, and how many octets it has. -/
def runeAt (s : List Nat) (pos : Nat) : Nat × Nat := Utf8.decode ⟨(s.map UInt8.ofNat).toArray⟩ pos

def evalStrong (mt : Methods) (call : Callee) (env : List AV) (h : AH) : AOp → Option (AV × AH)
  | .alloc zero e => some (.ptr (some (h.next, 0)), h.row zero e true)
  | .box size e x => let v := x.ev env; if v.cells.length = size ∧ v.cells.all flat then some (.ptr (some (h.next, 0)), h.row v.cells e true) else none
  | .buildSlice zero e len parts =>
    (fillIn (copies zero len) (evParts env parts)).bind fun cs => if cs.all flat then some (.slice (some (h.next, 0)) len len zero.length, h.row cs e true) else none
  | .store size a x =>
    match a.ev env with
    | .ptr (some p) => let v := x.ev env; if v.cells.length = size then (h.storeAt p v.cells).map fun h' => (.undef, h') else none
    | _ => none
  | .toBytes e x => match x.ev env with | .str s => some (.slice (some (h.next, 0)) s.length s.length 1, h.row (s.map byteAV) e false) | _ => none
  | .mkMap => some (.map (some h.next), h.push (.map [] 0))
  | .mkSlice zero e size bytes len cap =>
    match len.ev env, cap.ev env with
    | .int .i64 l, .int .i64 c =>
      if 0 ≤ l ∧ l ≤ c ∧ c * bytes ≤ room ∧ c ≤ maxText then some (.slice (some (h.next, 0)) l.toNat c.toNat size, h.row (copies zero c.toNat) e true) else none
    | _, _ => none
  | .mapUpd ke m k v =>
    match m.ev env with
    | .map (some r) =>
      match h.get r with
      | .map es clock =>
        match findKeyIn h ke (k.ev env) es with
        | some (some (i, _)) => if sameKeyAt i (k.ev env) es then some (.undef, h.set r (.map (setEntry i (k.ev env) (v.ev env) es) clock)) else none
        | some none => some (.undef, h.set r (.map (es ++ [(k.ev env, v.ev env, clock)]) (clock + 1)))
        | none => none
      | _ => none
    | _ => none
  | .mapEntry ke zero m k =>
    match m.ev env with
    | .map (some r) =>
      match h.get r with
      | .map es clock =>
        match findKeyIn h ke (k.ev env) es with
        | some (some (i, v)) => if sameKeyAt i (k.ev env) es then (es[i]?).map fun e => (.tuple [v, .int .i64 e.2.2], h.set r (.map (setEntry i (k.ev env) e.2.1 es) clock)) else none
        | some none => some (.tuple [zero, .int .i64 clock], h.set r (.map (es ++ [(k.ev env, zero, clock)]) (clock + 1)))
        | none => none
      | _ => none
    | _ => none
  | .entryStore m s v =>
    match m.ev env, s.ev env with
    | .map (some r), .int _ n =>
      match h.get r with
      | .map es clock =>
        match es.findIdx? (fun e => ((e.2.2 : Nat) : Int) == n) with
        | some i => (es[i]?).map fun e => (.undef, h.set r (.map (es.set i (e.1, v.ev env, e.2.2)) clock))
        | none => none
      | _ => none
    | _, _ => none
  | .rangeStr x => match x.ev env with | .str s => some (.ptr (some (h.next, 0)), h.push (.strIter s 0)) | _ => none
  | .rangeMap x =>
    match x.ev env with
    | .map none => some (.ptr (some (h.next, 0)), h.push (.mapIter none 0 [] 0))
    | .map (some r) => match h.get r with | .map _ clock => some (.ptr (some (h.next, 0)), h.push (.mapIter (some r) clock [] clock)) | _ => none
    | _ => none
  | .nextStr it =>
    match it.ev env with
    | .ptr (some (r, 0)) =>
      match h.get r with
      | .strIter s pos =>
        match s[pos]? with
        | some b => if b < 128 then some (.tuple [.bool true, .int .i64 pos, .int .i32 b], h.set r (.strIter s (pos + 1))) else some (.tuple [.bool true, .int .i64 pos, .int .i32 (runeAt s pos).1], h.set r (.strIter s (pos + (runeAt s pos).2)))
        | none => some (.tuple [.bool false], h)
      | _ => none
    | _ => none
  | .nextMap it =>
    match it.ev env with
    | .ptr (some (r, 0)) =>
      match h.get r with
      | .mapIter none _ _ _ => some (.tuple [.bool false], h)
      | .mapIter (some m) since seen last =>
        match h.get m with
        | .map es clock =>
          if !seen.isEmpty && !es.isEmpty && es.all (fun e => decide (e.2.2 ≥ last)) then none else
          let left := es.filter fun e => !seen.contains e.2.2
          let old := left.filter fun e => decide (e.2.2 < since)
          let new := left.filter fun e => decide (e.2.2 ≥ since)
          match (if old.isEmpty then [none] else []) ++ (old ++ new).map some with
          | [some e] => some (.tuple [.bool true, e.1, e.2.1], h.set r (.mapIter (some m) since (seen ++ [e.2.2]) clock))
          | [none] => some (.tuple [.bool false], h)
          | _ => none
        | _ => none
      | _ => none
    | _ => none
  | .call f args => apply call (f.ev env) (args.map (·.ev env)) h
  | .invoke recv name args =>
    match recv.ev env with
    | .iface t v => (mt t name).bind fun f => call (.fn f) (v :: args.map (·.ev env)) h
    | _ => none
  | .append e size bytes s x =>
    match s.ev env with
    | .slice base len cap es => (taken h size (fun n => n) (x.ev env)).bind fun r => appendTo h e size bytes base len cap es r.1 r.2
    | _ => none
  | .copy size d x =>
    match d.ev env with
    | .slice base dlen _ es => (taken h size (fun n => min n dlen) (x.ev env)).bind fun r => copyTo h size base es r.1 r.2
    | _ => none
  | .delete ke m k =>
    match m.ev env with
    | .map none => if ke.fits (k.ev env) then some (.undef, h) else none
    | .map (some r) =>
      match h.get r with
      | .map es clock =>
        match findKeyIn h ke (k.ev env) es with
        | some (some (i, _)) => some (.undef, h.set r (.map (es.eraseIdx i) clock))
        | some none => some (.undef, h)
        | none => none
      | _ => none
    | _ => none
  | .clearSlice zero x =>
    match x.ev env with
    | .slice none _ _ _ => some (.undef, h)
    | .slice (some a) n _ es => if n = 0 then some (.undef, h) else if es ≠ zero.length then none else (h.storeAt a (copies zero n)).map fun h' => (.undef, h')
    | _ => none
  | .entry it =>
    match it.ev env with
    | .ptr (some (r, 0)) =>
      match h.get r with
      | .mapIter (some m) _ seen stepped =>
        match h.get m with
        | .map es clock =>
          if clock = stepped then
            match seen.getLast? with
            | some stamp => (es.find? fun e => e.2.2 == stamp).map fun e => (.tuple [e.1, e.2.1], h)
            | none => none
          else none
        | _ => none
      | _ => none
    | _ => none
  | _ => none

/-- A new block that takes in nothing: its value and the block, by the block's number. -/
def lateOf (env : List AV) : AOp → Option ((Nat → AV) × (Nat → ABlk))
  | .alloc zero e => some (fun i => .ptr (some (i, 0)), fun i => .cells (zero.map some) e i 0 false false true)
  | .mkMap => some (fun i => .map (some i), fun _ => .map [] 0)
  | .mkSlice zero e size bytes len cap =>
    match len.ev env, cap.ev env with
    | .int .i64 l, .int .i64 c =>
      if 0 ≤ l ∧ l ≤ c ∧ c * bytes ≤ room ∧ c ≤ maxText then some (fun i => .slice (some (i, 0)) l.toNat c.toNat size, fun i => .cells ((copies zero c.toNat).map some) e i 0 false false true) else none
    | _, _ => none
  | _ => none

def AOp.isAlloc : AOp → Bool
  | .alloc .. => true
  | .mkMap => true
  | .mkSlice .. => true
  | _ => false

inductive Kind where
  | pure
  | weak
  | strong

def AOp.kind : AOp → Kind
  | .load .. | .eq .. | .ofBytes .. | .lookup .. | .lenMap .. | .sliceArr .. => .weak
  | .alloc .. | .box .. | .buildSlice .. | .store .. | .toBytes .. | .mkMap | .mkSlice .. | .mapUpd .. | .mapEntry .. | .entryStore .. | .rangeStr .. | .rangeMap .. | .nextStr .. | .nextMap .. | .entry .. | .call .. | .invoke .. | .append .. | .copy .. | .delete .. | .clearSlice .. => .strong
  | _ => .pure

def evalOp (mt : Methods) (call : Callee) (env : List AV) (h : AH) (o : AOp) : Option (AV × AH) :=
  match o.kind with
  | .pure => (evalPure env o).map fun v => (v, h)
  | .weak => (evalWeak env h o).map fun v => (v, h)
  | .strong => evalStrong mt call env h o

def putEnv (env : List AV) (dst : Option Nat) (v : AV) : List AV :=
  match dst with
  | some d => env.set d v
  | none => env

def wanted (env : List AV) (g : Option (Nat × Bool)) : Bool :=
  match g with
  | none => true
  | some (s, want) => match env.getD s .undef with | .bool b => b == want | _ => false

/-- The operations of a region in the text's order. -/
def runOps (mt : Methods) (call : Callee) : List AOper → List AV → AH → Option (List AV × AH)
  | [], env, h => some (env, h)
  | o :: r, env, h =>
    if wanted env o.guard then
      match evalOp mt call env h o.op with
      | some (v, h') => runOps mt call r (putEnv env o.dst v) h'
      | none => none
    else runOps mt call r (putEnv env o.dst .undef) h

inductive AExit where
  | normal
  | exit (id : Nat)
  | ret

def AExit.jump : AExit → Option AJump
  | .normal => none
  | .exit id => some (.exit id)
  | .ret => some .ret

mutual
def AV.same : AV → AV → Bool
  | .bool a, .bool b => a == b
  | .int k a, .int k' b => decide (k = k') && a == b
  | .str a, .str b => a == b
  | .ptr a, .ptr b => a == b
  | .slice a n c e, .slice b n' c' e' => a == b && n == n' && c == c' && e == e'
  | .map a, .map b => a == b
  | .func f xs ys, .func f' xs' ys' => decide (f = f') && AV.sames xs xs' && AV.sames ys ys'
  | .nilFunc, .nilFunc => true
  | .iface t v, .iface t' v' => t == t' && AV.same v v'
  | .nilIface, .nilIface => true
  | .agg xs, .agg ys => AV.sames xs ys
  | .tuple xs, .tuple ys => AV.sames xs ys
  | _, _ => false
def AV.sames : List AV → List AV → Bool
  | [], [] => true
  | x :: xs, y :: ys => AV.same x y && AV.sames xs ys
  | _, _ => false
end

/-- A read whose place among the region's turning operations is open: what it was made of, and what it gave. -/
structure Chk where
  env : List AV
  op : AOp
  lo : Nat
  hi : Nat
  v : AV

/-- The slots that an operation does not name are left out. -/
def maskFrom (names : List Nat) : Nat → List AV → List AV
  | _, [] => []
  | i, v :: r => (if names.contains i then v else .undef) :: maskFrom names (i + 1) r

def mask (names : List Nat) (env : List AV) : List AV := maskFrom names 0 env

/-- A region whose order is open, in the text's order: the heaps behind each turning operation, and the reads, are kept. -/
def runDraw (mt : Methods) (call : Callee) : List AOper → List AV → AH → List AH → List Chk → Option (List AV × AH × List AH × List Chk)
  | [], env, h, hs, cs => some (env, h, hs, cs)
  | o :: r, env, h, hs, cs =>
    if wanted env o.guard then
      match o.op.kind with
      | .pure =>
        match evalPure (mask o.names env) o.op with
        | some v => runDraw mt call r (putEnv env o.dst v) h hs cs
        | none => none
      | .weak =>
        match evalWeak (mask o.names env) h o.op with
        | some v => runDraw mt call r (putEnv env o.dst v) h hs (⟨mask o.names env, o.op, o.lo, o.hi, v⟩ :: cs)
        | none => none
      | .strong =>
        match evalStrong mt call (mask o.names env) h o.op with
        | some (v, h') => runDraw mt call r (putEnv env o.dst v) h' (hs ++ [h']) cs
        | none => none
    else runDraw mt call r (putEnv env o.dst .undef) h (match o.op.kind with | .strong => hs ++ [h] | _ => hs) cs

def Chk.ok (hs : List AH) (c : Chk) : Bool :=
  (List.range (c.hi + 1 - c.lo)).all fun d =>
    match hs[c.lo + d]? with
    | some h => (match evalWeak c.env h c.op with | some v => AV.same v c.v | none => false)
    | none => true

def runRegion (mt : Methods) (call : Callee) (ops : List AOper) (draw : Bool) (env : List AV) (h : AH) : Option (List AV × AH) :=
  if draw then
    match runDraw mt call ops env h [h] [] with
    | some (env', h', hs, cs) => if cs.all (Chk.ok hs) then some (env', h') else none
    | none => none
  else runOps mt call ops env h

def loopN (step : List AV → AH → Option (AExit × List AV × AH)) : Nat → List AV → AH → Option (AExit × List AV × AH)
  | 0, _, _ => none
  | n + 1, env, h =>
    match step env h with
    | some (.normal, env', h') => loopN step n env' h'
    | some (.exit id, env', h') => some (.exit id, env', h')
    | some (.ret, env', h') => some (.ret, env', h')
    | none => none

/-- Behind a range over a function: the jump that a round has left. -/
def rangeEnd (pending : Option AJump) (env : List AV) (h : AH) : Option (AExit × List AV × AH) :=
  match pending with
  | none => some (.normal, env, h)
  | some (.exit id) => some (.exit id, env, h)
  | some .ret => some (.ret, env, h)

/-- 'rd': in a round of a range over a function (where none begins). -/
def acode (mt : Methods) (call : Callee) (k : Nat) (rd : Bool) : ACode → List AV → AH → Option (AExit × List AV × AH)
  | .skip, env, h => some (.normal, env, h)
  | .region ops draw, env, h => (runRegion mt call ops draw env h).map fun r => (.normal, r.1, r.2)
  | .seq a b, env, h =>
    match acode mt call k rd a env h with
    | some (.normal, env', h') => acode mt call k rd b env' h'
    | some (.exit id, env', h') => some (.exit id, env', h')
    | some (.ret, env', h') => some (.ret, env', h')
    | none => none
  | .cond c a b, env, h =>
    match c.ev env with
    | .bool t => if t then acode mt call k rd a env h else acode mt call k rd b env h
    | _ => none
  | .block id a, env, h =>
    match acode mt call k rd a env h with
    | some (.exit j, env', h') => if j = id then some (.normal, env', h') else some (.exit j, env', h')
    | r => r
  | .loop a, env, h => loopN (acode mt call k rd a) k env h
  | .rangeFunc f params assign body, env, h =>
    if rd then none else
    match applyBody call (f.ev env) [.func (.yield h.next) [] []] (h.push (.loop 0 none env params assign body)) with
    | some (_, h') =>
      match h'.get h.next with
      | .loop st pending tmps ps a b =>
        if st = 1 then none else rangeEnd pending env (h'.set h.next (.loop 3 pending tmps ps a b))
      | _ => none
    | none => none
  | .exit id, env, h => some (.exit id, env, h)
  | .ret, env, h => some (.ret, env, h)

/-- A function: its slots, its results (a slot; or the cell that a slot points to, with its size), its body. -/
structure AFn where
  ntmps : Nat
  results : List (Nat × Option (Option Nat))
  body : ACode

def resultOf (env : List AV) (h : AH) (r : Nat × Option (Option Nat)) : Option AV :=
  match r.2 with
  | none => some (env.getD r.1 .undef)
  | some size => evalWeak env h (.load size (.tmp r.1))

def resultsOf (env : List AV) (h : AH) : List (Nat × Option (Option Nat)) → Option (List AV)
  | [] => some []
  | r :: rs => (resultOf env h r).bind fun v => (resultsOf env h rs).map (v :: ·)

def oneOrTuple : List AV → AV
  | [v] => v
  | vs => .tuple vs

def setParams (env : List AV) : List Nat → List AV → List AV
  | p :: ps, v :: vs => setParams (env.set p v) ps vs
  | _, _ => env

abbrev Summary := FuncId → Option (List AV → AH → Option (AV × AH))

/-- A function's text, run. -/
def abody (mt : Methods) (call : Callee) (k : Nat) (fn : AFn) (args : List AV) (h : AH) : Option (AV × AH) :=
  match acode mt call k false fn.body (args ++ List.replicate (fn.ntmps - args.length) .undef) h with
  | some (.normal, env, h') => (resultsOf env h' fn.results).map fun vs => (oneOrTuple vs, h')
  | some (.ret, env, h') => (resultsOf env h' fn.results).map fun vs => (oneOrTuple vs, h')
  | _ => none

/-- A round of a range over a function. -/
def around (mt : Methods) (call : Callee) (k : Nat) (l : Nat) (args : List AV) (h : AH) : Option (AV × AH) :=
  match h.get l with
  | .loop _ _ tmps params assign body =>
    if params.length = args.length then
      match acode mt call k true assign (setParams tmps params args) h with
      | some (.normal, env1, h1) =>
        match h1.get l with
        | .loop 0 pd tm ps as bd =>
          match acode mt call k true body env1 (h1.set l (.loop 1 pd tm ps as bd)) with
          | some (e, _, h3) =>
            match h3.get l with
            | .loop _ _ tm' ps' as' bd' => some (.bool e.jump.isNone, h3.set l (.loop (if e.jump.isNone then 0 else 2) e.jump tm' ps' as' bd'))
            | _ => none
          | none => none
        | _ => none
      | _ => none
    else none
  | _ => none

def acall (F : FuncId → Option AFn) (T : Summary) (mt : Methods) (k : Nat) : Nat → Callee
  | 0, _, _, _ => none
  | n + 1, .fn f, args, h =>
    match T f with
    | some s => s args h
    | none =>
      match F f with
      | none => none
      | some fn => abody mt (acall F T mt k n) k fn args h
  | n + 1, .body f, args, h =>
    match F f with
    | none => none
    | some fn => abody mt (acall F T mt k n) k fn args h
  | n + 1, .yield l, args, h => around mt (acall F T mt k n) k l args h

end Go.Proofs.YtjihmonajekomaaGreatDoor.Ax
