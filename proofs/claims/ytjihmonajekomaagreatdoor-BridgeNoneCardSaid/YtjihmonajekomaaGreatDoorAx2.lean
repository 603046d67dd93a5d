/- From the model's code to the evaluator's: types resolved, and each region whose order is open held against what the evaluator takes. Definitions alone. Conditions: none. -/
import Derived.Test.YtjihmonajekomaaGreatDoorAx1
import GoSem.Dispatch
namespace Go.Proofs.YtjihmonajekomaaGreatDoor.Ax
open Go

def optAll {α : Type} : List (Option α) → Option (List α)
  | [] => some []
  | none :: _ => none
  | some a :: r => (optAll r).map (a :: ·)

def ofBase : Value → Option AV
  | .bool b => some (.bool b)
  | .int k n => some (.int k n)
  | .string s => some (.str (s.data.toList.map UInt8.toNat))
  | .pointer none => some (.ptr none)
  | .slice none 0 0 => some (.slice none 0 0 0)
  | .map none => some (.map none)
  | .nilFunc => some .nilFunc
  | .nilIface => some .nilIface
  | _ => none

def cOpd : Operand → Option AOpd
  | .tmp t => some (.tmp t)
  | .const v => (ofBase v).map .val
  | .func f => some (.val (.func (.func f) [] []))
  | .global _ => none

def cOpds (xs : Array Operand) : Option (List AOpd) := optAll (xs.toList.map cOpd)

def cOpdO : Option Operand → Option (Option AOpd)
  | none => some none
  | some x => (cOpd x).map some

def szOf (P : Program) (t : TypeId) : Option Nat := (P.info? t).map (·.size)

def zeroCellsOf (P : Program) (t : TypeId) : Option (List AV) :=
  match P.info? t with
  | some i => match i.zero with
    | some z => optAll (z.cells.toList.map ofBase)
    | none => none
  | none => none

def isAggOf (P : Program) (t : TypeId) : Option Bool :=
  match P.underlying t with
  | some (.struct _) => some true
  | some (.array _ _) => some true
  | some _ => some false
  | none => none

def aggSize (P : Program) (t : TypeId) : Option (Option Nat) :=
  match isAggOf P t, szOf P t with
  | some true, some n => some (some n)
  | some false, some _ => some none
  | _, _ => none

def zeroOf (P : Program) (t : TypeId) : Option AV :=
  match isAggOf P t, P.info? t with
  | some true, some i => match i.zero with
    | some (.agg cs) => (optAll (cs.toList.map ofBase)).map .agg
    | _ => none
  | some false, some i => match i.zero with
    | some z => ofBase z
    | none => none
  | _, _ => none

def eqTyOf (P : Program) : Nat → TypeId → Option EqTy
  | 0, _ => none
  | n + 1, t =>
    match P.underlying t with
    | some .bool => some .bool
    | some (.int _) => some .int
    | some .string => some .str
    | some (.pointer e) => match szOf P e with | some (_ + 1) => some .ptr | _ => none
    | some (.slice _) => some .slice
    | some (.map _ _) => some .map
    | some (.func _ _ _) => some .func
    | some (.interface _) => some .iface
    | some (.struct fs) =>
      if P.stoodInHeld t then none else
      (optAll (fs.toList.map fun f =>
        if f.name = "_" then none else
        match szOf P f.type, isAggOf P f.type, eqTyOf P n f.type with
        | some s, some a, some e => some (f.offset, s, a, e)
        | _, _, _ => none)).map .struct
    | _ => none

/-- Types whose keys a map of ours may have: no interface inside. -/
def EqTy.keyed : EqTy → Bool
  | .bool => true
  | .int => true
  | .str => true
  | .struct fs => fs.all fun f => match f.2.2.2 with | .bool => true | .int => true | .str => true | _ => false
  | _ => false

def keyTy (P : Program) (m : TypeId) : Option EqTy :=
  match P.underlying m with
  | some (.map k _) => (eqTyOf P 4 k).bind fun e => if e.keyed then some e else none
  | _ => none

def isConstOp : Operand → Bool
  | .const _ => true
  | _ => false

def cParts (P : Program) (t : TypeId) (parts : Array (Nat × Operand)) : Option (List (Nat × Nat × AOpd)) :=
  match P.underlying t with
  | some (.struct fs) => if fs.toList.all fun f => (szOf P f.type).isSome then optAll (parts.toList.map fun p =>
      match fs[p.1]?, cOpd p.2 with
      | some f, some x => (szOf P f.type).map fun s => (f.offset, s, x)
      | _, _ => none) else none
  | some (.array _ e) => match szOf P e with
    | some s => optAll (parts.toList.map fun p => (cOpd p.2).map fun x => (p.1 * s, s, x))
    | none => none
  | _ => none

def cBuiltin (P : Program) (b : Builtin) (argTypes : Array TypeId) (args : Array Operand) : Option AOp :=
  match b, argTypes.toList, args.toList with
  | .len, [t], [x] =>
    match P.underlying t, cOpd x with
    | some .string, some x => some (.lenStr x)
    | some (.slice _), some x => some (.lenSlice x)
    | some (.map _ _), some x => some (.lenMap x)
    | some (.array n _), some _ => some (.lenArr n)
    | _, _ => none
  | .append, [t, u], [s, x] =>
    match P.underlying t, P.underlying u, cOpd s, cOpd x with
    | some (.slice _), some (.int _), _, _ => none
    | some (.slice e), some _, some s, some x =>
      match P.info? e, zeroCellsOf P e with
      | some i, some z => if z.length = i.size ∧ 1 ≤ i.size ∧ 1 ≤ i.bytes then some (.append e i.size i.bytes s x) else none
      | _, _ => none
    | _, _, _, _ => none
  | .copy, [t, _], [d, x] =>
    match P.underlying t, cOpd d, cOpd x with
    | some (.slice e), some d, some x => (szOf P e).map fun s => .copy s d x
    | _, _, _ => none
  | .delete, [t, _], [m, k] =>
    match keyTy P t, cOpd m, cOpd k with
    | some ke, some m, some k => some (.delete ke m k)
    | _, _, _ => none
  | .min, _, xs => (cOpds xs.toArray).map fun xs => .minmax false xs
  | .max, _, xs => (cOpds xs.toArray).map fun xs => .minmax true xs
  | .clear, [t], [x] =>
    match P.underlying t with
    | some (.slice e) =>
      match zeroCellsOf P e, szOf P e, cOpd x with
      | some z, some s, some x => if z.length = s ∧ 1 ≤ s then some (.clearSlice z x) else none
      | _, _, _ => none
    | _ => none
  | _, _, _ => none

/-- 'ifs': the types that values of interfaces may have. -/
def cOp (P : Program) (ifs : List TypeId) (o : Oper) : Option AOp :=
  match o.op with
  | .move x => (cOpd x).map .mov
  | .assign x => (cOpd x).map .mov
  | .pick c a b => match cOpd c, cOpd a, cOpd b with | some c, some a, some b => some (.pick c a b) | _, _, _ => none
  | .alloc e => (zeroCellsOf P e).map fun z => .alloc z e
  | .box e x => match szOf P e, cOpd x with | some s, some x => some (.box s e x) | _, _ => none
  | .build t parts => match zeroCellsOf P t, cParts P t parts with | some z, some ps => some (.build z ps) | _, _ => none
  | .buildSlice t len parts =>
    match P.underlying t with
    | some (.slice e) =>
      match zeroCellsOf P e, szOf P e with
      | some z, some s => if z.length = s ∧ 1 ≤ s ∧ len * s ≤ 1000000 then
          (optAll (parts.toList.map fun p => (cOpd p.2).map fun x => (p.1 * s, s, x))).map fun ps => .buildSlice z e len ps else none
      | _, _ => none
    | _ => none
  | .load t a => match aggSize P t, cOpd a with | some s, some a => some (.load s a) | _, _ => none
  | .store t a x => match szOf P t, cOpd a, cOpd x with | some s, some a, some x => some (.store s a x) | _, _, _ => none
  | .nilCheck x => (cOpd x).map .nilCheck
  | .binOp op t x y _ =>
    match cOpd x, cOpd y with
    | some x', some y' =>
      if op == .eql || op == .neq then
        match P.underlying t, eqTyOf P 4 t with
        | some (.int _), _ => some (.bin op x' y')
        | some .string, _ => some (.bin op x' y')
        | some .bool, _ => some (.eq (op == .neq) .bool x' y')
        | some (.interface _), _ => if isConstOp x || isConstOp y then some (.eq (op == .neq) .iface x' y') else none
        | some (.struct _), some e => if P.eqGuardType P.depth t then none else some (.eq (op == .neq) e x' y')
        | _, some e => some (.eq (op == .neq) e x' y')
        | _, _ => none
      else some (.bin op x' y')
    | _, _ => none
  | .unOp op _ x => (cOpd x).map (.un op)
  | .convert s d x =>
    match P.underlying s, P.underlying d, cOpd x with
    | some (.int _), some (.int k), some x => some (.convInt k x)
    | some .string, some .string, some x => some (.convStr x)
    | some .string, some (.slice e), some x => match P.underlying e, szOf P e with | some (.int .u8), some 1 => some (.toBytes e x) | _, _ => none
    | some (.slice e), some .string, some x => match P.underlying e with | some (.int .u8) => some (.ofBytes x) | _ => none
    | _, _, _ => none
  | .makeInterface t x => match P.underlying t, cOpd x with | some (.interface _), _ => none | some _, some x => some (.mkIface t x) | _, _ => none
  | .makeFunc fn first captured => match cOpds first, cOpds captured with | some a, some b => (match fn with | .yield _ => none | fn => some (.mkFunc fn a b)) | _, _ => none
  | .makeMap _ none => some .mkMap
  | .makeSlice t l c =>
    match P.underlying t with
    | some (.slice e) =>
      match P.info? e, zeroCellsOf P e, cOpd l, cOpd c with
      | some i, some z, some l, some c => if z.length = i.size ∧ 1 ≤ i.size then some (.mkSlice z e i.size i.bytes l c) else none
      | _, _, _, _ => none
    | _ => none
  | .slice t x lo hi mx =>
    match P.underlying t, cOpd x, cOpdO lo, cOpdO hi, cOpdO mx with
    | some .string, some x, some lo, some hi, some none => some (.sliceStr x lo hi)
    | some (.slice e), some x, some lo, some hi, some mx => (szOf P e).map fun s => .slice s x lo hi mx
    | some (.array n e), some x, some lo, some hi, some mx => (szOf P e).map fun s => .sliceArr n s x lo hi mx
    | _, _, _, _, _ => none
  | .fieldAddr s x f =>
    match P.underlying s, cOpd x with
    | some (.struct fs), some x => match fs[f]? with
      | some fd => (match szOf P fd.type with | some (_ + 1) => some (.fieldAddr fd.offset x) | _ => none)
      | none => none
    | _, _ => none
  | .field t x f =>
    match P.underlying t, cOpd x with
    | some (.struct fs), some x => match fs[f]? with
      | some fd => (aggSize P fd.type).map fun s => .field fd.offset s x
      | none => none
    | _, _ => none
  | .indexAddr t x i =>
    match P.underlying t, cOpd x, cOpd i with
    | some (.slice e), some x, some i => (szOf P e).map fun s => .idxAddr s x i
    | some (.array n e), some x, some i => (szOf P e).map fun s => .idxAddrArr n s x i
    | _, _, _ => none
  | .index t x i =>
    match P.underlying t, cOpd x, cOpd i with
    | some .string, some x, some i => some (.idxStr x i)
    | some (.array n e), some x, some i => match szOf P e, isAggOf P e with | some s, some a => some (.idxArr n s a x i) | _, _ => none
    | _, _, _ => none
  | .lookup t m k ok =>
    match P.underlying t with
    | some (.map _ e) => match keyTy P t, zeroOf P e, cOpd m, cOpd k with
      | some ke, some z, some m, some k => some (.lookup ke z ok m k)
      | _, _, _, _ => none
    | _ => none
  | .mapUpdate t m k x => match keyTy P t, cOpd m, cOpd k, cOpd x with | some ke, some m, some k, some x => some (.mapUpd ke m k x) | _, _, _, _ => none
  | .mapEntry t m k =>
    match P.underlying t with
    | some (.map _ e) => match keyTy P t, zeroOf P e, cOpd m, cOpd k with
      | some ke, some z, some m, some k => some (.mapEntry ke z m k)
      | _, _, _, _ => none
    | _ => none
  | .entryStore _ m s x => match cOpd m, cOpd s, cOpd x with | some m, some s, some x => some (.entryStore m s x) | _, _, _ => none
  | .range t x => match P.underlying t, cOpd x with | some .string, some x => some (.rangeStr x) | some (.map _ _), some x => some (.rangeMap x) | _, _ => none
  | .next it isStr => (cOpd it).map fun it => if isStr then .nextStr it else .nextMap it
  | .entry it => (cOpd it).map .entry
  | .typeAssert x _ t ok =>
    match P.underlying t, cOpd x with
    | some (.interface want), some x =>
      match zeroOf P t with
      | some .nilIface =>
        some (.assertIface (ifs.filter fun u => match P.info? u with | some i => (Instr.missingMethod want i.methods).isNone | none => false)
          (ifs.filter fun u => match P.info? u with | some i => (Instr.missingMethod want i.methods).isSome | none => false) ok x)
      | _ => none
    | some _, some x => (zeroOf P t).map fun z => .assertTo t z ok x
    | _, _ => none
  | .extract x i => (cOpd x).map fun x => .extract x i
  | .call c =>
    match c.callee with
    | .value f => match cOpd f, cOpds c.args with | some f, some xs => some (.call f xs) | _, _ => none
    | .invoke r name => match cOpd r, cOpds c.args with | some r, some xs => some (.invoke r name xs) | _, _ => none
    | .builtin b => cBuiltin P b c.argTypes c.args
  | _ => none

/-- What isn't covered gets stuck. -/
def cOpS (P : Program) (ifs : List TypeId) (o : Oper) : AOp :=
  match cOp P ifs o with
  | some a => a
  | none => .stuck

def isStrong (o : AOp) : Bool := match o.kind with | .strong => true | _ => false

/-- The places of the operations that turn the heap. -/
def strongs (ops : List AOp) : List Nat := (ops.zipIdx.filter fun p => isStrong p.1).map (·.2)

def tmpsOf (xs : Array Operand) : List Nat := xs.toList.filterMap fun | .tmp t => some t | _ => none

/-- The slots that an operation names: its own, its operands', its guard's. -/
def slotsOf (ops : Array Oper) (o : Oper) : List Nat :=
  o.dst.toList ++ tmpsOf o.op.operands ++ (match o.guard with | some (j, _) => ((ops[j]?).bind (·.dst)).toList | none => [])

def bitsOf (o : Oper) (acc : List Nat) : Nat := o.after.toList.foldl (fun s e => if Region.binds .any e then s ||| 2 ^ e.on ||| acc.getD e.on 0 else s) 0

/-- For each operation: those that come before it in every order. -/
def bef : List Oper → List Nat → List Nat
  | [], acc => acc
  | o :: r, acc => bef r (acc ++ [bitsOf o acc])

/-- Whoever names a slot is ordered with each that writes it. -/
def slotsOk (ops : Array Oper) (b : List Nat) : Bool :=
  ops.toList.zipIdx.all fun (o, j) => (slotsOf ops o).all fun t =>
    ops.toList.zipIdx.all fun (p, i) => p.dst != some t || i == j || (b.getD (max i j) 0).testBit (min i j)

def edgesOk (ops : Array Oper) : Bool :=
  ops.toList.zipIdx.all fun (o, j) => o.after.toList.all fun e => !Region.binds .any e || decide (e.on < j)

def cGuard (ops : Array Oper) : Option (Nat × Bool) → Option (Option (Nat × Bool))
  | none => some none
  | some (j, want) => match (ops[j]?).bind (·.dst) with | some d => some (some (d, want)) | none => none

/-- New blocks that are not ordered with each of the other operations that turn the heap. -/
def isLate (aops : List AOp) (b : List Nat) (g : Nat) : Bool :=
  match aops[g]? with
  | some a => a.isAlloc && (strongs aops).any fun s => s != g && !(b.getD (max s g) 0).testBit (min s g)
  | none => false

/-- Such new blocks stand together, behind those that they are not ordered with, ahead of the others; and who names their slots comes behind all of these. -/
def latesOk (ops : Array Oper) (aops : List AOp) (b : List Nat) : Bool :=
  let ss := strongs aops
  let gs := ss.filter (isLate aops b)
  (ss.all fun i => ss.all fun j => decide (j ≤ i) || isLate aops b i || isLate aops b j || (b.getD j 0).testBit i) &&
  (gs.all fun g => (match ops[g]? with | some o => o.guard.isNone | none => false) &&
    (ss.all fun s => isLate aops b s || ((gs.all fun g' => decide (s < g) == decide (s < g')) && (decide (s < g) || (b.getD s 0).testBit g))) &&
    (ops.toList.zipIdx.all fun (o, j) => j == g || !((slotsOf ops o).any fun t => (match ops[g]? with | some p => p.dst == some t | none => false)) ||
      (ss.all fun s => (!isLate aops b s && decide (g < s)) || (b.getD j 0).testBit s)))

def cRegion (P : Program) (ifs : List TypeId) (ops : Array Oper) (draw : Bool) : Option (List AOper) :=
  match optAll (ops.toList.map fun o => some (cOpS P ifs o)), optAll (ops.toList.map fun o => cGuard ops o.guard) with
  | some aops, some gs =>
    if draw then
      let b := bef ops.toList []
      let ss := strongs aops
      if slotsOk ops b && edgesOk ops && latesOk ops aops b then
        some ((ops.toList.zip (aops.zip gs)).zipIdx.map fun (x, i) =>
          { dst := x.1.dst, op := x.2.1, guard := x.2.2, names := tmpsOf x.1.op.operands, lo := (ss.filter fun s => (b.getD i 0).testBit s && !isLate aops b s).length, hi := (ss.filter fun s => !(b.getD s 0).testBit i).length, late := isLate aops b i })
      else none
    else some ((ops.toList.zip (aops.zip gs)).map fun x => { dst := x.1.dst, op := x.2.1, guard := x.2.2, names := [], lo := 0, hi := 0, late := false })
  | _, _ => none

def cCode (P : Program) (ifs : List TypeId) : Code → Option ACode
  | .skip => some .skip
  | .region _ ops draw => (cRegion P ifs ops draw).map fun l => .region l draw
  | .seq a b => match cCode P ifs a, cCode P ifs b with | some a, some b => some (.seq a b) | _, _ => none
  | .cond c a b => match cOpd c, cCode P ifs a, cCode P ifs b with | some c, some a, some b => some (.cond c a b) | _, _, _ => none
  | .block id a => (cCode P ifs a).map (.block id)
  | .loop a => (cCode P ifs a).map .loop
  | .rangeFunc f params assign body => match cOpd f, cCode P ifs assign, cCode P ifs body with | some f, some a, some b => some (.rangeFunc f params.toList a b) | _, _, _ => none
  | .exit id => some (.exit id)
  | .ret => some .ret
  | _ => some (.cond (.val .undef) .skip .skip)

def cResult (P : Program) : ResultVar → Option (Nat × Option (Option Nat))
  | .tmp t => some (t, none)
  | .cell a t => (aggSize P t).map fun s => (a, some s)

def cFunc (P : Program) (ifs : List TypeId) (f : Func) : Option AFn :=
  match f.body with
  | some c =>
    match cCode P ifs c, optAll (f.results.toList.map (cResult P)) with
    | some body, some rs => if f.name == "runtime.NumGoroutine" then none else some { ntmps := f.ntmps, results := rs, body := body }
    | _, _ => none
  | none => none

/-- A program's functions, compiled. -/
def funcsOf (P : Program) (ifs : List TypeId) (f : FuncId) : Option AFn := match P.funcs[f]? with | some fn => cFunc P ifs fn | none => none

end Go.Proofs.YtjihmonajekomaaGreatDoor.Ax
