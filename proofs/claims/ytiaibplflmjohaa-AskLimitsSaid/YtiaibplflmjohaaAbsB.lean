/- The abstract machine: its operations and regions. -/
import Derived.Test.YtiaibplflmjohaaAbsA
import GoSem.Dispatch
set_option linter.unusedVariables false
set_option linter.unusedSimpArgs false
namespace Go.Abs
open Go Go.RowKit
set_option linter.unusedVariables false

def undefV : Value := .tuple #[]
def ptr (id off : Nat) : Value := .pointer (some ⟨id, off, none⟩)
def slc (id off n cap : Nat) : Value := .slice (some ⟨id, off, none⟩) n cap

inductive ARes where
  | val (v : Value) (H : Heap)
  | call (f : FuncId) (args : Array Value)

/-! What is asked of the table of types -/
def isAggT (P : Program) (t : TypeId) : Option Bool :=
  match P.underlying t with
  | some (.struct _) | some (.array _ _) => some true
  | some _ => some false
  | none => none
def sizeT (P : Program) (t : TypeId) : Option Nat := (P.info? t).map (·.size)
def zeroT (P : Program) (t : TypeId) : Option Value := ((P.info? t).bind (·.zero)).bind fun z => if flat z then some z else none
/-- A slice's elements: type, cells, bytes. -/
def elemT (P : Program) (t : TypeId) : Option (TypeId × Nat × Nat) :=
  match P.underlying t with
  | some (.slice e) => (P.info? e).map fun i => (e, i.size, i.bytes)
  | _ => none
def arrT (P : Program) (t : TypeId) : Option (Nat × TypeId × Nat) :=
  match P.underlying t with
  | some (.array n e) => (P.info? e).map fun i => (n, e, i.size)
  | _ => none
/-- A struct's field: its place, its type, its cells. -/
def fieldT (P : Program) (s : TypeId) (f : Nat) : Option (Nat × TypeId × Nat) :=
  match P.underlying s with
  | some (.struct fs) => match fs[f]? with
    | some x => (P.info? x.type).map fun i => (x.offset, x.type, i.size)
    | none => none
  | _ => none
def mapT (P : Program) (t : TypeId) : Option (TypeId × TypeId) :=
  match P.underlying t with
  | some (.map k e) => some (k, e)
  | _ => none
def notIface (P : Program) (t : TypeId) : Bool :=
  match P.underlying t with
  | some (.interface _) | none => false
  | _ => true
def isIntT (P : Program) (t : TypeId) : Option Bool :=
  match P.underlying t with
  | some (.int _) => some true
  | some _ => some false
  | none => none
/-- The function behind a method's name, of values that bear it themselves. -/
def methodT (P : Program) (t : TypeId) (name : String) : Option FuncId :=
  match (if P.types.size + Made.depth = 0 then none else P.info? t) with
  | some info => match info.methods.find? (·.name == name) with
    | some m => match m.path.toList, m.func with
      | [], some (f, pr) => match P.underlying t, pr with
        | some (.pointer _), false => none
        | some (.pointer _), true => some f
        | some _, false => some f
        | _, _ => none
      | _, _ => none
    | none => none
  | none => none

def writeAt : List Value → Nat → List Value → List Value
  | c, _, [] => c
  | c, off, v :: vs => writeAt (c.set off v) (off + 1) vs

/-- The cells of a block at a place. -/
def cellsAt (H : Heap) (id off n : Nat) : Option (List Value) :=
  match H.get id with
  | some (.cells c _) => if off + n ≤ c.length then some ((c.drop off).take n) else none
  | _ => none

def partV (P : Program) (t : TypeId) (size : Nat) (cs : List Value) (off : Nat) : Option Value :=
  match isAggT P t with
  | some true => some (.agg ((cs.drop off).take size).toArray)
  | some false => cs[off]?
  | none => none

def aload (P : Program) (t : TypeId) (a : Value) (H : Heap) : Option Value :=
  match a with
  | .pointer (some ⟨id, off, none⟩) =>
    match H.get id with
    | some (.cells c _) =>
      match isAggT P t, sizeT P t with
      | some true, some n => if off + n ≤ c.length then some (.agg ((c.drop off).take n).toArray) else none
      | some false, _ => c[off]?
      | _, _ => none
    | _ => none
  | _ => none

def astoreAt (id off : Nat) (vs : List Value) (H : Heap) : Option Heap :=
  match H.get id with
  | some (.cells c m) => if m ≠ .ro ∧ off + vs.length ≤ c.length ∧ vs.all scal = true then some (H.set id (.cells (writeAt c off vs) m)) else none
  | _ => none

def astore (P : Program) (t : TypeId) (a v : Value) (H : Heap) : Option Heap :=
  match a with
  | .pointer (some ⟨id, off, none⟩) => if some v.cells.size = sizeT P t then astoreAt id off v.cells.toList H else none
  | _ => none

def repeatL (z : List Value) : Nat → List Value
  | 0 => []
  | n + 1 => z ++ repeatL z n

def fillL (place : Nat → Option (Nat × Nat)) (cells : List Value) : List (Nat × Value) → Option (List Value)
  | [] => some cells
  | (i, v) :: rest =>
    match place i with
    | none => none
    | some (off, size) =>
      if v.cells.size ≠ size ∨ off + size > cells.length then none
      else fillL place (writeAt cells off v.cells.toList) rest

def placesL (P : Program) : List Field → Option (List (Nat × Nat))
  | [] => some []
  | f :: fs => match P.info? f.type, placesL P fs with
    | some i, some l => some ((f.offset, i.size) :: l)
    | _, _ => none
/-- The places of a struct's fields. -/
def placesT (P : Program) (t : TypeId) : Option (List (Nat × Nat)) :=
  match P.underlying t with
  | some (.struct fs) => placesL P fs.toList
  | _ => none
def buildL (P : Program) (t : TypeId) (parts : List (Nat × Value)) : Option (List Value) :=
  match zeroT P t, placesT P t, arrT P t with
  | some z, some l, _ => fillL (fun i => l[i]?) z.cells.toList parts
  | some z, none, some (n, e, size) => fillL (fun i => some (i * size, size)) z.cells.toList parts
  | _, _, _ => none

/-- The cells that a slice, or a string, holds ahead: so many elements of a size. -/
def firstL (H : Heap) (size n : Nat) : Value → Option (List Value)
  | .slice (some ⟨id, off, none⟩) _ _ => if n = 0 then some [] else cellsAt H id off (n * size)
  | .slice none _ _ => if n = 0 then some [] else none
  | .string s => if n ≤ s.size ∧ size = 1 then some ((s.extract 0 n).data.toList.map fun b => .int .u8 b.toNat) else none
  | _ => none

def lenV : Value → Option Nat
  | .slice _ n _ => some n
  | .string s => some s.size
  | _ => none

/-- What an append appends: how many, and their cells. -/
def newL (P : Program) (elem : TypeId) (size bytes : Nat) (zeros : Bool) (x : Value) (H : Heap) : Option (Nat × List Value) :=
  if zeros then
    match x, zeroT P elem with
    | .int .i64 l, some z => if 0 ≤ l ∧ l * bytes ≤ 2 ^ 44 ∧ z.cells.size = size then some (l.toNat, repeatL z.cells.toList l.toNat) else none
    | _, _ => none
  else
    match lenV x with
    | some n => (firstL H size n x).map fun xs => (n, xs)
    | none => none

def agrow (elem size len n : Nat) (base : Option Addr) (cap : Nat) (xs : List Value) (H : Heap) : Option (Value × Heap) :=
  if len + n ≤ cap then
    if n = 0 then some (.slice base len cap, H) else
    match base with
    | some ⟨id, off, none⟩ => (astoreAt id (off + len * size) xs H).map fun H' => (.slice base (len + n) cap, H')
    | _ => none
  else
    match base with
    | none => if len = 0 then some (slc H.n 0 n n, H.push (.cells xs (.grown size))) else none
    | some ⟨id, off, none⟩ =>
      match H.get id with
      | some (.cells c .fix) => (firstL H size len (.slice base len cap)).map fun old => (slc H.n 0 (len + n) (len + n), H.push (.cells (old ++ xs) (.grown size)))
      | some (.cells c (.grown es)) => if es = size then (firstL H size len (.slice base len cap)).map fun old => (slc H.n 0 (len + n) (len + n), (H.set id .dead).push (.cells (old ++ xs) (.grown size))) else none
      | _ => none
    | _ => none

def aappend (P : Program) (argTypes : Array TypeId) (args : Array Value) (H : Heap) : Option (Value × Heap) :=
  match args.toList, argTypes.toList with
  | [.slice base len cap, x], [sType, xType] =>
    match elemT P sType, isIntT P xType with
    | some (elem, size, bytes), some zeros =>
      match newL P elem size bytes zeros x H, zeroT P elem with
      | some (n, xs), some z =>
        if z.cells.size = size ∧ xs.all scal = true ∧ 0 < bytes ∧ 0 < size ∧ bytes ≤ 2 ^ 20 ∧ (len + n) * bytes ≤ 2 ^ 44 then agrow elem size len n base cap xs H
        else none
      | _, _ => none
    | _, _ => none
  | _, _ => none

def acopy (P : Program) (argTypes : Array TypeId) (args : Array Value) (H : Heap) : Option (Value × Heap) :=
  match args.toList, argTypes.toList with
  | [.slice base dLen cap, x], dType :: _ =>
    match elemT P dType, lenV x with
    | some (elem, size, bytes), some m =>
      match firstL H size (Nat.min m dLen) x with
      | some xs =>
        if xs.all scal = true then
          if xs = [] then some (.int .i64 (Nat.min m dLen), H) else
          match base with
          | some ⟨id, off, none⟩ => (astoreAt id off xs H).map fun H' => (.int .i64 (Nat.min m dLen), H')
          | _ => none
        else none
      | none => none
    | _, _ => none
  | _, _ => none

/-! Maps: rows of keys and values -/
def asEntries (es : List (Value × Value)) : List MapEntry := es.map fun e => { key := e.1, val := e.2, born := 0 }
def keyFlat (es : List (Value × Value)) : Bool := es.all fun e => flat e.1
/-- Where a key stands. -/
def findT (P : Program) (key : TypeId) (k : Value) (es : List (Value × Value)) : Option (Option Nat) :=
  if flat k = true ∧ keyFlat es = true then
    match purely P (Instr.checkKey es.isEmpty 10000 key k), purely P (Instr.checkKey false 10000 key k) with
    | some (), some () => (purely P (Instr.findKey key k (asEntries es))).map fun r => r.map (·.1)
    | _, _ => none
  else none

def aget (P : Program) (t : TypeId) (es : List (Value × Value)) (k : Value) (commaOk : Bool) : Option Value :=
  match mapT P t with
  | some (key, elem) =>
    match findT P key k es with
    | some (some i) => (es[i]?).map fun e => if commaOk then .tuple #[e.2, .bool true] else e.2
    | some none => (zeroT P elem).map fun z => if commaOk then .tuple #[z, .bool false] else z
    | none => none
  | none => none

def alookup (P : Program) (t : TypeId) (x k : Value) (commaOk : Bool) (H : Heap) : Option Value :=
  match x with
  | .map none => aget P t [] k commaOk
  | .map (some id) => match H.get id with
    | some (.map es) => aget P t es k commaOk
    | _ => none
  | _ => none

def aupdate (P : Program) (t : TypeId) (x k v : Value) (H : Heap) : Option Heap :=
  match x with
  | .map (some id) => match H.get id with
    | some (.map es) =>
      match mapT P t with
      | some (key, elem) =>
        match findT P key k es with
        | some (some i) => match es[i]? with
          | some e => if Instr.sameBits 10000 e.1 k then some (H.set id (.map (es.set i (k, v)))) else none
          | none => none
        | some none => some (H.set id (.map (es ++ [(k, v)])))
        | none => none
      | none => none
    | _ => none
  | _ => none

def bytesL : List Value → Option (List UInt8)
  | [] => some []
  | .int .u8 n :: l => (bytesL l).map (UInt8.ofNat n.toNat :: ·)
  | _ => none

def flatRes (v : Option Value) : Option Value := v.bind fun v => if flat v then some v else none

def aconvert (P : Program) (src dst : TypeId) (x : Value) (H : Heap) : Option Value :=
  match x with
  | .slice (some ⟨id, off, none⟩) len cap =>
    match P.underlying src, P.underlying dst with
    | some (.slice e), some .string =>
      match P.underlying e with
      | some (.int .u8) => ((if len = 0 then some [] else cellsAt H id off len).bind bytesL).map fun l => .string ⟨l.toArray⟩
      | _ => none
    | _, _ => none
  | _ => if flat x then flatRes (purely P (Go.convert src dst x)) else none

/-- '==' of what bears an address, with a nil. -/
def nilEq (P : Program) (t : TypeId) (a b : Value) : Option Bool :=
  match P.underlying t, a, b with
  | some (.slice _), .slice none _ _, .slice (some _) _ _ => some false
  | some (.slice _), .slice (some _) _ _, .slice none _ _ => some false
  | some (.pointer _), .pointer none, .pointer (some _) => some false
  | some (.pointer _), .pointer (some _), .pointer none => some false
  | some (.map _ _), .map none, .map (some _) => some false
  | some (.map _ _), .map (some _), .map none => some false
  | some (.func _ _ _), .nilFunc, .func _ _ _ => some false
  | some (.func _ _ _), .func _ _ _, .nilFunc => some false
  | some (.interface _), .nilIface, .iface _ _ => some false
  | some (.interface _), .iface _ _, .nilIface => some false
  | _, _, _ => none

def abin (P : Program) (op : BinOp) (t : TypeId) (x y : Operand) (a b : Value) : Option Value :=
  if flat a && flat b then flatRes (purely P (do eqGuard op t x y a b; Go.binOp op t a b)) else
  match nilEq P t a b, op with
  | some r, .eql => some (.bool r)
  | some r, .neq => some (.bool (!r))
  | _, _ => none

def nonNil : Value → Bool
  | .pointer (some _) => true
  | .func (.func _) _ _ => true
  | .iface _ _ => true
  | _ => false

/-- A bound of a slice expression: a number from 0 to y. -/
def boundV (x : Value) (y : Nat) : Option Nat :=
  match x with
  | .int _ i => if 0 ≤ i ∧ i ≤ y then some i.toNat else none
  | _ => none
def boundsV (len cap : Nat) (lo hi mx : Option Value) : Option (Nat × Nat × Nat) :=
  match (match mx with | some v => boundV v cap | none => some cap) with
  | none => none
  | some m =>
    match (match hi, mx with | some v, some _ => boundV v m | some v, none => boundV v m | none, none => some len | none, some _ => none) with
    | none => none
    | some h =>
      match (match lo with | some v => boundV v h | none => some 0) with
      | none => none
      | some l => some (l, h, m)

def Md.fits : Md → Nat → Bool
  | .grown es, size => decide (es = size)
  | _, _ => true

def aslice (P : Program) (t : TypeId) (x : Value) (lo hi mx : Option Value) (H : Heap) : Option Value :=
  match x with
  | .pointer (some ⟨id, off, none⟩) => match H.get id, arrT P t with
    | some (.cells c .fix), some (n, e, size) => (boundsV n n lo hi mx).map fun b => slc id (if b.2.2 = b.1 then off else off + b.1 * size) (b.2.1 - b.1) (b.2.2 - b.1)
    | _, _ => none
  | .slice (some ⟨id, off, none⟩) len cap => match H.get id, elemT P t with
    | some (.cells c m), some (e, size, _) => if m.fits size then (boundsV len cap lo hi mx).map fun b => slc id (if b.2.2 = b.1 then off else off + b.1 * size) (b.2.1 - b.1) (b.2.2 - b.1) else none
    | _, _ => none
  | .slice none len cap => match elemT P t with
    | some (e, size, _) => if len ≤ cap then (boundsV len cap lo hi mx).map fun b => .slice none (b.2.1 - b.1) (b.2.2 - b.1) else none
    | none => none
  | _ => none

def afieldAddr (P : Program) (s : TypeId) (x : Value) (f : Nat) : Option Value :=
  match x, fieldT P s f with
  | .pointer (some ⟨id, off, none⟩), some (o, _, size) => if size = 0 then none else some (ptr id (off + o))
  | _, _ => none
def afield (P : Program) (t : TypeId) (x : Value) (f : Nat) : Option Value :=
  match x, fieldT P t f with
  | .agg cs, some (o, u, size) => partV P u size cs.toList o
  | _, _ => none

def aindexAddr (P : Program) (t : TypeId) (x ix : Value) : Option Value :=
  match ix with
  | .int _ i =>
    match x with
    | .pointer (some ⟨id, off, none⟩) => match arrT P t with
      | some (n, e, size) => if 0 ≤ i ∧ i < n then some (ptr id (off + i.toNat * size)) else none
      | none => none
    | .slice (some ⟨id, off, none⟩) len cap => match elemT P t with
      | some (e, size, _) => if 0 ≤ i ∧ i < len then some (ptr id (off + i.toNat * size)) else none
      | none => none
    | _ => none
  | _ => none

def aindex (P : Program) (t : TypeId) (x ix : Value) : Option Value :=
  match ix with
  | .int _ i =>
    match x with
    | .agg cs => match arrT P t with
      | some (n, e, size) => if 0 ≤ i ∧ i < n then partV P e size cs.toList (i.toNat * size) else none
      | none => none
    | .string s => if 0 ≤ i then (match s[i.toNat]?, P.underlying t with | some b, some .string => some (.int .u8 b.toNat) | _, _ => none) else none
    | _ => none
  | _ => none

def alen (P : Program) (t : TypeId) (x : Value) (H : Heap) : Option Value :=
  match x with
  | .map (some id) => match H.get id, mapT P t with
    | some (.map es), some _ => some (.int .i64 es.length)
    | _, _ => none
  | .map none => (mapT P t).map fun _ => .int .i64 0
  | .slice _ n _ => (elemT P t).map fun _ => .int .i64 n
  | .string s => match P.underlying t with
    | some .string => some (.int .i64 s.size)
    | _ => none
  | .agg _ => (arrT P t).map fun x => .int .i64 x.1
  | .pointer _ => match P.underlying t with
    | some (.pointer a) => (arrT P a).map fun x => .int .i64 x.1
    | some (.array n _) => some (.int .i64 n)
    | _ => none
  | _ => none

def aop (P : Program) (ev : Operand → Value) (o : Oper) (H : Heap) : Option ARes :=
  match o.op with
  | .move x | .assign x => some (.val (ev x) H)
  | .pick c a b => match ev c with
    | .bool t => some (.val (if t then ev a else ev b) H)
    | _ => none
  | .alloc elem => (zeroT P elem).map fun z => .val (ptr H.n 0) (H.push (.cells z.cells.toList .fix))
  | .box elem x => some (.val (ptr H.n 0) (H.push (.cells (ev x).cells.toList .fix)))
  | .load t a => (aload P t (ev a) H).map (.val · H)
  | .store t a x => (astore P t (ev a) (ev x) H).map (.val undefV ·)
  | .build t parts =>
    (buildL P t ((parts.map fun (i, x) => (i, ev x)).toList)).map fun c => .val (.agg c.toArray) H
  | .buildSlice t len parts =>
    match elemT P t with
    | some (elem, size, _) =>
      match zeroT P elem with
      | some z =>
        if len * size ≤ 2 ^ 24 ∧ z.cells.size = size ∧ 0 < size then
          (fillL (fun i => some (i * size, size)) (repeatL z.cells.toList len) ((parts.map fun (i, x) => (i, ev x)).toList)).map fun c => .val (slc H.n 0 len len) (H.push (.cells c .fix))
        else none
      | none => none
    | none => none
  | .nilCheck x => if nonNil (ev x) then some (.val (ev x) H) else none
  | .binOp op t x y _ => (abin P op t x y (ev x) (ev y)).map (.val · H)
  | .unOp op _ x => if flat (ev x) then (flatRes (purely P (Op.unary op (ev x)))).map (.val · H) else none
  | .convert src dst x => (aconvert P src dst (ev x) H).map (.val · H)
  | .makeInterface t x => if notIface P t then some (.val (.iface t (ev x)) H) else none
  | .makeFunc fn first captured => some (.val (.func fn (first.map ev) (captured.map ev)) H)
  | .makeMap t r => match r with
    | none => some (.val (.map (some H.n)) (H.push (.map [])))
    | some x => match mapT P t, ev x with
      | some _, .int _ _ => some (.val (.map (some H.n)) (H.push (.map [])))
      | _, _ => none
  | .makeSlice t l c =>
    match elemT P t, ev l, ev c with
    | some (elem, size, bytes), .int _ len, .int _ cap =>
      match zeroT P elem with
      | some z =>
        if 0 ≤ len ∧ len ≤ cap ∧ cap < 2 ^ 47 ∧ cap * bytes ≤ 2 ^ 47 ∧ z.cells.size = size ∧ 0 < size then
          some (.val (slc H.n 0 len.toNat cap.toNat) (H.push (.cells (repeatL z.cells.toList cap.toNat) .fix)))
        else none
      | none => none
    | _, _, _ => none
  | .slice t x lo hi mx => (aslice P t (ev x) (lo.map ev) (hi.map ev) (mx.map ev) H).map (.val · H)
  | .fieldAddr s x f => (afieldAddr P s (ev x) f).map (.val · H)
  | .field t x f => (afield P t (ev x) f).map (.val · H)
  | .indexAddr t x ix => (aindexAddr P t (ev x) (ev ix)).map (.val · H)
  | .index t x ix => (aindex P t (ev x) (ev ix)).map (.val · H)
  | .extract x ix => match ev x with
    | .tuple vs => (vs[ix]?).map (.val · H)
    | _ => none
  | .lookup t x k ok => (alookup P t (ev x) (ev k) ok H).map (.val · H)
  | .mapUpdate t m k x | .insert t m k x => (aupdate P t (ev m) (ev k) (ev x) H).map (.val undefV ·)
  | .call c =>
    match c.callee with
    | .builtin .len => match (c.args.map ev).toList, c.argTypes.toList with
      | [x], [t] => (alen P t x H).map (.val · H)
      | _, _ => none
    | .builtin .min => if (c.args.map ev).toList.all flat = true then (flatRes (purely P (Builtin.min_ c.argTypes o.type (c.args.map ev)))).map (.val · H) else none
    | .builtin .max => if (c.args.map ev).toList.all flat = true then (flatRes (purely P (Builtin.max_ c.argTypes o.type (c.args.map ev)))).map (.val · H) else none
    | .builtin .append => (aappend P c.argTypes (c.args.map ev) H).map fun r => .val r.1 r.2
    | .builtin .copy => (acopy P c.argTypes (c.args.map ev) H).map fun r => .val r.1 r.2
    | .builtin _ => none
    | .value f => match ev f with
      | .func (.func g) first captured => some (.call g ((first ++ c.args.map ev) ++ captured))
      | _ => none
    | .invoke r name => match ev r with
      | .iface t v => (methodT P t name).map fun f => .call f (#[v] ++ c.args.map ev)
      | _ => none
  | _ => none

/-! Which operations do what -/
inductive Kind where
  | quiet   -- reads nothing
  | read
  | make    -- makes memory, and touches none
  | eff
  deriving DecidableEq

def kindOf : Op → Kind
  | .load .. | .lookup .. | .convert .. | .slice .. => .read
  | .alloc _ | .box .. | .buildSlice .. | .makeSlice .. | .makeMap .. => .make
  | .store .. | .mapUpdate .. | .insert .. => .eff
  | .call c => match c.callee with
    | .builtin .len => .read
    | .builtin .min | .builtin .max => .quiet
    | _ => .eff
  | _ => .quiet

def putT (tmps : Array Value) (dst : Option Tmp) (v : Value) : Array Value :=
  match dst with
  | some d => tmps.setIfInBounds d v
  | none => tmps

abbrev CallFn := FuncId → Array Value → Heap → Option (Value × Heap)
def evalT (tmps : Array Value) : Operand → Value
  | .tmp t => tmps.getD t undefV
  | .const v => v
  | .global g => undefV
  | .func f => .func (.func f) #[] #[]

/-- One operation, its call carried out. -/
def astep (P : Program) (call : CallFn) (ev : Operand → Value) (o : Oper) (H : Heap) : Option (Value × Heap) :=
  match aop P ev o H with
  | some (.val v H') => some (v, H')
  | some (.call f args) => call f args H
  | none => none

def aops (P : Program) (call : CallFn) (ops : Array Oper) : List Nat → Array Value → Heap → Option (Array Value × Heap)
  | [], tmps, H => some (tmps, H)
  | i :: rest, tmps, H =>
    match ops[i]? with
    | none => none
    | some o =>
      if Region.wanted o (yielded ops tmps) then
        match astep P call (evalT tmps) o H with
        | some (v, H') => aops P call ops rest (putT tmps o.dst v) H'
        | none => none
      else aops P call ops rest (putT tmps o.dst undefV) H

/-! A region that draws its order: the order in which it is run here, and what must stay as it was read -/
structure Held where
  upto : Nat
  read : Heap → Option Value
  was : Value

def heldOk (m : Nat) (H : Heap) (hs : List Held) : Bool :=
  hs.all fun h => decide (h.upto < m) || (match h.read H with | some v => veq v h.was | none => false)

def valOf : Option ARes → Option Value
  | some (.val v _) => some v
  | _ => none

/-- 'upto i': before how many effects of the region an operation may still be run. m: how many have been. -/
def adraw (P : Program) (call : CallFn) (ops : Array Oper) (upto : Nat → Nat) : List Nat → Nat → List Held → Array Value → Heap → Option (Array Value × Heap)
  | [], _, _, tmps, H => some (tmps, H)
  | i :: rest, m, hs, tmps, H =>
    match ops[i]? with
    | none => none
    | some o =>
      let m' := if kindOf o.op = .eff then m + 1 else m
      if Region.wanted o (yielded ops tmps) then
        match astep P call (evalT tmps) o H with
        | some (v, H') =>
          if kindOf o.op = .eff ∧ heldOk (m + 1) H' hs = false then none
          else adraw P call ops upto rest m' (if kindOf o.op = .read ∧ upto i ≠ m then ⟨upto i, fun H => valOf (aop P (evalT tmps) o H), v⟩ :: hs else hs) (putT tmps o.dst v) H'
        | none => none
      else adraw P call ops upto rest m' hs (putT tmps o.dst undefV) H
end Go.Abs
