/- Of this session: a machine of its own, proved beside the model, and what the functions of the row come to on it; Lean checks all of it. -/
import Derived.Test.YthjpgccpnakfdaaMachC
set_option linter.unusedVariables false
set_option linter.unusedSimpArgs false
set_option linter.unusedSectionVars false
/- The machine of values: rows that nobody writes any more are values; what is still written lies in blocks. Definitions. -/
namespace Go.Abs
open Go Go.RowKit
set_option linter.unusedVariables false

/-- What holds no address: one value, or the elements of a row, each a list of cells. -/
inductive Dat where
  | v (x : Value)
  | rows (l : List (List Dat))

inductive DV where
  | d (x : Dat)
  | fptr (row : List Dat) (off : Nat)
  | ptr (id gen off : Nat)
  | slc (id gen off n cap sz : Nat)
  | map (id : Nat)
  | fmap (es : List (Value × DV))
  | func (f : FuncId) (first captured : List DV)
  | iface (t : TypeId) (x : DV)
  | agg (l : List DV)
  | tuple (l : List DV)

/-- A block: its cells, how it grows, whether it is locked, which one of its rows is the present one, how often it was written. -/
inductive VBlk where
  | cells (c : List DV) (m : Md) (lk : Bool) (gen ver : Nat)
  | map (es : List (Value × DV)) (ver : Nat)

abbrev VHeap := List VBlk

def VBlk.ver : VBlk → Nat
  | .cells _ _ _ _ v => v
  | .map _ v => v
def verOf (H : VHeap) (id : Nat) : Option Nat := (H[id]?).map (·.ver)
def VBlk.lock : VBlk → VBlk
  | .cells c m _ g v => .cells c m true g v
  | b => b
def lock1 (H : VHeap) (id : Nat) : VHeap := match H[id]? with
  | some b => H.set id b.lock
  | none => H
def lockAll : List Nat → VHeap → VHeap
  | [], H => H
  | id :: r, H => lockAll r (lock1 H id)

/-! Between values and these -/
def dv (x : Value) : DV := .d (.v x)
def vint (k : IntKind) (n : Int) : DV := .d (.v (.int k n))
def vbool (b : Bool) : DV := .d (.v (.bool b))
def ofV0 : Value → DV
  | .agg ⟨l⟩ => .agg (l.map dv)
  | x => dv x
def ofV : Value → DV
  | .agg ⟨l⟩ => .agg (l.map dv)
  | .tuple ⟨l⟩ => .tuple (l.map dv)
  | .iface t x => .iface t (ofV0 x)
  | .func (.func f) ⟨a⟩ ⟨c⟩ => .func f (a.map dv) (c.map dv)
  | x => dv x
def cellV : DV → Option Value
  | .d (.v x) => some x
  | _ => none
def cellsV : List DV → Option (List Value)
  | [] => some []
  | x :: l => match cellV x, cellsV l with
    | some a, some r => some (a :: r)
    | _, _ => none
/-- A value that bears no address. -/
def toV : DV → Option Value
  | .d (.v x) => some x
  | .agg l => (cellsV l).map fun c => .agg ⟨c⟩
  | .iface t (.d (.v x)) => some (.iface t x)
  | .iface t (.agg l) => (cellsV l).map fun c => .iface t (.agg ⟨c⟩)
  | .func f a c => match cellsV a, cellsV c with
    | some x, some y => some (.func (.func f) ⟨x⟩ ⟨y⟩)
    | _, _ => none
  | _ => none
def toVs : List DV → Option (List Value)
  | [] => some []
  | x :: l => match toV x, toVs l with
    | some a, some r => some (a :: r)
    | _, _ => none
def zD (z : Value) : List DV := z.cells.toList.map dv

/-- It surely bears an address. -/
def hard : DV → Bool
  | .ptr .. | .slc .. | .map _ | .fptr .. | .fmap _ | .d (.rows (_ :: _)) => true
  | _ => false
/-- It bears none. -/
def flat1 : DV → Bool
  | .d (.v _) => true
  | _ => false
def flatD : DV → Bool
  | .d (.v _) => true
  | .agg l | .tuple l => l.all flat1
  | _ => false

def vcells : DV → List DV
  | .agg l => l
  | .d (.v x) => zD x
  | x => [x]
def vscal : DV → Bool
  | .agg _ | .tuple _ => false
  | .d (.v x) => scal x
  | _ => true
def writeD : List DV → Nat → List DV → List DV
  | c, _, [] => c
  | c, off, v :: vs => writeD (c.set off v) (off + 1) vs

def partD (P : Program) (t : TypeId) (size : Nat) (cs : List DV) (off : Nat) : Option DV :=
  match isAggT P t with
  | some true => some (.agg ((cs.drop off).take size))
  | some false => cs[off]?
  | none => none
def vloadC (P : Program) (t : TypeId) (c : List DV) (off : Nat) : Option DV :=
  match isAggT P t, sizeT P t with
  | some true, some n => if off + n ≤ c.length then some (.agg ((c.drop off).take n)) else none
  | some false, _ => c[off]?
  | _, _ => none
/-- The cells of a block, at its present row. -/
def cellsOf (H : VHeap) (id g : Nat) : Option (List DV) :=
  match H[id]? with
  | some (.cells c _ _ g' _) => if g' = g then some c else none
  | _ => none
def vload (P : Program) (t : TypeId) (a : DV) (H : VHeap) : Option DV :=
  match a with
  | .ptr id g off => (cellsOf H id g).bind fun c => vloadC P t c off
  | .fptr row off => vloadC P t (row.map .d) off
  | _ => none
def vstoreAt (id g off : Nat) (vs : List DV) (H : VHeap) : Option VHeap :=
  match H[id]? with
  | some (.cells c m false g' ver) => if g' = g ∧ m ≠ .ro ∧ off + vs.length ≤ c.length ∧ vs.all vscal = true then some (H.set id (.cells (writeD c off vs) m false g' (ver + 1))) else none
  | _ => none
def vstore (P : Program) (t : TypeId) (a v : DV) (H : VHeap) : Option VHeap :=
  match a with
  | .ptr id g off => if sizeT P t = some (vcells v).length then vstoreAt id g off (vcells v) H else none
  | _ => none

def fillD (place : Nat → Option (Nat × Nat)) (cells : List DV) : List (Nat × DV) → Option (List DV)
  | [] => some cells
  | (i, v) :: rest =>
    match place i with
    | none => none
    | some (off, size) =>
      if (vcells v).length ≠ size ∨ off + size > cells.length then none
      else fillD place (writeD cells off (vcells v)) rest
def vbuild (P : Program) (t : TypeId) (parts : List (Nat × DV)) : Option (List DV) :=
  match zeroT P t, placesT P t, arrT P t with
  | some z, some l, _ => fillD (fun i => l[i]?) (zD z) parts
  | some z, none, some (n, e, size) => fillD (fun i => some (i * size, size)) (zD z) parts
  | _, _, _ => none
def repeatD (z : List DV) : Nat → List DV
  | 0 => []
  | n + 1 => z ++ repeatD z n
/-- A row written out: its cells, and an element's. -/
def vbuildS (P : Program) (t : TypeId) (len : Nat) (parts : List (Nat × DV)) : Option (List DV × Nat) :=
  match elemT P t with
  | some (elem, size, _) =>
    match zeroT P elem with
    | some z => if len * size ≤ 2 ^ 24 ∧ (zD z).length = size ∧ 0 < size then (fillD (fun i => some (i * size, size)) (repeatD (zD z) len) parts).map fun c => (c, size) else none
    | none => none
  | none => none
/-- A row made: its cells, its length, its capacity, an element's cells. -/
def vmakeS (P : Program) (t : TypeId) (l c : DV) : Option (List DV × Nat × Nat × Nat) :=
  match elemT P t, toV l, toV c with
  | some (elem, size, bytes), some (.int _ len), some (.int _ cap) =>
    match zeroT P elem with
    | some z => if 0 ≤ len ∧ len ≤ cap ∧ cap < 2 ^ 47 ∧ cap * bytes ≤ 2 ^ 47 ∧ (zD z).length = size ∧ 0 < size then some (repeatD (zD z) cap.toNat, len.toNat, cap.toNat, size) else none
    | none => none
  | _, _, _ => none

/-! What a call takes, and gives, by value -/
def chunk (sz : Nat) : Nat → List Dat → List (List Dat)
  | 0, _ => []
  | n + 1, l => l.take sz :: chunk sz n (l.drop sz)
def datasOf : List DV → Option (List Dat)
  | [] => some []
  | .d x :: l => (datasOf l).map (x :: ·)
  | _ => none
def mapO {α β : Type} (f : α → Option β) : List α → Option (List β)
  | [] => some []
  | x :: l => match f x, mapO f l with
    | some y, some r => some (y :: r)
    | _, _ => none
def fitsAt (H : VHeap) (id sz : Nat) : Bool := match H[id]? with
  | some (.cells _ m _ _ _) => m.fits sz
  | _ => false
/-- By value: what lies in blocks from lo on (pointers and maps too, if so). -/
def fz (H : VHeap) (lo : Nat) (pt : Bool) : Nat → DV → Option DV
  | 0, _ => none
  | k + 1, x =>
    match x with
    | .d (.v y) => match y with
      | .slice none n cap => if n = 0 ∧ cap = 0 then some (.d (.rows [])) else none
      | _ => some x
    | .d (.rows l) => some (.d (.rows l))
    | .fptr row off => some (.fptr row off)
    | .ptr id g off => if id < lo ∨ pt = false then some (.ptr id g off) else ((cellsOf H id g).bind fun c => (mapO (fz H lo pt k) c).bind datasOf).map fun r => .fptr r off
    | .slc id g off n cap sz => if id < lo then some (.slc id g off n cap sz) else (cellsOf H id g).bind fun c => if off + n * sz ≤ c.length ∧ 0 < sz ∧ fitsAt H id sz = true then ((mapO (fz H lo pt k) ((c.drop off).take (n * sz))).bind datasOf).map fun r => .d (.rows (chunk sz n r)) else none
    | .map id => if id < lo ∨ pt = false then some (.map id) else match H[id]? with
      | some (.map es _) => (mapO (fun e : Value × DV => (fz H lo pt k e.2).map fun y => (e.1, y)) es).map .fmap
      | _ => none
    | .fmap es => (mapO (fun e : Value × DV => (fz H lo pt k e.2).map fun y => (e.1, y)) es).map .fmap
    | .func f a c => if pt = false then some (.func f a c) else match mapO (fz H lo pt k) a, mapO (fz H lo pt k) c with
      | some a', some c' => some (.func f a' c')
      | _, _ => none
    | .iface t y => (fz H lo pt k y).map (.iface t)
    | .agg l => (mapO (fz H lo pt k) l).map .agg
    | .tuple l => (mapO (fz H lo pt k) l).map .tuple
/-- The blocks that 'fz' takes by value. -/
def seen (H : VHeap) (lo : Nat) (pt : Bool) : Nat → DV → List Nat
  | 0, _ => []
  | k + 1, x =>
    match x with
    | .ptr id g off => if id < lo ∨ pt = false then [] else id :: ((cellsOf H id g).getD []).flatMap (seen H lo pt k)
    | .slc id g off n cap sz => if id < lo then [] else id :: ((((cellsOf H id g).getD []).drop off).take (n * sz)).flatMap (seen H lo pt k)
    | .map id => if id < lo ∨ pt = false then [] else id :: (match H[id]? with | some (.map es _) => es | _ => []).flatMap fun (e : Value × DV) => seen H lo pt k e.2
    | .fmap es => es.flatMap fun (e : Value × DV) => seen H lo pt k e.2
    | .func f a c => if pt = false then [] else a.flatMap (seen H lo pt k) ++ c.flatMap (seen H lo pt k)
    | .iface t y => seen H lo pt k y
    | .agg l | .tuple l => l.flatMap (seen H lo pt k)
    | _ => []
def fzN : Nat := 6
def lenD : DV → Option Nat
  | .slc _ _ _ n _ _ => some n
  | .d (.rows l) => some l.length
  | .d (.v x) => lenV x
  | _ => none
/-- The cells of the first elements of a row, or of a string. -/
def firstD (H : VHeap) (size n : Nat) : DV → Option (List DV)
  | .slc id g off len cap sz => if n = 0 then some [] else (cellsOf H id g).bind fun c => if off + n * size ≤ c.length then some ((c.drop off).take (n * size)) else none
  | .d (.rows l) => if n ≤ l.length ∧ (l.all fun r => decide (r.length = size)) = true then some ((l.take n).flatten.map .d) else none
  | .d (.v x) => (firstL Heap.nil size n x).map fun l => l.map dv
  | _ => none
def newD (P : Program) (elem : TypeId) (size bytes : Nat) (zeros : Bool) (x : DV) (H : VHeap) : Option (Nat × List DV) :=
  if zeros then
    match toV x, zeroT P elem with
    | some (.int .i64 l), some z => if 0 ≤ l ∧ l * bytes ≤ 2 ^ 44 ∧ (zD z).length = size then some (l.toNat, repeatD (zD z) l.toNat) else none
    | _, _ => none
  else
    match lenD x with
    | some n => (firstD H size n x).map fun xs => (n, xs)
    | none => none
def vgrow (elem size n : Nat) (s : DV) (xs : List DV) (H : VHeap) : Option (DV × VHeap) :=
  match s with
  | .d (.v (.slice none len cap)) =>
    if len = 0 ∧ cap = 0 then
      if n = 0 then some (s, H) else some (.slc H.length 0 0 n n size, H ++ [.cells xs (.grown size) false 0 0])
    else none
  | .slc id g off len cap sz =>
    if len + n ≤ cap then
      if n = 0 then some (s, H) else (vstoreAt id g (off + len * size) xs H).map fun H' => (.slc id g off (len + n) cap size, H')
    else
      match H[id]? with
      | some (.cells c .fix lk g' ver) => if g' = g then (firstD H size len s).map fun old => (.slc H.length 0 0 (len + n) (len + n) size, H ++ [.cells (old ++ xs) (.grown size) false 0 0]) else none
      | some (.cells c (.grown es) false g' ver) => if es = size ∧ g' = g then (firstD H size len s).map fun old => (.slc id (g + 1) 0 (len + n) (len + n) size, H.set id (.cells (old ++ xs) (.grown size) false (g + 1) (ver + 1))) else none
      | _ => none
  | _ => none
def lenS : DV → Nat
  | .slc _ _ _ n _ _ => n
  | _ => 0
def vappend (P : Program) (argTypes : Array TypeId) (args : List DV) (H : VHeap) : Option (DV × VHeap) :=
  match args, argTypes.toList with
  | [s, x], [sType, xType] =>
    match elemT P sType, isIntT P xType with
    | some (elem, size, bytes), some zeros =>
      match newD P elem size bytes zeros x H, zeroT P elem with
      | some (n, xs), some z =>
        match mapO (fz H 0 false fzN) xs with
        | some xs' =>
          if (zD z).length = size ∧ xs'.all vscal = true ∧ 0 < bytes ∧ 0 < size ∧ bytes ≤ 2 ^ 20 ∧ (lenS s + n) * bytes ≤ 2 ^ 44 then vgrow elem size n s xs' (lockAll (xs.flatMap (seen H 0 false fzN)) H)
          else none
        | none => none
      | _, _ => none
    | _, _ => none
  | _, _ => none
def isSlc : DV → Bool
  | .slc .. | .d (.rows _) | .d (.v (.slice none _ _)) => true
  | _ => false
def vcopy (P : Program) (argTypes : Array TypeId) (args : List DV) (H : VHeap) : Option (DV × VHeap) :=
  match args, argTypes.toList with
  | [s, x], dType :: _ =>
    match elemT P dType, lenD s, lenD x with
    | some (elem, size, bytes), some dLen, some m =>
      match firstD H size (Nat.min m dLen) x with
      | some xs =>
        if xs.all vscal = true ∧ isSlc s = true then
          if xs.length = 0 then some (vint .i64 (Nat.min m dLen), H) else
          match s with
          | .slc id g off _ _ _ => (vstoreAt id g off xs H).map fun H' => (vint .i64 (Nat.min m dLen), H')
          | _ => none
        else none
      | none => none
    | _, _, _ => none
  | _, _ => none

/-! Maps -/
def keyL (es : List (Value × DV)) : List (Value × Value) := es.map fun e => (e.1, undefV)
def vget (P : Program) (t : TypeId) (es : List (Value × DV)) (k : Value) (commaOk : Bool) : Option DV :=
  match mapT P t with
  | some (key, elem) =>
    match findT P key k (keyL es) with
    | some (some i) => (es[i]?).map fun e => if commaOk then .tuple [e.2, vbool true] else e.2
    | some none => (zeroT P elem).map fun z => if commaOk then .tuple [ofV z, vbool false] else ofV z
    | none => none
  | none => none
def vlookup (P : Program) (t : TypeId) (x k : DV) (commaOk : Bool) (H : VHeap) : Option DV :=
  match toV k with
  | some k =>
    match x with
    | .d (.v (.map none)) => vget P t [] k commaOk
    | .fmap es => vget P t es k commaOk
    | .map id => match H[id]? with
      | some (.map es _) => vget P t es k commaOk
      | _ => none
    | _ => none
  | none => none
def vmapUpd (P : Program) (t : TypeId) (es : List (Value × DV)) (k : Value) (v : DV) : Option (List (Value × DV)) :=
  match mapT P t with
  | some (key, elem) =>
    match findT P key k (keyL es) with
    | some (some i) => match es[i]? with
      | some e => if Instr.sameBits 10000 e.1 k then some (es.set i (k, v)) else none
      | none => none
    | some none => some (es ++ [(k, v)])
    | none => none
  | none => none
def vupdate (P : Program) (t : TypeId) (x k v : DV) (H : VHeap) : Option VHeap :=
  match toV k, x with
  | some k, .map id => match H[id]? with
    | some (.map es ver) => (vmapUpd P t es k v).map fun es' => H.set id (.map es' (ver + 1))
    | _ => none
  | _, _ => none

def bytesD : List DV → Option (List UInt8)
  | [] => some []
  | .d (.v (.int .u8 n)) :: l => (bytesD l).map (UInt8.ofNat n.toNat :: ·)
  | _ => none
def vconvert (P : Program) (src dst : TypeId) (x : DV) (H : VHeap) : Option DV :=
  match toV x with
  | some y => (aconvert P src dst y Heap.nil).map ofV
  | none =>
    match P.underlying src, P.underlying dst with
    | some (.slice e), some .string =>
      match P.underlying e, lenD x with
      | some (.int .u8), some n => (firstD H 1 n x).bind fun c => (bytesD c).bind fun l => if n = 0 ∧ (aconvert P src dst (.slice none 0 0) Heap.nil).map (veq · (.string ⟨l.toArray⟩)) ≠ some true then none else some (dv (.string ⟨l.toArray⟩))
      | _, _ => none
    | _, _ => none

/-- '==' of what bears an address, with a nil. -/
def nilEqD (P : Program) (t : TypeId) (a b : DV) : Option Bool :=
  match P.underlying t, a, b with
  | some (.slice _), .d (.v (.slice none _ _)), .d (.rows (_ :: _)) => some false
  | some (.slice _), .d (.rows (_ :: _)), .d (.v (.slice none _ _)) => some false
  | some (.slice _), .d (.v (.slice none _ _)), .slc .. => some false
  | some (.slice _), .slc .., .d (.v (.slice none _ _)) => some false
  | some (.pointer _), .d (.v (.pointer none)), .ptr .. => some false
  | some (.pointer _), .ptr .., .d (.v (.pointer none)) => some false
  | some (.pointer _), .d (.v (.pointer none)), .fptr .. => some false
  | some (.pointer _), .fptr .., .d (.v (.pointer none)) => some false
  | some (.map _ _), .d (.v (.map none)), .map _ => some false
  | some (.map _ _), .map _, .d (.v (.map none)) => some false
  | some (.func _ _ _), .d (.v .nilFunc), .func f a c => if a.any hard || c.any hard then some false else none
  | some (.func _ _ _), .func f a c, .d (.v .nilFunc) => if a.any hard || c.any hard then some false else none
  | some (.interface _), .d (.v .nilIface), .iface _ x => if hard x then some false else none
  | some (.interface _), .iface _ x, .d (.v .nilIface) => if hard x then some false else none
  | _, _, _ => none
def vbin (P : Program) (op : BinOp) (t : TypeId) (x y : Operand) (a b : DV) : Option DV :=
  match toV a, toV b with
  | some u, some w => (abin P op t x y u w).map ofV
  | _, _ =>
    match nilEqD P t a b, op with
    | some r, .eql => some (vbool r)
    | some r, .neq => some (vbool (!r))
    | _, _ => none
def vun (P : Program) (op : UnOp) (x : DV) : Option DV := (toV x).bind fun y => (unV P op y).map ofV
def vmin (P : Program) (ts : Array TypeId) (t : TypeId) (args : List DV) : Option DV := (toVs args).bind fun l => (minV P ts t ⟨l⟩).map ofV
def vmax (P : Program) (ts : Array TypeId) (t : TypeId) (args : List DV) : Option DV := (toVs args).bind fun l => (maxV P ts t ⟨l⟩).map ofV
def vnonNil (x : DV) : Option DV :=
  match x with
  | .ptr .. | .fptr .. | .func .. | .iface .. => some x
  | _ => none

/-- A bound, if there is one: a value. -/
def bndD : Option DV → Option (Option Value)
  | none => some none
  | some x => (toV x).map some
def vslice (P : Program) (t : TypeId) (x : DV) (lo hi mx : Option DV) (H : VHeap) : Option DV :=
  match bndD lo, bndD hi, bndD mx with
  | some lo, some hi, some mx =>
    match x with
    | .ptr id g off => match H[id]?, arrT P t with
      | some (.cells c .fix _ g' _), some (n, e, size) => if g' = g then (boundsV n n lo hi mx).map fun b => .slc id g (if b.2.2 = b.1 then off else off + b.1 * size) (b.2.1 - b.1) (b.2.2 - b.1) size else none
      | _, _ => none
    | .slc id g off len cap sz => match H[id]?, elemT P t with
      | some (.cells c m _ g' _), some (e, size, _) => if g' = g then (boundsV len cap lo hi mx).bind fun b => if m.fits size = true ∨ b.1 = 0 then some (.slc id g (if b.2.2 = b.1 then off else off + b.1 * size) (b.2.1 - b.1) (b.2.2 - b.1) size) else none else none
      | _, _ => none
    | .d (.rows l) => match elemT P t with
      | some (e, size, _) => if (l.all fun r => decide (r.length = size)) = true then (boundsV l.length l.length lo hi mx).map fun b => .d (.rows ((l.drop b.1).take (b.2.1 - b.1))) else none
      | none => none
    | .d (.v y) => match y with
      | .slice none _ _ => (aslice P t y lo hi mx Heap.nil).map dv
      | _ => none
    | _ => none
  | _, _, _ => none

def vfieldAddr (P : Program) (s : TypeId) (x : DV) (f : Nat) : Option DV :=
  match x, fieldT P s f with
  | .ptr id g off, some (o, _, size) => if size = 0 then none else some (.ptr id g (off + o))
  | .fptr row off, some (o, _, size) => if size = 0 then none else some (.fptr row (off + o))
  | _, _ => none
def vfield (P : Program) (t : TypeId) (x : DV) (f : Nat) : Option DV :=
  match x, fieldT P t f with
  | .agg cs, some (o, u, size) => partD P u size cs o
  | _, _ => none
def vindexAddr (P : Program) (t : TypeId) (x ix : DV) : Option DV :=
  match toV ix with
  | some (.int _ i) =>
    match x with
    | .ptr id g off => match arrT P t with
      | some (n, e, size) => if 0 ≤ i ∧ i < n then some (.ptr id g (off + i.toNat * size)) else none
      | none => none
    | .fptr row off => match arrT P t with
      | some (n, e, size) => if 0 ≤ i ∧ i < n then some (.fptr row (off + i.toNat * size)) else none
      | none => none
    | .slc id g off len cap sz => match elemT P t with
      | some (e, size, _) => if 0 ≤ i ∧ i < len then some (.ptr id g (off + i.toNat * size)) else none
      | none => none
    | .d (.rows l) => match elemT P t with
      | some (e, size, _) => if 0 ≤ i then (l[i.toNat]?).bind fun r => if r.length = size then some (.fptr r 0) else none else none
      | none => none
    | _ => none
  | _ => none
def vindex (P : Program) (t : TypeId) (x ix : DV) : Option DV :=
  match toV ix with
  | some (.int k i) =>
    match x with
    | .agg cs => match arrT P t with
      | some (n, e, size) => if 0 ≤ i ∧ i < n then partD P e size cs (i.toNat * size) else none
      | none => none
    | .d (.v (.string s)) => (aindex P t (.string s) (.int k i)).map dv
    | _ => none
  | _ => none
def vlen (P : Program) (t : TypeId) (x : DV) (H : VHeap) : Option DV :=
  match x with
  | .map id => match H[id]?, mapT P t with
    | some (.map es _), some _ => some (vint .i64 es.length)
    | _, _ => none
  | .fmap es => (mapT P t).map fun _ => vint .i64 es.length
  | .slc _ _ _ n _ _ => (elemT P t).map fun _ => vint .i64 n
  | .d (.rows l) => (elemT P t).map fun _ => vint .i64 l.length
  | .d (.v y) => match y with
    | .map (some _) => none
    | _ => (alen P t y Heap.nil).map dv
  | .agg _ => (arrT P t).map fun x => vint .i64 x.1
  | .ptr .. | .fptr .. => match P.underlying t with
    | some (.pointer a) => (arrT P a).map fun x => vint .i64 x.1
    | some (.array n _) => some (vint .i64 n)
    | _ => none
  | _ => none
def vlen1 (P : Program) (args : List DV) (ts : List TypeId) (H : VHeap) : Option DV :=
  match args, ts with
  | [x], [t] => vlen P t x H
  | _, _ => none
def vmapOk (P : Program) (t : TypeId) : Option DV → Option Unit
  | none => some ()
  | some x => match toV x with
    | some (.int _ _) => (mapT P t).map fun _ => ()
    | _ => none
def vboolV : DV → Option Bool
  | .d (.v (.bool b)) => some b
  | _ => none
def vtupleV : DV → Option (List DV)
  | .tuple l => some l
  | _ => none
def vfuncV : DV → Option (FuncId × List DV × List DV)
  | .func f a c => some (f, a, c)
  | _ => none
def vifaceV : DV → Option (TypeId × DV)
  | .iface t x => some (t, x)
  | _ => none
def vifaceOf (P : Program) (t : TypeId) (x : DV) : Option DV := if notIface P t then some (.iface t x) else none

inductive VRes where
  | val (x : DV) (H : VHeap)
  | call (f : FuncId) (args : List DV)

def vop (P : Program) (ev : Operand → DV) (o : Oper) (H : VHeap) : Option VRes :=
  match o.op with
  | .move x | .assign x => some (.val (ev x) H)
  | .pick c a b => (vboolV (ev c)).map fun t => .val (if t then ev a else ev b) H
  | .alloc elem => (zeroT P elem).map fun z => .val (.ptr H.length 0 0) (H ++ [.cells (zD z) .fix false 0 0])
  | .box elem x => some (.val (.ptr H.length 0 0) (H ++ [.cells (vcells (ev x)) .fix false 0 0]))
  | .load t a => (vload P t (ev a) H).map (.val · H)
  | .store t a x => (vstore P t (ev a) (ev x) H).map (.val (.tuple []) ·)
  | .build t parts => (vbuild P t ((parts.map fun (i, x) => (i, ev x)).toList)).map fun c => .val (.agg c) H
  | .buildSlice t len parts => (vbuildS P t len ((parts.map fun (i, x) => (i, ev x)).toList)).map fun c => .val (.slc H.length 0 0 len len c.2) (H ++ [.cells c.1 .fix false 0 0])
  | .nilCheck x => (vnonNil (ev x)).map (.val · H)
  | .binOp op t x y _ => (vbin P op t x y (ev x) (ev y)).map (.val · H)
  | .unOp op _ x => (vun P op (ev x)).map (.val · H)
  | .convert src dst x => (vconvert P src dst (ev x) H).map (.val · H)
  | .makeInterface t x => (vifaceOf P t (ev x)).map (.val · H)
  | .makeFunc fn first captured => match fn with
    | .func f => some (.val (.func f (first.toList.map ev) (captured.toList.map ev)) H)
    | _ => none
  | .makeMap t r => (vmapOk P t (r.map ev)).map fun _ => .val (.map H.length) (H ++ [.map [] 0])
  | .makeSlice t l c => (vmakeS P t (ev l) (ev c)).map fun s => .val (.slc H.length 0 0 s.2.1 s.2.2.1 s.2.2.2) (H ++ [.cells s.1 .fix false 0 0])
  | .slice t x lo hi mx => (vslice P t (ev x) (lo.map ev) (hi.map ev) (mx.map ev) H).map (.val · H)
  | .fieldAddr s x f => (vfieldAddr P s (ev x) f).map (.val · H)
  | .field t x f => (vfield P t (ev x) f).map (.val · H)
  | .indexAddr t x ix => (vindexAddr P t (ev x) (ev ix)).map (.val · H)
  | .index t x ix => (vindex P t (ev x) (ev ix)).map (.val · H)
  | .extract x ix => (vtupleV (ev x)).bind fun vs => (vs[ix]?).map (.val · H)
  | .lookup t x k ok => (vlookup P t (ev x) (ev k) ok H).map (.val · H)
  | .mapUpdate t m k x | .insert t m k x => (vupdate P t (ev m) (ev k) (ev x) H).map (.val (.tuple []) ·)
  | .call c =>
    match c.callee with
    | .builtin .len => (vlen1 P (c.args.toList.map ev) c.argTypes.toList H).map (.val · H)
    | .builtin .min => (vmin P c.argTypes o.type (c.args.toList.map ev)).map (.val · H)
    | .builtin .max => (vmax P c.argTypes o.type (c.args.toList.map ev)).map (.val · H)
    | .builtin .append => (vappend P c.argTypes (c.args.toList.map ev) H).map fun r => .val r.1 r.2
    | .builtin .copy => (vcopy P c.argTypes (c.args.toList.map ev) H).map fun r => .val r.1 r.2
    | .builtin _ => none
    | .value f => (vfuncV (ev f)).map fun g => .call g.1 ((g.2.1 ++ c.args.toList.map ev) ++ g.2.2)
    | .invoke r name => (vifaceV (ev r)).bind fun tv => (methodT P tv.1 name).map fun f => .call f (tv.2 :: c.args.toList.map ev)
  | _ => none

structure Mode where
  refs : Bool := false
  move : Bool := false
def sameVers (H H' : VHeap) : Bool := (List.range H.length).all fun id => decide (verOf H' id = verOf H id)
end Go.Abs
/- The machine of values: code and calls. -/
namespace Go.Abs
open Go Go.RowKit
set_option linter.unusedVariables false

/-- Which function; whether a row of its own is handed on; what it is given. -/
abbrev VCall := FuncId → Bool → List DV → VHeap → Option (DV × VHeap)
abbrev Tab := FuncId → FuncId → Mode
def undefD : DV := .tuple []
def evalD (ts : Array DV) : Operand → DV
  | .tmp t => ts.getD t undefD
  | .const v => ofV v
  | .global _ => undefD
  | .func f => .func f [] []
def putD (ts : Array DV) (dst : Option Tmp) (v : DV) : Array DV :=
  match dst with
  | some d => ts.setIfInBounds d v
  | none => ts
def yieldD (ops : Array Oper) (ts : Array DV) (i : Nat) : Option Bool :=
  ((ops[i]?).bind (·.dst)).bind fun t => match ts[t]? with
    | some (.d (.v (.bool b))) => some b
    | _ => none

/-- A call: what it takes is taken by value, unless it is told otherwise. -/
def vcall (tab : FuncId → Mode) (run : VCall) (f : FuncId) (args : List DV) (H : VHeap) : Option (DV × VHeap) :=
  if (tab f).refs then run f (tab f).move args H else
  match mapO (fz H 0 false fzN) args with
  | none => none
  | some args' =>
    match run f (tab f).move args' (lockAll (args.flatMap (seen H 0 false fzN)) H) with
    | none => none
    | some (r, H') => if flatD r && sameVers H H' && decide (H'.length = H.length) then some (r, H) else some (r, H')

def vstep (P : Program) (tab : FuncId → Mode) (run : VCall) (ev : Operand → DV) (o : Oper) (H : VHeap) : Option (DV × VHeap) :=
  match vop P ev o H with
  | some (.val v H') => some (v, H')
  | some (.call f args) => vcall tab run f args H
  | none => none

def vops (P : Program) (tab : FuncId → Mode) (run : VCall) (ops : Array Oper) : List Nat → Array DV → VHeap → Option (Array DV × VHeap)
  | [], ts, H => some (ts, H)
  | i :: rest, ts, H =>
    match ops[i]? with
    | none => none
    | some o =>
      if Region.wanted o (yieldD ops ts) then
        match vstep P tab run (evalD ts) o H with
        | some (v, H') => vops P tab run ops rest (putD ts o.dst v) H'
        | none => none
      else vops P tab run ops rest (putD ts o.dst undefD) H

/-- The block that an operation reads, and how often it was written. -/
def depV (H : VHeap) : DV → List (Nat × Option Nat)
  | .ptr id _ _ | .slc id _ _ _ _ _ | .map id => [(id, verOf H id)]
  | _ => []
def vdep (ev : Operand → DV) (o : Oper) (H : VHeap) : List (Nat × Option Nat) :=
  match o.op with
  | .load _ a => depV H (ev a)
  | .convert _ _ x => depV H (ev x)
  | .slice _ x _ _ _ => depV H (ev x)
  | .lookup _ x _ _ => depV H (ev x)
  | .call c => match c.callee, c.args.toList with
    | .builtin .len, [x] => depV H (ev x)
    | _, _ => []
  | _ => []
structure VHeld where
  upto : Nat
  dep : List (Nat × Option Nat)
def depOk (dep : List (Nat × Option Nat)) (H : VHeap) : Bool := dep.all fun e => decide (verOf H e.1 = e.2)
def vheldOk (m : Nat) (H : VHeap) (hs : List VHeld) : Bool := hs.all fun h => decide (h.upto < m) || depOk h.dep H

def vdraw (P : Program) (tab : FuncId → Mode) (run : VCall) (ops : Array Oper) (upto : Nat → Nat) : List Nat → Nat → List VHeld → Array DV → VHeap → Option (Array DV × VHeap)
  | [], _, _, ts, H => some (ts, H)
  | i :: rest, m, hs, ts, H =>
    match ops[i]? with
    | none => none
    | some o =>
      let m' := if kindOf o.op = .eff then m + 1 else m
      if Region.wanted o (yieldD ops ts) then
        match vstep P tab run (evalD ts) o H with
        | some (v, H') =>
          if kindOf o.op = .eff ∧ vheldOk (m + 1) H' hs = false then none
          else vdraw P tab run ops upto rest m' (if kindOf o.op = .read ∧ upto i ≠ m then ⟨upto i, vdep (evalD ts) o H⟩ :: hs else hs) (putD ts o.dst v) H'
        | none => none
      else vdraw P tab run ops upto rest m' hs (putD ts o.dst undefD) H

abbrev VSt := Option (Ex × Array DV × VHeap)
def viter (f : Array DV → VHeap → VSt) : Nat → Array DV → VHeap → VSt
  | 0, _, _ => none
  | n + 1, t, H => match f t H with
    | some (.normal, t', H') => viter f n t' H'
    | r => r

def vcode (P : Program) (tab : FuncId → Mode) (run : VCall) (fuel : Nat) : Code → Array DV → VHeap → VSt
  | .skip, t, H | .label _, t, H => some (.normal, t, H)
  | .region _ ops draw, t, H =>
    (if draw then vdraw P tab run ops (fun i => (uptoL ops).getD i 0) (canon ops) 0 [] t H else vops P tab run ops (List.range ops.size) t H).map fun r => (.normal, r.1, r.2)
  | .seq a b, t, H => match vcode P tab run fuel a t H with
    | some (.normal, t', H') => vcode P tab run fuel b t' H'
    | r => r
  | .cond c a b, t, H => match vboolV (evalD t c) with
    | some x => if x then vcode P tab run fuel a t H else vcode P tab run fuel b t H
    | none => none
  | .block id b, t, H => match vcode P tab run fuel b t H with
    | some (.exit id', t', H') => if id' = id then some (.normal, t', H') else some (.exit id', t', H')
    | r => r
  | .loop b, t, H => viter (vcode P tab run fuel b) fuel t H
  | .scope b, t, H => vcode P tab run fuel b t H
  | .exit id, t, H => some (.exit id, t, H)
  | .ret, t, H => some (.ret, t, H)
  | _, _, _ => none

def oneD (P : Program) (t : Array DV) (H : VHeap) : ResultVar → Option DV
  | .tmp d => some (t.getD d undefD)
  | .cell a ty => vload P ty (t.getD a undefD) H
def resultsD (P : Program) (rs : List ResultVar) (t : Array DV) (H : VHeap) : Option (List DV) :=
  match rs with
  | [] => some []
  | r :: rest => match oneD P t H r, resultsD P rest t H with
    | some v, some vs => some (v :: vs)
    | _, _ => none
def packD : List DV → DV
  | [v] => v
  | vs => .tuple vs
/-- The first result that is a row of the call's own. -/
def ownOf (lo : Nat) : List DV → Option (Nat × Nat × Nat × Nat × Nat × Nat × Nat)
  | [] => none
  | .slc id g off n cap sz :: l => if lo ≤ id then some (0, id, g, off, n, cap, sz) else (ownOf lo l).map fun e => (e.1 + 1, e.2)
  | _ :: l => (ownOf lo l).map fun e => (e.1 + 1, e.2)
/-- What a call leaves in a block that was there: as it was, or by value. -/
def leaveB (f : DV → Option DV) : VBlk → VBlk → Option VBlk
  | .cells c0 m0 l0 g0 v0, .cells c1 m1 l1 g1 v1 => if v0 = v1 then some (.cells c0 m0 l1 g0 v0) else (mapO f c1).map fun c => .cells c m1 l1 g1 v1
  | .map e0 v0, .map e1 v1 => if v0 = v1 then some (.map e0 v0) else (mapO (fun e : Value × DV => (f e.2).map fun y => (e.1, y)) e1).map fun e => .map e v1
  | _, _ => none
def leaveH (f : DV → Option DV) : VHeap → VHeap → Option VHeap
  | [], _ => some []
  | b0 :: r0, b1 :: r1 => match leaveB f b0 b1, leaveH f r0 r1 with
    | some b, some r => some (b :: r)
    | _, _ => none
  | _ :: _, [] => none
def seenB (s : DV → List Nat) : VBlk → VBlk → List Nat
  | .cells _ _ _ _ v0, .cells c1 _ _ _ v1 => if v0 = v1 then [] else c1.flatMap s
  | .map _ v0, .map e1 v1 => if v0 = v1 then [] else e1.flatMap fun (e : Value × DV) => s e.2
  | _, _ => []
def seenH (s : DV → List Nat) : VHeap → VHeap → List Nat
  | b0 :: r0, b1 :: r1 => seenB s b0 b1 ++ seenH s r0 r1
  | _, _ => []
/-- What a call leaves: its results by value, its blocks gone; but one row, if so, is handed on. -/
def leaveD (V0 : VHeap) (mv : Bool) (vs : List DV) (V1 : VHeap) : Option (List DV × VHeap) :=
  match leaveH (fz V1 V0.length true fzN) V0 V1 with
  | none => none
  | some Vr =>
    match (if mv then ownOf V0.length vs else none) with
    | none => (mapO (fz V1 V0.length true fzN) vs).map fun r => (r, Vr)
    | some (j, id, g, off, n, cap, sz) =>
      match V1[id]? with
      | some (.cells c m false g' _) =>
        if g' = g ∧ ((((vs.set j undefD) ++ c).flatMap (seen V1 V0.length true fzN)) ++ seenH (seen V1 V0.length true fzN) V0 V1).contains id = false then
          match mapO (fz V1 V0.length true fzN) (vs.set j undefD), mapO (fz V1 V0.length true fzN) c with
          | some r, some c' => some (r.set j (.slc V0.length 0 off n cap sz), Vr ++ [.cells c' m false 0 0])
          | _, _ => none
        else none
      | _ => none

def enterD (fn : Func) (args : List DV) : Array DV := ⟨args⟩ ++ Array.replicate (fn.ntmps - args.length) undefD
def vbody (P : Program) (tab : FuncId → Mode) (run : VCall) (fuel : Nat) (mv : Bool) (fn : Func) (args : List DV) (H : VHeap) : Option (DV × VHeap) :=
  match fn.body with
  | some c =>
    match vcode P tab run fuel c (enterD fn args) H with
    | some (.exit _, _, _) => none
    | some (_, t, H') => (resultsD P fn.results.toList t H').bind fun vs => (leaveD H mv vs H').map fun r => (packD r.1, r.2)
    | none => none
  | none => none

/-- What is told from elsewhere; true: what is not told is run. -/
abbrev VOrc := FuncId → Option (Bool × (Bool → List DV → VHeap → Option (DV × VHeap)))
def vask (orc : VOrc) (f : FuncId) (mv : Bool) (args : List DV) (H : VHeap) : Option (Option (DV × VHeap)) :=
  match orc f with
  | none => none
  | some (els, g) => match g mv args H with
    | some r => some (some r)
    | none => if els then none else some none
def vrun (P : Program) (tab : Tab) (orc : VOrc) : Nat → VCall
  | 0, _, _, _, _ => none
  | k + 1, f, mv, args, H =>
    match vask orc f mv args H with
    | some r => r
    | none =>
      match P.funcs[f]? with
      | some fn => if callable fn then vbody P (tab f) (vrun P tab orc k) k mv fn args H else none
      | none => none

/-! More rounds, the same answer -/
def LeV (c c' : VCall) : Prop := ∀ f mv a H r, c f mv a H = some r → c' f mv a H = some r
theorem vcall_mono {tab : FuncId → Mode} {c c' : VCall} (h : LeV c c') {f : FuncId} {a : List DV} {H : VHeap} {r : DV × VHeap} (hs : vcall tab c f a H = some r) : vcall tab c' f a H = some r := by
  unfold vcall at *
  split
  · rename_i e; rw [if_pos e] at hs; exact h _ _ _ _ _ hs
  · rename_i e
    rw [if_neg e] at hs
    split at hs
    · cases hs
    · rename_i args' ha
      cases hr : c f (tab f).move args' (lockAll (a.flatMap (seen H 0 false fzN)) H) with
      | none => rw [hr] at hs; cases hs
      | some y => rw [h _ _ _ _ _ hr]; rw [hr] at hs; exact hs
theorem vstep_mono {P : Program} {tab : FuncId → Mode} {c c' : VCall} (h : LeV c c') {ev : Operand → DV} {o : Oper} {H : VHeap} {r : DV × VHeap} (hs : vstep P tab c ev o H = some r) : vstep P tab c' ev o H = some r := by
  unfold vstep at *
  split at hs
  · rename_i e; simpa [e] using hs
  · rename_i e; simpa [e] using vcall_mono h hs
  · cases hs
theorem vops_mono {P : Program} {tab : FuncId → Mode} {c c' : VCall} (h : LeV c c') {ops : Array Oper} : ∀ (l : List Nat) (t : Array DV) (H : VHeap) (r : Array DV × VHeap), vops P tab c ops l t H = some r → vops P tab c' ops l t H = some r := by
  intro l
  induction l with
  | nil => intro t H r hr; simpa [vops] using hr
  | cons i rest ih =>
    intro t H r hr
    simp only [vops] at hr ⊢
    cases ho : ops[i]? with
    | none => rw [ho] at hr; cases hr
    | some o =>
      rw [ho] at hr
      simp only at hr ⊢
      split
      · rename_i hw
        rw [if_pos hw] at hr
        cases hs : vstep P tab c (evalD t) o H with
        | none => rw [hs] at hr; cases hr
        | some vh => rw [hs] at hr; rw [vstep_mono h hs]; exact ih _ _ _ hr
      · rename_i hw
        rw [if_neg hw] at hr
        exact ih _ _ _ hr
theorem vdraw_mono {P : Program} {tab : FuncId → Mode} {c c' : VCall} (h : LeV c c') {ops : Array Oper} {up : Nat → Nat} : ∀ (l : List Nat) (m : Nat) (hs : List VHeld) (t : Array DV) (H : VHeap) (r : Array DV × VHeap),
    vdraw P tab c ops up l m hs t H = some r → vdraw P tab c' ops up l m hs t H = some r := by
  intro l
  induction l with
  | nil => intro m hs t H r hr; simpa [vdraw] using hr
  | cons i rest ih =>
    intro m hs t H r hr
    simp only [vdraw] at hr ⊢
    cases ho : ops[i]? with
    | none => rw [ho] at hr; cases hr
    | some o =>
      rw [ho] at hr
      simp only at hr ⊢
      split
      · rename_i hw
        rw [if_pos hw] at hr
        cases hst : vstep P tab c (evalD t) o H with
        | none => rw [hst] at hr; cases hr
        | some vh =>
          rw [hst] at hr
          rw [vstep_mono h hst]
          simp only at hr ⊢
          split
          · rename_i hb; rw [if_pos hb] at hr; cases hr
          · rename_i hb; rw [if_neg hb] at hr; exact ih _ _ _ _ _ hr
      · rename_i hw
        rw [if_neg hw] at hr
        exact ih _ _ _ _ _ hr
theorem viter_mono {f g : Array DV → VHeap → VSt} (h : ∀ t H r, f t H = some r → g t H = some r) : ∀ (n n' : Nat), n ≤ n' → ∀ t H r, viter f n t H = some r → viter g n' t H = some r := by
  intro n
  induction n with
  | zero => intro n' _ t H r hr; cases hr
  | succ n ih =>
    intro n' hn t H r hr
    obtain ⟨m, rfl⟩ : ∃ m, n' = m + 1 := ⟨n' - 1, by omega⟩
    simp only [viter] at hr ⊢
    cases hf : f t H with
    | none => rw [hf] at hr; cases hr
    | some s =>
      rw [h _ _ _ hf]
      rw [hf] at hr
      obtain ⟨e, t', H'⟩ := s
      cases e with
      | normal => exact ih m (by omega) _ _ _ hr
      | exit id => exact hr
      | ret => exact hr
theorem vcode_mono {P : Program} {tab : FuncId → Mode} {c c' : VCall} (h : LeV c c') {k k' : Nat} (hk : k ≤ k') : ∀ (x : Code) (t : Array DV) (H : VHeap) (r : Ex × Array DV × VHeap),
    vcode P tab c k x t H = some r → vcode P tab c' k' x t H = some r := by
  intro x
  induction x with
  | skip => intro t H r hr; exact hr
  | label l => intro t H r hr; exact hr
  | region id ops draw =>
    intro t H r hr
    simp only [vcode, Option.map_eq_some_iff] at hr ⊢
    obtain ⟨s, hs, e⟩ := hr
    refine ⟨s, ?_, e⟩
    split
    · rename_i hd; rw [if_pos hd] at hs; exact vdraw_mono h _ _ _ _ _ _ hs
    · rename_i hd; rw [if_neg hd] at hs; exact vops_mono h _ _ _ _ hs
  | seq a b iha ihb =>
    intro t H r hr
    simp only [vcode] at hr ⊢
    cases ha : vcode P tab c k a t H with
    | none => rw [ha] at hr; cases hr
    | some s =>
      rw [iha _ _ _ ha]; rw [ha] at hr
      obtain ⟨e, t', H'⟩ := s
      cases e with
      | normal => exact ihb _ _ _ hr
      | exit id => exact hr
      | ret => exact hr
  | cond q a b iha ihb =>
    intro t H r hr
    simp only [vcode] at hr ⊢
    split
    · rename_i x hx
      simp only [hx] at hr
      split
      · rename_i hb; rw [if_pos hb] at hr; exact iha _ _ _ hr
      · rename_i hb; rw [if_neg hb] at hr; exact ihb _ _ _ hr
    · rename_i hx; simp only [hx] at hr; cases hr
  | block id b ih =>
    intro t H r hr
    simp only [vcode] at hr ⊢
    cases hb : vcode P tab c k b t H with
    | none => rw [hb] at hr; cases hr
    | some s => rw [ih _ _ _ hb]; rw [hb] at hr; exact hr
  | loop b ih =>
    intro t H r hr
    simp only [vcode] at hr ⊢
    exact viter_mono ih _ _ hk _ _ _ hr
  | scope b ih => intro t H r hr; simp only [vcode] at hr ⊢; exact ih _ _ _ hr
  | exit id => intro t H r hr; exact hr
  | ret => intro t H r hr; exact hr
  | _ => intro t H r hr; simp [vcode] at hr
theorem vbody_mono {P : Program} {tab : FuncId → Mode} {c c' : VCall} (h : LeV c c') {k k' : Nat} (hk : k ≤ k') {mv : Bool} {fn : Func} {a : List DV} {H : VHeap} {r : DV × VHeap} (hr : vbody P tab c k mv fn a H = some r) : vbody P tab c' k' mv fn a H = some r := by
  unfold vbody at *
  cases hb : fn.body with
  | none => rw [hb] at hr; cases hr
  | some x =>
    simp only [hb] at hr ⊢
    cases ha : vcode P tab c k x (enterD fn a) H with
    | none => rw [ha] at hr; cases hr
    | some s => rw [vcode_mono h hk _ _ _ _ ha]; rw [ha] at hr; exact hr
theorem vrun_mono (P : Program) (tab : Tab) (orc : VOrc) : ∀ (k k' : Nat), k ≤ k' → LeV (vrun P tab orc k) (vrun P tab orc k') := by
  intro k
  induction k with
  | zero => intro k' _ f mv a H r hr; cases hr
  | succ k ih =>
    intro k' hk f mv a H r hr
    obtain ⟨m, rfl⟩ : ∃ m, k' = m + 1 := ⟨k' - 1, by omega⟩
    simp only [vrun] at hr ⊢
    cases ho : vask orc f mv a H with
    | some g => rw [ho] at hr; exact hr
    | none =>
      rw [ho] at hr
      simp only at hr ⊢
      cases hf : P.funcs[f]? with
      | none => rw [hf] at hr; cases hr
      | some fn =>
        rw [hf] at hr
        simp only at hr ⊢
        split
        · rename_i hc; rw [if_pos hc] at hr; exact vbody_mono (ih m (by omega)) (by omega) hr
        · rename_i hc; rw [if_neg hc] at hr; cases hr
end Go.Abs
/- The machine of values: how its values and blocks stand to the abstract machine's. -/
namespace Go.Abs
open Go Go.RowKit
set_option linter.unusedVariables false
set_option linter.unusedSimpArgs false

/-- The blocks that nobody writes any more. -/
abbrev Phi := Nat → Option Blk
abbrev Rn := Nat → Option (Nat × Nat)

mutual
inductive DataR (Φ : Phi) : Dat → Value → Prop
  | v (x : Value) : flat x = true → DataR Φ (.v x) x
  | nil : DataR Φ (.rows []) (.slice none 0 0)
  | cut : DataR Φ (.rows []) cutV
  | rows (l : List (List Dat)) (i off cap sz : Nat) (cs : List Value) (m : Md) : Φ i = some (.cells cs m) → (∀ r ∈ l, r.length = sz) → (l ≠ [] → m.fits sz = true) → l.length ≤ cap → off + l.length * sz ≤ cs.length →
      DataRs Φ l.flatten ((cs.drop off).take (l.length * sz)) → DataR Φ (.rows l) (.slice (some ⟨i, off, none⟩) l.length cap)
inductive DataRs (Φ : Phi) : List Dat → List Value → Prop
  | nil : DataRs Φ [] []
  | cons (a : Dat) (b : Value) (l : List Dat) (m : List Value) : DataR Φ a b → DataRs Φ l m → DataRs Φ (a :: l) (b :: m)
end

mutual
inductive DVR (Φ : Phi) (ρ : Rn) : DV → Value → Prop
  | d (x : Dat) (v : Value) : DataR Φ x v → DVR Φ ρ (.d x) v
  | fptr (row : List Dat) (off i o : Nat) (cs : List Value) (m : Md) : Φ i = some (.cells cs m) → o + row.length ≤ cs.length → DataRs Φ row ((cs.drop o).take row.length) → DVR Φ ρ (.fptr row off) (.pointer (some ⟨i, o + off, none⟩))
  | ptr (id g off i : Nat) : ρ id = some (g, i) → DVR Φ ρ (.ptr id g off) (.pointer (some ⟨i, off, none⟩))
  | ptrOld (id g off g' i j o : Nat) : ρ id = some (g', i) → g < g' → DVR Φ ρ (.ptr id g off) (.pointer (some ⟨j, o, none⟩))
  | slc (id g off n cap sz i : Nat) : ρ id = some (g, i) → n ≤ cap → DVR Φ ρ (.slc id g off n cap sz) (.slice (some ⟨i, off, none⟩) n cap)
  | slcOld (id g off n cap sz g' i j o : Nat) : ρ id = some (g', i) → g < g' → DVR Φ ρ (.slc id g off n cap sz) (.slice (some ⟨j, o, none⟩) n cap)
  | map (id i : Nat) : ρ id = some (0, i) → DVR Φ ρ (.map id) (.map (some i))
  | mapOld (id g i j : Nat) : ρ id = some (g, i) → 0 < g → DVR Φ ρ (.map id) (.map (some j))
  | fmap (es : List (Value × DV)) (i : Nat) (es' : List (Value × Value)) : Φ i = some (.map es') → DMR Φ ρ es es' → DVR Φ ρ (.fmap es) (.map (some i))
  | func (f : FuncId) (a c : List DV) (a' c' : List Value) : DVRs Φ ρ a a' → DVRs Φ ρ c c' → DVR Φ ρ (.func f a c) (.func (.func f) ⟨a'⟩ ⟨c'⟩)
  | iface (t : TypeId) (x : DV) (v : Value) : DVR Φ ρ x v → DVR Φ ρ (.iface t x) (.iface t v)
  | agg (l : List DV) (l' : List Value) : DVRs Φ ρ l l' → DVR Φ ρ (.agg l) (.agg ⟨l'⟩)
  | tuple (l : List DV) (l' : List Value) : DVRs Φ ρ l l' → DVR Φ ρ (.tuple l) (.tuple ⟨l'⟩)
inductive DVRs (Φ : Phi) (ρ : Rn) : List DV → List Value → Prop
  | nil : DVRs Φ ρ [] []
  | cons (a : DV) (b : Value) (l : List DV) (m : List Value) : DVR Φ ρ a b → DVRs Φ ρ l m → DVRs Φ ρ (a :: l) (b :: m)
inductive DMR (Φ : Phi) (ρ : Rn) : List (Value × DV) → List (Value × Value) → Prop
  | nil : DMR Φ ρ [] []
  | cons (k : Value) (x : DV) (v : Value) (l : List (Value × DV)) (m : List (Value × Value)) : DVR Φ ρ x v → DMR Φ ρ l m → DMR Φ ρ ((k, x) :: l) ((k, v) :: m)
end

def PLe (Φ Φ' : Phi) : Prop := ∀ i b, Φ i = some b → Φ' i = some b
/-- A block's present row stays, or a later one comes. -/
def RLe (ρ ρ' : Rn) : Prop := ∀ id g i, ρ id = some (g, i) → ∃ g' i', ρ' id = some (g', i') ∧ (g < g' ∨ (g' = g ∧ i' = i))
theorem PLe.refl (Φ : Phi) : PLe Φ Φ := fun _ _ h => h
theorem PLe.trans {a b c : Phi} (h : PLe a b) (k : PLe b c) : PLe a c := fun i x e => k i x (h i x e)
theorem RLe.refl (ρ : Rn) : RLe ρ ρ := fun id g i h => ⟨g, i, h, .inr ⟨rfl, rfl⟩⟩
theorem RLe.trans {a b c : Rn} (h : RLe a b) (k : RLe b c) : RLe a c := by
  intro id g i e
  obtain ⟨g1, i1, e1, h1⟩ := h id g i e
  obtain ⟨g2, i2, e2, h2⟩ := k id g1 i1 e1
  refine ⟨g2, i2, e2, ?_⟩
  rcases h1 with h1 | ⟨rfl, rfl⟩ <;> rcases h2 with h2 | ⟨rfl, rfl⟩
  · exact .inl (by omega)
  · exact .inl h1
  · exact .inl h2
  · exact .inr ⟨rfl, rfl⟩

mutual
theorem DataR.mono {Φ Φ' : Phi} (h : PLe Φ Φ') : ∀ {a : Dat} {b : Value}, DataR Φ a b → DataR Φ' a b
  | _, _, .v x hf => .v x hf
  | _, _, .nil => .nil
  | _, _, .cut => .cut
  | _, _, .rows l i off cap sz cs m h1 h2 h3 h4 h5 h6 => .rows l i off cap sz cs m (h _ _ h1) h2 h3 h4 h5 (DataRs.mono h h6)
theorem DataRs.mono {Φ Φ' : Phi} (h : PLe Φ Φ') : ∀ {a : List Dat} {b : List Value}, DataRs Φ a b → DataRs Φ' a b
  | _, _, .nil => .nil
  | _, _, .cons a b l m h1 h2 => .cons a b l m (DataR.mono h h1) (DataRs.mono h h2)
end
mutual
theorem DVR.mono {Φ Φ' : Phi} {ρ ρ' : Rn} (h : PLe Φ Φ') (k : RLe ρ ρ') : ∀ {a : DV} {b : Value}, DVR Φ ρ a b → DVR Φ' ρ' a b
  | _, _, .d x v hd => .d x v (hd.mono h)
  | _, _, .fptr row off i o cs m h1 h2 h3 => .fptr row off i o cs m (h _ _ h1) h2 (h3.mono h)
  | _, _, .ptr id g off i h1 => by
    obtain ⟨g', i', e, q⟩ := k id g i h1
    rcases q with q | ⟨rfl, rfl⟩
    · exact .ptrOld id g off g' i' i off e q
    · exact .ptr id g' off i' e
  | _, _, .ptrOld id g off g' i j o h1 h2 => by
    obtain ⟨g2, i2, e, q⟩ := k id g' i h1
    exact .ptrOld id g off g2 i2 j o e (by omega)
  | _, _, .slc id g off n cap sz i h1 h2 => by
    obtain ⟨g', i', e, q⟩ := k id g i h1
    rcases q with q | ⟨rfl, rfl⟩
    · exact .slcOld id g off n cap sz g' i' i off e q
    · exact .slc id g' off n cap sz i' e h2
  | _, _, .slcOld id g off n cap sz g' i j o h1 h2 => by
    obtain ⟨g2, i2, e, q⟩ := k id g' i h1
    exact .slcOld id g off n cap sz g2 i2 j o e (by omega)
  | _, _, .map id i h1 => by
    obtain ⟨g', i', e, q⟩ := k id 0 i h1
    rcases q with q | ⟨rfl, rfl⟩
    · exact .mapOld id g' i' i e q
    · exact .map id i' e
  | _, _, .mapOld id g i j h1 h2 => by
    obtain ⟨g2, i2, e, q⟩ := k id g i h1
    exact .mapOld id g2 i2 j e (by omega)
  | _, _, .fmap es i es' h1 h2 => .fmap es i es' (h _ _ h1) (DMR.mono h k h2)
  | _, _, .func f a c a' c' h1 h2 => .func f a c a' c' (DVRs.mono h k h1) (DVRs.mono h k h2)
  | _, _, .iface t x v h1 => .iface t x v (DVR.mono h k h1)
  | _, _, .agg l l' h1 => .agg l l' (DVRs.mono h k h1)
  | _, _, .tuple l l' h1 => .tuple l l' (DVRs.mono h k h1)
theorem DVRs.mono {Φ Φ' : Phi} {ρ ρ' : Rn} (h : PLe Φ Φ') (k : RLe ρ ρ') : ∀ {a : List DV} {b : List Value}, DVRs Φ ρ a b → DVRs Φ' ρ' a b
  | _, _, .nil => .nil
  | _, _, .cons a b l m h1 h2 => .cons a b l m (DVR.mono h k h1) (DVRs.mono h k h2)
theorem DMR.mono {Φ Φ' : Phi} {ρ ρ' : Rn} (h : PLe Φ Φ') (k : RLe ρ ρ') : ∀ {a : List (Value × DV)} {b : List (Value × Value)}, DMR Φ ρ a b → DMR Φ' ρ' a b
  | _, _, .nil => .nil
  | _, _, .cons key x v l m h1 h2 => .cons key x v l m (DVR.mono h k h1) (DMR.mono h k h2)
end

section lists
variable {Φ : Phi} {ρ : Rn}
theorem DVRs.length_eq : ∀ {a : List DV} {b : List Value}, DVRs Φ ρ a b → b.length = a.length
  | _, _, .nil => rfl
  | _, _, .cons a b l m h1 h2 => by simp [DVRs.length_eq h2]
theorem DVRs.get : ∀ {a : List DV} {b : List Value}, DVRs Φ ρ a b → ∀ (i : Nat) (v : DV), a[i]? = some v → ∃ v', b[i]? = some v' ∧ DVR Φ ρ v v'
  | _, _, .nil, i, v, h => by simp at h
  | _, _, .cons a b l m h1 h2, 0, v, h => by simp at h; subst h; exact ⟨b, by simp, h1⟩
  | _, _, .cons a b l m h1 h2, i + 1, v, h => by
    obtain ⟨v', e, r⟩ := DVRs.get h2 i v (by simpa using h)
    exact ⟨v', by simpa using e, r⟩
theorem DVRs.append : ∀ {a : List DV} {b : List Value} {c : List DV} {d : List Value}, DVRs Φ ρ a b → DVRs Φ ρ c d → DVRs Φ ρ (a ++ c) (b ++ d)
  | _, _, _, _, .nil, h => h
  | _, _, _, _, .cons a b l m h1 h2, h => .cons _ _ _ _ h1 (DVRs.append h2 h)
theorem DVRs.drop : ∀ {a : List DV} {b : List Value} (n : Nat), DVRs Φ ρ a b → DVRs Φ ρ (a.drop n) (b.drop n)
  | _, _, 0, h => by simpa using h
  | _, _, _ + 1, .nil => by simpa using .nil
  | _, _, n + 1, .cons a b l m h1 h2 => by simpa using DVRs.drop n h2
theorem DVRs.take : ∀ {a : List DV} {b : List Value} (n : Nat), DVRs Φ ρ a b → DVRs Φ ρ (a.take n) (b.take n)
  | _, _, 0, h => by simpa using .nil
  | _, _, _ + 1, .nil => by simpa using .nil
  | _, _, n + 1, .cons a b l m h1 h2 => by simpa using .cons _ _ _ _ h1 (DVRs.take n h2)
theorem DVRs.set : ∀ {a : List DV} {b : List Value} (n : Nat) {v : DV} {v' : Value}, DVRs Φ ρ a b → DVR Φ ρ v v' → DVRs Φ ρ (a.set n v) (b.set n v')
  | _, _, _, _, _, .nil, _ => by simpa using .nil
  | _, _, 0, _, _, .cons a b l m h1 h2, h => by simpa using .cons _ _ _ _ h h2
  | _, _, n + 1, _, _, .cons a b l m h1 h2, h => by simpa using .cons _ _ _ _ h1 (DVRs.set n h2 h)
theorem DVRs.write : ∀ {vs : List DV} {ws : List Value} (a : List DV) (b : List Value) (n : Nat), DVRs Φ ρ vs ws → DVRs Φ ρ a b → DVRs Φ ρ (writeD a n vs) (writeAt b n ws)
  | _, _, _, _, _, .nil, h => h
  | _, _, a, b, n, .cons x y l m h1 h2, h => DVRs.write _ _ (n + 1) h2 (DVRs.set n h h1)
theorem DVRs.repeat {z : List DV} {z' : List Value} (h : DVRs Φ ρ z z') : ∀ n, DVRs Φ ρ (repeatD z n) (repeatL z' n)
  | 0 => .nil
  | n + 1 => h.append (DVRs.repeat h n)
theorem DataRs.length_eq : ∀ {a : List Dat} {b : List Value}, DataRs Φ a b → b.length = a.length
  | _, _, .nil => rfl
  | _, _, .cons a b l m h1 h2 => by simp [DataRs.length_eq h2]
theorem DataRs.up : ∀ {a : List Dat} {b : List Value}, DataRs Φ a b → DVRs Φ ρ (a.map .d) b
  | _, _, .nil => .nil
  | _, _, .cons a b l m h1 h2 => .cons _ _ _ _ (.d _ _ h1) (DataRs.up h2)
theorem DataRs.drop : ∀ {a : List Dat} {b : List Value} (n : Nat), DataRs Φ a b → DataRs Φ (a.drop n) (b.drop n)
  | _, _, 0, h => by simpa using h
  | _, _, _ + 1, .nil => by simpa using .nil
  | _, _, n + 1, .cons a b l m h1 h2 => by simpa using DataRs.drop n h2
theorem DataRs.take : ∀ {a : List Dat} {b : List Value} (n : Nat), DataRs Φ a b → DataRs Φ (a.take n) (b.take n)
  | _, _, 0, h => by simpa using .nil
  | _, _, _ + 1, .nil => by simpa using .nil
  | _, _, n + 1, .cons a b l m h1 h2 => by simpa using .cons _ _ _ _ h1 (DataRs.take n h2)
theorem DVRs.datas : ∀ {a : List DV} {b : List Value} {r : List Dat}, DVRs Φ ρ a b → datasOf a = some r → DataRs Φ r b
  | _, _, r, .nil, h => by simp [datasOf] at h; subst h; exact .nil
  | _, _, r, .cons a b l m h1 h2, h => by
    cases a <;> simp only [datasOf] at h <;> try (cases h)
    rename_i x
    simp only [Option.map_eq_some_iff] at h
    obtain ⟨r', hr, rfl⟩ := h
    cases h1 with
    | d _ _ hd => exact .cons _ _ _ _ hd (DVRs.datas h2 hr)
end lists

/-! Values that bear no address -/
theorem dataR_v {Φ : Phi} {x v : Value} (h : DataR Φ (.v x) v) : v = x ∧ flat x = true := by
  cases h with
  | v _ hf => exact ⟨rfl, hf⟩
theorem dvr_v {Φ : Phi} {ρ : Rn} {x v : Value} (h : DVR Φ ρ (.d (.v x)) v) : v = x ∧ flat x = true := by
  cases h with
  | d _ _ hd => exact dataR_v hd
theorem dvr_dv {Φ : Phi} {ρ : Rn} {x : Value} (h : flat x = true) : DVR Φ ρ (dv x) x := .d _ _ (.v _ h)
theorem dvrs_dv {Φ : Phi} {ρ : Rn} : ∀ (l : List Value), flatL l = true → DVRs Φ ρ (l.map dv) l
  | [], _ => .nil
  | a :: l, h => by simp [flatL] at h; exact .cons _ _ _ _ (dvr_dv h.1) (dvrs_dv l h.2)
theorem dvr_ofV0 {Φ : Phi} {ρ : Rn} (x : Value) (h : flat x = true) : DVR Φ ρ (ofV0 x) x := by
  cases x <;> simp only [ofV0] <;> try (exact dvr_dv h)
  rename_i cs
  obtain ⟨l⟩ := cs
  exact .agg _ _ (dvrs_dv l (by simpa [Abs.flat, flatA] using h))
theorem dvr_ofV {Φ : Phi} {ρ : Rn} (x : Value) (h : flat x = true) : DVR Φ ρ (ofV x) x := by
  cases x <;> simp only [ofV] <;> try (exact dvr_dv h)
  case agg cs =>
    obtain ⟨l⟩ := cs
    exact .agg _ _ (dvrs_dv l (by simpa [Abs.flat, flatA] using h))
  case tuple cs =>
    obtain ⟨l⟩ := cs
    exact .tuple _ _ (dvrs_dv l (by simpa [Abs.flat, flatA] using h))
  case iface t y => exact .iface _ _ _ (dvr_ofV0 y (by simpa [Abs.flat] using h))
  case func fn a c =>
    obtain ⟨a⟩ := a
    obtain ⟨c⟩ := c
    cases fn <;> try (exact dvr_dv h)
    simp [Abs.flat, flatA] at h
    exact .func _ _ _ _ _ (dvrs_dv a h.1) (dvrs_dv c h.2)
theorem cellsV_eq {Φ : Phi} {ρ : Rn} : ∀ {l : List DV} {m : List Value} {c : List Value}, DVRs Φ ρ l m → cellsV l = some c → m = c ∧ flatL m = true
  | _, _, c, .nil, h => by simp [cellsV] at h; subst h; exact ⟨rfl, rfl⟩
  | _, _, c, .cons a b l m h1 h2, h => by
    simp only [cellsV] at h
    split at h
    · rename_i x r ha hr
      injection h with h; subst h
      obtain ⟨e1, e2⟩ := cellsV_eq h2 hr
      unfold cellV at ha
      split at ha
      · rename_i y
        injection ha with ha; subst ha
        obtain ⟨e3, e4⟩ := dvr_v h1
        subst e3; subst e1
        exact ⟨rfl, by simp [flatL, e4, e2]⟩
      · cases ha
    · cases h
theorem toV_eq {Φ : Phi} {ρ : Rn} {x : DV} {v y : Value} (h : DVR Φ ρ x v) (e : toV x = some y) : v = y ∧ flat v = true := by
  unfold toV at e
  split at e
  · injection e with e; subst e
    obtain ⟨h1, h2⟩ := dvr_v h
    subst h1; exact ⟨rfl, h2⟩
  · simp only [Option.map_eq_some_iff] at e
    obtain ⟨c, hc, rfl⟩ := e
    cases h with
    | agg _ l' hs =>
      obtain ⟨h1, h2⟩ := cellsV_eq hs hc
      subst h1; exact ⟨rfl, by simpa [Abs.flat, flatA] using h2⟩
  · injection e with e; subst e
    cases h with
    | iface _ _ w hw =>
      obtain ⟨h1, h2⟩ := dvr_v hw
      subst h1; exact ⟨rfl, by simpa [Abs.flat] using h2⟩
  · simp only [Option.map_eq_some_iff] at e
    obtain ⟨c, hc, rfl⟩ := e
    cases h with
    | iface _ _ w hw =>
      cases hw with
      | agg _ l' hs =>
        obtain ⟨h1, h2⟩ := cellsV_eq hs hc
        subst h1; exact ⟨rfl, by simpa [Abs.flat, flatA] using h2⟩
  · split at e
    · rename_i x y hx hy
      injection e with e; subst e
      cases h with
      | func _ _ _ a' c' h1 h2 =>
        obtain ⟨e1, e2⟩ := cellsV_eq h1 hx
        obtain ⟨e3, e4⟩ := cellsV_eq h2 hy
        subst e1; subst e3
        exact ⟨rfl, by simp [Abs.flat, flatA, e2, e4]⟩
    · cases e
  · cases e
theorem toVs_eq {Φ : Phi} {ρ : Rn} : ∀ {l : List DV} {m c : List Value}, DVRs Φ ρ l m → toVs l = some c → m = c ∧ m.all flat = true
  | _, _, c, .nil, h => by simp [toVs] at h; subst h; exact ⟨rfl, rfl⟩
  | _, _, c, .cons a b l m h1 h2, h => by
    simp only [toVs] at h
    split at h
    · rename_i x r ha hr
      injection h with h; subst h
      obtain ⟨e1, e2⟩ := toVs_eq h2 hr
      obtain ⟨e3, e4⟩ := toV_eq h1 ha
      subst e3; subst e1
      exact ⟨rfl, by simp [e4, e2]⟩
    · cases h
theorem dvr_zD {Φ : Phi} {ρ : Rn} {z : Value} (h : flat z = true) : DVRs Φ ρ (zD z) z.cells.toList := by
  unfold zD
  refine dvrs_dv _ ?_
  cases z <;> simp only [Value.cells] <;> first
    | (rename_i x; obtain ⟨l⟩ := x; simpa [Abs.flat, flatA] using h)
    | simp [flatL, h]
theorem dvr_undef {Φ : Phi} {ρ : Rn} : DVR Φ ρ undefD undefV := .tuple _ _ .nil
theorem dvr_scal {Φ : Phi} {ρ : Rn} {x : DV} {v : Value} (h : DVR Φ ρ x v) (hs : vscal x = true) : scal v = true := by
  cases h <;> try rfl
  case d x hd =>
    cases hd with
    | v _ hf => simpa [vscal] using hs
    | nil => rfl
    | cut => rfl
    | rows => rfl
  all_goals (simp [vscal] at hs)
theorem dvrs_scal {Φ : Phi} {ρ : Rn} : ∀ {l : List DV} {m : List Value}, DVRs Φ ρ l m → l.all vscal = true → m.all scal = true
  | _, _, .nil, _ => rfl
  | _, _, .cons a b l m h1 h2, h => by
    simp at h
    have := dvrs_scal h2 (by simpa using h.2)
    simp [dvr_scal h1 h.1]; simpa using this
/-- A value's cells: a struct's, or itself. -/
theorem dvr_cells {Φ : Phi} {ρ : Rn} {x : DV} {v : Value} (h : DVR Φ ρ x v) : DVRs Φ ρ (vcells x) v.cells.toList := by
  cases h with
  | agg l l' hl => exact hl
  | d x w hd =>
    cases hd with
    | v y hf => exact dvr_zD hf
    | nil => exact .cons _ _ _ _ (.d _ _ .nil) .nil
    | cut => exact .cons _ _ _ _ (.d _ _ .cut) .nil
    | rows l i off cap sz cs m h1 h2 h3 h4 h5 h6 => exact .cons _ _ _ _ (.d _ _ (.rows l i off cap sz cs m h1 h2 h3 h4 h5 h6)) .nil
  | fptr row off i o cs m h1 h2 h3 => exact .cons _ _ _ _ (.fptr row off i o cs m h1 h2 h3) .nil
  | ptr id g off i h1 => exact .cons _ _ _ _ (.ptr id g off i h1) .nil
  | ptrOld id g off g' i j o h1 h2 => exact .cons _ _ _ _ (.ptrOld id g off g' i j o h1 h2) .nil
  | slc id g off n cap sz i h1 h2 => exact .cons _ _ _ _ (.slc id g off n cap sz i h1 h2) .nil
  | slcOld id g off n cap sz g' i j o h1 h2 => exact .cons _ _ _ _ (.slcOld id g off n cap sz g' i j o h1 h2) .nil
  | map id i h1 => exact .cons _ _ _ _ (.map id i h1) .nil
  | mapOld id g i j h1 h2 => exact .cons _ _ _ _ (.mapOld id g i j h1 h2) .nil
  | fmap es i es' h1 h2 => exact .cons _ _ _ _ (.fmap es i es' h1 h2) .nil
  | func f a c a' c' h1 h2 => exact .cons _ _ _ _ (.func f a c a' c' h1 h2) .nil
  | iface t x v h1 => exact .cons _ _ _ _ (.iface t x v h1) .nil
  | tuple l l' h1 => exact .cons _ _ _ _ (.tuple l l' h1) .nil
end Go.Abs
/- The machine of values: its blocks beside the abstract machine's heap; what a step leaves as it was. -/
namespace Go.Abs
open Go Go.RowKit
set_option linter.unusedVariables false
set_option linter.unusedSimpArgs false

structure VInv (Φ : Phi) (ρ : Rn) (V : VHeap) (H : Heap) : Prop where
  dom : ∀ id g i, ρ id = some (g, i) → id < V.length ∧ i < H.n
  inj : ∀ id id' g g' i, ρ id = some (g, i) → ρ id' = some (g', i) → id = id'
  cells : ∀ id c m lk g ver, V[id]? = some (.cells c m lk g ver) → ∃ i cs, ρ id = some (g, i) ∧ H.get i = some (.cells cs m) ∧ DVRs Φ ρ c cs ∧ (lk = true → Φ i = some (.cells cs m)) ∧ (lk = false → Φ i = none)
  maps : ∀ id es ver, V[id]? = some (.map es ver) → ∃ i es', ρ id = some (0, i) ∧ H.get i = some (.map es') ∧ DMR Φ ρ es es' ∧ Φ i = none
  phi : ∀ i b, Φ i = some b → H.get i = some b

structure Tr (Φ : Phi) (ρ : Rn) (V : VHeap) (H : Heap) (Φ' : Phi) (ρ' : Rn) (V' : VHeap) (H' : Heap) : Prop where
  len : V.length ≤ V'.length
  hn : H.n ≤ H'.n
  phi : PLe Φ Φ'
  rho : RLe ρ ρ'
  ver : ∀ id v, verOf V id = some v → ∃ v', verOf V' id = some v' ∧ v ≤ v' ∧ (v' = v → ∀ g i, ρ id = some (g, i) → ρ' id = some (g, i) ∧ H'.get i = H.get i)

theorem Tr.refl (Φ : Phi) (ρ : Rn) (V : VHeap) (H : Heap) : Tr Φ ρ V H Φ ρ V H :=
  ⟨Nat.le_refl _, Nat.le_refl _, PLe.refl _, RLe.refl _, fun id v h => ⟨v, h, Nat.le_refl _, fun _ g i e => ⟨e, rfl⟩⟩⟩
theorem Tr.trans {Φ1 Φ2 Φ3 : Phi} {ρ1 ρ2 ρ3 : Rn} {V1 V2 V3 : VHeap} {H1 H2 H3 : Heap} (a : Tr Φ1 ρ1 V1 H1 Φ2 ρ2 V2 H2) (b : Tr Φ2 ρ2 V2 H2 Φ3 ρ3 V3 H3) : Tr Φ1 ρ1 V1 H1 Φ3 ρ3 V3 H3 := by
  refine ⟨Nat.le_trans a.len b.len, Nat.le_trans a.hn b.hn, a.phi.trans b.phi, a.rho.trans b.rho, fun id v h => ?_⟩
  obtain ⟨v2, h2, l2, k2⟩ := a.ver id v h
  obtain ⟨v3, h3, l3, k3⟩ := b.ver id v2 h2
  refine ⟨v3, h3, by omega, fun e g i hi => ?_⟩
  obtain ⟨e1, e2⟩ := k2 (by omega) g i hi
  obtain ⟨e3, e4⟩ := k3 (by omega) g i e1
  exact ⟨e3, e4.trans e2⟩

theorem verOf_set {V : VHeap} {id j : Nat} {b : VBlk} : verOf (V.set id b) j = if id = j then (V[j]?).map (fun _ => b.ver) else verOf V j := by
  unfold verOf
  by_cases h : id = j
  · subst h
    rw [if_pos rfl, List.getElem?_set]
    by_cases hl : id < V.length
    · simp [hl]
    · simp [hl]
  · rw [if_neg h, List.getElem?_set_ne h]
theorem verOf_push {V : VHeap} {j : Nat} {b : VBlk} (h : j < V.length) : verOf (V ++ [b]) j = verOf V j := by
  unfold verOf; rw [List.getElem?_append_left h]
theorem verOf_lt {V : VHeap} {j v : Nat} (h : verOf V j = some v) : j < V.length := by
  unfold verOf at h
  rcases Nat.lt_or_ge j V.length with h1 | h1
  · exact h1
  · rw [List.getElem?_eq_none h1] at h; cases h

def Rn.upd (ρ : Rn) (n : Nat) (x : Nat × Nat) : Rn := fun i => if i = n then some x else ρ i
theorem Rn.upd_same (ρ : Rn) (n : Nat) (x : Nat × Nat) : ρ.upd n x n = some x := by simp [Rn.upd]
theorem Rn.upd_ne (ρ : Rn) {n i : Nat} (x : Nat × Nat) (h : i ≠ n) : ρ.upd n x i = ρ i := by simp [Rn.upd, h]

section
variable {Φ : Phi} {ρ : Rn} {V : VHeap} {H : Heap}
theorem VInv.fresh (inv : VInv Φ ρ V H) : ρ V.length = none := by
  cases h : ρ V.length with
  | none => rfl
  | some x => obtain ⟨g, i⟩ := x; have := (inv.dom _ _ _ h).1; omega
theorem VInv.phi_none (inv : VInv Φ ρ V H) {i : Nat} (h : H.n ≤ i) : Φ i = none := by
  cases e : Φ i with
  | none => rfl
  | some b => have := Heap.get_lt (inv.phi i b e); omega
theorem RLe.upd_new (h : ρ V.length = none) (x : Nat × Nat) : RLe ρ (ρ.upd V.length x) := fun id g i e => ⟨g, i, by rw [Rn.upd_ne _ _ (by intro e'; subst e'; rw [h] at e; cases e)]; exact e, .inr ⟨rfl, rfl⟩⟩

/-- A new block of cells. -/
theorem VInv.push (inv : VInv Φ ρ V H) {c : List DV} {cs : List Value} {m : Md} (hc : DVRs Φ ρ c cs) :
    VInv Φ (ρ.upd V.length (0, H.n)) (V ++ [.cells c m false 0 0]) (H.push (.cells cs m)) ∧ Tr Φ ρ V H Φ (ρ.upd V.length (0, H.n)) (V ++ [.cells c m false 0 0]) (H.push (.cells cs m)) := by
  have hno := inv.fresh
  have rle : RLe ρ (ρ.upd V.length (0, H.n)) := RLe.upd_new hno _
  have old : ∀ id g i, ρ.upd V.length (0, H.n) id = some (g, i) → (id = V.length ∧ g = 0 ∧ i = H.n) ∨ (id < V.length ∧ ρ id = some (g, i)) := by
    intro id g i e
    by_cases h : id = V.length
    · subst h; rw [Rn.upd_same] at e; injection e with e; injection e with e1 e2; exact .inl ⟨rfl, e1.symm, e2.symm⟩
    · rw [Rn.upd_ne _ _ h] at e; exact .inr ⟨(inv.dom _ _ _ e).1, e⟩
  have gold : ∀ i, i < H.n → (H.push (.cells cs m)).get i = H.get i := fun i h => by rw [Heap.get_push, if_neg (by omega)]
  refine ⟨⟨?_, ?_, ?_, ?_, ?_⟩, ⟨by simp, by simp, PLe.refl _, rle, ?_⟩⟩
  · intro id g i e
    rcases old id g i e with ⟨rfl, rfl, rfl⟩ | ⟨h1, h2⟩
    · simp
    · have := inv.dom _ _ _ h2; simp; omega
  · intro id id' g g' i e e'
    rcases old id g i e with ⟨rfl, rfl, rfl⟩ | ⟨h1, h2⟩ <;> rcases old id' g' _ e' with ⟨h3, h4, h5⟩ | ⟨h3, h4⟩
    · exact h3.symm
    · have := (inv.dom _ _ _ h4).2; omega
    · subst h5; have := (inv.dom _ _ _ h2).2; omega
    · exact inv.inj _ _ _ _ _ h2 h4
  · intro id c1 m1 lk g ver e
    by_cases h : id < V.length
    · rw [List.getElem?_append_left h] at e
      obtain ⟨i, cs1, h1, h2, h3, h4, h5⟩ := inv.cells id c1 m1 lk g ver e
      have := (inv.dom _ _ _ h1).2
      exact ⟨i, cs1, by rw [Rn.upd_ne _ _ (by omega)]; exact h1, by rw [gold i this]; exact h2, h3.mono (PLe.refl _) rle, h4, h5⟩
    · rw [List.getElem?_append_right (by omega)] at e
      have : id = V.length := by
        rcases Nat.eq_or_lt_of_le (Nat.le_of_not_lt h) with h' | h'
        · exact h'.symm
        · rw [List.getElem?_eq_none (by simp; omega)] at e; cases e
      subst this
      simp at e
      obtain ⟨rfl, rfl, rfl, rfl, rfl⟩ := e
      exact ⟨H.n, cs, Rn.upd_same _ _ _, get_push_self _ _, hc.mono (PLe.refl _) rle, (fun h => nomatch h), fun _ => inv.phi_none (Nat.le_refl _)⟩
  · intro id es ver e
    by_cases h : id < V.length
    · rw [List.getElem?_append_left h] at e
      obtain ⟨i, es1, h1, h2, h3, h4⟩ := inv.maps id es ver e
      have := (inv.dom _ _ _ h1).2
      exact ⟨i, es1, by rw [Rn.upd_ne _ _ (by omega)]; exact h1, by rw [gold i this]; exact h2, h3.mono (PLe.refl _) rle, h4⟩
    · rw [List.getElem?_append_right (by omega)] at e
      rcases Nat.eq_or_lt_of_le (Nat.le_of_not_lt h) with h' | h'
      · subst h'; simp at e
      · rw [List.getElem?_eq_none (by simp; omega)] at e; cases e
  · intro i b e
    have := inv.phi i b e
    rw [gold i (Heap.get_lt this)]; exact this
  · intro id v h
    have hl := verOf_lt h
    refine ⟨v, by rw [verOf_push hl]; exact h, Nat.le_refl _, fun _ g i e => ⟨by rw [Rn.upd_ne _ _ (by omega)]; exact e, gold i (inv.dom _ _ _ e).2⟩⟩

/-- A new map. -/
theorem VInv.pushMap (inv : VInv Φ ρ V H) :
    VInv Φ (ρ.upd V.length (0, H.n)) (V ++ [.map [] 0]) (H.push (.map [])) ∧ Tr Φ ρ V H Φ (ρ.upd V.length (0, H.n)) (V ++ [.map [] 0]) (H.push (.map [])) := by
  have hno := inv.fresh
  have rle : RLe ρ (ρ.upd V.length (0, H.n)) := RLe.upd_new hno _
  have old : ∀ id g i, ρ.upd V.length (0, H.n) id = some (g, i) → (id = V.length ∧ g = 0 ∧ i = H.n) ∨ (id < V.length ∧ ρ id = some (g, i)) := by
    intro id g i e
    by_cases h : id = V.length
    · subst h; rw [Rn.upd_same] at e; injection e with e; injection e with e1 e2; exact .inl ⟨rfl, e1.symm, e2.symm⟩
    · rw [Rn.upd_ne _ _ h] at e; exact .inr ⟨(inv.dom _ _ _ e).1, e⟩
  have gold : ∀ i, i < H.n → (H.push (.map [])).get i = H.get i := fun i h => by rw [Heap.get_push, if_neg (by omega)]
  refine ⟨⟨?_, ?_, ?_, ?_, ?_⟩, ⟨by simp, by simp, PLe.refl _, rle, ?_⟩⟩
  · intro id g i e
    rcases old id g i e with ⟨rfl, rfl, rfl⟩ | ⟨h1, h2⟩
    · simp
    · have := inv.dom _ _ _ h2; simp; omega
  · intro id id' g g' i e e'
    rcases old id g i e with ⟨rfl, rfl, rfl⟩ | ⟨h1, h2⟩ <;> rcases old id' g' _ e' with ⟨h3, h4, h5⟩ | ⟨h3, h4⟩
    · exact h3.symm
    · have := (inv.dom _ _ _ h4).2; omega
    · subst h5; have := (inv.dom _ _ _ h2).2; omega
    · exact inv.inj _ _ _ _ _ h2 h4
  · intro id c1 m1 lk g ver e
    by_cases h : id < V.length
    · rw [List.getElem?_append_left h] at e
      obtain ⟨i, cs1, h1, h2, h3, h4, h5⟩ := inv.cells id c1 m1 lk g ver e
      have := (inv.dom _ _ _ h1).2
      exact ⟨i, cs1, by rw [Rn.upd_ne _ _ (by omega)]; exact h1, by rw [gold i this]; exact h2, h3.mono (PLe.refl _) rle, h4, h5⟩
    · rw [List.getElem?_append_right (by omega)] at e
      rcases Nat.eq_or_lt_of_le (Nat.le_of_not_lt h) with h' | h'
      · subst h'; simp at e
      · rw [List.getElem?_eq_none (by simp; omega)] at e; cases e
  · intro id es ver e
    by_cases h : id < V.length
    · rw [List.getElem?_append_left h] at e
      obtain ⟨i, es1, h1, h2, h3, h4⟩ := inv.maps id es ver e
      have := (inv.dom _ _ _ h1).2
      exact ⟨i, es1, by rw [Rn.upd_ne _ _ (by omega)]; exact h1, by rw [gold i this]; exact h2, h3.mono (PLe.refl _) rle, h4⟩
    · rw [List.getElem?_append_right (by omega)] at e
      rcases Nat.eq_or_lt_of_le (Nat.le_of_not_lt h) with h' | h'
      · subst h'
        simp at e
        obtain ⟨rfl, rfl⟩ := e
        exact ⟨H.n, [], Rn.upd_same _ _ _, get_push_self _ _, .nil, inv.phi_none (Nat.le_refl _)⟩
      · rw [List.getElem?_eq_none (by simp; omega)] at e; cases e
  · intro i b e
    have := inv.phi i b e
    rw [gold i (Heap.get_lt this)]; exact this
  · intro id v h
    have hl := verOf_lt h
    refine ⟨v, by rw [verOf_push hl]; exact h, Nat.le_refl _, fun _ g i e => ⟨by rw [Rn.upd_ne _ _ (by omega)]; exact e, gold i (inv.dom _ _ _ e).2⟩⟩

theorem getElem?_set_cases {V : VHeap} {id j : Nat} {b x : VBlk} (h : (V.set id b)[j]? = some x) : (j = id ∧ x = b) ∨ (j ≠ id ∧ V[j]? = some x) := by
  by_cases e : id = j
  · subst e
    rw [List.getElem?_set] at h
    simp only [if_true] at h
    split at h
    · injection h with h; exact .inl ⟨rfl, h.symm⟩
    · cases h
  · rw [List.getElem?_set_ne e] at h; exact .inr ⟨fun h => e h.symm, h⟩

/-- Cells written. -/
theorem VInv.write (inv : VInv Φ ρ V H) {id g ver : Nat} {c c' : List DV} {m : Md} (hb : V[id]? = some (.cells c m false g ver)) {i : Nat} {cs' : List Value} (hi : ρ id = some (g, i)) (hc : DVRs Φ ρ c' cs') :
    VInv Φ ρ (V.set id (.cells c' m false g (ver + 1))) (H.set i (.cells cs' m)) ∧ Tr Φ ρ V H Φ ρ (V.set id (.cells c' m false g (ver + 1))) (H.set i (.cells cs' m)) := by
  obtain ⟨i0, cs0, h1, h2, h3, h4, h5⟩ := inv.cells _ _ _ _ _ _ hb
  rw [hi] at h1; injection h1 with h1; injection h1 with _ h1; subst h1
  have hphi : Φ i = none := h5 rfl
  have other : ∀ j, j ≠ i → (H.set i (.cells cs' m)).get j = H.get j := fun j h => get_set_other _ _ h
  refine ⟨⟨?_, inv.inj, ?_, ?_, ?_⟩, ⟨by simp, by simp, PLe.refl _, RLe.refl _, ?_⟩⟩
  · intro j g j' e; have := inv.dom _ _ _ e; simpa using this
  · intro j c1 m1 lk g1 v1 e
    replace e := getElem?_set_cases e; rcases e with ⟨rfl, e⟩ | ⟨hne, e⟩
    · injection e with e1 e2 e3 e4 e5
      subst e1; subst e2; subst e3; subst e4
      exact ⟨i, cs', hi, get_set_self h2, hc, (fun h => nomatch h), fun _ => hphi⟩
    · obtain ⟨i1, cs1, k1, k2, k3, k4, k5⟩ := inv.cells _ _ _ _ _ _ e
      refine ⟨i1, cs1, k1, ?_, k3, k4, k5⟩
      rw [other _ (fun h => by subst h; exact hne (inv.inj _ _ _ _ _ k1 hi))]; exact k2
  · intro j es v1 e
    replace e := getElem?_set_cases e; rcases e with ⟨rfl, e⟩ | ⟨hne, e⟩
    · cases e
    · obtain ⟨i1, es1, k1, k2, k3, k4⟩ := inv.maps _ _ _ e
      refine ⟨i1, es1, k1, ?_, k3, k4⟩
      rw [other _ (fun h => by subst h; exact hne (inv.inj _ _ _ _ _ k1 hi))]; exact k2
  · intro j b e
    rw [other j (fun h => by subst h; rw [hphi] at e; cases e)]; exact inv.phi j b e
  · intro j v h
    by_cases e : id = j
    · subst e
      refine ⟨ver + 1, by rw [verOf_set, if_pos rfl, hb]; rfl, ?_, fun e => ?_⟩
      · unfold verOf at h; rw [hb] at h; simp [VBlk.ver] at h; omega
      · unfold verOf at h; rw [hb] at h; simp [VBlk.ver] at h; omega
    · refine ⟨v, by rw [verOf_set, if_neg e]; exact h, Nat.le_refl _, fun _ g1 i1 e1 => ⟨e1, other _ (fun h => by subst h; exact e (inv.inj _ _ _ _ _ hi e1))⟩⟩

/-- A map written. -/
theorem VInv.writeMap (inv : VInv Φ ρ V H) {id ver : Nat} {es es' : List (Value × DV)} (hb : V[id]? = some (.map es ver)) {i : Nat} {fs : List (Value × Value)} (hi : ρ id = some (0, i)) (hc : DMR Φ ρ es' fs) :
    VInv Φ ρ (V.set id (.map es' (ver + 1))) (H.set i (.map fs)) ∧ Tr Φ ρ V H Φ ρ (V.set id (.map es' (ver + 1))) (H.set i (.map fs)) := by
  obtain ⟨i0, es0, h1, h2, h3, hphi⟩ := inv.maps _ _ _ hb
  rw [hi] at h1; injection h1 with h1; injection h1 with _ h1; subst h1
  have other : ∀ j, j ≠ i → (H.set i (.map fs)).get j = H.get j := fun j h => get_set_other _ _ h
  refine ⟨⟨?_, inv.inj, ?_, ?_, ?_⟩, ⟨by simp, by simp, PLe.refl _, RLe.refl _, ?_⟩⟩
  · intro j g j' e; have := inv.dom _ _ _ e; simpa using this
  · intro j c1 m1 lk g1 v1 e
    replace e := getElem?_set_cases e; rcases e with ⟨rfl, e⟩ | ⟨hne, e⟩
    · cases e
    · obtain ⟨i1, cs1, k1, k2, k3, k4, k5⟩ := inv.cells _ _ _ _ _ _ e
      refine ⟨i1, cs1, k1, ?_, k3, k4, k5⟩
      rw [other _ (fun h => by subst h; exact hne (inv.inj _ _ _ _ _ k1 hi))]; exact k2
  · intro j es1 v1 e
    replace e := getElem?_set_cases e; rcases e with ⟨rfl, e⟩ | ⟨hne, e⟩
    · injection e with e1 e2; subst e1
      exact ⟨i, fs, hi, get_set_self h2, hc, hphi⟩
    · obtain ⟨i1, es1, k1, k2, k3, k4⟩ := inv.maps _ _ _ e
      refine ⟨i1, es1, k1, ?_, k3, k4⟩
      rw [other _ (fun h => by subst h; exact hne (inv.inj _ _ _ _ _ k1 hi))]; exact k2
  · intro j b e
    rw [other j (fun h => by subst h; rw [hphi] at e; cases e)]; exact inv.phi j b e
  · intro j v h
    by_cases e : id = j
    · subst e
      refine ⟨ver + 1, by rw [verOf_set, if_pos rfl, hb]; rfl, ?_, fun e => ?_⟩
      · unfold verOf at h; rw [hb] at h; simp [VBlk.ver] at h; omega
      · unfold verOf at h; rw [hb] at h; simp [VBlk.ver] at h; omega
    · refine ⟨v, by rw [verOf_set, if_neg e]; exact h, Nat.le_refl _, fun _ g1 i1 e1 => ⟨e1, other _ (fun h => by subst h; exact e (inv.inj _ _ _ _ _ hi e1))⟩⟩

/-- A row grown: the elder one is gone. -/
theorem VInv.regrow (inv : VInv Φ ρ V H) {id g ver : Nat} {c c' : List DV} {m m' : Md} (hb : V[id]? = some (.cells c m false g ver)) {i : Nat} {cs' : List Value} (hi : ρ id = some (g, i)) (hc : DVRs Φ ρ c' cs') :
    VInv Φ (ρ.upd id (g + 1, H.n)) (V.set id (.cells c' m' false (g + 1) (ver + 1))) ((H.set i .dead).push (.cells cs' m')) ∧ Tr Φ ρ V H Φ (ρ.upd id (g + 1, H.n)) (V.set id (.cells c' m' false (g + 1) (ver + 1))) ((H.set i .dead).push (.cells cs' m')) := by
  obtain ⟨i0, cs0, h1, h2, h3, h4, h5⟩ := inv.cells _ _ _ _ _ _ hb
  rw [hi] at h1; injection h1 with h1; injection h1 with _ h1; subst h1
  have hphi : Φ i = none := h5 rfl
  have hin := (inv.dom _ _ _ hi).2
  have rle : RLe ρ (ρ.upd id (g + 1, H.n)) := by
    intro j g1 i1 e
    by_cases h : j = id
    · subst h
      rw [hi] at e; injection e with e; injection e with e1 e2; subst e1
      exact ⟨g + 1, H.n, Rn.upd_same _ _ _, .inl (by omega)⟩
    · exact ⟨g1, i1, by rw [Rn.upd_ne _ _ h]; exact e, .inr ⟨rfl, rfl⟩⟩
  have other : ∀ j, j ≠ i → j < H.n → ((H.set i .dead).push (.cells cs' m')).get j = H.get j := fun j h hj => by
    rw [Heap.get_push, if_neg (by simp; omega)]; exact get_set_other _ _ h
  have new : ((H.set i .dead).push (.cells cs' m')).get H.n = some (.cells cs' m') := by
    have := get_push_self (H.set i .dead) (.cells cs' m')
    simpa using this
  refine ⟨⟨?_, ?_, ?_, ?_, ?_⟩, ⟨by simp, by simp, PLe.refl _, rle, ?_⟩⟩
  · intro j g1 i1 e
    by_cases h : j = id
    · subst h
      rw [Rn.upd_same] at e; injection e with e; injection e with e1 e2; subst e2
      exact ⟨by simpa using (inv.dom _ _ _ hi).1, by simp⟩
    · rw [Rn.upd_ne _ _ h] at e; have := inv.dom _ _ _ e; simp; omega
  · intro j j' g1 g1' i1 e e'
    by_cases h : j = id <;> by_cases h' : j' = id
    · rw [h, h']
    · subst h
      rw [Rn.upd_same] at e; injection e with e; injection e with e1 e2; subst e2
      rw [Rn.upd_ne _ _ h'] at e'; have := (inv.dom _ _ _ e').2; omega
    · subst h'
      rw [Rn.upd_same] at e'; injection e' with e'; injection e' with e1 e2; subst e2
      rw [Rn.upd_ne _ _ h] at e; have := (inv.dom _ _ _ e).2; omega
    · rw [Rn.upd_ne _ _ h] at e; rw [Rn.upd_ne _ _ h'] at e'; exact inv.inj _ _ _ _ _ e e'
  · intro j c1 m1 lk g1 v1 e
    replace e := getElem?_set_cases e; rcases e with ⟨rfl, e⟩ | ⟨hne, e⟩
    · injection e with e1 e2 e3 e4 e5
      subst e1; subst e2; subst e3; subst e4
      exact ⟨H.n, cs', Rn.upd_same _ _ _, new, hc.mono (PLe.refl _) rle, (fun h => nomatch h), fun _ => inv.phi_none (Nat.le_refl _)⟩
    · obtain ⟨i1, cs1, k1, k2, k3, k4, k5⟩ := inv.cells _ _ _ _ _ _ e
      refine ⟨i1, cs1, by rw [Rn.upd_ne _ _ hne]; exact k1, ?_, k3.mono (PLe.refl _) rle, k4, k5⟩
      rw [other _ (fun h => by subst h; exact hne (inv.inj _ _ _ _ _ k1 hi)) (inv.dom _ _ _ k1).2]; exact k2
  · intro j es v1 e
    replace e := getElem?_set_cases e; rcases e with ⟨rfl, e⟩ | ⟨hne, e⟩
    · cases e
    · obtain ⟨i1, es1, k1, k2, k3, k4⟩ := inv.maps _ _ _ e
      refine ⟨i1, es1, by rw [Rn.upd_ne _ _ hne]; exact k1, ?_, k3.mono (PLe.refl _) rle, k4⟩
      rw [other _ (fun h => by subst h; exact hne (inv.inj _ _ _ _ _ k1 hi)) (inv.dom _ _ _ k1).2]; exact k2
  · intro j b e
    have := inv.phi j b e
    rw [other j (fun h => by subst h; rw [hphi] at e; cases e) (Heap.get_lt this)]; exact this
  · intro j v h
    by_cases e : id = j
    · subst e
      refine ⟨ver + 1, by rw [verOf_set, if_pos rfl, hb]; rfl, ?_, fun e => ?_⟩
      · unfold verOf at h; rw [hb] at h; simp [VBlk.ver] at h; omega
      · unfold verOf at h; rw [hb] at h; simp [VBlk.ver] at h; omega
    · refine ⟨v, by rw [verOf_set, if_neg e]; exact h, Nat.le_refl _, fun _ g1 i1 e1 => ⟨by rw [Rn.upd_ne _ _ (Ne.symm e)]; exact e1, other _ (fun h => by subst h; exact e (inv.inj _ _ _ _ _ hi e1)) (inv.dom _ _ _ e1).2⟩⟩
end
end Go.Abs
/- The machine of values: what reads, beside the abstract machine. -/
namespace Go.Abs
open Go Go.RowKit
set_option linter.unusedVariables false
set_option linter.unusedSimpArgs false

section
variable {P : Program} {Φ : Phi} {ρ : Rn} {V : VHeap} {H : Heap}

theorem part_vsim {t : TypeId} {size off : Nat} {cs : List DV} {vs : List Value} {x : DV} (h : DVRs Φ ρ cs vs) (e : partD P t size cs off = some x) : ∃ v, partV P t size vs off = some v ∧ DVR Φ ρ x v := by
  unfold partD at e
  unfold partV
  split at e
  · rename_i ht; injection e with e; subst e
    exact ⟨_, by rw [ht], .agg _ _ ((h.drop off).take size)⟩
  · rename_i ht
    obtain ⟨v, h1, h2⟩ := h.get off x e
    exact ⟨v, by rw [ht]; exact h1, h2⟩
  · cases e
theorem loadC_vsim {t : TypeId} {off : Nat} {cs : List DV} {vs : List Value} {x : DV} (h : DVRs Φ ρ cs vs) (e : vloadC P t cs off = some x) : ∃ v, loadC P t vs off = some v ∧ DVR Φ ρ x v := by
  unfold vloadC at e
  unfold loadC
  split at e
  · rename_i ht hn
    split at e
    · rename_i hl
      injection e with e; subst e
      refine ⟨_, by simp only [ht, hn]; rw [if_pos (by rw [h.length_eq]; exact hl)], .agg _ _ ((h.drop off).take _)⟩
    · cases e
  · rename_i ht
    obtain ⟨v, h1, h2⟩ := h.get off x e
    exact ⟨v, by simp only [ht]; exact h1, h2⟩
  · cases e
theorem cellsOf_some {id g : Nat} {c : List DV} (inv : VInv Φ ρ V H) (e : cellsOf V id g = some c) : ∃ i cs m lk ver, V[id]? = some (.cells c m lk g ver) ∧ ρ id = some (g, i) ∧ H.get i = some (.cells cs m) ∧ DVRs Φ ρ c cs := by
  unfold cellsOf at e
  split at e
  · rename_i c' m lk g' ver hb
    split at e
    · rename_i hg; injection e with e; subst e; subst hg
      obtain ⟨i, cs, h1, h2, h3, _⟩ := inv.cells _ _ _ _ _ _ hb
      exact ⟨i, cs, m, lk, ver, hb, h1, h2, h3⟩
    · cases e
  · cases e
/-- A pointer to a present row. -/
theorem dvr_ptr {id g off i : Nat} {v : Value} (hi : ρ id = some (g, i)) (h : DVR Φ ρ (.ptr id g off) v) : v = ptr i off := by
  cases h with
  | ptr _ _ _ j hj => rw [hi] at hj; injection hj with hj; injection hj with _ hj; subst hj; rfl
  | ptrOld _ _ _ g' j k o hj hg => rw [hi] at hj; injection hj with hj; injection hj with hj _; omega
theorem dvr_slc {id g off n cap sz i : Nat} {v : Value} (hi : ρ id = some (g, i)) (h : DVR Φ ρ (.slc id g off n cap sz) v) : v = slc i off n cap ∧ n ≤ cap := by
  cases h with
  | slc _ _ _ _ _ _ j hj hn => rw [hi] at hj; injection hj with hj; injection hj with _ hj; subst hj; exact ⟨rfl, hn⟩
  | slcOld _ _ _ _ _ _ g' j k o hj hg => rw [hi] at hj; injection hj with hj; injection hj with hj _; omega
theorem take_drop_take {α : Type} (l : List α) (o n off k : Nat) (h : off + k ≤ n) : (((l.drop o).take n).drop off).take k = (l.drop (o + off)).take k := by
  rw [List.drop_take, List.drop_drop, List.take_take, Nat.min_eq_left (by omega)]
theorem load_vsim (inv : VInv Φ ρ V H) {t : TypeId} {a x : DV} {a' : Value} (ha : DVR Φ ρ a a') (e : vload P t a V = some x) : ∃ v, aload P t a' H = some v ∧ DVR Φ ρ x v := by
  cases a <;> simp only [vload] at e <;> try (cases e)
  case fptr row off =>
    cases ha with
    | fptr _ _ i o cs m h1 h2 h3 =>
      have hg := inv.phi _ _ h1
      obtain ⟨v, k1, k2⟩ := loadC_vsim (ρ := ρ) (P := P) (h3.up) e
      refine ⟨v, ?_, k2⟩
      show aload P t (ptr i (o + off)) H = _
      rw [aload_ptr hg, ← k1]
      have hx := e
      unfold vloadC at hx
      unfold loadC
      split at hx
      · rename_i ht hn
        split at hx
        · rename_i hl
          simp only [List.length_map] at hl
          simp only [ht, hn]
          rw [if_pos (by omega), if_pos (by simp; omega), take_drop_take _ _ _ _ _ hl]
        · cases hx
      · rename_i ht
        simp only [ht]
        have hl : off < row.length := by
          rcases Nat.lt_or_ge off (row.map DV.d).length with h' | h'
          · simpa using h'
          · rw [List.getElem?_eq_none h'] at hx; cases hx
        rw [List.getElem?_take, if_pos hl, List.getElem?_drop]
      · cases hx
  case ptr id g off =>
    simp only [Option.bind_eq_some_iff] at e
    obtain ⟨c, hc, e⟩ := e
    obtain ⟨i, cs, m, lk, ver, h1, h2, h3, h4⟩ := cellsOf_some inv hc
    have := dvr_ptr h2 ha
    subst this
    rw [aload_ptr h3]
    exact loadC_vsim h4 e

theorem fill_vsim (place : Nat → Option (Nat × Nat)) : ∀ (ps : List (Nat × DV)) (qs : List (Nat × Value)) (as : List DV) (bs : List Value) (out : List DV), fillD place as ps = some out → DVRs Φ ρ as bs → ps.map (·.1) = qs.map (·.1) → DVRs Φ ρ (ps.map (·.2)) (qs.map (·.2)) →
    ∃ out', fillL place bs qs = some out' ∧ DVRs Φ ρ out out' := by
  intro ps
  induction ps with
  | nil =>
    intro qs as bs out h hr h1 h2
    cases qs with
    | nil => simp only [fillD] at h; injection h with h; subst h; exact ⟨bs, rfl, hr⟩
    | cons q qs => simp at h1
  | cons p ps ih =>
    intro qs as bs out h hr h1 h2
    cases qs with
    | nil => simp at h1
    | cons q qs =>
      obtain ⟨i, v⟩ := p
      obtain ⟨j, w⟩ := q
      simp only [List.map_cons, List.cons.injEq] at h1
      obtain ⟨rfl, h1⟩ := h1
      simp only [List.map_cons] at h2
      cases h2 with
      | cons _ _ _ _ hv hs =>
        simp only [fillD] at h
        simp only [fillL]
        split at h
        · cases h
        · rename_i off size hp
          have hcell := dvr_cells hv
          have hl := hcell.length_eq
          have hal := hr.length_eq
          split at h
          · cases h
          · rename_i hn
            have hn' : (vcells v).length = size ∧ off + size ≤ as.length := by
              refine ⟨?_, ?_⟩
              · rcases Nat.decEq (vcells v).length size with h' | h'
                · exact absurd (Or.inl h') hn
                · exact h'
              · rcases Nat.lt_or_ge as.length (off + size) with h' | h'
                · exact absurd (Or.inr h') hn
                · exact h'
            obtain ⟨out', k1, k2⟩ := ih qs _ _ out h (DVRs.write _ _ off hcell hr) h1 hs
            refine ⟨out', ?_, k2⟩
            simp only [hp]
            rw [if_neg (by simp only [Array.length_toList] at hl; omega)]
            exact k1
theorem build_vsim {t : TypeId} {ps : List (Nat × DV)} {qs : List (Nat × Value)} {out : List DV} (e : vbuild P t ps = some out) (h1 : ps.map (·.1) = qs.map (·.1)) (h2 : DVRs Φ ρ (ps.map (·.2)) (qs.map (·.2))) :
    ∃ out', buildL P t qs = some out' ∧ DVRs Φ ρ out out' := by
  unfold vbuild at e
  unfold buildL
  have hz : ∀ z, zeroT P t = some z → flat z = true := by
    intro z hz
    unfold zeroT at hz
    cases hi : (P.info? t).bind (·.zero) with
    | none => simp [hi] at hz
    | some y =>
      simp only [hi, Option.bind_some] at hz
      split at hz
      · rename_i hf; injection hz with hz; subst hz; exact hf
      · cases hz
  cases hz1 : zeroT P t with
  | none => simp [hz1] at e
  | some z =>
    cases hl1 : placesT P t with
    | some l =>
      simp only [hz1, hl1] at e ⊢
      exact fill_vsim _ _ _ _ _ _ e (dvr_zD (hz z hz1)) h1 h2
    | none =>
      cases ha : arrT P t with
      | none => simp [hz1, hl1, ha] at e
      | some x =>
        simp only [hz1, hl1, ha] at e ⊢
        exact fill_vsim _ _ _ _ _ _ e (dvr_zD (hz z hz1)) h1 h2
theorem zeroT_flat {t : TypeId} {z : Value} (hz : zeroT P t = some z) : flat z = true := by
  unfold zeroT at hz
  cases hi : (P.info? t).bind (·.zero) with
  | none => simp [hi] at hz
  | some y =>
    simp only [hi, Option.bind_some] at hz
    split at hz
    · rename_i hf; injection hz with hz; subst hz; exact hf
    · cases hz
theorem zD_length (z : Value) : (zD z).length = z.cells.size := by simp [zD]
theorem buildS_vsim {t : TypeId} {len : Nat} {ps : List (Nat × DV)} {qs : List (Nat × Value)} {out : List DV} {size : Nat} (e : vbuildS P t len ps = some (out, size)) (h1 : ps.map (·.1) = qs.map (·.1)) (h2 : DVRs Φ ρ (ps.map (·.2)) (qs.map (·.2))) :
    ∃ out', buildS P t len qs = some out' ∧ DVRs Φ ρ out out' := by
  unfold vbuildS at e
  unfold buildS
  split at e
  · rename_i elem sz by_ he
    simp only [he]
    split at e
    · rename_i z hz
      simp only [hz]
      split at e
      · rename_i hc
        rw [if_pos (by rw [← zD_length]; exact hc)]
        simp only [Option.map_eq_some_iff] at e
        obtain ⟨c, hc2, e⟩ := e
        injection e with e1 e2; subst e1
        exact fill_vsim _ _ _ _ _ _ hc2 ((dvr_zD (zeroT_flat hz)).repeat len) h1 h2
      · cases e
    · cases e
  · cases e
theorem makeS_vsim {t : TypeId} {l c : DV} {l' c' : Value} {s : List DV × Nat × Nat × Nat} (hl : DVR Φ ρ l l') (hc : DVR Φ ρ c c') (e : vmakeS P t l c = some s) :
    ∃ cs, makeS P t l' c' = some (cs, s.2.1, s.2.2.1) ∧ DVRs Φ ρ s.1 cs ∧ s.2.1 ≤ s.2.2.1 := by
  unfold vmakeS at e
  unfold makeS
  split at e
  · rename_i elem size bytes k len k2 cap he hl2 hc2
    obtain ⟨e1, _⟩ := toV_eq hl hl2
    obtain ⟨e2, _⟩ := toV_eq hc hc2
    subst e1; subst e2
    simp only [he]
    split at e
    · rename_i z hz
      simp only [hz]
      split at e
      · rename_i hcond
        rw [zD_length] at hcond
        rw [if_pos hcond]
        injection e with e; subst e
        exact ⟨_, rfl, (dvr_zD (zeroT_flat hz)).repeat _, by simp only; omega⟩
      · cases e
    · cases e
  · cases e

theorem DataRs.get {a : List Dat} {b : List Value} (h : DataRs Φ a b) : ∀ (i : Nat) (v : Dat), a[i]? = some v → ∃ v', b[i]? = some v' ∧ DataR Φ v v' := by
  intro i v e
  obtain ⟨v', h1, h2⟩ := (h.up (ρ := fun _ => none)).get i (.d v) (by simp [e])
  cases h2 with
  | d _ _ hd => exact ⟨v', h1, hd⟩
theorem flatten_take (l : List (List Dat)) (sz n : Nat) (h : ∀ r ∈ l, r.length = sz) (hn : n ≤ l.length) : (l.take n).flatten = l.flatten.take (n * sz) := by
  induction l generalizing n with
  | nil => simp
  | cons r l ih =>
    cases n with
    | zero => simp
    | succ n =>
      have hr : r.length = sz := h r List.mem_cons_self
      have := ih n (fun r hr => h r (List.mem_cons_of_mem _ hr)) (by simpa using hn)
      simp only [List.take_succ_cons, List.flatten_cons, this]
      rw [List.take_append, hr, Nat.add_mul, Nat.one_mul, List.take_of_length_le (l := r) (by omega)]
      congr 2; omega
theorem flatten_drop (l : List (List Dat)) (sz n : Nat) (h : ∀ r ∈ l, r.length = sz) (hn : n ≤ l.length) : (l.drop n).flatten = l.flatten.drop (n * sz) := by
  induction l generalizing n with
  | nil => simp
  | cons r l ih =>
    cases n with
    | zero => simp
    | succ n =>
      have hr : r.length = sz := h r List.mem_cons_self
      have := ih n (fun r hr => h r (List.mem_cons_of_mem _ hr)) (by simpa using hn)
      simp only [List.drop_succ_cons, List.flatten_cons, this]
      rw [List.drop_append, hr, Nat.add_mul, Nat.one_mul, List.drop_eq_nil_of_le (as := r) (by omega), List.nil_append]
      congr 1; omega
theorem flatten_len (l : List (List Dat)) (sz : Nat) (h : ∀ r ∈ l, r.length = sz) : l.flatten.length = l.length * sz := by
  induction l with
  | nil => simp
  | cons r l ih =>
    have hr : r.length = sz := h r List.mem_cons_self
    simp only [List.flatten_cons, List.length_append, hr, ih (fun r hr => h r (List.mem_cons_of_mem _ hr)), List.length_cons, Nat.add_mul]; omega
theorem all_len {l : List (List Dat)} {size : Nat} (h : (l.all fun r => decide (r.length = size)) = true) : ∀ r ∈ l, r.length = size := fun r hr => by
  have := List.all_eq_true.1 h r hr; simpa using this
theorem firstL_flat {size n : Nat} {x : Value} {l : List Value} (hf : flat x = true) (h : firstL Heap.nil size n x = some l) : firstL H size n x = some l ∧ flatL l = true := by
  unfold firstL at h
  split at h
  · simp [Abs.flat] at hf
  · refine ⟨by simpa [firstL] using h, ?_⟩
    split at h
    · injection h with h; subst h; rfl
    · cases h
  · simp [Abs.flat] at hf
  · refine ⟨by simpa [firstL] using h, ?_⟩
    split at h
    · injection h with h; subst h
      rename_i s _
      generalize (s.extract 0 n).data.toList = l
      induction l with
      | nil => rfl
      | cons b l ih => simp [flatL, Abs.flat, ih]
    · cases h
  · cases h
theorem first_vsim (inv : VInv Φ ρ V H) {size n : Nat} {x : DV} {x' : Value} {xs : List DV} (hx : DVR Φ ρ x x') (e : firstD V size n x = some xs) : ∃ cs, firstL H size n x' = some cs ∧ DVRs Φ ρ xs cs := by
  cases x <;> simp only [firstD] at e <;> try (cases e)
  case d x =>
    cases x with
    | v y =>
      simp only [firstD, Option.map_eq_some_iff] at e
      obtain ⟨l, hl, rfl⟩ := e
      obtain ⟨rfl, hf⟩ := dvr_v hx
      obtain ⟨h1, h2⟩ := firstL_flat (H := H) hf hl
      exact ⟨l, h1, dvrs_dv l h2⟩
    | rows l =>
      simp only [firstD] at e
      split at e
      · rename_i hc
        injection e with e; subst e
        have hlen := all_len hc.2
        cases hx with
        | d _ _ hd =>
          cases hd with
          | nil =>
            have : n = 0 := by simpa using hc.1
            subst this
            exact ⟨[], by simp [firstL], .nil⟩
          | cut =>
            have : n = 0 := by simpa using hc.1
            subst this
            exact ⟨[], by simp [firstL, cutV], .nil⟩
          | rows _ i off cap sz cs m h1 h2 h3 h4 h5 h6 =>
            by_cases h0 : n = 0
            · subst h0; exact ⟨[], by simp [firstL], by simpa using .nil⟩
            · have hne : l ≠ [] := by rintro rfl; simp at hc; omega
              have hsz : sz = size := by
                cases l with
                | nil => exact absurd rfl hne
                | cons r l => rw [← h2 r List.mem_cons_self, hlen r List.mem_cons_self]
              subst hsz
              have hg := inv.phi _ _ h1
              refine ⟨(cs.drop off).take (n * sz), ?_, ?_⟩
              · unfold firstL
                simp only
                rw [if_neg h0]
                unfold cellsAt
                rw [hg]
                simp only
                have : n * sz ≤ l.length * sz := Nat.mul_le_mul_right _ hc.1
                rw [if_pos (by omega)]
              · rw [flatten_take l sz n hlen hc.1]
                have := (h6.take (n * sz)).up (ρ := ρ)
                rw [List.take_take, Nat.min_eq_left (Nat.mul_le_mul_right _ hc.1)] at this
                exact this
      · cases e
  case slc id g off len cap sz =>
    split at e
    · rename_i h0
      injection e with e; subst e; subst h0
      cases hx with
      | slc => exact ⟨[], by simp [firstL], .nil⟩
      | slcOld => exact ⟨[], by simp [firstL], .nil⟩
    · rename_i h0
      simp only [Option.bind_eq_some_iff] at e
      obtain ⟨c, hc, e⟩ := e
      split at e
      · rename_i hl
        injection e with e; subst e
        obtain ⟨i, cs, m, lk, ver, h1, h2, h3, h4⟩ := cellsOf_some inv hc
        obtain ⟨rfl, _⟩ := dvr_slc h2 hx
        refine ⟨(cs.drop off).take (n * size), ?_, (h4.drop off).take _⟩
        unfold firstL slc
        simp only
        rw [if_neg h0]
        unfold cellsAt
        rw [h3]
        simp only
        rw [if_pos (by rw [h4.length_eq]; exact hl)]
      · cases e
theorem len_vsim {x : DV} {x' : Value} {n : Nat} (hx : DVR Φ ρ x x') (e : lenD x = some n) : lenV x' = some n := by
  cases x <;> simp only [lenD] at e <;> try (cases e)
  case d x =>
    cases x with
    | v y => obtain ⟨rfl, _⟩ := dvr_v hx; simpa [lenD] using e
    | rows l =>
      simp only [lenD] at e
      cases hx with
      | d _ _ hd =>
        cases hd with
        | nil => exact e
        | cut => exact e
        | rows => exact e
  case slc => cases hx <;> rfl
theorem new_vsim (inv : VInv Φ ρ V H) {elem : TypeId} {size bytes : Nat} {zeros : Bool} {x : DV} {x' : Value} {n : Nat} {xs : List DV} (hx : DVR Φ ρ x x') (e : newD P elem size bytes zeros x V = some (n, xs)) :
    ∃ cs, newL P elem size bytes zeros x' H = some (n, cs) ∧ DVRs Φ ρ xs cs := by
  unfold newD at e
  unfold newL
  cases zeros with
  | true =>
    simp only [if_true] at e ⊢
    split at e
    · rename_i l z hv hz
      obtain ⟨rfl, _⟩ := toV_eq hx hv
      simp only [hz]
      split at e
      · rename_i hc
        rw [zD_length] at hc
        injection e with e; injection e with e1 e2; subst e1; subst e2
        rw [if_pos hc]
        exact ⟨_, rfl, (dvr_zD (zeroT_flat hz)).repeat _⟩
      · cases e
    · cases e
  | false =>
    simp only [Bool.false_eq_true, if_false] at e ⊢
    split at e
    · rename_i m hl
      simp only [Option.map_eq_some_iff] at e
      obtain ⟨ys, hy, e⟩ := e
      injection e with e1 e2; subst e1; subst e2
      obtain ⟨cs, h1, h2⟩ := first_vsim inv hx hy
      exact ⟨cs, by rw [len_vsim hx hl]; simp [h1], h2⟩
    · cases e
end
end Go.Abs
/- The machine of values: maps read, tests, numbers, parts of rows, beside the abstract machine. -/
namespace Go.Abs
open Go Go.RowKit
set_option linter.unusedVariables false
set_option linter.unusedSimpArgs false

/-! Where a key stands hangs on the keys alone -/
theorem findNow_keys (d : TypeDesc) (k : Value) : ∀ (es es' : List (Value × Value)) (i : Nat), es.map (·.1) = es'.map (·.1) → (Instr.findNow d k (asEntries es) i).map (fun r => r.map (·.1)) = (Instr.findNow d k (asEntries es') i).map (fun r => r.map (·.1))
  | [], [], _, _ => rfl
  | [], _ :: _, _, h => by simp at h
  | _ :: _, [], _, h => by simp at h
  | (a, v) :: es, (b, w) :: es', i, h => by
    simp only [List.map_cons, List.cons.injEq] at h
    obtain ⟨h1, h2⟩ := h
    subst h1
    simp only [asEntries, List.map_cons, Instr.findNow]
    cases Instr.sameNow d k a with
    | none => rfl
    | some b =>
      cases b with
      | true => rfl
      | false => exact findNow_keys d k es es' (i + 1) h2
theorem findAsking_keys (P : Program) (kt : TypeId) (k : Value) : ∀ (es es' : List (Value × Value)) (i : Nat), es.map (·.1) = es'.map (·.1) →
    (purely P (Instr.findAsking kt k (asEntries es) i)).map (fun r => r.map (·.1)) = (purely P (Instr.findAsking kt k (asEntries es') i)).map (fun r => r.map (·.1))
  | [], [], _, _ => rfl
  | [], _ :: _, _, h => by simp at h
  | _ :: _, [], _, h => by simp at h
  | (a, v) :: es, (b, w) :: es', i, h => by
    simp only [List.map_cons, List.cons.injEq] at h
    obtain ⟨h1, h2⟩ := h
    subst h1
    simp only [asEntries, List.map_cons, Instr.findAsking, purely_bind]
    cases purely P (Op.equal kt k a) with
    | none => rfl
    | some b =>
      cases b with
      | true => rfl
      | false => exact findAsking_keys P kt k es es' (i + 1) h2
theorem findT_keys (P : Program) (kt : TypeId) (k : Value) (es es' : List (Value × Value)) (h : es.map (·.1) = es'.map (·.1)) : findT P kt k es = findT P kt k es' := by
  have hk : ∀ l : List (Value × Value), keyFlat l = (l.map (·.1)).all flat := fun l => by simp [keyFlat, List.all_map]; rfl
  have he : es.isEmpty = es'.isEmpty := by cases es <;> cases es' <;> simp at h ⊢
  have hf : (purely P (Instr.findKey kt k (asEntries es))).map (fun r => r.map (·.1)) = (purely P (Instr.findKey kt k (asEntries es'))).map (fun r => r.map (·.1)) := by
    unfold Instr.findKey
    simp only [purely_bind]
    cases purely P (underlying kt) with
    | none => rfl
    | some d =>
      simp only [Option.bind_some]
      have := findNow_keys d k es es' 0 h
      cases h1 : Instr.findNow d k (asEntries es) 0 with
      | none =>
        rw [h1] at this
        cases h2 : Instr.findNow d k (asEntries es') 0 with
        | none => exact findAsking_keys P kt k es es' 0 h
        | some y => rw [h2] at this; cases this
      | some x =>
        rw [h1] at this
        cases h2 : Instr.findNow d k (asEntries es') 0 with
        | none => rw [h2] at this; cases this
        | some y => rw [h2] at this; simpa [purely_pure] using this
  unfold findT
  rw [hk es, hk es', h, he, hf]

section
variable {P : Program} {Φ : Phi} {ρ : Rn} {V : VHeap} {H : Heap}
theorem DMR.keys : ∀ {es : List (Value × DV)} {fs : List (Value × Value)}, DMR Φ ρ es fs → (keyL es).map (·.1) = fs.map (·.1)
  | _, _, .nil => rfl
  | _, _, .cons k x v l m h1 h2 => by simpa [keyL] using DMR.keys h2
theorem DMR.length_eq : ∀ {es : List (Value × DV)} {fs : List (Value × Value)}, DMR Φ ρ es fs → fs.length = es.length
  | _, _, .nil => rfl
  | _, _, .cons k x v l m h1 h2 => by simp [DMR.length_eq h2]
theorem DMR.get : ∀ {es : List (Value × DV)} {fs : List (Value × Value)}, DMR Φ ρ es fs → ∀ (i : Nat) (e : Value × DV), es[i]? = some e → ∃ v, fs[i]? = some (e.1, v) ∧ DVR Φ ρ e.2 v
  | _, _, .nil, i, e, h => by simp at h
  | _, _, .cons k x v l m h1 h2, 0, e, h => by simp at h; subst h; exact ⟨v, by simp, h1⟩
  | _, _, .cons k x v l m h1 h2, i + 1, e, h => by
    obtain ⟨w, h3, h4⟩ := DMR.get h2 i e (by simpa using h)
    exact ⟨w, by simpa using h3, h4⟩
theorem DMR.set : ∀ {es : List (Value × DV)} {fs : List (Value × Value)} (i : Nat) (k : Value) {x : DV} {v : Value}, DMR Φ ρ es fs → DVR Φ ρ x v → DMR Φ ρ (es.set i (k, x)) (fs.set i (k, v))
  | _, _, _, _, _, _, .nil, _ => by simpa using .nil
  | _, _, 0, k, _, _, .cons _ _ _ l m h1 h2, h => by simpa using .cons _ _ _ _ _ h h2
  | _, _, i + 1, k, _, _, .cons _ _ _ l m h1 h2, h => by simpa using .cons _ _ _ _ _ h1 (DMR.set i k h2 h)
theorem DMR.snoc : ∀ {es : List (Value × DV)} {fs : List (Value × Value)} (k : Value) {x : DV} {v : Value}, DMR Φ ρ es fs → DVR Φ ρ x v → DMR Φ ρ (es ++ [(k, x)]) (fs ++ [(k, v)])
  | _, _, k, _, _, .nil, h => .cons _ _ _ _ _ h .nil
  | _, _, k, _, _, .cons _ _ _ l m h1 h2, h => .cons _ _ _ _ _ h1 (DMR.snoc k h2 h)
theorem dvr_bool (b : Bool) : DVR Φ ρ (vbool b) (.bool b) := dvr_dv rfl
theorem dvr_int (k : IntKind) (n : Int) : DVR Φ ρ (vint k n) (.int k n) := dvr_dv rfl
theorem get_vsim {t : TypeId} {es : List (Value × DV)} {fs : List (Value × Value)} {k : Value} {ok : Bool} {x : DV} (h : DMR Φ ρ es fs) (e : vget P t es k ok = some x) : ∃ v, aget P t fs k ok = some v ∧ DVR Φ ρ x v := by
  unfold vget at e
  unfold aget
  split at e
  · rename_i key elem hm
    simp only [hm]
    rw [findT_keys P key k (keyL es) fs h.keys] at e
    split at e
    · rename_i i hf
      simp only [hf]
      simp only [Option.map_eq_some_iff] at e
      obtain ⟨y, hy, rfl⟩ := e
      obtain ⟨v, h1, h2⟩ := h.get i y hy
      rw [h1]
      cases ok with
      | true => exact ⟨_, rfl, .tuple _ _ (.cons _ _ _ _ h2 (.cons _ _ _ _ (dvr_bool _) .nil))⟩
      | false => exact ⟨_, rfl, h2⟩
    · rename_i hf
      simp only [hf]
      simp only [Option.map_eq_some_iff] at e
      obtain ⟨z, hz, rfl⟩ := e
      rw [hz]
      have := dvr_ofV (Φ := Φ) (ρ := ρ) z (zeroT_flat hz)
      cases ok with
      | true => exact ⟨_, rfl, .tuple _ _ (.cons _ _ _ _ this (.cons _ _ _ _ (dvr_bool _) .nil))⟩
      | false => exact ⟨_, rfl, this⟩
    · cases e
  · cases e
theorem dvr_map {id i : Nat} {v : Value} (hi : ρ id = some (0, i)) (h : DVR Φ ρ (.map id) v) : v = .map (some i) := by
  cases h with
  | map _ j hj => rw [hi] at hj; injection hj with hj; injection hj with _ hj; subst hj; rfl
  | mapOld _ g j k hj hg => rw [hi] at hj; injection hj with hj; injection hj with hj _; omega
theorem lookup_vsim (inv : VInv Φ ρ V H) {t : TypeId} {x k y : DV} {x' k' : Value} {ok : Bool} (hx : DVR Φ ρ x x') (hk : DVR Φ ρ k k') (e : vlookup P t x k ok V = some y) : ∃ v, alookup P t x' k' ok H = some v ∧ DVR Φ ρ y v := by
  unfold vlookup at e
  split at e
  · rename_i kv hkv
    obtain ⟨rfl, _⟩ := toV_eq hk hkv
    split at e
    · obtain ⟨rfl, _⟩ := dvr_v hx
      exact get_vsim .nil e
    · rename_i es
      cases hx with
      | fmap _ i fs h1 h2 =>
        have := inv.phi _ _ h1
        unfold alookup; simp only [this]
        exact get_vsim h2 e
    · rename_i id
      split at e
      · rename_i es ver hb
        obtain ⟨i, fs, h1, h2, h3, _⟩ := inv.maps _ _ _ hb
        have := dvr_map h1 hx
        subst this
        unfold alookup; simp only [h2]
        exact get_vsim h3 e
      · cases e
    · cases e
  · cases e

theorem flatRes_flat {o : Option Value} {v : Value} (h : flatRes o = some v) : flat v = true := by
  unfold flatRes at h
  cases o with
  | none => cases h
  | some y =>
    simp only [Option.bind_some] at h
    split at h
    · rename_i hf; injection h with h; subst h; exact hf
    · cases h
theorem bytes_vsim : ∀ {c : List DV} {cs : List Value} {l : List UInt8}, DVRs Φ ρ c cs → bytesD c = some l → bytesL cs = some l
  | _, _, l, .nil, h => by simpa [bytesD, bytesL] using h
  | _, _, l, .cons a b c cs h1 h2, h => by
    unfold bytesD at h
    split at h
    · rename_i hh; cases hh
    · rename_i n l' hh
      injection hh with ha hl
      subst ha; subst hl
      obtain ⟨rfl, _⟩ := dvr_v h1
      simp only [Option.map_eq_some_iff] at h
      obtain ⟨r, hr, rfl⟩ := h
      simp [bytesL, bytes_vsim h2 hr]
    · cases h
theorem firstL_cells {size n : Nat} {id off len cap : Nat} {cs : List Value} (h : firstL H size n (.slice (some ⟨id, off, none⟩) len cap) = some cs) : (if n = 0 then some [] else cellsAt H id off (n * size)) = some cs := by
  simpa [firstL] using h
theorem convert_vsim (inv : VInv Φ ρ V H) {src dst : TypeId} {x y : DV} {x' : Value} (hx : DVR Φ ρ x x') (e : vconvert P src dst x V = some y) : ∃ v, aconvert P src dst x' H = some v ∧ DVR Φ ρ y v := by
  unfold vconvert at e
  split at e
  · rename_i z hz
    obtain ⟨rfl, hf⟩ := toV_eq hx hz
    simp only [Option.map_eq_some_iff] at e
    obtain ⟨v, hv, rfl⟩ := e
    have key : ∀ G : Heap, aconvert P src dst x' G = if flat x' then flatRes (purely P (Go.convert src dst x')) else none := by
      intro G
      unfold aconvert
      split
      · simp [Abs.flat] at hf
      · simp [Abs.flat] at hf
      · rfl
    rw [key] at hv ⊢
    rw [if_pos hf] at hv ⊢
    exact ⟨v, hv, dvr_ofV v (flatRes_flat hv)⟩
  · rename_i hno
    split at e
    · rename_i el h1 h2
      split at e
      · rename_i n h3 h4
        simp only [Option.bind_eq_some_iff] at e
        obtain ⟨c, hc, l, hl, e⟩ := e
        split at e
        · cases e
        rename_i hcond
        injection e with e; subst e
        obtain ⟨cs, k1, k2⟩ := first_vsim inv hx hc
        have hlen := len_vsim hx h4
        refine ⟨.string ⟨l.toArray⟩, ?_, dvr_dv rfl⟩
        have hb := bytes_vsim k2 hl
        have blk : ∀ id off cap, x' = .slice (some ⟨id, off, none⟩) n cap → aconvert P src dst x' H = some (.string ⟨l.toArray⟩) := by
          rintro id off cap rfl
          have := firstL_cells k1
          unfold aconvert
          simp only [h1, h2, h3]
          rw [Nat.mul_one] at this
          rw [this]
          simp [hb]
        have nil : n = 0 → x' = .slice none 0 0 → aconvert P src dst x' H = some (.string ⟨l.toArray⟩) := by
          rintro rfl rfl
          have hc2 : (aconvert P src dst (.slice none 0 0) Heap.nil).map (veq · (.string ⟨l.toArray⟩)) = some true := by
            rcases Decidable.em ((aconvert P src dst (.slice none 0 0) Heap.nil).map (veq · (.string ⟨l.toArray⟩)) = some true) with h | h
            · exact h
            · exact absurd ⟨rfl, h⟩ hcond
          simp only [Option.map_eq_some_iff] at hc2
          obtain ⟨w, hw, hv⟩ := hc2
          have := veq_sound _ _ hv
          subst this
          exact hw
        cases x with
        | d y =>
          cases y with
          | v y => simp [toV] at hno
          | rows r =>
            simp only [lenD, Option.some.injEq] at h4
            cases hx with
            | d _ _ hd =>
              cases hd with
              | nil => exact nil h4.symm rfl
              | cut =>
                subst h4
                simp only [firstD, List.take_nil, List.flatten_nil, List.map_nil] at hc
                have hcs : c = [] := by simpa using hc.symm
                subst hcs
                simp [bytesD] at hl
                subst hl
                unfold aconvert cutV
                simp [h1, h2, h3]
              | rows _ i off cap sz cs m => subst h4; exact blk _ _ _ rfl
        | slc id g off n' cap sz =>
          simp only [lenD, Option.some.injEq] at h4; subst h4
          cases hx with
          | slc => exact blk _ _ _ rfl
          | slcOld => exact blk _ _ _ rfl
        | _ => simp [lenD] at h4
      · cases e
    · cases e
end
end Go.Abs
/- The machine of values: tests, numbers, parts of rows, beside the abstract machine. -/
namespace Go.Abs
open Go Go.RowKit
set_option linter.unusedVariables false
set_option linter.unusedSimpArgs false

section
variable {P : Program} {Φ : Phi} {ρ : Rn} {V : VHeap} {H : Heap}

mutual
theorem hard_flat : ∀ {x : DV} {v : Value}, DVR Φ ρ x v → hard x = true → flat v = false
  | _, _, .d x v hd, h => by
    cases hd with
    | v => simp [hard] at h
    | nil => simp [hard] at h
    | cut => simp [hard] at h
    | rows => simp [Abs.flat]
  | _, _, .fptr .., _ => by simp [Abs.flat]
  | _, _, .ptr .., _ => by simp [Abs.flat]
  | _, _, .ptrOld .., _ => by simp [Abs.flat]
  | _, _, .slc .., _ => by simp [Abs.flat]
  | _, _, .slcOld .., _ => by simp [Abs.flat]
  | _, _, .map .., _ => by simp [Abs.flat]
  | _, _, .mapOld .., _ => by simp [Abs.flat]
  | _, _, .fmap .., _ => by simp [Abs.flat]
  | _, _, .func .., h => by simp [hard] at h
  | _, _, .iface .., h => by simp [hard] at h
  | _, _, .agg .., h => by simp [hard] at h
  | _, _, .tuple .., h => by simp [hard] at h
end
theorem hards_flat : ∀ {l : List DV} {m : List Value}, DVRs Φ ρ l m → l.any hard = true → flatL m = false
  | _, _, .nil, h => by simp at h
  | _, _, .cons a b l m h1 h2, h => by
    simp only [List.any_cons, Bool.or_eq_true] at h
    rcases h with h | h
    · simp [flatL, hard_flat h1 h]
    · simp [flatL, hards_flat h2 h]
theorem nilEq_vsim {t : TypeId} {a b : DV} {a' b' : Value} {r : Bool} (ha : DVR Φ ρ a a') (hb : DVR Φ ρ b b') (e : nilEqD P t a b = some r) : nilEq P t a' b' = some r ∧ (flat a' && flat b') = false := by
  unfold nilEqD at e
  split at e <;> first
    | cases e; done
    | skip
  all_goals (rename_i hu)
  · injection e with e; subst e
    obtain ⟨rfl, _⟩ := dvr_v ha
    cases hb with
    | d _ _ hd => cases hd with
      | rows => simp [nilEq, hu, Abs.flat]
  · injection e with e; subst e
    obtain ⟨rfl, _⟩ := dvr_v hb
    cases ha with
    | d _ _ hd => cases hd with
      | rows => simp [nilEq, hu, Abs.flat]
  · injection e with e; subst e
    obtain ⟨rfl, _⟩ := dvr_v ha
    cases hb <;> simp [nilEq, hu, Abs.flat]
  · injection e with e; subst e
    obtain ⟨rfl, _⟩ := dvr_v hb
    cases ha <;> simp [nilEq, hu, Abs.flat]
  · injection e with e; subst e
    obtain ⟨rfl, _⟩ := dvr_v ha
    cases hb <;> simp [nilEq, hu, Abs.flat]
  · injection e with e; subst e
    obtain ⟨rfl, _⟩ := dvr_v hb
    cases ha <;> simp [nilEq, hu, Abs.flat]
  · injection e with e; subst e
    obtain ⟨rfl, _⟩ := dvr_v ha
    cases hb <;> simp [nilEq, hu, Abs.flat]
  · injection e with e; subst e
    obtain ⟨rfl, _⟩ := dvr_v hb
    cases ha <;> simp [nilEq, hu, Abs.flat]
  · injection e with e; subst e
    obtain ⟨rfl, _⟩ := dvr_v ha
    cases hb <;> simp [nilEq, hu, Abs.flat]
  · injection e with e; subst e
    obtain ⟨rfl, _⟩ := dvr_v hb
    cases ha <;> simp [nilEq, hu, Abs.flat]
  · split at e
    · rename_i hh
      injection e with e; subst e
      obtain ⟨rfl, _⟩ := dvr_v ha
      cases hb with
      | func _ _ _ a' c' h1 h2 =>
        refine ⟨by simp [nilEq, hu], ?_⟩
        simp only [Bool.or_eq_true] at hh
        rcases hh with hh | hh
        · simp [Abs.flat, flatA, hards_flat h1 hh]
        · simp [Abs.flat, flatA, hards_flat h2 hh]
    · cases e
  · split at e
    · rename_i hh
      injection e with e; subst e
      obtain ⟨rfl, _⟩ := dvr_v hb
      cases ha with
      | func _ _ _ a' c' h1 h2 =>
        refine ⟨by simp [nilEq, hu], ?_⟩
        simp only [Bool.or_eq_true] at hh
        rcases hh with hh | hh
        · simp [Abs.flat, flatA, hards_flat h1 hh]
        · simp [Abs.flat, flatA, hards_flat h2 hh]
    · cases e
  · split at e
    · rename_i hh
      injection e with e; subst e
      obtain ⟨rfl, _⟩ := dvr_v ha
      cases hb with
      | iface _ _ w h1 => exact ⟨by simp [nilEq, hu], by simp [Abs.flat, hard_flat h1 hh]⟩
    · cases e
  · split at e
    · rename_i hh
      injection e with e; subst e
      obtain ⟨rfl, _⟩ := dvr_v hb
      cases ha with
      | iface _ _ w h1 => exact ⟨by simp [nilEq, hu], by simp [Abs.flat, hard_flat h1 hh]⟩
    · cases e
theorem bin_vsim {op : BinOp} {t : TypeId} {x y : Operand} {a b z : DV} {a' b' : Value} (ha : DVR Φ ρ a a') (hb : DVR Φ ρ b b') (e : vbin P op t x y a b = some z) : ∃ v, abin P op t x y a' b' = some v ∧ DVR Φ ρ z v := by
  unfold vbin at e
  split at e
  · rename_i u w hu hw
    obtain ⟨rfl, hf⟩ := toV_eq ha hu
    obtain ⟨rfl, hg⟩ := toV_eq hb hw
    simp only [Option.map_eq_some_iff] at e
    obtain ⟨v, hv, rfl⟩ := e
    refine ⟨v, hv, dvr_ofV v ?_⟩
    unfold abin at hv
    rw [if_pos (by simp [hf, hg])] at hv
    exact flatRes_flat hv
  · cases hn : nilEqD P t a b with
    | none => simp [hn] at e
    | some r =>
      obtain ⟨h1, h2⟩ := nilEq_vsim ha hb hn
      rw [hn] at e
      cases op <;> simp only at e <;> try (cases e; done)
      · injection e with e; subst e; refine ⟨.bool r, ?_, dvr_bool _⟩; unfold abin; rw [h2]; simp [h1]
      · injection e with e; subst e; refine ⟨.bool (!r), ?_, dvr_bool _⟩; unfold abin; rw [h2]; simp [h1]
theorem un_vsim {op : UnOp} {x z : DV} {x' : Value} (hx : DVR Φ ρ x x') (e : vun P op x = some z) : ∃ v, unV P op x' = some v ∧ DVR Φ ρ z v := by
  unfold vun at e
  simp only [Option.bind_eq_some_iff, Option.map_eq_some_iff] at e
  obtain ⟨y, hy, v, hv, rfl⟩ := e
  obtain ⟨rfl, hf⟩ := toV_eq hx hy
  refine ⟨v, hv, dvr_ofV v ?_⟩
  unfold unV at hv
  rw [if_pos hf] at hv
  exact flatRes_flat hv
theorem min_vsim {ts : Array TypeId} {t : TypeId} {l : List DV} {l' : List Value} {z : DV} (h : DVRs Φ ρ l l') (e : vmin P ts t l = some z) : ∃ v, minV P ts t ⟨l'⟩ = some v ∧ DVR Φ ρ z v := by
  unfold vmin at e
  simp only [Option.bind_eq_some_iff, Option.map_eq_some_iff] at e
  obtain ⟨m, hm, v, hv, rfl⟩ := e
  obtain ⟨rfl, hf⟩ := toVs_eq h hm
  refine ⟨v, hv, dvr_ofV v ?_⟩
  unfold minV at hv
  rw [if_pos (by simpa using hf)] at hv
  exact flatRes_flat hv
theorem max_vsim {ts : Array TypeId} {t : TypeId} {l : List DV} {l' : List Value} {z : DV} (h : DVRs Φ ρ l l') (e : vmax P ts t l = some z) : ∃ v, maxV P ts t ⟨l'⟩ = some v ∧ DVR Φ ρ z v := by
  unfold vmax at e
  simp only [Option.bind_eq_some_iff, Option.map_eq_some_iff] at e
  obtain ⟨m, hm, v, hv, rfl⟩ := e
  obtain ⟨rfl, hf⟩ := toVs_eq h hm
  refine ⟨v, hv, dvr_ofV v ?_⟩
  unfold maxV at hv
  rw [if_pos (by simpa using hf)] at hv
  exact flatRes_flat hv

/-- A bound, beside a bound. -/
def BndR (Φ : Phi) (ρ : Rn) : Option DV → Option Value → Prop
  | none, none => True
  | some x, some v => DVR Φ ρ x v
  | _, _ => False
theorem bnd_vsim {x : Option DV} {x' y : Option Value} (h : BndR Φ ρ x x') (e : bndD x = some y) : x' = y := by
  cases x with
  | none => cases x' with
    | none => simpa [bndD] using e
    | some _ => cases h
  | some x => cases x' with
    | none => cases h
    | some v =>
      simp only [bndD, Option.map_eq_some_iff] at e
      obtain ⟨u, hu, rfl⟩ := e
      rw [(toV_eq h hu).1]
theorem boundV_le {x : Value} {y n : Nat} (h : boundV x y = some n) : n ≤ y ∧ ∀ z, y ≤ z → boundV x z = some n := by
  unfold boundV at h
  split at h
  · split at h
    · rename_i i hc; injection h with h; subst h
      refine ⟨by omega, fun z hz => ?_⟩
      unfold boundV; simp only; rw [if_pos ⟨hc.1, by omega⟩]
    · cases h
  · cases h
/-- Bounds that hold for a row hold where it may be longer behind. -/
theorem boundsV_more {n cap : Nat} {lo hi mx : Option Value} {b : Nat × Nat × Nat} (hn : n ≤ cap) (h : boundsV n n lo hi mx = some b) : ∃ m, boundsV n cap lo hi mx = some (b.1, b.2.1, m) ∧ b.1 ≤ b.2.1 ∧ b.2.1 ≤ n ∧ b.2.1 ≤ m ∧ m ≤ cap := by
  unfold boundsV at h
  have lo_le : ∀ h0 l, (match lo with | some v => boundV v h0 | none => some 0) = some l → l ≤ h0 := by
    intro h0 l e
    cases lo with
    | none => simp at e; omega
    | some v => exact (boundV_le e).1
  cases mx with
  | none =>
    simp only at h
    cases hi with
    | none =>
      simp only at h
      split at h
      · cases h
      · rename_i l hl
        injection h with h; subst h
        have := lo_le _ _ hl
        refine ⟨cap, ?_, this, Nat.le_refl _, hn, Nat.le_refl _⟩
        unfold boundsV; simp only [hl]
    | some v =>
      simp only at h
      split at h
      · cases h
      · rename_i hh hv
        obtain ⟨h1, h2⟩ := boundV_le hv
        split at h
        · cases h
        · rename_i l hl
          injection h with h; subst h
          have := lo_le _ _ hl
          refine ⟨cap, ?_, this, h1, Nat.le_trans h1 hn, Nat.le_refl _⟩
          unfold boundsV; simp only [h2 cap hn, hl]
  | some w =>
    simp only at h
    split at h
    · cases h
    · rename_i m hm
      obtain ⟨g1, g2⟩ := boundV_le hm
      cases hi with
      | none => cases h
      | some v =>
        simp only at h
        split at h
        · cases h
        · rename_i hh hv
          obtain ⟨h1, h2⟩ := boundV_le hv
          split at h
          · cases h
          · rename_i l hl
            injection h with h; subst h
            have := lo_le _ _ hl
            refine ⟨m, ?_, this, Nat.le_trans h1 g1, h1, Nat.le_trans g1 hn⟩
            unfold boundsV; simp only [g2 cap hn, hv, hl]
theorem boundsV_le {n cap : Nat} {lo hi mx : Option Value} {b : Nat × Nat × Nat} (hn : n ≤ cap) (h : boundsV n cap lo hi mx = some b) : b.1 ≤ b.2.1 ∧ b.2.1 ≤ b.2.2 ∧ b.2.2 ≤ cap := by
  have lo_le : ∀ h0 l, (match lo with | some v => boundV v h0 | none => some 0) = some l → l ≤ h0 := by
    intro h0 l e
    cases lo with
    | none => simp at e; omega
    | some v => exact (boundV_le e).1
  unfold boundsV at h
  split at h
  · cases h
  · rename_i m hm
    have hmc : m ≤ cap := by
      cases mx with
      | none => simp at hm; omega
      | some w => exact (boundV_le hm).1
    split at h
    · cases h
    · rename_i hh hv
      have hhm : hh ≤ m := by
        cases hi with
        | none => cases mx with
          | none => simp at hv hm; omega
          | some w => simp at hv
        | some v => cases mx with
          | none => exact (boundV_le hv).1
          | some w => exact (boundV_le hv).1
      split at h
      · cases h
      · rename_i l hl
        injection h with h; subst h
        exact ⟨lo_le _ _ hl, hhm, hmc⟩
theorem slice_vsim (inv : VInv Φ ρ V H) {t : TypeId} {x y : DV} {x' : Value} {lo hi mx : Option DV} {lo' hi' mx' : Option Value} (hx : DVR Φ ρ x x') (hlo : BndR Φ ρ lo lo') (hhi : BndR Φ ρ hi hi') (hmx : BndR Φ ρ mx mx')
    (e : vslice P t x lo hi mx V = some y) : ∃ v, aslice P t x' lo' hi' mx' H = some v ∧ DVR Φ ρ y v := by
  unfold vslice at e
  split at e
  rotate_left
  · cases e
  rename_i lo2 hi2 mx2 e1 e2 e3
  obtain rfl := bnd_vsim hlo e1
  obtain rfl := bnd_vsim hhi e2
  obtain rfl := bnd_vsim hmx e3
  split at e
  · rename_i id g off
    split at e
    · rename_i c lk g' ver n el size hb ha
      split at e
      · rename_i hg
        subst hg
        obtain ⟨i, cs, h1, h2, h3, _⟩ := inv.cells _ _ _ _ _ _ hb
        have := dvr_ptr h1 hx
        subst this
        simp only [Option.map_eq_some_iff] at e
        obtain ⟨b, hbv, rfl⟩ := e
        have hle := boundsV_le (Nat.le_refl _) hbv
        refine ⟨slc i (if b.2.2 = b.1 then off else off + b.1 * size) (b.2.1 - b.1) (b.2.2 - b.1), ?_, .slc _ _ _ _ _ _ _ h1 (by omega)⟩
        unfold aslice ptr
        simp only [h2, ha, hbv, Option.map_some]
      · cases e
    · cases e
  · rename_i id g off len cap sz
    split at e
    · rename_i c m lk g' ver el size by_ hb ha
      split at e
      · rename_i hg
        subst hg
        obtain ⟨i, cs, h1, h2, h3, _⟩ := inv.cells _ _ _ _ _ _ hb
        obtain ⟨rfl, hlc⟩ := dvr_slc h1 hx
        simp only [Option.bind_eq_some_iff] at e
        obtain ⟨b, hbv, e⟩ := e
        split at e
        · rename_i hfit
          injection e with e; subst e
          have hle := boundsV_le hlc hbv
          refine ⟨slc i (if b.2.2 = b.1 then off else off + b.1 * size) (b.2.1 - b.1) (b.2.2 - b.1), ?_, .slc _ _ _ _ _ _ _ h1 (by omega)⟩
          unfold aslice slc
          simp only [h2, ha, hbv, Option.bind_some]
          rw [if_pos hfit]
        · cases e
      · cases e
    · cases e
  · rename_i l
    split at e
    · rename_i el size by_ ha
      split at e
      · rename_i hall
        have hlen := all_len hall
        simp only [Option.map_eq_some_iff] at e
        obtain ⟨b, hbv, rfl⟩ := e
        cases hx with
        | d _ _ hd =>
          cases hd with
          | nil =>
            have hle := boundsV_le (Nat.le_refl _) hbv
            simp at hbv hle
            refine ⟨.slice none 0 0, ?_, by simpa using .d _ _ .nil⟩
            unfold aslice
            simp only [ha, Nat.le_refl, if_true, hbv, Option.map_some]
            rw [show b.2.1 - b.1 = 0 by omega, show b.2.2 - b.1 = 0 by omega]
          | cut =>
            have hle := boundsV_le (Nat.le_refl _) hbv
            simp at hbv hle
            refine ⟨cutV, ?_, by simpa using .d _ _ .cut⟩
            unfold aslice cutV
            simp only [ha, and_self, if_true, hbv, Option.map_some]
          | rows _ i off cap sz cs m h1 h2 h3 h4 h5 h6 =>
            obtain ⟨m', hb2, k1, k2, k3, k4⟩ := boundsV_more h4 hbv
            have hg := inv.phi _ _ h1
            have hfit : m.fits size = true ∨ b.1 = 0 := by
              by_cases hne : l = []
              · right
                subst hne
                have hle := boundsV_le (Nat.le_refl _) hbv
                simp at hle; omega
              · left
                have : sz = size := by
                  cases l with
                  | nil => exact absurd rfl hne
                  | cons r l => rw [← h2 r List.mem_cons_self, hlen r List.mem_cons_self]
                rw [← this]; exact h3 hne
            have hn : ((l.drop b.1).take (b.2.1 - b.1)).length = b.2.1 - b.1 := by simp; omega
            have hl2 : ∀ r ∈ (l.drop b.1).take (b.2.1 - b.1), r.length = sz := fun r hr => h2 r (List.mem_of_mem_drop (List.mem_of_mem_take hr))
            have hoff : b.2.1 - b.1 ≠ 0 → (if m' = b.1 then off else off + b.1 * size) = off + b.1 * sz := by
              intro hne
              rw [if_neg (by omega)]
              have hne2 : l ≠ [] := by rintro rfl; simp at k2; omega
              have : sz = size := by
                cases l with
                | nil => exact absurd rfl hne2
                | cons r l => rw [← h2 r List.mem_cons_self, hlen r List.mem_cons_self]
              rw [this]
            have hoff0 : (if m' = b.1 then off else off + b.1 * size) ≤ cs.length := by
              by_cases hne : l = []
              · subst hne
                have hle := boundsV_le (Nat.le_refl _) hbv
                simp at hle h5
                split
                · exact h5
                · have : b.1 = 0 := by omega
                  rw [this]; simpa using h5
              · have : sz = size := by
                  cases l with
                  | nil => exact absurd rfl hne
                  | cons r l => rw [← h2 r List.mem_cons_self, hlen r List.mem_cons_self]
                have : b.1 * size ≤ l.length * sz := by rw [← this]; exact Nat.mul_le_mul_right _ (by omega)
                split <;> omega
            refine ⟨slc i (if m' = b.1 then off else off + b.1 * size) (b.2.1 - b.1) (m' - b.1), ?_, ?_⟩
            · unfold aslice
              simp only [hg, ha, hb2, Option.bind_some]
              rw [if_pos hfit]
            · refine .d _ _ ?_
              have hfl : ((l.drop b.1).take (b.2.1 - b.1)).flatten = ((l.flatten).drop (b.1 * sz)).take ((b.2.1 - b.1) * sz) := by
                rw [flatten_take _ sz _ (fun r hr => h2 r (List.mem_of_mem_drop hr)) (by simp; omega), flatten_drop l sz _ h2 (by omega)]
              have hrel : DataRs Φ ((l.drop b.1).take (b.2.1 - b.1)).flatten ((cs.drop (if m' = b.1 then off else off + b.1 * size)).take ((b.2.1 - b.1) * sz)) := by
                by_cases hne : b.2.1 - b.1 = 0
                · rw [hne]; simpa using .nil
                · rw [hoff hne, hfl]
                  have := (h6.drop (b.1 * sz)).take ((b.2.1 - b.1) * sz)
                  rw [take_drop_take _ _ _ _ _ (by rw [← Nat.add_mul]; exact Nat.mul_le_mul_right _ (by omega))] at this
                  exact this
              have := DataR.rows ((l.drop b.1).take (b.2.1 - b.1)) i (if m' = b.1 then off else off + b.1 * size) (m' - b.1) sz cs m h1 hl2 (fun hne => h3 (by rintro rfl; simp at hne)) (by rw [hn]; omega) (by
                rw [hn]
                by_cases hne : b.2.1 - b.1 = 0
                · rw [hne]; simpa using hoff0
                · rw [hoff hne]
                  have : b.1 * sz + (b.2.1 - b.1) * sz ≤ l.length * sz := by rw [← Nat.add_mul]; exact Nat.mul_le_mul_right _ (by omega)
                  omega) (by rw [hn]; exact hrel)
              rw [hn] at this
              exact this
      · cases e
    · cases e
  · rename_i y
    split at e
    · rename_i len cap
      obtain ⟨rfl, hf⟩ := dvr_v hx
      simp only [Option.map_eq_some_iff] at e
      obtain ⟨v, hv, rfl⟩ := e
      have key : ∀ G : Heap, aslice P t (.slice none len cap) lo' hi' mx' G = aslice P t (.slice none len cap) lo' hi' mx' Heap.nil := fun G => by unfold aslice; rfl
      rw [key]
      refine ⟨v, hv, dvr_dv ?_⟩
      unfold aslice at hv
      simp only at hv
      split at hv
      · split at hv
        · simp only [Option.map_eq_some_iff] at hv
          obtain ⟨b, _, rfl⟩ := hv
          rfl
        · cases hv
      · cases hv
    · cases e
  · cases e
end
end Go.Abs
/- The machine of values: what a call takes and leaves, by value, beside the abstract machine. -/
namespace Go.Abs
open Go Go.RowKit
set_option linter.unusedVariables false
set_option linter.unusedSimpArgs false

section
variable {P : Program} {Φ : Phi} {ρ : Rn} {V : VHeap} {H : Heap}

/-! Locked -/
def Covers (Φ' : Phi) (ρ : Rn) (V : VHeap) (H : Heap) (ids : List Nat) : Prop := ∀ id ∈ ids, ∀ g i, ρ id = some (g, i) → (∃ c m lk ver, V[id]? = some (.cells c m lk g ver)) → Φ' i = H.get i
theorem lock1_sim (inv : VInv Φ ρ V H) (id : Nat) : ∃ Φ', Tr Φ ρ V H Φ' ρ (lock1 V id) H ∧ VInv Φ' ρ (lock1 V id) H ∧ Covers Φ' ρ V H [id] := by
  unfold lock1
  cases hb : V[id]? with
  | none => exact ⟨Φ, Tr.refl _ _ _ _, inv, fun j hj g i hi ⟨c, m, lk, ver, h⟩ => by simp at hj; subst hj; rw [hb] at h; cases h⟩
  | some b =>
    simp only
    cases b with
    | map es ver =>
      have : V.set id (VBlk.lock (.map es ver)) = V := by
        show V.set id (.map es ver) = V
        apply List.ext_getElem?
        intro j
        by_cases e : id = j
        · subst e
          obtain ⟨hl, hv⟩ := List.getElem?_eq_some_iff.1 hb
          rw [List.getElem?_set_self hl, hb]
        · rw [List.getElem?_set_ne e]
      rw [this]
      exact ⟨Φ, Tr.refl _ _ _ _, inv, fun j hj g i hi ⟨c, m, lk, ver, h⟩ => by simp at hj; subst hj; rw [hb] at h; cases h⟩
    | cells c m lk g ver =>
      obtain ⟨i, cs, h1, h2, h3, h4, h5⟩ := inv.cells _ _ _ _ _ _ hb
      let Φ' : Phi := fun j => if j = i then some (.cells cs m) else Φ j
      have hle : PLe Φ Φ' := by
        intro j b e
        show (if j = i then _ else _) = _
        split
        · rename_i hj; subst hj; rw [← inv.phi _ _ e, h2]
        · exact e
      have hver : ∀ j, verOf (V.set id (VBlk.lock (.cells c m lk g ver))) j = verOf V j := by
        intro j
        rw [verOf_set]
        split
        · rename_i e; subst e; rw [hb]; unfold verOf; rw [hb]; rfl
        · rfl
      refine ⟨Φ', ⟨by simp, Nat.le_refl _, hle, RLe.refl _, fun j v h => ⟨v, by rw [hver]; exact h, Nat.le_refl _, fun _ g1 i1 e1 => ⟨e1, rfl⟩⟩⟩, ⟨?_, inv.inj, ?_, ?_, ?_⟩, ?_⟩
      · intro j g1 i1 e; have := inv.dom _ _ _ e; simpa using this
      · intro j c1 m1 lk1 g1 v1 e
        replace e := getElem?_set_cases e
        rcases e with ⟨rfl, e⟩ | ⟨hne, e⟩
        · injection e with e1 e2 e3 e4 e5
          subst e1; subst e2; subst e3; subst e4
          exact ⟨i, cs, h1, h2, h3.mono hle (RLe.refl _), fun _ => if_pos rfl, fun h => nomatch h⟩
        · obtain ⟨i1, cs1, k1, k2, k3, k4, k5⟩ := inv.cells _ _ _ _ _ _ e
          have hi1 : i1 ≠ i := fun h => by subst h; exact hne (inv.inj _ _ _ _ _ k1 h1)
          exact ⟨i1, cs1, k1, k2, k3.mono hle (RLe.refl _), fun h => by show (if i1 = i then _ else _) = _; rw [if_neg hi1]; exact k4 h, fun h => by show (if i1 = i then _ else _) = _; rw [if_neg hi1]; exact k5 h⟩
      · intro j es v1 e
        replace e := getElem?_set_cases e
        rcases e with ⟨rfl, e⟩ | ⟨hne, e⟩
        · cases e
        · obtain ⟨i1, cs1, k1, k2, k3, k4⟩ := inv.maps _ _ _ e
          have hi1 : i1 ≠ i := fun h => by subst h; exact hne (inv.inj _ _ _ _ _ k1 h1)
          exact ⟨i1, cs1, k1, k2, k3.mono hle (RLe.refl _), by show (if i1 = i then _ else _) = _; rw [if_neg hi1]; exact k4⟩
      · intro j b e
        by_cases hj : j = i
        · subst hj
          have : some (.cells cs m) = some b := by rw [← e]; exact (if_pos rfl).symm
          rw [← this]; exact h2
        · exact inv.phi j b (by rw [← e]; exact (if_neg hj).symm)
      · intro j hj g1 i1 hi1 _
        simp at hj; subst hj
        rw [h1] at hi1; injection hi1 with hi1; injection hi1 with _ hi1; subst hi1
        rw [h2]; exact if_pos rfl
theorem lockAll_sim : ∀ (ids : List Nat) {Φ : Phi} {V : VHeap}, VInv Φ ρ V H → ∃ Φ', Tr Φ ρ V H Φ' ρ (lockAll ids V) H ∧ VInv Φ' ρ (lockAll ids V) H ∧ Covers Φ' ρ V H ids
  | [], Φ, V, inv => ⟨Φ, Tr.refl _ _ _ _, inv, fun id h => by cases h⟩
  | id :: r, Φ, V, inv => by
    obtain ⟨Φ1, t1, i1, c1⟩ := lock1_sim inv id
    obtain ⟨Φ2, t2, i2, c2⟩ := lockAll_sim r i1
    refine ⟨Φ2, t1.trans t2, i2, fun j hj g i hi ⟨c, m, lk, ver, hb⟩ => ?_⟩
    rcases List.mem_cons.1 hj with rfl | hj
    · have := c1 j List.mem_cons_self g i hi ⟨c, m, lk, ver, hb⟩
      obtain ⟨b, hb2⟩ : ∃ b, H.get i = some b := by
        obtain ⟨i', cs, h1, h2, _⟩ := inv.cells _ _ _ _ _ _ hb
        rw [hi] at h1; injection h1 with h1; injection h1 with _ h1; subst h1
        exact ⟨_, h2⟩
      rw [hb2] at this ⊢
      exact t2.phi _ _ this
    · refine c2 j hj g i hi ?_
      unfold lock1
      cases hb1 : V[id]? with
      | none => exact ⟨c, m, lk, ver, hb⟩
      | some b =>
        simp only
        by_cases e : id = j
        · subst e
          rw [hb] at hb1; injection hb1 with hb1; subst hb1
          obtain ⟨hl, _⟩ := List.getElem?_eq_some_iff.1 hb
          exact ⟨c, m, true, ver, by rw [List.getElem?_set_self hl]; rfl⟩
        · exact ⟨c, m, lk, ver, by rw [List.getElem?_set_ne e]; exact hb⟩

/-! By value -/
theorem mapO_vsim {f : DV → Option DV} {Φ' : Phi} {ρ' : Rn} : ∀ {l : List DV} {m : List Value} {r : List DV}, DVRs Φ ρ l m → (∀ x ∈ l, ∀ v y, DVR Φ ρ x v → f x = some y → DVR Φ' ρ' y v) → mapO f l = some r → DVRs Φ' ρ' r m
  | _, _, r, .nil, _, h => by simp [mapO] at h; subst h; exact .nil
  | _, _, r, .cons a b l m h1 h2, hf, h => by
    simp only [mapO] at h
    split at h
    · rename_i y r' hy hr
      injection h with h; subst h
      exact .cons _ _ _ _ (hf a List.mem_cons_self b y h1 hy) (mapO_vsim h2 (fun x hx => hf x (List.mem_cons_of_mem _ hx)) hr)
    · cases h
theorem mapO_map_vsim {f : DV → Option DV} {Φ' : Phi} {ρ' : Rn} : ∀ {l : List (Value × DV)} {m : List (Value × Value)} {r : List (Value × DV)}, DMR Φ ρ l m → (∀ e ∈ l, ∀ v y, DVR Φ ρ e.2 v → f e.2 = some y → DVR Φ' ρ' y v) →
    mapO (fun e : Value × DV => (f e.2).map fun y => (e.1, y)) l = some r → DMR Φ' ρ' r m
  | _, _, r, .nil, _, h => by simp [mapO] at h; subst h; exact .nil
  | _, _, r, .cons k x v l m h1 h2, hf, h => by
    simp only [mapO] at h
    split at h
    · rename_i y r' hy hr
      injection h with h; subst h
      simp only [Option.map_eq_some_iff] at hy
      obtain ⟨z, hz, rfl⟩ := hy
      exact .cons _ _ _ _ _ (hf (k, x) List.mem_cons_self v z h1 hz) (mapO_map_vsim h2 (fun x hx => hf x (List.mem_cons_of_mem _ hx)) hr)
    · cases h
theorem chunk_spec (sz : Nat) : ∀ (n : Nat) (l : List Dat), l.length = n * sz → (chunk sz n l).length = n ∧ (∀ r ∈ chunk sz n l, r.length = sz) ∧ (chunk sz n l).flatten = l
  | 0, l, h => by
    have : l = [] := List.eq_nil_of_length_eq_zero (by simpa using h)
    subst this; simp [chunk]
  | n + 1, l, h => by
    rw [Nat.add_mul, Nat.one_mul] at h
    obtain ⟨h1, h2, h3⟩ := chunk_spec sz n (l.drop sz) (by simp; omega)
    refine ⟨by simp [chunk, h1], ?_, by simp [chunk, h3]⟩
    intro r hr
    simp only [chunk, List.mem_cons] at hr
    rcases hr with rfl | hr
    · simp; omega
    · exact h2 r hr
theorem fz_sim (inv : VInv Φ ρ V H) {Φ' : Phi} {ρ' : Rn} {lo : Nat} {pt : Bool} (hle : PLe Φ Φ') (hρ : ∀ id, id < lo ∨ pt = false → ρ' id = ρ id) (hmap : ∀ id i es ver, pt = true → lo ≤ id → V[id]? = some (.map es ver) → ρ id = some (0, i) → Φ' i = H.get i) :
    ∀ (k : Nat) (x : DV) (v : Value) (y : DV), Covers Φ' ρ V H (seen V lo pt k x) → DVR Φ ρ x v → fz V lo pt k x = some y → DVR Φ' ρ' y v := by
  intro k
  induction k with
  | zero => intro x v y _ _ e; cases e
  | succ k ih =>
    intro x v y cov h e
    have many : ∀ {l : List DV} {m : List Value} {r : List DV}, (∀ id, id ∈ l.flatMap (seen V lo pt k) → id ∈ seen V lo pt (k + 1) x) → DVRs Φ ρ l m → mapO (fz V lo pt k) l = some r → DVRs Φ' ρ' r m := by
      intro l m r hs hl hr
      refine mapO_vsim hl (fun z hz w u hw hu => ih z w u (fun id hid => cov id (hs id (List.mem_flatMap.2 ⟨z, hz, hid⟩))) hw hu) hr
    have manyM : ∀ {l : List (Value × DV)} {m : List (Value × Value)} {r : List (Value × DV)}, (∀ id, id ∈ l.flatMap (fun (e : Value × DV) => seen V lo pt k e.2) → id ∈ seen V lo pt (k + 1) x) → DMR Φ ρ l m →
        mapO (fun e : Value × DV => (fz V lo pt k e.2).map fun y => (e.1, y)) l = some r → DMR Φ' ρ' r m := by
      intro l m r hs hl hr
      refine mapO_map_vsim hl (fun z hz w u hw hu => ih z.2 w u (fun id hid => cov id (hs id (List.mem_flatMap.2 ⟨z, hz, hid⟩))) hw hu) hr
    cases x with
    | d x =>
      cases x with
      | v z =>
        obtain ⟨rfl, hf⟩ := dvr_v h
        simp only [fz] at e
        split at e
        · rename_i n cap
          split at e
          · rename_i hc
            obtain ⟨rfl, rfl⟩ := hc
            injection e with e; subst e
            exact .d _ _ .nil
          · cases e
        · injection e with e; subst e
          exact .d _ _ (.v _ hf)
      | rows l =>
        simp only [fz] at e
        injection e with e; subst e
        cases h with
        | d _ _ hd => exact .d _ _ (hd.mono hle)
    | fptr row off =>
      simp only [fz] at e
      injection e with e; subst e
      cases h with
      | fptr _ _ i o cs m h1 h2 h3 => exact .fptr _ _ _ _ _ _ (hle _ _ h1) h2 (h3.mono hle)
    | ptr id g off =>
      simp only [fz] at e
      split at e
      · rename_i hk
        injection e with e; subst e
        have hr := hρ id hk
        cases h with
        | ptr _ _ _ i hi => exact .ptr _ _ _ _ (by rw [hr]; exact hi)
        | ptrOld _ _ _ g' i j o hi hg => exact .ptrOld _ _ _ _ _ _ _ (by rw [hr]; exact hi) hg
      · rename_i hk
        simp only [Option.map_eq_some_iff, Option.bind_eq_some_iff] at e
        obtain ⟨r, ⟨c, hc, c', hc', hr⟩, rfl⟩ := e
        obtain ⟨i, cs, m, lk, ver, h1, h2, h3, h4⟩ := cellsOf_some inv hc
        obtain rfl := dvr_ptr h2 h
        have hs : seen V lo pt (k + 1) (.ptr id g off) = id :: c.flatMap (seen V lo pt k) := by
          simp only [seen, if_neg hk, hc, Option.getD_some]
        have h5 := many (fun j hj => by rw [hs]; exact List.mem_cons_of_mem _ hj) h4 hc'
        have hphi : Φ' i = some (.cells cs m) := by rw [← h3]; exact cov id (by rw [hs]; exact List.mem_cons_self) g i h2 ⟨c, m, lk, ver, h1⟩
        have h6 := h5.datas hr
        have hl := h6.length_eq
        show DVR Φ' ρ' (.fptr r off) (.pointer (some ⟨i, off, none⟩))
        have := DVR.fptr (ρ := ρ') r off i 0 cs m hphi (by omega) (by rw [List.drop_zero, List.take_of_length_le (by omega)]; exact h6)
        simpa using this
    | slc id g off n cap sz =>
      simp only [fz] at e
      split at e
      · rename_i hk
        injection e with e; subst e
        have hr := hρ id (.inl hk)
        cases h with
        | slc _ _ _ _ _ _ i hi hn => exact .slc _ _ _ _ _ _ _ (by rw [hr]; exact hi) hn
        | slcOld _ _ _ _ _ _ g' i j o hi hg => exact .slcOld _ _ _ _ _ _ _ _ _ _ (by rw [hr]; exact hi) hg
      · rename_i hk
        simp only [Option.bind_eq_some_iff] at e
        obtain ⟨c, hc, e⟩ := e
        split at e
        · rename_i hcond
          obtain ⟨hl, hsz, hfit⟩ := hcond
          simp only [Option.map_eq_some_iff, Option.bind_eq_some_iff] at e
          obtain ⟨r, ⟨c', hc', hr⟩, rfl⟩ := e
          obtain ⟨i, cs, m, lk, ver, h1, h2, h3, h4⟩ := cellsOf_some inv hc
          obtain ⟨rfl, hn⟩ := dvr_slc h2 h
          have hs : seen V lo pt (k + 1) (.slc id g off n cap sz) = id :: ((c.drop off).take (n * sz)).flatMap (seen V lo pt k) := by
            simp only [seen, if_neg hk, hc, Option.getD_some]
          have h5 := many (fun j hj => by rw [hs]; exact List.mem_cons_of_mem _ hj) ((h4.drop off).take (n * sz)) hc'
          have hphi : Φ' i = some (.cells cs m) := by rw [← h3]; exact cov id (by rw [hs]; exact List.mem_cons_self) g i h2 ⟨c, m, lk, ver, h1⟩
          have h6 := h5.datas hr
          have hcl := h4.length_eq
          have hl6 := h6.length_eq
          have hrl : r.length = n * sz := by rw [← hl6]; simp; omega
          obtain ⟨q1, q2, q3⟩ := chunk_spec sz n r hrl
          have hfit' : m.fits sz = true := by unfold fitsAt at hfit; rw [h1] at hfit; exact hfit
          have := DataR.rows (chunk sz n r) i off cap sz cs m hphi q2 (fun _ => hfit') (by rw [q1]; exact hn) (by rw [q1]; omega) (by rw [q1, q3]; exact h6)
          rw [q1] at this
          exact .d _ _ this
        · cases e
    | map id =>
      simp only [fz] at e
      split at e
      · rename_i hk
        injection e with e; subst e
        have hr := hρ id hk
        cases h with
        | map _ i hi => exact .map _ _ (by rw [hr]; exact hi)
        | mapOld _ g i j hi hg => exact .mapOld _ _ _ _ (by rw [hr]; exact hi) hg
      · rename_i hk
        split at e
        · rename_i es ver hb
          simp only [Option.map_eq_some_iff] at e
          obtain ⟨r, hr, rfl⟩ := e
          obtain ⟨i, fs, h1, h2, h3, _⟩ := inv.maps _ _ _ hb
          obtain rfl := dvr_map h1 h
          have hs : seen V lo pt (k + 1) (.map id) = id :: es.flatMap fun (e : Value × DV) => seen V lo pt k e.2 := by
            simp only [seen, if_neg hk, hb]
          have h5 := manyM (fun j hj => by rw [hs]; exact List.mem_cons_of_mem _ hj) h3 hr
          refine .fmap _ i fs ?_ h5
          rw [← h2]
          refine hmap id i es ver ?_ ?_ hb h1
          · cases pt with
            | true => rfl
            | false => exact absurd (Or.inr rfl) hk
          · exact Nat.le_of_not_lt fun h => hk (.inl h)
        · cases e
    | fmap es =>
      simp only [fz, Option.map_eq_some_iff] at e
      obtain ⟨r, hr, rfl⟩ := e
      cases h with
      | fmap _ i fs h1 h2 => exact .fmap _ i fs (hle _ _ h1) (manyM (fun j hj => by simpa [seen] using hj) h2 hr)
    | func f a c =>
      simp only [fz] at e
      split at e
      · rename_i hk
        injection e with e; subst e
        have hrle : RLe ρ ρ' := fun id g i hi => ⟨g, i, by rw [hρ id (.inr hk)]; exact hi, .inr ⟨rfl, rfl⟩⟩
        exact h.mono hle hrle
      · rename_i hk
        split at e
        · rename_i a' c' ha hc
          injection e with e; subst e
          have hs : seen V lo pt (k + 1) (.func f a c) = a.flatMap (seen V lo pt k) ++ c.flatMap (seen V lo pt k) := by simp only [seen, if_neg hk]
          cases h with
          | func _ _ _ u w h1 h2 =>
            exact .func _ _ _ _ _ (many (fun j hj => by rw [hs]; exact List.mem_append_left _ hj) h1 ha) (many (fun j hj => by rw [hs]; exact List.mem_append_right _ hj) h2 hc)
        · cases e
    | iface t z =>
      simp only [fz, Option.map_eq_some_iff] at e
      obtain ⟨r, hr, rfl⟩ := e
      cases h with
      | iface _ _ w h1 => exact .iface _ _ _ (ih z w r (fun id hid => cov id (by simpa [seen] using hid)) h1 hr)
    | agg l =>
      simp only [fz, Option.map_eq_some_iff] at e
      obtain ⟨r, hr, rfl⟩ := e
      cases h with
      | agg _ l' h1 => exact .agg _ _ (many (fun j hj => by simpa [seen] using hj) h1 hr)
    | tuple l =>
      simp only [fz, Option.map_eq_some_iff] at e
      obtain ⟨r, hr, rfl⟩ := e
      cases h with
      | tuple _ l' h1 => exact .tuple _ _ (many (fun j hj => by simpa [seen] using hj) h1 hr)
end
end Go.Abs
/- The machine of values: places and lengths; what writes, beside the abstract machine. -/
namespace Go.Abs
open Go Go.RowKit
set_option linter.unusedVariables false
set_option linter.unusedSimpArgs false

section
variable {P : Program} {Φ : Phi} {ρ : Rn} {V : VHeap} {H : Heap}

/-- A place moved on. -/
theorem dvr_ptr_add {id g off o : Nat} {v : Value} (h : DVR Φ ρ (.ptr id g off) v) : ∃ i a, v = .pointer (some ⟨i, a, none⟩) ∧ DVR Φ ρ (.ptr id g (off + o)) (.pointer (some ⟨i, a + o, none⟩)) := by
  cases h with
  | ptr _ _ _ i hi => exact ⟨_, _, rfl, .ptr _ _ _ _ hi⟩
  | ptrOld _ _ _ g' i j o' hi hg => exact ⟨_, _, rfl, .ptrOld _ _ _ _ _ _ _ hi hg⟩
theorem dvr_fptr_add {row : List Dat} {off o : Nat} {v : Value} (h : DVR Φ ρ (.fptr row off) v) : ∃ i a, v = .pointer (some ⟨i, a, none⟩) ∧ DVR Φ ρ (.fptr row (off + o)) (.pointer (some ⟨i, a + o, none⟩)) := by
  cases h with
  | fptr _ _ i b cs m h1 h2 h3 => exact ⟨_, _, rfl, by rw [Nat.add_assoc]; exact .fptr _ _ _ _ _ _ h1 h2 h3⟩
theorem fieldAddr_vsim {s : TypeId} {x y : DV} {x' : Value} {f : Nat} (hx : DVR Φ ρ x x') (e : vfieldAddr P s x f = some y) : ∃ v, afieldAddr P s x' f = some v ∧ DVR Φ ρ y v := by
  unfold vfieldAddr at e
  split at e
  · rename_i id g off o u size hf
    split at e
    · cases e
    · rename_i hs
      injection e with e; subst e
      obtain ⟨i, a, rfl, h2⟩ := dvr_ptr_add (o := o) hx
      exact ⟨_, by unfold afieldAddr; simp only [hf]; rw [if_neg hs]; rfl, h2⟩
  · rename_i row off o u size hf
    split at e
    · cases e
    · rename_i hs
      injection e with e; subst e
      obtain ⟨i, a, rfl, h2⟩ := dvr_fptr_add (o := o) hx
      exact ⟨_, by unfold afieldAddr; simp only [hf]; rw [if_neg hs]; rfl, h2⟩
  · cases e
theorem field_vsim {t : TypeId} {x y : DV} {x' : Value} {f : Nat} (hx : DVR Φ ρ x x') (e : vfield P t x f = some y) : ∃ v, afield P t x' f = some v ∧ DVR Φ ρ y v := by
  unfold vfield at e
  split at e
  · rename_i cs o u size hf
    cases hx with
    | agg _ l' hl =>
      obtain ⟨v, h1, h2⟩ := part_vsim hl e
      exact ⟨v, by unfold afield; simp only [hf]; exact h1, h2⟩
  · cases e
theorem indexAddr_vsim {t : TypeId} {x ix y : DV} {x' ix' : Value} (hx : DVR Φ ρ x x') (hi : DVR Φ ρ ix ix') (e : vindexAddr P t x ix = some y) : ∃ v, aindexAddr P t x' ix' = some v ∧ DVR Φ ρ y v := by
  unfold vindexAddr at e
  split at e
  rotate_left
  · cases e
  rename_i k i hix
  obtain ⟨rfl, _⟩ := toV_eq hi hix
  split at e
  · rename_i id g off
    split at e
    · rename_i n el size ha
      split at e
      · rename_i hc
        injection e with e; subst e
        obtain ⟨i', a, rfl, h2⟩ := dvr_ptr_add (o := i.toNat * size) hx
        exact ⟨_, by unfold aindexAddr; simp only [ha]; rw [if_pos hc]; rfl, h2⟩
      · cases e
    · cases e
  · rename_i row off
    split at e
    · rename_i n el size ha
      split at e
      · rename_i hc
        injection e with e; subst e
        obtain ⟨i', a, rfl, h2⟩ := dvr_fptr_add (o := i.toNat * size) hx
        exact ⟨_, by unfold aindexAddr; simp only [ha]; rw [if_pos hc]; rfl, h2⟩
      · cases e
    · cases e
  · rename_i id g off len cap sz
    split at e
    · rename_i el size by_ ha
      split at e
      · rename_i hc
        injection e with e; subst e
        cases hx with
        | slc _ _ _ _ _ _ j hj hn => exact ⟨ptr j (off + i.toNat * size), by unfold aindexAddr; simp only [ha]; rw [if_pos hc], .ptr _ _ _ _ hj⟩
        | slcOld _ _ _ _ _ _ g' j k2 o hj hg => exact ⟨ptr k2 (o + i.toNat * size), by unfold aindexAddr; simp only [ha]; rw [if_pos hc], .ptrOld _ _ _ _ _ _ _ hj hg⟩
      · cases e
    · cases e
  · rename_i l
    split at e
    · rename_i el size by_ ha
      split at e
      · rename_i hc
        simp only [Option.bind_eq_some_iff] at e
        obtain ⟨r, hr, e⟩ := e
        split at e
        · rename_i hrs
          injection e with e; subst e
          have hlt : i.toNat < l.length := by
            rcases Nat.lt_or_ge i.toNat l.length with h' | h'
            · exact h'
            · rw [List.getElem?_eq_none h'] at hr; cases hr
          have hmem := List.mem_of_getElem? hr
          cases hx with
          | d _ _ hd =>
            cases hd with
            | nil => simp at hlt
            | cut => simp at hlt
            | rows _ j off cap sz cs m h1 h2 h3 h4 h5 h6 =>
              have hsz : sz = size := by rw [← h2 r hmem, hrs]
              subst hsz
              refine ⟨ptr j (off + i.toNat * sz), by unfold aindexAddr; simp only [ha]; rw [if_pos ⟨hc, by omega⟩], ?_⟩
              have hm : (i.toNat + 1) * sz ≤ l.length * sz := Nat.mul_le_mul_right _ hlt
              rw [Nat.add_mul, Nat.one_mul] at hm
              have hrow : r = (l.flatten.drop (i.toNat * sz)).take sz := by
                rw [← flatten_drop l sz _ h2 (by omega)]
                have : l.drop i.toNat = r :: l.drop (i.toNat + 1) := by
                  rw [List.drop_eq_getElem_cons hlt]
                  congr 1
                  rw [List.getElem?_eq_getElem hlt] at hr; injection hr
                rw [this, List.flatten_cons, List.take_append, hrs, Nat.sub_self, List.take_zero, List.append_nil, List.take_of_length_le (Nat.le_of_eq hrs)]
              have := (h6.drop (i.toNat * sz)).take sz
              rw [take_drop_take _ _ _ _ _ (by omega), ← hrow] at this
              show DVR Φ ρ (.fptr r 0) (.pointer (some ⟨j, (off + i.toNat * sz) + 0, none⟩))
              exact .fptr r 0 j (off + i.toNat * sz) cs m h1 (by omega) (by rw [hrs]; exact this)
        · cases e
      · cases e
    · cases e
  · cases e
theorem index_vsim {t : TypeId} {x ix y : DV} {x' ix' : Value} (hx : DVR Φ ρ x x') (hi : DVR Φ ρ ix ix') (e : vindex P t x ix = some y) : ∃ v, aindex P t x' ix' = some v ∧ DVR Φ ρ y v := by
  unfold vindex at e
  split at e
  rotate_left
  · cases e
  rename_i k i hix
  obtain ⟨rfl, _⟩ := toV_eq hi hix
  split at e
  · rename_i cs
    split at e
    · rename_i n el size ha
      split at e
      · rename_i hc
        cases hx with
        | agg _ l' hl =>
          obtain ⟨v, h1, h2⟩ := part_vsim hl e
          exact ⟨v, by unfold aindex; simp only [ha]; rw [if_pos hc]; exact h1, h2⟩
      · cases e
    · cases e
  · rename_i s
    obtain ⟨rfl, _⟩ := dvr_v hx
    simp only [Option.map_eq_some_iff] at e
    obtain ⟨v, hv, rfl⟩ := e
    refine ⟨v, hv, dvr_dv ?_⟩
    unfold aindex at hv
    simp only at hv
    split at hv
    · split at hv
      · injection hv with hv; subst hv; rfl
      · cases hv
    · cases hv
  · cases e
theorem vlen_vsim (inv : VInv Φ ρ V H) {t : TypeId} {x y : DV} {x' : Value} (hx : DVR Φ ρ x x') (e : vlen P t x V = some y) : ∃ v, alen P t x' H = some v ∧ DVR Φ ρ y v := by
  cases x <;> simp only [vlen] at e
  case func => cases e
  case iface => cases e
  case tuple => cases e
  case map id =>
    split at e
    · rename_i es ver y hb hm
      injection e with e; subst e
      obtain ⟨i, fs, h1, h2, h3, _⟩ := inv.maps _ _ _ hb
      have := dvr_map h1 hx
      subst this
      refine ⟨.int .i64 es.length, ?_, dvr_int _ _⟩
      unfold alen; simp only [h2, hm, h3.length_eq]
    · cases e
  case fmap es =>
    simp only [Option.map_eq_some_iff] at e
    obtain ⟨m, hm, rfl⟩ := e
    cases hx with
    | fmap _ i fs h1 h2 =>
      refine ⟨.int .i64 es.length, ?_, dvr_int _ _⟩
      unfold alen; simp only [inv.phi _ _ h1, hm, h2.length_eq]
  case slc id g off n cap sz =>
    simp only [Option.map_eq_some_iff] at e
    obtain ⟨m, hm, rfl⟩ := e
    refine ⟨.int .i64 n, ?_, dvr_int _ _⟩
    cases hx <;> (unfold alen; simp [hm])
  case agg l =>
    simp only [Option.map_eq_some_iff] at e
    obtain ⟨m, hm, rfl⟩ := e
    refine ⟨.int .i64 m.1, ?_, dvr_int _ _⟩
    cases hx with
    | agg => unfold alen; simp [hm]
  case ptr id g off =>
    obtain ⟨i, a, rfl, _⟩ := dvr_ptr_add (o := 0) hx
    unfold alen
    split at e
    · rename_i a hu
      simp only [Option.map_eq_some_iff] at e
      obtain ⟨m, hm, rfl⟩ := e
      exact ⟨.int .i64 m.1, by simp [hu, hm], dvr_int _ _⟩
    · rename_i n _ hu
      injection e with e; subst e
      exact ⟨.int .i64 n, by simp [hu], dvr_int _ _⟩
    · cases e
  case fptr row off =>
    obtain ⟨i, a, rfl, _⟩ := dvr_fptr_add (o := 0) hx
    unfold alen
    split at e
    · rename_i a hu
      simp only [Option.map_eq_some_iff] at e
      obtain ⟨m, hm, rfl⟩ := e
      exact ⟨.int .i64 m.1, by simp [hu, hm], dvr_int _ _⟩
    · rename_i n _ hu
      injection e with e; subst e
      exact ⟨.int .i64 n, by simp [hu], dvr_int _ _⟩
    · cases e
  case d x =>
    cases x with
    | rows l =>
      simp only [vlen, Option.map_eq_some_iff] at e
      obtain ⟨m, hm, rfl⟩ := e
      refine ⟨.int .i64 l.length, ?_, dvr_int _ _⟩
      cases hx with
      | d _ _ hd =>
        cases hd with
        | nil => unfold alen; simp [hm]
        | cut => unfold alen cutV; simp [hm]
        | rows => unfold alen; simp [hm]
    | v y =>
      simp only [vlen] at e
      split at e
      · cases e
      · rename_i hno
        obtain ⟨rfl, hf⟩ := dvr_v hx
        simp only [Option.map_eq_some_iff] at e
        obtain ⟨v, hv, rfl⟩ := e
        have key : alen P t x' H = alen P t x' Heap.nil := by
          unfold alen
          split
          · exact absurd rfl (hno _)
          all_goals rfl
        rw [key]
        refine ⟨v, hv, dvr_dv ?_⟩
        unfold alen at hv
        split at hv
        · exact absurd rfl (hno _)
        · simp only [Option.map_eq_some_iff] at hv; obtain ⟨_, _, rfl⟩ := hv; rfl
        · simp only [Option.map_eq_some_iff] at hv; obtain ⟨_, _, rfl⟩ := hv; rfl
        · split at hv
          · injection hv with hv; subst hv; rfl
          · cases hv
        · simp only [Option.map_eq_some_iff] at hv; obtain ⟨_, _, rfl⟩ := hv; rfl
        · split at hv
          · simp only [Option.map_eq_some_iff] at hv; obtain ⟨_, _, rfl⟩ := hv; rfl
          · injection hv with hv; subst hv; rfl
          · cases hv
        · cases hv

/-! What writes -/
theorem storeAt_vsim (inv : VInv Φ ρ V H) {id g off i : Nat} {vs : List DV} {ws : List Value} {V' : VHeap} (hi : ρ id = some (g, i)) (hv : DVRs Φ ρ vs ws) (e : vstoreAt id g off vs V = some V') :
    ∃ H', astoreAt i off ws H = some H' ∧ VInv Φ ρ V' H' ∧ Tr Φ ρ V H Φ ρ V' H' := by
  unfold vstoreAt at e
  split at e
  · rename_i c m g' ver hb
    split at e
    · rename_i hc
      obtain ⟨rfl, hm, hl, hs⟩ := hc
      injection e with e; subst e
      obtain ⟨i0, cs, h1, h2, h3, h4, h5⟩ := inv.cells _ _ _ _ _ _ hb
      rw [hi] at h1; injection h1 with h1; injection h1 with _ h1; subst h1
      obtain ⟨k1, k2⟩ := inv.write hb hi (c' := writeD c off vs) (cs' := writeAt cs off ws) (DVRs.write _ _ _ hv h3)
      refine ⟨_, ?_, k1, k2⟩
      unfold astoreAt
      simp only [h2]
      rw [if_pos ⟨hm, by rw [hv.length_eq, h3.length_eq]; exact hl, dvrs_scal hv hs⟩]
    · cases e
  · cases e
theorem store_vsim (inv : VInv Φ ρ V H) {t : TypeId} {a x : DV} {a' x' : Value} {V' : VHeap} (ha : DVR Φ ρ a a') (hx : DVR Φ ρ x x') (e : vstore P t a x V = some V') :
    ∃ H', astore P t a' x' H = some H' ∧ VInv Φ ρ V' H' ∧ Tr Φ ρ V H Φ ρ V' H' := by
  unfold vstore at e
  split at e
  · rename_i id g off
    split at e
    · rename_i hs
      have hgen : ∃ i, ρ id = some (g, i) := by
        have e2 := e
        unfold vstoreAt at e2
        split at e2
        · rename_i c m g' ver hb
          split at e2
          · rename_i hc
            obtain ⟨i0, cs, h1, _⟩ := inv.cells _ _ _ _ _ _ hb
            exact ⟨i0, by rw [← hc.1]; exact h1⟩
          · cases e2
        · cases e2
      obtain ⟨i, hi⟩ := hgen
      obtain rfl := dvr_ptr hi ha
      have hc := dvr_cells hx
      obtain ⟨H', h1, h2, h3⟩ := storeAt_vsim inv hi hc e
      refine ⟨H', ?_, h2, h3⟩
      unfold astore ptr
      simp only
      rw [if_pos (by rw [hs]; have := hc.length_eq; simp at this; rw [this]), h1]
    · cases e
  · cases e
theorem grow_vsim (inv : VInv Φ ρ V H) {elem size n : Nat} {s x : DV} {xs : List DV} {ys : List Value} {V' : VHeap} {len cap : Nat} {base : Option Addr} (hs : DVR Φ ρ s (.slice base len cap)) (hxs : DVRs Φ ρ xs ys) (e : vgrow elem size n s xs V = some (x, V')) :
    ∃ v H' ρ', agrow elem size len n base cap ys H = some (v, H') ∧ DVR Φ ρ' x v ∧ VInv Φ ρ' V' H' ∧ Tr Φ ρ V H Φ ρ' V' H' := by
  unfold vgrow at e
  split at e
  · rename_i len0 cap0
    obtain ⟨h, _⟩ := dvr_v hs
    injection h with h1 h2 h3; subst h1; subst h2; subst h3
    split at e
    · rename_i h0
      obtain ⟨rfl, rfl⟩ := h0
      split at e
      · rename_i hn
        subst hn
        injection e with e; injection e with e1 e2; subst e1; subst e2
        exact ⟨_, H, ρ, by simp [agrow], dvr_dv rfl, inv, Tr.refl _ _ _ _⟩
      · rename_i hn
        injection e with e; injection e with e1 e2; subst e1; subst e2
        obtain ⟨k1, k2⟩ := inv.push (m := .grown size) hxs
        exact ⟨slc H.n 0 n n, _, _, by unfold agrow; rw [if_neg (by omega)]; simp, .slc _ _ _ _ _ _ _ (Rn.upd_same _ _ _) (Nat.le_refl _), k1, k2⟩
    · cases e
  · rename_i id g off len0 cap0 sz
    have hlen : len0 = len ∧ cap0 = cap := by cases hs <;> exact ⟨rfl, rfl⟩
    obtain ⟨rfl, rfl⟩ := hlen
    split at e
    · rename_i hle
      split at e
      · rename_i hn
        subst hn
        injection e with e; injection e with e1 e2; subst e1; subst e2
        exact ⟨_, H, ρ, by unfold agrow; rw [if_pos hle, if_pos rfl], hs, inv, Tr.refl _ _ _ _⟩
      · rename_i hn
        simp only [Option.map_eq_some_iff] at e
        obtain ⟨V1, hst, e⟩ := e
        injection e with e1 e2; subst e1; subst e2
        have hgen : ∃ i, ρ id = some (g, i) := by
          have e2 := hst
          unfold vstoreAt at e2
          split at e2
          · rename_i c m g' ver hb
            split at e2
            · rename_i hc
              obtain ⟨i0, cs, h1, _⟩ := inv.cells _ _ _ _ _ _ hb
              exact ⟨i0, by rw [← hc.1]; exact h1⟩
            · cases e2
          · cases e2
        obtain ⟨i, hi⟩ := hgen
        obtain ⟨h, hlc⟩ := dvr_slc hi hs
        injection h with h1 h2 h3; subst h1
        obtain ⟨H', k1, k2, k3⟩ := storeAt_vsim inv hi hxs hst
        exact ⟨slc i off (len0 + n) cap0, H', ρ, by unfold agrow; rw [if_pos hle, if_neg hn]; simp [k1, slc], .slc _ _ _ _ _ _ _ hi hle, k2, k3⟩
    · rename_i hgt
      split at e
      · rename_i c lk g' ver hb
        split at e
        · rename_i hg
          subst hg
          simp only [Option.map_eq_some_iff] at e
          obtain ⟨old, ho, e⟩ := e
          injection e with e1 e2; subst e1; subst e2
          obtain ⟨i, cs, h1, h2, h3, _⟩ := inv.cells _ _ _ _ _ _ hb
          obtain ⟨h, hlc⟩ := dvr_slc h1 hs
          injection h with q1 q2 q3; subst q1
          obtain ⟨os, p1, p2⟩ := first_vsim inv hs ho
          obtain ⟨k1, k2⟩ := inv.push (m := .grown size) (p2.append hxs)
          refine ⟨slc H.n 0 (len0 + n) (len0 + n), _, _, ?_, .slc _ _ _ _ _ _ _ (Rn.upd_same _ _ _) (Nat.le_refl _), k1, k2⟩
          unfold agrow
          rw [if_neg hgt]
          simp only [h2]
          rw [p1]; rfl
        · cases e
      · rename_i c es g' ver hb
        split at e
        · rename_i hg
          obtain ⟨rfl, rfl⟩ := hg
          simp only [Option.map_eq_some_iff] at e
          obtain ⟨old, ho, e⟩ := e
          injection e with e1 e2; subst e1; subst e2
          obtain ⟨i, cs, h1, h2, h3, _⟩ := inv.cells _ _ _ _ _ _ hb
          obtain ⟨h, hlc⟩ := dvr_slc h1 hs
          injection h with q1 q2 q3; subst q1
          obtain ⟨os, p1, p2⟩ := first_vsim inv hs ho
          obtain ⟨k1, k2⟩ := inv.regrow (m' := .grown es) hb h1 (p2.append hxs)
          refine ⟨slc H.n 0 (len0 + n) (len0 + n), _, _, ?_, .slc _ _ _ _ _ _ _ (Rn.upd_same _ _ _) (Nat.le_refl _), k1, k2⟩
          unfold agrow
          rw [if_neg hgt]
          simp only [h2, if_true]
          rw [p1]; rfl
        · cases e
      · cases e
  · cases e
theorem append_vsim (inv : VInv Φ ρ V H) {ts : Array TypeId} {args : List DV} {args' : List Value} {x : DV} {V' : VHeap} (ha : DVRs Φ ρ args args') (e : vappend P ts args V = some (x, V')) :
    ∃ v H' Φ' ρ', aappend P ts ⟨args'⟩ H = some (v, H') ∧ DVR Φ' ρ' x v ∧ VInv Φ' ρ' V' H' ∧ Tr Φ ρ V H Φ' ρ' V' H' := by
  unfold vappend at e
  split at e
  rotate_left
  · cases e
  rename_i s y sT yT hts
  cases ha with
  | cons _ s' _ _ hs ha =>
    cases ha with
    | cons _ y' _ _ hy ha =>
      cases ha
      split at e
      · rename_i elem size bytes zeros he hz
        split at e
        · rename_i n xs z hn hzt
          split at e
          rotate_left
          · cases e
          rename_i xs2 hfz
          split at e
          · rename_i hc
            obtain ⟨cs, k1, k2⟩ := new_vsim inv hy hn
            obtain ⟨Φ1, t1, i1, c1⟩ := lockAll_sim (xs.flatMap (seen V 0 false fzN)) inv
            have k3 : DVRs Φ1 ρ xs2 cs := mapO_vsim k2 (fun x hx v y hxv hy => fz_sim (lo := 0) (pt := false) inv t1.phi (fun _ _ => rfl) (fun id i es ver h => by cases h) fzN x v y (fun id hid => c1 id (List.mem_flatMap.2 ⟨x, hx, hid⟩)) hxv hy) hfz
            have hsl : ∃ base len cap, s' = .slice base len cap ∧ len = lenS s := by
              unfold vgrow at e
              split at e
              · split at e
                · rename_i h0
                  obtain ⟨rfl, rfl⟩ := h0
                  obtain ⟨rfl, _⟩ := dvr_v hs; exact ⟨_, _, _, rfl, rfl⟩
                · cases e
              · cases hs <;> exact ⟨_, _, _, rfl, rfl⟩
              · cases e
            obtain ⟨base, len, cap, rfl, hlen⟩ := hsl
            obtain ⟨v, H', ρ', g1, g2, g3, g4⟩ := grow_vsim i1 (hs.mono t1.phi (RLe.refl _)) k3 e
            refine ⟨v, H', Φ1, ρ', ?_, g2, g3, t1.trans g4⟩
            unfold aappend
            simp only [hts, he, hz, k1, hzt]
            rw [if_pos (by
              obtain ⟨q1, q2, q3, q4, q5, q6⟩ := hc
              rw [zD_length] at q1
              exact ⟨q1, dvrs_scal k3 q2, q3, q4, q5, by rw [hlen]; exact q6⟩)]
            exact g1
          · cases e
        · cases e
      · cases e
theorem copy_vsim (inv : VInv Φ ρ V H) {ts : Array TypeId} {args : List DV} {args' : List Value} {x : DV} {V' : VHeap} (ha : DVRs Φ ρ args args') (e : vcopy P ts args V = some (x, V')) :
    ∃ v H', acopy P ts ⟨args'⟩ H = some (v, H') ∧ DVR Φ ρ x v ∧ VInv Φ ρ V' H' ∧ Tr Φ ρ V H Φ ρ V' H' := by
  unfold vcopy at e
  split at e
  rotate_left
  · cases e
  rename_i s y dT rest hts
  cases ha with
  | cons _ s' _ _ hs ha =>
    cases ha with
    | cons _ y' _ _ hy ha =>
      cases ha
      split at e
      · rename_i elem size bytes dLen m he hd hm
        split at e
        · rename_i xs hx
          obtain ⟨cs, k1, k2⟩ := first_vsim inv hy hx
          have hm' := len_vsim hy hm
          have hd' := len_vsim hs hd
          split at e
          · rename_i hsc
            have hsl : ∃ base cap, s' = .slice base dLen cap := by
              have hsl := hsc.2
              unfold isSlc at hsl
              split at hsl
              · simp only [lenD, Option.some.injEq] at hd; subst hd
                cases hs <;> exact ⟨_, _, rfl⟩
              · simp only [lenD, Option.some.injEq] at hd; subst hd
                cases hs with
                | d _ _ hdd => cases hdd <;> exact ⟨_, _, rfl⟩
              · obtain ⟨rfl, _⟩ := dvr_v hs
                simp only [lenV, Option.some.injEq] at hd'; subst hd'
                exact ⟨_, _, rfl⟩
              · cases hsl
            obtain ⟨base, cap, rfl⟩ := hsl
            have hl := k2.length_eq
            split at e
            · rename_i h0
              injection e with e; injection e with e1 e2; subst e1; subst e2
              have hcs : cs = [] := List.eq_nil_of_length_eq_zero (by omega)
              subst hcs
              refine ⟨.int .i64 (Nat.min m dLen), H, ?_, dvr_int _ _, inv, Tr.refl _ _ _ _⟩
              unfold acopy
              simp only [hts, he, hm', k1]
              simp
            · rename_i h0
              have hcs : cs ≠ [] := by rintro rfl; simp at hl; omega
              split at e
              · rename_i id g off n0 c0 z0
                simp only [Option.map_eq_some_iff] at e
                obtain ⟨V1, hst, e⟩ := e
                injection e with e1 e2; subst e1; subst e2
                have hgen : ∃ i, ρ id = some (g, i) := by
                  have e2 := hst
                  unfold vstoreAt at e2
                  split at e2
                  · rename_i c m g' ver hb
                    split at e2
                    · rename_i hc
                      obtain ⟨i0, cs, h1, _⟩ := inv.cells _ _ _ _ _ _ hb
                      exact ⟨i0, by rw [← hc.1]; exact h1⟩
                    · cases e2
                  · cases e2
                obtain ⟨i, hi⟩ := hgen
                obtain ⟨h, hlc⟩ := dvr_slc hi hs
                injection h with h1 h2 h3; subst h1
                obtain ⟨H', q1, q2, q3⟩ := storeAt_vsim inv hi k2 hst
                refine ⟨.int .i64 (Nat.min m dLen), H', ?_, dvr_int _ _, q2, q3⟩
                unfold acopy
                simp only [hts, he, hm', k1]
                rw [if_pos (dvrs_scal k2 hsc.1), if_neg hcs, q1]; rfl
              · cases e
          · cases e
        · cases e
      · cases e
end
end Go.Abs
