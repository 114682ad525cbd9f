/- Of this session: a machine of its own, proved beside the model, and what the functions of the row come to on it; Lean checks all of it. -/
import Derived.Calls
import Derived.Below
import Derived.Orders
import GoSem.Dispatch
import Derived.Laws.IdiomCopy
set_option linter.unusedVariables false
set_option linter.unusedSimpArgs false
set_option linter.unusedSectionVars false
/- The abstract machine: a run of the program's code over a heap of plain lists, in one order, with growing rows moved. Definitions. -/
namespace Go.Abs
open Go Go.RowKit
set_option linter.unusedVariables false

inductive Md where
  | ro
  | fix
  | grown (es : Nat)
  deriving DecidableEq

inductive Blk where
  | cells (c : List Value) (m : Md)
  | map (es : List (Value × Value))
  | dead

/-- A heap: blocks, the newest first. -/
structure Heap where
  n : Nat
  l : List Blk

def Heap.get (H : Heap) (i : Nat) : Option Blk := if i < H.n then H.l[H.n - 1 - i]? else none
def Heap.push (H : Heap) (b : Blk) : Heap := ⟨H.n + 1, b :: H.l⟩
def Heap.set (H : Heap) (i : Nat) (b : Blk) : Heap := if i < H.n then ⟨H.n, H.l.set (H.n - 1 - i) b⟩ else H
def Heap.nil : Heap := ⟨0, []⟩

theorem Heap.get_push (H : Heap) (b : Blk) (i : Nat) : (H.push b).get i = if i = H.n then some b else H.get i := by
  unfold Heap.push Heap.get
  simp only
  by_cases h : i = H.n
  · subst h; simp
  · by_cases h2 : i < H.n
    · rw [if_pos (by omega), if_neg h, if_pos h2]
      have : H.n + 1 - 1 - i = (H.n - 1 - i) + 1 := by omega
      rw [this]; simp
    · rw [if_neg (by omega), if_neg h, if_neg h2]
theorem Heap.get_set (H : Heap) (b : Blk) (i j : Nat) : (H.set i b).get j = if i = j then (H.get j).map (fun _ => b) else H.get j := by
  unfold Heap.set Heap.get
  by_cases h : i < H.n
  · simp only [if_pos h]
    by_cases e : i = j
    · subst e
      simp only [if_pos h, if_pos rfl, List.getElem?_set]
      by_cases h3 : H.n - 1 - i < H.l.length
      · simp [h3]
      · simp [h3]
    · simp only [if_neg e]
      by_cases h2 : j < H.n
      · simp only [if_pos h2]
        rw [List.getElem?_set_ne (by omega)]
      · simp only [if_neg h2]
  · simp only [if_neg h]
    by_cases e : i = j
    · subst e; simp [h]
    · simp [e]
theorem Heap.get_lt {H : Heap} {i : Nat} {b : Blk} (h : H.get i = some b) : i < H.n := by
  unfold Heap.get at h; split at h
  · assumption
  · cases h
@[simp] theorem Heap.push_n (H : Heap) (b : Blk) : (H.push b).n = H.n + 1 := rfl
@[simp] theorem Heap.set_n (H : Heap) (i : Nat) (b : Blk) : (H.set i b).n = H.n := by unfold Heap.set; split <;> rfl

/-- What a computation gives that asks nothing of the world. -/
def purely (P : Program) {α : Type} : Sem α → Option α
  | .pure a => some a
  | .program k => purely P (k P)
  | .mark _ k => purely P k
  | _ => none

theorem purely_run {P : Program} {α : Type} (w : World) : ∀ (s : Sem α) (a : α), purely P s = some a → s.run P w = .ok a w := by
  intro s
  induction s with
  | pure a => intro b h; simp [purely] at h; subst h; rfl
  | program k ih => intro b h; exact ih P b h
  | mark m k ih => intro b h; exact ih b h
  | _ => intro b h; simp [purely] at h

theorem purely_bind (P : Program) {α β : Type} (s : Sem α) (f : α → Sem β) : purely P (s >>= f) = (purely P s).bind fun a => purely P (f a) := by
  show purely P (s.bind f) = _
  induction s with
  | pure a => rfl
  | program k ih => exact ih P
  | mark m k ih => exact ih
  | _ => rfl
theorem purely_pure (P : Program) {α : Type} (a : α) : purely P (pure a : Sem α) = some a := rfl

/-! Values without an address -/
mutual
def flat : Value → Bool
  | .bool _ | .int _ _ | .float _ _ | .complex _ _ _ | .string _ | .pointer none | .slice none _ _ | .map none | .chan none | .nilFunc | .nilIface => true
  | .agg cs => flatA cs
  | .tuple vs => flatA vs
  | .iface _ v => flat v
  | .func _ f c => flatA f && flatA c
  | _ => false
def flatA : Array Value → Bool
  | ⟨l⟩ => flatL l
def flatL : List Value → Bool
  | [] => true
  | v :: l => flat v && flatL l
end

/-- One cell's value. -/
def scal : Value → Bool
  | .agg _ | .tuple _ => false
  | _ => true

/-! Equality of values, decided -/
mutual
def veq : Value → Value → Bool
  | .bool a, .bool b => a == b
  | .int k a, .int j b => decide (k = j) && decide (a = b)
  | .float k a, .float j b => decide (k = j) && decide (a = b)
  | .complex k a b, .complex j c d => decide (k = j) && decide (a = c) && decide (b = d)
  | .string a, .string b => decide (a = b)
  | .pointer a, .pointer b => decide (a = b)
  | .slice a n c, .slice b m d => decide (a = b) && decide (n = m) && decide (c = d)
  | .map a, .map b => decide (a = b)
  | .chan a, .chan b => decide (a = b)
  | .nilFunc, .nilFunc => true
  | .nilIface, .nilIface => true
  | .agg a, .agg b => veqA a b
  | .tuple a, .tuple b => veqA a b
  | .iface t a, .iface u b => decide (t = u) && veq a b
  | .func f a b, .func g c d => decide (f = g) && veqA a c && veqA b d
  | _, _ => false
def veqA : Array Value → Array Value → Bool
  | ⟨a⟩, ⟨b⟩ => veqL a b
def veqL : List Value → List Value → Bool
  | [], [] => true
  | a :: l, b :: m => veq a b && veqL l m
  | _, _ => false
end
mutual
theorem veq_sound : ∀ (a b : Value), veq a b = true → a = b := by
  intro a b h
  cases a <;> cases b <;> simp [veq] at h <;> try (simp_all; done)
  case agg.agg x y => rw [veqA_sound x y h]
  case tuple.tuple x y => rw [veqA_sound x y h]
  case iface.iface t x u y => obtain ⟨h1, h2⟩ := h; subst h1; rw [veq_sound x y h2]
  case func.func f x y g u v => obtain ⟨⟨h1, h2⟩, h3⟩ := h; subst h1; rw [veqA_sound x u h2, veqA_sound y v h3]
theorem veqA_sound : ∀ (a b : Array Value), veqA a b = true → a = b
  | ⟨a⟩, ⟨b⟩, h => by rw [veqL_sound a b (by simpa [veqA] using h)]
theorem veqL_sound : ∀ (a b : List Value), veqL a b = true → a = b
  | [], [], _ => rfl
  | [], _ :: _, h => by simp [veqL] at h
  | _ :: _, [], h => by simp [veqL] at h
  | a :: l, b :: m, h => by
    simp [veqL] at h
    rw [veq_sound a b h.1, veqL_sound l m h.2]
end
mutual
theorem veq_refl : ∀ (a : Value), veq a a = true := by
  intro a
  cases a <;> simp [veq]
  case agg x => exact veqA_refl x
  case tuple x => exact veqA_refl x
  case iface t x => exact veq_refl x
  case func f x y => exact ⟨veqA_refl x, veqA_refl y⟩
theorem veqA_refl : ∀ (a : Array Value), veqA a a = true
  | ⟨a⟩ => by simpa [veqA] using veqL_refl a
theorem veqL_refl : ∀ (a : List Value), veqL a a = true
  | [] => rfl
  | a :: l => by simp [veqL, veq_refl a, veqL_refl l]
end
end Go.Abs
/- The abstract machine: its operations and regions. -/
namespace Go.Abs
open Go Go.RowKit
set_option linter.unusedVariables false

def undefV : Value := .tuple #[]
def ptr (id off : Nat) : Value := .pointer (some ⟨id, off, none⟩)
/-- An empty row that can hold nothing, wherever it may lie. -/
def cutV : Value := .slice (some ⟨0, 0, some 0⟩) 0 0
def slc (id off n cap : Nat) : Value := .slice (some ⟨id, off, none⟩) n cap

inductive ARes where
  | val (v : Value) (H : Heap)
  | call (f : FuncId) (args : Array Value)

/-! What is asked of the table of types -/
def isAggT (P : Program) (t : TypeId) : Option Bool :=
  match P.underlying t with
  | some (.struct _) | some (.array _ _) => some true
  | some _ => some false
  | none => none
def sizeT (P : Program) (t : TypeId) : Option Nat := (P.info? t).map (·.size)
def zeroT (P : Program) (t : TypeId) : Option Value := ((P.info? t).bind (·.zero)).bind fun z => if flat z then some z else none
/-- A slice's elements: type, cells, bytes. -/
def elemT (P : Program) (t : TypeId) : Option (TypeId × Nat × Nat) :=
  match P.underlying t with
  | some (.slice e) => (P.info? e).map fun i => (e, i.size, i.bytes)
  | _ => none
def arrT (P : Program) (t : TypeId) : Option (Nat × TypeId × Nat) :=
  match P.underlying t with
  | some (.array n e) => (P.info? e).map fun i => (n, e, i.size)
  | _ => none
/-- A struct's field: its place, its type, its cells. -/
def fieldT (P : Program) (s : TypeId) (f : Nat) : Option (Nat × TypeId × Nat) :=
  match P.underlying s with
  | some (.struct fs) => match fs[f]? with
    | some x => (P.info? x.type).map fun i => (x.offset, x.type, i.size)
    | none => none
  | _ => none
def mapT (P : Program) (t : TypeId) : Option (TypeId × TypeId) :=
  match P.underlying t with
  | some (.map k e) => some (k, e)
  | _ => none
def notIface (P : Program) (t : TypeId) : Bool :=
  match P.underlying t with
  | some (.interface _) | none => false
  | _ => true
def isIntT (P : Program) (t : TypeId) : Option Bool :=
  match P.underlying t with
  | some (.int _) => some true
  | some _ => some false
  | none => none
/-- The function behind a method's name, of values that bear it themselves. -/
def methodT (P : Program) (t : TypeId) (name : String) : Option FuncId :=
  match (if P.types.size + Made.depth = 0 then none else P.info? t) with
  | some info => match info.methods.find? (·.name == name) with
    | some m => match m.path.toList, m.func with
      | [], some (f, pr) => match P.underlying t, pr with
        | some (.pointer _), false => none
        | some (.pointer _), true => some f
        | some _, false => some f
        | _, _ => none
      | _, _ => none
    | none => none
  | none => none

def writeAt : List Value → Nat → List Value → List Value
  | c, _, [] => c
  | c, off, v :: vs => writeAt (c.set off v) (off + 1) vs

/-- The cells of a block at a place. -/
def cellsAt (H : Heap) (id off n : Nat) : Option (List Value) :=
  match H.get id with
  | some (.cells c _) => if off + n ≤ c.length then some ((c.drop off).take n) else none
  | _ => none

def partV (P : Program) (t : TypeId) (size : Nat) (cs : List Value) (off : Nat) : Option Value :=
  match isAggT P t with
  | some true => some (.agg ((cs.drop off).take size).toArray)
  | some false => cs[off]?
  | none => none

def aload (P : Program) (t : TypeId) (a : Value) (H : Heap) : Option Value :=
  match a with
  | .pointer (some ⟨id, off, none⟩) =>
    match H.get id with
    | some (.cells c _) =>
      match isAggT P t, sizeT P t with
      | some true, some n => if off + n ≤ c.length then some (.agg ((c.drop off).take n).toArray) else none
      | some false, _ => c[off]?
      | _, _ => none
    | _ => none
  | _ => none

def astoreAt (id off : Nat) (vs : List Value) (H : Heap) : Option Heap :=
  match H.get id with
  | some (.cells c m) => if m ≠ .ro ∧ off + vs.length ≤ c.length ∧ vs.all scal = true then some (H.set id (.cells (writeAt c off vs) m)) else none
  | _ => none

def astore (P : Program) (t : TypeId) (a v : Value) (H : Heap) : Option Heap :=
  match a with
  | .pointer (some ⟨id, off, none⟩) => if some v.cells.size = sizeT P t then astoreAt id off v.cells.toList H else none
  | _ => none

def repeatL (z : List Value) : Nat → List Value
  | 0 => []
  | n + 1 => z ++ repeatL z n

def fillL (place : Nat → Option (Nat × Nat)) (cells : List Value) : List (Nat × Value) → Option (List Value)
  | [] => some cells
  | (i, v) :: rest =>
    match place i with
    | none => none
    | some (off, size) =>
      if v.cells.size ≠ size ∨ off + size > cells.length then none
      else fillL place (writeAt cells off v.cells.toList) rest

def placesL (P : Program) : List Field → Option (List (Nat × Nat))
  | [] => some []
  | f :: fs => match P.info? f.type, placesL P fs with
    | some i, some l => some ((f.offset, i.size) :: l)
    | _, _ => none
/-- The places of a struct's fields. -/
def placesT (P : Program) (t : TypeId) : Option (List (Nat × Nat)) :=
  match P.underlying t with
  | some (.struct fs) => placesL P fs.toList
  | _ => none
def buildL (P : Program) (t : TypeId) (parts : List (Nat × Value)) : Option (List Value) :=
  match zeroT P t, placesT P t, arrT P t with
  | some z, some l, _ => fillL (fun i => l[i]?) z.cells.toList parts
  | some z, none, some (n, e, size) => fillL (fun i => some (i * size, size)) z.cells.toList parts
  | _, _, _ => none

/-- The cells that a slice, or a string, holds ahead: so many elements of a size. -/
def firstL (H : Heap) (size n : Nat) : Value → Option (List Value)
  | .slice (some ⟨id, off, none⟩) _ _ => if n = 0 then some [] else cellsAt H id off (n * size)
  | .slice none _ _ => if n = 0 then some [] else none
  | .slice (some ⟨_, _, some _⟩) _ _ => if n = 0 then some [] else none
  | .string s => if n ≤ s.size ∧ size = 1 then some ((s.extract 0 n).data.toList.map fun b => .int .u8 b.toNat) else none
  | _ => none

def lenV : Value → Option Nat
  | .slice _ n _ => some n
  | .string s => some s.size
  | _ => none

/-- What an append appends: how many, and their cells. -/
def newL (P : Program) (elem : TypeId) (size bytes : Nat) (zeros : Bool) (x : Value) (H : Heap) : Option (Nat × List Value) :=
  if zeros then
    match x, zeroT P elem with
    | .int .i64 l, some z => if 0 ≤ l ∧ l * bytes ≤ 2 ^ 44 ∧ z.cells.size = size then some (l.toNat, repeatL z.cells.toList l.toNat) else none
    | _, _ => none
  else
    match lenV x with
    | some n => (firstL H size n x).map fun xs => (n, xs)
    | none => none

def agrow (elem size len n : Nat) (base : Option Addr) (cap : Nat) (xs : List Value) (H : Heap) : Option (Value × Heap) :=
  if len + n ≤ cap then
    if n = 0 then some (.slice base len cap, H) else
    match base with
    | some ⟨id, off, none⟩ => (astoreAt id (off + len * size) xs H).map fun H' => (.slice base (len + n) cap, H')
    | _ => none
  else
    match base with
    | none => if len = 0 then some (slc H.n 0 n n, H.push (.cells xs (.grown size))) else none
    | some ⟨id, off, none⟩ =>
      match H.get id with
      | some (.cells c .fix) => (firstL H size len (.slice base len cap)).map fun old => (slc H.n 0 (len + n) (len + n), H.push (.cells (old ++ xs) (.grown size)))
      | some (.cells c (.grown es)) => if es = size then (firstL H size len (.slice base len cap)).map fun old => (slc H.n 0 (len + n) (len + n), (H.set id .dead).push (.cells (old ++ xs) (.grown size))) else none
      | _ => none
    | _ => none

def aappend (P : Program) (argTypes : Array TypeId) (args : Array Value) (H : Heap) : Option (Value × Heap) :=
  match args.toList, argTypes.toList with
  | [.slice base len cap, x], [sType, xType] =>
    match elemT P sType, isIntT P xType with
    | some (elem, size, bytes), some zeros =>
      match newL P elem size bytes zeros x H, zeroT P elem with
      | some (n, xs), some z =>
        if z.cells.size = size ∧ xs.all scal = true ∧ 0 < bytes ∧ 0 < size ∧ bytes ≤ 2 ^ 20 ∧ (len + n) * bytes ≤ 2 ^ 44 then agrow elem size len n base cap xs H
        else none
      | _, _ => none
    | _, _ => none
  | _, _ => none

def acopy (P : Program) (argTypes : Array TypeId) (args : Array Value) (H : Heap) : Option (Value × Heap) :=
  match args.toList, argTypes.toList with
  | [.slice base dLen cap, x], dType :: _ =>
    match elemT P dType, lenV x with
    | some (elem, size, bytes), some m =>
      match firstL H size (Nat.min m dLen) x with
      | some xs =>
        if xs.all scal = true then
          if xs = [] then some (.int .i64 (Nat.min m dLen), H) else
          match base with
          | some ⟨id, off, none⟩ => (astoreAt id off xs H).map fun H' => (.int .i64 (Nat.min m dLen), H')
          | _ => none
        else none
      | none => none
    | _, _ => none
  | _, _ => none

/-! Maps: rows of keys and values -/
def asEntries (es : List (Value × Value)) : List MapEntry := es.map fun e => { key := e.1, val := e.2, born := 0 }
def keyFlat (es : List (Value × Value)) : Bool := es.all fun e => flat e.1
/-- Where a key stands. -/
def findT (P : Program) (key : TypeId) (k : Value) (es : List (Value × Value)) : Option (Option Nat) :=
  if flat k = true ∧ keyFlat es = true then
    match purely P (Instr.checkKey es.isEmpty 10000 key k), purely P (Instr.checkKey false 10000 key k) with
    | some (), some () => (purely P (Instr.findKey key k (asEntries es))).map fun r => r.map (·.1)
    | _, _ => none
  else none

def aget (P : Program) (t : TypeId) (es : List (Value × Value)) (k : Value) (commaOk : Bool) : Option Value :=
  match mapT P t with
  | some (key, elem) =>
    match findT P key k es with
    | some (some i) => (es[i]?).map fun e => if commaOk then .tuple #[e.2, .bool true] else e.2
    | some none => (zeroT P elem).map fun z => if commaOk then .tuple #[z, .bool false] else z
    | none => none
  | none => none

def alookup (P : Program) (t : TypeId) (x k : Value) (commaOk : Bool) (H : Heap) : Option Value :=
  match x with
  | .map none => aget P t [] k commaOk
  | .map (some id) => match H.get id with
    | some (.map es) => aget P t es k commaOk
    | _ => none
  | _ => none

def aupdate (P : Program) (t : TypeId) (x k v : Value) (H : Heap) : Option Heap :=
  match x with
  | .map (some id) => match H.get id with
    | some (.map es) =>
      match mapT P t with
      | some (key, elem) =>
        match findT P key k es with
        | some (some i) => match es[i]? with
          | some e => if Instr.sameBits 10000 e.1 k then some (H.set id (.map (es.set i (k, v)))) else none
          | none => none
        | some none => some (H.set id (.map (es ++ [(k, v)])))
        | none => none
      | none => none
    | _ => none
  | _ => none

def bytesL : List Value → Option (List UInt8)
  | [] => some []
  | .int .u8 n :: l => (bytesL l).map (UInt8.ofNat n.toNat :: ·)
  | _ => none

def flatRes (v : Option Value) : Option Value := v.bind fun v => if flat v then some v else none

def aconvert (P : Program) (src dst : TypeId) (x : Value) (H : Heap) : Option Value :=
  match x with
  | .slice (some ⟨id, off, none⟩) len cap =>
    match P.underlying src, P.underlying dst with
    | some (.slice e), some .string =>
      match P.underlying e with
      | some (.int .u8) => ((if len = 0 then some [] else cellsAt H id off len).bind bytesL).map fun l => .string ⟨l.toArray⟩
      | _ => none
    | _, _ => none
  | .slice (some ⟨_, _, some _⟩) len cap =>
    match P.underlying src, P.underlying dst with
    | some (.slice e), some .string =>
      match P.underlying e with
      | some (.int .u8) => if len = 0 ∧ cap = 0 then some (.string ⟨#[]⟩) else none
      | _ => none
    | _, _ => none
  | _ => if flat x then flatRes (purely P (Go.convert src dst x)) else none

/-- '==' of what bears an address, with a nil. -/
def nilEq (P : Program) (t : TypeId) (a b : Value) : Option Bool :=
  match P.underlying t, a, b with
  | some (.slice _), .slice none _ _, .slice (some _) _ _ => some false
  | some (.slice _), .slice (some _) _ _, .slice none _ _ => some false
  | some (.pointer _), .pointer none, .pointer (some _) => some false
  | some (.pointer _), .pointer (some _), .pointer none => some false
  | some (.map _ _), .map none, .map (some _) => some false
  | some (.map _ _), .map (some _), .map none => some false
  | some (.func _ _ _), .nilFunc, .func _ _ _ => some false
  | some (.func _ _ _), .func _ _ _, .nilFunc => some false
  | some (.interface _), .nilIface, .iface _ _ => some false
  | some (.interface _), .iface _ _, .nilIface => some false
  | _, _, _ => none

def abin (P : Program) (op : BinOp) (t : TypeId) (x y : Operand) (a b : Value) : Option Value :=
  if flat a && flat b then flatRes (purely P (do eqGuard op t x y a b; Go.binOp op t a b)) else
  match nilEq P t a b, op with
  | some r, .eql => some (.bool r)
  | some r, .neq => some (.bool (!r))
  | _, _ => none

def nonNil : Value → Bool
  | .pointer (some _) => true
  | .func (.func _) _ _ => true
  | .iface _ _ => true
  | _ => false

/-- A bound of a slice expression: a number from 0 to y. -/
def boundV (x : Value) (y : Nat) : Option Nat :=
  match x with
  | .int _ i => if 0 ≤ i ∧ i ≤ y then some i.toNat else none
  | _ => none
def boundsV (len cap : Nat) (lo hi mx : Option Value) : Option (Nat × Nat × Nat) :=
  match (match mx with | some v => boundV v cap | none => some cap) with
  | none => none
  | some m =>
    match (match hi, mx with | some v, some _ => boundV v m | some v, none => boundV v m | none, none => some len | none, some _ => none) with
    | none => none
    | some h =>
      match (match lo with | some v => boundV v h | none => some 0) with
      | none => none
      | some l => some (l, h, m)

def Md.fits : Md → Nat → Bool
  | .grown es, size => decide (es = size)
  | _, _ => true

def aslice (P : Program) (t : TypeId) (x : Value) (lo hi mx : Option Value) (H : Heap) : Option Value :=
  match x with
  | .pointer (some ⟨id, off, none⟩) => match H.get id, arrT P t with
    | some (.cells c .fix), some (n, e, size) => (boundsV n n lo hi mx).map fun b => slc id (if b.2.2 = b.1 then off else off + b.1 * size) (b.2.1 - b.1) (b.2.2 - b.1)
    | _, _ => none
  | .slice (some ⟨id, off, none⟩) len cap => match H.get id, elemT P t with
    | some (.cells c m), some (e, size, _) => (boundsV len cap lo hi mx).bind fun b => if m.fits size = true ∨ b.1 = 0 then some (slc id (if b.2.2 = b.1 then off else off + b.1 * size) (b.2.1 - b.1) (b.2.2 - b.1)) else none
    | _, _ => none
  | .slice (some ⟨_, _, some _⟩) len cap => match elemT P t with
    | some _ => if len = 0 ∧ cap = 0 then (boundsV 0 0 lo hi mx).map fun _ => cutV else none
    | none => none
  | .slice none len cap => match elemT P t with
    | some (e, size, _) => if len ≤ cap then (boundsV len cap lo hi mx).map fun b => .slice none (b.2.1 - b.1) (b.2.2 - b.1) else none
    | none => none
  | _ => none

def afieldAddr (P : Program) (s : TypeId) (x : Value) (f : Nat) : Option Value :=
  match x, fieldT P s f with
  | .pointer (some ⟨id, off, none⟩), some (o, _, size) => if size = 0 then none else some (ptr id (off + o))
  | _, _ => none
def afield (P : Program) (t : TypeId) (x : Value) (f : Nat) : Option Value :=
  match x, fieldT P t f with
  | .agg cs, some (o, u, size) => partV P u size cs.toList o
  | _, _ => none

def aindexAddr (P : Program) (t : TypeId) (x ix : Value) : Option Value :=
  match ix with
  | .int _ i =>
    match x with
    | .pointer (some ⟨id, off, none⟩) => match arrT P t with
      | some (n, e, size) => if 0 ≤ i ∧ i < n then some (ptr id (off + i.toNat * size)) else none
      | none => none
    | .slice (some ⟨id, off, none⟩) len cap => match elemT P t with
      | some (e, size, _) => if 0 ≤ i ∧ i < len then some (ptr id (off + i.toNat * size)) else none
      | none => none
    | _ => none
  | _ => none

def aindex (P : Program) (t : TypeId) (x ix : Value) : Option Value :=
  match ix with
  | .int _ i =>
    match x with
    | .agg cs => match arrT P t with
      | some (n, e, size) => if 0 ≤ i ∧ i < n then partV P e size cs.toList (i.toNat * size) else none
      | none => none
    | .string s => if 0 ≤ i then (match s[i.toNat]?, P.underlying t with | some b, some .string => some (.int .u8 b.toNat) | _, _ => none) else none
    | _ => none
  | _ => none

def alen (P : Program) (t : TypeId) (x : Value) (H : Heap) : Option Value :=
  match x with
  | .map (some id) => match H.get id, mapT P t with
    | some (.map es), some _ => some (.int .i64 es.length)
    | _, _ => none
  | .map none => (mapT P t).map fun _ => .int .i64 0
  | .slice _ n _ => (elemT P t).map fun _ => .int .i64 n
  | .string s => match P.underlying t with
    | some .string => some (.int .i64 s.size)
    | _ => none
  | .agg _ => (arrT P t).map fun x => .int .i64 x.1
  | .pointer _ => match P.underlying t with
    | some (.pointer a) => (arrT P a).map fun x => .int .i64 x.1
    | some (.array n _) => some (.int .i64 n)
    | _ => none
  | _ => none

def aop (P : Program) (ev : Operand → Value) (o : Oper) (H : Heap) : Option ARes :=
  match o.op with
  | .move x | .assign x => some (.val (ev x) H)
  | .pick c a b => match ev c with
    | .bool t => some (.val (if t then ev a else ev b) H)
    | _ => none
  | .alloc elem => (zeroT P elem).map fun z => .val (ptr H.n 0) (H.push (.cells z.cells.toList .fix))
  | .box elem x => some (.val (ptr H.n 0) (H.push (.cells (ev x).cells.toList .fix)))
  | .load t a => (aload P t (ev a) H).map (.val · H)
  | .store t a x => (astore P t (ev a) (ev x) H).map (.val undefV ·)
  | .build t parts =>
    (buildL P t ((parts.map fun (i, x) => (i, ev x)).toList)).map fun c => .val (.agg c.toArray) H
  | .buildSlice t len parts =>
    match elemT P t with
    | some (elem, size, _) =>
      match zeroT P elem with
      | some z =>
        if len * size ≤ 2 ^ 24 ∧ z.cells.size = size ∧ 0 < size then
          (fillL (fun i => some (i * size, size)) (repeatL z.cells.toList len) ((parts.map fun (i, x) => (i, ev x)).toList)).map fun c => .val (slc H.n 0 len len) (H.push (.cells c .fix))
        else none
      | none => none
    | none => none
  | .nilCheck x => if nonNil (ev x) then some (.val (ev x) H) else none
  | .binOp op t x y _ => (abin P op t x y (ev x) (ev y)).map (.val · H)
  | .unOp op _ x => if flat (ev x) then (flatRes (purely P (Op.unary op (ev x)))).map (.val · H) else none
  | .convert src dst x => (aconvert P src dst (ev x) H).map (.val · H)
  | .makeInterface t x => if notIface P t then some (.val (.iface t (ev x)) H) else none
  | .makeFunc fn first captured => some (.val (.func fn (first.map ev) (captured.map ev)) H)
  | .makeMap t r => match r with
    | none => some (.val (.map (some H.n)) (H.push (.map [])))
    | some x => match mapT P t, ev x with
      | some _, .int _ _ => some (.val (.map (some H.n)) (H.push (.map [])))
      | _, _ => none
  | .makeSlice t l c =>
    match elemT P t, ev l, ev c with
    | some (elem, size, bytes), .int _ len, .int _ cap =>
      match zeroT P elem with
      | some z =>
        if 0 ≤ len ∧ len ≤ cap ∧ cap < 2 ^ 47 ∧ cap * bytes ≤ 2 ^ 47 ∧ z.cells.size = size ∧ 0 < size then
          some (.val (slc H.n 0 len.toNat cap.toNat) (H.push (.cells (repeatL z.cells.toList cap.toNat) .fix)))
        else none
      | none => none
    | _, _, _ => none
  | .slice t x lo hi mx => (aslice P t (ev x) (lo.map ev) (hi.map ev) (mx.map ev) H).map (.val · H)
  | .fieldAddr s x f => (afieldAddr P s (ev x) f).map (.val · H)
  | .field t x f => (afield P t (ev x) f).map (.val · H)
  | .indexAddr t x ix => (aindexAddr P t (ev x) (ev ix)).map (.val · H)
  | .index t x ix => (aindex P t (ev x) (ev ix)).map (.val · H)
  | .extract x ix => match ev x with
    | .tuple vs => (vs[ix]?).map (.val · H)
    | _ => none
  | .lookup t x k ok => (alookup P t (ev x) (ev k) ok H).map (.val · H)
  | .mapUpdate t m k x | .insert t m k x => (aupdate P t (ev m) (ev k) (ev x) H).map (.val undefV ·)
  | .call c =>
    match c.callee with
    | .builtin .len => match (c.args.map ev).toList, c.argTypes.toList with
      | [x], [t] => (alen P t x H).map (.val · H)
      | _, _ => none
    | .builtin .min => if (c.args.map ev).toList.all flat = true then (flatRes (purely P (Builtin.min_ c.argTypes o.type (c.args.map ev)))).map (.val · H) else none
    | .builtin .max => if (c.args.map ev).toList.all flat = true then (flatRes (purely P (Builtin.max_ c.argTypes o.type (c.args.map ev)))).map (.val · H) else none
    | .builtin .append => (aappend P c.argTypes (c.args.map ev) H).map fun r => .val r.1 r.2
    | .builtin .copy => (acopy P c.argTypes (c.args.map ev) H).map fun r => .val r.1 r.2
    | .builtin _ => none
    | .value f => match ev f with
      | .func (.func g) first captured => some (.call g ((first ++ c.args.map ev) ++ captured))
      | _ => none
    | .invoke r name => match ev r with
      | .iface t v => (methodT P t name).map fun f => .call f (#[v] ++ c.args.map ev)
      | _ => none
  | _ => none

/-! Which operations do what -/
inductive Kind where
  | quiet   -- reads nothing
  | read
  | make    -- makes memory, and touches none
  | eff
  deriving DecidableEq

def kindOf : Op → Kind
  | .load .. | .lookup .. | .convert .. | .slice .. => .read
  | .alloc _ | .box .. | .buildSlice .. | .makeSlice .. | .makeMap .. => .make
  | .store .. | .mapUpdate .. | .insert .. => .eff
  | .call c => match c.callee with
    | .builtin .len => .read
    | .builtin .min | .builtin .max => .quiet
    | _ => .eff
  | _ => .quiet

def putT (tmps : Array Value) (dst : Option Tmp) (v : Value) : Array Value :=
  match dst with
  | some d => tmps.setIfInBounds d v
  | none => tmps

abbrev CallFn := FuncId → Array Value → Heap → Option (Value × Heap)
def evalT (tmps : Array Value) : Operand → Value
  | .tmp t => tmps.getD t undefV
  | .const v => v
  | .global g => undefV
  | .func f => .func (.func f) #[] #[]

/-- One operation, its call carried out. -/
def astep (P : Program) (call : CallFn) (ev : Operand → Value) (o : Oper) (H : Heap) : Option (Value × Heap) :=
  match aop P ev o H with
  | some (.val v H') => some (v, H')
  | some (.call f args) => call f args H
  | none => none

def aops (P : Program) (call : CallFn) (ops : Array Oper) : List Nat → Array Value → Heap → Option (Array Value × Heap)
  | [], tmps, H => some (tmps, H)
  | i :: rest, tmps, H =>
    match ops[i]? with
    | none => none
    | some o =>
      if Region.wanted o (yielded ops tmps) then
        match astep P call (evalT tmps) o H with
        | some (v, H') => aops P call ops rest (putT tmps o.dst v) H'
        | none => none
      else aops P call ops rest (putT tmps o.dst undefV) H

/-! A region that draws its order: the order in which it is run here, and what must stay as it was read -/
structure Held where
  upto : Nat
  read : Heap → Option Value
  was : Value

def heldOk (m : Nat) (H : Heap) (hs : List Held) : Bool :=
  hs.all fun h => decide (h.upto < m) || (match h.read H with | some v => veq v h.was | none => false)

def valOf : Option ARes → Option Value
  | some (.val v _) => some v
  | _ => none

/-- 'upto i': before how many effects of the region an operation may still be run. m: how many have been. -/
def adraw (P : Program) (call : CallFn) (ops : Array Oper) (upto : Nat → Nat) : List Nat → Nat → List Held → Array Value → Heap → Option (Array Value × Heap)
  | [], _, _, tmps, H => some (tmps, H)
  | i :: rest, m, hs, tmps, H =>
    match ops[i]? with
    | none => none
    | some o =>
      let m' := if kindOf o.op = .eff then m + 1 else m
      if Region.wanted o (yielded ops tmps) then
        match astep P call (evalT tmps) o H with
        | some (v, H') =>
          if kindOf o.op = .eff ∧ heldOk (m + 1) H' hs = false then none
          else adraw P call ops upto rest m' (if kindOf o.op = .read ∧ upto i ≠ m then ⟨upto i, fun H => valOf (aop P (evalT tmps) o H), v⟩ :: hs else hs) (putT tmps o.dst v) H'
        | none => none
      else adraw P call ops upto rest m' hs (putT tmps o.dst undefV) H
end Go.Abs
/- The abstract machine: code and calls. -/
namespace Go.Abs
open Go Go.RowKit
set_option linter.unusedVariables false

/-! Regions that draw: what is before what -/
def onsOf (o : Oper) : List Nat := (o.after.toList.filter (Region.binds .any ·)).map (·.on)
def befGo : List Oper → List (List Nat) → List (List Nat)
  | [], acc => acc
  | o :: rest, acc => befGo rest (acc ++ [((onsOf o) ++ (onsOf o).flatMap fun j => acc.getD j []).eraseDups])
def befs (ops : Array Oper) : List (List Nat) := befGo ops.toList []
def effs (ops : Array Oper) (ord : List Nat) : List Nat := ord.filter fun i => match ops[i]? with | some o => decide (kindOf o.op = .eff) | none => false
def pickReady (bs : List (List Nat)) (done : List Nat) (c : List Nat) : Option Nat :=
  c.find? fun i => !done.contains i && (bs.getD i []).all fun j => done.contains j
def canonGo (bs : List (List Nat)) (soft hard : List Nat) : Nat → List Nat → List Nat
  | 0, done => done.reverse
  | n + 1, done =>
    match pickReady bs done soft with
    | some i => canonGo bs soft hard n (i :: done)
    | none => match pickReady bs done hard with
      | some i => canonGo bs soft hard n (i :: done)
      | none => done.reverse
def canon (ops : Array Oper) : List Nat :=
  canonGo (befs ops) ((List.range ops.size).filter fun i => !(effs ops [i]).contains i) (effs ops (List.range ops.size)) ops.size []
def uptoOf (bs : List (List Nat)) (es : List Nat) (i : Nat) : Nat := (es.findIdx? fun e => (bs.getD e []).contains i).getD es.length
def uptoL (ops : Array Oper) : List Nat := (List.range ops.size).map (uptoOf (befs ops) (effs ops (canon ops)))

def looks (ops : Array Oper) (o : Oper) : List Tmp := o.looksAt ops

/-- Behind the effects es, is ord (from here on) in order? last: the last effect run. -/
def phases (ops : Array Oper) (bs : List (List Nat)) : List Nat → Option Nat → List Nat → Bool
  | [], _, _ => true
  | i :: rest, last, done =>
    (bs.getD i []).all (done.contains ·) && !done.contains i &&
    (match last with | some e => (bs.getD i []).contains e | none => true) &&
    (match ops[i]? with
     | some o => phases ops bs rest (if kindOf o.op = .eff then some i else last) (i :: done)
     | none => false)
def apartAll (ops : Array Oper) (bs : List (List Nat)) : Bool :=
  (List.range ops.size).all fun i => (List.range ops.size).all fun j =>
    match ops[i]?, ops[j]? with
    | some oi, some oj => match oj.dst with
      | some d => (i == j || oi.dst != some d) && (!(looks ops oi).contains d || (bs.getD i []).contains j || (bs.getD j []).contains i)
      | none => true
    | _, _ => false
def drawOk (ops : Array Oper) : Bool :=
  let bs := befs ops
  let ord := canon ops
  (List.range ops.size).all (fun i => (ops.getD i default |> onsOf).all fun j => decide (j < i)) &&
  decide (ord.length = ops.size) && ord.all (fun i => decide (i < ops.size)) && (List.range ops.size).all (ord.contains ·) &&
  phases ops bs ord none [] && apartAll ops bs

def noGlobalOp : Operand → Bool
  | .global _ => false
  | .const v => flat v
  | _ => true
def noGlobal (o : Oper) : Bool := o.op.operands.all noGlobalOp
def codeOk : Code → Bool
  | .region _ ops draw => ops.all noGlobal && (!draw || drawOk ops)
  | .seq a b => codeOk a && codeOk b
  | .cond c a b => noGlobalOp c && codeOk a && codeOk b
  | .block _ b | .loop b | .scope b => codeOk b
  | .rangeFunc .. | .goto _ | .refuse _ => true
  | _ => true

inductive Ex where
  | normal
  | exit (id : Nat)
  | ret
  deriving DecidableEq

abbrev St := Option (Ex × Array Value × Heap)

def iter (f : Array Value → Heap → St) : Nat → Array Value → Heap → St
  | 0, _, _ => none
  | n + 1, t, H => match f t H with
    | some (.normal, t', H') => iter f n t' H'
    | r => r

def acode (P : Program) (call : CallFn) (fuel : Nat) : Code → Array Value → Heap → St
  | .skip, t, H | .label _, t, H => some (.normal, t, H)
  | .region _ ops draw, t, H =>
    (if draw then adraw P call ops (fun i => (uptoL ops).getD i 0) (canon ops) 0 [] t H else aops P call ops (List.range ops.size) t H).map fun r => (.normal, r.1, r.2)
  | .seq a b, t, H => match acode P call fuel a t H with
    | some (.normal, t', H') => acode P call fuel b t' H'
    | r => r
  | .cond c a b, t, H => match evalT t c with
    | .bool x => if x then acode P call fuel a t H else acode P call fuel b t H
    | _ => none
  | .block id b, t, H => match acode P call fuel b t H with
    | some (.exit id', t', H') => if id' = id then some (.normal, t', H') else some (.exit id', t', H')
    | r => r
  | .loop b, t, H => iter (acode P call fuel b) fuel t H
  | .scope b, t, H => acode P call fuel b t H
  | .exit id, t, H => some (.exit id, t, H)
  | .ret, t, H => some (.ret, t, H)
  | _, _, _ => none

def oneResult (P : Program) (t : Array Value) (H : Heap) : ResultVar → Option Value
  | .tmp d => some (t.getD d undefV)
  | .cell a ty => aload P ty (t.getD a undefV) H
def resultsV (P : Program) (rs : List ResultVar) (t : Array Value) (H : Heap) : Option (List Value) :=
  match rs with
  | [] => some []
  | r :: rest => match oneResult P t H r, resultsV P rest t H with
    | some v, some vs => some (v :: vs)
    | _, _ => none
def packV : List Value → Value
  | [v] => v
  | vs => .tuple vs.toArray

def callable (fn : Func) : Bool := fn.name != "runtime.NumGoroutine" && (match fn.body with | some c => codeOk c | none => false)

def enterT (fn : Func) (args : Array Value) : Array Value := args ++ Array.replicate (fn.ntmps - args.size) undefV

def abody (P : Program) (call : CallFn) (fuel : Nat) (fn : Func) (args : Array Value) (H : Heap) : Option (Value × Heap) :=
  match fn.body with
  | some c =>
    match acode P call fuel c (enterT fn args) H with
    | some (.exit _, _, _) => none
    | some (_, t, H') => (resultsV P fn.results.toList t H').map fun vs => (packV vs, H')
    | none => none
  | none => none

/-- Functions whose answer is told from elsewhere. -/
abbrev Orc := FuncId → Option (Array Value → Heap → Option (Value × Heap))
def arun (P : Program) (orc : Orc) : Nat → CallFn
  | 0, _, _, _ => none
  | k + 1, f, args, H =>
    match orc f with
    | some g => g args H
    | none =>
      match P.funcs[f]? with
      | some fn => if callable fn then abody P (arun P orc k) k fn args H else none
      | none => none

/-! More rounds, the same answer -/
def LeC (c c' : CallFn) : Prop := ∀ f a H r, c f a H = some r → c' f a H = some r

theorem astep_mono {P : Program} {c c' : CallFn} (h : LeC c c') {ev : Operand → Value} {o : Oper} {H : Heap} {r : Value × Heap}
    (hs : astep P c ev o H = some r) : astep P c' ev o H = some r := by
  unfold astep at *
  split at hs
  · rename_i e; simpa [e] using hs
  · rename_i e; simpa [e] using h _ _ _ _ hs
  · cases hs

theorem aops_mono {P : Program} {c c' : CallFn} (h : LeC c c') {ops : Array Oper} : ∀ (l : List Nat) (t : Array Value) (H : Heap) (r : Array Value × Heap),
    aops P c ops l t H = some r → aops P c' ops l t H = some r := by
  intro l
  induction l with
  | nil => intro t H r hr; simpa [aops] using hr
  | cons i rest ih =>
    intro t H r hr
    simp only [aops] at hr ⊢
    cases ho : ops[i]? with
    | none => rw [ho] at hr; cases hr
    | some o =>
      rw [ho] at hr
      simp only at hr ⊢
      split
      · rename_i hw
        rw [if_pos hw] at hr
        cases hs : astep P c (evalT t) o H with
        | none => rw [hs] at hr; cases hr
        | some vh =>
          rw [hs] at hr
          rw [astep_mono h hs]
          exact ih _ _ _ hr
      · rename_i hw
        rw [if_neg hw] at hr
        exact ih _ _ _ hr

theorem adraw_mono {P : Program} {c c' : CallFn} (h : LeC c c') {ops : Array Oper} {up : Nat → Nat} : ∀ (l : List Nat) (m : Nat) (hs : List Held) (t : Array Value) (H : Heap) (r : Array Value × Heap),
    adraw P c ops up l m hs t H = some r → adraw P c' ops up l m hs t H = some r := by
  intro l
  induction l with
  | nil => intro m hs t H r hr; simpa [adraw] using hr
  | cons i rest ih =>
    intro m hs t H r hr
    simp only [adraw] at hr ⊢
    cases ho : ops[i]? with
    | none => rw [ho] at hr; cases hr
    | some o =>
      rw [ho] at hr
      simp only at hr ⊢
      split
      · rename_i hw
        rw [if_pos hw] at hr
        cases hst : astep P c (evalT t) o H with
        | none => rw [hst] at hr; cases hr
        | some vh =>
          rw [hst] at hr
          rw [astep_mono h hst]
          simp only at hr ⊢
          split
          · rename_i hb; rw [if_pos hb] at hr; cases hr
          · rename_i hb
            rw [if_neg hb] at hr
            exact ih _ _ _ _ _ hr
      · rename_i hw
        rw [if_neg hw] at hr
        exact ih _ _ _ _ _ hr

theorem iter_mono {f g : Array Value → Heap → St} (h : ∀ t H r, f t H = some r → g t H = some r) : ∀ (n n' : Nat), n ≤ n' → ∀ t H r, iter f n t H = some r → iter g n' t H = some r := by
  intro n
  induction n with
  | zero => intro n' _ t H r hr; cases hr
  | succ n ih =>
    intro n' hn t H r hr
    obtain ⟨m, rfl⟩ : ∃ m, n' = m + 1 := ⟨n' - 1, by omega⟩
    simp only [iter] at hr ⊢
    cases hf : f t H with
    | none => rw [hf] at hr; cases hr
    | some s =>
      rw [h _ _ _ hf]
      rw [hf] at hr
      obtain ⟨e, t', H'⟩ := s
      cases e with
      | normal => exact ih m (by omega) _ _ _ hr
      | exit id => exact hr
      | ret => exact hr

theorem acode_mono {P : Program} {c c' : CallFn} (h : LeC c c') {k k' : Nat} (hk : k ≤ k') : ∀ (x : Code) (t : Array Value) (H : Heap) (r : Ex × Array Value × Heap),
    acode P c k x t H = some r → acode P c' k' x t H = some r := by
  intro x
  induction x with
  | skip => intro t H r hr; exact hr
  | label l => intro t H r hr; exact hr
  | region id ops draw =>
    intro t H r hr
    simp only [acode, Option.map_eq_some_iff] at hr ⊢
    obtain ⟨s, hs, e⟩ := hr
    refine ⟨s, ?_, e⟩
    split
    · rename_i hd; rw [if_pos hd] at hs; exact adraw_mono h _ _ _ _ _ _ hs
    · rename_i hd; rw [if_neg hd] at hs; exact aops_mono h _ _ _ _ hs
  | seq a b iha ihb =>
    intro t H r hr
    simp only [acode] at hr ⊢
    cases ha : acode P c k a t H with
    | none => rw [ha] at hr; cases hr
    | some s =>
      rw [iha _ _ _ ha]; rw [ha] at hr
      obtain ⟨e, t', H'⟩ := s
      cases e with
      | normal => exact ihb _ _ _ hr
      | exit id => exact hr
      | ret => exact hr
  | cond q a b iha ihb =>
    intro t H r hr
    simp only [acode] at hr ⊢
    split
    · rename_i x hx
      simp only [hx] at hr
      split
      · rename_i hb; rw [if_pos hb] at hr; exact iha _ _ _ hr
      · rename_i hb; rw [if_neg hb] at hr; exact ihb _ _ _ hr
    · rename_i hx
      split at hr
      · rename_i x hx'; exact absurd hx' (hx x)
      · cases hr
  | block id b ih =>
    intro t H r hr
    simp only [acode] at hr ⊢
    cases hb : acode P c k b t H with
    | none => rw [hb] at hr; cases hr
    | some s => rw [ih _ _ _ hb]; rw [hb] at hr; exact hr
  | loop b ih =>
    intro t H r hr
    simp only [acode] at hr ⊢
    exact iter_mono ih _ _ hk _ _ _ hr
  | scope b ih => intro t H r hr; simp only [acode] at hr ⊢; exact ih _ _ _ hr
  | exit id => intro t H r hr; exact hr
  | ret => intro t H r hr; exact hr
  | _ => intro t H r hr; simp [acode] at hr

theorem abody_mono {P : Program} {c c' : CallFn} (h : LeC c c') {k k' : Nat} (hk : k ≤ k') {fn : Func} {a : Array Value} {H : Heap} {r : Value × Heap}
    (hr : abody P c k fn a H = some r) : abody P c' k' fn a H = some r := by
  unfold abody at *
  cases hb : fn.body with
  | none => rw [hb] at hr; cases hr
  | some x =>
    simp only [hb] at hr ⊢
    cases ha : acode P c k x (enterT fn a) H with
    | none => rw [ha] at hr; cases hr
    | some s => rw [acode_mono h hk _ _ _ _ ha]; rw [ha] at hr; exact hr

theorem arun_mono (P : Program) (orc : Orc) : ∀ (k k' : Nat), k ≤ k' → LeC (arun P orc k) (arun P orc k') := by
  intro k
  induction k with
  | zero => intro k' _ f a H r hr; cases hr
  | succ k ih =>
    intro k' hk f a H r hr
    obtain ⟨m, rfl⟩ : ∃ m, k' = m + 1 := ⟨k' - 1, by omega⟩
    simp only [arun] at hr ⊢
    cases ho : orc f with
    | some g => rw [ho] at hr; exact hr
    | none =>
      rw [ho] at hr
      simp only at hr ⊢
      cases hf : P.funcs[f]? with
      | none => rw [hf] at hr; cases hr
      | some fn =>
        rw [hf] at hr
        simp only at hr ⊢
        split
        · rename_i hc; rw [if_pos hc] at hr; exact abody_mono (ih m (by omega)) (by omega) hr
        · rename_i hc; rw [if_neg hc] at hr; cases hr
end Go.Abs
/- The abstract machine: how its values and heaps stand to the model's. -/
namespace Go.Abs
open Go Go.RowKit
set_option linter.unusedVariables false

/-- Where a block lies: the model's block, from which cell on, how many cells are its own, and how it may be used. -/
structure Loc where
  cb : Nat
  base : Nat
  ext : Nat
  md : Md

abbrev Ren := Nat → Option Loc
def Ren.upd (ρ : Ren) (n : Nat) (L : Loc) : Ren := fun i => if i = n then some L else ρ i
theorem Ren.upd_same (ρ : Ren) (n : Nat) (L : Loc) : ρ.upd n L n = some L := by simp [Ren.upd]
theorem Ren.upd_ne (ρ : Ren) {n i : Nat} (L : Loc) (h : i ≠ n) : ρ.upd n L i = ρ i := by simp [Ren.upd, h]

mutual
inductive VR (ρ : Ren) : Value → Value → Prop
  | flat (v : Value) : flat v = true → VR ρ v v
  | ptr (id off : Nat) (L : Loc) : ρ id = some L → VR ρ (.pointer (some ⟨id, off, none⟩)) (.pointer (some ⟨L.cb, L.base + off, none⟩))
  | slice (id off n cap off' cap' : Nat) (L : Loc) : ρ id = some L → n ≤ cap → cap ≤ cap' → (0 < cap → off' = off) → (L.md = .fix → cap' = cap ∧ off' = off) →
      (∀ es, L.md = .grown es → off' + cap' * es ≤ L.ext) → VR ρ (.slice (some ⟨id, off, none⟩) n cap) (.slice (some ⟨L.cb, L.base + off', none⟩) n cap')
  | cut (a : Addr) : VR ρ cutV (.slice (some a) 0 0)
  | map (id : Nat) (L : Loc) : ρ id = some L → VR ρ (.map (some id)) (.map (some L.cb))
  | agg (a b : List Value) : VRs ρ a b → VR ρ (.agg ⟨a⟩) (.agg ⟨b⟩)
  | tuple (a b : List Value) : VRs ρ a b → VR ρ (.tuple ⟨a⟩) (.tuple ⟨b⟩)
  | iface (t : TypeId) (v v' : Value) : VR ρ v v' → VR ρ (.iface t v) (.iface t v')
  | func (fn : Fn) (a b c d : List Value) : VRs ρ a b → VRs ρ c d → VR ρ (.func fn ⟨a⟩ ⟨c⟩) (.func fn ⟨b⟩ ⟨d⟩)
inductive VRs (ρ : Ren) : List Value → List Value → Prop
  | nil : VRs ρ [] []
  | cons (a b : Value) (l m : List Value) : VR ρ a b → VRs ρ l m → VRs ρ (a :: l) (b :: m)
end

def Le (ρ ρ' : Ren) : Prop := ∀ id L, ρ id = some L → ρ' id = some L
theorem Le.refl (ρ : Ren) : Le ρ ρ := fun _ _ h => h
theorem Le.trans {a b c : Ren} (h : Le a b) (k : Le b c) : Le a c := fun id L e => k id L (h id L e)

mutual
theorem VR.mono {ρ ρ' : Ren} (h : Le ρ ρ') : ∀ {a b : Value}, VR ρ a b → VR ρ' a b
  | _, _, .flat v hf => .flat v hf
  | _, _, .ptr id off L hL => .ptr id off L (h _ _ hL)
  | _, _, .slice id off n cap off' cap' L hL h1 h2 h3 h4 h5 => .slice id off n cap off' cap' L (h _ _ hL) h1 h2 h3 h4 h5
  | _, _, .cut a => .cut a
  | _, _, .map id L hL => .map id L (h _ _ hL)
  | _, _, .agg a b hs => .agg a b (VRs.mono h hs)
  | _, _, .tuple a b hs => .tuple a b (VRs.mono h hs)
  | _, _, .iface t v v' hv => .iface t v v' (VR.mono h hv)
  | _, _, .func fn a b c d h1 h2 => .func fn a b c d (VRs.mono h h1) (VRs.mono h h2)
theorem VRs.mono {ρ ρ' : Ren} (h : Le ρ ρ') : ∀ {a b : List Value}, VRs ρ a b → VRs ρ' a b
  | _, _, .nil => .nil
  | _, _, .cons a b l m h1 h2 => .cons a b l m (VR.mono h h1) (VRs.mono h h2)
end

theorem VRs.refl_flat (ρ : Ren) : ∀ (l : List Value), flatL l = true → VRs ρ l l
  | [], _ => .nil
  | a :: l, h => by simp [flatL] at h; exact .cons _ _ _ _ (.flat a h.1) (VRs.refl_flat ρ l h.2)

mutual
theorem VR.flat_eq {ρ : Ren} : ∀ {a b : Value}, VR ρ a b → flat a = true → b = a
  | _, _, .flat v _, _ => rfl
  | _, _, .ptr id off L _, h => by simp [Abs.flat] at h
  | _, _, .slice .., h => by simp [Abs.flat] at h
  | _, _, .cut .., h => by simp [Abs.flat, cutV] at h
  | _, _, .map .., h => by simp [Abs.flat] at h
  | _, _, .agg a b hs, h => by rw [VRs.flat_eq hs (by simpa [Abs.flat, flatA] using h)]
  | _, _, .tuple a b hs, h => by rw [VRs.flat_eq hs (by simpa [Abs.flat, flatA] using h)]
  | _, _, .iface t v v' hv, h => by rw [VR.flat_eq hv (by simpa [Abs.flat] using h)]
  | _, _, .func fn a b c d h1 h2, h => by
    simp [Abs.flat, flatA] at h
    rw [VRs.flat_eq h1 h.1, VRs.flat_eq h2 h.2]
theorem VRs.flat_eq {ρ : Ren} : ∀ {a b : List Value}, VRs ρ a b → flatL a = true → b = a
  | _, _, .nil, _ => rfl
  | _, _, .cons a b l m h1 h2, h => by
    simp [flatL] at h
    rw [VR.flat_eq h1 h.1, VRs.flat_eq h2 h.2]
end

theorem VRs.length_eq {ρ : Ren} : ∀ {a b : List Value}, VRs ρ a b → b.length = a.length
  | _, _, .nil => rfl
  | _, _, .cons a b l m h1 h2 => by simp [VRs.length_eq h2]
theorem VRs.get {ρ : Ren} : ∀ {a b : List Value}, VRs ρ a b → ∀ (i : Nat) (v : Value), a[i]? = some v → ∃ v', b[i]? = some v' ∧ VR ρ v v'
  | _, _, .nil, i, v, h => by simp at h
  | _, _, .cons a b l m h1 h2, 0, v, h => by simp at h; subst h; exact ⟨b, by simp, h1⟩
  | _, _, .cons a b l m h1 h2, i + 1, v, h => by
    obtain ⟨v', e, r⟩ := VRs.get h2 i v (by simpa using h)
    exact ⟨v', by simpa using e, r⟩
theorem VRs.of_get {ρ : Ren} : ∀ {a b : List Value}, b.length = a.length → (∀ (i : Nat) (v : Value), a[i]? = some v → ∃ v', b[i]? = some v' ∧ VR ρ v v') → VRs ρ a b
  | [], [], _, _ => .nil
  | [], _ :: _, h, _ => by simp at h
  | _ :: _, [], h, _ => by simp at h
  | a :: l, b :: m, h, hg => by
    obtain ⟨v', e, r⟩ := hg 0 a (by simp)
    simp at e; subst e
    exact .cons _ _ _ _ r (VRs.of_get (by simpa using h) fun i v hv => by simpa using hg (i + 1) v (by simpa using hv))
theorem VRs.append {ρ : Ren} : ∀ {a b c d : List Value}, VRs ρ a b → VRs ρ c d → VRs ρ (a ++ c) (b ++ d)
  | _, _, _, _, .nil, h => h
  | _, _, _, _, .cons a b l m h1 h2, h => .cons _ _ _ _ h1 (VRs.append h2 h)
theorem VRs.drop {ρ : Ren} : ∀ {a b : List Value} (n : Nat), VRs ρ a b → VRs ρ (a.drop n) (b.drop n)
  | _, _, 0, h => by simpa using h
  | _, _, _ + 1, .nil => by simpa using .nil
  | _, _, n + 1, .cons a b l m h1 h2 => by simpa using VRs.drop n h2
theorem VRs.take {ρ : Ren} : ∀ {a b : List Value} (n : Nat), VRs ρ a b → VRs ρ (a.take n) (b.take n)
  | _, _, 0, h => by simpa using .nil
  | _, _, _ + 1, .nil => by simpa using .nil
  | _, _, n + 1, .cons a b l m h1 h2 => by simpa using .cons _ _ _ _ h1 (VRs.take n h2)
theorem VRs.set {ρ : Ren} : ∀ {a b : List Value} (n : Nat) {v v' : Value}, VRs ρ a b → VR ρ v v' → VRs ρ (a.set n v) (b.set n v')
  | _, _, _, _, _, .nil, _ => by simpa using .nil
  | _, _, 0, _, _, .cons a b l m h1 h2, h => by simpa using .cons _ _ _ _ h h2
  | _, _, n + 1, _, _, .cons a b l m h1 h2, h => by simpa using .cons _ _ _ _ h1 (VRs.set n h2 h)
theorem VRs.writeAt {ρ : Ren} : ∀ {vs ws : List Value} (a b : List Value) (n : Nat), VRs ρ vs ws → VRs ρ a b → VRs ρ (writeAt a n vs) (writeAt b n ws)
  | _, _, _, _, _, .nil, h => h
  | _, _, a, b, n, .cons x y l m h1 h2, h => VRs.writeAt _ _ (n + 1) h2 (VRs.set n h h1)

theorem VR.scal {ρ : Ren} {a b : Value} (h : VR ρ a b) : scal b = scal a := by cases h <;> rfl
theorem scal_one (a : Value) : scal a = a.oneCell' := by cases a <;> rfl

/-- What stands to a struct's value is one. -/
theorem VR.agg_inv {ρ : Ren} {a : Array Value} {c : Value} (h : VR ρ (.agg a) c) : ∃ b, c = .agg b ∧ VRs ρ a.toList b.toList := by
  cases h with
  | flat _ hf => exact ⟨a, rfl, VRs.refl_flat ρ _ (by cases a; simpa [Abs.flat, flatA] using hf)⟩
  | agg x y hs => exact ⟨⟨y⟩, rfl, hs⟩
theorem VR.tuple_inv {ρ : Ren} {a : Array Value} {c : Value} (h : VR ρ (.tuple a) c) : ∃ b, c = .tuple b ∧ VRs ρ a.toList b.toList := by
  cases h with
  | flat _ hf => exact ⟨a, rfl, VRs.refl_flat ρ _ (by cases a; simpa [Abs.flat, flatA] using hf)⟩
  | tuple x y hs => exact ⟨⟨y⟩, rfl, hs⟩
theorem VR.ptr_inv {ρ : Ren} {id off : Nat} {c : Value} (h : VR ρ (.pointer (some ⟨id, off, none⟩)) c) :
    ∃ L, ρ id = some L ∧ c = .pointer (some ⟨L.cb, L.base + off, none⟩) := by
  cases h with
  | flat _ hf => simp [Abs.flat] at hf
  | ptr _ _ L hL => exact ⟨L, hL, rfl⟩
theorem VR.slice_inv {ρ : Ren} {id off n cap : Nat} {c : Value} (h : VR ρ (.slice (some ⟨id, off, none⟩) n cap) c) :
    ∃ L off' cap', ρ id = some L ∧ c = .slice (some ⟨L.cb, L.base + off', none⟩) n cap' ∧ n ≤ cap ∧ cap ≤ cap' ∧ (0 < cap → off' = off) ∧ (L.md = .fix → cap' = cap ∧ off' = off) ∧
      (∀ es, L.md = .grown es → off' + cap' * es ≤ L.ext) := by
  cases h with
  | flat _ hf => simp [Abs.flat] at hf
  | slice _ _ _ _ off' cap' L hL h1 h2 h3 h4 h5 => exact ⟨L, off', cap', hL, rfl, h1, h2, h3, h4, h5⟩
theorem VR.cut_inv {ρ : Ren} {b o s n cap : Nat} {c : Value} (h : VR ρ (.slice (some ⟨b, o, some s⟩) n cap) c) : n = 0 ∧ cap = 0 ∧ ∃ a : Addr, c = .slice (some a) 0 0 := by
  cases h with
  | flat _ hf => simp [Abs.flat] at hf
  | cut a => exact ⟨rfl, rfl, _, rfl⟩
theorem VR.map_inv {ρ : Ren} {id : Nat} {c : Value} (h : VR ρ (.map (some id)) c) : ∃ L, ρ id = some L ∧ c = .map (some L.cb) := by
  cases h with
  | flat _ hf => simp [Abs.flat] at hf
  | map _ L hL => exact ⟨L, hL, rfl⟩
theorem VR.iface_inv {ρ : Ren} {t : TypeId} {v c : Value} (h : VR ρ (.iface t v) c) : ∃ v', c = .iface t v' ∧ VR ρ v v' := by
  cases h with
  | flat _ hf => exact ⟨v, rfl, .flat v (by simpa [Abs.flat] using hf)⟩
  | iface _ _ v' hv => exact ⟨v', rfl, hv⟩
theorem VR.func_inv {ρ : Ren} {fn : Fn} {a c : Array Value} {x : Value} (h : VR ρ (.func fn a c) x) : ∃ b d, x = .func fn b d ∧ VRs ρ a.toList b.toList ∧ VRs ρ c.toList d.toList := by
  cases h with
  | flat _ hf =>
    cases a; cases c
    simp [Abs.flat, flatA] at hf
    exact ⟨_, _, rfl, VRs.refl_flat ρ _ hf.1, VRs.refl_flat ρ _ hf.2⟩
  | func _ a b c d h1 h2 => exact ⟨_, _, rfl, h1, h2⟩
theorem VR.int_inv {ρ : Ren} {k : IntKind} {n : Int} {c : Value} (h : VR ρ (.int k n) c) : c = .int k n := h.flat_eq rfl
theorem VR.bool_inv {ρ : Ren} {b : Bool} {c : Value} (h : VR ρ (.bool b) c) : c = .bool b := h.flat_eq rfl
theorem VR.string_inv {ρ : Ren} {s : ByteArray} {c : Value} (h : VR ρ (.string s) c) : c = .string s := h.flat_eq rfl
/-- The cells of a value. -/
theorem VR.cells {ρ : Ren} {a c : Value} (h : VR ρ a c) : VRs ρ a.cells.toList c.cells.toList := by
  cases h with
  | flat _ hf =>
    cases a <;> simp only [Value.cells] <;> first
      | exact .cons _ _ _ _ (.flat _ hf) .nil
      | (rename_i x; cases x; exact VRs.refl_flat ρ _ (by simpa [Abs.flat, flatA] using hf))
  | agg a b hs => exact hs
  | ptr id off L hL => exact .cons _ _ _ _ (.ptr id off L hL) .nil
  | slice id off n cap off' cap' L hL h1 h2 h3 h4 h5 => exact .cons _ _ _ _ (.slice id off n cap off' cap' L hL h1 h2 h3 h4 h5) .nil
  | cut a => exact .cons _ _ _ _ (.cut a) .nil
  | map id L hL => exact .cons _ _ _ _ (.map id L hL) .nil
  | tuple a b hs => exact .cons _ _ _ _ (.tuple a b hs) .nil
  | iface t v v' hv => exact .cons _ _ _ _ (.iface t v v' hv) .nil
  | func fn a b c d h1 h2 => exact .cons _ _ _ _ (.func fn a b c d h1 h2) .nil

/-! Heaps -/
/-- The rows of a map. -/
inductive MR (ρ : Ren) : List (Value × Value) → List MapEntry → Prop
  | nil : MR ρ [] []
  | cons (k v : Value) (m : MapEntry) (l : List (Value × Value)) (ms : List MapEntry) : VR ρ k m.key → VR ρ v m.val → MR ρ l ms → MR ρ ((k, v) :: l) (m :: ms)

structure Rel (B0 : Nat) (ρ : Ren) (H : Heap) (w : World) : Prop where
  low : B0 ≤ w.heap.size
  dom : ∀ id L, ρ id = some L → id < H.n ∧ L.cb < w.heap.size
  cells : ∀ id L c md, ρ id = some L → H.get id = some (.cells c md) →
    ∀ i v, c[i]? = some v → ∃ v', w.cell? ⟨L.cb, L.base + i, none⟩ = some v' ∧ VR ρ v v'
  own : ∀ id L c md, ρ id = some L → H.get id = some (.cells c md) → md ≠ .ro →
    B0 ≤ L.cb ∧ c.length ≤ L.ext ∧ ∀ o, L.base ≤ o → o < L.base + L.ext → (w.cell? ⟨L.cb, o, none⟩).isSome = true ∧ w.frozen? ⟨L.cb, o, none⟩ = false
  lowRo : ∀ id L c, ρ id = some L → H.get id = some (.cells c .ro) → L.cb < B0
  kind : ∀ id L c md, ρ id = some L → H.get id = some (.cells c md) → L.md = md
  sep : ∀ id id' L L' c md c' md', id ≠ id' → ρ id = some L → ρ id' = some L' → H.get id = some (.cells c md) → H.get id' = some (.cells c' md') → md ≠ .ro → md' ≠ .ro →
    L.cb ≠ L'.cb ∨ L.base + L.ext ≤ L'.base ∨ L'.base + L'.ext ≤ L.base
  maps : ∀ id L es, ρ id = some L → H.get id = some (.map es) → B0 ≤ L.cb ∧ ∃ ms clock, w.heap[L.cb]? = some (.map ms clock) ∧ MR ρ es ms.toList
  sepM : ∀ id id' L L' es es', id ≠ id' → ρ id = some L → ρ id' = some L' → H.get id = some (.map es) → H.get id' = some (.map es') → L.cb ≠ L'.cb

/-- What comes behind: nothing is forgotten; below B0 the world is as it was; a block that the model has not made yet is as it was. -/
structure Fut (B0 : Nat) (ρ : Ren) (H : Heap) (w : World) (ρ' : Ren) (H' : Heap) (w' : World) : Prop where
  n : H.n ≤ H'.n
  ext : ∀ id, id < H.n → ρ' id = ρ id
  below : Below B0 w w'
  late : ∀ id, id < H.n → ρ id = none → H'.get id = H.get id

theorem Fut.refl (B0 : Nat) (ρ : Ren) (H : Heap) (w : World) : Fut B0 ρ H w ρ H w := ⟨Nat.le_refl _, fun _ _ => rfl, Below.refl _ _, fun _ _ _ => rfl⟩
theorem Fut.trans {B0 : Nat} {ρ ρ' ρ'' : Ren} {H H' H'' : Heap} {w w' w'' : World} (a : Fut B0 ρ H w ρ' H' w') (b : Fut B0 ρ' H' w' ρ'' H'' w'') : Fut B0 ρ H w ρ'' H'' w'' :=
  ⟨Nat.le_trans a.n b.n, fun id h => (b.ext id (Nat.lt_of_lt_of_le h a.n)).trans (a.ext id h), a.below.trans b.below,
   fun id h e => (b.late id (Nat.lt_of_lt_of_le h a.n) ((a.ext id h).trans e)).trans (a.late id h e)⟩
theorem Fut.le {B0 : Nat} {ρ ρ' : Ren} {H H' : Heap} {w w' : World} (f : Fut B0 ρ H w ρ' H' w') (r : Rel B0 ρ H w) : Le ρ ρ' :=
  fun id L h => (f.ext id (r.dom id L h).1).trans h

theorem MR.mono {ρ ρ' : Ren} (h : Le ρ ρ') : ∀ {es : List (Value × Value)} {ms : List MapEntry}, MR ρ es ms → MR ρ' es ms
  | _, _, .nil => .nil
  | _, _, .cons k v m l ms h1 h2 h3 => .cons k v m l ms (h1.mono h) (h2.mono h) (MR.mono h h3)

/-- A draw changes nothing. -/
theorem Rel.drew {B0 : Nat} {ρ : Ren} {H : Heap} {w : World} (r : Rel B0 ρ H w) : Rel B0 ρ H w.drew :=
  ⟨r.low, r.dom, r.cells, r.own, r.lowRo, r.kind, r.sep, r.maps, r.sepM⟩

theorem cell_alloc {w : World} {o : Obj} {a : Addr} {v : Value} (h : w.cell? a = some v) : (w.alloc o).cell? a = some v := by
  rw [World.cell?_alloc_lt _ _ _ (World.block_lt_of_cell? _ _ h), h]
theorem cellS_alloc {w : World} {o : Obj} {a : Addr} (h : (w.cell? a).isSome = true) : (w.alloc o).cell? a = w.cell? a := by
  obtain ⟨v, hv⟩ := Option.isSome_iff_exists.1 h
  rw [cell_alloc hv, hv]

/-- A block more that the model has not made yet. -/
theorem Rel.late {B0 : Nat} {ρ : Ren} {H : Heap} {w : World} (r : Rel B0 ρ H w) (b : Blk) : Rel B0 ρ (H.push b) w := by
  have key : ∀ id L, ρ id = some L → (H.push b).get id = H.get id := fun id L h => by
    rw [Heap.get_push, if_neg (by have := (r.dom id L h).1; omega)]
  refine ⟨r.low, fun id L h => ⟨by have := (r.dom id L h).1; simp; omega, (r.dom id L h).2⟩, ?_, ?_, ?_, ?_, ?_, ?_, ?_⟩
  · intro id L c md h e; rw [key id L h] at e; exact r.cells id L c md h e
  · intro id L c md h e; rw [key id L h] at e; exact r.own id L c md h e
  · intro id L c h e; rw [key id L h] at e; exact r.lowRo id L c h e
  · intro id L c md h e; rw [key id L h] at e; exact r.kind id L c md h e
  · intro id id' L L' c md c' md' hn h h' e e'; rw [key id L h] at e; rw [key id' L' h'] at e'; exact r.sep id id' L L' c md c' md' hn h h' e e'
  · intro id L es h e; rw [key id L h] at e; exact r.maps id L es h e
  · intro id id' L L' es es' hn h h' e e'; rw [key id L h] at e; rw [key id' L' h'] at e'; exact r.sepM id id' L L' es es' hn h h' e e'

/-- A block more, of cells: 'id' may be one that was late. -/
theorem Rel.new {B0 : Nat} {ρ : Ren} {H : Heap} {w : World} (r : Rel B0 ρ H w) (id : Nat) (hid : id < H.n) (hno : ρ id = none) (c : List Value) (md : Md) (hb : H.get id = some (.cells c md)) (hmd : md ≠ .ro)
    (cs : Array Value) (t : TypeId) (L : Loc) (hcb : L.cb = w.heap.size) (hbase : L.base = 0) (hext : L.ext = cs.size) (hc : ∀ (i : Nat) (v : Value), c[i]? = some v → ∃ v' : Value, cs[i]? = some v' ∧ VR ρ v v') (hlen : c.length ≤ cs.size)
    (hkind : L.md = md) :
    Rel B0 (ρ.upd id L) H (w.alloc (.cells cs t)) ∧ Le ρ (ρ.upd id L) := by
  have hle : Le ρ (ρ.upd id L) := fun i L' h => by
    rw [Ren.upd_ne]; exact h
    intro e; subst e; rw [hno] at h; cases h
  have old : ∀ i L', ρ.upd id L i = some L' → (i = id ∧ L' = L) ∨ (i ≠ id ∧ ρ i = some L') := by
    intro i L' h
    by_cases e : i = id
    · subst e; rw [Ren.upd_same] at h; exact .inl ⟨rfl, by injection h with h; exact h.symm⟩
    · rw [Ren.upd_ne _ _ e] at h; exact .inr ⟨e, h⟩
  refine ⟨⟨by have := r.low; simp; omega, ?_, ?_, ?_, ?_, ?_, ?_, ?_, ?_⟩, hle⟩
  · intro i L' h
    rcases old i L' h with ⟨rfl, rfl⟩ | ⟨hne, h⟩
    · exact ⟨hid, by rw [hcb]; simp⟩
    · have := r.dom i L' h; exact ⟨this.1, by have := this.2; simp; omega⟩
  · intro i L' c' md' h e j v hv
    rcases old i L' h with ⟨rfl, rfl⟩ | ⟨hne, h⟩
    · rw [hb] at e; injection e with e; injection e with e1 e2; subst e1; subst e2
      obtain ⟨v', hv', hr⟩ := hc j v hv
      refine ⟨v', ?_, hr.mono hle⟩
      rw [hcb, hbase, Nat.zero_add, World.cell?_alloc_new]; exact hv'
    · obtain ⟨v', hv', hr⟩ := r.cells i L' c' md' h e j v hv
      exact ⟨v', cell_alloc hv', hr.mono hle⟩
  · intro i L' c' md' h e hmd'
    rcases old i L' h with ⟨rfl, rfl⟩ | ⟨hne, h⟩
    · rw [hb] at e; injection e with e; injection e with e1 e2; subst e1; subst e2
      refine ⟨by rw [hcb]; exact r.low, by omega, fun o h1 h2 => ?_⟩
      rw [hcb]
      refine ⟨?_, World.frozen?_alloc_new _ _ _ _⟩
      rw [World.cell?_alloc_new, Array.getElem?_eq_getElem (by omega)]; rfl
    · obtain ⟨a, b, hh⟩ := r.own i L' c' md' h e hmd'
      refine ⟨a, b, fun o h1 h2 => ?_⟩
      obtain ⟨x, y⟩ := hh o h1 h2
      exact ⟨by rw [cellS_alloc x]; exact x, by rw [World.frozen?_alloc_old _ _ _ (Nat.ne_of_lt (r.dom i L' h).2)]; exact y⟩
  · intro i L' c' h e
    rcases old i L' h with ⟨rfl, rfl⟩ | ⟨hne, h⟩
    · rw [hb] at e; injection e with e; injection e with e1 e2; exact absurd e2 hmd
    · exact r.lowRo i L' c' h e
  · intro i L' c' md' h e
    rcases old i L' h with ⟨rfl, rfl⟩ | ⟨hne, h⟩
    · rw [hb] at e; injection e with e; injection e with e1 e2; exact hkind.trans e2
    · exact r.kind i L' c' md' h e
  · intro i i' L1 L2 c1 m1 c2 m2 hn h h' e e' d d'
    rcases old i L1 h with ⟨a1, b1⟩ | ⟨hne, h1⟩ <;> rcases old i' L2 h' with ⟨a2, b2⟩ | ⟨hne', h2⟩
    · exact absurd (a1.trans a2.symm) hn
    · left; have := (r.dom i' L2 h2).2; rw [b1]; omega
    · left; have := (r.dom i L1 h1).2; rw [b2]; omega
    · exact r.sep i i' L1 L2 c1 m1 c2 m2 hn h1 h2 e e' d d'
  · intro i L' es h e
    rcases old i L' h with ⟨rfl, rfl⟩ | ⟨hne, h⟩
    · rw [hb] at e; injection e with e; cases e
    · obtain ⟨a, ms, cl, hm, hr⟩ := r.maps i L' es h e
      exact ⟨a, ms, cl, by rw [Below.heap_alloc _ _ _ (r.dom i L' h).2]; exact hm, hr.mono hle⟩
  · intro i i' L1 L2 es es' hn h h' e e'
    rcases old i L1 h with ⟨a1, b1⟩ | ⟨hne, h1⟩
    · rw [a1, hb] at e; injection e with e; cases e
    · rcases old i' L2 h' with ⟨a2, b2⟩ | ⟨hne', h2⟩
      · rw [a2, hb] at e'; injection e' with e'; cases e'
      · exact r.sepM i i' L1 L2 es es' hn h1 h2 e e'
end Go.Abs
/- The abstract machine: stores, rows that grow, maps, beside the model's. -/
namespace Go.Abs
open Go Go.RowKit
set_option linter.unusedVariables false

theorem size_setCells (b : Nat) : ∀ (vs : List Value) (o : Nat) (w : World), (w.setCells b o vs).heap.size = w.heap.size
  | [], _, _ => rfl
  | v :: r, o, w => by rw [World.setCells, size_setCells b r]; simp
theorem map_setCell (w : World) (a : Addr) (v : Value) (k : Nat) (ms : Array MapEntry) (cl : Nat) (h : w.heap[k]? = some (.map ms cl)) : (w.setCell a v).heap[k]? = some (.map ms cl) := by
  simp only [World.setCell, Array.getElem?_modify]
  split
  · rename_i e; subst e; rw [h]; rfl
  · exact h
theorem map_setCells (b : Nat) (k : Nat) (ms : Array MapEntry) (cl : Nat) : ∀ (vs : List Value) (o : Nat) (w : World), w.heap[k]? = some (.map ms cl) → (w.setCells b o vs).heap[k]? = some (.map ms cl)
  | [], _, _, h => h
  | v :: r, o, w, h => by rw [World.setCells]; exact map_setCells b k ms cl r _ _ (map_setCell w _ v k ms cl h)
theorem below_setCells {B : Nat} (b : Nat) (hb : B ≤ b) : ∀ (vs : List Value) (o : Nat) (w : World), Below B w (w.setCells b o vs)
  | [], _, w => Below.refl _ _
  | v :: r, o, w => by rw [World.setCells]; exact ((Below.refl B w).setCell (p := ⟨b, o, none⟩) hb v).trans (below_setCells b hb r _ _)

theorem writeAt_length : ∀ (vs : List Value) (c : List Value) (off : Nat), (writeAt c off vs).length = c.length
  | [], _, _ => rfl
  | v :: vs, c, off => by rw [writeAt, writeAt_length vs]; simp
theorem writeAt_out : ∀ (vs : List Value) (c : List Value) (off i : Nat), i < off ∨ off + vs.length ≤ i → (writeAt c off vs)[i]? = c[i]?
  | [], _, _, _, _ => rfl
  | v :: vs, c, off, i, h => by
    rw [writeAt, writeAt_out vs _ _ _ (by simp at h; omega), List.getElem?_set_ne (by simp at h; omega)]
theorem writeAt_in : ∀ (vs : List Value) (c : List Value) (off j : Nat), off + vs.length ≤ c.length → j < vs.length → (writeAt c off vs)[off + j]? = vs[j]?
  | v :: vs, c, off, 0, h, _ => by
    rw [writeAt, writeAt_out vs _ _ _ (by omega)]
    simp only [List.length_cons] at h
    rw [Nat.add_zero, List.getElem?_set_self (by omega)]; rfl
  | v :: vs, c, off, j + 1, h, hj => by
    rw [writeAt, show off + (j + 1) = off + 1 + j by omega, writeAt_in vs _ _ j (by simp at h ⊢; omega) (by simpa using hj)]
    simp

theorem get_set_self {H : Heap} {id : Nat} {b b' : Blk} (h : H.get id = some b) : (H.set id b').get id = some b' := by rw [Heap.get_set, if_pos rfl, h]; rfl
theorem get_set_other (H : Heap) {id i : Nat} (b' : Blk) (h : i ≠ id) : (H.set id b').get i = H.get i := by rw [Heap.get_set, if_neg (Ne.symm h)]

/-- A store. -/
theorem Rel.write {B0 : Nat} {ρ : Ren} {H : Heap} {w : World} (r : Rel B0 ρ H w) {id : Nat} {L : Loc} {c : List Value} {md : Md} (hL : ρ id = some L) (hb : H.get id = some (.cells c md)) (hmd : md ≠ .ro)
    {off : Nat} {vs ws : List Value} (hoff : off + vs.length ≤ c.length) (hv : VRs ρ vs ws) :
    Rel B0 ρ (H.set id (.cells (writeAt c off vs) md)) (w.setCells L.cb (L.base + off) ws) := by
  have hlen := hv.length_eq
  obtain ⟨hlow, hext, hown⟩ := r.own id L c md hL hb hmd
  have old : ∀ i b, (H.set id (.cells (writeAt c off vs) md)).get i = some b → (i = id ∧ b = .cells (writeAt c off vs) md) ∨ (i ≠ id ∧ H.get i = some b) := by
    intro i b h
    by_cases e : i = id
    · subst e; rw [get_set_self hb] at h; exact .inl ⟨rfl, by injection h with h; exact h.symm⟩
    · rw [get_set_other _ _ e] at h; exact .inr ⟨e, h⟩
  refine ⟨by rw [size_setCells]; exact r.low, fun i L' h => by rw [size_setCells, Heap.set_n]; exact r.dom i L' h, ?_, ?_, ?_, ?_, ?_, ?_, ?_⟩
  · intro i L' c' md' h e j v hj
    rcases old i _ e with ⟨a, b⟩ | ⟨hne, e⟩
    · subst a; injection b with b1 b2; subst b1; subst md'
      rw [hL] at h; injection h with h; subst h
      by_cases hin : off ≤ j ∧ j < off + vs.length
      · obtain ⟨k, rfl⟩ : ∃ k, j = off + k := ⟨j - off, by omega⟩
        rw [writeAt_in vs c off k hoff (by omega)] at hj
        obtain ⟨v', hv', hr⟩ := hv.get k v hj
        refine ⟨v', ?_, hr⟩
        have hk : k < ws.length := by omega
        have := World.cell?_setCells_in L.cb ws (L.base + off) w (fun m hm => (hown _ (by omega) (by omega)).1) k hk
        rw [show L.base + (off + k) = L.base + off + k by omega, this]
        rw [List.getElem?_eq_getElem hk] at hv'; exact hv'
      · rw [writeAt_out vs c off j (by omega)] at hj
        obtain ⟨v', hv', hr⟩ := r.cells i L c md hL hb j v hj
        refine ⟨v', ?_, hr⟩
        rw [World.cell?_setCells_out L.cb ws (L.base + off) w _ (fun _ _ => by simp only; omega)]; exact hv'
    · obtain ⟨v', hv', hr⟩ := r.cells i L' c' md' h e j v hj
      refine ⟨v', ?_, hr⟩
      rw [World.cell?_setCells_out L.cb ws (L.base + off) w _ ?_]; · exact hv'
      intro hblk _
      simp only at hblk ⊢
      have hjl : j < c'.length := by
        rcases Nat.lt_or_ge j c'.length with h' | h'
        · exact h'
        · rw [List.getElem?_eq_none h'] at hj; cases hj
      by_cases hro : md' = .ro
      · subst hro; have := r.lowRo i L' c' h e; omega
      · have h3 := (r.own i L' c' md' h e hro).2.1
        rcases r.sep i id L' L c' md' c md hne h hL e hb hro hmd with hs | hs | hs
        · exact absurd hblk hs
        · left; omega
        · right; omega
  · intro i L' c' md' h e hro
    rcases old i _ e with ⟨a, b⟩ | ⟨hne, e⟩
    · subst a; injection b with b1 b2; subst b1; subst b2
      rw [hL] at h; injection h with h; subst h
      refine ⟨hlow, by rw [writeAt_length]; exact hext, fun o h1 h2 => ?_⟩
      obtain ⟨x, y⟩ := hown o h1 h2
      rw [World.frozen?_setCells]
      refine ⟨?_, y⟩
      by_cases hin : L.base + off ≤ o ∧ o < L.base + off + ws.length
      · obtain ⟨k, rfl⟩ : ∃ k, o = L.base + off + k := ⟨o - (L.base + off), by omega⟩
        rw [World.cell?_setCells_in L.cb ws (L.base + off) w (fun m hm => (hown _ (by omega) (by omega)).1) k (by omega)]; rfl
      · rw [World.cell?_setCells_out L.cb ws (L.base + off) w _ (fun _ _ => by simp only; omega)]; exact x
    · obtain ⟨x1, x2, x3⟩ := r.own i L' c' md' h e hro
      refine ⟨x1, x2, fun o h1 h2 => ?_⟩
      obtain ⟨x, y⟩ := x3 o h1 h2
      rw [World.frozen?_setCells]
      refine ⟨?_, y⟩
      rw [World.cell?_setCells_out L.cb ws (L.base + off) w _ ?_]; · exact x
      intro hblk _
      simp only at hblk ⊢
      rcases r.sep i id L' L c' md' c md hne h hL e hb hro hmd with hs | hs | hs
      · exact absurd hblk hs
      · left; omega
      · right; omega
  · intro i L' c' h e
    rcases old i _ e with ⟨a, b⟩ | ⟨hne, e⟩
    · injection b with b1 b2; exact absurd b2.symm hmd
    · exact r.lowRo i L' c' h e
  · intro i L' c' md' h e
    rcases old i _ e with ⟨a, b⟩ | ⟨hne, e⟩
    · injection b with b1 b2; subst a; rw [b2]; exact r.kind _ _ c md h hb
    · exact r.kind i L' c' md' h e
  · intro i i' L1 L2 c1 m1 c2 m2 hn h h' e e' d d'
    rcases old i _ e with ⟨a, b⟩ | ⟨hne, g⟩ <;> rcases old i' _ e' with ⟨a', b'⟩ | ⟨hne', g'⟩
    · exact absurd (a.trans a'.symm) hn
    · injection b with b1 b2; subst a; exact r.sep _ _ L1 L2 c md c2 m2 hn h h' hb g' hmd d'
    · injection b' with b1 b2; subst a'; exact r.sep _ _ L1 L2 c1 m1 c md hn h h' g hb d hmd
    · exact r.sep _ _ L1 L2 c1 m1 c2 m2 hn h h' g g' d d'
  · intro i L' es h e
    rcases old i _ e with ⟨a, b⟩ | ⟨hne, e⟩
    · cases b
    · obtain ⟨a, ms, cl, hm, hr⟩ := r.maps i L' es h e
      exact ⟨a, ms, cl, map_setCells _ _ _ _ _ _ _ hm, hr⟩
  · intro i i' L1 L2 es es' hn h h' e e'
    rcases old i _ e with ⟨a, b⟩ | ⟨hne, e⟩
    · cases b
    · rcases old i' _ e' with ⟨a, b⟩ | ⟨hne', e'⟩
      · cases b
      · exact r.sepM i i' L1 L2 es es' hn h h' e e'

theorem Fut.write {B0 : Nat} {ρ : Ren} {H : Heap} {w : World} (r : Rel B0 ρ H w) {id : Nat} {L : Loc} {c : List Value} {md : Md} (hL : ρ id = some L) (hb : H.get id = some (.cells c md)) (hmd : md ≠ .ro) (b : Blk) (o : Nat) (ws : List Value) :
    Fut B0 ρ H w ρ (H.set id b) (w.setCells L.cb o ws) :=
  ⟨by simp, fun _ _ => rfl, below_setCells _ (r.own id L c md hL hb hmd).1 _ _ _, fun i _ hi => get_set_other _ _ (fun e => by subst e; rw [hL] at hi; cases hi)⟩

/-- A block that is no more. -/
theorem Rel.kill {B0 : Nat} {ρ : Ren} {H : Heap} {w : World} (r : Rel B0 ρ H w) {id : Nat} {b : Blk} (hb : H.get id = some b) : Rel B0 ρ (H.set id .dead) w := by
  have old : ∀ i b', (H.set id .dead).get i = some b' → b' = .dead ∨ H.get i = some b' := by
    intro i b' h
    by_cases e : i = id
    · subst e; rw [get_set_self hb] at h; injection h with h; exact .inl h.symm
    · rw [get_set_other _ _ e] at h; exact .inr h
  refine ⟨r.low, fun i L' h => by rw [Heap.set_n]; exact r.dom i L' h, ?_, ?_, ?_, ?_, ?_, ?_, ?_⟩
  · intro i L' c' md' h e; rcases old i _ e with b | e; · cases b
    exact r.cells i L' c' md' h e
  · intro i L' c' md' h e; rcases old i _ e with b | e; · cases b
    exact r.own i L' c' md' h e
  · intro i L' c' h e; rcases old i _ e with b | e; · cases b
    exact r.lowRo i L' c' h e
  · intro i L' c' md' h e; rcases old i _ e with b | e; · cases b
    exact r.kind i L' c' md' h e
  · intro i i' L1 L2 c1 m1 c2 m2 hn h h' e e'
    rcases old i _ e with b | e; · cases b
    rcases old i' _ e' with b | e'; · cases b
    exact r.sep i i' L1 L2 c1 m1 c2 m2 hn h h' e e'
  · intro i L' es h e; rcases old i _ e with b | e; · cases b
    exact r.maps i L' es h e
  · intro i i' L1 L2 es es' hn h h' e e'
    rcases old i _ e with b | e; · cases b
    rcases old i' _ e' with b | e'; · cases b
    exact r.sepM i i' L1 L2 es es' hn h h' e e'

/-- A block of another name, that lies within one that is no more. -/
theorem Rel.within {B0 : Nat} {ρ : Ren} {H : Heap} {w : World} (r : Rel B0 ρ H w) {id : Nat} {L : Loc} {c : List Value} {es : Nat} (hL : ρ id = some L) (hb : H.get id = some (.cells c (.grown es))) {n : Nat} (hn : n < H.n) (hnid : n ≠ id) (hno : ρ n = none) {c' : List Value} (hbn : H.get n = some (.cells c' (.grown es)))
    (L' : Loc) (hcb : L'.cb = L.cb) (h1 : L.base ≤ L'.base) (h2 : L'.base + L'.ext ≤ L.base + L.ext) (hmd : L'.md = .grown es) (hlen : c'.length ≤ L'.ext)
    (hc : ∀ i v, c'[i]? = some v → ∃ v', w.cell? ⟨L'.cb, L'.base + i, none⟩ = some v' ∧ VR ρ v v') :
    Rel B0 (ρ.upd n L') (H.set id .dead) w ∧ Le ρ (ρ.upd n L') := by
  have hle : Le ρ (ρ.upd n L') := fun i M h => by
    rw [Ren.upd_ne]; exact h
    intro e; subst e; rw [hno] at h; cases h
  obtain ⟨hlow, hext, hown⟩ := r.own id L c _ hL hb (by simp)
  have oldB : ∀ i b', (H.set id .dead).get i = some b' → b' = .dead ∨ (i ≠ id ∧ H.get i = some b') := by
    intro i b' h
    by_cases e : i = id
    · subst e; rw [get_set_self hb] at h; injection h with h; exact .inl h.symm
    · rw [get_set_other _ _ e] at h; exact .inr ⟨e, h⟩
  have old : ∀ i M, ρ.upd n L' i = some M → (i = n ∧ M = L') ∨ (i ≠ n ∧ ρ i = some M) := by
    intro i M h
    by_cases e : i = n
    · subst e; rw [Ren.upd_same] at h; exact .inl ⟨rfl, by injection h with h; exact h.symm⟩
    · rw [Ren.upd_ne _ _ e] at h; exact .inr ⟨e, h⟩
  refine ⟨⟨r.low, ?_, ?_, ?_, ?_, ?_, ?_, ?_, ?_⟩, hle⟩
  · intro i M h
    rcases old i M h with ⟨a, b⟩ | ⟨hne, h⟩
    · subst a; subst b; exact ⟨by simpa using hn, by rw [hcb]; exact (r.dom id L hL).2⟩
    · exact ⟨by simpa using (r.dom i M h).1, (r.dom i M h).2⟩
  · intro i M c1 md1 h e j v hj
    rcases oldB i _ e with b | ⟨hni, e⟩; · cases b
    rcases old i M h with ⟨a, b⟩ | ⟨hne, h⟩
    · subst a; subst b
      rw [hbn] at e; injection e with e; injection e with e1 e2; subst e1
      obtain ⟨v', hv', hr⟩ := hc j v hj
      exact ⟨v', hv', hr.mono hle⟩
    · obtain ⟨v', hv', hr⟩ := r.cells i M c1 md1 h e j v hj
      exact ⟨v', hv', hr.mono hle⟩
  · intro i M c1 md1 h e hro
    rcases oldB i _ e with b | ⟨hni, e⟩; · cases b
    rcases old i M h with ⟨a, b⟩ | ⟨hne, h⟩
    · subst a; subst b
      rw [hbn] at e; injection e with e; injection e with e1 e2; subst e1
      exact ⟨by omega, hlen, fun o g1 g2 => by rw [hcb]; exact hown o (by omega) (by omega)⟩
    · exact r.own i M c1 md1 h e hro
  · intro i M c1 h e
    rcases oldB i _ e with b | ⟨hni, e⟩; · cases b
    rcases old i M h with ⟨a, b⟩ | ⟨hne, h⟩
    · subst a; rw [hbn] at e; injection e with e; injection e with e1 e2; cases e2
    · exact r.lowRo i M c1 h e
  · intro i M c1 md1 h e
    rcases oldB i _ e with b | ⟨hni, e⟩; · cases b
    rcases old i M h with ⟨a, b⟩ | ⟨hne, h⟩
    · subst a; subst b; rw [hbn] at e; injection e with e; injection e with e1 e2; exact hmd.trans e2
    · exact r.kind i M c1 md1 h e
  · intro i i' L1 L2 c1 m1 c2 m2 hnn h h' e e' d d'
    rcases oldB i _ e with b | ⟨hni, e⟩; · cases b
    rcases oldB i' _ e' with b | ⟨hni', e'⟩; · cases b
    rcases old i L1 h with ⟨a1, b1⟩ | ⟨hne, g1⟩ <;> rcases old i' L2 h' with ⟨a2, b2⟩ | ⟨hne', g2⟩
    · exact absurd (a1.trans a2.symm) hnn
    · subst b1
      rcases r.sep i' id L2 L c2 m2 c _ hni' g2 hL e' hb d' (by simp) with hs | hs | hs
      · left; rw [hcb]; exact fun x => hs x.symm
      · right; right; omega
      · right; left; omega
    · subst b2
      rcases r.sep i id L1 L c1 m1 c _ hni g1 hL e hb d (by simp) with hs | hs | hs
      · left; rw [hcb]; exact hs
      · right; left; omega
      · right; right; omega
    · exact r.sep i i' L1 L2 c1 m1 c2 m2 hnn g1 g2 e e' d d'
  · intro i M es1 h e
    rcases oldB i _ e with b | ⟨hni, e⟩; · cases b
    rcases old i M h with ⟨a, b⟩ | ⟨hne, h⟩
    · subst a; rw [hbn] at e; injection e with e; cases e
    · obtain ⟨x, ms, cl, hm, hr⟩ := r.maps i M es1 h e
      exact ⟨x, ms, cl, hm, hr.mono hle⟩
  · intro i i' L1 L2 es1 es2 hnn h h' e e'
    rcases oldB i _ e with b | ⟨hni, e⟩; · cases b
    rcases oldB i' _ e' with b | ⟨hni', e'⟩; · cases b
    rcases old i L1 h with ⟨a1, b1⟩ | ⟨hne, g1⟩
    · subst a1; rw [hbn] at e; injection e with e; cases e
    · rcases old i' L2 h' with ⟨a2, b2⟩ | ⟨hne', g2⟩
      · subst a2; rw [hbn] at e'; injection e' with e'; cases e'
      · exact r.sepM i i' L1 L2 es1 es2 hnn g1 g2 e e'

/-- A map more. -/
theorem Rel.newMap {B0 : Nat} {ρ : Ren} {H : Heap} {w : World} (r : Rel B0 ρ H w) (id : Nat) (hid : id < H.n) (hno : ρ id = none) (hb : H.get id = some (.map [])) (L : Loc) (hcb : L.cb = w.heap.size) :
    Rel B0 (ρ.upd id L) H (w.alloc (.map #[] 0)) ∧ Le ρ (ρ.upd id L) := by
  have hle : Le ρ (ρ.upd id L) := fun i L' h => by
    rw [Ren.upd_ne]; exact h
    intro e; subst e; rw [hno] at h; cases h
  have old : ∀ i M, ρ.upd id L i = some M → (i = id ∧ M = L) ∨ (i ≠ id ∧ ρ i = some M) := by
    intro i M h
    by_cases e : i = id
    · subst e; rw [Ren.upd_same] at h; exact .inl ⟨rfl, by injection h with h; exact h.symm⟩
    · rw [Ren.upd_ne _ _ e] at h; exact .inr ⟨e, h⟩
  have noc : ∀ i M c md, ρ.upd id L i = some M → H.get i = some (.cells c md) → ρ i = some M := by
    intro i M c md h e
    rcases old i M h with ⟨a, b⟩ | ⟨hne, h⟩
    · subst a; rw [hb] at e; injection e with e; cases e
    · exact h
  refine ⟨⟨by have := r.low; simp; omega, ?_, ?_, ?_, ?_, ?_, ?_, ?_, ?_⟩, hle⟩
  · intro i M h
    rcases old i M h with ⟨a, b⟩ | ⟨hne, h⟩
    · subst a; subst b; exact ⟨hid, by rw [hcb]; simp⟩
    · have := r.dom i M h; exact ⟨this.1, by have := this.2; simp; omega⟩
  · intro i M c md h e j v hj
    have h := noc i M c md h e
    obtain ⟨v', hv', hr⟩ := r.cells i M c md h e j v hj
    exact ⟨v', cell_alloc hv', hr.mono hle⟩
  · intro i M c md h e hro
    have h := noc i M c md h e
    obtain ⟨a, b, hh⟩ := r.own i M c md h e hro
    refine ⟨a, b, fun o h1 h2 => ?_⟩
    obtain ⟨x, y⟩ := hh o h1 h2
    exact ⟨by rw [cellS_alloc x]; exact x, by rw [World.frozen?_alloc_old _ _ _ (Nat.ne_of_lt (r.dom i M h).2)]; exact y⟩
  · intro i M c h e; exact r.lowRo i M c (noc i M c _ h e) e
  · intro i M c md h e; exact r.kind i M c md (noc i M c _ h e) e
  · intro i i' L1 L2 c1 m1 c2 m2 hn h h' e e' d d'; exact r.sep i i' L1 L2 c1 m1 c2 m2 hn (noc _ _ _ _ h e) (noc _ _ _ _ h' e') e e' d d'
  · intro i M es h e
    rcases old i M h with ⟨a, b⟩ | ⟨hne, h⟩
    · subst a; subst b
      rw [hb] at e; injection e with e; injection e with e; subst e
      exact ⟨by rw [hcb]; exact r.low, #[], 0, by rw [hcb]; show (w.heap.push _)[_]? = _; simp, .nil⟩
    · obtain ⟨x, ms, cl, hm, hr⟩ := r.maps i M es h e
      exact ⟨x, ms, cl, by rw [Below.heap_alloc _ _ _ (r.dom i M h).2]; exact hm, hr.mono hle⟩
  · intro i i' L1 L2 es es' hn h h' e e'
    rcases old i L1 h with ⟨a1, b1⟩ | ⟨hne, g1⟩ <;> rcases old i' L2 h' with ⟨a2, b2⟩ | ⟨hne', g2⟩
    · exact absurd (a1.trans a2.symm) hn
    · have := (r.dom i' L2 g2).2; rw [b1]; omega
    · have := (r.dom i L1 g1).2; rw [b2]; omega
    · exact r.sepM i i' L1 L2 es es' hn g1 g2 e e'

/-- A map written. -/
theorem Rel.updMap {B0 : Nat} {ρ : Ren} {H : Heap} {w : World} (r : Rel B0 ρ H w) {id : Nat} {L : Loc} {es es' : List (Value × Value)} (hL : ρ id = some L) (hb : H.get id = some (.map es)) (ms : Array MapEntry) (cl : Nat) (hm : MR ρ es' ms.toList) :
    Rel B0 ρ (H.set id (.map es')) { w with heap := w.heap.setIfInBounds L.cb (.map ms cl) } := by
  obtain ⟨hlow, ms0, cl0, h0, _⟩ := r.maps id L es hL hb
  have hheap : ∀ k, k ≠ L.cb → (w.heap.setIfInBounds L.cb (.map ms cl))[k]? = w.heap[k]? := fun k hk => Array.getElem?_setIfInBounds_ne (Ne.symm hk)
  have hcell : ∀ a : Addr, ({ w with heap := w.heap.setIfInBounds L.cb (.map ms cl) } : World).cell? a = w.cell? a := by
    intro a
    unfold World.cell?
    by_cases e : a.block = L.cb
    · simp only [e, h0, Array.getElem?_setIfInBounds_self_of_lt (r.dom id L hL).2]
    · simp only [hheap _ e]
  have hfro : ∀ a : Addr, ({ w with heap := w.heap.setIfInBounds L.cb (.map ms cl) } : World).frozen? a = w.frozen? a := by
    intro a
    unfold World.frozen?
    by_cases e : a.block = L.cb
    · simp only [e, h0, Array.getElem?_setIfInBounds_self_of_lt (r.dom id L hL).2]
    · simp only [hheap _ e]
  have old : ∀ i b, (H.set id (.map es')).get i = some b → (i = id ∧ b = .map es') ∨ (i ≠ id ∧ H.get i = some b) := by
    intro i b h
    by_cases e : i = id
    · subst e; rw [get_set_self hb] at h; exact .inl ⟨rfl, by injection h with h; exact h.symm⟩
    · rw [get_set_other _ _ e] at h; exact .inr ⟨e, h⟩
  have oldC : ∀ i c md, (H.set id (.map es')).get i = some (.cells c md) → H.get i = some (.cells c md) := by
    intro i c md h
    rcases old i _ h with ⟨_, b⟩ | ⟨_, h⟩
    · cases b
    · exact h
  refine ⟨by simpa using r.low, fun i M h => by simpa using r.dom i M h, ?_, ?_, ?_, ?_, ?_, ?_, ?_⟩
  · intro i M c md h e j v hj; rw [hcell]; exact r.cells i M c md h (oldC _ _ _ e) j v hj
  · intro i M c md h e hro
    obtain ⟨a, b, hh⟩ := r.own i M c md h (oldC _ _ _ e) hro
    exact ⟨a, b, fun o h1 h2 => by rw [hcell, hfro]; exact hh o h1 h2⟩
  · intro i M c h e; exact r.lowRo i M c h (oldC _ _ _ e)
  · intro i M c md h e; exact r.kind i M c md h (oldC _ _ _ e)
  · intro i i' L1 L2 c1 m1 c2 m2 hn h h' e e' d d'; exact r.sep i i' L1 L2 c1 m1 c2 m2 hn h h' (oldC _ _ _ e) (oldC _ _ _ e') d d'
  · intro i M es1 h e
    rcases old i _ e with ⟨a, b⟩ | ⟨hne, e⟩
    · subst a; injection b with b; subst b
      rw [hL] at h; injection h with h; subst h
      exact ⟨hlow, ms, cl, by simp only [Array.getElem?_setIfInBounds_self_of_lt (r.dom _ L hL).2], hm⟩
    · obtain ⟨x, ms1, cl1, hm1, hr1⟩ := r.maps i M es1 h e
      refine ⟨x, ms1, cl1, ?_, hr1⟩
      simp only
      rw [hheap _ (r.sepM i id M L es1 es hne h hL e hb)]; exact hm1
  · intro i i' L1 L2 es1 es2 hn h h' e e'
    rcases old i _ e with ⟨a, b⟩ | ⟨hne, g⟩ <;> rcases old i' _ e' with ⟨a', b'⟩ | ⟨hne', g'⟩
    · exact absurd (a.trans a'.symm) hn
    · subst a; exact r.sepM _ _ L1 L2 es es2 hn h h' hb g'
    · subst a'; exact r.sepM _ _ L1 L2 es1 es hn h h' g hb
    · exact r.sepM i i' L1 L2 es1 es2 hn h h' g g'
end Go.Abs
/- The abstract machine: rows that grow in place. -/
namespace Go.Abs
open Go Go.RowKit
set_option linter.unusedVariables false

/-- A row that is no more, its cells written. -/
theorem Rel.spoil {B0 : Nat} {ρ : Ren} {H : Heap} {w : World} (r : Rel B0 ρ H w) {id : Nat} {L : Loc} {c : List Value} {md : Md} (hL : ρ id = some L) (hb : H.get id = some (.cells c md)) (hmd : md ≠ .ro)
    {o : Nat} (ws : List Value) (h1 : L.base ≤ o) (h2 : o + ws.length ≤ L.base + L.ext) : Rel B0 ρ (H.set id .dead) (w.setCells L.cb o ws) := by
  obtain ⟨hlow, hext, hown⟩ := r.own id L c md hL hb hmd
  have old : ∀ i b', (H.set id .dead).get i = some b' → b' = .dead ∨ (i ≠ id ∧ H.get i = some b') := by
    intro i b' h
    by_cases e : i = id
    · subst e; rw [get_set_self hb] at h; injection h with h; exact .inl h.symm
    · rw [get_set_other _ _ e] at h; exact .inr ⟨e, h⟩
  have out : ∀ i L' c' md', i ≠ id → ρ i = some L' → H.get i = some (.cells c' md') → ∀ k, (md' = .ro ∨ (L'.base ≤ k ∧ k < L'.base + L'.ext)) → (w.setCells L.cb o ws).cell? ⟨L'.cb, k, none⟩ = w.cell? ⟨L'.cb, k, none⟩ := by
    intro i L' c' md' hne h e k hk
    refine World.cell?_setCells_out L.cb ws o w _ ?_
    intro hblk _
    simp only at hblk ⊢
    by_cases hro : md' = .ro
    · subst hro; have := r.lowRo i L' c' h e; omega
    · rcases hk with hk | ⟨k1, k2⟩
      · exact absurd hk hro
      · rcases r.sep i id L' L c' md' c md hne h hL e hb hro hmd with hs | hs | hs
        · exact absurd hblk hs
        · left; omega
        · right; omega
  refine ⟨by rw [size_setCells]; exact r.low, fun i L' h => by rw [size_setCells, Heap.set_n]; exact r.dom i L' h, ?_, ?_, ?_, ?_, ?_, ?_, ?_⟩
  · intro i L' c' md' h e j v hj
    rcases old i _ e with b | ⟨hne, e⟩; · cases b
    obtain ⟨v', hv', hr⟩ := r.cells i L' c' md' h e j v hj
    refine ⟨v', ?_, hr⟩
    rw [out i L' c' md' hne h e _ ?_]; · exact hv'
    by_cases hro : md' = .ro
    · exact .inl hro
    · right
      have hjl : j < c'.length := by
        rcases Nat.lt_or_ge j c'.length with h' | h'
        · exact h'
        · rw [List.getElem?_eq_none h'] at hj; cases hj
      have := (r.own i L' c' md' h e hro).2.1
      omega
  · intro i L' c' md' h e hro
    rcases old i _ e with b | ⟨hne, e⟩; · cases b
    obtain ⟨x1, x2, x3⟩ := r.own i L' c' md' h e hro
    refine ⟨x1, x2, fun k k1 k2 => ?_⟩
    rw [out i L' c' md' hne h e k (.inr ⟨k1, k2⟩), World.frozen?_setCells]
    exact x3 k k1 k2
  · intro i L' c' h e
    rcases old i _ e with b | ⟨hne, e⟩; · cases b
    exact r.lowRo i L' c' h e
  · intro i L' c' md' h e
    rcases old i _ e with b | ⟨hne, e⟩; · cases b
    exact r.kind i L' c' md' h e
  · intro i i' L1 L2 c1 m1 c2 m2 hn h h' e e'
    rcases old i _ e with b | ⟨hne, g⟩; · cases b
    rcases old i' _ e' with b | ⟨hne', g'⟩; · cases b
    exact r.sep i i' L1 L2 c1 m1 c2 m2 hn h h' g g'
  · intro i L' es h e
    rcases old i _ e with b | ⟨hne, e⟩; · cases b
    obtain ⟨a, ms, cl, hm, hr⟩ := r.maps i L' es h e
    exact ⟨a, ms, cl, map_setCells _ _ _ _ _ _ _ hm, hr⟩
  · intro i i' L1 L2 es es' hn h h' e e'
    rcases old i _ e with b | ⟨hne, g⟩; · cases b
    rcases old i' _ e' with b | ⟨hne', g'⟩; · cases b
    exact r.sepM i i' L1 L2 es es' hn h h' g g'

/-- A row more, of cells that are there. -/
theorem Rel.add {B0 : Nat} {ρ : Ren} {H : Heap} {w : World} (r : Rel B0 ρ H w) {n : Nat} (hn : n < H.n) (hno : ρ n = none) {c : List Value} {md : Md} (hb : H.get n = some (.cells c md)) (hmd : md ≠ .ro) (L : Loc) (hcb : L.cb < w.heap.size) (hlow : B0 ≤ L.cb)
    (hlen : c.length ≤ L.ext) (hown : ∀ o, L.base ≤ o → o < L.base + L.ext → (w.cell? ⟨L.cb, o, none⟩).isSome = true ∧ w.frozen? ⟨L.cb, o, none⟩ = false) (hkind : L.md = md)
    (hc : ∀ i v, c[i]? = some v → ∃ v', w.cell? ⟨L.cb, L.base + i, none⟩ = some v' ∧ VR ρ v v')
    (hsep : ∀ i L1 c1 m1, ρ i = some L1 → H.get i = some (.cells c1 m1) → m1 ≠ .ro → L.cb ≠ L1.cb ∨ L.base + L.ext ≤ L1.base ∨ L1.base + L1.ext ≤ L.base) :
    Rel B0 (ρ.upd n L) H w ∧ Le ρ (ρ.upd n L) := by
  have hle : Le ρ (ρ.upd n L) := fun i M h => by
    rw [Ren.upd_ne]; exact h
    intro e; subst e; rw [hno] at h; cases h
  have old : ∀ i M, ρ.upd n L i = some M → (i = n ∧ M = L) ∨ (i ≠ n ∧ ρ i = some M) := by
    intro i M h
    by_cases e : i = n
    · subst e; rw [Ren.upd_same] at h; exact .inl ⟨rfl, by injection h with h; exact h.symm⟩
    · rw [Ren.upd_ne _ _ e] at h; exact .inr ⟨e, h⟩
  refine ⟨⟨r.low, ?_, ?_, ?_, ?_, ?_, ?_, ?_, ?_⟩, hle⟩
  · intro i M h
    rcases old i M h with ⟨a, b⟩ | ⟨hne, h⟩
    · subst a; subst b; exact ⟨hn, hcb⟩
    · exact r.dom i M h
  · intro i M c1 md1 h e j v hj
    rcases old i M h with ⟨a, b⟩ | ⟨hne, h⟩
    · subst a; subst b
      rw [hb] at e; injection e with e; injection e with e1 e2; subst e1
      obtain ⟨v', hv', hr⟩ := hc j v hj
      exact ⟨v', hv', hr.mono hle⟩
    · obtain ⟨v', hv', hr⟩ := r.cells i M c1 md1 h e j v hj
      exact ⟨v', hv', hr.mono hle⟩
  · intro i M c1 md1 h e hro
    rcases old i M h with ⟨a, b⟩ | ⟨hne, h⟩
    · subst a; subst b
      rw [hb] at e; injection e with e; injection e with e1 e2; subst e1
      exact ⟨hlow, hlen, hown⟩
    · exact r.own i M c1 md1 h e hro
  · intro i M c1 h e
    rcases old i M h with ⟨a, b⟩ | ⟨hne, h⟩
    · subst a; rw [hb] at e; injection e with e; injection e with e1 e2; exact absurd e2 hmd
    · exact r.lowRo i M c1 h e
  · intro i M c1 md1 h e
    rcases old i M h with ⟨a, b⟩ | ⟨hne, h⟩
    · subst a; subst b; rw [hb] at e; injection e with e; injection e with e1 e2; exact hkind.trans e2
    · exact r.kind i M c1 md1 h e
  · intro i i' L1 L2 c1 m1 c2 m2 hnn h h' e e' d d'
    rcases old i L1 h with ⟨a1, b1⟩ | ⟨hne, g1⟩ <;> rcases old i' L2 h' with ⟨a2, b2⟩ | ⟨hne', g2⟩
    · exact absurd (a1.trans a2.symm) hnn
    · subst b1; exact hsep i' L2 c2 m2 g2 e' d'
    · subst b2
      rcases hsep i L1 c1 m1 g1 e d with hs | hs | hs
      · left; exact fun x => hs x.symm
      · right; right; exact hs
      · right; left; exact hs
    · exact r.sep i i' L1 L2 c1 m1 c2 m2 hnn g1 g2 e e' d d'
  · intro i M es1 h e
    rcases old i M h with ⟨a, b⟩ | ⟨hne, h⟩
    · subst a; rw [hb] at e; injection e with e; cases e
    · obtain ⟨x, ms, cl, hm, hr⟩ := r.maps i M es1 h e
      exact ⟨x, ms, cl, hm, hr.mono hle⟩
  · intro i i' L1 L2 es1 es2 hnn h h' e e'
    rcases old i L1 h with ⟨a1, b1⟩ | ⟨hne, g1⟩
    · subst a1; rw [hb] at e; injection e with e; cases e
    · rcases old i' L2 h' with ⟨a2, b2⟩ | ⟨hne', g2⟩
      · subst a2; rw [hb] at e'; injection e' with e'; cases e'
      · exact r.sepM i i' L1 L2 es1 es2 hnn g1 g2 e e'
end Go.Abs
/- The abstract machine: operations that ask nothing of memory, beside the model's. -/
namespace Go.Abs
open Go Go.RowKit
set_option linter.unusedVariables false
set_option linter.unusedSimpArgs false

theorem VRs_map {ρ : Ren} {ev cev : Operand → Value} (xs : Array Operand) (h : ∀ x ∈ xs, VR ρ (ev x) (cev x)) : VRs ρ (xs.map ev).toList (xs.map cev).toList := by
  refine VRs.of_get (by simp) fun i v hv => ?_
  simp only [Array.toList_map, List.getElem?_map, Option.map_eq_some_iff] at hv ⊢
  obtain ⟨x, hx, rfl⟩ := hv
  exact ⟨cev x, ⟨x, hx, rfl⟩, h x (by
    have := List.mem_of_getElem? hx
    simpa using this)⟩

theorem run_under {P : Program} {w : World} {t : TypeId} {d : TypeDesc} (h : P.underlying t = some d) : (underlying t).run P w = .ok d w := by
  unfold underlying; simp [h]
theorem run_info {P : Program} {w : World} {t : TypeId} {d : TypeInfo} (h : P.info? t = some d) : (typeInfo t).run P w = .ok d w := by
  unfold typeInfo; simp [h]
theorem run_size {P : Program} {w : World} {t : TypeId} {d : TypeInfo} (h : P.info? t = some d) : (sizeOf t).run P w = .ok d.size w := by
  unfold sizeOf; simp [run_info h]
theorem run_zero {P : Program} {w : World} {t : TypeId} {z : Value} (h : zeroT P t = some z) : (zeroValue t).run P w = .ok z w ∧ flat z = true := by
  unfold zeroT at h
  cases hi : P.info? t with
  | none => simp [hi] at h
  | some i =>
    simp only [hi, Option.bind_some] at h
    cases hz : i.zero with
    | none => simp [hz] at h
    | some z' =>
      simp only [hz, Option.bind_some] at h
      split at h
      · rename_i hf
        injection h with h; subst h
        refine ⟨?_, hf⟩
        unfold zeroValue
        simp [run_info hi, hz]
      · cases h
theorem run_isAgg {P : Program} {w : World} {t : TypeId} {b : Bool} (h : isAggT P t = some b) : (isAgg t).run P w = .ok b w := by
  unfold isAggT at h
  unfold isAgg
  cases hu : P.underlying t with
  | none => simp [hu] at h
  | some d => cases d <;> simp [hu] at h <;> subst h <;> simp [run_under hu]

/-- A part of a value. -/
theorem part_sim {P : Program} {ρ : Ren} {t : TypeId} {i : TypeInfo} (hi : P.info? t = some i) {as bs : List Value} (h : VRs ρ as bs) {off : Nat} {v : Value} (hp : partV P t i.size as off = some v) (w : World) :
    ∃ cv, (part t bs.toArray off).run P w = .ok cv w ∧ VR ρ v cv := by
  unfold partV at hp
  cases ha : isAggT P t with
  | none => simp [ha] at hp
  | some b =>
    rw [ha] at hp
    unfold part
    cases b with
    | true =>
      injection hp with hp; subst hp
      simp only [Sem.run_bind, run_isAgg ha, Result.andThen_ok, if_true, run_size hi, Sem.run_pure]
      refine ⟨_, rfl, ?_⟩
      have e : (bs.toArray.extract off (off + i.size)) = ⟨(bs.drop off).take i.size⟩ := by
        simp [List.extract_eq_take_drop]
      rw [e]
      exact .agg _ _ ((h.drop off).take i.size)
    | false =>
      simp only at hp
      obtain ⟨v', hv', hr⟩ := h.get off v hp
      simp only [Sem.run_bind, run_isAgg ha, Result.andThen_ok, Bool.false_eq_true, if_false]
      refine ⟨v', ?_, hr⟩
      simp [hv']

theorem addr_add (b o n : Nat) : (⟨b, o, none⟩ : Addr).add n = ⟨b, o + n, none⟩ := by
  unfold Addr.add; split
  · rename_i h; subst h; rfl
  · rfl

theorem foldl_writeAt (vs : List Value) : ∀ (cs : Array Value) (off : Nat), (vs.zipIdx.foldl (fun (cs : Array Value) x => cs.setIfInBounds (off + x.2) x.1) cs) = ⟨writeAt cs.toList off vs⟩ := by
  have gen : ∀ (vs : List Value) (k : Nat) (cs : Array Value) (off : Nat), ((vs.zipIdx k).foldl (fun (cs : Array Value) x => cs.setIfInBounds (off + x.2) x.1) cs) = ⟨writeAt cs.toList (off + k) vs⟩ := by
    intro vs
    induction vs with
    | nil => intro k cs off; rfl
    | cons v vs ih =>
      intro k cs off
      simp only [List.zipIdx_cons, List.foldl_cons, writeAt]
      rw [ih (k + 1)]
      congr 2
      simp
  intro cs off
  simpa using gen vs 0 cs off

theorem fill_sim {ρ : Ren} (place : Nat → Option (Nat × Nat)) : ∀ (ps qs : List (Nat × Value)) (as bs : List Value) (out : List Value), fillL place as ps = some out → VRs ρ as bs → ps.map (·.1) = qs.map (·.1) → VRs ρ (ps.map (·.2)) (qs.map (·.2)) →
    ∃ out', Instr.fill place ⟨bs⟩ qs = some ⟨out'⟩ ∧ VRs ρ out out' := by
  intro ps
  induction ps with
  | nil =>
    intro qs as bs out h hab hi hv
    cases qs with
    | nil => simp [fillL] at h; subst h; exact ⟨bs, rfl, hab⟩
    | cons q qs => simp at hi
  | cons p ps ih =>
    intro qs as bs out h hab hi hv
    cases qs with
    | nil => simp at hi
    | cons q qs =>
      obtain ⟨i, v⟩ := p; obtain ⟨j, u⟩ := q
      simp only [List.map_cons, List.cons.injEq] at hi
      obtain ⟨e, hi⟩ := hi
      subst e
      cases hv with
      | cons _ _ _ _ h1 h2 =>
        simp only [fillL] at h
        simp only [Instr.fill]
        cases hp : place i with
        | none => simp [hp] at h
        | some x =>
          obtain ⟨off, size⟩ := x
          simp only [hp] at h ⊢
          have hc := h1.cells
          have hl := hc.length_eq
          have hl2 := hab.length_eq
          simp only [Array.length_toList] at hl
          split at h
          · cases h
          · rename_i hn
            have hsz : v.cells.size = size := by
              rcases Nat.decEq v.cells.size size with h' | h'
              · exact absurd (Or.inl h') hn
              · exact h'
            have hof : ¬ off + size > as.length := fun h' => hn (Or.inr h')
            have : (decide (u.cells.size ≠ size) || decide (off + u.cells.size > (⟨bs⟩ : Array Value).size)) = false := by
              simp; omega
            rw [if_neg (by simpa using this)]
            have e : Array.foldl (fun (cs : Array Value) (x : Value × Nat) => cs.setIfInBounds (off + x.2) x.1) ⟨bs⟩ u.cells.zipIdx = ⟨writeAt bs off u.cells.toList⟩ := by
              rw [← Array.foldl_toList, Array.toList_zipIdx]
              exact foldl_writeAt _ ⟨bs⟩ off
            refine ih qs _ (writeAt bs off u.cells.toList) out h (VRs.writeAt _ _ _ hc hab) hi h2 |>.imp fun o ho => ⟨?_, ho.2⟩
            rw [← ho.1]
            congr 1
end Go.Abs
/- The abstract machine: quiet operations beside the model's. -/
namespace Go.Abs
open Go Go.RowKit
set_option linter.unusedVariables false
set_option linter.unusedSimpArgs false

theorem purely_run' {P : Program} {α : Type} {s : Sem α} {a : α} (w : World) (h : purely P s = some a) : s.run P w = .ok a w := purely_run w s a h

theorem flatRes_some {x : Option Value} {v : Value} (h : flatRes x = some v) : x = some v ∧ flat v = true := by
  unfold flatRes at h
  cases x with
  | none => cases h
  | some u =>
    simp only [Option.bind_some] at h
    split at h
    · rename_i hf; injection h with h; subst h; exact ⟨rfl, hf⟩
    · cases h

/-- What a run of a value gives to an operation. -/
def GivesV (P : Program) (s : Sem Next) (ρ : Ren) (v : Value) : Prop := ∀ w : World, ∃ cv, s.run P w = .ok (.value cv) w ∧ VR ρ v cv

theorem givesV_of {P : Program} {s : Sem Value} {ρ : Ren} {v : Value} (h : ∀ w : World, ∃ cv, s.run P w = .ok cv w ∧ VR ρ v cv) : GivesV P (do pure (.value (← s))) ρ v := by
  intro w
  obtain ⟨cv, h1, h2⟩ := h w
  exact ⟨cv, by simp [h1], h2⟩

theorem pick_sim {P : Program} {ρ : Ren} {a b : Value} {c' a' b' : Value} {v : Value} {t : Bool} (hc : VR ρ (.bool t) c') (ha : VR ρ a a') (hb : VR ρ b b')
    (h : (if t then a else b) = v) : GivesV P (do pure (.value (if ← asBool c' then a' else b'))) ρ v := by
  have := hc.bool_inv; subst this
  intro w
  refine ⟨if t then a' else b', by cases t <;> simp [asBool], ?_⟩
  subst h
  cases t <;> simp [ha, hb]

theorem nilCheck_sim {P : Program} {ρ : Ren} {x x' : Value} (hx : VR ρ x x') (h : nonNil x = true) {o : Oper} {y : Operand} {cev : Operand → Value} (ho : o.op = .nilCheck y) (he : cev y = x') : GivesV P (execOp cev o) ρ x := by
  intro w
  refine ⟨x', ?_, hx⟩
  unfold execOp
  rw [ho]
  simp only [he]
  cases x <;> simp [nonNil] at h
  case pointer a =>
    cases a with
    | none => simp at h
    | some a =>
      obtain ⟨b, o, s⟩ := a
      cases hx with
      | flat _ hf => simp [Abs.flat] at hf
      | ptr => rfl
  case func fn f c =>
    obtain ⟨b, d, rfl, _, _⟩ := hx.func_inv
    cases fn <;> simp at h
    rfl
  case iface t v =>
    obtain ⟨v', rfl, _⟩ := hx.iface_inv
    rfl

theorem equal_one (t : TypeId) (x y : Value) : Op.equal t x y = Op.equalIn (9999 + 1) t x y := rfl
theorem nilEq_sim {P : Program} {ρ : Ren} {t : TypeId} {a b a' b' : Value} {r : Bool} (ha : VR ρ a a') (hb : VR ρ b b') (h : nilEq P t a b = some r) (x y : Operand) (op : BinOp) (w : World) :
    (eqGuard op t x y a' b').run P w = .ok () w ∧ (Op.equal t a' b').run P w = .ok r w ∧ (∀ k n, a' ≠ .int k n) ∧ (∀ k n, a' ≠ .float k n) ∧ (∀ k n m, a' ≠ .complex k n m) ∧ (∀ s, a' ≠ .string s) := by
  unfold nilEq at h
  split at h
  all_goals first
    | cases h
    | skip
  all_goals rename_i hu
  · have e : a' = _ := ha.flat_eq rfl
    subst e
    rename_i n c ad m d
    obtain ⟨bb, oo, ss⟩ := ad
    cases hb with
    | flat _ hf => simp [Abs.flat] at hf
    | slice => exact ⟨by cases op <;> rfl, by rw [equal_one]; unfold Op.equalIn; simp only [Sem.run_bind, run_under hu, Result.andThen_ok, Option.isNone]; first | rfl | simp, by simp, by simp, by simp, by simp⟩
    | cut => exact ⟨by cases op <;> rfl, by rw [equal_one]; unfold Op.equalIn; simp only [Sem.run_bind, run_under hu, Result.andThen_ok, Option.isNone]; first | rfl | simp, by simp, by simp, by simp, by simp⟩
  · have e : b' = _ := hb.flat_eq rfl
    subst e
    rename_i ad n c m d
    obtain ⟨bb, oo, ss⟩ := ad
    cases ha with
    | flat _ hf => simp [Abs.flat] at hf
    | slice => exact ⟨by cases op <;> rfl, by rw [equal_one]; unfold Op.equalIn; simp only [Sem.run_bind, run_under hu, Result.andThen_ok, Option.isNone]; first | rfl | simp, by simp, by simp, by simp, by simp⟩
    | cut => exact ⟨by cases op <;> rfl, by rw [equal_one]; unfold Op.equalIn; simp only [Sem.run_bind, run_under hu, Result.andThen_ok, Option.isNone]; first | rfl | simp, by simp, by simp, by simp, by simp⟩
  · have e : a' = _ := ha.flat_eq rfl
    subst e
    rename_i ad
    obtain ⟨bb, oo, ss⟩ := ad
    cases hb with
    | flat _ hf => simp [Abs.flat] at hf
    | ptr => exact ⟨by cases op <;> rfl, by rw [equal_one]; unfold Op.equalIn; simp only [Sem.run_bind, run_under hu, Result.andThen_ok, Option.isNone]; first | rfl | simp, by simp, by simp, by simp, by simp⟩
  · have e : b' = _ := hb.flat_eq rfl
    subst e
    rename_i ad
    obtain ⟨bb, oo, ss⟩ := ad
    cases ha with
    | flat _ hf => simp [Abs.flat] at hf
    | ptr => exact ⟨by cases op <;> rfl, by rw [equal_one]; unfold Op.equalIn; simp only [Sem.run_bind, run_under hu, Result.andThen_ok, Option.isNone]; first | rfl | simp, by simp, by simp, by simp, by simp⟩
  · have e : a' = _ := ha.flat_eq rfl
    subst e
    obtain ⟨L, _, rfl⟩ := hb.map_inv
    exact ⟨by cases op <;> rfl, by rw [equal_one]; unfold Op.equalIn; simp only [Sem.run_bind, run_under hu, Result.andThen_ok, Option.isNone]; first | rfl | simp, by simp, by simp, by simp, by simp⟩
  · have e : b' = _ := hb.flat_eq rfl
    subst e
    obtain ⟨L, _, rfl⟩ := ha.map_inv
    exact ⟨by cases op <;> rfl, by rw [equal_one]; unfold Op.equalIn; simp only [Sem.run_bind, run_under hu, Result.andThen_ok, Option.isNone]; first | rfl | simp, by simp, by simp, by simp, by simp⟩
  · have e : a' = _ := ha.flat_eq rfl
    subst e
    obtain ⟨f, g, rfl, _, _⟩ := hb.func_inv
    exact ⟨by cases op <;> rfl, by rw [equal_one]; unfold Op.equalIn; simp only [Sem.run_bind, run_under hu, Result.andThen_ok, Option.isNone]; first | rfl | simp, by simp, by simp, by simp, by simp⟩
  · have e : b' = _ := hb.flat_eq rfl
    subst e
    obtain ⟨f, g, rfl, _, _⟩ := ha.func_inv
    exact ⟨by cases op <;> rfl, by rw [equal_one]; unfold Op.equalIn; simp only [Sem.run_bind, run_under hu, Result.andThen_ok, Option.isNone]; first | rfl | simp, by simp, by simp, by simp, by simp⟩
  · have e : a' = _ := ha.flat_eq rfl
    subst e
    obtain ⟨f, rfl, _⟩ := hb.iface_inv
    exact ⟨by cases op <;> rfl, by rw [equal_one]; unfold Op.equalIn; simp only [Sem.run_bind, run_under hu, Result.andThen_ok, Option.isNone]; first | rfl | simp, by simp, by simp, by simp, by simp⟩
  · have e : b' = _ := hb.flat_eq rfl
    subst e
    obtain ⟨f, rfl, _⟩ := ha.iface_inv
    exact ⟨by cases op <;> rfl, by rw [equal_one]; unfold Op.equalIn; simp only [Sem.run_bind, run_under hu, Result.andThen_ok, Option.isNone]; first | rfl | simp, by simp, by simp, by simp, by simp⟩
end Go.Abs
/- The abstract machine: quiet operations beside the model's, all of them. -/
namespace Go.Abs
open Go Go.RowKit
set_option linter.unusedVariables false
set_option linter.unusedSimpArgs false

theorem underlying_struct {P : Program} {s : TypeId} {f : Nat} {x : Nat × TypeId × Nat} (h : fieldT P s f = some x) :
    ∃ fs fd i, P.underlying s = some (.struct fs) ∧ fs[f]? = some fd ∧ P.info? fd.type = some i ∧ x = (fd.offset, fd.type, i.size) := by
  unfold fieldT at h
  split at h
  · rename_i fs hu
    split at h
    · rename_i fd hf
      cases hi : P.info? fd.type with
      | none => simp [hi] at h
      | some i => simp [hi] at h; exact ⟨fs, fd, i, hu, hf, hi, h.symm⟩
    · cases h
  · cases h
theorem elemT_some {P : Program} {t : TypeId} {x : TypeId × Nat × Nat} (h : elemT P t = some x) : ∃ i, P.underlying t = some (.slice x.1) ∧ P.info? x.1 = some i ∧ x.2.1 = i.size ∧ x.2.2 = i.bytes := by
  unfold elemT at h
  split at h
  · rename_i e hu
    cases hi : P.info? e with
    | none => simp [hi] at h
    | some i => simp [hi] at h; subst h; exact ⟨i, hu, hi, rfl, rfl⟩
  · cases h
theorem arrT_some {P : Program} {t : TypeId} {x : Nat × TypeId × Nat} (h : arrT P t = some x) : ∃ i, P.underlying t = some (.array x.1 x.2.1) ∧ P.info? x.2.1 = some i ∧ x.2.2 = i.size := by
  unfold arrT at h
  split at h
  · rename_i n e hu
    cases hi : P.info? e with
    | none => simp [hi] at h
    | some i => simp [hi] at h; subst h; exact ⟨i, hu, hi, rfl⟩
  · cases h

theorem fieldAddr_sim {P : Program} {ρ : Ren} {s : TypeId} {f : Nat} {x x' v : Value}
    (h : afieldAddr P s x f = some v) (hx : VR ρ x x') (w : World) :
    ∃ cv, (Instr.fieldAt s x' f).run P w = .ok cv w ∧ VR ρ v cv := by
  unfold afieldAddr at h
  split at h
  · rename_i id off o ty size hf
    split at h
    · cases h
    · rename_i hz
      injection h with h; subst h
      obtain ⟨fs, fd, i, hu, hfd, hi, he⟩ := underlying_struct hf
      injection he with e1 e2; injection e2 with e2 e3; subst e1 e2 e3
      obtain ⟨L, hL, rfl⟩ := hx.ptr_inv
      refine ⟨.pointer (some ⟨L.cb, L.base + (off + fd.offset), none⟩), ?_, .ptr id _ L hL⟩
      simp [Instr.fieldAt, run_under hu, hfd, Instr.sureAddr, fieldPlace, run_size hi, hz, addr_add, Nat.add_assoc]
  · cases h

theorem field_sim {P : Program} {ρ : Ren} {t : TypeId} {f : Nat} {x x' v : Value}
    (h : afield P t x f = some v) (hx : VR ρ x x') (w : World) :
    ∃ cv, (Instr.field t x' f).run P w = .ok cv w ∧ VR ρ v cv := by
  unfold afield at h
  split at h
  · rename_i cs o u size hf
    obtain ⟨fs, fd, i, hu, hfd, hi, he⟩ := underlying_struct hf
    injection he with e1 e2; injection e2 with e2 e3; subst e1 e2 e3
    obtain ⟨b, rfl, hs⟩ := hx.agg_inv
    obtain ⟨cv, hr, hv⟩ := part_sim hi hs h w
    refine ⟨cv, ?_, hv⟩
    simp [Instr.field, run_under hu, hfd, asAgg]
    simpa using hr
  · cases h

theorem indexAddr_sim {P : Program} {ρ : Ren} {t : TypeId} {x ix x' ix' v : Value} (h : aindexAddr P t x ix = some v) (hx : VR ρ x x') (hix : VR ρ ix ix') (w : World) :
    ∃ cv, (Instr.indexAt t x' ix').run P w = .ok cv w ∧ VR ρ v cv := by
  unfold aindexAddr at h
  split at h
  · rename_i k i
    have := hix.int_inv; subst this
    split at h
    · rename_i id off
      cases ha : arrT P t with
      | none => simp [ha] at h
      | some y =>
        obtain ⟨n, e, size⟩ := y
        simp only [ha] at h
        split at h
        · rename_i hin
          injection h with h; subst h
          obtain ⟨inf, hu, hi, hs⟩ := arrT_some ha
          simp only at hu hi hs
          obtain ⟨L, hL, rfl⟩ := hx.ptr_inv
          refine ⟨.pointer (some ⟨L.cb, L.base + (off + i.toNat * size), none⟩), ?_, .ptr id _ L hL⟩
          simp [Instr.indexAt, asIntOf, run_under hu, Instr.sureAddr, hin.1, hin.2, run_size hi, addr_add, hs, Nat.add_assoc]
        · cases h
    · rename_i id off len cap
      cases ha : elemT P t with
      | none => simp [ha] at h
      | some y =>
        obtain ⟨e, size, bytes⟩ := y
        simp only [ha] at h
        split at h
        · rename_i hin
          injection h with h; subst h
          obtain ⟨inf, hu, hi, hs, _⟩ := elemT_some ha
          simp only at hu hi hs
          obtain ⟨L, off', cap', hL, rfl, h1, h2, h3, h4, h5⟩ := hx.slice_inv
          have : off' = off := h3 (by omega)
          subst this
          refine ⟨.pointer (some ⟨L.cb, L.base + (off' + i.toNat * size), none⟩), ?_, .ptr id _ L hL⟩
          simp [Instr.indexAt, asIntOf, run_under hu, hin.1, hin.2, run_size hi, addr_add, hs, Nat.add_assoc]
        · cases h
    · cases h
  · cases h

theorem index_sim {P : Program} {ρ : Ren} {t : TypeId} {x ix x' ix' v : Value} (h : aindex P t x ix = some v) (hx : VR ρ x x') (hix : VR ρ ix ix') (w : World) :
    ∃ cv, (Instr.index t x' ix').run P w = .ok cv w ∧ VR ρ v cv := by
  unfold aindex at h
  split at h
  · rename_i k i
    have := hix.int_inv; subst this
    split at h
    · rename_i cs
      cases ha : arrT P t with
      | none => simp [ha] at h
      | some y =>
        obtain ⟨n, e, size⟩ := y
        simp only [ha] at h
        split at h
        · rename_i hin
          obtain ⟨inf, hu, hi, hs⟩ := arrT_some ha
          simp only at hu hi hs
          subst hs
          obtain ⟨b, rfl, hs⟩ := hx.agg_inv
          obtain ⟨cv, hr, hv⟩ := part_sim hi hs h w
          refine ⟨cv, ?_, hv⟩
          simp [Instr.index, asIntOf, run_under hu, hin.1, hin.2, run_size hi]
          simpa using hr
        · cases h
    · rename_i s
      have := hx.string_inv; subst this
      split at h
      · rename_i h0
        split at h
        · rename_i b hb hu
          injection h with h; subst h
          refine ⟨_, ?_, .flat _ rfl⟩
          simp [Instr.index, asIntOf, run_under hu, h0, hb]
        · cases h
      · cases h
    · cases h
  · cases h

theorem placesL_run {P : Program} (w : World) : ∀ (fs : List Field) (l : List (Nat × Nat)), placesL P fs = some l →
    (fs.mapM (fun f => do pure (f.offset, ← sizeOf f.type) : Field → Sem (Nat × Nat))).run P w = .ok l w := by
  intro fs
  induction fs with
  | nil => intro l h; simp [placesL] at h; subst h; rfl
  | cons f fs ih =>
    intro l h
    simp only [placesL] at h
    cases hi : P.info? f.type with
    | none => simp [hi] at h
    | some i =>
      cases hl : placesL P fs with
      | none => simp [hi, hl] at h
      | some l' =>
        simp [hi, hl] at h
        subst h
        have := ih l' hl
        simp only [List.mapM_cons, Sem.run_bind, run_size hi, Result.andThen_ok, Sem.run_pure, this]

theorem build_sim {P : Program} {ρ : Ren} {t : TypeId} {ps qs : List (Nat × Value)} {c : List Value} (h : buildL P t ps = some c) (hi : ps.map (·.1) = qs.map (·.1)) (hv : VRs ρ (ps.map (·.2)) (qs.map (·.2))) (w : World) :
    ∃ cv, (Instr.build t qs.toArray).run P w = .ok cv w ∧ VR ρ (.agg c.toArray) cv := by
  unfold buildL at h
  cases hz : zeroT P t with
  | none => simp [hz] at h
  | some z =>
    obtain ⟨hzr, hzf⟩ := run_zero (w := w) hz
    have hself : VRs ρ z.cells.toList z.cells.toList := (VR.flat z hzf).cells
    cases hp : placesT P t with
    | some l =>
      simp only [hz, hp] at h
      unfold placesT at hp
      split at hp
      · rename_i fs hu
        obtain ⟨out, ho, hr⟩ := fill_sim (ρ := ρ) _ ps qs _ _ c h hself hi hv
        refine ⟨.agg ⟨out⟩, ?_, .agg _ _ hr⟩
        have hm := placesL_run (P := P) w fs.toList l hp
        have hm2 : (fs.mapM (fun f => do pure (f.offset, ← sizeOf f.type) : Field → Sem (Nat × Nat))).run P w = .ok l.toArray w := by
          rw [← Array.toArray_toList (xs := fs), List.mapM_toArray]
          simp only [Sem.run_map, hm, Result.andThen_ok]
        simp only [Instr.build, Sem.run_bind, hzr, Result.andThen_ok, run_under hu, hm2]
        have e : (fun i : Nat => (l.toArray)[i]?) = fun i : Nat => l[i]? := by funext i; simp
        have e2 : z.cells = (⟨z.cells.toList⟩ : Array Value) := by simp
        rw [e2] at *
        simp only [e]
        simp only [List.toList_toArray] at ho ⊢
        rw [ho]
        rfl
      · cases hp
    | none =>
      cases ha : arrT P t with
      | none => simp [hz, hp, ha] at h
      | some y =>
        obtain ⟨n, e, size⟩ := y
        simp only [hz, hp, ha] at h
        obtain ⟨inf, hu, hinf, hs⟩ := arrT_some ha
        simp only at hu hinf hs
        subst hs
        obtain ⟨out, ho, hr⟩ := fill_sim (ρ := ρ) _ ps qs _ _ c h hself hi hv
        refine ⟨.agg ⟨out⟩, ?_, .agg _ _ hr⟩
        simp only [Instr.build, Sem.run_bind, hzr, Result.andThen_ok, run_under hu, run_size hinf]
        have e2 : z.cells = (⟨z.cells.toList⟩ : Array Value) := by simp
        rw [e2] at *
        simp only [List.toList_toArray] at ho ⊢
        rw [ho]
        rfl
end Go.Abs
/- The abstract machine: quiet operations, in one theorem. -/
namespace Go.Abs
open Go Go.RowKit
set_option linter.unusedVariables false
set_option linter.unusedSimpArgs false

def OpsVR (ρ : Ren) (ev cev : Operand → Value) (o : Oper) : Prop := ∀ x ∈ o.op.operands, VR ρ (ev x) (cev x)

theorem exec_builtin (cev : Operand → Value) (o : Oper) (b : Builtin) (args : Array Operand) (ts : Array TypeId) (h : o.op = .call ⟨.builtin b, args, ts⟩) :
    execOp cev o = builtin b ts o.type (args.map fun | .const _ => true | _ => false) (args.map cev) := by
  unfold execOp; rw [h]; rfl

theorem parts_fst (parts : Array (Nat × Operand)) (f g : Operand → Value) : ((parts.map fun (i, x) => (i, f x)).toList).map (·.1) = ((parts.map fun (i, x) => (i, g x)).toList).map (·.1) := by
  simp [Function.comp_def]
theorem parts_snd {ρ : Ren} (parts : Array (Nat × Operand)) {f g : Operand → Value} (h : ∀ x ∈ (parts.toList.map (·.2)).toArray, VR ρ (f x) (g x)) : VRs ρ (((parts.map fun (i, x) => (i, f x)).toList).map (·.2)) (((parts.map fun (i, x) => (i, g x)).toList).map (·.2)) := by
  have := VRs_map (ρ := ρ) (parts.toList.map (·.2)).toArray h
  simpa [Function.comp_def] using this

theorem quiet_sim {P : Program} {ev : Operand → Value} {o : Oper} {H H' : Heap} {v : Value} (hk : kindOf o.op = .quiet) (h : aop P ev o H = some (.val v H')) :
    H' = H ∧ ∀ (ρ : Ren) (cev : Operand → Value), OpsVR ρ ev cev o → GivesV P (execOp cev o) ρ v := by
  obtain ⟨dst, op, type, pos, after, guard⟩ := o
  cases op <;> simp only [kindOf] at hk <;> try (cases hk)
  case move x =>
    simp only [aop, Option.some.injEq, ARes.val.injEq] at h; obtain ⟨rfl, rfl⟩ := h
    exact ⟨rfl, fun ρ cev hv w => ⟨cev x, rfl, hv x (by simp [Op.operands])⟩⟩
  case assign x =>
    simp only [aop, Option.some.injEq, ARes.val.injEq] at h; obtain ⟨rfl, rfl⟩ := h
    exact ⟨rfl, fun ρ cev hv w => ⟨cev x, rfl, hv x (by simp [Op.operands])⟩⟩
  case pick c a b =>
    simp only [aop] at h
    split at h
    · rename_i t ht
      injection h with h; injection h with h1 h2
      refine ⟨h2.symm, fun ρ cev hv => ?_⟩
      exact pick_sim (t := t) (by rw [← ht]; exact hv c (by simp [Op.operands])) (hv a (by simp [Op.operands])) (hv b (by simp [Op.operands])) h1
    · cases h
  case build t parts =>
    simp only [aop, Option.map_eq_some_iff] at h
    obtain ⟨c, hc, h⟩ := h
    injection h with h1 h2; subst h1; subst h2
    refine ⟨rfl, fun ρ cev hv => ?_⟩
    refine givesV_of fun w => ?_
    have := build_sim hc (parts_fst parts ev cev) (parts_snd (ρ := ρ) parts (f := ev) (g := cev) (fun x hx => hv x (by simpa [Op.operands] using hx))) w
    exact this
  case nilCheck x =>
    simp only [aop] at h
    split at h
    · rename_i hn
      injection h with h; injection h with h1 h2; subst h1; subst h2
      exact ⟨rfl, fun ρ cev hv => nilCheck_sim (hv x (by simp [Op.operands])) hn (o := ⟨dst, .nilCheck x, type, pos, after, guard⟩) rfl rfl⟩
    · cases h
  case binOp op t x y yt =>
    simp only [aop, Option.map_eq_some_iff] at h
    obtain ⟨c, hc, h⟩ := h
    injection h with h1 h2; subst h1; subst h2
    refine ⟨rfl, fun ρ cev hv => ?_⟩
    have hx := hv x (by simp [Op.operands])
    have hy := hv y (by simp [Op.operands])
    unfold abin at hc
    split at hc
    · rename_i hf
      simp only [Bool.and_eq_true] at hf
      obtain ⟨hp, hfl⟩ := flatRes_some hc
      refine givesV_of fun w => ⟨c, ?_, .flat _ hfl⟩
      rw [hx.flat_eq hf.1, hy.flat_eq hf.2]
      exact purely_run' w hp
    · split at hc
      · rename_i r hr
        injection hc with hc; subst hc
        refine givesV_of fun w => ⟨_, ?_, .flat _ rfl⟩
        obtain ⟨h1, h2, n1, n2, n3, n4⟩ := nilEq_sim hx hy hr x y .eql w
        simp only [Sem.run_bind, h1, Result.andThen_ok]
        have : Go.binOp .eql t (cev x) (cev y) = (do pure (.bool (← Op.equal t (cev x) (cev y)))) := by
          unfold Go.binOp
          split <;> first | rfl | (exfalso; simp_all; done)
        rw [this]; simp [h2]
      · rename_i r hr
        injection hc with hc; subst hc
        refine givesV_of fun w => ⟨_, ?_, .flat _ rfl⟩
        obtain ⟨h1, h2, n1, n2, n3, n4⟩ := nilEq_sim hx hy hr x y .neq w
        simp only [Sem.run_bind, h1, Result.andThen_ok]
        have : Go.binOp .neq t (cev x) (cev y) = (do pure (.bool (!(← Op.equal t (cev x) (cev y))))) := by
          unfold Go.binOp
          split <;> first | rfl | (exfalso; simp_all; done)
        rw [this]; simp [h2]
      · cases hc
  case unOp op t x =>
    simp only [aop] at h
    split at h
    · rename_i hf
      simp only [Option.map_eq_some_iff] at h
      obtain ⟨c, hc, h⟩ := h
      injection h with h1 h2; subst h1; subst h2
      refine ⟨rfl, fun ρ cev hv => ?_⟩
      obtain ⟨hp, hfl⟩ := flatRes_some hc
      refine givesV_of fun w => ⟨c, ?_, .flat _ hfl⟩
      rw [(hv x (by simp [Op.operands])).flat_eq hf]
      exact purely_run' w hp
    · cases h
  case makeInterface t x =>
    simp only [aop] at h
    split at h
    · rename_i hn
      injection h with h; injection h with h1 h2; subst h1; subst h2
      refine ⟨rfl, fun ρ cev hv => givesV_of fun w => ⟨.iface t (cev x), ?_, .iface _ _ _ (hv x (by simp [Op.operands]))⟩⟩
      unfold notIface at hn
      unfold Instr.makeInterface
      cases hu : P.underlying t with
      | none => simp [hu] at hn
      | some d => cases d <;> simp [hu] at hn <;> simp [run_under hu]
    · cases h
  case makeFunc fn first captured =>
    simp only [aop, Option.some.injEq, ARes.val.injEq] at h; obtain ⟨rfl, rfl⟩ := h
    refine ⟨rfl, fun ρ cev hv w => ⟨.func fn (first.map cev) (captured.map cev), rfl, ?_⟩⟩
    have h1 := VRs_map (ρ := ρ) first (ev := ev) (cev := cev) fun x hx => hv x (by simp [Op.operands, hx])
    have h2 := VRs_map (ρ := ρ) captured (ev := ev) (cev := cev) fun x hx => hv x (by simp [Op.operands, hx])
    exact VR.func fn _ _ _ _ h1 h2
  case fieldAddr s x f =>
    simp only [aop, Option.map_eq_some_iff] at h
    obtain ⟨c, hc, h⟩ := h
    injection h with h1 h2; subst h1; subst h2
    exact ⟨rfl, fun ρ cev hv => givesV_of fun w => fieldAddr_sim hc (hv x (by simp [Op.operands])) w⟩
  case field t x f =>
    simp only [aop, Option.map_eq_some_iff] at h
    obtain ⟨c, hc, h⟩ := h
    injection h with h1 h2; subst h1; subst h2
    exact ⟨rfl, fun ρ cev hv => givesV_of fun w => field_sim hc (hv x (by simp [Op.operands])) w⟩
  case indexAddr t x ix =>
    simp only [aop, Option.map_eq_some_iff] at h
    obtain ⟨c, hc, h⟩ := h
    injection h with h1 h2; subst h1; subst h2
    exact ⟨rfl, fun ρ cev hv => givesV_of fun w => indexAddr_sim hc (hv x (by simp [Op.operands])) (hv ix (by simp [Op.operands])) w⟩
  case index t x ix =>
    simp only [aop, Option.map_eq_some_iff] at h
    obtain ⟨c, hc, h⟩ := h
    injection h with h1 h2; subst h1; subst h2
    exact ⟨rfl, fun ρ cev hv => givesV_of fun w => index_sim hc (hv x (by simp [Op.operands])) (hv ix (by simp [Op.operands])) w⟩
  case extract x ix =>
    simp only [aop] at h
    split at h
    · rename_i vs hvs
      simp only [Option.map_eq_some_iff] at h
      obtain ⟨c, hc, h⟩ := h
      injection h with h1 h2; subst h1; subst h2
      refine ⟨rfl, fun ρ cev hv => givesV_of fun w => ?_⟩
      have hx := hv x (by simp [Op.operands])
      rw [hvs] at hx
      obtain ⟨b, hb, hs⟩ := hx.tuple_inv
      obtain ⟨v', hv', hr⟩ := hs.get ix c (by simpa using hc)
      refine ⟨v', ?_, hr⟩
      have hv2 : b[ix]? = some v' := by simpa using hv'
      simp [Instr.extract, hb, hv2]
    · cases h
  case call c =>
    obtain ⟨callee, args, ts⟩ := c
    cases callee with
    | value f => simp [kindOf] at hk
    | invoke r n => simp [kindOf] at hk
    | builtin b =>
      cases b <;> simp [kindOf] at hk
      case max =>
        simp only [aop] at h
        split at h
        · rename_i hf
          simp only [Option.map_eq_some_iff] at h
          obtain ⟨c, hc, h⟩ := h
          injection h with h1 h2; subst h1; subst h2
          refine ⟨rfl, fun ρ cev hv => ?_⟩
          obtain ⟨hp, hfl⟩ := flatRes_some hc
          rw [exec_builtin cev _ .max args ts rfl]
          refine givesV_of (s := Builtin.max_ _ _ _) fun w => ⟨c, ?_, .flat _ hfl⟩
          have e : args.map cev = args.map ev := Array.map_congr_left fun x hx => (hv x (by simp [Op.operands, Call.operands, hx])).flat_eq (by
            simp only [List.all_eq_true] at hf
            exact hf _ (by simpa using ⟨x, hx, rfl⟩))
          rw [e]
          exact purely_run' w hp
        · cases h
      case min =>
        simp only [aop] at h
        split at h
        · rename_i hf
          simp only [Option.map_eq_some_iff] at h
          obtain ⟨c, hc, h⟩ := h
          injection h with h1 h2; subst h1; subst h2
          refine ⟨rfl, fun ρ cev hv => ?_⟩
          obtain ⟨hp, hfl⟩ := flatRes_some hc
          rw [exec_builtin cev _ .min args ts rfl]
          refine givesV_of (s := Builtin.min_ _ _ _) fun w => ⟨c, ?_, .flat _ hfl⟩
          have e : args.map cev = args.map ev := Array.map_congr_left fun x hx => (hv x (by simp [Op.operands, Call.operands, hx])).flat_eq (by
            simp only [List.all_eq_true] at hf
            exact hf _ (by simpa using ⟨x, hx, rfl⟩))
          rw [e]
          exact purely_run' w hp
        · cases h
  all_goals (simp [aop] at h)
end Go.Abs
