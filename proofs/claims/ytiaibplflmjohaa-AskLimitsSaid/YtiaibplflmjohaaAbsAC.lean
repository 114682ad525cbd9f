/- The abstract machine: what its operations come to. -/
import Derived.Test.YtiaibplflmjohaaAbsAB
set_option linter.unusedVariables false
set_option linter.unusedSimpArgs false
namespace Go.Abs
open Go Go.RowKit
set_option linter.unusedVariables false
set_option linter.unusedSimpArgs false

@[simp] theorem obind_some' {α : Type} (a : α) (k : α → Prop) : obind (some a) k = k a := propext Iff.rfl
@[simp] theorem condB_bool' (b : Bool) (A B : Prop) : condB (.bool b) A B = ifB b A B := propext Iff.rfl
@[simp] theorem ifB_true' (A B : Prop) : ifB true A B = A := propext Iff.rfl
@[simp] theorem ifB_false' (A B : Prop) : ifB false A B = B := propext Iff.rfl
theorem ifB_dec {p : Prop} [Decidable p] {A B : Prop} (ha : p → A) (hb : ¬p → B) : ifB (decide p) A B := by
  by_cases h : p
  · rw [decide_eq_true h]; exact ha h
  · rw [decide_eq_false h]; exact hb h
theorem ifB_of {b : Bool} {A B : Prop} (ha : b = true → A) (hb : b = false → B) : ifB b A B := by cases b; exact hb rfl; exact ha rfl

@[simp] theorem boolV_bool (b : Bool) : boolV (.bool b) = some b := rfl
@[simp] theorem tupleV_tuple (vs : Array Value) : tupleV (.tuple vs) = some vs := rfl
@[simp] theorem nonNilV_ptr (id off : Nat) : nonNilV (ptr id off) = some (ptr id off) := rfl
@[simp] theorem nonNilV_func (f : FuncId) (a b : Array Value) : nonNilV (.func (.func f) a b) = some (.func (.func f) a b) := rfl
@[simp] theorem nonNilV_iface (t : TypeId) (v : Value) : nonNilV (.iface t v) = some (.iface t v) := rfl
@[simp] theorem funcV_func (f : FuncId) (a b : Array Value) : funcV (.func (.func f) a b) = some (f, a, b) := rfl
@[simp] theorem ifaceV_iface (t : TypeId) (v : Value) : ifaceV (.iface t v) = some (t, v) := rfl
@[simp] theorem purely_pure' (P : Program) {α : Type} (a : α) : purely P (pure a : Sem α) = some a := rfl
@[simp] theorem purely_bind' (P : Program) {α β : Type} (s : Sem α) (f : α → Sem β) : purely P (s >>= f) = (purely P s).bind fun a => purely P (f a) := purely_bind P s f
@[simp] theorem flatRes_some' (v : Value) : flatRes (some v) = if flat v then some v else none := rfl
@[simp] theorem flat_int (k : IntKind) (n : Int) : flat (.int k n) = true := rfl
@[simp] theorem flat_bool (b : Bool) : flat (.bool b) = true := rfl
@[simp] theorem flat_string (s : ByteArray) : flat (.string s) = true := rfl

/-- Bits of whole numbers. -/
def ibits (op : BinOp) (k : IntKind) (x y : Int) : Int :=
  k.wrap (match op with
    | .and => (BitVec.ofInt k.bits x &&& BitVec.ofInt k.bits y).toNat
    | .or => (BitVec.ofInt k.bits x ||| BitVec.ofInt k.bits y).toNat
    | .xor => (BitVec.ofInt k.bits x ^^^ BitVec.ofInt k.bits y).toNat
    | _ => (BitVec.ofInt k.bits x &&& ~~~ BitVec.ofInt k.bits y).toNat : Nat)

section bin
variable (P : Program) (t : TypeId) (x y : Operand) (k : IntKind) (a b : Int)
@[simp] theorem abin_add : abin P .add t x y (.int k a) (.int k b) = some (.int k (k.wrap (a + b))) := by simp [abin, eqGuard, Go.binOp, Op.intArith]
@[simp] theorem abin_sub : abin P .sub t x y (.int k a) (.int k b) = some (.int k (k.wrap (a - b))) := by simp [abin, eqGuard, Go.binOp, Op.intArith]
@[simp] theorem abin_mul : abin P .mul t x y (.int k a) (.int k b) = some (.int k (k.wrap (a * b))) := by simp [abin, eqGuard, Go.binOp, Op.intArith]
@[simp] theorem abin_lss : abin P .lss t x y (.int k a) (.int k b) = some (.bool (decide (a < b))) := by simp [abin, eqGuard, Go.binOp, Op.intCmp]
@[simp] theorem abin_leq : abin P .leq t x y (.int k a) (.int k b) = some (.bool (decide (a ≤ b))) := by simp [abin, eqGuard, Go.binOp, Op.intCmp]
@[simp] theorem abin_gtr : abin P .gtr t x y (.int k a) (.int k b) = some (.bool (decide (b < a))) := by simp [abin, eqGuard, Go.binOp, Op.intCmp]
@[simp] theorem abin_geq : abin P .geq t x y (.int k a) (.int k b) = some (.bool (decide (b ≤ a))) := by simp [abin, eqGuard, Go.binOp, Op.intCmp]
@[simp] theorem abin_eql : abin P .eql t x y (.int k a) (.int k b) = some (.bool (decide (a = b))) := by
  simp [abin, eqGuard, Go.binOp, Op.intCmp]
  rfl
@[simp] theorem abin_neq : abin P .neq t x y (.int k a) (.int k b) = some (.bool (decide (a ≠ b))) := by
  simp [abin, eqGuard, Go.binOp, Op.intCmp, bne]
  rfl
@[simp] theorem abin_and : abin P .and t x y (.int k a) (.int k b) = some (.int k (ibits .and k a b)) := by simp [abin, eqGuard, Go.binOp, Op.intBits, ibits]
@[simp] theorem abin_or : abin P .or t x y (.int k a) (.int k b) = some (.int k (ibits .or k a b)) := by simp [abin, eqGuard, Go.binOp, Op.intBits, ibits]
@[simp] theorem abin_xor : abin P .xor t x y (.int k a) (.int k b) = some (.int k (ibits .xor k a b)) := by simp [abin, eqGuard, Go.binOp, Op.intBits, ibits]
@[simp] theorem abin_andNot : abin P .andNot t x y (.int k a) (.int k b) = some (.int k (ibits .andNot k a b)) := by simp [abin, eqGuard, Go.binOp, Op.intBits, ibits]
theorem abin_shl (j : IntKind) (h : 0 ≤ b) : abin P .shl t x y (.int k a) (.int j b) = some (.int k (k.wrap (a * 2 ^ (min b.toNat k.bits)))) := by
  have : ¬ b < 0 := by omega
  simp [abin, eqGuard, Go.binOp, Op.shift, this]
theorem abin_shr (j : IntKind) (h : 0 ≤ b) : abin P .shr t x y (.int k a) (.int j b) = some (.int k (a.fdiv (2 ^ (min b.toNat k.bits)))) := by
  have : ¬ b < 0 := by omega
  simp [abin, eqGuard, Go.binOp, Op.shift, this]
theorem abin_quo (h : b ≠ 0) : abin P .quo t x y (.int k a) (.int k b) = some (.int k (k.wrap (a.tdiv b))) := by simp [abin, eqGuard, Go.binOp, Op.intDiv, h]
theorem abin_rem (h : b ≠ 0) : abin P .rem t x y (.int k a) (.int k b) = some (.int k (a.tmod b)) := by simp [abin, eqGuard, Go.binOp, Op.intDiv, h]
theorem purely_under {t : TypeId} {d : TypeDesc} (h : P.underlying t = some d) : purely P (underlying t) = some d := by
  show purely P (program >>= _) = _
  rw [purely_bind]
  show purely P _ = _
  rw [h]; rfl
theorem abin_eql_bool (h : P.underlying t = some .bool) (p q : Bool) : abin P .eql t x y (.bool p) (.bool q) = some (.bool (decide (p = q))) := by
  simp [abin, eqGuard, Go.binOp]
  rw [equal_one]; unfold Op.equalIn
  simp [purely_under P h]
  rfl
theorem abin_neq_bool (h : P.underlying t = some .bool) (p q : Bool) : abin P .neq t x y (.bool p) (.bool q) = some (.bool (decide (p ≠ q))) := by
  simp [abin, eqGuard, Go.binOp]
  rw [equal_one]; unfold Op.equalIn
  simp [purely_under P h]
  cases p <;> cases q <;> rfl
end bin
@[simp] theorem unV_not (P : Program) (b : Bool) : unV P .not (.bool b) = some (.bool (!b)) := by simp [unV, Op.unary]
@[simp] theorem unV_neg (P : Program) (k : IntKind) (n : Int) : unV P .neg (.int k n) = some (.int k (k.wrap (0 - n))) := by simp [unV, Op.unary, Op.intArith]
@[simp] theorem unV_xor (P : Program) (k : IntKind) (n : Int) : unV P .xor (.int k n) = some (.int k (ibits .xor k (if k.signed then -1 else k.max) n)) := by simp [unV, Op.unary, Op.intBits, ibits]

@[simp] theorem lenOf1_slice (P : Program) (a : Option Addr) (n c : Nat) (t : TypeId) (H : Heap) {e : TypeId × Nat × Nat} (h : elemT P t = some e) : lenOf1 P [.slice a n c] [t] H = some (.int .i64 n) := by simp [lenOf1, alen, h]
@[simp] theorem lenOf1_slc (P : Program) (id off n c : Nat) (t : TypeId) (H : Heap) {e : TypeId × Nat × Nat} (h : elemT P t = some e) : lenOf1 P [slc id off n c] [t] H = some (.int .i64 n) := by simp [lenOf1, slc, alen, h]

theorem afieldAddr_eq {P : Program} {s : TypeId} {f o u size id off : Nat} (h : fieldT P s f = some (o, u, size)) (hs : size ≠ 0) : afieldAddr P s (ptr id off) f = some (ptr id (off + o)) := by
  unfold afieldAddr ptr
  simp only [h, if_neg hs]
theorem afield_eq {P : Program} {s : TypeId} {f o u size : Nat} {cs : Array Value} (h : fieldT P s f = some (o, u, size)) : afield P s (.agg cs) f = partV P u size cs.toList o := by
  unfold afield
  simp only [h]
theorem aload_one {P : Program} {t : TypeId} {id off : Nat} {H : Heap} {c : List Value} {m : Md} {v : Value} (h : H.get id = some (.cells c m)) (ht : isAggT P t = some false) (hv : c[off]? = some v) : aload P t (ptr id off) H = some v := by
  unfold aload ptr; simp only [h, ht, hv]
theorem aload_agg {P : Program} {t : TypeId} {id off n : Nat} {H : Heap} {c : List Value} {m : Md} (h : H.get id = some (.cells c m)) (ht : isAggT P t = some true) (hn : sizeT P t = some n) (hle : off + n ≤ c.length) : aload P t (ptr id off) H = some (.agg ((c.drop off).take n).toArray) := by
  unfold aload ptr; simp only [h, ht, hn, if_pos hle]
theorem astore_eq {P : Program} {t : TypeId} {id off : Nat} {H : Heap} {c : List Value} {m : Md} {v : Value} (h : H.get id = some (.cells c m)) (hm : m ≠ .ro) (hn : sizeT P t = some v.cells.size) (hle : off + v.cells.size ≤ c.length) (hs : v.cells.toList.all scal = true) :
    astore P t (ptr id off) v H = some (H.set id (.cells (writeAt c off v.cells.toList) m)) := by
  unfold astore ptr
  simp only [hn, if_true]
  unfold astoreAt
  simp only [h]
  rw [if_pos ⟨hm, by simpa using hle, hs⟩]
theorem aindexAddr_slice {P : Program} {t : TypeId} {id off n c e size bytes : Nat} {k : IntKind} {i : Int} (h : elemT P t = some (e, size, bytes)) (h0 : 0 ≤ i) (h1 : i < n) : aindexAddr P t (slc id off n c) (.int k i) = some (ptr id (off + i.toNat * size)) := by
  unfold aindexAddr slc; simp only [h, if_pos (And.intro h0 h1)]
theorem aindexAddr_arr {P : Program} {t : TypeId} {id off n e size : Nat} {k : IntKind} {i : Int} (h : arrT P t = some (n, e, size)) (h0 : 0 ≤ i) (h1 : i < n) : aindexAddr P t (ptr id off) (.int k i) = some (ptr id (off + i.toNat * size)) := by
  unfold aindexAddr ptr; simp only [h, if_pos (And.intro h0 h1)]

/-! By the block -/
def loadC (P : Program) (t : TypeId) (c : List Value) (off : Nat) : Option Value :=
  match isAggT P t, sizeT P t with
  | some true, some n => if off + n ≤ c.length then some (.agg ((c.drop off).take n).toArray) else none
  | some false, _ => c[off]?
  | _, _ => none
theorem aload_ptr {P : Program} {t : TypeId} {id off : Nat} {H : Heap} {c : List Value} {m : Md} (h : H.get id = some (.cells c m)) : aload P t (ptr id off) H = loadC P t c off := by
  unfold aload ptr loadC; simp only [h]; rfl
theorem loadC_one {P : Program} {t : TypeId} {c : List Value} {off : Nat} (ht : isAggT P t = some false) : loadC P t c off = c[off]? := by unfold loadC; simp only [ht]
theorem loadC_agg {P : Program} {t : TypeId} {c : List Value} {off n : Nat} (ht : isAggT P t = some true) (hn : sizeT P t = some n) : loadC P t c off = if off + n ≤ c.length then some (.agg ((c.drop off).take n).toArray) else none := by unfold loadC; simp only [ht, hn]
def storeC (P : Program) (t : TypeId) (c : List Value) (off : Nat) (v : Value) : Option (List Value) :=
  if some v.cells.size = sizeT P t ∧ off + v.cells.toList.length ≤ c.length ∧ v.cells.toList.all scal = true then some (writeAt c off v.cells.toList) else none
theorem astore_ptr {P : Program} {t : TypeId} {id off : Nat} {H : Heap} {c : List Value} {m : Md} {v : Value} (h : H.get id = some (.cells c m)) (hm : m ≠ .ro) : astore P t (ptr id off) v H = (storeC P t c off v).map fun c' => H.set id (.cells c' m) := by
  unfold astore ptr storeC astoreAt
  simp only [h]
  by_cases h1 : some v.cells.size = sizeT P t
  · by_cases h2 : off + v.cells.toList.length ≤ c.length ∧ v.cells.toList.all scal = true
    · rw [if_pos h1, if_pos ⟨hm, h2⟩, if_pos ⟨h1, h2⟩]; rfl
    · rw [if_pos h1, if_neg (fun h => h2 h.2), if_neg (fun h => h2 h.2)]; rfl
  · rw [if_neg h1, if_neg (fun h => h1 h.1)]; rfl

/-! Heaps -/
@[simp] theorem get_push_new (H : Heap) (b : Blk) : (H.push b).get H.n = some b := get_push_self H b
theorem get_push_old {H : Heap} {b c : Blk} {i : Nat} (h : H.get i = some c) : (H.push b).get i = some c := by rw [Heap.get_push, if_neg (Nat.ne_of_lt (Heap.get_lt h))]; exact h
theorem get_set_new {H : Heap} {i : Nat} {b c : Blk} (h : H.get i = some c) : (H.set i b).get i = some b := get_set_self h
theorem get_set_old {H : Heap} {i j : Nat} {b : Blk} (h : j ≠ i) : (H.set i b).get j = H.get j := get_set_other H b h

/-- Calls to functions that make memory at most: all that was there is as it was. -/
theorem PushExt.of_eq {H H' : Heap} (h : H' = H) : PushExt H H' := by subst h; exact PushExt.refl _
end Go.Abs
