/- The abstract machine: how its values and heaps stand to the model's. -/
import Derived.Test.YtiaibplflmjohaaAbsC
import Derived.Laws.IdiomCopy
set_option linter.unusedVariables false
set_option linter.unusedSimpArgs false
namespace Go.Abs
open Go Go.RowKit
set_option linter.unusedVariables false

/-- Where a block lies: the model's block, from which cell on, how many cells are its own, and how it may be used. -/
structure Loc where
  cb : Nat
  base : Nat
  ext : Nat
  md : Md

abbrev Ren := Nat → Option Loc
def Ren.upd (ρ : Ren) (n : Nat) (L : Loc) : Ren := fun i => if i = n then some L else ρ i
theorem Ren.upd_same (ρ : Ren) (n : Nat) (L : Loc) : ρ.upd n L n = some L := by simp [Ren.upd]
theorem Ren.upd_ne (ρ : Ren) {n i : Nat} (L : Loc) (h : i ≠ n) : ρ.upd n L i = ρ i := by simp [Ren.upd, h]

mutual
inductive VR (ρ : Ren) : Value → Value → Prop
  | flat (v : Value) : flat v = true → VR ρ v v
  | ptr (id off : Nat) (L : Loc) : ρ id = some L → VR ρ (.pointer (some ⟨id, off, none⟩)) (.pointer (some ⟨L.cb, L.base + off, none⟩))
  | slice (id off n cap off' cap' : Nat) (L : Loc) : ρ id = some L → n ≤ cap → cap ≤ cap' → (0 < cap → off' = off) → (L.md = .fix → cap' = cap ∧ off' = off) →
      (∀ es, L.md = .grown es → off' + cap' * es ≤ L.ext) → VR ρ (.slice (some ⟨id, off, none⟩) n cap) (.slice (some ⟨L.cb, L.base + off', none⟩) n cap')
  | map (id : Nat) (L : Loc) : ρ id = some L → VR ρ (.map (some id)) (.map (some L.cb))
  | agg (a b : List Value) : VRs ρ a b → VR ρ (.agg ⟨a⟩) (.agg ⟨b⟩)
  | tuple (a b : List Value) : VRs ρ a b → VR ρ (.tuple ⟨a⟩) (.tuple ⟨b⟩)
  | iface (t : TypeId) (v v' : Value) : VR ρ v v' → VR ρ (.iface t v) (.iface t v')
  | func (fn : Fn) (a b c d : List Value) : VRs ρ a b → VRs ρ c d → VR ρ (.func fn ⟨a⟩ ⟨c⟩) (.func fn ⟨b⟩ ⟨d⟩)
inductive VRs (ρ : Ren) : List Value → List Value → Prop
  | nil : VRs ρ [] []
  | cons (a b : Value) (l m : List Value) : VR ρ a b → VRs ρ l m → VRs ρ (a :: l) (b :: m)
end

def Le (ρ ρ' : Ren) : Prop := ∀ id L, ρ id = some L → ρ' id = some L
theorem Le.refl (ρ : Ren) : Le ρ ρ := fun _ _ h => h
theorem Le.trans {a b c : Ren} (h : Le a b) (k : Le b c) : Le a c := fun id L e => k id L (h id L e)

mutual
theorem VR.mono {ρ ρ' : Ren} (h : Le ρ ρ') : ∀ {a b : Value}, VR ρ a b → VR ρ' a b
  | _, _, .flat v hf => .flat v hf
  | _, _, .ptr id off L hL => .ptr id off L (h _ _ hL)
  | _, _, .slice id off n cap off' cap' L hL h1 h2 h3 h4 h5 => .slice id off n cap off' cap' L (h _ _ hL) h1 h2 h3 h4 h5
  | _, _, .map id L hL => .map id L (h _ _ hL)
  | _, _, .agg a b hs => .agg a b (VRs.mono h hs)
  | _, _, .tuple a b hs => .tuple a b (VRs.mono h hs)
  | _, _, .iface t v v' hv => .iface t v v' (VR.mono h hv)
  | _, _, .func fn a b c d h1 h2 => .func fn a b c d (VRs.mono h h1) (VRs.mono h h2)
theorem VRs.mono {ρ ρ' : Ren} (h : Le ρ ρ') : ∀ {a b : List Value}, VRs ρ a b → VRs ρ' a b
  | _, _, .nil => .nil
  | _, _, .cons a b l m h1 h2 => .cons a b l m (VR.mono h h1) (VRs.mono h h2)
end

theorem VRs.refl_flat (ρ : Ren) : ∀ (l : List Value), flatL l = true → VRs ρ l l
  | [], _ => .nil
  | a :: l, h => by simp [flatL] at h; exact .cons _ _ _ _ (.flat a h.1) (VRs.refl_flat ρ l h.2)

mutual
theorem VR.flat_eq {ρ : Ren} : ∀ {a b : Value}, VR ρ a b → flat a = true → b = a
  | _, _, .flat v _, _ => rfl
  | _, _, .ptr id off L _, h => by simp [Abs.flat] at h
  | _, _, .slice .., h => by simp [Abs.flat] at h
  | _, _, .map .., h => by simp [Abs.flat] at h
  | _, _, .agg a b hs, h => by rw [VRs.flat_eq hs (by simpa [Abs.flat, flatA] using h)]
  | _, _, .tuple a b hs, h => by rw [VRs.flat_eq hs (by simpa [Abs.flat, flatA] using h)]
  | _, _, .iface t v v' hv, h => by rw [VR.flat_eq hv (by simpa [Abs.flat] using h)]
  | _, _, .func fn a b c d h1 h2, h => by
    simp [Abs.flat, flatA] at h
    rw [VRs.flat_eq h1 h.1, VRs.flat_eq h2 h.2]
theorem VRs.flat_eq {ρ : Ren} : ∀ {a b : List Value}, VRs ρ a b → flatL a = true → b = a
  | _, _, .nil, _ => rfl
  | _, _, .cons a b l m h1 h2, h => by
    simp [flatL] at h
    rw [VR.flat_eq h1 h.1, VRs.flat_eq h2 h.2]
end

theorem VRs.length_eq {ρ : Ren} : ∀ {a b : List Value}, VRs ρ a b → b.length = a.length
  | _, _, .nil => rfl
  | _, _, .cons a b l m h1 h2 => by simp [VRs.length_eq h2]
theorem VRs.get {ρ : Ren} : ∀ {a b : List Value}, VRs ρ a b → ∀ (i : Nat) (v : Value), a[i]? = some v → ∃ v', b[i]? = some v' ∧ VR ρ v v'
  | _, _, .nil, i, v, h => by simp at h
  | _, _, .cons a b l m h1 h2, 0, v, h => by simp at h; subst h; exact ⟨b, by simp, h1⟩
  | _, _, .cons a b l m h1 h2, i + 1, v, h => by
    obtain ⟨v', e, r⟩ := VRs.get h2 i v (by simpa using h)
    exact ⟨v', by simpa using e, r⟩
theorem VRs.of_get {ρ : Ren} : ∀ {a b : List Value}, b.length = a.length → (∀ (i : Nat) (v : Value), a[i]? = some v → ∃ v', b[i]? = some v' ∧ VR ρ v v') → VRs ρ a b
  | [], [], _, _ => .nil
  | [], _ :: _, h, _ => by simp at h
  | _ :: _, [], h, _ => by simp at h
  | a :: l, b :: m, h, hg => by
    obtain ⟨v', e, r⟩ := hg 0 a (by simp)
    simp at e; subst e
    exact .cons _ _ _ _ r (VRs.of_get (by simpa using h) fun i v hv => by simpa using hg (i + 1) v (by simpa using hv))
theorem VRs.append {ρ : Ren} : ∀ {a b c d : List Value}, VRs ρ a b → VRs ρ c d → VRs ρ (a ++ c) (b ++ d)
  | _, _, _, _, .nil, h => h
  | _, _, _, _, .cons a b l m h1 h2, h => .cons _ _ _ _ h1 (VRs.append h2 h)
theorem VRs.drop {ρ : Ren} : ∀ {a b : List Value} (n : Nat), VRs ρ a b → VRs ρ (a.drop n) (b.drop n)
  | _, _, 0, h => by simpa using h
  | _, _, _ + 1, .nil => by simpa using .nil
  | _, _, n + 1, .cons a b l m h1 h2 => by simpa using VRs.drop n h2
theorem VRs.take {ρ : Ren} : ∀ {a b : List Value} (n : Nat), VRs ρ a b → VRs ρ (a.take n) (b.take n)
  | _, _, 0, h => by simpa using .nil
  | _, _, _ + 1, .nil => by simpa using .nil
  | _, _, n + 1, .cons a b l m h1 h2 => by simpa using .cons _ _ _ _ h1 (VRs.take n h2)
theorem VRs.set {ρ : Ren} : ∀ {a b : List Value} (n : Nat) {v v' : Value}, VRs ρ a b → VR ρ v v' → VRs ρ (a.set n v) (b.set n v')
  | _, _, _, _, _, .nil, _ => by simpa using .nil
  | _, _, 0, _, _, .cons a b l m h1 h2, h => by simpa using .cons _ _ _ _ h h2
  | _, _, n + 1, _, _, .cons a b l m h1 h2, h => by simpa using .cons _ _ _ _ h1 (VRs.set n h2 h)
theorem VRs.writeAt {ρ : Ren} : ∀ {vs ws : List Value} (a b : List Value) (n : Nat), VRs ρ vs ws → VRs ρ a b → VRs ρ (writeAt a n vs) (writeAt b n ws)
  | _, _, _, _, _, .nil, h => h
  | _, _, a, b, n, .cons x y l m h1 h2, h => VRs.writeAt _ _ (n + 1) h2 (VRs.set n h h1)

theorem VR.scal {ρ : Ren} {a b : Value} (h : VR ρ a b) : scal b = scal a := by cases h <;> rfl
theorem scal_one (a : Value) : scal a = a.oneCell' := by cases a <;> rfl

/-- What stands to a struct's value is one. -/
theorem VR.agg_inv {ρ : Ren} {a : Array Value} {c : Value} (h : VR ρ (.agg a) c) : ∃ b, c = .agg b ∧ VRs ρ a.toList b.toList := by
  cases h with
  | flat _ hf => exact ⟨a, rfl, VRs.refl_flat ρ _ (by cases a; simpa [Abs.flat, flatA] using hf)⟩
  | agg x y hs => exact ⟨⟨y⟩, rfl, hs⟩
theorem VR.tuple_inv {ρ : Ren} {a : Array Value} {c : Value} (h : VR ρ (.tuple a) c) : ∃ b, c = .tuple b ∧ VRs ρ a.toList b.toList := by
  cases h with
  | flat _ hf => exact ⟨a, rfl, VRs.refl_flat ρ _ (by cases a; simpa [Abs.flat, flatA] using hf)⟩
  | tuple x y hs => exact ⟨⟨y⟩, rfl, hs⟩
theorem VR.ptr_inv {ρ : Ren} {id off : Nat} {c : Value} (h : VR ρ (.pointer (some ⟨id, off, none⟩)) c) :
    ∃ L, ρ id = some L ∧ c = .pointer (some ⟨L.cb, L.base + off, none⟩) := by
  cases h with
  | flat _ hf => simp [Abs.flat] at hf
  | ptr _ _ L hL => exact ⟨L, hL, rfl⟩
theorem VR.slice_inv {ρ : Ren} {id off n cap : Nat} {c : Value} (h : VR ρ (.slice (some ⟨id, off, none⟩) n cap) c) :
    ∃ L off' cap', ρ id = some L ∧ c = .slice (some ⟨L.cb, L.base + off', none⟩) n cap' ∧ n ≤ cap ∧ cap ≤ cap' ∧ (0 < cap → off' = off) ∧ (L.md = .fix → cap' = cap ∧ off' = off) ∧
      (∀ es, L.md = .grown es → off' + cap' * es ≤ L.ext) := by
  cases h with
  | flat _ hf => simp [Abs.flat] at hf
  | slice _ _ _ _ off' cap' L hL h1 h2 h3 h4 h5 => exact ⟨L, off', cap', hL, rfl, h1, h2, h3, h4, h5⟩
theorem VR.map_inv {ρ : Ren} {id : Nat} {c : Value} (h : VR ρ (.map (some id)) c) : ∃ L, ρ id = some L ∧ c = .map (some L.cb) := by
  cases h with
  | flat _ hf => simp [Abs.flat] at hf
  | map _ L hL => exact ⟨L, hL, rfl⟩
theorem VR.iface_inv {ρ : Ren} {t : TypeId} {v c : Value} (h : VR ρ (.iface t v) c) : ∃ v', c = .iface t v' ∧ VR ρ v v' := by
  cases h with
  | flat _ hf => exact ⟨v, rfl, .flat v (by simpa [Abs.flat] using hf)⟩
  | iface _ _ v' hv => exact ⟨v', rfl, hv⟩
theorem VR.func_inv {ρ : Ren} {fn : Fn} {a c : Array Value} {x : Value} (h : VR ρ (.func fn a c) x) : ∃ b d, x = .func fn b d ∧ VRs ρ a.toList b.toList ∧ VRs ρ c.toList d.toList := by
  cases h with
  | flat _ hf =>
    cases a; cases c
    simp [Abs.flat, flatA] at hf
    exact ⟨_, _, rfl, VRs.refl_flat ρ _ hf.1, VRs.refl_flat ρ _ hf.2⟩
  | func _ a b c d h1 h2 => exact ⟨_, _, rfl, h1, h2⟩
theorem VR.int_inv {ρ : Ren} {k : IntKind} {n : Int} {c : Value} (h : VR ρ (.int k n) c) : c = .int k n := h.flat_eq rfl
theorem VR.bool_inv {ρ : Ren} {b : Bool} {c : Value} (h : VR ρ (.bool b) c) : c = .bool b := h.flat_eq rfl
theorem VR.string_inv {ρ : Ren} {s : ByteArray} {c : Value} (h : VR ρ (.string s) c) : c = .string s := h.flat_eq rfl
/-- The cells of a value. -/
theorem VR.cells {ρ : Ren} {a c : Value} (h : VR ρ a c) : VRs ρ a.cells.toList c.cells.toList := by
  cases h with
  | flat _ hf =>
    cases a <;> simp only [Value.cells] <;> first
      | exact .cons _ _ _ _ (.flat _ hf) .nil
      | (rename_i x; cases x; exact VRs.refl_flat ρ _ (by simpa [Abs.flat, flatA] using hf))
  | agg a b hs => exact hs
  | ptr id off L hL => exact .cons _ _ _ _ (.ptr id off L hL) .nil
  | slice id off n cap off' cap' L hL h1 h2 h3 h4 h5 => exact .cons _ _ _ _ (.slice id off n cap off' cap' L hL h1 h2 h3 h4 h5) .nil
  | map id L hL => exact .cons _ _ _ _ (.map id L hL) .nil
  | tuple a b hs => exact .cons _ _ _ _ (.tuple a b hs) .nil
  | iface t v v' hv => exact .cons _ _ _ _ (.iface t v v' hv) .nil
  | func fn a b c d h1 h2 => exact .cons _ _ _ _ (.func fn a b c d h1 h2) .nil

/-! Heaps -/
/-- The rows of a map. -/
inductive MR (ρ : Ren) : List (Value × Value) → List MapEntry → Prop
  | nil : MR ρ [] []
  | cons (k v : Value) (m : MapEntry) (l : List (Value × Value)) (ms : List MapEntry) : VR ρ k m.key → VR ρ v m.val → MR ρ l ms → MR ρ ((k, v) :: l) (m :: ms)

structure Rel (B0 : Nat) (ρ : Ren) (H : Heap) (w : World) : Prop where
  low : B0 ≤ w.heap.size
  dom : ∀ id L, ρ id = some L → id < H.n ∧ L.cb < w.heap.size
  cells : ∀ id L c md, ρ id = some L → H.get id = some (.cells c md) →
    ∀ i v, c[i]? = some v → ∃ v', w.cell? ⟨L.cb, L.base + i, none⟩ = some v' ∧ VR ρ v v'
  own : ∀ id L c md, ρ id = some L → H.get id = some (.cells c md) → md ≠ .ro →
    B0 ≤ L.cb ∧ c.length ≤ L.ext ∧ ∀ o, L.base ≤ o → o < L.base + L.ext → (w.cell? ⟨L.cb, o, none⟩).isSome = true ∧ w.frozen? ⟨L.cb, o, none⟩ = false
  lowRo : ∀ id L c, ρ id = some L → H.get id = some (.cells c .ro) → L.cb < B0
  kind : ∀ id L c md, ρ id = some L → H.get id = some (.cells c md) → L.md = md
  sep : ∀ id id' L L' c md c' md', id ≠ id' → ρ id = some L → ρ id' = some L' → H.get id = some (.cells c md) → H.get id' = some (.cells c' md') → md ≠ .ro → md' ≠ .ro →
    L.cb ≠ L'.cb ∨ L.base + L.ext ≤ L'.base ∨ L'.base + L'.ext ≤ L.base
  maps : ∀ id L es, ρ id = some L → H.get id = some (.map es) → B0 ≤ L.cb ∧ ∃ ms clock, w.heap[L.cb]? = some (.map ms clock) ∧ MR ρ es ms.toList
  sepM : ∀ id id' L L' es es', id ≠ id' → ρ id = some L → ρ id' = some L' → H.get id = some (.map es) → H.get id' = some (.map es') → L.cb ≠ L'.cb

/-- What comes behind: nothing is forgotten; below B0 the world is as it was; a block that the model has not made yet is as it was. -/
structure Fut (B0 : Nat) (ρ : Ren) (H : Heap) (w : World) (ρ' : Ren) (H' : Heap) (w' : World) : Prop where
  n : H.n ≤ H'.n
  ext : ∀ id, id < H.n → ρ' id = ρ id
  below : Below B0 w w'
  late : ∀ id, id < H.n → ρ id = none → H'.get id = H.get id

theorem Fut.refl (B0 : Nat) (ρ : Ren) (H : Heap) (w : World) : Fut B0 ρ H w ρ H w := ⟨Nat.le_refl _, fun _ _ => rfl, Below.refl _ _, fun _ _ _ => rfl⟩
theorem Fut.trans {B0 : Nat} {ρ ρ' ρ'' : Ren} {H H' H'' : Heap} {w w' w'' : World} (a : Fut B0 ρ H w ρ' H' w') (b : Fut B0 ρ' H' w' ρ'' H'' w'') : Fut B0 ρ H w ρ'' H'' w'' :=
  ⟨Nat.le_trans a.n b.n, fun id h => (b.ext id (Nat.lt_of_lt_of_le h a.n)).trans (a.ext id h), a.below.trans b.below,
   fun id h e => (b.late id (Nat.lt_of_lt_of_le h a.n) ((a.ext id h).trans e)).trans (a.late id h e)⟩
theorem Fut.le {B0 : Nat} {ρ ρ' : Ren} {H H' : Heap} {w w' : World} (f : Fut B0 ρ H w ρ' H' w') (r : Rel B0 ρ H w) : Le ρ ρ' :=
  fun id L h => (f.ext id (r.dom id L h).1).trans h

theorem MR.mono {ρ ρ' : Ren} (h : Le ρ ρ') : ∀ {es : List (Value × Value)} {ms : List MapEntry}, MR ρ es ms → MR ρ' es ms
  | _, _, .nil => .nil
  | _, _, .cons k v m l ms h1 h2 h3 => .cons k v m l ms (h1.mono h) (h2.mono h) (MR.mono h h3)

/-- A draw changes nothing. -/
theorem Rel.drew {B0 : Nat} {ρ : Ren} {H : Heap} {w : World} (r : Rel B0 ρ H w) : Rel B0 ρ H w.drew :=
  ⟨r.low, r.dom, r.cells, r.own, r.lowRo, r.kind, r.sep, r.maps, r.sepM⟩

theorem cell_alloc {w : World} {o : Obj} {a : Addr} {v : Value} (h : w.cell? a = some v) : (w.alloc o).cell? a = some v := by
  rw [World.cell?_alloc_lt _ _ _ (World.block_lt_of_cell? _ _ h), h]
theorem cellS_alloc {w : World} {o : Obj} {a : Addr} (h : (w.cell? a).isSome = true) : (w.alloc o).cell? a = w.cell? a := by
  obtain ⟨v, hv⟩ := Option.isSome_iff_exists.1 h
  rw [cell_alloc hv, hv]

/-- A block more that the model has not made yet. -/
theorem Rel.late {B0 : Nat} {ρ : Ren} {H : Heap} {w : World} (r : Rel B0 ρ H w) (b : Blk) : Rel B0 ρ (H.push b) w := by
  have key : ∀ id L, ρ id = some L → (H.push b).get id = H.get id := fun id L h => by
    rw [Heap.get_push, if_neg (by have := (r.dom id L h).1; omega)]
  refine ⟨r.low, fun id L h => ⟨by have := (r.dom id L h).1; simp; omega, (r.dom id L h).2⟩, ?_, ?_, ?_, ?_, ?_, ?_, ?_⟩
  · intro id L c md h e; rw [key id L h] at e; exact r.cells id L c md h e
  · intro id L c md h e; rw [key id L h] at e; exact r.own id L c md h e
  · intro id L c h e; rw [key id L h] at e; exact r.lowRo id L c h e
  · intro id L c md h e; rw [key id L h] at e; exact r.kind id L c md h e
  · intro id id' L L' c md c' md' hn h h' e e'; rw [key id L h] at e; rw [key id' L' h'] at e'; exact r.sep id id' L L' c md c' md' hn h h' e e'
  · intro id L es h e; rw [key id L h] at e; exact r.maps id L es h e
  · intro id id' L L' es es' hn h h' e e'; rw [key id L h] at e; rw [key id' L' h'] at e'; exact r.sepM id id' L L' es es' hn h h' e e'

/-- A block more, of cells: 'id' may be one that was late. -/
theorem Rel.new {B0 : Nat} {ρ : Ren} {H : Heap} {w : World} (r : Rel B0 ρ H w) (id : Nat) (hid : id < H.n) (hno : ρ id = none) (c : List Value) (md : Md) (hb : H.get id = some (.cells c md)) (hmd : md ≠ .ro)
    (cs : Array Value) (t : TypeId) (L : Loc) (hcb : L.cb = w.heap.size) (hbase : L.base = 0) (hext : L.ext = cs.size) (hc : ∀ (i : Nat) (v : Value), c[i]? = some v → ∃ v' : Value, cs[i]? = some v' ∧ VR ρ v v') (hlen : c.length ≤ cs.size)
    (hkind : L.md = md) :
    Rel B0 (ρ.upd id L) H (w.alloc (.cells cs t)) ∧ Le ρ (ρ.upd id L) := by
  have hle : Le ρ (ρ.upd id L) := fun i L' h => by
    rw [Ren.upd_ne]; exact h
    intro e; subst e; rw [hno] at h; cases h
  have old : ∀ i L', ρ.upd id L i = some L' → (i = id ∧ L' = L) ∨ (i ≠ id ∧ ρ i = some L') := by
    intro i L' h
    by_cases e : i = id
    · subst e; rw [Ren.upd_same] at h; exact .inl ⟨rfl, by injection h with h; exact h.symm⟩
    · rw [Ren.upd_ne _ _ e] at h; exact .inr ⟨e, h⟩
  refine ⟨⟨by have := r.low; simp; omega, ?_, ?_, ?_, ?_, ?_, ?_, ?_, ?_⟩, hle⟩
  · intro i L' h
    rcases old i L' h with ⟨rfl, rfl⟩ | ⟨hne, h⟩
    · exact ⟨hid, by rw [hcb]; simp⟩
    · have := r.dom i L' h; exact ⟨this.1, by have := this.2; simp; omega⟩
  · intro i L' c' md' h e j v hv
    rcases old i L' h with ⟨rfl, rfl⟩ | ⟨hne, h⟩
    · rw [hb] at e; injection e with e; injection e with e1 e2; subst e1; subst e2
      obtain ⟨v', hv', hr⟩ := hc j v hv
      refine ⟨v', ?_, hr.mono hle⟩
      rw [hcb, hbase, Nat.zero_add, World.cell?_alloc_new]; exact hv'
    · obtain ⟨v', hv', hr⟩ := r.cells i L' c' md' h e j v hv
      exact ⟨v', cell_alloc hv', hr.mono hle⟩
  · intro i L' c' md' h e hmd'
    rcases old i L' h with ⟨rfl, rfl⟩ | ⟨hne, h⟩
    · rw [hb] at e; injection e with e; injection e with e1 e2; subst e1; subst e2
      refine ⟨by rw [hcb]; exact r.low, by omega, fun o h1 h2 => ?_⟩
      rw [hcb]
      refine ⟨?_, World.frozen?_alloc_new _ _ _ _⟩
      rw [World.cell?_alloc_new, Array.getElem?_eq_getElem (by omega)]; rfl
    · obtain ⟨a, b, hh⟩ := r.own i L' c' md' h e hmd'
      refine ⟨a, b, fun o h1 h2 => ?_⟩
      obtain ⟨x, y⟩ := hh o h1 h2
      exact ⟨by rw [cellS_alloc x]; exact x, by rw [World.frozen?_alloc_old _ _ _ (Nat.ne_of_lt (r.dom i L' h).2)]; exact y⟩
  · intro i L' c' h e
    rcases old i L' h with ⟨rfl, rfl⟩ | ⟨hne, h⟩
    · rw [hb] at e; injection e with e; injection e with e1 e2; exact absurd e2 hmd
    · exact r.lowRo i L' c' h e
  · intro i L' c' md' h e
    rcases old i L' h with ⟨rfl, rfl⟩ | ⟨hne, h⟩
    · rw [hb] at e; injection e with e; injection e with e1 e2; exact hkind.trans e2
    · exact r.kind i L' c' md' h e
  · intro i i' L1 L2 c1 m1 c2 m2 hn h h' e e' d d'
    rcases old i L1 h with ⟨a1, b1⟩ | ⟨hne, h1⟩ <;> rcases old i' L2 h' with ⟨a2, b2⟩ | ⟨hne', h2⟩
    · exact absurd (a1.trans a2.symm) hn
    · left; have := (r.dom i' L2 h2).2; rw [b1]; omega
    · left; have := (r.dom i L1 h1).2; rw [b2]; omega
    · exact r.sep i i' L1 L2 c1 m1 c2 m2 hn h1 h2 e e' d d'
  · intro i L' es h e
    rcases old i L' h with ⟨rfl, rfl⟩ | ⟨hne, h⟩
    · rw [hb] at e; injection e with e; cases e
    · obtain ⟨a, ms, cl, hm, hr⟩ := r.maps i L' es h e
      exact ⟨a, ms, cl, by rw [Below.heap_alloc _ _ _ (r.dom i L' h).2]; exact hm, hr.mono hle⟩
  · intro i i' L1 L2 es es' hn h h' e e'
    rcases old i L1 h with ⟨a1, b1⟩ | ⟨hne, h1⟩
    · rw [a1, hb] at e; injection e with e; cases e
    · rcases old i' L2 h' with ⟨a2, b2⟩ | ⟨hne', h2⟩
      · rw [a2, hb] at e'; injection e' with e'; cases e'
      · exact r.sepM i i' L1 L2 es es' hn h1 h2 e e'
end Go.Abs
