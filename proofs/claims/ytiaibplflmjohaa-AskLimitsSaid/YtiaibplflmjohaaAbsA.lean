/- The abstract machine: a run of the program's code over a heap of plain lists, in one order, with growing rows moved. Definitions. -/
import Derived.Calls
import Derived.Below
import Derived.Orders
set_option linter.unusedVariables false
set_option linter.unusedSimpArgs false
namespace Go.Abs
open Go Go.RowKit
set_option linter.unusedVariables false

inductive Md where
  | ro
  | fix
  | grown (es : Nat)
  deriving DecidableEq

inductive Blk where
  | cells (c : List Value) (m : Md)
  | map (es : List (Value × Value))
  | dead

/-- A heap: blocks, the newest first. -/
structure Heap where
  n : Nat
  l : List Blk

def Heap.get (H : Heap) (i : Nat) : Option Blk := if i < H.n then H.l[H.n - 1 - i]? else none
def Heap.push (H : Heap) (b : Blk) : Heap := ⟨H.n + 1, b :: H.l⟩
def Heap.set (H : Heap) (i : Nat) (b : Blk) : Heap := if i < H.n then ⟨H.n, H.l.set (H.n - 1 - i) b⟩ else H
def Heap.nil : Heap := ⟨0, []⟩

theorem Heap.get_push (H : Heap) (b : Blk) (i : Nat) : (H.push b).get i = if i = H.n then some b else H.get i := by
  unfold Heap.push Heap.get
  simp only
  by_cases h : i = H.n
  · subst h; simp
  · by_cases h2 : i < H.n
    · rw [if_pos (by omega), if_neg h, if_pos h2]
      have : H.n + 1 - 1 - i = (H.n - 1 - i) + 1 := by omega
      rw [this]; simp
    · rw [if_neg (by omega), if_neg h, if_neg h2]
theorem Heap.get_set (H : Heap) (b : Blk) (i j : Nat) : (H.set i b).get j = if i = j then (H.get j).map (fun _ => b) else H.get j := by
  unfold Heap.set Heap.get
  by_cases h : i < H.n
  · simp only [if_pos h]
    by_cases e : i = j
    · subst e
      simp only [if_pos h, if_pos rfl, List.getElem?_set]
      by_cases h3 : H.n - 1 - i < H.l.length
      · simp [h3]
      · simp [h3]
    · simp only [if_neg e]
      by_cases h2 : j < H.n
      · simp only [if_pos h2]
        rw [List.getElem?_set_ne (by omega)]
      · simp only [if_neg h2]
  · simp only [if_neg h]
    by_cases e : i = j
    · subst e; simp [h]
    · simp [e]
theorem Heap.get_lt {H : Heap} {i : Nat} {b : Blk} (h : H.get i = some b) : i < H.n := by
  unfold Heap.get at h; split at h
  · assumption
  · cases h
@[simp] theorem Heap.push_n (H : Heap) (b : Blk) : (H.push b).n = H.n + 1 := rfl
@[simp] theorem Heap.set_n (H : Heap) (i : Nat) (b : Blk) : (H.set i b).n = H.n := by unfold Heap.set; split <;> rfl

/-- What a computation gives that asks nothing of the world. -/
def purely (P : Program) {α : Type} : Sem α → Option α
  | .pure a => some a
  | .program k => purely P (k P)
  | .mark _ k => purely P k
  | _ => none

theorem purely_run {P : Program} {α : Type} (w : World) : ∀ (s : Sem α) (a : α), purely P s = some a → s.run P w = .ok a w := by
  intro s
  induction s with
  | pure a => intro b h; simp [purely] at h; subst h; rfl
  | program k ih => intro b h; exact ih P b h
  | mark m k ih => intro b h; exact ih b h
  | _ => intro b h; simp [purely] at h

theorem purely_bind (P : Program) {α β : Type} (s : Sem α) (f : α → Sem β) : purely P (s >>= f) = (purely P s).bind fun a => purely P (f a) := by
  show purely P (s.bind f) = _
  induction s with
  | pure a => rfl
  | program k ih => exact ih P
  | mark m k ih => exact ih
  | _ => rfl
theorem purely_pure (P : Program) {α : Type} (a : α) : purely P (pure a : Sem α) = some a := rfl

/-! Values without an address -/
mutual
def flat : Value → Bool
  | .bool _ | .int _ _ | .float _ _ | .complex _ _ _ | .string _ | .pointer none | .slice none _ _ | .map none | .chan none | .nilFunc | .nilIface => true
  | .agg cs => flatA cs
  | .tuple vs => flatA vs
  | .iface _ v => flat v
  | .func _ f c => flatA f && flatA c
  | _ => false
def flatA : Array Value → Bool
  | ⟨l⟩ => flatL l
def flatL : List Value → Bool
  | [] => true
  | v :: l => flat v && flatL l
end

/-- One cell's value. -/
def scal : Value → Bool
  | .agg _ | .tuple _ => false
  | _ => true

/-! Equality of values, decided -/
mutual
def veq : Value → Value → Bool
  | .bool a, .bool b => a == b
  | .int k a, .int j b => decide (k = j) && decide (a = b)
  | .float k a, .float j b => decide (k = j) && decide (a = b)
  | .complex k a b, .complex j c d => decide (k = j) && decide (a = c) && decide (b = d)
  | .string a, .string b => decide (a = b)
  | .pointer a, .pointer b => decide (a = b)
  | .slice a n c, .slice b m d => decide (a = b) && decide (n = m) && decide (c = d)
  | .map a, .map b => decide (a = b)
  | .chan a, .chan b => decide (a = b)
  | .nilFunc, .nilFunc => true
  | .nilIface, .nilIface => true
  | .agg a, .agg b => veqA a b
  | .tuple a, .tuple b => veqA a b
  | .iface t a, .iface u b => decide (t = u) && veq a b
  | .func f a b, .func g c d => decide (f = g) && veqA a c && veqA b d
  | _, _ => false
def veqA : Array Value → Array Value → Bool
  | ⟨a⟩, ⟨b⟩ => veqL a b
def veqL : List Value → List Value → Bool
  | [], [] => true
  | a :: l, b :: m => veq a b && veqL l m
  | _, _ => false
end
mutual
theorem veq_sound : ∀ (a b : Value), veq a b = true → a = b := by
  intro a b h
  cases a <;> cases b <;> simp [veq] at h <;> try (simp_all; done)
  case agg.agg x y => rw [veqA_sound x y h]
  case tuple.tuple x y => rw [veqA_sound x y h]
  case iface.iface t x u y => obtain ⟨h1, h2⟩ := h; subst h1; rw [veq_sound x y h2]
  case func.func f x y g u v => obtain ⟨⟨h1, h2⟩, h3⟩ := h; subst h1; rw [veqA_sound x u h2, veqA_sound y v h3]
theorem veqA_sound : ∀ (a b : Array Value), veqA a b = true → a = b
  | ⟨a⟩, ⟨b⟩, h => by rw [veqL_sound a b (by simpa [veqA] using h)]
theorem veqL_sound : ∀ (a b : List Value), veqL a b = true → a = b
  | [], [], _ => rfl
  | [], _ :: _, h => by simp [veqL] at h
  | _ :: _, [], h => by simp [veqL] at h
  | a :: l, b :: m, h => by
    simp [veqL] at h
    rw [veq_sound a b h.1, veqL_sound l m h.2]
end
mutual
theorem veq_refl : ∀ (a : Value), veq a a = true := by
  intro a
  cases a <;> simp [veq]
  case agg x => exact veqA_refl x
  case tuple x => exact veqA_refl x
  case iface t x => exact veq_refl x
  case func f x y => exact ⟨veqA_refl x, veqA_refl y⟩
theorem veqA_refl : ∀ (a : Array Value), veqA a a = true
  | ⟨a⟩ => by simpa [veqA] using veqL_refl a
theorem veqL_refl : ∀ (a : List Value), veqL a a = true
  | [] => rfl
  | a :: l => by simp [veqL, veq_refl a, veqL_refl l]
end
end Go.Abs
