/- The abstract machine: the data of a run of a region that draws its order. -/
import Derived.Test.YtiaibplflmjohaaAbsS
set_option linter.unusedVariables false
set_option linter.unusedSimpArgs false
namespace Go.Abs
open Go Go.RowKit
set_option linter.unusedVariables false
set_option linter.unusedSimpArgs false

def PushExt (H H' : Heap) : Prop := H.n ≤ H'.n ∧ ∀ id, id < H.n → H'.get id = H.get id
theorem PushExt.refl (H : Heap) : PushExt H H := ⟨Nat.le_refl _, fun _ _ => rfl⟩
theorem PushExt.trans {a b c : Heap} (h : PushExt a b) (k : PushExt b c) : PushExt a c := ⟨Nat.le_trans h.1 k.1, fun id hi => (k.2 id (Nat.lt_of_lt_of_le hi h.1)).trans (h.2 id hi)⟩
theorem PushExt.push (H : Heap) (b : Blk) : PushExt H (H.push b) := ⟨by simp, fun id hi => by rw [Heap.get_push, if_neg (by omega)]⟩
theorem PushExt.some {H H' : Heap} (h : PushExt H H') {id : Nat} {b : Blk} (hb : H.get id = some b) : H'.get id = some b := by rw [h.2 id (Heap.get_lt hb)]; exact hb

theorem Rel.lateExt {B0 : Nat} {ρ : Ren} {H H' : Heap} {w : World} (r : Rel B0 ρ H w) (h : PushExt H H') : Rel B0 ρ H' w := by
  have key : ∀ id L, ρ id = Option.some L → H'.get id = H.get id := fun id L e => h.2 id (r.dom id L e).1
  refine ⟨r.low, fun id L e => ⟨Nat.lt_of_lt_of_le (r.dom id L e).1 h.1, (r.dom id L e).2⟩, ?_, ?_, ?_, ?_, ?_, ?_, ?_⟩
  · intro id L c md h e; rw [key id L h] at e; exact r.cells id L c md h e
  · intro id L c md h e; rw [key id L h] at e; exact r.own id L c md h e
  · intro id L c h e; rw [key id L h] at e; exact r.lowRo id L c h e
  · intro id L c md h e; rw [key id L h] at e; exact r.kind id L c md h e
  · intro id id' L L' c md c' md' hn h h' e e'; rw [key id L h] at e; rw [key id' L' h'] at e'; exact r.sep id id' L L' c md c' md' hn h h' e e'
  · intro id L es h e; rw [key id L h] at e; exact r.maps id L es h e
  · intro id id' L L' es es' hn h h' e e'; rw [key id L h] at e; rw [key id' L' h'] at e'; exact r.sepM id id' L L' es es' hn h h' e e'

theorem cellsAt_ext {H H' : Heap} (h : PushExt H H') {id off n : Nat} {l : List Value} (e : cellsAt H id off n = some l) : cellsAt H' id off n = some l := by
  unfold cellsAt at *
  split at e
  · rename_i c md hb; rw [h.some hb]; exact e
  · cases e

/-- What was read is read the same behind blocks more. -/
theorem read_ext {P : Program} {ev : Operand → Value} {o : Oper} {H H' H2 : Heap} {v : Value} (hk : kindOf o.op = .read) (h : aop P ev o H = some (.val v H')) (hx : PushExt H H2) : valOf (aop P ev o H2) = some v := by
  obtain ⟨dst, op, type, pos, after, guard⟩ := o
  cases op <;> simp only [kindOf] at hk <;> try (cases hk)
  case load t a =>
    simp only [aop, Option.map_eq_some_iff] at h
    obtain ⟨c, hc, h⟩ := h
    injection h with h1 h2; subst h1
    suffices aload P t (ev a) H2 = some c by simp [aop, this, valOf]
    unfold aload at *
    split at hc
    · split at hc
      · rename_i hb; rw [hx.some hb]; exact hc
      · cases hc
    · cases hc
  case convert s d x =>
    simp only [aop, Option.map_eq_some_iff] at h
    obtain ⟨c, hc, h⟩ := h
    injection h with h1 h2; subst h1
    suffices aconvert P s d (ev x) H2 = some c by simp [aop, this, valOf]
    unfold aconvert at *
    split at hc
    · split at hc
      · split at hc
        · simp only [Option.map_eq_some_iff] at hc ⊢
          obtain ⟨l, hl, e⟩ := hc
          refine ⟨l, ?_, e⟩
          split
          · rename_i h0; rw [if_pos h0] at hl; exact hl
          · rename_i h0
            rw [if_neg h0] at hl
            cases hcc : cellsAt H _ _ _ with
            | none => rw [hcc] at hl; cases hl
            | some y => rw [hcc] at hl; rw [cellsAt_ext hx hcc]; exact hl
        · cases hc
      · cases hc
    · exact hc
  case slice t x lo hi mx =>
    simp only [aop, Option.map_eq_some_iff] at h
    obtain ⟨c, hc, h⟩ := h
    injection h with h1 h2; subst h1
    suffices aslice P t (ev x) (lo.map ev) (hi.map ev) (mx.map ev) H2 = some c by simp [aop, this, valOf]
    unfold aslice at *
    split at hc
    · split at hc
      · rename_i hb ha; rw [hx.some hb]; simp only [ha]; exact hc
      · cases hc
    · split at hc
      · rename_i hb ha; rw [hx.some hb]; simp only [ha]; exact hc
      · cases hc
    · exact hc
    · cases hc
  case lookup t x k ok =>
    simp only [aop, Option.map_eq_some_iff] at h
    obtain ⟨c, hc, h⟩ := h
    injection h with h1 h2; subst h1
    suffices alookup P t (ev x) (ev k) ok H2 = some c by simp [aop, this, valOf]
    unfold alookup at *
    split at hc
    · exact hc
    · split at hc
      · rename_i hb; rw [hx.some hb]; exact hc
      · cases hc
    · cases hc
  case call c =>
    obtain ⟨callee, args, ts⟩ := c
    cases callee with
    | value f => simp [kindOf] at hk
    | invoke r n => simp [kindOf] at hk
    | builtin b =>
      cases b <;> simp [kindOf] at hk
      simp only [aop] at h
      split at h
      · rename_i x t hxx ht
        simp only [Option.map_eq_some_iff] at h
        obtain ⟨c, hc, h⟩ := h
        injection h with h1 h2; subst h1
        suffices alen P t x H2 = some c by simp only [aop, hxx, ht, this]; rfl
        unfold alen at *
        split at hc
        · split at hc
          · rename_i hb hT; rw [hx.some hb]; simp only [hT]; exact hc
          · cases hc
        all_goals exact hc
      · cases h

def isEffAt (ops : Array Oper) (j : Nat) : Prop := ∃ o, ops[j]? = some o ∧ kindOf o.op = .eff

theorem phases_spec {ops : Array Oper} {bs : List (List Nat)} : ∀ (l : List Nat) (last : Option Nat) (done : List Nat), phases ops bs l last done = true → ∀ (k i : Nat), l[k]? = some i →
    (∀ x ∈ bs.getD i [], x ∈ done ∨ ∃ q, q < k ∧ l[q]? = some x) ∧ i ∉ done ∧ (∀ q, q < k → l[q]? ≠ some i) ∧
    (∀ e j, e < k → l[e]? = some j → isEffAt ops j → (∀ x y, e < x → x < k → l[x]? = some y → ¬ isEffAt ops y) → j ∈ bs.getD i []) ∧
    (∀ le, last = some le → (∀ x y, x < k → l[x]? = some y → ¬ isEffAt ops y) → le ∈ bs.getD i []) := by
  intro l
  induction l with
  | nil => intro last done h k i hk; simp at hk
  | cons a rest ih =>
    intro last done h k i hk
    simp only [phases, Bool.and_eq_true] at h
    obtain ⟨⟨⟨h1, h2⟩, h3⟩, h4⟩ := h
    cases k with
    | zero =>
      simp at hk; subst hk
      refine ⟨fun x hx => ?_, ?_, fun q hq => by omega, fun e j he => by omega, fun le hle _ => ?_⟩
      · left
        simp only [List.all_eq_true] at h1
        simpa using h1 x hx
      · simpa using h2
      · subst hle; simpa using h3
    | succ k =>
      cases ho : ops[a]? with
      | none => simp [ho] at h4
      | some o =>
        simp only [ho] at h4
        obtain ⟨g1, g2, g3, g4, g5⟩ := ih _ _ h4 k i (by simpa using hk)
        refine ⟨fun x hx => ?_, ?_, fun q hq => ?_, fun e j he hj hej hno => ?_, fun le hle hno => ?_⟩
        · rcases g1 x hx with hx | ⟨q, hq, hx⟩
          · rcases List.mem_cons.1 hx with e | hx
            · subst e; exact .inr ⟨0, by omega, by simp⟩
            · exact .inl hx
          · exact .inr ⟨q + 1, by omega, by simpa using hx⟩
        · exact fun e => g2 (List.mem_cons_of_mem _ e)
        · cases q with
          | zero => intro e; simp at e; subst e; exact g2 (List.mem_cons_self)
          | succ q => simpa using g3 q (by omega)
        · cases e with
          | zero =>
            simp at hj; subst hj
            obtain ⟨o', ho', hk'⟩ := hej
            rw [ho] at ho'; injection ho' with ho'; subst ho'
            exact g5 a (by rw [if_pos hk']) fun x y hx hy => hno (x + 1) y (by omega) (by omega) (by simpa using hy)
          | succ e =>
            exact g4 e j (by omega) (by simpa using hj) hej fun x y h1 h2 h3 => hno (x + 1) y (by omega) (by omega) (by simpa using h3)
        · have hna : ¬ isEffAt ops a := hno 0 a (by omega) (by simp)
          refine g5 le ?_ fun x y hx hy => hno (x + 1) y (by omega) (by simpa using hy)
          rw [if_neg (fun hk' => hna ⟨o, ho, hk'⟩)]
          exact hle
end Go.Abs
