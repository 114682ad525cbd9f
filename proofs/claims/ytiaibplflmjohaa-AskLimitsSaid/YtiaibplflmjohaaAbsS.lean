/- The abstract machine: what is before what in a region. -/
import Derived.Test.YtiaibplflmjohaaAbsR
set_option linter.unusedVariables false
set_option linter.unusedSimpArgs false
namespace Go.Abs
open Go Go.RowKit
set_option linter.unusedVariables false
set_option linter.unusedSimpArgs false

/-! The order -/
theorem befGo_len : ∀ (l : List Oper) (acc : List (List Nat)), (befGo l acc).length = acc.length + l.length
  | [], acc => by simp [befGo]
  | o :: rest, acc => by rw [befGo, befGo_len rest]; simp; omega
theorem befGo_old : ∀ (l : List Oper) (acc : List (List Nat)) (i : Nat), i < acc.length → (befGo l acc).getD i [] = acc.getD i []
  | [], acc, i, h => rfl
  | o :: rest, acc, i, h => by
    rw [befGo, befGo_old rest _ i (by simp; omega)]
    simp [List.getD, List.getElem?_append_left h]
theorem befGo_new : ∀ (l : List Oper) (acc : List (List Nat)) (k : Nat) (o : Oper), l[k]? = some o → (∀ j ∈ onsOf o, j < acc.length + k) → (∀ x, x ∈ (befGo l acc).getD (acc.length + k) [] ↔ x ∈ onsOf o ∨ ∃ j ∈ onsOf o, x ∈ (befGo l acc).getD j [])
  | [], acc, k, o, h, _ => by simp at h
  | p :: rest, acc, 0, o, h, hj => by
    simp at h; subst h
    intro x
    rw [befGo]
    have e : (befGo rest (acc ++ [((onsOf p) ++ (onsOf p).flatMap fun j => acc.getD j []).eraseDups])).getD (acc.length + 0) [] = ((onsOf p) ++ (onsOf p).flatMap fun j => acc.getD j []).eraseDups := by
      rw [befGo_old _ _ _ (by simp)]
      simp [List.getD]
    rw [e, List.mem_eraseDups, List.mem_append, List.mem_flatMap]
    have key : ∀ j ∈ onsOf p, (befGo rest (acc ++ [((onsOf p) ++ (onsOf p).flatMap fun j => acc.getD j []).eraseDups])).getD j [] = acc.getD j [] := by
      intro j hj'
      have := hj j hj'
      rw [befGo_old _ _ _ (by simp; omega)]
      simp [List.getD, List.getElem?_append_left (show j < acc.length by omega)]
    constructor
    · rintro (h | ⟨j, h1, h2⟩)
      · exact .inl h
      · exact .inr ⟨j, h1, by rw [key j h1]; exact h2⟩
    · rintro (h | ⟨j, h1, h2⟩)
      · exact .inl h
      · exact .inr ⟨j, h1, by rw [key j h1] at h2; exact h2⟩
  | p :: rest, acc, k + 1, o, h, hj => by
    rw [befGo]
    have := befGo_new rest (acc ++ [((onsOf p) ++ (onsOf p).flatMap fun j => acc.getD j []).eraseDups]) k o (by simpa using h) (fun j hj' => by have := hj j hj'; simp; omega)
    simp only [List.length_append, List.length_singleton] at this
    rw [show acc.length + (k + 1) = acc.length + 1 + k by omega]
    exact this

theorem befs_iff {ops : Array Oper} {i : Nat} {o : Oper} (ho : ops[i]? = some o) (hj : ∀ j ∈ onsOf o, j < i) (x : Nat) :
    x ∈ (befs ops).getD i [] ↔ x ∈ onsOf o ∨ ∃ j ∈ onsOf o, x ∈ (befs ops).getD j [] := by
  have := befGo_new ops.toList [] i o (by simpa using ho) (by simpa using hj) x
  simpa [befs] using this

/-- All that must be run ahead is in a set that holds, with each, what stands ahead of it. -/
theorem bef_closed {ops : Array Oper} (hord : ∀ i o, ops[i]? = some o → ∀ j ∈ onsOf o, j < i) {S : Nat → Prop} (hS : ∀ i o, ops[i]? = some o → S i → ∀ j ∈ onsOf o, S j) :
    ∀ (i : Nat) (o : Oper), ops[i]? = some o → (∀ j ∈ onsOf o, S j) → ∀ x ∈ (befs ops).getD i [], S x := by
  intro i
  induction i using Nat.strongRecOn with
  | _ i ih =>
    intro o ho hons x hx
    rw [befs_iff ho (hord i o ho)] at hx
    rcases hx with hx | ⟨j, hj, hx⟩
    · exact hons x hx
    · have hji := hord i o ho j hj
      have hsz : i < ops.size := (Array.getElem?_eq_some_iff.1 ho).1
      have hoj : ops[j]? = some ops[j] := Array.getElem?_eq_getElem (by omega)
      exact ih j hji ops[j] hoj (fun y hy => hS j ops[j] hoj (hons j hj) y hy) x hx

/-! A run, step by step -/
structure DS where
  m : Nat
  hs : List Held
  ts : Array Value
  H : Heap

def dstep (P : Program) (call : CallFn) (ops : Array Oper) (up : Nat → Nat) (d : DS) (i : Nat) : Option DS :=
  match ops[i]? with
  | none => none
  | some o =>
    let m' := if kindOf o.op = .eff then d.m + 1 else d.m
    if Region.wanted o (yielded ops d.ts) then
      match astep P call (evalT d.ts) o d.H with
      | some (v, H') =>
        if kindOf o.op = .eff ∧ heldOk (d.m + 1) H' d.hs = false then none
        else some ⟨m', (if kindOf o.op = .read ∧ up i ≠ d.m then ⟨up i, fun H => valOf (aop P (evalT d.ts) o H), v⟩ :: d.hs else d.hs), putT d.ts o.dst v, H'⟩
      | none => none
    else some ⟨m', d.hs, putT d.ts o.dst undefV, d.H⟩

theorem adraw_fold (P : Program) (call : CallFn) (ops : Array Oper) (up : Nat → Nat) : ∀ (l : List Nat) (m : Nat) (hs : List Held) (ts : Array Value) (H : Heap) (r : Array Value × Heap),
    adraw P call ops up l m hs ts H = some r → ∃ st : Nat → DS, st 0 = ⟨m, hs, ts, H⟩ ∧ (st l.length).ts = r.1 ∧ (st l.length).H = r.2 ∧ ∀ p i, l[p]? = some i → dstep P call ops up (st p) i = some (st (p + 1)) := by
  intro l
  induction l with
  | nil =>
    intro m hs ts H r h
    simp only [adraw, Option.some.injEq] at h
    subst h
    exact ⟨fun _ => ⟨m, hs, ts, H⟩, rfl, rfl, rfl, fun p i hp => by simp at hp⟩
  | cons i rest ih =>
    intro m hs ts H r h
    have key : ∀ d : DS, dstep P call ops up ⟨m, hs, ts, H⟩ i = some d → adraw P call ops up rest d.m d.hs d.ts d.H = some r →
        ∃ st : Nat → DS, st 0 = ⟨m, hs, ts, H⟩ ∧ (st (i :: rest).length).ts = r.1 ∧ (st (i :: rest).length).H = r.2 ∧ ∀ p j, (i :: rest)[p]? = some j → dstep P call ops up (st p) j = some (st (p + 1)) := by
      intro d h1 h2
      obtain ⟨st, s0, s1, s2, s3⟩ := ih _ _ _ _ _ h2
      refine ⟨fun p => match p with | 0 => ⟨m, hs, ts, H⟩ | p + 1 => st p, rfl, s1, s2, fun p j hp => ?_⟩
      cases p with
      | zero =>
        simp at hp; subst hp
        show dstep P call ops up ⟨m, hs, ts, H⟩ i = some (st 0)
        rw [s0, h1]
      | succ p => exact s3 p j (by simpa using hp)
    simp only [adraw] at h
    cases ho : ops[i]? with
    | none => rw [ho] at h; cases h
    | some o =>
      simp only [ho] at h
      split at h
      · rename_i hw
        cases hst : astep P call (evalT ts) o H with
        | none => rw [hst] at h; cases h
        | some vh =>
          obtain ⟨v, H1⟩ := vh
          rw [hst] at h
          simp only at h
          split at h
          · cases h
          · rename_i hb
            refine key ⟨_, _, _, _⟩ ?_ h
            simp only [dstep, ho, if_pos hw, hst, if_neg hb]; rfl
      · rename_i hw
        refine key ⟨_, _, _, _⟩ ?_ h
        simp only [dstep, ho, if_neg hw]; rfl
end Go.Abs
