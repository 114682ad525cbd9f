/- The abstract machine: rows that came in; an answer told from elsewhere; the call. -/
import Derived.Test.YtiaibplflmjohaaAbsAC
set_option linter.unusedVariables false
set_option linter.unusedSimpArgs false
namespace Go.Abs
open Go Go.RowKit
set_option linter.unusedVariables false
set_option linter.unusedSimpArgs false

/-- A row below B0 is read, never written. -/
theorem Rel.addRo {B0 : Nat} {ρ : Ren} {H : Heap} {w : World} (r : Rel B0 ρ H w) (b off : Nat) (hb : b < B0) (c : List Value)
    (hc : ∀ (i : Nat) (v : Value), c[i]? = some v → ∃ v' : Value, w.cell? ⟨b, off + i, none⟩ = some v' ∧ VR ρ v v') :
    Rel B0 (ρ.upd H.n ⟨b, off, 0, .ro⟩) (H.push (.cells c .ro)) w ∧ Le ρ (ρ.upd H.n ⟨b, off, 0, .ro⟩) := by
  have hno : ∀ i L, ρ i = some L → i ≠ H.n := fun i L h e => by subst e; exact absurd (r.dom _ L h).1 (Nat.lt_irrefl _)
  have hle : Le ρ (ρ.upd H.n ⟨b, off, 0, .ro⟩) := fun i L h => by rw [Ren.upd_ne _ _ (hno i L h)]; exact h
  have old : ∀ i L', ρ.upd H.n ⟨b, off, 0, .ro⟩ i = some L' → (i = H.n ∧ L' = ⟨b, off, 0, .ro⟩) ∨ (i ≠ H.n ∧ ρ i = some L') := by
    intro i L' h
    by_cases e : i = H.n
    · subst e; rw [Ren.upd_same] at h; exact .inl ⟨rfl, by injection h with h; exact h.symm⟩
    · rw [Ren.upd_ne _ _ e] at h; exact .inr ⟨e, h⟩
  have get : ∀ i, i ≠ H.n → (H.push (.cells c .ro)).get i = H.get i := fun i h => by rw [Heap.get_push, if_neg h]
  have new : (H.push (.cells c .ro)).get H.n = some (.cells c .ro) := by rw [Heap.get_push, if_pos rfl]
  have noro : ∀ {i c' md'}, i = H.n → (H.push (.cells c .ro)).get i = some (.cells c' md') → md' ≠ .ro → False := by
    intro i c' md' e h hm; subst e; rw [new] at h; injection h with h; injection h with h1 h2; exact hm h2.symm
  refine ⟨⟨r.low, ?_, ?_, ?_, ?_, ?_, ?_, ?_, ?_⟩, hle⟩
  · intro i L' h
    rcases old i L' h with ⟨rfl, rfl⟩ | ⟨hne, h⟩
    · exact ⟨by simp, Nat.lt_of_lt_of_le hb r.low⟩
    · have := r.dom i L' h; exact ⟨by simp; omega, this.2⟩
  · intro i L' c' md' h e j v hv
    rcases old i L' h with ⟨rfl, rfl⟩ | ⟨hne, h⟩
    · rw [new] at e; injection e with e; injection e with e1 e2; subst e1; subst e2
      obtain ⟨v', h1, h2⟩ := hc j v hv
      exact ⟨v', h1, h2.mono hle⟩
    · rw [get i hne] at e
      obtain ⟨v', h1, h2⟩ := r.cells i L' c' md' h e j v hv
      exact ⟨v', h1, h2.mono hle⟩
  · intro i L' c' md' h e hm
    rcases old i L' h with ⟨h1, rfl⟩ | ⟨hne, h⟩
    · exact (noro h1 e hm).elim
    · rw [get i hne] at e; exact r.own i L' c' md' h e hm
  · intro i L' c' h e
    rcases old i L' h with ⟨rfl, rfl⟩ | ⟨hne, h⟩
    · exact hb
    · rw [get i hne] at e; exact r.lowRo i L' c' h e
  · intro i L' c' md' h e
    rcases old i L' h with ⟨rfl, rfl⟩ | ⟨hne, h⟩
    · rw [new] at e; injection e with e; injection e
    · rw [get i hne] at e; exact r.kind i L' c' md' h e
  · intro i i' L L' c' md c'' md' hn h h' e e' hm hm'
    rcases old i L h with ⟨h1, rfl⟩ | ⟨hne, h⟩
    · exact (noro h1 e hm).elim
    · rcases old i' L' h' with ⟨h1, rfl⟩ | ⟨hne', h'⟩
      · exact (noro h1 e' hm').elim
      · rw [get i hne] at e; rw [get i' hne'] at e'
        exact r.sep i i' L L' c' md c'' md' hn h h' e e' hm hm'
  · intro i L es h e
    rcases old i L h with ⟨rfl, rfl⟩ | ⟨hne, h⟩
    · rw [new] at e; injection e with e; cases e
    · rw [get i hne] at e
      obtain ⟨h1, ms, cl, h2, h3⟩ := r.maps i L es h e
      exact ⟨h1, ms, cl, h2, h3.mono hle⟩
  · intro i i' L L' es es' hn h h' e e'
    rcases old i L h with ⟨rfl, rfl⟩ | ⟨hne, h⟩
    · rw [new] at e; injection e with e; cases e
    · rcases old i' L' h' with ⟨rfl, rfl⟩ | ⟨hne', h'⟩
      · rw [new] at e'; injection e' with e'; cases e'
      · rw [get i hne] at e; rw [get i' hne'] at e'
        exact r.sepM i i' L L' es es' hn h h' e e'

/-- Nothing is known of a world. -/
theorem Rel.empty (w : World) : Rel w.heap.size (fun _ => none) Heap.nil w :=
  ⟨Nat.le_refl _, (fun _ _ h => nomatch h), (fun _ _ _ _ h => nomatch h), (fun _ _ _ _ h => nomatch h), (fun _ _ _ h => nomatch h), (fun _ _ _ _ h => nomatch h),
   (fun _ _ _ _ _ _ _ _ _ h => nomatch h), (fun _ _ _ h => nomatch h), (fun _ _ _ _ _ _ _ h => nomatch h)⟩

/-- What lies below the world's end stays. -/
theorem Rel.below {B0 : Nat} {ρ : Ren} {H : Heap} {w w' : World} (r : Rel B0 ρ H w) (b : Below w.heap.size w w') : Rel B0 ρ H w' := by
  have blk : ∀ k, k < w.heap.size → w'.heap[k]? = w.heap[k]? := b.block
  have cell : ∀ a : Addr, a.block < w.heap.size → w'.cell? a = w.cell? a := fun a h => by unfold World.cell?; rw [blk _ h]
  have froz : ∀ a : Addr, a.block < w.heap.size → w'.frozen? a = w.frozen? a := fun a h => by unfold World.frozen?; rw [blk _ h]
  refine ⟨Nat.le_trans r.low b.size, fun id L h => ⟨(r.dom id L h).1, Nat.lt_of_lt_of_le (r.dom id L h).2 b.size⟩, ?_, ?_, r.lowRo, r.kind, r.sep, ?_, r.sepM⟩
  · intro id L c md h e i v hv
    obtain ⟨v', h1, h2⟩ := r.cells id L c md h e i v hv
    exact ⟨v', by rw [cell _ (r.dom id L h).2]; exact h1, h2⟩
  · intro id L c md h e hm
    obtain ⟨h1, h2, h3⟩ := r.own id L c md h e hm
    exact ⟨h1, h2, fun o ho ho' => by rw [cell _ (r.dom id L h).2, froz _ (r.dom id L h).2]; exact h3 o ho ho'⟩
  · intro id L es h e
    obtain ⟨h1, ms, cl, h2, h3⟩ := r.maps id L es h e
    exact ⟨h1, ms, cl, by rw [blk _ (r.dom id L h).2]; exact h2, h3⟩

theorem below_less {B B' : Nat} {w w' : World} (h : B' ≤ B) (b : Below B w w') : Below B' w w' := ⟨b.os, b.tape, b.output, b.size, fun k hk => b.block k (Nat.lt_of_lt_of_le hk h)⟩

/-- A call without arguments that answers one flat value, whatever the world. -/
def Tells (P : Program) (f : FuncId) (v : Value) : Prop := CallOk P f ∧ flat v = true ∧ ∀ w, Calls P f #[] w fun e w' => e = .returned v ∧ Below w.heap.size w w'
theorem tells_of {P : Program} (hmix : P.follows .mixedOrders = true) {orc : Orc} (horc : OrcOk P orc) {f : FuncId} {v : Value} (hv : flat v = true) {k : Nat}
    (h : ((arun P orc k f #[] Heap.nil).map fun r => veq r.1 v) = some true) : Tells P f v := by
  obtain ⟨⟨v', H'⟩, h1, h2⟩ := Option.map_eq_some_iff.1 h
  have e : v' = v := veq_sound _ _ h2
  subst e
  obtain ⟨h3, _, h4⟩ := arun_sim hmix horc k f #[] Heap.nil v' H' h1
  refine ⟨h3, hv, fun w => (h4 _ _ w #[] (Rel.empty w) .nil).mono fun e w' ⟨ρ', cv, h5, h6, _, h7⟩ => ?_⟩
  rw [h6.flat_eq hv] at h5
  exact ⟨h5, h7.below⟩
def oneOrc (f : FuncId) (v : Value) : Orc := fun g => if g = f then some (fun args H => if args.size = 0 then some (v, H) else none) else none
theorem oneOrc_ok {P : Program} {f : FuncId} {v : Value} (t : Tells P f v) : OrcOk P (oneOrc f v) := by
  intro g o ho args H v' H' h
  unfold oneOrc at ho
  split at ho
  · rename_i e
    subst e
    injection ho with ho
    subst ho
    simp only at h
    split at h
    · rename_i hs
      injection h with h
      injection h with h1 h2
      subst h1; subst h2
      have ha : args = #[] := Array.eq_empty_of_size_eq_zero hs
      subst ha
      refine ⟨t.1, Nat.le_refl _, fun B0 ρ w cargs r hv => ?_⟩
      have hc : cargs = #[] := Array.eq_empty_of_size_eq_zero (by have := hv.length_eq; simpa using this)
      subst hc
      refine (t.2.2 w).mono fun e w' ⟨h1, h2⟩ => ⟨ρ, v, h1, .flat _ t.2.1, r.below h2, ⟨Nat.le_refl _, fun _ _ => rfl, below_less r.low h2, fun _ _ _ => rfl⟩⟩
    · cases h
  · cases ho
theorem noOrc_ok (P : Program) : OrcOk P (fun _ => none) := fun _ _ h => by cases h
theorem Ev_one {P : Program} {f : FuncId} {v : Value} {H : Heap} {Q : Value → Heap → Prop} (h : Q v H) : Ev P (oneOrc f v) f #[] H Q :=
  ⟨1, v, H, by simp [arun, oneOrc], h⟩

/-- WHAT THE ABSTRACT MACHINE ANSWERS, THE CALL ANSWERS. -/
theorem calls_of_ev {P : Program} (hmix : P.follows .mixedOrders = true) {orc : Orc} (horc : OrcOk P orc) {f : FuncId} {args : Array Value} {H : Heap} {v : Value}
    (h : Ev P orc f args H fun v' _ => v' = v) (hv : flat v = true) {ρ : Ren} {w : World} {cargs : Array Value} (r : Rel w.heap.size ρ H w) (ha : VRs ρ args.toList cargs.toList) :
    Calls P f cargs w fun e w' => e = .returned v ∧ Below w.heap.size w w' := by
  obtain ⟨k, v', H', h1, rfl⟩ := h
  obtain ⟨_, _, h4⟩ := arun_sim hmix horc k f args H v' H' h1
  refine (h4 _ _ w cargs r ha).mono fun e w' ⟨ρ', cv, h5, h6, _, h7⟩ => ?_
  rw [h6.flat_eq hv] at h5
  exact ⟨h5, h7.below⟩
end Go.Abs
