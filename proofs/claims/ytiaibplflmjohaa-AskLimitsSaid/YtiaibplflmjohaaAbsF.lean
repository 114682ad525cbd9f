/- The abstract machine: operations that ask nothing of memory, beside the model's. -/
import Derived.Test.YtiaibplflmjohaaAbsE2
import GoSem.Dispatch
set_option linter.unusedVariables false
set_option linter.unusedSimpArgs false
namespace Go.Abs
open Go Go.RowKit
set_option linter.unusedVariables false
set_option linter.unusedSimpArgs false

theorem VRs_map {ρ : Ren} {ev cev : Operand → Value} (xs : Array Operand) (h : ∀ x ∈ xs, VR ρ (ev x) (cev x)) : VRs ρ (xs.map ev).toList (xs.map cev).toList := by
  refine VRs.of_get (by simp) fun i v hv => ?_
  simp only [Array.toList_map, List.getElem?_map, Option.map_eq_some_iff] at hv ⊢
  obtain ⟨x, hx, rfl⟩ := hv
  exact ⟨cev x, ⟨x, hx, rfl⟩, h x (by
    have := List.mem_of_getElem? hx
    simpa using this)⟩

theorem run_under {P : Program} {w : World} {t : TypeId} {d : TypeDesc} (h : P.underlying t = some d) : (underlying t).run P w = .ok d w := by
  unfold underlying; simp [h]
theorem run_info {P : Program} {w : World} {t : TypeId} {d : TypeInfo} (h : P.info? t = some d) : (typeInfo t).run P w = .ok d w := by
  unfold typeInfo; simp [h]
theorem run_size {P : Program} {w : World} {t : TypeId} {d : TypeInfo} (h : P.info? t = some d) : (sizeOf t).run P w = .ok d.size w := by
  unfold sizeOf; simp [run_info h]
theorem run_zero {P : Program} {w : World} {t : TypeId} {z : Value} (h : zeroT P t = some z) : (zeroValue t).run P w = .ok z w ∧ flat z = true := by
  unfold zeroT at h
  cases hi : P.info? t with
  | none => simp [hi] at h
  | some i =>
    simp only [hi, Option.bind_some] at h
    cases hz : i.zero with
    | none => simp [hz] at h
    | some z' =>
      simp only [hz, Option.bind_some] at h
      split at h
      · rename_i hf
        injection h with h; subst h
        refine ⟨?_, hf⟩
        unfold zeroValue
        simp [run_info hi, hz]
      · cases h
theorem run_isAgg {P : Program} {w : World} {t : TypeId} {b : Bool} (h : isAggT P t = some b) : (isAgg t).run P w = .ok b w := by
  unfold isAggT at h
  unfold isAgg
  cases hu : P.underlying t with
  | none => simp [hu] at h
  | some d => cases d <;> simp [hu] at h <;> subst h <;> simp [run_under hu]

/-- A part of a value. -/
theorem part_sim {P : Program} {ρ : Ren} {t : TypeId} {i : TypeInfo} (hi : P.info? t = some i) {as bs : List Value} (h : VRs ρ as bs) {off : Nat} {v : Value} (hp : partV P t i.size as off = some v) (w : World) :
    ∃ cv, (part t bs.toArray off).run P w = .ok cv w ∧ VR ρ v cv := by
  unfold partV at hp
  cases ha : isAggT P t with
  | none => simp [ha] at hp
  | some b =>
    rw [ha] at hp
    unfold part
    cases b with
    | true =>
      injection hp with hp; subst hp
      simp only [Sem.run_bind, run_isAgg ha, Result.andThen_ok, if_true, run_size hi, Sem.run_pure]
      refine ⟨_, rfl, ?_⟩
      have e : (bs.toArray.extract off (off + i.size)) = ⟨(bs.drop off).take i.size⟩ := by
        simp [List.extract_eq_take_drop]
      rw [e]
      exact .agg _ _ ((h.drop off).take i.size)
    | false =>
      simp only at hp
      obtain ⟨v', hv', hr⟩ := h.get off v hp
      simp only [Sem.run_bind, run_isAgg ha, Result.andThen_ok, Bool.false_eq_true, if_false]
      refine ⟨v', ?_, hr⟩
      simp [hv']

theorem addr_add (b o n : Nat) : (⟨b, o, none⟩ : Addr).add n = ⟨b, o + n, none⟩ := by
  unfold Addr.add; split
  · rename_i h; subst h; rfl
  · rfl

theorem foldl_writeAt (vs : List Value) : ∀ (cs : Array Value) (off : Nat), (vs.zipIdx.foldl (fun (cs : Array Value) x => cs.setIfInBounds (off + x.2) x.1) cs) = ⟨writeAt cs.toList off vs⟩ := by
  have gen : ∀ (vs : List Value) (k : Nat) (cs : Array Value) (off : Nat), ((vs.zipIdx k).foldl (fun (cs : Array Value) x => cs.setIfInBounds (off + x.2) x.1) cs) = ⟨writeAt cs.toList (off + k) vs⟩ := by
    intro vs
    induction vs with
    | nil => intro k cs off; rfl
    | cons v vs ih =>
      intro k cs off
      simp only [List.zipIdx_cons, List.foldl_cons, writeAt]
      rw [ih (k + 1)]
      congr 2
      simp
  intro cs off
  simpa using gen vs 0 cs off

theorem fill_sim {ρ : Ren} (place : Nat → Option (Nat × Nat)) : ∀ (ps qs : List (Nat × Value)) (as bs : List Value) (out : List Value), fillL place as ps = some out → VRs ρ as bs → ps.map (·.1) = qs.map (·.1) → VRs ρ (ps.map (·.2)) (qs.map (·.2)) →
    ∃ out', Instr.fill place ⟨bs⟩ qs = some ⟨out'⟩ ∧ VRs ρ out out' := by
  intro ps
  induction ps with
  | nil =>
    intro qs as bs out h hab hi hv
    cases qs with
    | nil => simp [fillL] at h; subst h; exact ⟨bs, rfl, hab⟩
    | cons q qs => simp at hi
  | cons p ps ih =>
    intro qs as bs out h hab hi hv
    cases qs with
    | nil => simp at hi
    | cons q qs =>
      obtain ⟨i, v⟩ := p; obtain ⟨j, u⟩ := q
      simp only [List.map_cons, List.cons.injEq] at hi
      obtain ⟨e, hi⟩ := hi
      subst e
      cases hv with
      | cons _ _ _ _ h1 h2 =>
        simp only [fillL] at h
        simp only [Instr.fill]
        cases hp : place i with
        | none => simp [hp] at h
        | some x =>
          obtain ⟨off, size⟩ := x
          simp only [hp] at h ⊢
          have hc := h1.cells
          have hl := hc.length_eq
          have hl2 := hab.length_eq
          simp only [Array.length_toList] at hl
          split at h
          · cases h
          · rename_i hn
            have hsz : v.cells.size = size := by
              rcases Nat.decEq v.cells.size size with h' | h'
              · exact absurd (Or.inl h') hn
              · exact h'
            have hof : ¬ off + size > as.length := fun h' => hn (Or.inr h')
            have : (decide (u.cells.size ≠ size) || decide (off + u.cells.size > (⟨bs⟩ : Array Value).size)) = false := by
              simp; omega
            rw [if_neg (by simpa using this)]
            have e : Array.foldl (fun (cs : Array Value) (x : Value × Nat) => cs.setIfInBounds (off + x.2) x.1) ⟨bs⟩ u.cells.zipIdx = ⟨writeAt bs off u.cells.toList⟩ := by
              rw [← Array.foldl_toList, Array.toList_zipIdx]
              exact foldl_writeAt _ ⟨bs⟩ off
            refine ih qs _ (writeAt bs off u.cells.toList) out h (VRs.writeAt _ _ _ hc hab) hi h2 |>.imp fun o ho => ⟨?_, ho.2⟩
            rw [← ho.1]
            congr 1
end Go.Abs
