/- The abstract machine: regions in the text's order, beside the model's. -/
import Derived.Test.YtiaibplflmjohaaAbsQ
set_option linter.unusedVariables false
set_option linter.unusedSimpArgs false
namespace Go.Abs
open Go Go.RowKit
set_option linter.unusedVariables false
set_option linter.unusedSimpArgs false

theorem getD_sim {ρ : Ren} {ts cs : Array Value} (h : VRs ρ ts.toList cs.toList) (t : Nat) : VR ρ (ts.getD t undefV) (cs.getD t undef) := by
  have hl := h.length_eq
  simp only [Array.length_toList] at hl
  rw [Array.getD_eq_getD_getElem?, Array.getD_eq_getD_getElem?]
  by_cases ht : t < ts.size
  · obtain ⟨v', hv', hr⟩ := h.get t ts[t] (by simp [ht])
    have : cs[t]? = some v' := by simpa using hv'
    rw [this, Array.getElem?_eq_getElem ht]; exact hr
  · rw [Array.getElem?_eq_none (by omega), Array.getElem?_eq_none (by omega)]; exact .flat _ rfl
theorem evalT_sim {ρ : Ren} {ts : Array Value} {a : Act} (h : VRs ρ ts.toList a.tmps.toList) {x : Operand} (hx : noGlobalOp x = true) : VR ρ (evalT ts x) (a.eval x) := by
  cases x with
  | tmp t => exact getD_sim h t
  | const v => exact .flat v hx
  | global g => cases hx
  | func f => exact .flat _ rfl
theorem opsVR_of {ρ : Ren} {ts : Array Value} {a : Act} (h : VRs ρ ts.toList a.tmps.toList) {o : Oper} (ho : noGlobal o = true) : OpsVR ρ (evalT ts) a.eval o := by
  intro x hx
  refine evalT_sim h ?_
  simp only [noGlobal, Array.all_eq_true] at ho
  obtain ⟨i, hi, rfl⟩ := Array.mem_iff_getElem.1 hx
  exact ho i hi
theorem bool_back {ρ : Ren} {a : Value} {b : Bool} (h : VR ρ a (.bool b)) : a = .bool b := by cases h; rfl
theorem yielded_sim {ρ : Ren} {ops : Array Oper} {ts cs : Array Value} (h : VRs ρ ts.toList cs.toList) : yielded ops ts = yielded ops cs := by
  funext j
  unfold yielded
  cases hd : (ops[j]?).bind (·.dst) with
  | none => rfl
  | some d =>
    simp only [Option.bind_some]
    have hl := h.length_eq
    simp only [Array.length_toList] at hl
    by_cases hlt : d < ts.size
    · obtain ⟨v', hv', hr⟩ := h.get d ts[d] (by simp [hlt])
      have e1 : cs[d]? = some v' := by simpa using hv'
      have e2 : ts[d]? = some ts[d] := Array.getElem?_eq_getElem hlt
      rw [e1, e2]
      generalize ts[d] = u at hr
      cases hr with
      | flat _ hf => rfl
      | _ => rfl
    · have hle : ts.size ≤ d := Nat.le_of_not_lt hlt
      have e1 : cs[d]? = none := Array.getElem?_eq_none (by rw [hl]; exact hle)
      have e2 : ts[d]? = none := Array.getElem?_eq_none hle
      rw [e1, e2]
theorem put_sim {ρ : Ren} {ts : Array Value} {a : Act} (h : VRs ρ ts.toList a.tmps.toList) (dst : Option Tmp) {v cv : Value} (hv : VR ρ v cv) : VRs ρ (putT ts dst v).toList (a.put dst cv).tmps.toList := by
  cases dst with
  | none => exact h
  | some d =>
    simp only [putT, Act.put, Array.toList_setIfInBounds]
    exact h.set d hv
theorem put_defers (a : Act) (dst : Option Tmp) (v : Value) : (a.put dst v).defers = a.defers := by cases dst <;> rfl

theorem aops_sim {P : Program} {call : CallFn} (hs : SimCall P call) {ops : Array Oper} (hg : ops.all noGlobal = true) {B0 : Nat} {Q : Exit → Act → World → Prop} :
    ∀ (l : List Nat) (ts : Array Value) (H : Heap) (ts' : Array Value) (H' : Heap), aops P call ops l ts H = some (ts', H') →
    ∀ (ρ : Ren) (w : World) (a : Act), Rel B0 ρ H w → VRs ρ ts.toList a.tmps.toList →
      (∀ ρ' w' a', a'.defers = a.defers → Rel B0 ρ' H' w' → VRs ρ' ts'.toList a'.tmps.toList → Fut B0 ρ H w ρ' H' w' → Q .normal a' w') → wpOps P ops Q l a w := by
  intro l
  induction l with
  | nil =>
    intro ts H ts' H' h ρ w a r hv hQ
    simp only [aops, Option.some.injEq, Prod.mk.injEq] at h
    obtain ⟨rfl, rfl⟩ := h
    exact hQ ρ w a rfl r hv (Fut.refl _ _ _ _)
  | cons i rest ih =>
    intro ts H ts' H' h ρ w a r hv hQ
    rw [wpOps_cons]
    simp only [aops] at h
    unfold wpOp
    cases ho : ops[i]? with
    | none => rw [ho] at h; cases h
    | some o =>
      simp only [ho] at h ⊢
      have hgo : noGlobal o = true := by
        simp only [Array.all_eq_true] at hg
        obtain ⟨hi, e⟩ := Array.getElem?_eq_some_iff.1 ho
        rw [← e]; exact hg i hi
      rw [yielded_sim hv] at h
      split
      · rename_i hw
        rw [if_pos hw] at h
        cases hst : astep P call (evalT ts) o H with
        | none => rw [hst] at h; cases h
        | some vh =>
          obtain ⟨v, H1⟩ := vh
          rw [hst] at h
          simp only at h
          left
          refine step_sim hs hst r (opsVR_of hv hgo) fun ρ' w' cv hvr hrel hfut => ?_
          refine ih _ _ _ _ h ρ' w' _ hrel (put_sim (VRs.mono (hfut.le r) hv) o.dst hvr) fun ρ'' w'' a' hd hr' hv' hf' => ?_
          exact hQ ρ'' w'' a' (by rw [hd, put_defers]) hr' hv' (hfut.trans hf')
      · rename_i hw
        rw [if_neg hw] at h
        refine ih _ _ _ _ h ρ w _ r (put_sim hv o.dst (.flat _ rfl)) fun ρ'' w'' a' hd hr' hv' hf' => ?_
        exact hQ ρ'' w'' a' (by rw [hd, put_defers]) hr' hv' hf'
end Go.Abs
