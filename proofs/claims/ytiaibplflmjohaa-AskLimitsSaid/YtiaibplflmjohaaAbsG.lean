/- The abstract machine: quiet operations beside the model's. -/
import Derived.Test.YtiaibplflmjohaaAbsF
set_option linter.unusedVariables false
set_option linter.unusedSimpArgs false
namespace Go.Abs
open Go Go.RowKit
set_option linter.unusedVariables false
set_option linter.unusedSimpArgs false

theorem purely_run' {P : Program} {α : Type} {s : Sem α} {a : α} (w : World) (h : purely P s = some a) : s.run P w = .ok a w := purely_run w s a h

theorem flatRes_some {x : Option Value} {v : Value} (h : flatRes x = some v) : x = some v ∧ flat v = true := by
  unfold flatRes at h
  cases x with
  | none => cases h
  | some u =>
    simp only [Option.bind_some] at h
    split at h
    · rename_i hf; injection h with h; subst h; exact ⟨rfl, hf⟩
    · cases h

/-- What a run of a value gives to an operation. -/
def GivesV (P : Program) (s : Sem Next) (ρ : Ren) (v : Value) : Prop := ∀ w : World, ∃ cv, s.run P w = .ok (.value cv) w ∧ VR ρ v cv

theorem givesV_of {P : Program} {s : Sem Value} {ρ : Ren} {v : Value} (h : ∀ w : World, ∃ cv, s.run P w = .ok cv w ∧ VR ρ v cv) : GivesV P (do pure (.value (← s))) ρ v := by
  intro w
  obtain ⟨cv, h1, h2⟩ := h w
  exact ⟨cv, by simp [h1], h2⟩

theorem pick_sim {P : Program} {ρ : Ren} {a b : Value} {c' a' b' : Value} {v : Value} {t : Bool} (hc : VR ρ (.bool t) c') (ha : VR ρ a a') (hb : VR ρ b b')
    (h : (if t then a else b) = v) : GivesV P (do pure (.value (if ← asBool c' then a' else b'))) ρ v := by
  have := hc.bool_inv; subst this
  intro w
  refine ⟨if t then a' else b', by cases t <;> simp [asBool], ?_⟩
  subst h
  cases t <;> simp [ha, hb]

theorem nilCheck_sim {P : Program} {ρ : Ren} {x x' : Value} (hx : VR ρ x x') (h : nonNil x = true) {o : Oper} {y : Operand} {cev : Operand → Value} (ho : o.op = .nilCheck y) (he : cev y = x') : GivesV P (execOp cev o) ρ x := by
  intro w
  refine ⟨x', ?_, hx⟩
  unfold execOp
  rw [ho]
  simp only [he]
  cases x <;> simp [nonNil] at h
  case pointer a =>
    cases a with
    | none => simp at h
    | some a =>
      obtain ⟨b, o, s⟩ := a
      cases hx with
      | flat _ hf => simp [Abs.flat] at hf
      | ptr => rfl
  case func fn f c =>
    obtain ⟨b, d, rfl, _, _⟩ := hx.func_inv
    cases fn <;> simp at h
    rfl
  case iface t v =>
    obtain ⟨v', rfl, _⟩ := hx.iface_inv
    rfl

theorem equal_one (t : TypeId) (x y : Value) : Op.equal t x y = Op.equalIn (9999 + 1) t x y := rfl
theorem nilEq_sim {P : Program} {ρ : Ren} {t : TypeId} {a b a' b' : Value} {r : Bool} (ha : VR ρ a a') (hb : VR ρ b b') (h : nilEq P t a b = some r) (x y : Operand) (op : BinOp) (w : World) :
    (eqGuard op t x y a' b').run P w = .ok () w ∧ (Op.equal t a' b').run P w = .ok r w ∧ (∀ k n, a' ≠ .int k n) ∧ (∀ k n, a' ≠ .float k n) ∧ (∀ k n m, a' ≠ .complex k n m) ∧ (∀ s, a' ≠ .string s) := by
  unfold nilEq at h
  split at h
  all_goals first
    | cases h
    | skip
  all_goals rename_i hu
  · have e : a' = _ := ha.flat_eq rfl
    subst e
    rename_i n c ad m d
    obtain ⟨bb, oo, ss⟩ := ad
    cases hb with
    | flat _ hf => simp [Abs.flat] at hf
    | slice => exact ⟨by cases op <;> rfl, by rw [equal_one]; unfold Op.equalIn; simp only [Sem.run_bind, run_under hu, Result.andThen_ok, Option.isNone]; first | rfl | simp, by simp, by simp, by simp, by simp⟩
  · have e : b' = _ := hb.flat_eq rfl
    subst e
    rename_i ad n c m d
    obtain ⟨bb, oo, ss⟩ := ad
    cases ha with
    | flat _ hf => simp [Abs.flat] at hf
    | slice => exact ⟨by cases op <;> rfl, by rw [equal_one]; unfold Op.equalIn; simp only [Sem.run_bind, run_under hu, Result.andThen_ok, Option.isNone]; first | rfl | simp, by simp, by simp, by simp, by simp⟩
  · have e : a' = _ := ha.flat_eq rfl
    subst e
    rename_i ad
    obtain ⟨bb, oo, ss⟩ := ad
    cases hb with
    | flat _ hf => simp [Abs.flat] at hf
    | ptr => exact ⟨by cases op <;> rfl, by rw [equal_one]; unfold Op.equalIn; simp only [Sem.run_bind, run_under hu, Result.andThen_ok, Option.isNone]; first | rfl | simp, by simp, by simp, by simp, by simp⟩
  · have e : b' = _ := hb.flat_eq rfl
    subst e
    rename_i ad
    obtain ⟨bb, oo, ss⟩ := ad
    cases ha with
    | flat _ hf => simp [Abs.flat] at hf
    | ptr => exact ⟨by cases op <;> rfl, by rw [equal_one]; unfold Op.equalIn; simp only [Sem.run_bind, run_under hu, Result.andThen_ok, Option.isNone]; first | rfl | simp, by simp, by simp, by simp, by simp⟩
  · have e : a' = _ := ha.flat_eq rfl
    subst e
    obtain ⟨L, _, rfl⟩ := hb.map_inv
    exact ⟨by cases op <;> rfl, by rw [equal_one]; unfold Op.equalIn; simp only [Sem.run_bind, run_under hu, Result.andThen_ok, Option.isNone]; first | rfl | simp, by simp, by simp, by simp, by simp⟩
  · have e : b' = _ := hb.flat_eq rfl
    subst e
    obtain ⟨L, _, rfl⟩ := ha.map_inv
    exact ⟨by cases op <;> rfl, by rw [equal_one]; unfold Op.equalIn; simp only [Sem.run_bind, run_under hu, Result.andThen_ok, Option.isNone]; first | rfl | simp, by simp, by simp, by simp, by simp⟩
  · have e : a' = _ := ha.flat_eq rfl
    subst e
    obtain ⟨f, g, rfl, _, _⟩ := hb.func_inv
    exact ⟨by cases op <;> rfl, by rw [equal_one]; unfold Op.equalIn; simp only [Sem.run_bind, run_under hu, Result.andThen_ok, Option.isNone]; first | rfl | simp, by simp, by simp, by simp, by simp⟩
  · have e : b' = _ := hb.flat_eq rfl
    subst e
    obtain ⟨f, g, rfl, _, _⟩ := ha.func_inv
    exact ⟨by cases op <;> rfl, by rw [equal_one]; unfold Op.equalIn; simp only [Sem.run_bind, run_under hu, Result.andThen_ok, Option.isNone]; first | rfl | simp, by simp, by simp, by simp, by simp⟩
  · have e : a' = _ := ha.flat_eq rfl
    subst e
    obtain ⟨f, rfl, _⟩ := hb.iface_inv
    exact ⟨by cases op <;> rfl, by rw [equal_one]; unfold Op.equalIn; simp only [Sem.run_bind, run_under hu, Result.andThen_ok, Option.isNone]; first | rfl | simp, by simp, by simp, by simp, by simp⟩
  · have e : b' = _ := hb.flat_eq rfl
    subst e
    obtain ⟨f, rfl, _⟩ := ha.iface_inv
    exact ⟨by cases op <;> rfl, by rw [equal_one]; unfold Op.equalIn; simp only [Sem.run_bind, run_under hu, Result.andThen_ok, Option.isNone]; first | rfl | simp, by simp, by simp, by simp, by simp⟩
end Go.Abs
