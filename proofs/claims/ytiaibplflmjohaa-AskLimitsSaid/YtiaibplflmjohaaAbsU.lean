/- The abstract machine: a region that draws its order, beside the model's. -/
import Derived.Test.YtiaibplflmjohaaAbsT
set_option linter.unusedVariables false
set_option linter.unusedSimpArgs false
namespace Go.Abs
open Go Go.RowKit
set_option linter.unusedVariables false
set_option linter.unusedSimpArgs false

theorem agrow_n {elem size len n : Nat} {base : Option Addr} {cap : Nat} {xs : List Value} {H H' : Heap} {v : Value} (h : agrow elem size len n base cap xs H = some (v, H')) : H.n ≤ H'.n := by
  unfold agrow at h
  (repeat' split at h) <;> first
    | (cases h; done)
    | (injection h with h; injection h with h1 h2; subst h2; simp; done)
    | (simp only [Option.map_eq_some_iff] at h
       obtain ⟨H1, hs, h⟩ := h
       injection h with h1 h2; subst h2
       first
         | (simp; done)
         | (unfold astoreAt at hs; (repeat' split at hs) <;> first | (cases hs; done) | (injection hs with hs; subst hs; simp)))
theorem astoreAt_n {id off : Nat} {vs : List Value} {H H' : Heap} (h : astoreAt id off vs H = some H') : H.n ≤ H'.n := by
  unfold astoreAt at h
  (repeat' split at h) <;> first | (cases h; done) | (injection h with h; subst h; simp)
theorem eff_n {P : Program} {ev : Operand → Value} {o : Oper} {H H' : Heap} {v : Value} (hk : kindOf o.op = .eff) (h : aop P ev o H = some (.val v H')) : H.n ≤ H'.n := by
    obtain ⟨dst, op, type, pos, after, guard⟩ := o
    cases op <;> simp only [kindOf] at hk <;> try (cases hk)
    case store t a x =>
      simp only [aop, Option.map_eq_some_iff] at h
      obtain ⟨H1, hs, h⟩ := h
      injection h with h1 h2; subst h2
      unfold astore at hs
      (repeat' split at hs) <;> first | (cases hs; done) | exact astoreAt_n hs
    case mapUpdate t m k x =>
      simp only [aop, Option.map_eq_some_iff] at h
      obtain ⟨H1, hs, h⟩ := h
      injection h with h1 h2; subst h2
      unfold aupdate at hs
      (repeat' split at hs) <;> first | (cases hs; done) | (injection hs with hs; subst hs; simp)
    case insert t m k x =>
      simp only [aop, Option.map_eq_some_iff] at h
      obtain ⟨H1, hs, h⟩ := h
      injection h with h1 h2; subst h2
      unfold aupdate at hs
      (repeat' split at hs) <;> first | (cases hs; done) | (injection hs with hs; subst hs; simp)
    case call c =>
      obtain ⟨callee, args, ts⟩ := c
      cases callee with
      | value f => simp only [aop] at h; split at h <;> simp at h
      | invoke rc name => simp only [aop] at h; split at h <;> simp at h
      | builtin b =>
        cases b
        case append =>
          simp only [aop, Option.map_eq_some_iff] at h
          obtain ⟨⟨u, H1⟩, hs, h⟩ := h
          injection h with h1 h2; subst h2
          unfold aappend at hs
          (repeat' split at hs) <;> first | (cases hs; done) | exact agrow_n hs
        case copy =>
          simp only [aop, Option.map_eq_some_iff] at h
          obtain ⟨⟨u, H1⟩, hs, h⟩ := h
          injection h with h1 h2; subst h2
          unfold acopy at hs
          (repeat' split at hs) <;> first
            | (cases hs; done)
            | (injection hs with hs; injection hs with h1 h2; subst h2; exact Nat.le_refl _)
            | (simp only [Option.map_eq_some_iff] at hs
               obtain ⟨H2, hs, h⟩ := hs
               injection h with h1 h2; subst h2
               exact astoreAt_n hs)
        all_goals first
          | (simp at hk; done)
          | (simp [aop] at h; done)
theorem aop_n {P : Program} {ev : Operand → Value} {o : Oper} {H H' : Heap} {v : Value} (h : aop P ev o H = some (.val v H')) : H.n ≤ H'.n := by
  cases hk : kindOf o.op with
  | quiet => rw [(quiet_sim hk h).1]; exact Nat.le_refl _
  | read => rw [(read_sim hk h).1]; exact Nat.le_refl _
  | make => obtain ⟨b, e, _⟩ := make_sim hk h; rw [e]; simp
  | eff => exact eff_n hk h
theorem astep_n {P : Program} {call : CallFn} (hs : SimCall P call) {ev : Operand → Value} {o : Oper} {H H' : Heap} {v : Value} (h : astep P call ev o H = some (v, H')) : H.n ≤ H'.n := by
  unfold astep at h
  split at h
  · rename_i u H1 hop; injection h with h; injection h with h1 h2; subst h2; exact aop_n hop
  · exact (hs _ _ _ _ _ h).2.1
  · cases h
theorem astep_noneff {P : Program} {call : CallFn} (hs : SimCall P call) {ev : Operand → Value} {o : Oper} {H H' : Heap} {v : Value} (hk : kindOf o.op ≠ .eff) (h : astep P call ev o H = some (v, H')) : aop P ev o H = some (.val v H') := by
  unfold astep at h
  split at h
  · rename_i u H1 hop; injection h with h; injection h with h1 h2; subst h1; subst h2; exact hop
  · rename_i f args hop; exact absurd (call_sim hop (hs _ _ _ _ _ h).1).1 hk
  · cases h

/-- One step of a run. -/
def StepF (P : Program) (call : CallFn) (ops : Array Oper) (up : Nat → Nat) (s s' : DS) (i : Nat) (o : Oper) (v : Value) : Prop :=
  s'.ts = putT s.ts o.dst v ∧ s'.m = (if kindOf o.op = .eff then s.m + 1 else s.m) ∧
  ((Region.wanted o (yielded ops s.ts) = true ∧ astep P call (evalT s.ts) o s.H = some (v, s'.H) ∧ (kindOf o.op = .eff → heldOk (s.m + 1) s'.H s.hs = true) ∧
     s'.hs = (if kindOf o.op = .read ∧ up i ≠ s.m then ⟨up i, fun H => valOf (aop P (evalT s.ts) o H), v⟩ :: s.hs else s.hs)) ∨
   (Region.wanted o (yielded ops s.ts) = false ∧ v = undefV ∧ s'.H = s.H ∧ s'.hs = s.hs))

theorem dstep_spec {P : Program} {call : CallFn} {ops : Array Oper} {up : Nat → Nat} {s s' : DS} {i : Nat} {o : Oper} (ho : ops[i]? = some o) (h : dstep P call ops up s i = some s') : ∃ v, StepF P call ops up s s' i o v := by
  unfold dstep at h
  simp only [ho] at h
  split at h
  · rename_i hw
    split at h
    · rename_i v H' hst
      split at h
      · cases h
      · rename_i hb
        injection h with h; subst h
        refine ⟨v, rfl, rfl, .inl ⟨hw, hst, fun he => ?_, rfl⟩⟩
        cases hh : heldOk (s.m + 1) H' s.hs with
        | true => rfl
        | false => exact absurd ⟨he, hh⟩ hb
    · cases h
  · rename_i hw
    injection h with h; subst h
    exact ⟨undefV, rfl, rfl, .inr ⟨by simpa using hw, rfl, rfl, rfl⟩⟩

theorem count_one (n : Nat) (f g : Nat → Bool) (i : Nat) (hi : i < n) (h : f i = true) (h' : g i = false) (ho : ∀ j, j ≠ i → g j = f j) : (List.range n).countP f = (List.range n).countP g + 1 := by
  induction n with
  | zero => omega
  | succ n ih =>
    rw [List.range_succ, List.countP_append, List.countP_append]
    by_cases e : i = n
    · subst e
      have : (List.range i).countP f = (List.range i).countP g := by
        apply List.countP_congr
        intro j hj
        have : j < i := by simpa using hj
        rw [ho j (by omega)]
      simp [this, h, h']
    · have := ih (by omega)
      rw [this]
      simp only [List.countP_cons, List.countP_nil, ho n (Ne.symm e)]
      omega
end Go.Abs
