/- The abstract machine: quiet operations, in one theorem. -/
import Derived.Test.YtiaibplflmjohaaAbsH
set_option linter.unusedVariables false
set_option linter.unusedSimpArgs false
namespace Go.Abs
open Go Go.RowKit
set_option linter.unusedVariables false
set_option linter.unusedSimpArgs false

def OpsVR (ρ : Ren) (ev cev : Operand → Value) (o : Oper) : Prop := ∀ x ∈ o.op.operands, VR ρ (ev x) (cev x)

theorem exec_builtin (cev : Operand → Value) (o : Oper) (b : Builtin) (args : Array Operand) (ts : Array TypeId) (h : o.op = .call ⟨.builtin b, args, ts⟩) :
    execOp cev o = builtin b ts o.type (args.map fun | .const _ => true | _ => false) (args.map cev) := by
  unfold execOp; rw [h]; rfl

theorem parts_fst (parts : Array (Nat × Operand)) (f g : Operand → Value) : ((parts.map fun (i, x) => (i, f x)).toList).map (·.1) = ((parts.map fun (i, x) => (i, g x)).toList).map (·.1) := by
  simp [Function.comp_def]
theorem parts_snd {ρ : Ren} (parts : Array (Nat × Operand)) {f g : Operand → Value} (h : ∀ x ∈ (parts.toList.map (·.2)).toArray, VR ρ (f x) (g x)) : VRs ρ (((parts.map fun (i, x) => (i, f x)).toList).map (·.2)) (((parts.map fun (i, x) => (i, g x)).toList).map (·.2)) := by
  have := VRs_map (ρ := ρ) (parts.toList.map (·.2)).toArray h
  simpa [Function.comp_def] using this

theorem quiet_sim {P : Program} {ev : Operand → Value} {o : Oper} {H H' : Heap} {v : Value} (hk : kindOf o.op = .quiet) (h : aop P ev o H = some (.val v H')) :
    H' = H ∧ ∀ (ρ : Ren) (cev : Operand → Value), OpsVR ρ ev cev o → GivesV P (execOp cev o) ρ v := by
  obtain ⟨dst, op, type, pos, after, guard⟩ := o
  cases op <;> simp only [kindOf] at hk <;> try (cases hk)
  case move x =>
    simp only [aop, Option.some.injEq, ARes.val.injEq] at h; obtain ⟨rfl, rfl⟩ := h
    exact ⟨rfl, fun ρ cev hv w => ⟨cev x, rfl, hv x (by simp [Op.operands])⟩⟩
  case assign x =>
    simp only [aop, Option.some.injEq, ARes.val.injEq] at h; obtain ⟨rfl, rfl⟩ := h
    exact ⟨rfl, fun ρ cev hv w => ⟨cev x, rfl, hv x (by simp [Op.operands])⟩⟩
  case pick c a b =>
    simp only [aop] at h
    split at h
    · rename_i t ht
      injection h with h; injection h with h1 h2
      refine ⟨h2.symm, fun ρ cev hv => ?_⟩
      exact pick_sim (t := t) (by rw [← ht]; exact hv c (by simp [Op.operands])) (hv a (by simp [Op.operands])) (hv b (by simp [Op.operands])) h1
    · cases h
  case build t parts =>
    simp only [aop, Option.map_eq_some_iff] at h
    obtain ⟨c, hc, h⟩ := h
    injection h with h1 h2; subst h1; subst h2
    refine ⟨rfl, fun ρ cev hv => ?_⟩
    refine givesV_of fun w => ?_
    have := build_sim hc (parts_fst parts ev cev) (parts_snd (ρ := ρ) parts (f := ev) (g := cev) (fun x hx => hv x (by simpa [Op.operands] using hx))) w
    exact this
  case nilCheck x =>
    simp only [aop] at h
    split at h
    · rename_i hn
      injection h with h; injection h with h1 h2; subst h1; subst h2
      exact ⟨rfl, fun ρ cev hv => nilCheck_sim (hv x (by simp [Op.operands])) hn (o := ⟨dst, .nilCheck x, type, pos, after, guard⟩) rfl rfl⟩
    · cases h
  case binOp op t x y yt =>
    simp only [aop, Option.map_eq_some_iff] at h
    obtain ⟨c, hc, h⟩ := h
    injection h with h1 h2; subst h1; subst h2
    refine ⟨rfl, fun ρ cev hv => ?_⟩
    have hx := hv x (by simp [Op.operands])
    have hy := hv y (by simp [Op.operands])
    unfold abin at hc
    split at hc
    · rename_i hf
      simp only [Bool.and_eq_true] at hf
      obtain ⟨hp, hfl⟩ := flatRes_some hc
      refine givesV_of fun w => ⟨c, ?_, .flat _ hfl⟩
      rw [hx.flat_eq hf.1, hy.flat_eq hf.2]
      exact purely_run' w hp
    · split at hc
      · rename_i r hr
        injection hc with hc; subst hc
        refine givesV_of fun w => ⟨_, ?_, .flat _ rfl⟩
        obtain ⟨h1, h2, n1, n2, n3, n4⟩ := nilEq_sim hx hy hr x y .eql w
        simp only [Sem.run_bind, h1, Result.andThen_ok]
        have : Go.binOp .eql t (cev x) (cev y) = (do pure (.bool (← Op.equal t (cev x) (cev y)))) := by
          unfold Go.binOp
          split <;> first | rfl | (exfalso; simp_all; done)
        rw [this]; simp [h2]
      · rename_i r hr
        injection hc with hc; subst hc
        refine givesV_of fun w => ⟨_, ?_, .flat _ rfl⟩
        obtain ⟨h1, h2, n1, n2, n3, n4⟩ := nilEq_sim hx hy hr x y .neq w
        simp only [Sem.run_bind, h1, Result.andThen_ok]
        have : Go.binOp .neq t (cev x) (cev y) = (do pure (.bool (!(← Op.equal t (cev x) (cev y))))) := by
          unfold Go.binOp
          split <;> first | rfl | (exfalso; simp_all; done)
        rw [this]; simp [h2]
      · cases hc
  case unOp op t x =>
    simp only [aop] at h
    split at h
    · rename_i hf
      simp only [Option.map_eq_some_iff] at h
      obtain ⟨c, hc, h⟩ := h
      injection h with h1 h2; subst h1; subst h2
      refine ⟨rfl, fun ρ cev hv => ?_⟩
      obtain ⟨hp, hfl⟩ := flatRes_some hc
      refine givesV_of fun w => ⟨c, ?_, .flat _ hfl⟩
      rw [(hv x (by simp [Op.operands])).flat_eq hf]
      exact purely_run' w hp
    · cases h
  case makeInterface t x =>
    simp only [aop] at h
    split at h
    · rename_i hn
      injection h with h; injection h with h1 h2; subst h1; subst h2
      refine ⟨rfl, fun ρ cev hv => givesV_of fun w => ⟨.iface t (cev x), ?_, .iface _ _ _ (hv x (by simp [Op.operands]))⟩⟩
      unfold notIface at hn
      unfold Instr.makeInterface
      cases hu : P.underlying t with
      | none => simp [hu] at hn
      | some d => cases d <;> simp [hu] at hn <;> simp [run_under hu]
    · cases h
  case makeFunc fn first captured =>
    simp only [aop, Option.some.injEq, ARes.val.injEq] at h; obtain ⟨rfl, rfl⟩ := h
    refine ⟨rfl, fun ρ cev hv w => ⟨.func fn (first.map cev) (captured.map cev), rfl, ?_⟩⟩
    have h1 := VRs_map (ρ := ρ) first (ev := ev) (cev := cev) fun x hx => hv x (by simp [Op.operands, hx])
    have h2 := VRs_map (ρ := ρ) captured (ev := ev) (cev := cev) fun x hx => hv x (by simp [Op.operands, hx])
    exact VR.func fn _ _ _ _ h1 h2
  case fieldAddr s x f =>
    simp only [aop, Option.map_eq_some_iff] at h
    obtain ⟨c, hc, h⟩ := h
    injection h with h1 h2; subst h1; subst h2
    exact ⟨rfl, fun ρ cev hv => givesV_of fun w => fieldAddr_sim hc (hv x (by simp [Op.operands])) w⟩
  case field t x f =>
    simp only [aop, Option.map_eq_some_iff] at h
    obtain ⟨c, hc, h⟩ := h
    injection h with h1 h2; subst h1; subst h2
    exact ⟨rfl, fun ρ cev hv => givesV_of fun w => field_sim hc (hv x (by simp [Op.operands])) w⟩
  case indexAddr t x ix =>
    simp only [aop, Option.map_eq_some_iff] at h
    obtain ⟨c, hc, h⟩ := h
    injection h with h1 h2; subst h1; subst h2
    exact ⟨rfl, fun ρ cev hv => givesV_of fun w => indexAddr_sim hc (hv x (by simp [Op.operands])) (hv ix (by simp [Op.operands])) w⟩
  case index t x ix =>
    simp only [aop, Option.map_eq_some_iff] at h
    obtain ⟨c, hc, h⟩ := h
    injection h with h1 h2; subst h1; subst h2
    exact ⟨rfl, fun ρ cev hv => givesV_of fun w => index_sim hc (hv x (by simp [Op.operands])) (hv ix (by simp [Op.operands])) w⟩
  case extract x ix =>
    simp only [aop] at h
    split at h
    · rename_i vs hvs
      simp only [Option.map_eq_some_iff] at h
      obtain ⟨c, hc, h⟩ := h
      injection h with h1 h2; subst h1; subst h2
      refine ⟨rfl, fun ρ cev hv => givesV_of fun w => ?_⟩
      have hx := hv x (by simp [Op.operands])
      rw [hvs] at hx
      obtain ⟨b, hb, hs⟩ := hx.tuple_inv
      obtain ⟨v', hv', hr⟩ := hs.get ix c (by simpa using hc)
      refine ⟨v', ?_, hr⟩
      have hv2 : b[ix]? = some v' := by simpa using hv'
      simp [Instr.extract, hb, hv2]
    · cases h
  case call c =>
    obtain ⟨callee, args, ts⟩ := c
    cases callee with
    | value f => simp [kindOf] at hk
    | invoke r n => simp [kindOf] at hk
    | builtin b =>
      cases b <;> simp [kindOf] at hk
      case max =>
        simp only [aop] at h
        split at h
        · rename_i hf
          simp only [Option.map_eq_some_iff] at h
          obtain ⟨c, hc, h⟩ := h
          injection h with h1 h2; subst h1; subst h2
          refine ⟨rfl, fun ρ cev hv => ?_⟩
          obtain ⟨hp, hfl⟩ := flatRes_some hc
          rw [exec_builtin cev _ .max args ts rfl]
          refine givesV_of (s := Builtin.max_ _ _ _) fun w => ⟨c, ?_, .flat _ hfl⟩
          have e : args.map cev = args.map ev := Array.map_congr_left fun x hx => (hv x (by simp [Op.operands, Call.operands, hx])).flat_eq (by
            simp only [List.all_eq_true] at hf
            exact hf _ (by simpa using ⟨x, hx, rfl⟩))
          rw [e]
          exact purely_run' w hp
        · cases h
      case min =>
        simp only [aop] at h
        split at h
        · rename_i hf
          simp only [Option.map_eq_some_iff] at h
          obtain ⟨c, hc, h⟩ := h
          injection h with h1 h2; subst h1; subst h2
          refine ⟨rfl, fun ρ cev hv => ?_⟩
          obtain ⟨hp, hfl⟩ := flatRes_some hc
          rw [exec_builtin cev _ .min args ts rfl]
          refine givesV_of (s := Builtin.min_ _ _ _) fun w => ⟨c, ?_, .flat _ hfl⟩
          have e : args.map cev = args.map ev := Array.map_congr_left fun x hx => (hv x (by simp [Op.operands, Call.operands, hx])).flat_eq (by
            simp only [List.all_eq_true] at hf
            exact hf _ (by simpa using ⟨x, hx, rfl⟩))
          rw [e]
          exact purely_run' w hp
        · cases h
  all_goals (simp [aop] at h)
end Go.Abs
