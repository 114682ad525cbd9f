/- The abstract machine: calls and regions in the text's order, beside the model's. -/
import Derived.Test.YtiaibplflmjohaaAbsP
set_option linter.unusedVariables false
set_option linter.unusedSimpArgs false
namespace Go.Abs
open Go Go.RowKit
set_option linter.unusedVariables false
set_option linter.unusedSimpArgs false

def CallOk (P : Program) (f : FuncId) : Prop := ∃ fn, P.funcs[f]? = some fn ∧ callable fn = true

theorem callFunc_run {P : Program} {f : FuncId} (h : CallOk P f) (args : Array Value) (w : World) : (callFunc f args).run P w = .ok (.enter f args) w := by
  obtain ⟨fn, hf, hc⟩ := h
  unfold callable at hc
  simp only [Bool.and_eq_true, bne_iff_ne, ne_eq] at hc
  obtain ⟨h1, h2⟩ := hc
  have hb : fn.body.isNone = false := by
    cases hb : fn.body with
    | none => rw [hb] at h2; cases h2
    | some c => rfl
  have hb' : fn.body ≠ none := by intro e; rw [e] at hb; cases hb
  simp [callFunc, hf, h1, hb']

theorem call_sim {P : Program} {ev : Operand → Value} {o : Oper} {H : Heap} {f : FuncId} {args : Array Value} (h : aop P ev o H = some (.call f args)) (hc : CallOk P f) :
    kindOf o.op = .eff ∧ ∀ (ρ : Ren) (cev : Operand → Value), OpsVR ρ ev cev o → ∃ cargs : Array Value, VRs ρ args.toList cargs.toList ∧ ∀ w, (execOp cev o).run P w = .ok (.enter f cargs) w := by
  obtain ⟨dst, op, type, pos, after, guard⟩ := o
  cases op
  case call c =>
    obtain ⟨callee, xs, ts⟩ := c
    cases callee with
    | builtin b =>
      exfalso
      cases b <;> simp only [aop, Option.map_eq_some_iff] at h <;> (repeat' split at h) <;> simp at h
    | value g =>
      refine ⟨rfl, fun ρ cev hv => ?_⟩
      have hargs : VRs ρ (xs.map ev).toList (xs.map cev).toList := VRs_map xs fun x hx => hv x (by simp [Op.operands, Call.operands, hx])
      have hg := hv g (by simp [Op.operands, Call.operands])
      simp only [aop] at h
      split at h
      · rename_i f' first captured hfe
        injection h with h; injection h with h1 h2; subst h1; subst h2
        rw [hfe] at hg
        obtain ⟨b, d, he, k1, k2⟩ := hg.func_inv
        refine ⟨(b ++ xs.map cev) ++ d, ?_, fun w => ?_⟩
        · simp only [Array.toList_append]
          exact (k1.append hargs).append k2
        · simp [execOp, resolve, he, Deferred.ofValue, invoke, callFunc_run hc]
      · cases h
    | invoke rc name =>
      refine ⟨rfl, fun ρ cev hv => ?_⟩
      have hargs : VRs ρ (xs.map ev).toList (xs.map cev).toList := VRs_map xs fun x hx => hv x (by simp [Op.operands, Call.operands, hx])
      have hr := hv rc (by simp [Op.operands, Call.operands])
      simp only [aop] at h
      split at h
      · rename_i t v hre
        simp only [Option.map_eq_some_iff] at h
        obtain ⟨f', hm, h⟩ := h
        injection h with h1 h2; subst h1; subst h2
        rw [hre] at hr
        obtain ⟨v', he, hvv⟩ := hr.iface_inv
        refine ⟨#[v'] ++ xs.map cev, ?_, fun w => ?_⟩
        · simp only [Array.toList_append]
          exact VRs.append (.cons _ _ _ _ hvv .nil) hargs
        · have hext : (#[Value.iface t v'] ++ xs.map cev).extract 1 (#[Value.iface t v'] ++ xs.map cev).size = xs.map cev := by
            apply Array.toList_inj.1
            simp
            rw [List.take_of_length_le (by simp)]
          have h0 : (#[Value.iface t v'] ++ xs.map cev)[0]? = some (.iface t v') := by rw [Array.getElem?_append_left (Nat.zero_lt_one)]; rfl
          unfold methodT at hm
          split at hm
          · rename_i info hi
            split at hi
            · cases hi
            · rename_i hne
              split at hm
              · rename_i m hfind
                split at hm
                · rename_i f2 pr hp hfn
                  obtain ⟨n, hn⟩ : ∃ n, P.types.size + Made.depth = n + 1 := ⟨P.types.size + Made.depth - 1, by omega⟩
                  have hmeth : ∀ f3, f2 = f3 → (∃ d, P.underlying t = some d ∧ ((∃ e, d = .pointer e) ↔ pr = true)) → (method (P.types.size + Made.depth) t v' name).run P w = .ok (f3, v') w := by
                    intro f3 e3 hd
                    subst e3
                    obtain ⟨d, hd, hiff⟩ := hd
                    rw [hn]
                    unfold method
                    simp only [Sem.run_bind, run_info hi, Result.andThen_ok, hfind, hp, follow, Sem.run_pure, hfn]
                    have hra : ∀ wr, (receiverAt t (.val v') pr wr).run P w = .ok v' w := by
                      intro wr
                      unfold receiverAt
                      simp only [Sem.run_bind, run_under hd, Result.andThen_ok]
                      cases pr with
                      | true =>
                        obtain ⟨e, rfl⟩ := hiff.2 rfl
                        rfl
                      | false =>
                        cases d <;> first
                          | rfl
                          | (exact absurd (hiff.1 ⟨_, rfl⟩) (by simp))
                    simp [hra]
                  have hgo : (method (P.types.size + Made.depth) t v' name).run P w = .ok (f', v') w := by
                    cases hu : P.underlying t with
                    | none => simp [hu] at hm
                    | some d =>
                      rw [hu] at hm
                      refine hmeth f' ?_ ⟨d, hu, ?_⟩
                      · cases d <;> cases pr <;> simp at hm <;> exact hm
                      · cases d <;> cases pr <;> simp at hm <;> simp
                  simp only [execOp, resolve, he, Sem.run_bind, Sem.run_pure, Result.andThen_ok, invoke, h0, hext, callMethod, run_program, hgo, callFunc_run hc]
                · cases hm
              · cases hm
          · cases hm
      · cases h
  all_goals
    exfalso
    simp only [aop, Option.map_eq_some_iff] at h
    repeat' split at h
    all_goals simp at h

/-- What a call tells of the model's. -/
def SimCall (P : Program) (call : CallFn) : Prop :=
  ∀ (f : FuncId) (args : Array Value) (H : Heap) (v : Value) (H' : Heap), call f args H = some (v, H') → CallOk P f ∧ H.n ≤ H'.n ∧
    ∀ (B0 : Nat) (ρ : Ren) (w : World) (cargs : Array Value), Rel B0 ρ H w → VRs ρ args.toList cargs.toList →
      Calls P f cargs w fun e w' => ∃ ρ' cv, e = .returned cv ∧ VR ρ' v cv ∧ Rel B0 ρ' H' w' ∧ Fut B0 ρ H w ρ' H' w'

/-- One operation, beside the model's. -/
theorem step_sim {P : Program} {call : CallFn} (hs : SimCall P call) {ev : Operand → Value} {o : Oper} {H H' : Heap} {v : Value} (h : astep P call ev o H = some (v, H'))
    {B0 : Nat} {ρ : Ren} {w : World} {a : Act} (r : Rel B0 ρ H w) (hv : OpsVR ρ ev a.eval o) {Q : Exit → Act → World → Prop} {K : Act → World → Prop}
    (hK : ∀ ρ' w' cv, VR ρ' v cv → Rel B0 ρ' H' w' → Fut B0 ρ H w ρ' H' w' → K (a.put o.dst cv) w') : o.wp P a w K Q := by
  unfold astep at h
  split at h
  · rename_i u H1 hop
    injection h with h; injection h with h1 h2; subst h1; subst h2
    unfold Oper.wp
    cases hk : kindOf o.op with
    | quiet =>
      obtain ⟨rfl, hq⟩ := quiet_sim hk hop
      obtain ⟨cv, g1, g2⟩ := hq ρ a.eval hv w
      rw [g1]
      exact hK ρ w cv g2 r (Fut.refl _ _ _ _)
    | read =>
      obtain ⟨rfl, hq⟩ := read_sim hk hop
      obtain ⟨cv, g1, g2⟩ := hq B0 ρ w a.eval r hv
      rw [g1]
      exact hK ρ w cv g2 r (Fut.refl _ _ _ _)
    | make =>
      obtain ⟨b, rfl, hm⟩ := make_sim hk hop
      have hno : ρ H.n = none := by
        cases h : ρ H.n with
        | none => rfl
        | some L => have := (r.dom _ L h).1; omega
      obtain ⟨cv, w', L, g1, g2, g3, g4⟩ := hm (H.push b) B0 ρ w a.eval (r.late b) (by simp) hno (get_push_self _ _) hv
      rw [g1]
      exact hK _ w' cv g2 g3 (fut_new g4)
    | eff =>
      obtain ⟨ρ', w', cv, g1, g2, g3, g4⟩ := eff_sim hk hop r hv
      rcases g1 with g1 | ⟨g1, rfl⟩
      · rw [g1]; exact hK ρ' w' cv g2 g3 g4
      · rw [g1]; exact hK ρ' w' undefV g2 g3 g4
  · rename_i f args hop
    obtain ⟨hok, _, hcall⟩ := hs f args H v H' h
    obtain ⟨hke, hc⟩ := call_sim hop hok
    obtain ⟨cargs, g1, g2⟩ := hc ρ a.eval hv
    unfold Oper.wp
    rw [g2 w]
    refine (hcall B0 ρ w cargs r g1).mono ?_
    rintro e w' ⟨ρ', cv, rfl, k1, k2, k3⟩
    exact hK ρ' w' cv k1 k2 k3
  · cases h
end Go.Abs
