/- The abstract machine: effects, in one theorem. -/
import Derived.Test.YtiaibplflmjohaaAbsO
set_option linter.unusedVariables false
set_option linter.unusedSimpArgs false
namespace Go.Abs
open Go Go.RowKit
set_option linter.unusedVariables false
set_option linter.unusedSimpArgs false

theorem list2 {ρ : Ren} {l : List Value} {a b : Value} (h : VRs ρ [a, b] l) : ∃ a' b', l = [a', b'] ∧ VR ρ a a' ∧ VR ρ b b' := by
  cases h with
  | cons _ a' _ _ h1 h2 => cases h2 with
    | cons _ b' _ _ h3 h4 => cases h4 with
      | nil => exact ⟨a', b', rfl, h1, h3⟩

theorem append_sim {P : Program} {B0 : Nat} {ρ : Ren} {H H' : Heap} {w : World} (r : Rel B0 ρ H w) {ts : Array TypeId} {ty : TypeId} {args args' : Array Value} {v : Value} (h : aappend P ts args H = some (v, H')) (ha : VRs ρ args.toList args'.toList) :
    EffR P B0 ρ H w v H' (Builtin.append_ ts ty args') := by
  unfold aappend at h
  split at h
  · rename_i base len cap x sType xType hargs hts
    split at h
    · rename_i elem size bytes zeros hT hz
      split at h
      · rename_i n xs z hnew hzt
        split at h
        · rename_i hc
          obtain ⟨c1, c2, c3, c4, c5, c6⟩ := hc
          rw [hargs] at ha
          obtain ⟨s', x', he, hs, hx⟩ := list2 ha
          have e1 : args' = #[s', x'] := by rw [← Array.toArray_toList (xs := args'), he]
          have e2 : ts = #[sType, xType] := by rw [← Array.toArray_toList (xs := ts), hts]
          subst e1; subst e2
          obtain ⟨inf, hu, hi, h1, h2⟩ := elemT_some hT
          simp only at hu hi h1 h2
          subst h1; subst h2
          obtain ⟨n1, n2, n3, n4⟩ := new_sim hi hnew hx c4
          exact agrow_sim r hu hi hz n1 c2 n2 n3 n4 hzt c1 c3 c5 c4 c6 hs h
        · cases h
      · cases h
    · cases h
  · cases h

theorem copy_sim {P : Program} {B0 : Nat} {ρ : Ren} {H H' : Heap} {w : World} (r : Rel B0 ρ H w) {ts : Array TypeId} {ty : TypeId} {args args' : Array Value} {v : Value} (h : acopy P ts args H = some (v, H')) (ha : VRs ρ args.toList args'.toList) :
    EffR P B0 ρ H w v H' (Builtin.copy_ ts ty args') := by
  unfold acopy at h
  split at h
  · rename_i base dLen cap x dType trest hargs hts
    rw [hargs] at ha
    obtain ⟨s', x', he, hs, hx⟩ := list2 ha
    have e1 : args' = #[s', x'] := by rw [← Array.toArray_toList (xs := args'), he]
    subst e1
    have e2 : ts[0]? = some dType := by rw [← Array.getElem?_toList, hts]; rfl
    split at h
    · rename_i elem size bytes m hT hl
      obtain ⟨inf, hu, hi, h1, h2⟩ := elemT_some hT
      simp only at hu hi h1 h2
      subst h1; subst h2
      split at h
      · rename_i xs hf
        split at h
        · rename_i hsc
          obtain ⟨cs, q1, q2, q3, q4⟩ := first_sim (P := P) r hf hx hl (Nat.min_le_left _ _)
          have g0 : (#[s', x'] : Array Value)[0]? = some s' := rfl
          have g1 : (#[s', x'] : Array Value)[1]? = some x' := rfl
          split at h
          · rename_i h0
            injection h with h; injection h with h1 h2; subst h1; subst h2; subst h0
            have hcs : cs = [] := by have := q2.length_eq; simpa using this
            subst hcs
            refine ⟨ρ, w, .int .i64 (Nat.min m dLen), ?_, .flat _ rfl, r, Fut.refl _ _ _ _⟩
            have hsl : ∃ b' cap', s' = .slice b' dLen cap' := by cases hs <;> exact ⟨_, _, rfl⟩
            obtain ⟨b', cap', rfl⟩ := hsl
            unfold Builtin.copy_
            simp only [e2, g0, g1, Sem.run_bind, run_under hu, Result.andThen_ok, Sem.run_pure, q3, run_size hi, q1]
            cases b' <;> simp [storeCells, goInt]
          · rename_i hxs
            split at h
            · rename_i id off
              simp only [Option.map_eq_some_iff] at h
              obtain ⟨H1, hst, h⟩ := h
              injection h with h1 h2; subst h1; subst h2
              obtain ⟨L, off', cap', hL, rfl, g1', g2', g3, g4, g5⟩ := hs.slice_inv
              have hne : 0 < Nat.min m dLen := by
                rcases Nat.eq_zero_or_pos (Nat.min m dLen) with h' | h'
                · rw [h'] at q4
                  exact absurd (List.eq_nil_of_length_eq_zero (by rw [q4]; simp)) hxs
                · exact h'
              have hdl : Nat.min m dLen ≤ dLen := Nat.min_le_right _ _
              have ho : off' = off := g3 (by omega)
              subst ho
              obtain ⟨k1, k2, k3⟩ := storeAt_sim (P := P) r hL hst q2
              refine ⟨ρ, _, .int .i64 (Nat.min m dLen), ?_, .flat _ rfl, k2, k3⟩
              unfold Builtin.copy_
              simp only [e2, g0, g1, Sem.run_bind, run_under hu, Result.andThen_ok, Sem.run_pure, q3, run_size hi, q1, k1]
              rfl
            · cases h
        · cases h
      · cases h
    · cases h
  · cases h

theorem MR.append {ρ : Ren} : ∀ {es : List (Value × Value)} {ms : List MapEntry}, MR ρ es ms → ∀ {k v : Value} {m : MapEntry}, VR ρ k m.key → VR ρ v m.val → MR ρ (es ++ [(k, v)]) (ms ++ [m])
  | _, _, .nil, k, v, m, h1, h2 => .cons k v m _ _ h1 h2 .nil
  | _, _, .cons k0 v0 m0 l ms g1 g2 g3, k, v, m, h1, h2 => .cons k0 v0 m0 _ _ g1 g2 (MR.append g3 h1 h2)
theorem MR.set {ρ : Ren} : ∀ {es : List (Value × Value)} {ms : List MapEntry}, MR ρ es ms → ∀ (i : Nat) {k v : Value} {m : MapEntry}, VR ρ k m.key → VR ρ v m.val → MR ρ (es.set i (k, v)) (ms.set i m)
  | _, _, .nil, i, k, v, m, h1, h2 => by simpa using .nil
  | _, _, .cons k0 v0 m0 l ms g1 g2 g3, 0, k, v, m, h1, h2 => .cons k v m _ _ h1 h2 g3
  | _, _, .cons k0 v0 m0 l ms g1 g2 g3, i + 1, k, v, m, h1, h2 => .cons k0 v0 m0 _ _ g1 g2 (MR.set g3 i h1 h2)

theorem update_sim {P : Program} {B0 : Nat} {ρ : Ren} {H H' : Heap} {w : World} (r : Rel B0 ρ H w) {t : TypeId} {x x' k k' v v' : Value} (h : aupdate P t x k v H = some H') (hx : VR ρ x x') (hk : VR ρ k k') (hv : VR ρ v v') :
    ∃ w', (Instr.mapUpdate t x' k' v').run P w = .ok () w' ∧ Rel B0 ρ H' w' ∧ Fut B0 ρ H w ρ H' w' := by
  unfold aupdate at h
  split at h
  · rename_i id
    obtain ⟨L, hL, rfl⟩ := hx.map_inv
    split at h
    · rename_i es hb
      obtain ⟨hlow, ms, cl, hm, hr⟩ := r.maps id L es hL hb
      cases hT : mapT P t with
      | none => simp [hT] at h
      | some y =>
        obtain ⟨key, elem⟩ := y
        simp only [hT] at h
        have hu := mapT_some hT
        simp only at hu
        have hg : (getObj L.cb).run P w = .ok (.map ms cl) w := by simp [getObj, Sem.run, hm]
        have hset : ∀ o, (setObj L.cb o).run P w = .ok () { w with heap := w.heap.setIfInBounds L.cb o } := by intro o; simp [setObj, Sem.run, hm]
        have hfut : ∀ b ms' cl', Fut B0 ρ H w ρ (H.set id b) { w with heap := w.heap.setIfInBounds L.cb (.map ms' cl') } := by
          intro b ms' cl'
          refine ⟨by simp, fun _ _ => rfl, ⟨rfl, rfl, rfl, by simp, fun k hk => ?_⟩, fun i _ hi => get_set_other _ _ (fun e => by subst e; rw [hL] at hi; cases hi)⟩
          simp only
          rw [Array.getElem?_setIfInBounds_ne (by omega)]
        split at h
        · rename_i i hf
          obtain ⟨hfl, _, hc, r', hrun, hrel⟩ := find_sim hr hf w
          have hkk : k' = k := hk.flat_eq hfl
          subst hkk
          cases r' with
          | none => cases hrel
          | some q =>
            obtain ⟨j, u⟩ := q
            obtain ⟨rfl, m, hmi, rfl⟩ := hrel
            split at h
            · rename_i e he
              split at h
              · rename_i hsb
                injection h with h; subst h
                obtain ⟨m', hm', g1, g2⟩ := hr.get j e he
                rw [hmi] at hm'; injection hm' with hm'; subst hm'
                have hmj : ms[j]? = some m := by simpa using hmi
                have hjl : j < ms.size := by
                  rcases Nat.lt_or_ge j ms.size with h' | h'
                  · exact h'
                  · rw [Array.getElem?_eq_none h'] at hmj; cases hmj
                have hme : ms[j] = m := by rw [Array.getElem?_eq_getElem hjl] at hmj; exact Option.some.inj hmj
                have hkf : m.key = e.1 := by
                  refine g1.flat_eq ?_
                  unfold findT at hf
                  split at hf
                  · rename_i hff
                    have := hff.2
                    simp only [keyFlat, List.all_eq_true] at this
                    exact this e (List.mem_of_getElem? he)
                  · cases hf
                have hks : (Instr.keyThatStays m.key k').run P w = .ok k' w := by
                  unfold Instr.keyThatStays
                  rw [hkf, if_pos hsb]; rfl
                refine ⟨_, ?_, r.updMap hL hb (ms.modify j fun e => { e with key := k', val := v' }) cl ?_, hfut _ _ _⟩
                · unfold Instr.mapUpdate
                  simp only [Sem.run_bind, run_under hu, Result.andThen_ok, hg, hc, hrun, hmj, Option.map_some, Option.getD_some, hks, hset]
                · have : (ms.modify j fun e => { e with key := k', val := v' }).toList = ms.toList.set j { m with key := k', val := v' } := by
                    rw [Array.toList_modify]
                    apply List.ext_getElem?
                    intro i
                    rw [List.getElem?_modify, List.getElem?_set]
                    by_cases hij : j = i
                    · subst hij; simp [hjl, hme]
                    · simp [hij]
                  rw [this]
                  exact hr.set j hk hv
              · cases h
            · cases h
        · rename_i hf
          injection h with h; subst h
          obtain ⟨hfl, _, hc, r', hrun, hrel⟩ := find_sim hr hf w
          have hkk : k' = k := hk.flat_eq hfl
          subst hkk
          cases r' with
          | some q => cases hrel
          | none =>
            refine ⟨_, ?_, r.updMap hL hb (ms.push { key := k', val := v', born := cl }) (cl + 1) ?_, hfut _ _ _⟩
            · unfold Instr.mapUpdate
              simp only [Sem.run_bind, run_under hu, Result.andThen_ok, hg, hc, hrun, hset]
            · rw [Array.toList_push]
              exact hr.append hk hv
        · cases h
    · cases h
  · cases h

/-- What an operation gives that acts. -/
def EffN (P : Program) (B0 : Nat) (ρ : Ren) (H : Heap) (w : World) (v : Value) (H' : Heap) (s : Sem Next) : Prop :=
  ∃ ρ' w' cv, (s.run P w = .ok (.value cv) w' ∨ (s.run P w = .ok .skip w' ∧ cv = undefV)) ∧ VR ρ' v cv ∧ Rel B0 ρ' H' w' ∧ Fut B0 ρ H w ρ' H' w'

theorem EffR.next {P : Program} {B0 : Nat} {ρ : Ren} {H H' : Heap} {w : World} {v : Value} {s : Sem Value} (h : EffR P B0 ρ H w v H' s) : EffN P B0 ρ H w v H' (do pure (.value (← s))) := by
  obtain ⟨ρ', w', cv, h1, h2, h3, h4⟩ := h
  exact ⟨ρ', w', cv, .inl (by simp [h1]), h2, h3, h4⟩
theorem effN_unit {P : Program} {B0 : Nat} {ρ : Ren} {H H' : Heap} {w w' : World} {s : Sem Unit} (h1 : s.run P w = .ok () w') (h2 : Rel B0 ρ H' w') (h3 : Fut B0 ρ H w ρ H' w') : EffN P B0 ρ H w undefV H' (do s; pure .skip) :=
  ⟨ρ, w', undefV, .inr ⟨by simp [h1], rfl⟩, .flat _ rfl, h2, h3⟩

theorem eff_sim {P : Program} {ev : Operand → Value} {o : Oper} {H H' : Heap} {v : Value} (hk : kindOf o.op = .eff) (h : aop P ev o H = some (.val v H'))
    {B0 : Nat} {ρ : Ren} {w : World} {cev : Operand → Value} (r : Rel B0 ρ H w) (hv : OpsVR ρ ev cev o) : EffN P B0 ρ H w v H' (execOp cev o) := by
  obtain ⟨dst, op, type, pos, after, guard⟩ := o
  cases op <;> simp only [kindOf] at hk <;> try (cases hk)
  case store t a x =>
    simp only [aop, Option.map_eq_some_iff] at h
    obtain ⟨H1, hs, h⟩ := h
    injection h with h1 h2; subst h1; subst h2
    obtain ⟨w', g1, g2, g3⟩ := store_sim (P := P) r hs (hv a (by simp [Op.operands])) (hv x (by simp [Op.operands]))
    exact effN_unit g1 g2 g3
  case mapUpdate t m k x =>
    simp only [aop, Option.map_eq_some_iff] at h
    obtain ⟨H1, hs, h⟩ := h
    injection h with h1 h2; subst h1; subst h2
    obtain ⟨w', g1, g2, g3⟩ := update_sim (P := P) r hs (hv m (by simp [Op.operands])) (hv k (by simp [Op.operands])) (hv x (by simp [Op.operands]))
    exact effN_unit g1 g2 g3
  case insert t m k x =>
    simp only [aop, Option.map_eq_some_iff] at h
    obtain ⟨H1, hs, h⟩ := h
    injection h with h1 h2; subst h1; subst h2
    obtain ⟨w', g1, g2, g3⟩ := update_sim (P := P) r hs (hv m (by simp [Op.operands])) (hv k (by simp [Op.operands])) (hv x (by simp [Op.operands]))
    exact effN_unit g1 g2 g3
  case call c =>
    obtain ⟨callee, args, ts⟩ := c
    have hargs : VRs ρ (args.map ev).toList (args.map cev).toList := VRs_map args fun x hx => hv x (by simp [Op.operands, Call.operands, hx])
    cases callee with
    | value f =>
      simp only [aop] at h
      split at h <;> simp at h
    | invoke rc name =>
      simp only [aop] at h
      split at h <;> simp at h
    | builtin b =>
      cases b
      case append =>
        simp only [aop, Option.map_eq_some_iff] at h
        obtain ⟨⟨u, H1⟩, hs, h⟩ := h
        injection h with h1 h2; subst h1; subst h2
        rw [exec_builtin cev _ .append args ts rfl]
        exact (append_sim (ty := type) r hs hargs).next
      case copy =>
        simp only [aop, Option.map_eq_some_iff] at h
        obtain ⟨⟨u, H1⟩, hs, h⟩ := h
        injection h with h1 h2; subst h1; subst h2
        rw [exec_builtin cev _ .copy args ts rfl]
        exact (copy_sim (ty := type) r hs hargs).next
      all_goals first
        | (simp at hk; done)
        | (simp [aop] at h; done)
end Go.Abs
