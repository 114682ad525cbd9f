/- The abstract machine: what it runs to, the model runs to. -/
import Derived.Test.YtiaibplflmjohaaAbsY
import Derived.LoopN
import Derived.Scope
set_option linter.unusedVariables false
set_option linter.unusedSimpArgs false
namespace Go.Abs
open Go Go.RowKit
set_option linter.unusedVariables false
set_option linter.unusedSimpArgs false

def Ex.up : Ex → Exit
  | .normal => .normal
  | .exit id => .exit id
  | .ret => .ret

theorem code_sim {P : Program} {call : CallFn} (hs : SimCall P call) (hmix : P.follows .mixedOrders = true) (k : Nat) {B0 : Nat} : ∀ (c : Code), codeOk c = true → ∀ (ts : Array Value) (H : Heap) (ex : Ex) (ts' : Array Value) (H' : Heap), acode P call k c ts H = some (ex, ts', H') →
    ∀ (ρ : Ren) (w : World) (a : Act) (Q : Exit → Act → World → Prop), Rel B0 ρ H w → VRs ρ ts.toList a.tmps.toList →
      (∀ ρ' w' a', a'.defers = a.defers → Rel B0 ρ' H' w' → VRs ρ' ts'.toList a'.tmps.toList → Fut B0 ρ H w ρ' H' w' → Q ex.up a' w') → c.wp P Q a w := by
  intro c
  induction c with
  | skip =>
    intro _ ts H ex ts' H' h ρ w a Q r hv hQ
    simp only [acode, Option.some.injEq, Prod.mk.injEq] at h; obtain ⟨rfl, rfl, rfl⟩ := h
    exact wp_skip (hQ ρ w a rfl r hv (Fut.refl _ _ _ _))
  | label l =>
    intro _ ts H ex ts' H' h ρ w a Q r hv hQ
    simp only [acode, Option.some.injEq, Prod.mk.injEq] at h; obtain ⟨rfl, rfl, rfl⟩ := h
    exact wp_label (hQ ρ w a rfl r hv (Fut.refl _ _ _ _))
  | region id ops draw =>
    intro hok ts H ex ts' H' h ρ w a Q r hv hQ
    simp only [acode, Option.map_eq_some_iff] at h
    obtain ⟨⟨t1, H1⟩, h, e⟩ := h
    simp only [Prod.mk.injEq] at e
    obtain ⟨rfl, rfl, rfl⟩ := e
    simp only [codeOk, Bool.and_eq_true, Bool.or_eq_true, Bool.not_eq_true'] at hok
    cases draw with
    | true =>
      rw [if_pos rfl] at h
      have hd : drawOk ops = true := by rcases hok.2 with e | e; · cases e
                                        · exact e
      exact draw_sim hs hmix hok.1 hd h r hv hQ
    | false =>
      simp only [Bool.false_eq_true, if_false] at h
      exact wp_region (aops_sim hs hok.1 _ _ _ _ _ h ρ w a r hv hQ)
  | seq x y ihx ihy =>
    intro hok ts H ex ts' H' h ρ w a Q r hv hQ
    simp only [codeOk, Bool.and_eq_true] at hok
    simp only [acode] at h
    refine wp_seq ?_
    cases hx : acode P call k x ts H with
    | none => rw [hx] at h; cases h
    | some s =>
      obtain ⟨e, t1, H1⟩ := s
      rw [hx] at h
      refine ihx hok.1 _ _ _ _ _ hx ρ w a _ r hv fun ρ' w' a' hd hr hv' hf => ?_
      cases e with
      | normal =>
        refine ihy hok.2 _ _ _ _ _ h ρ' w' a' Q hr hv' fun ρ'' w'' a'' hd' hr' hv'' hf' => ?_
        exact hQ ρ'' w'' a'' (hd'.trans hd) hr' hv'' (hf.trans hf')
      | exit id =>
        simp only [Option.some.injEq, Prod.mk.injEq] at h; obtain ⟨rfl, rfl, rfl⟩ := h
        exact hQ ρ' w' a' hd hr hv' hf
      | ret =>
        simp only [Option.some.injEq, Prod.mk.injEq] at h; obtain ⟨rfl, rfl, rfl⟩ := h
        exact hQ ρ' w' a' hd hr hv' hf
  | cond q x y ihx ihy =>
    intro hok ts H ex ts' H' h ρ w a Q r hv hQ
    simp only [codeOk, Bool.and_eq_true] at hok
    simp only [acode] at h
    split at h
    · rename_i b hb
      have hq := evalT_sim (a := a) hv hok.1.1
      rw [hb] at hq
      refine wp_cond (t := b) hq.bool_inv ?_
      cases b with
      | true => exact ihx hok.1.2 _ _ _ _ _ (by simpa using h) ρ w a Q r hv hQ
      | false => exact ihy hok.2 _ _ _ _ _ (by simpa using h) ρ w a Q r hv hQ
    · cases h
  | block id b ih =>
    intro hok ts H ex ts' H' h ρ w a Q r hv hQ
    simp only [codeOk] at hok
    simp only [acode] at h
    refine wp_block ?_
    cases hb : acode P call k b ts H with
    | none => rw [hb] at h; cases h
    | some s =>
      obtain ⟨e, t1, H1⟩ := s
      rw [hb] at h
      refine ih hok _ _ _ _ _ hb ρ w a _ r hv fun ρ' w' a' hd hr hv' hf => ?_
      cases e with
      | normal =>
        simp only [Option.some.injEq, Prod.mk.injEq] at h; obtain ⟨rfl, rfl, rfl⟩ := h
        exact hQ ρ' w' a' hd hr hv' hf
      | exit id' =>
        simp only at h
        show Exit.inBlock id Q (.exit id') a' w'
        unfold Exit.inBlock
        simp only
        split
        · rename_i e
          rw [if_pos e] at h
          simp only [Option.some.injEq, Prod.mk.injEq] at h; obtain ⟨rfl, rfl, rfl⟩ := h
          exact hQ ρ' w' a' hd hr hv' hf
        · rename_i e
          rw [if_neg e] at h
          simp only [Option.some.injEq, Prod.mk.injEq] at h; obtain ⟨rfl, rfl, rfl⟩ := h
          exact hQ ρ' w' a' hd hr hv' hf
      | ret =>
        simp only [Option.some.injEq, Prod.mk.injEq] at h; obtain ⟨rfl, rfl, rfl⟩ := h
        exact hQ ρ' w' a' hd hr hv' hf
  | loop b ih =>
    intro hok ts H ex ts' H' h ρ w a Q r hv hQ
    simp only [codeOk] at hok
    simp only [acode] at h
    refine wp_loop_rounds k ?_
    have go : ∀ (n : Nat) (ts : Array Value) (H : Heap), iter (acode P call k b) n ts H = some (ex, ts', H') → ∀ (ρ : Ren) (w : World) (a : Act), Rel B0 ρ H w → VRs ρ ts.toList a.tmps.toList →
        (∀ ρ' w' a', a'.defers = a.defers → Rel B0 ρ' H' w' → VRs ρ' ts'.toList a'.tmps.toList → Fut B0 ρ H w ρ' H' w' → Q ex.up a' w') → Code.rounds P b Q n a w := by
      intro n
      induction n with
      | zero => intro ts H h; cases h
      | succ n ihn =>
        intro ts H h ρ w a r hv hQ
        rw [rounds_succ]
        simp only [iter] at h
        cases hb : acode P call k b ts H with
        | none => rw [hb] at h; cases h
        | some s =>
          obtain ⟨e, t1, H1⟩ := s
          rw [hb] at h
          refine ih hok _ _ _ _ _ hb ρ w a _ r hv fun ρ' w' a' hd hr hv' hf => ?_
          cases e with
          | normal =>
            refine ihn _ _ h ρ' w' a' hr hv' fun ρ'' w'' a'' hd' hr' hv'' hf' => ?_
            exact hQ ρ'' w'' a'' (hd'.trans hd) hr' hv'' (hf.trans hf')
          | exit id' =>
            simp only [Option.some.injEq, Prod.mk.injEq] at h; obtain ⟨rfl, rfl, rfl⟩ := h
            exact hQ ρ' w' a' hd hr hv' hf
          | ret =>
            simp only [Option.some.injEq, Prod.mk.injEq] at h; obtain ⟨rfl, rfl, rfl⟩ := h
            exact hQ ρ' w' a' hd hr hv' hf
    exact go k ts H h ρ w a r hv hQ
  | scope b ih =>
    intro hok ts H ex ts' H' h ρ w a Q r hv hQ
    simp only [codeOk] at hok
    simp only [acode] at h
    refine wp_scope_straight ?_
    refine ih hok _ _ _ _ _ h ρ w a _ r hv fun ρ' w' a' hd hr hv' hf => ?_
    have := hQ ρ' w' a' hd hr hv' hf
    cases ex <;> exact this
  | exit id =>
    intro _ ts H ex ts' H' h ρ w a Q r hv hQ
    simp only [acode, Option.some.injEq, Prod.mk.injEq] at h; obtain ⟨rfl, rfl, rfl⟩ := h
    exact wp_exit (hQ ρ w a rfl r hv (Fut.refl _ _ _ _))
  | ret =>
    intro _ ts H ex ts' H' h ρ w a Q r hv hQ
    simp only [acode, Option.some.injEq, Prod.mk.injEq] at h; obtain ⟨rfl, rfl, rfl⟩ := h
    exact wp_ret (hQ ρ w a rfl r hv (Fut.refl _ _ _ _))
  | _ =>
    intro hok ts H ex ts' H' h
    simp [acode] at h

theorem one_result {P : Program} {B0 : Nat} {ρ : Ren} {H : Heap} {w : World} (r : Rel B0 ρ H w) {ts cs : Array Value} (hv : VRs ρ ts.toList cs.toList) {rv : ResultVar} {v : Value} (h : oneResult P ts H rv = some v) :
    ∃ cv, ((match rv with | .tmp t => pure (cs.getD t undef) | .cell a t => do loadVar t (← asAddr (cs.getD a undef)) : Sem Value)).run P w = .ok cv w ∧ VR ρ v cv := by
  cases rv with
  | tmp t =>
    simp only [oneResult, Option.some.injEq] at h; subst h
    exact ⟨_, rfl, getD_sim hv t⟩
  | cell a t =>
    simp only [oneResult] at h
    obtain ⟨cv, g1, g2⟩ := load_sim (P := P) r h (getD_sim hv a)
    refine ⟨cv, ?_, g2⟩
    have hp := getD_sim hv a
    unfold aload at h
    split at h
    · rename_i id off e
      rw [e] at hp
      obtain ⟨L, hL, e2⟩ := hp.ptr_inv
      show (do loadVar t (← asAddr (cs.getD a undef)) : Sem Value).run P w = _
      rw [e2] at g1 ⊢
      simpa [Instr.loadAt, Instr.sureAddr, asAddr] using g1
    · cases h
theorem results_sim {P : Program} {B0 : Nat} {ρ : Ren} {H : Heap} {w : World} (r : Rel B0 ρ H w) {ts cs : Array Value} (hv : VRs ρ ts.toList cs.toList) : ∀ (rs : List ResultVar) (vs : List Value), resultsV P rs ts H = some vs →
    ∃ us : List Value, (rs.mapM (fun rv => (match rv with | .tmp t => pure (cs.getD t undef) | .cell a t => do loadVar t (← asAddr (cs.getD a undef)) : Sem Value))).run P w = .ok us w ∧ VRs ρ vs us := by
  intro rs
  induction rs with
  | nil => intro vs h; simp only [resultsV, Option.some.injEq] at h; subst h; exact ⟨[], rfl, .nil⟩
  | cons x xs ih =>
    intro vs h
    simp only [resultsV] at h
    cases h1 : oneResult P ts H x with
    | none => simp [h1] at h
    | some v =>
      cases h2 : resultsV P xs ts H with
      | none => simp [h1, h2] at h
      | some vs' =>
        simp only [h1, h2, Option.some.injEq] at h
        subst h
        obtain ⟨cv, g1, g2⟩ := one_result r hv h1
        obtain ⟨us, g3, g4⟩ := ih vs' h2
        refine ⟨cv :: us, ?_, .cons _ _ _ _ g2 g4⟩
        rw [List.mapM_cons]
        simp only [Sem.run_bind, g1, Result.andThen_ok, g3, Sem.run_pure]

theorem aops_n {P : Program} {call : CallFn} (hs : SimCall P call) {ops : Array Oper} : ∀ (l : List Nat) (ts : Array Value) (H : Heap) (ts' : Array Value) (H' : Heap), aops P call ops l ts H = some (ts', H') → H.n ≤ H'.n := by
  intro l
  induction l with
  | nil => intro ts H ts' H' h; simp only [aops, Option.some.injEq, Prod.mk.injEq] at h; rw [h.2]; exact Nat.le_refl _
  | cons i rest ih =>
    intro ts H ts' H' h
    simp only [aops] at h
    (repeat' split at h) <;> first
      | (cases h; done)
      | (rename_i hst; exact Nat.le_trans (astep_n hs hst) (ih _ _ _ _ h))
      | exact ih _ _ _ _ h
theorem adraw_n {P : Program} {call : CallFn} (hs : SimCall P call) {ops : Array Oper} {up : Nat → Nat} : ∀ (l : List Nat) (m : Nat) (hh : List Held) (ts : Array Value) (H : Heap) (ts' : Array Value) (H' : Heap), adraw P call ops up l m hh ts H = some (ts', H') → H.n ≤ H'.n := by
  intro l
  induction l with
  | nil => intro m hh ts H ts' H' h; simp only [adraw, Option.some.injEq, Prod.mk.injEq] at h; rw [h.2]; exact Nat.le_refl _
  | cons i rest ih =>
    intro m hh ts H ts' H' h
    simp only [adraw] at h
    cases ho : ops[i]? with
    | none => rw [ho] at h; cases h
    | some o =>
      simp only [ho] at h
      split at h
      · cases hst : astep P call (evalT ts) o H with
        | none => rw [hst] at h; cases h
        | some vh =>
          obtain ⟨v, H1⟩ := vh
          rw [hst] at h
          simp only at h
          split at h
          · cases h
          · exact Nat.le_trans (astep_n hs hst) (ih _ _ _ _ _ _ h)
      · exact ih _ _ _ _ _ _ h
theorem acode_n {P : Program} {call : CallFn} (hs : SimCall P call) (k : Nat) : ∀ (c : Code) (ts : Array Value) (H : Heap) (ex : Ex) (ts' : Array Value) (H' : Heap), acode P call k c ts H = some (ex, ts', H') → H.n ≤ H'.n := by
  intro c
  induction c with
  | region id ops draw =>
    intro ts H ex ts' H' h
    simp only [acode, Option.map_eq_some_iff] at h
    obtain ⟨⟨t1, H1⟩, h, e⟩ := h
    simp only [Prod.mk.injEq] at e
    obtain ⟨rfl, rfl, rfl⟩ := e
    split at h
    · exact adraw_n hs _ _ _ _ _ _ _ h
    · exact aops_n hs _ _ _ _ _ h
  | seq x y ihx ihy =>
    intro ts H ex ts' H' h
    simp only [acode] at h
    cases hx : acode P call k x ts H with
    | none => rw [hx] at h; cases h
    | some s =>
      obtain ⟨e, t1, H1⟩ := s
      rw [hx] at h
      refine Nat.le_trans (ihx _ _ _ _ _ hx) ?_
      cases e with
      | normal => exact ihy _ _ _ _ _ h
      | exit id => simp only [Option.some.injEq, Prod.mk.injEq] at h; rw [h.2.2]; exact Nat.le_refl _
      | ret => simp only [Option.some.injEq, Prod.mk.injEq] at h; rw [h.2.2]; exact Nat.le_refl _
  | cond q x y ihx ihy =>
    intro ts H ex ts' H' h
    simp only [acode] at h
    split at h
    · split at h
      · exact ihx _ _ _ _ _ h
      · exact ihy _ _ _ _ _ h
    · cases h
  | block id b ih =>
    intro ts H ex ts' H' h
    simp only [acode] at h
    cases hb : acode P call k b ts H with
    | none => rw [hb] at h; cases h
    | some s =>
      obtain ⟨e, t1, H1⟩ := s
      rw [hb] at h
      refine Nat.le_trans (ih _ _ _ _ _ hb) ?_
      cases e with
      | normal => simp only [Option.some.injEq, Prod.mk.injEq] at h; rw [h.2.2]; exact Nat.le_refl _
      | exit id =>
        simp only at h
        split at h <;> (simp only [Option.some.injEq, Prod.mk.injEq] at h; rw [h.2.2]; exact Nat.le_refl _)
      | ret => simp only [Option.some.injEq, Prod.mk.injEq] at h; rw [h.2.2]; exact Nat.le_refl _
  | loop b ih =>
    intro ts H ex ts' H' h
    simp only [acode] at h
    have go : ∀ (n : Nat) (ts : Array Value) (H : Heap), iter (acode P call k b) n ts H = some (ex, ts', H') → H.n ≤ H'.n := by
      intro n
      induction n with
      | zero => intro ts H h; cases h
      | succ n ihn =>
        intro ts H h
        simp only [iter] at h
        cases hb : acode P call k b ts H with
        | none => rw [hb] at h; cases h
        | some s =>
          obtain ⟨e, t1, H1⟩ := s
          rw [hb] at h
          refine Nat.le_trans (ih _ _ _ _ _ hb) ?_
          cases e with
          | normal => exact ihn _ _ h
          | exit id => simp only [Option.some.injEq, Prod.mk.injEq] at h; rw [h.2.2]; exact Nat.le_refl _
          | ret => simp only [Option.some.injEq, Prod.mk.injEq] at h; rw [h.2.2]; exact Nat.le_refl _
    exact go k ts H h
  | scope b ih => intro ts H ex ts' H' h; simp only [acode] at h; exact ih _ _ _ _ _ h
  | skip => intro ts H ex ts' H' h; simp only [acode, Option.some.injEq, Prod.mk.injEq] at h; rw [h.2.2]; exact Nat.le_refl _
  | label l => intro ts H ex ts' H' h; simp only [acode, Option.some.injEq, Prod.mk.injEq] at h; rw [h.2.2]; exact Nat.le_refl _
  | exit id => intro ts H ex ts' H' h; simp only [acode, Option.some.injEq, Prod.mk.injEq] at h; rw [h.2.2]; exact Nat.le_refl _
  | ret => intro ts H ex ts' H' h; simp only [acode, Option.some.injEq, Prod.mk.injEq] at h; rw [h.2.2]; exact Nat.le_refl _
  | _ => intro ts H ex ts' H' h; simp [acode] at h

/-- What is told from elsewhere is so. -/
def OrcOk (P : Program) (orc : Orc) : Prop := ∀ f g, orc f = some g → ∀ (args : Array Value) (H : Heap) (v : Value) (H' : Heap), g args H = some (v, H') → CallOk P f ∧ H.n ≤ H'.n ∧
    ∀ (B0 : Nat) (ρ : Ren) (w : World) (cargs : Array Value), Rel B0 ρ H w → VRs ρ args.toList cargs.toList →
      Calls P f cargs w fun e w' => ∃ ρ' cv, e = .returned cv ∧ VR ρ' v cv ∧ Rel B0 ρ' H' w' ∧ Fut B0 ρ H w ρ' H' w'

/-- WHAT THE ABSTRACT MACHINE RUNS TO, THE MODEL RUNS TO, in whatever order, wherever its memory lies. -/
theorem arun_sim {P : Program} (hmix : P.follows .mixedOrders = true) {orc : Orc} (horc : OrcOk P orc) : ∀ k, SimCall P (arun P orc k) := by
  intro k
  induction k with
  | zero => intro f args H v H' h; cases h
  | succ k ih =>
    intro f args H v H' h
    simp only [arun] at h
    cases ho : orc f with
    | some g => rw [ho] at h; exact horc f g ho args H v H' h
    | none =>
    simp only [ho] at h
    cases hf : P.funcs[f]? with
    | none => rw [hf] at h; cases h
    | some fn =>
      simp only [hf] at h
      split at h
      rotate_left
      · cases h
      rename_i hc
      unfold abody at h
      cases hb : fn.body with
      | none => simp [hb] at h
      | some c =>
        simp only [hb] at h
        have hcode : codeOk c = true := by
          unfold callable at hc
          rw [hb] at hc
          simp only [Bool.and_eq_true] at hc
          exact hc.2
        cases ha : acode P (arun P orc k) k c (enterT fn args) H with
        | none => simp [ha] at h
        | some s =>
          obtain ⟨ex, t, H1⟩ := s
          have hex : ex ≠ .normal → ex ≠ .ret → False := by
            intro h1 h2
            cases ex with
            | normal => exact h1 rfl
            | ret => exact h2 rfl
            | exit id => simp [ha] at h
          have hres : ∃ vs, resultsV P fn.results.toList t H1 = some vs ∧ v = packV vs ∧ H' = H1 := by
            cases ex with
            | exit id => simp [ha] at h
            | normal =>
              simp only [ha, Option.map_eq_some_iff] at h
              obtain ⟨vs, h1, h2⟩ := h
              injection h2 with h2 h3
              exact ⟨vs, h1, h2.symm, h3.symm⟩
            | ret =>
              simp only [ha, Option.map_eq_some_iff] at h
              obtain ⟨vs, h1, h2⟩ := h
              injection h2 with h2 h3
              exact ⟨vs, h1, h2.symm, h3.symm⟩
          obtain ⟨vs, hvs, rfl, rfl⟩ := hres
          have hsim : ∀ (B0 : Nat) (ρ : Ren) (w : World) (cargs : Array Value), Rel B0 ρ H w → VRs ρ args.toList cargs.toList →
              Calls P f cargs w fun e w' => ∃ ρ' cv, e = .returned cv ∧ VR ρ' (packV vs) cv ∧ Rel B0 ρ' H' w' ∧ Fut B0 ρ H w ρ' H' w' := by
            intro B0 ρ w cargs r hv
            refine calls_of_wp hf hb ?_
            have hl : cargs.size = args.size := by have := hv.length_eq; simpa using this
            have hrep : ∀ n, VRs ρ (List.replicate n undefV) (List.replicate n undef) := by
              intro n
              induction n with
              | zero => exact .nil
              | succ n ih => rw [List.replicate_succ, List.replicate_succ]; exact .cons _ _ _ _ (.flat _ rfl) ih
            have hent : VRs ρ (enterT fn args).toList (cargs ++ Array.replicate (fn.ntmps - cargs.size) undef).toList := by
              unfold enterT
              rw [hl]
              simp only [Array.toList_append, Array.toList_replicate]
              exact hv.append (hrep _)
            refine code_sim ih hmix k c hcode _ _ _ _ _ ha ρ w _ _ r hent fun ρ' w' a' hd hr hv' hf' => ?_
            have hpost : a'.defers = [] ∧ ∃ v, (results fn a'.tmps).run P w' = .ok v w' ∧ ∃ ρ' cv, Ending.returned v = .returned cv ∧ VR ρ' (packV vs) cv ∧ Rel B0 ρ' H' w' ∧ Fut B0 ρ H w ρ' H' w' := by
              refine ⟨hd, ?_⟩
              obtain ⟨us, g1, g2⟩ := results_sim hr hv' _ _ hvs
              have hm : (fn.results.mapM (fun rv => (match rv with | .tmp t => pure (a'.tmps.getD t undef) | .cell a t => do loadVar t (← asAddr (a'.tmps.getD a undef)) : Sem Value))).run P w' = .ok us.toArray w' := by
                rw [← Array.toArray_toList (xs := fn.results), List.mapM_toArray]
                simp only [Sem.run_map, g1, Result.andThen_ok]
              refine ⟨if h : us.toArray.size = 1 then us.toArray[0] else .tuple us.toArray, ?_, ρ', _, rfl, ?_, hr, hf'⟩
              · have hres : results fn a'.tmps = (do
                    let vs ← fn.results.mapM (fun rv => (match rv with | .tmp t => pure (a'.tmps.getD t undef) | .cell a t => do loadVar t (← asAddr (a'.tmps.getD a undef)) : Sem Value))
                    pure (if h : vs.size = 1 then vs[0] else .tuple vs)) := rfl
                rw [hres]
                simp only [Sem.run_bind, hm, Result.andThen_ok, Sem.run_pure]
              · cases g2 with
                | nil => exact .flat _ rfl
                | cons x y l m h1 h2 =>
                  cases h2 with
                  | nil => exact h1
                  | cons x2 y2 l2 m2 h3 h4 =>
                    rw [dif_neg (by simp)]
                    exact .tuple _ _ (.cons _ _ _ _ h1 (.cons _ _ _ _ h3 h4))
            cases ex with
            | normal => exact hpost
            | ret => exact hpost
            | exit id => exact (hex (by simp) (by simp)).elim
          refine ⟨⟨fn, hf, hc⟩, ?_, hsim⟩
          exact acode_n ih k c _ _ _ _ _ ha
end Go.Abs
