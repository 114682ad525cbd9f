/- The abstract machine: code and calls, beside the model's. -/
import Derived.Test.YtiaibplflmjohaaAbsX
set_option linter.unusedVariables false
set_option linter.unusedSimpArgs false
namespace Go.Abs
open Go Go.RowKit
set_option linter.unusedVariables false
set_option linter.unusedSimpArgs false
set_option linter.unusedSectionVars false

def effB (ops : Array Oper) (i : Nat) : Bool := match ops[i]? with | some o => decide (kindOf o.op = .eff) | none => false
theorem effs_eq (ops : Array Oper) (l : List Nat) : effs ops l = l.filter (effB ops) := rfl
theorem effB_iff {ops : Array Oper} {i : Nat} {o : Oper} (h : ops[i]? = some o) : effB ops i = true ↔ kindOf o.op = .eff := by simp [effB, h]

theorem draw_sim {P : Program} {call : CallFn} (hs : SimCall P call) (hmix : P.follows .mixedOrders = true) {id : Nat} {ops : Array Oper} (hg : ops.all noGlobal = true) (hd : drawOk ops = true) {ts0 tsN : Array Value} {H0 HN : Heap}
    (h : adraw P call ops (fun i => (uptoL ops).getD i 0) (canon ops) 0 [] ts0 H0 = some (tsN, HN)) {B0 : Nat} {ρ0 : Ren} {w0 : World} {a0 : Act} {Q : Exit → Act → World → Prop} (r0 : Rel B0 ρ0 H0 w0) (hv0 : VRs ρ0 ts0.toList a0.tmps.toList)
    (hQ : ∀ ρ' w' a', a'.defers = a0.defers → Rel B0 ρ' HN w' → VRs ρ' tsN.toList a'.tmps.toList → Fut B0 ρ0 H0 w0 ρ' HN w' → Q .normal a' w') :
    (Code.region id ops true).wp P Q a0 w0 := by
  unfold drawOk at hd
  simp only [Bool.and_eq_true, decide_eq_true_eq] at hd
  obtain ⟨⟨⟨⟨⟨d1, d2⟩, d3⟩, d4⟩, d5⟩, d6⟩ := hd
  obtain ⟨st, s0, s1, s2, s3⟩ := adraw_fold P call ops _ _ _ _ _ _ _ h
  rw [d2] at s1 s2
  have hord : ∀ p, p < ops.size → (canon ops)[p]? = some ((canon ops).getD p 0) := by
    intro p hp
    have : p < (canon ops).length := by omega
    simp [List.getD, List.getElem?_eq_getElem this]
  have hlt : ∀ p, p < ops.size → (canon ops).getD p 0 < ops.size := by
    intro p hp
    rw [List.all_eq_true] at d3
    simpa using d3 _ (List.mem_of_getElem? (hord p hp))
  have hop : ∀ p, p < ops.size → ops[(canon ops).getD p 0]? = some (ops.getD ((canon ops).getD p 0) default) := by
    intro p hp
    rw [Array.getD_eq_getD_getElem?, Array.getElem?_eq_getElem (hlt p hp)]; rfl
  have hedges : ∀ i o, ops[i]? = some o → ∀ j ∈ onsOf o, j < i := by
    intro i o ho j hj
    have hi : i < ops.size := (Array.getElem?_eq_some_iff.1 ho).1
    rw [List.all_eq_true] at d1
    have := d1 i (by simpa using hi)
    rw [Array.getD_eq_getD_getElem?, ho] at this
    simp only [Option.getD_some, List.all_eq_true, decide_eq_true_eq] at this
    exact this j hj
  have hex : ∀ p, ∃ v, p < ops.size → StepF P call ops (fun i => (uptoL ops).getD i 0) (st p) (st (p + 1)) ((canon ops).getD p 0) (ops.getD ((canon ops).getD p 0) default) v := by
    intro p
    by_cases hp : p < ops.size
    · obtain ⟨v, hv⟩ := dstep_spec (hop p hp) (s3 p _ (hord p hp))
      exact ⟨v, fun _ => hv⟩
    · exact ⟨undefV, fun h => absurd h hp⟩
  obtain ⟨V, hV⟩ := Classical.axiomOfChoice hex
  have hph := phases_spec (ops := ops) (bs := befs ops) _ _ _ d5
  have hinj : ∀ p q, p < ops.size → q < ops.size → (canon ops).getD p 0 = (canon ops).getD q 0 → p = q := by
    intro p q hp hq e
    rcases Nat.lt_trichotomy p q with g | g | g
    · exact absurd (hord p hp) (by rw [e]; exact (hph q _ (hord q hq)).2.2.1 p g)
    · exact g
    · exact absurd (hord q hq) (by rw [← e]; exact (hph p _ (hord p hp)).2.2.1 q g)
  have hapart : ∀ p q, p < ops.size → q < ops.size → ∀ d, (ops.getD ((canon ops).getD q 0) default).dst = some d →
      ((canon ops).getD p 0 = (canon ops).getD q 0 ∨ (ops.getD ((canon ops).getD p 0) default).dst ≠ some d) ∧
      (d ∉ looks ops (ops.getD ((canon ops).getD p 0) default) ∨ (canon ops).getD q 0 ∈ (befs ops).getD ((canon ops).getD p 0) [] ∨ (canon ops).getD p 0 ∈ (befs ops).getD ((canon ops).getD q 0) []) := by
    intro p q hp hq d hdst
    unfold apartAll at d6
    rw [List.all_eq_true] at d6
    have := d6 ((canon ops).getD p 0) (List.mem_range.2 (hlt p hp))
    rw [List.all_eq_true] at this
    have := this ((canon ops).getD q 0) (List.mem_range.2 (hlt q hq))
    rw [hop p hp, hop q hq] at this
    simp only [hdst, Bool.and_eq_true, Bool.or_eq_true, beq_iff_eq, bne_iff_ne, ne_eq, Bool.not_eq_true', List.contains_eq_mem, decide_eq_true_eq, decide_eq_false_iff_not] at this
    obtain ⟨h1, h2⟩ := this
    refine ⟨h1, ?_⟩
    rcases h2 with (h2 | h2) | h2
    · exact .inl h2
    · exact .inr (.inl h2)
    · exact .inr (.inr h2)
  have hm : ∀ p, p ≤ ops.size → (st p).m = (((canon ops).take p).filter (effB ops)).length := by
    intro p
    induction p with
    | zero => intro _; rw [s0]; simp
    | succ p ih =>
      intro hp
      obtain ⟨_, g, _⟩ := hV p (by omega)
      rw [g, ih (by omega), List.take_add_one, hord p (by omega)]
      simp only [Option.toList_some, List.filter_append, List.length_append]
      by_cases he : kindOf (ops.getD ((canon ops).getD p 0) default).op = .eff
      · rw [if_pos he, List.filter_cons, if_pos ((effB_iff (hop p (by omega))).2 he)]; simp
      · rw [if_neg he, List.filter_cons, if_neg (fun x => he ((effB_iff (hop p (by omega))).1 x))]; simp
  have L : Laid P call ops ts0 H0 st (fun p => (canon ops).getD p 0) (fun p => ops.getD ((canon ops).getD p 0) default) V :=
    { s0 := s0
      step := fun p hp => hV p hp
      lt := hlt
      op := hop
      onto := fun i hi => by
        rw [List.all_eq_true] at d4
        have := d4 i (by simpa using hi)
        have hmem : i ∈ canon ops := by simpa using this
        obtain ⟨p, hp, e⟩ := List.mem_iff_getElem.1 hmem
        exact ⟨p, by omega, by simp [List.getD, List.getElem?_eq_getElem hp, e]⟩
      inj := hinj
      edges := hedges
      bef := fun p hp x hx => by
        rcases (hph p _ (hord p hp)).1 x hx with h | ⟨q, h1, h2⟩
        · cases h
        · refine ⟨q, h1, ?_⟩
          rw [hord q (by omega)] at h2
          exact Option.some.inj h2
      last := fun p e hp he hk hno => by
        refine (hph p _ (hord p hp)).2.2.2.1 e _ he (hord e (by omega)) ⟨_, hop e (by omega), hk⟩ fun x y h1 h2 h3 ⟨o, ho, hko⟩ => ?_
        rw [hord x (by omega)] at h3
        have := Option.some.inj h3
        subst this
        have h4 := hop x (by omega)
        rw [ho] at h4
        have := Option.some.inj h4
        subst this
        exact hno x h1 h2 hko
      up := fun p hp q hq hno => by
        have hi := hlt p hp
        have e1 : (uptoL ops).getD ((canon ops).getD p 0) 0 = uptoOf (befs ops) (effs ops (canon ops)) ((canon ops).getD p 0) := by
          unfold uptoL
          rw [List.getD_eq_getElem?_getD, List.getElem?_map, List.getElem?_range hi]; rfl
        rw [e1, effs_eq, hm q hq]
        unfold uptoOf
        have split : (canon ops).filter (effB ops) = ((canon ops).take q).filter (effB ops) ++ ((canon ops).drop q).filter (effB ops) := by
          rw [← List.filter_append, List.take_append_drop]
        rw [split, List.findIdx?_append]
        have hA : (((canon ops).take q).filter (effB ops)).findIdx? (fun e => ((befs ops).getD e []).contains ((canon ops).getD p 0)) = none := by
          rw [List.findIdx?_eq_none_iff]
          intro x hx
          rw [List.mem_filter] at hx
          obtain ⟨e, he, ee⟩ := List.mem_iff_getElem.1 hx.1
          have helt : e < q := by simp at he; omega
          have hx2 : (canon ops).getD e 0 = x := by
            rw [← ee]; simp [List.getD, List.getElem?_eq_getElem (show e < (canon ops).length by omega)]
          have := hno e helt (by
            refine (effB_iff (hop e (by omega))).1 ?_
            rw [hx2]; exact hx.2)
          rw [hx2] at this
          simpa using this
        rw [hA]
        simp only [Option.none_or]
        cases (((canon ops).drop q).filter (effB ops)).findIdx? (fun e => ((befs ops).getD e []).contains ((canon ops).getD p 0)) with
        | none => simp
        | some k => simp
      dst := fun p q d hp hq hne hdq hdp => by
        rcases (hapart p q hp hq d hdq).1 with h | h
        · exact hne (hinj p q hp hq h)
        · exact h hdp
      look := fun p q d hp hq hdq hl => by
        rcases (hapart p q hp hq d hdq).2 with h | h
        · exact absurd hl h
        · exact h
      noG := fun p hp => by
        simp only [Array.all_eq_true] at hg
        obtain ⟨hi, e⟩ := Array.getElem?_eq_some_iff.1 (hop p hp)
        rw [← e]; exact hg _ hi }
  refine wp_region_any hmix ?_
  rw [World.drew_eq]
  obtain ⟨q0, g1, g2, g3, g4⟩ := next_eff ops.size (fun x => kindOf (ops.getD ((canon ops).getD x 0) default).op = .eff) ops.size 0 (by omega)
  have hpe : PushExt H0 (st q0).H := by
    have := (L.pushes_to hs q0 0 (by omega) (fun x h1 h2 => g4 x h1 (by omega))).1
    rw [s0, Nat.zero_add] at this
    exact this
  have hset : ∀ j, SetOf (Array.replicate ops.size false) j = false := by
    intro j
    unfold SetOf
    rw [Array.getD_eq_getD_getElem?, Array.getElem?_replicate]
    split <;> rfl
  have hsz0 : ts0.size = (st ops.size).ts.size := ((L.slots ops.size (Nat.le_refl _)).1).symm
  refine draw_any L hs (B0 := B0) (ρ0 := ρ0) (w0 := w0) (a0 := a0) hsz0 (fun ρ' w' a' k1 k2 k3 k4 => ?_) ops.size (Array.replicate ops.size false) a0 w0.drew ρ0 q0 (by simp) ?_ ?_
  · rw [s2] at k2 k4; rw [s1] at k3
    exact hQ ρ' w' a' k1 k2 k3 k4
  · have : (List.range ops.size).countP (fun j => !SetOf (Array.replicate ops.size false) j) = (List.range ops.size).length := by
      rw [List.countP_eq_length]; intro j _; rw [hset]; rfl
    rw [this]; simp
  · exact {
      le := g2
      at_ := g3
      effs := fun p hp hk => by
        constructor
        · intro h; rw [hset] at h; cases h
        · intro h; exact absurd hk (g4 p (by omega) h)
      rel := r0.drew.lateExt hpe
      size := by have := hv0.length_eq; simpa using this
      defers := rfl
      slots := fun t ht => by
        have : slotV ops (fun p => ops.getD ((canon ops).getD p 0) default) V ts0 (fun q => SetOf (Array.replicate ops.size false) ((canon ops).getD q 0)) t = ts0.getD t undefV := by
          unfold slotV
          split
          · simp [hset]
          · rfl
        rw [this]
        exact getD_sim hv0 t
      fut := ⟨hpe.1, fun _ _ => rfl, (Below.refl _ _).drew, fun id hid _ => hpe.2 id hid⟩
      late := fun p hp hS hw hk => by
        have hpn : p < ops.size := by omega
        obtain ⟨_, _, hst⟩ := L.step p hpn
        rcases hst with ⟨_, ha, _⟩ | ⟨hw', _⟩
        · obtain ⟨b, e, _⟩ := make_sim hk (astep_noneff hs (by rw [hk]; simp) ha)
          have hge : H0.n ≤ (st p).H.n := by
            have := L.grows hs p 0 (by omega)
            rw [s0, Nat.zero_add] at this
            exact this
          refine ⟨?_, b, e, ?_⟩
          · cases hr : ρ0 (st p).H.n with
            | none => rfl
            | some M => have := (r0.dom _ M hr).1; omega
          · have hp2 : PushExt (st (p + 1)).H (st q0).H := by
              have := (L.pushes_to hs (q0 - (p + 1)) (p + 1) (by omega) (fun y h1 h2 => g4 y (by omega) (by omega))).1
              rwa [show p + 1 + (q0 - (p + 1)) = q0 by omega] at this
            exact hp2.some (by rw [e]; exact get_push_self _ _)
        · rw [hw] at hw'; cases hw'
      closed := fun i o ho hi => by rw [hset] at hi; cases hi }
end Go.Abs
