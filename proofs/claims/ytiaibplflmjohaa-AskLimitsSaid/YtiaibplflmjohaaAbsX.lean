/- The abstract machine: a region in whatever order: the theorem. -/
import Derived.Test.YtiaibplflmjohaaAbsW
set_option linter.unusedVariables false
set_option linter.unusedSimpArgs false
namespace Go.Abs
open Go Go.RowKit
set_option linter.unusedVariables false
set_option linter.unusedSimpArgs false
set_option linter.unusedSectionVars false

variable {P : Program} {call : CallFn} {ops : Array Oper} {ts0 : Array Value} {H0 : Heap} {st : Nat → DS} {I : Nat → Nat} {O : Nat → Oper} {V : Nat → Value}

/-- Behind an effect. -/
theorem Inv.behind (L : Laid P call ops ts0 H0 st I O V) (hs : SimCall P call) {B0 : Nat} {ρ0 : Ren} {w0 : World} {a0 a : Act} {S : Nat → Bool} {w : World} {ρ : Ren} {q : Nat}
    (inv : Inv P ops ts0 H0 st I O V B0 ρ0 w0 a0 S a w ρ q) (hq : q < ops.size) (hk : kindOf (O q).op = .eff) (hno : S (I q) = false) (hons : ∀ j ∈ onsOf (O q), S j = true)
    {ρ' : Ren} {w' : World} {cv : Value} (hrel : Rel B0 ρ' (st (q + 1)).H w') (hcv : VR ρ' (V q) cv) (hfut : Fut B0 ρ (st q).H w ρ' (st (q + 1)).H w') :
    ∃ q', Inv P ops ts0 H0 st I O V B0 ρ0 w0 a0 (fun j => if j = I q then true else S j) (a.put (O q).dst cv) w' ρ' q' := by
  obtain ⟨q', h1, h2, h3, h4⟩ := next_eff ops.size (fun x => kindOf (O x).op = .eff) (ops.size - (q + 1)) (q + 1) (by omega)
  have hpe : PushExt (st (q + 1)).H (st q').H := by
    have := (L.pushes_to hs (q' - (q + 1)) (q + 1) (by omega) (fun x g1 g2 => h4 x g1 (by omega))).1
    rwa [show q + 1 + (q' - (q + 1)) = q' by omega] at this
  have hle : Le ρ ρ' := hfut.le inv.rel
  refine ⟨q', ?_⟩
  exact {
    le := h2
    at_ := h3
    effs := fun x hx hxk => by
      by_cases e : I x = I q
      · have := L.inj x q hx hq e
        subst this
        simp; omega
      · have hxq : x ≠ q := fun h => e (by rw [h])
        simp only [if_neg e]
        rw [inv.effs x hx hxk]
        constructor
        · intro h; omega
        · intro h
          rcases Nat.lt_or_ge x (q + 1) with g | g
          · omega
          · exact absurd hxk (h4 x g h)
    rel := hrel.lateExt hpe
    size := by cases (O q).dst <;> simp [Act.put, inv.size]
    defers := by rw [put_defers]; exact inv.defers
    slots := fun t ht => inv.put L hq hno hons hle hcv t ht
    fut := (inv.fut.trans hfut).trans ⟨hpe.1, fun _ _ => rfl, Below.refl _ _, fun id hid _ => hpe.2 id hid⟩
    late := fun x hx hxS hxw hxk => by
      have hne : I x ≠ I q := by intro h; simp [h] at hxS
      simp only [if_neg hne] at hxS
      rcases Nat.lt_or_ge x q with g | g
      · obtain ⟨b1, b, b2, b3⟩ := inv.late x g hxS hxw hxk
        have hlt : (st x).H.n < (st q).H.n := Heap.get_lt b3
        refine ⟨by rw [hfut.ext _ hlt]; exact b1, b, b2, ?_⟩
        rw [hpe.2 _ (Nat.lt_of_lt_of_le hlt hfut.n), hfut.late _ hlt b1]
        exact b3
      · have hxq : x ≠ q := fun h => hne (by rw [h])
        have hxn : x < ops.size := by omega
        obtain ⟨_, _, hst⟩ := L.step x hxn
        rcases hst with ⟨_, ha, _⟩ | ⟨hw', _⟩
        · have hop := astep_noneff hs (by rw [hxk]; simp) ha
          obtain ⟨b, e, _⟩ := make_sim hxk hop
          have hge : (st (q + 1)).H.n ≤ (st x).H.n := by
            have := L.grows hs (x - (q + 1)) (q + 1) (by omega)
            rwa [show q + 1 + (x - (q + 1)) = x by omega] at this
          refine ⟨?_, b, e, ?_⟩
          · cases hr : ρ' (st x).H.n with
            | none => rfl
            | some M => have := (hrel.dom _ M hr).1; omega
          · have hp2 : PushExt (st (x + 1)).H (st q').H := by
              have := (L.pushes_to hs (q' - (x + 1)) (x + 1) (by omega) (fun y g1 g2 => h4 y (by omega) (by omega))).1
              rwa [show x + 1 + (q' - (x + 1)) = q' by omega] at this
            exact hp2.some (by rw [e]; exact get_push_self _ _)
        · rw [hxw] at hw'; cases hw'
    closed := fun i o ho hi j hj => by
      by_cases e : i = I q
      · subst e
        have : o = O q := by have := L.op q hq; rw [ho] at this; exact Option.some.inj this
        subst this
        split
        · rfl
        · exact hons j hj
      · simp only [if_neg e] at hi
        split
        · rfl
        · exact inv.closed i o ho hi j hj }

def SetOf (listed : Array Bool) (j : Nat) : Bool := listed.getD j false

theorem setOf_set (listed : Array Bool) (i : Nat) (hi : i < listed.size) : SetOf (listed.setIfInBounds i true) = fun j => if j = i then true else SetOf listed j := by
  funext j
  unfold SetOf
  rw [Array.getD_eq_getD_getElem?, Array.getD_eq_getD_getElem?]
  by_cases e : j = i
  · subst e; rw [Array.getElem?_setIfInBounds_self_of_lt hi]; simp
  · rw [Array.getElem?_setIfInBounds_ne (Ne.symm e), if_neg e]

theorem ready_iff (ops : Array Oper) (listed : Array Bool) (hl : listed.size = ops.size) (i : Nat) : i ∈ Region.ready .any ops listed ↔ i < ops.size ∧ SetOf listed i = false ∧ ∀ o, ops[i]? = some o → ∀ j ∈ onsOf o, SetOf listed j = true := by
  unfold Region.ready
  rw [List.mem_filter, List.mem_range]
  constructor
  · rintro ⟨h1, h2⟩
    simp only [Bool.and_eq_true, Bool.not_eq_true'] at h2
    obtain ⟨h2, h3⟩ := h2
    refine ⟨h1, ?_, fun o ho j hj => ?_⟩
    · unfold SetOf
      rw [Array.getD_eq_getD_getElem?, Array.getElem?_eq_getElem (by omega)] at h2 ⊢
      exact h2
    · rw [ho] at h3
      simp only [Option.map_some, Option.getD_some, Array.all_eq_true] at h3
      unfold onsOf at hj
      rw [List.mem_map] at hj
      obtain ⟨e, he, rfl⟩ := hj
      rw [List.mem_filter] at he
      obtain ⟨k, hk, rfl⟩ := Array.mem_iff_getElem.1 (Array.mem_toList_iff.1 he.1)
      have := h3 k hk
      simp only [Bool.or_eq_true, Bool.not_eq_true'] at this
      rcases this with h | h
      · rw [h] at he; exact absurd he.2 (by simp)
      · exact h
  · rintro ⟨h1, h2, h3⟩
    refine ⟨h1, ?_⟩
    simp only [Bool.and_eq_true, Bool.not_eq_true']
    refine ⟨?_, ?_⟩
    · unfold SetOf at h2
      rw [Array.getD_eq_getD_getElem?, Array.getElem?_eq_getElem (by omega)] at h2 ⊢
      exact h2
    · have ho : ops[i]? = some ops[i] := Array.getElem?_eq_getElem h1
      rw [ho]
      simp only [Option.map_some, Option.getD_some, Array.all_eq_true]
      intro k hk
      simp only [Bool.or_eq_true, Bool.not_eq_true']
      cases hb : Region.binds .any ops[i].after[k] with
      | false => exact .inl rfl
      | true =>
        right
        refine h3 _ ho _ ?_
        unfold onsOf
        rw [List.mem_map]
        exact ⟨ops[i].after[k], by rw [List.mem_filter]; exact ⟨by simp, hb⟩, rfl⟩

/-- If nothing is ready, all has been run. -/
theorem ready_nil (L : Laid P call ops ts0 H0 st I O V) {listed : Array Bool} (hl : listed.size = ops.size) (h : Region.ready .any ops listed = []) : ∀ i, i < ops.size → SetOf listed i = true := by
  intro i
  induction i using Nat.strongRecOn with
  | _ i ih =>
    intro hi
    cases hs : SetOf listed i with
    | true => rfl
    | false =>
      exfalso
      have : i ∈ Region.ready .any ops listed := by
        rw [ready_iff ops listed hl]
        refine ⟨hi, hs, fun o ho j hj => ?_⟩
        have := L.edges i o ho j hj
        exact ih j this (by omega)
      rw [h] at this
      cases this

theorem draw_any (L : Laid P call ops ts0 H0 st I O V) (hs : SimCall P call) {B0 : Nat} {ρ0 : Ren} {w0 : World} {a0 : Act} {Q : Exit → Act → World → Prop} (hts0 : ts0.size = (st ops.size).ts.size)
    (hQ : ∀ ρ' w' a', a'.defers = a0.defers → Rel B0 ρ' (st ops.size).H w' → VRs ρ' (st ops.size).ts.toList a'.tmps.toList → Fut B0 ρ0 H0 w0 ρ' (st ops.size).H w' → Q .normal a' w') :
    ∀ (fuel : Nat) (listed : Array Bool) (a : Act) (w : World) (ρ : Ren) (q : Nat), listed.size = ops.size → (List.range ops.size).countP (fun j => !SetOf listed j) = fuel →
      Inv P ops ts0 H0 st I O V B0 ρ0 w0 a0 (SetOf listed) a w ρ q → wpAny P .any ops Q fuel listed a w := by
  intro fuel
  have fin : ∀ (listed : Array Bool) (a : Act) (w : World) (ρ : Ren) (q : Nat), listed.size = ops.size → Inv P ops ts0 H0 st I O V B0 ρ0 w0 a0 (SetOf listed) a w ρ q → (∀ i, i < ops.size → SetOf listed i = true) → Q .normal a w := by
    intro listed a w ρ q hl inv hall
    have hq : q = ops.size := by
      rcases inv.at_ with e | e
      · exact e
      · rcases Nat.lt_or_ge q ops.size with h | h
        · exact absurd ((inv.effs q h e).1 (hall _ (L.lt q h))) (by omega)
        · have := inv.le; omega
    subst hq
    refine hQ ρ w a inv.defers inv.rel ?_ inv.fut
    obtain ⟨s1, s2⟩ := L.slots ops.size (Nat.le_refl _)
    refine VRs.of_get (by simp [inv.size, s1]) fun t v hv => ?_
    have ht : t < ts0.size := by
      rcases Nat.lt_or_ge t ts0.size with h | h
      · exact h
      · rw [List.getElem?_eq_none (by simp [s1]; exact h)] at hv; cases hv
    have e1 : v = (st ops.size).ts.getD t undefV := by
      rw [Array.getD_eq_getD_getElem?]
      have : (st ops.size).ts[t]? = some v := by simpa using hv
      rw [this]; rfl
    have h1 := inv.slots t ht
    have h2 : slotV ops O V ts0 (fun q => SetOf listed (I q)) t = slotV ops O V ts0 (fun q => decide (q < ops.size)) t := by
      unfold slotV
      cases hw : writer ops O t with
      | none => rfl
      | some x =>
        obtain ⟨x1, x2⟩ := writer_some t x hw
        simp [hall _ (L.lt x x1), x1]
    rw [h2, ← s2 t ht, ← e1] at h1
    refine ⟨a.tmps.getD t undef, ?_, h1⟩
    rw [Array.getD_eq_getD_getElem?]
    simp only [Array.getElem?_toList]
    rw [Array.getElem?_eq_getElem (by rw [inv.size]; exact ht)]; rfl
  induction fuel with
  | zero =>
    intro listed a w ρ q hl hc inv
    have hall : ∀ i, i < ops.size → SetOf listed i = true := by
      intro i hi
      rw [List.countP_eq_zero] at hc
      simpa using hc i (by simpa using hi)
    refine ⟨?_, fin listed a w ρ q hl inv hall⟩
    cases hr : Region.ready .any ops listed with
    | nil => rfl
    | cons x xs =>
      have : x ∈ Region.ready .any ops listed := by rw [hr]; exact List.mem_cons_self
      rw [ready_iff ops listed hl] at this
      rw [hall x this.1] at this
      exact absurd this.2.1 (by simp)
  | succ fuel ih =>
    intro listed a w ρ q hl hc inv
    refine ⟨fun hr => fin listed a w ρ q hl inv (ready_nil L hl hr), fun i hi => ?_⟩
    rw [ready_iff ops listed hl] at hi
    obtain ⟨hin, hno, hons⟩ := hi
    obtain ⟨p, hp, rfl⟩ := L.onto i hin
    have ho := L.op p hp
    have hons := hons _ ho
    have hcount : (List.range ops.size).countP (fun j => !SetOf (listed.setIfInBounds (I p) true) j) = fuel := by
      have := count_one ops.size (fun j => !SetOf listed j) (fun j => !SetOf (listed.setIfInBounds (I p) true) j) (I p) hin (by simp [hno]) (by rw [setOf_set _ _ (by omega)]; simp) (fun j hj => by rw [setOf_set _ _ (by omega)]; simp [hj])
      omega
    have next : ∀ a' w' ρ' q', Inv P ops ts0 H0 st I O V B0 ρ0 w0 a0 (fun j => if j = I p then true else SetOf listed j) a' w' ρ' q' → wpAny P .any ops Q fuel (listed.setIfInBounds (I p) true) a' w' := by
      intro a' w' ρ' q' inv'
      exact ih _ a' w' ρ' q' (by simpa using hl) hcount (by rw [setOf_set _ _ (by omega)]; exact inv')
    have hwant := inv.wanted L hp hno hons
    have hops := inv.opsVR L hp hno hons
    obtain ⟨_, hm, hst⟩ := L.step p hp
    unfold wpOp
    simp only [ho]
    rw [hwant]
    split
    · rename_i hw
      left
      rcases hst with ⟨_, ha, _, _⟩ | ⟨hw', _⟩
      rotate_left
      · rw [hw] at hw'; cases hw'
      cases hk : kindOf (O p).op with
      | quiet =>
        have hne : kindOf (O p).op ≠ .eff := by rw [hk]; simp
        obtain ⟨cv, g1, g2⟩ := (quiet_sim hk (astep_noneff hs hne ha)).2 ρ a.eval hops w
        unfold Oper.wp
        rw [g1]
        exact next _ _ ρ q (inv.quietly L hp hno hons hne inv.rel (Le.refl _) g2 (Below.refl _ _) (fun _ _ => rfl) (fun _ _ _ _ _ _ => rfl))
      | read =>
        have hne : kindOf (O p).op ≠ .eff := by rw [hk]; simp
        have hpq := inv.before L hp hno hons hne
        have hup : (st q).m ≤ (uptoL ops).getD (I p) 0 := by
          refine L.up p hp q inv.le fun e he hek hin2 => ?_
          have heS : SetOf listed (I e) = true := (inv.effs e (by have := inv.le; omega) hek).2 he
          have := bef_closed L.edges (S := fun x => SetOf listed x = true) inv.closed (I e) (O e) (L.op e (by have := inv.le; omega)) (fun j hj => inv.closed _ _ (L.op e (by have := inv.le; omega)) heS j hj) _ hin2
          rw [hno] at this; cases this
        have hheld := (L.held hs hp hk hw (q - (p + 1)) (by have := inv.le; omega) (by rwa [show p + 1 + (q - (p + 1)) = q by omega])).1
        rw [show p + 1 + (q - (p + 1)) = q by omega] at hheld
        cases hop : aop P (evalT (st p).ts) (O p) (st q).H with
        | none => rw [hop] at hheld; cases hheld
        | some y =>
          cases y with
          | call f args => rw [hop] at hheld; cases hheld
          | val u H1 =>
            rw [hop] at hheld
            simp only [valOf, Option.some.injEq] at hheld
            subst hheld
            obtain ⟨cv, g1, g2⟩ := (read_sim hk hop).2 B0 ρ w a.eval inv.rel hops
            unfold Oper.wp
            rw [g1]
            exact next _ _ ρ q (inv.quietly L hp hno hons hne inv.rel (Le.refl _) g2 (Below.refl _ _) (fun _ _ => rfl) (fun _ _ _ _ _ _ => rfl))
      | make =>
        have hne : kindOf (O p).op ≠ .eff := by rw [hk]; simp
        have hpq := inv.before L hp hno hons hne
        obtain ⟨b1, b, b2, b3⟩ := inv.late p hpq hno hw hk
        obtain ⟨b', e, hmk⟩ := make_sim hk (astep_noneff hs hne ha)
        have hbb : b' = b := by
          have h1 := get_push_self (st p).H b'
          rw [← e, b2, get_push_self] at h1
          exact (Option.some.inj h1).symm
        subst hbb
        obtain ⟨cv, w', M, g1, g2, g3, g4⟩ := hmk (st q).H B0 ρ w a.eval inv.rel (Heap.get_lt b3) b1 b3 hops
        unfold Oper.wp
        rw [g1]
        have hle : Le ρ (ρ.upd (st p).H.n M) := fun i M' h => by
          rw [Ren.upd_ne]; exact h
          intro e; subst e; rw [b1] at h; cases h
        have hH0 : H0.n ≤ (st p).H.n := by
          have := L.grows hs p 0 (by omega)
          rw [L.s0] at this
          rwa [Nat.zero_add] at this
        refine next _ _ _ q (inv.quietly L hp hno hons hne g3 hle g2 g4 (fun id hid => Ren.upd_ne _ _ (by omega)) fun p' h1 h2 h3 h4 h5 => Ren.upd_ne _ _ ?_)
        -- two places that make memory have unlike numbers
        intro heq
        have mk : ∀ x, x < ops.size → Region.wanted (O x) (yielded ops (st x).ts) = true → kindOf (O x).op = .make → (st (x + 1)).H.n = (st x).H.n + 1 := by
          intro x hx hxw hxk
          obtain ⟨_, _, hst⟩ := L.step x hx
          rcases hst with ⟨_, ha, _⟩ | ⟨hw', _⟩
          · obtain ⟨b, e, _⟩ := make_sim hxk (astep_noneff hs (by rw [hxk]; simp) ha)
            rw [e]; rfl
          · rw [hxw] at hw'; cases hw'
        have hp' : p' < ops.size := by have := inv.le; omega
        rcases Nat.lt_or_ge p p' with g | g
        · have h6 := mk p hp hw hk
          have h7 := L.grows hs (p' - (p + 1)) (p + 1) (by omega)
          rw [show p + 1 + (p' - (p + 1)) = p' by omega] at h7
          omega
        · have h6 := mk p' hp' h4 h5
          have h7 := L.grows hs (p - (p' + 1)) (p' + 1) (by omega)
          rw [show p' + 1 + (p - (p' + 1)) = p by omega] at h7
          omega
      | eff =>
        have hpq := inv.isNext L hp hno hons hk
        subst hpq
        refine step_sim hs ha inv.rel hops fun ρ' w' cv h1 h2 h3 => ?_
        obtain ⟨q', inv'⟩ := inv.behind L hs hp hk hno hons h2 h1 h3
        exact next _ _ ρ' q' inv'
    · rename_i hw
      rcases hst with ⟨hw', _⟩ | ⟨_, hV, hH, _⟩
      · exact absurd hw' hw
      · have hcv : VR ρ (V p) undef := by rw [hV]; exact .flat _ rfl
        by_cases hk : kindOf (O p).op = .eff
        · have hpq := inv.isNext L hp hno hons hk
          subst hpq
          obtain ⟨q', inv'⟩ := inv.behind L hs hp hk hno hons (by rw [hH]; exact inv.rel) hcv (by rw [hH]; exact Fut.refl _ _ _ _)
          exact next _ _ ρ q' inv'
        · exact next _ _ ρ q (inv.quietly L hp hno hons hk inv.rel (Le.refl _) hcv (Below.refl _ _) (fun _ _ => rfl) (fun _ _ _ _ _ _ => rfl))
end Go.Abs
