/- The abstract machine: the theorem of regions that draw their order. -/
import Derived.Test.YtiaibplflmjohaaAbsU
set_option linter.unusedVariables false
set_option linter.unusedSimpArgs false
namespace Go.Abs
open Go Go.RowKit
set_option linter.unusedVariables false
set_option linter.unusedSimpArgs false

/-- What a region's run has told, laid out by place: I the operation's number, O the operation, V what it gave. -/
structure Laid (P : Program) (call : CallFn) (ops : Array Oper) (ts0 : Array Value) (H0 : Heap) (st : Nat → DS) (I : Nat → Nat) (O : Nat → Oper) (V : Nat → Value) : Prop where
  s0 : st 0 = ⟨0, [], ts0, H0⟩
  step : ∀ p, p < ops.size → StepF P call ops (fun i => (uptoL ops).getD i 0) (st p) (st (p + 1)) (I p) (O p) (V p)
  lt : ∀ p, p < ops.size → I p < ops.size
  op : ∀ p, p < ops.size → ops[I p]? = some (O p)
  onto : ∀ i, i < ops.size → ∃ p, p < ops.size ∧ I p = i
  inj : ∀ p q, p < ops.size → q < ops.size → I p = I q → p = q
  edges : ∀ i o, ops[i]? = some o → ∀ j ∈ onsOf o, j < i
  bef : ∀ p, p < ops.size → ∀ x ∈ (befs ops).getD (I p) [], ∃ q, q < p ∧ I q = x
  last : ∀ p e, p < ops.size → e < p → kindOf (O e).op = .eff → (∀ x, e < x → x < p → kindOf (O x).op ≠ .eff) → I e ∈ (befs ops).getD (I p) []
  up : ∀ p, p < ops.size → ∀ q, q ≤ ops.size → (∀ e, e < q → kindOf (O e).op = .eff → I p ∉ (befs ops).getD (I e) []) → (st q).m ≤ (uptoL ops).getD (I p) 0
  dst : ∀ p q d, p < ops.size → q < ops.size → p ≠ q → (O q).dst = some d → (O p).dst ≠ some d
  look : ∀ p q d, p < ops.size → q < ops.size → (O q).dst = some d → d ∈ looks ops (O p) → I q ∈ (befs ops).getD (I p) [] ∨ I p ∈ (befs ops).getD (I q) []
  noG : ∀ p, p < ops.size → noGlobal (O p) = true

variable {P : Program} {call : CallFn} {ops : Array Oper} {ts0 : Array Value} {H0 : Heap} {st : Nat → DS} {I : Nat → Nat} {O : Nat → Oper} {V : Nat → Value}

/-- The place that writes a slot. -/
def writer (ops : Array Oper) (O : Nat → Oper) (t : Nat) : Option Nat := (List.range ops.size).find? fun q => decide ((O q).dst = some t)
theorem writer_some (t q : Nat) (h : writer ops O t = some q) : q < ops.size ∧ (O q).dst = some t := by
  unfold writer at h
  have h1 := List.find?_some h
  have h2 := List.mem_of_find?_eq_some h
  exact ⟨by simpa using h2, by simpa using h1⟩
theorem writer_is (L : Laid P call ops ts0 H0 st I O V) {t q : Nat} (hq : q < ops.size) (hd : (O q).dst = some t) : writer ops O t = some q := by
  cases h : writer ops O t with
  | none =>
    unfold writer at h
    rw [List.find?_eq_none] at h
    exact absurd hd (by simpa using h q (by simpa using hq))
  | some q' =>
    obtain ⟨h1, h2⟩ := writer_some t q' h
    by_cases e : q' = q
    · rw [e]
    · exact absurd hd (L.dst q q' t hq h1 (Ne.symm e) h2)

/-- What a slot holds when just these places have been run. -/
def slotV (ops : Array Oper) (O : Nat → Oper) (V : Nat → Value) (ts0 : Array Value) (C : Nat → Bool) (t : Nat) : Value :=
  match writer ops O t with
  | some q => if C q then V q else ts0.getD t undefV
  | none => ts0.getD t undefV

theorem putT_size (ts : Array Value) (d : Option Tmp) (v : Value) : (putT ts d v).size = ts.size := by cases d <;> simp [putT]
theorem putT_getD (ts : Array Value) (d : Option Tmp) (v : Value) (t : Nat) (ht : t < ts.size) : (putT ts d v).getD t undefV = if d = some t then v else ts.getD t undefV := by
  cases d with
  | none => simp [putT]
  | some d =>
    simp only [putT, Array.getD_eq_getD_getElem?, Option.some.injEq]
    by_cases e : d = t
    · subst e; rw [if_pos rfl, Array.getElem?_setIfInBounds_self_of_lt ht]; rfl
    · rw [if_neg e, Array.getElem?_setIfInBounds_ne e]

theorem Laid.slots (L : Laid P call ops ts0 H0 st I O V) : ∀ p, p ≤ ops.size → (st p).ts.size = ts0.size ∧ ∀ t, t < ts0.size → (st p).ts.getD t undefV = slotV ops O V ts0 (fun q => decide (q < p)) t := by
  intro p
  induction p with
  | zero =>
    intro _
    rw [L.s0]
    refine ⟨rfl, fun t ht => ?_⟩
    unfold slotV
    split <;> simp
  | succ p ih =>
    intro hp
    obtain ⟨h1, h2⟩ := ih (by omega)
    obtain ⟨g1, g2, g3⟩ := L.step p (by omega)
    refine ⟨by rw [g1, putT_size, h1], fun t ht => ?_⟩
    rw [g1, putT_getD _ _ _ _ (by omega)]
    by_cases e : (O p).dst = some t
    · rw [if_pos e]
      unfold slotV
      rw [writer_is L (by omega) e]
      simp
    · rw [if_neg e, h2 t ht]
      unfold slotV
      cases hw : writer ops O t with
      | none => rfl
      | some q =>
        obtain ⟨q1, q2⟩ := writer_some t q hw
        have : q ≠ p := fun x => e (x ▸ q2)
        simp only
        by_cases hqp : q < p
        · simp [hqp, show q < p + 1 by omega]
        · simp [hqp, show ¬ q < p + 1 by omega]

theorem Laid.looked (L : Laid P call ops ts0 H0 st I O V) {S : Nat → Bool} (hS : ∀ i o, ops[i]? = some o → S i = true → ∀ j ∈ onsOf o, S j = true) {p : Nat} (hp : p < ops.size) (hno : S (I p) = false) (hons : ∀ j ∈ onsOf (O p), S j = true) {t : Nat} (ht : t ∈ looks ops (O p)) :
    slotV ops O V ts0 (fun q => S (I q)) t = slotV ops O V ts0 (fun q => decide (q < p)) t := by
  have hbp : ∀ x ∈ (befs ops).getD (I p) [], S x = true := bef_closed L.edges (S := fun x => S x = true) hS (I p) (O p) (L.op p hp) hons
  unfold slotV
  cases hw : writer ops O t with
  | none => rfl
  | some q =>
    obtain ⟨q1, q2⟩ := writer_some t q hw
    simp only
    rcases L.look p q t hp q1 q2 ht with h | h
    · obtain ⟨q', h1, h2⟩ := L.bef p hp _ h
      have : q' = q := L.inj q' q (by omega) q1 h2
      subst this
      simp [hbp _ h, h1]
    · obtain ⟨p', h1, h2⟩ := L.bef q q1 _ h
      have : p' = p := L.inj p' p (by omega) hp h2
      subst this
      have hf : S (I q) = false := by
        cases hs : S (I q) with
        | false => rfl
        | true =>
          have := bef_closed L.edges (S := fun x => S x = true) hS (I q) (O q) (L.op q q1) (fun j hj => hS _ _ (L.op q q1) hs j hj) _ h
          rw [hno] at this; cases this
      simp [hf, show ¬ q < p' by omega]

/-- From a place on: the next effect, or the end. -/
theorem next_eff (n : Nat) (f : Nat → Prop) [DecidablePred f] : ∀ (d p : Nat), p + d = n → ∃ q, p ≤ q ∧ q ≤ n ∧ (q = n ∨ f q) ∧ ∀ x, p ≤ x → x < q → ¬ f x
  | 0, p, h => ⟨p, Nat.le_refl _, by omega, .inl (by omega), fun x h1 h2 => by omega⟩
  | d + 1, p, h => by
    by_cases e : f p
    · exact ⟨p, Nat.le_refl _, by omega, .inr e, fun x h1 h2 => by omega⟩
    · obtain ⟨q, h1, h2, h3, h4⟩ := next_eff n f d (p + 1) (by omega)
      refine ⟨q, by omega, h2, h3, fun x g1 g2 => ?_⟩
      by_cases ex : x = p
      · subst ex; exact e
      · exact h4 x (by omega) g2

theorem Laid.pushes (L : Laid P call ops ts0 H0 st I O V) (hs : SimCall P call) {p : Nat} (hp : p < ops.size) (hk : kindOf (O p).op ≠ .eff) : PushExt (st p).H (st (p + 1)).H := by
  obtain ⟨_, _, h⟩ := L.step p hp
  rcases h with ⟨_, h, _⟩ | ⟨_, _, h, _⟩
  · have h := astep_noneff hs hk h
    cases hq : kindOf (O p).op with
    | eff => exact absurd hq hk
    | quiet => rw [(quiet_sim hq h).1]; exact PushExt.refl _
    | read => rw [(read_sim hq h).1]; exact PushExt.refl _
    | make => obtain ⟨b, e, _⟩ := make_sim hq h; rw [e]; exact PushExt.push _ _
  · rw [h]; exact PushExt.refl _
theorem Laid.pushes_to (L : Laid P call ops ts0 H0 st I O V) (hs : SimCall P call) : ∀ (d p : Nat), p + d ≤ ops.size → (∀ x, p ≤ x → x < p + d → kindOf (O x).op ≠ .eff) → PushExt (st p).H (st (p + d)).H ∧ (st (p + d)).m = (st p).m
  | 0, p, _, _ => ⟨PushExt.refl _, rfl⟩
  | d + 1, p, h, hk => by
    obtain ⟨h1, h2⟩ := L.pushes_to hs d p (by omega) fun x g1 g2 => hk x g1 (by omega)
    have h3 := L.pushes hs (p := p + d) (by omega) (hk _ (by omega) (by omega))
    obtain ⟨_, g2, _⟩ := L.step (p + d) (by omega)
    exact ⟨h1.trans h3, by rw [show p + (d + 1) = p + d + 1 by omega, g2, if_neg (hk _ (by omega) (by omega)), h2]⟩
theorem Laid.grows (L : Laid P call ops ts0 H0 st I O V) (hs : SimCall P call) : ∀ (d p : Nat), p + d ≤ ops.size → (st p).H.n ≤ (st (p + d)).H.n
  | 0, p, _ => Nat.le_refl _
  | d + 1, p, h => by
    refine Nat.le_trans (L.grows hs d p (by omega)) ?_
    obtain ⟨_, _, g⟩ := L.step (p + d) (by omega)
    rcases g with ⟨_, g, _⟩ | ⟨_, _, g, _⟩
    · exact astep_n hs g
    · rw [show p + (d + 1) = p + d + 1 by omega, g]; exact Nat.le_refl _
theorem Laid.m_le (L : Laid P call ops ts0 H0 st I O V) : ∀ (d p : Nat), p + d ≤ ops.size → (st p).m ≤ (st (p + d)).m
  | 0, p, _ => Nat.le_refl _
  | d + 1, p, h => by
    refine Nat.le_trans (L.m_le d p (by omega)) ?_
    obtain ⟨_, g, _⟩ := L.step (p + d) (by omega)
    rw [show p + (d + 1) = p + d + 1 by omega, g]
    split <;> omega

/-- What was read stays as it was read, as long as it may still be read. -/
theorem Laid.held (L : Laid P call ops ts0 H0 st I O V) (hs : SimCall P call) {p : Nat} (hp : p < ops.size) (hk : kindOf (O p).op = .read) (hw : Region.wanted (O p) (yielded ops (st p).ts) = true) :
    ∀ d, p + 1 + d ≤ ops.size → (st (p + 1 + d)).m ≤ (uptoL ops).getD (I p) 0 →
      valOf (aop P (evalT (st p).ts) (O p) (st (p + 1 + d)).H) = some (V p) ∧
      ((uptoL ops).getD (I p) 0 ≠ (st p).m → (⟨(uptoL ops).getD (I p) 0, fun H => valOf (aop P (evalT (st p).ts) (O p) H), V p⟩ : Held) ∈ (st (p + 1 + d)).hs) := by
  obtain ⟨_, hm, hst⟩ := L.step p hp
  have hne : kindOf (O p).op ≠ .eff := by rw [hk]; simp
  rcases hst with ⟨_, ha, _, hhs⟩ | ⟨hw', _⟩
  rotate_left
  · rw [hw] at hw'; cases hw'
  have hop := astep_noneff hs hne ha
  have hH := (read_sim hk hop).1
  intro d
  induction d with
  | zero =>
    intro _ _
    refine ⟨?_, fun hu => ?_⟩
    · rw [Nat.add_zero, hH]; rw [hH] at hop; exact by rw [hop]; rfl
    · rw [Nat.add_zero, hhs, if_pos ⟨hk, hu⟩]; exact List.mem_cons_self
  | succ d ih =>
    intro hle hup
    have hx : p + 1 + d < ops.size := by omega
    obtain ⟨g1, g2, g3⟩ := L.step (p + 1 + d) hx
    rw [show p + 1 + (d + 1) = p + 1 + d + 1 by omega] at hup ⊢
    have hmle : (st (p + 1 + d)).m ≤ (uptoL ops).getD (I p) 0 := by rw [g2] at hup; split at hup <;> omega
    obtain ⟨i1, i2⟩ := ih (by omega) hmle
    have keep : (uptoL ops).getD (I p) 0 ≠ (st p).m → (⟨(uptoL ops).getD (I p) 0, fun H => valOf (aop P (evalT (st p).ts) (O p) H), V p⟩ : Held) ∈ (st (p + 1 + d + 1)).hs := by
      intro hu
      rcases g3 with ⟨_, _, _, e⟩ | ⟨_, _, _, e⟩
      · rw [e]; split
        · exact List.mem_cons_of_mem _ (i2 hu)
        · exact i2 hu
      · rw [e]; exact i2 hu
    refine ⟨?_, keep⟩
    by_cases he : kindOf (O (p + 1 + d)).op = .eff
    · rcases g3 with ⟨_, _, e, _⟩ | ⟨_, _, e, _⟩
      · have hh := e he
        have hmp : (st (p + 1)).m ≤ (st (p + 1 + d)).m := L.m_le d (p + 1) (by omega)
        have hpm : (st (p + 1)).m = (st p).m := by rw [hm, if_neg hne]
        rw [g2, if_pos he] at hup
        have := i2 (by omega)
        unfold heldOk at hh
        rw [List.all_eq_true] at hh
        have hq := hh _ this
        simp only [Bool.or_eq_true, decide_eq_true_eq] at hq
        rcases hq with hq | hq
        · omega
        · split at hq
          · rename_i v hv
            rw [hv, veq_sound _ _ hq]
          · cases hq
      · rw [e]; exact i1
    · have hx2 := L.pushes hs hx he
      cases ha2 : aop P (evalT (st p).ts) (O p) (st (p + 1 + d)).H with
      | none => rw [ha2] at i1; cases i1
      | some y =>
        cases y with
        | call f args => rw [ha2] at i1; cases i1
        | val u H1 =>
          rw [ha2] at i1
          simp only [valOf, Option.some.injEq] at i1
          subst i1
          exact read_ext hk ha2 hx2
end Go.Abs
