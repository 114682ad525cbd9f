/- Of this session: a machine of its own, proved beside the model, and what the functions of the row come to on it; Lean checks all of it. -/
import Derived.Test.YthjpgccpnakfdaaMachB
import Derived.LoopN
import Derived.Scope
import Derived.IntWalk
set_option linter.unusedVariables false
set_option linter.unusedSimpArgs false
set_option linter.unusedSectionVars false
/- The abstract machine: a region that draws its order, beside the model's. -/
namespace Go.Abs
open Go Go.RowKit
set_option linter.unusedVariables false
set_option linter.unusedSimpArgs false

theorem agrow_n {elem size len n : Nat} {base : Option Addr} {cap : Nat} {xs : List Value} {H H' : Heap} {v : Value} (h : agrow elem size len n base cap xs H = some (v, H')) : H.n ≤ H'.n := by
  unfold agrow at h
  (repeat' split at h) <;> first
    | (cases h; done)
    | (injection h with h; injection h with h1 h2; subst h2; simp; done)
    | (simp only [Option.map_eq_some_iff] at h
       obtain ⟨H1, hs, h⟩ := h
       injection h with h1 h2; subst h2
       first
         | (simp; done)
         | (unfold astoreAt at hs; (repeat' split at hs) <;> first | (cases hs; done) | (injection hs with hs; subst hs; simp)))
theorem astoreAt_n {id off : Nat} {vs : List Value} {H H' : Heap} (h : astoreAt id off vs H = some H') : H.n ≤ H'.n := by
  unfold astoreAt at h
  (repeat' split at h) <;> first | (cases h; done) | (injection h with h; subst h; simp)
theorem eff_n {P : Program} {ev : Operand → Value} {o : Oper} {H H' : Heap} {v : Value} (hk : kindOf o.op = .eff) (h : aop P ev o H = some (.val v H')) : H.n ≤ H'.n := by
    obtain ⟨dst, op, type, pos, after, guard⟩ := o
    cases op <;> simp only [kindOf] at hk <;> try (cases hk)
    case store t a x =>
      simp only [aop, Option.map_eq_some_iff] at h
      obtain ⟨H1, hs, h⟩ := h
      injection h with h1 h2; subst h2
      unfold astore at hs
      (repeat' split at hs) <;> first | (cases hs; done) | exact astoreAt_n hs
    case mapUpdate t m k x =>
      simp only [aop, Option.map_eq_some_iff] at h
      obtain ⟨H1, hs, h⟩ := h
      injection h with h1 h2; subst h2
      unfold aupdate at hs
      (repeat' split at hs) <;> first | (cases hs; done) | (injection hs with hs; subst hs; simp)
    case insert t m k x =>
      simp only [aop, Option.map_eq_some_iff] at h
      obtain ⟨H1, hs, h⟩ := h
      injection h with h1 h2; subst h2
      unfold aupdate at hs
      (repeat' split at hs) <;> first | (cases hs; done) | (injection hs with hs; subst hs; simp)
    case call c =>
      obtain ⟨callee, args, ts⟩ := c
      cases callee with
      | value f => simp only [aop] at h; split at h <;> simp at h
      | invoke rc name => simp only [aop] at h; split at h <;> simp at h
      | builtin b =>
        cases b
        case append =>
          simp only [aop, Option.map_eq_some_iff] at h
          obtain ⟨⟨u, H1⟩, hs, h⟩ := h
          injection h with h1 h2; subst h2
          unfold aappend at hs
          (repeat' split at hs) <;> first | (cases hs; done) | exact agrow_n hs
        case copy =>
          simp only [aop, Option.map_eq_some_iff] at h
          obtain ⟨⟨u, H1⟩, hs, h⟩ := h
          injection h with h1 h2; subst h2
          unfold acopy at hs
          (repeat' split at hs) <;> first
            | (cases hs; done)
            | (injection hs with hs; injection hs with h1 h2; subst h2; exact Nat.le_refl _)
            | (simp only [Option.map_eq_some_iff] at hs
               obtain ⟨H2, hs, h⟩ := hs
               injection h with h1 h2; subst h2
               exact astoreAt_n hs)
        all_goals first
          | (simp at hk; done)
          | (simp [aop] at h; done)
theorem aop_n {P : Program} {ev : Operand → Value} {o : Oper} {H H' : Heap} {v : Value} (h : aop P ev o H = some (.val v H')) : H.n ≤ H'.n := by
  cases hk : kindOf o.op with
  | quiet => rw [(quiet_sim hk h).1]; exact Nat.le_refl _
  | read => rw [(read_sim hk h).1]; exact Nat.le_refl _
  | make => obtain ⟨b, e, _⟩ := make_sim hk h; rw [e]; simp
  | eff => exact eff_n hk h
theorem astep_n {P : Program} {call : CallFn} (hs : SimCall P call) {ev : Operand → Value} {o : Oper} {H H' : Heap} {v : Value} (h : astep P call ev o H = some (v, H')) : H.n ≤ H'.n := by
  unfold astep at h
  split at h
  · rename_i u H1 hop; injection h with h; injection h with h1 h2; subst h2; exact aop_n hop
  · exact (hs _ _ _ _ _ h).2.1
  · cases h
theorem astep_noneff {P : Program} {call : CallFn} (hs : SimCall P call) {ev : Operand → Value} {o : Oper} {H H' : Heap} {v : Value} (hk : kindOf o.op ≠ .eff) (h : astep P call ev o H = some (v, H')) : aop P ev o H = some (.val v H') := by
  unfold astep at h
  split at h
  · rename_i u H1 hop; injection h with h; injection h with h1 h2; subst h1; subst h2; exact hop
  · rename_i f args hop; exact absurd (call_sim hop (hs _ _ _ _ _ h).1).1 hk
  · cases h

/-- One step of a run. -/
def StepF (P : Program) (call : CallFn) (ops : Array Oper) (up : Nat → Nat) (s s' : DS) (i : Nat) (o : Oper) (v : Value) : Prop :=
  s'.ts = putT s.ts o.dst v ∧ s'.m = (if kindOf o.op = .eff then s.m + 1 else s.m) ∧
  ((Region.wanted o (yielded ops s.ts) = true ∧ astep P call (evalT s.ts) o s.H = some (v, s'.H) ∧ (kindOf o.op = .eff → heldOk (s.m + 1) s'.H s.hs = true) ∧
     s'.hs = (if kindOf o.op = .read ∧ up i ≠ s.m then ⟨up i, fun H => valOf (aop P (evalT s.ts) o H), v⟩ :: s.hs else s.hs)) ∨
   (Region.wanted o (yielded ops s.ts) = false ∧ v = undefV ∧ s'.H = s.H ∧ s'.hs = s.hs))

theorem dstep_spec {P : Program} {call : CallFn} {ops : Array Oper} {up : Nat → Nat} {s s' : DS} {i : Nat} {o : Oper} (ho : ops[i]? = some o) (h : dstep P call ops up s i = some s') : ∃ v, StepF P call ops up s s' i o v := by
  unfold dstep at h
  simp only [ho] at h
  split at h
  · rename_i hw
    split at h
    · rename_i v H' hst
      split at h
      · cases h
      · rename_i hb
        injection h with h; subst h
        refine ⟨v, rfl, rfl, .inl ⟨hw, hst, fun he => ?_, rfl⟩⟩
        cases hh : heldOk (s.m + 1) H' s.hs with
        | true => rfl
        | false => exact absurd ⟨he, hh⟩ hb
    · cases h
  · rename_i hw
    injection h with h; subst h
    exact ⟨undefV, rfl, rfl, .inr ⟨by simpa using hw, rfl, rfl, rfl⟩⟩

theorem count_one (n : Nat) (f g : Nat → Bool) (i : Nat) (hi : i < n) (h : f i = true) (h' : g i = false) (ho : ∀ j, j ≠ i → g j = f j) : (List.range n).countP f = (List.range n).countP g + 1 := by
  induction n with
  | zero => omega
  | succ n ih =>
    rw [List.range_succ, List.countP_append, List.countP_append]
    by_cases e : i = n
    · subst e
      have : (List.range i).countP f = (List.range i).countP g := by
        apply List.countP_congr
        intro j hj
        have : j < i := by simpa using hj
        rw [ho j (by omega)]
      simp [this, h, h']
    · have := ih (by omega)
      rw [this]
      simp only [List.countP_cons, List.countP_nil, ho n (Ne.symm e)]
      omega
end Go.Abs
/- The abstract machine: the theorem of regions that draw their order. -/
namespace Go.Abs
open Go Go.RowKit
set_option linter.unusedVariables false
set_option linter.unusedSimpArgs false

/-- What a region's run has told, laid out by place: I the operation's number, O the operation, V what it gave. -/
structure Laid (P : Program) (call : CallFn) (ops : Array Oper) (ts0 : Array Value) (H0 : Heap) (st : Nat → DS) (I : Nat → Nat) (O : Nat → Oper) (V : Nat → Value) : Prop where
  s0 : st 0 = ⟨0, [], ts0, H0⟩
  step : ∀ p, p < ops.size → StepF P call ops (fun i => (uptoL ops).getD i 0) (st p) (st (p + 1)) (I p) (O p) (V p)
  lt : ∀ p, p < ops.size → I p < ops.size
  op : ∀ p, p < ops.size → ops[I p]? = some (O p)
  onto : ∀ i, i < ops.size → ∃ p, p < ops.size ∧ I p = i
  inj : ∀ p q, p < ops.size → q < ops.size → I p = I q → p = q
  edges : ∀ i o, ops[i]? = some o → ∀ j ∈ onsOf o, j < i
  bef : ∀ p, p < ops.size → ∀ x ∈ (befs ops).getD (I p) [], ∃ q, q < p ∧ I q = x
  last : ∀ p e, p < ops.size → e < p → kindOf (O e).op = .eff → (∀ x, e < x → x < p → kindOf (O x).op ≠ .eff) → I e ∈ (befs ops).getD (I p) []
  up : ∀ p, p < ops.size → ∀ q, q ≤ ops.size → (∀ e, e < q → kindOf (O e).op = .eff → I p ∉ (befs ops).getD (I e) []) → (st q).m ≤ (uptoL ops).getD (I p) 0
  dst : ∀ p q d, p < ops.size → q < ops.size → p ≠ q → (O q).dst = some d → (O p).dst ≠ some d
  look : ∀ p q d, p < ops.size → q < ops.size → (O q).dst = some d → d ∈ looks ops (O p) → I q ∈ (befs ops).getD (I p) [] ∨ I p ∈ (befs ops).getD (I q) []
  noG : ∀ p, p < ops.size → noGlobal (O p) = true

variable {P : Program} {call : CallFn} {ops : Array Oper} {ts0 : Array Value} {H0 : Heap} {st : Nat → DS} {I : Nat → Nat} {O : Nat → Oper} {V : Nat → Value}

/-- The place that writes a slot. -/
def writer (ops : Array Oper) (O : Nat → Oper) (t : Nat) : Option Nat := (List.range ops.size).find? fun q => decide ((O q).dst = some t)
theorem writer_some (t q : Nat) (h : writer ops O t = some q) : q < ops.size ∧ (O q).dst = some t := by
  unfold writer at h
  have h1 := List.find?_some h
  have h2 := List.mem_of_find?_eq_some h
  exact ⟨by simpa using h2, by simpa using h1⟩
theorem writer_is (L : Laid P call ops ts0 H0 st I O V) {t q : Nat} (hq : q < ops.size) (hd : (O q).dst = some t) : writer ops O t = some q := by
  cases h : writer ops O t with
  | none =>
    unfold writer at h
    rw [List.find?_eq_none] at h
    exact absurd hd (by simpa using h q (by simpa using hq))
  | some q' =>
    obtain ⟨h1, h2⟩ := writer_some t q' h
    by_cases e : q' = q
    · rw [e]
    · exact absurd hd (L.dst q q' t hq h1 (Ne.symm e) h2)

/-- What a slot holds when just these places have been run. -/
def slotV (ops : Array Oper) (O : Nat → Oper) (V : Nat → Value) (ts0 : Array Value) (C : Nat → Bool) (t : Nat) : Value :=
  match writer ops O t with
  | some q => if C q then V q else ts0.getD t undefV
  | none => ts0.getD t undefV

theorem putT_size (ts : Array Value) (d : Option Tmp) (v : Value) : (putT ts d v).size = ts.size := by cases d <;> simp [putT]
theorem putT_getD (ts : Array Value) (d : Option Tmp) (v : Value) (t : Nat) (ht : t < ts.size) : (putT ts d v).getD t undefV = if d = some t then v else ts.getD t undefV := by
  cases d with
  | none => simp [putT]
  | some d =>
    simp only [putT, Array.getD_eq_getD_getElem?, Option.some.injEq]
    by_cases e : d = t
    · subst e; rw [if_pos rfl, Array.getElem?_setIfInBounds_self_of_lt ht]; rfl
    · rw [if_neg e, Array.getElem?_setIfInBounds_ne e]

theorem Laid.slots (L : Laid P call ops ts0 H0 st I O V) : ∀ p, p ≤ ops.size → (st p).ts.size = ts0.size ∧ ∀ t, t < ts0.size → (st p).ts.getD t undefV = slotV ops O V ts0 (fun q => decide (q < p)) t := by
  intro p
  induction p with
  | zero =>
    intro _
    rw [L.s0]
    refine ⟨rfl, fun t ht => ?_⟩
    unfold slotV
    split <;> simp
  | succ p ih =>
    intro hp
    obtain ⟨h1, h2⟩ := ih (by omega)
    obtain ⟨g1, g2, g3⟩ := L.step p (by omega)
    refine ⟨by rw [g1, putT_size, h1], fun t ht => ?_⟩
    rw [g1, putT_getD _ _ _ _ (by omega)]
    by_cases e : (O p).dst = some t
    · rw [if_pos e]
      unfold slotV
      rw [writer_is L (by omega) e]
      simp
    · rw [if_neg e, h2 t ht]
      unfold slotV
      cases hw : writer ops O t with
      | none => rfl
      | some q =>
        obtain ⟨q1, q2⟩ := writer_some t q hw
        have : q ≠ p := fun x => e (x ▸ q2)
        simp only
        by_cases hqp : q < p
        · simp [hqp, show q < p + 1 by omega]
        · simp [hqp, show ¬ q < p + 1 by omega]

theorem Laid.looked (L : Laid P call ops ts0 H0 st I O V) {S : Nat → Bool} (hS : ∀ i o, ops[i]? = some o → S i = true → ∀ j ∈ onsOf o, S j = true) {p : Nat} (hp : p < ops.size) (hno : S (I p) = false) (hons : ∀ j ∈ onsOf (O p), S j = true) {t : Nat} (ht : t ∈ looks ops (O p)) :
    slotV ops O V ts0 (fun q => S (I q)) t = slotV ops O V ts0 (fun q => decide (q < p)) t := by
  have hbp : ∀ x ∈ (befs ops).getD (I p) [], S x = true := bef_closed L.edges (S := fun x => S x = true) hS (I p) (O p) (L.op p hp) hons
  unfold slotV
  cases hw : writer ops O t with
  | none => rfl
  | some q =>
    obtain ⟨q1, q2⟩ := writer_some t q hw
    simp only
    rcases L.look p q t hp q1 q2 ht with h | h
    · obtain ⟨q', h1, h2⟩ := L.bef p hp _ h
      have : q' = q := L.inj q' q (by omega) q1 h2
      subst this
      simp [hbp _ h, h1]
    · obtain ⟨p', h1, h2⟩ := L.bef q q1 _ h
      have : p' = p := L.inj p' p (by omega) hp h2
      subst this
      have hf : S (I q) = false := by
        cases hs : S (I q) with
        | false => rfl
        | true =>
          have := bef_closed L.edges (S := fun x => S x = true) hS (I q) (O q) (L.op q q1) (fun j hj => hS _ _ (L.op q q1) hs j hj) _ h
          rw [hno] at this; cases this
      simp [hf, show ¬ q < p' by omega]

/-- From a place on: the next effect, or the end. -/
theorem next_eff (n : Nat) (f : Nat → Prop) [DecidablePred f] : ∀ (d p : Nat), p + d = n → ∃ q, p ≤ q ∧ q ≤ n ∧ (q = n ∨ f q) ∧ ∀ x, p ≤ x → x < q → ¬ f x
  | 0, p, h => ⟨p, Nat.le_refl _, by omega, .inl (by omega), fun x h1 h2 => by omega⟩
  | d + 1, p, h => by
    by_cases e : f p
    · exact ⟨p, Nat.le_refl _, by omega, .inr e, fun x h1 h2 => by omega⟩
    · obtain ⟨q, h1, h2, h3, h4⟩ := next_eff n f d (p + 1) (by omega)
      refine ⟨q, by omega, h2, h3, fun x g1 g2 => ?_⟩
      by_cases ex : x = p
      · subst ex; exact e
      · exact h4 x (by omega) g2

theorem Laid.pushes (L : Laid P call ops ts0 H0 st I O V) (hs : SimCall P call) {p : Nat} (hp : p < ops.size) (hk : kindOf (O p).op ≠ .eff) : PushExt (st p).H (st (p + 1)).H := by
  obtain ⟨_, _, h⟩ := L.step p hp
  rcases h with ⟨_, h, _⟩ | ⟨_, _, h, _⟩
  · have h := astep_noneff hs hk h
    cases hq : kindOf (O p).op with
    | eff => exact absurd hq hk
    | quiet => rw [(quiet_sim hq h).1]; exact PushExt.refl _
    | read => rw [(read_sim hq h).1]; exact PushExt.refl _
    | make => obtain ⟨b, e, _⟩ := make_sim hq h; rw [e]; exact PushExt.push _ _
  · rw [h]; exact PushExt.refl _
theorem Laid.pushes_to (L : Laid P call ops ts0 H0 st I O V) (hs : SimCall P call) : ∀ (d p : Nat), p + d ≤ ops.size → (∀ x, p ≤ x → x < p + d → kindOf (O x).op ≠ .eff) → PushExt (st p).H (st (p + d)).H ∧ (st (p + d)).m = (st p).m
  | 0, p, _, _ => ⟨PushExt.refl _, rfl⟩
  | d + 1, p, h, hk => by
    obtain ⟨h1, h2⟩ := L.pushes_to hs d p (by omega) fun x g1 g2 => hk x g1 (by omega)
    have h3 := L.pushes hs (p := p + d) (by omega) (hk _ (by omega) (by omega))
    obtain ⟨_, g2, _⟩ := L.step (p + d) (by omega)
    exact ⟨h1.trans h3, by rw [show p + (d + 1) = p + d + 1 by omega, g2, if_neg (hk _ (by omega) (by omega)), h2]⟩
theorem Laid.grows (L : Laid P call ops ts0 H0 st I O V) (hs : SimCall P call) : ∀ (d p : Nat), p + d ≤ ops.size → (st p).H.n ≤ (st (p + d)).H.n
  | 0, p, _ => Nat.le_refl _
  | d + 1, p, h => by
    refine Nat.le_trans (L.grows hs d p (by omega)) ?_
    obtain ⟨_, _, g⟩ := L.step (p + d) (by omega)
    rcases g with ⟨_, g, _⟩ | ⟨_, _, g, _⟩
    · exact astep_n hs g
    · rw [show p + (d + 1) = p + d + 1 by omega, g]; exact Nat.le_refl _
theorem Laid.m_le (L : Laid P call ops ts0 H0 st I O V) : ∀ (d p : Nat), p + d ≤ ops.size → (st p).m ≤ (st (p + d)).m
  | 0, p, _ => Nat.le_refl _
  | d + 1, p, h => by
    refine Nat.le_trans (L.m_le d p (by omega)) ?_
    obtain ⟨_, g, _⟩ := L.step (p + d) (by omega)
    rw [show p + (d + 1) = p + d + 1 by omega, g]
    split <;> omega

/-- What was read stays as it was read, as long as it may still be read. -/
theorem Laid.held (L : Laid P call ops ts0 H0 st I O V) (hs : SimCall P call) {p : Nat} (hp : p < ops.size) (hk : kindOf (O p).op = .read) (hw : Region.wanted (O p) (yielded ops (st p).ts) = true) :
    ∀ d, p + 1 + d ≤ ops.size → (st (p + 1 + d)).m ≤ (uptoL ops).getD (I p) 0 →
      valOf (aop P (evalT (st p).ts) (O p) (st (p + 1 + d)).H) = some (V p) ∧
      ((uptoL ops).getD (I p) 0 ≠ (st p).m → (⟨(uptoL ops).getD (I p) 0, fun H => valOf (aop P (evalT (st p).ts) (O p) H), V p⟩ : Held) ∈ (st (p + 1 + d)).hs) := by
  obtain ⟨_, hm, hst⟩ := L.step p hp
  have hne : kindOf (O p).op ≠ .eff := by rw [hk]; simp
  rcases hst with ⟨_, ha, _, hhs⟩ | ⟨hw', _⟩
  rotate_left
  · rw [hw] at hw'; cases hw'
  have hop := astep_noneff hs hne ha
  have hH := (read_sim hk hop).1
  intro d
  induction d with
  | zero =>
    intro _ _
    refine ⟨?_, fun hu => ?_⟩
    · rw [Nat.add_zero, hH]; rw [hH] at hop; exact by rw [hop]; rfl
    · rw [Nat.add_zero, hhs, if_pos ⟨hk, hu⟩]; exact List.mem_cons_self
  | succ d ih =>
    intro hle hup
    have hx : p + 1 + d < ops.size := by omega
    obtain ⟨g1, g2, g3⟩ := L.step (p + 1 + d) hx
    rw [show p + 1 + (d + 1) = p + 1 + d + 1 by omega] at hup ⊢
    have hmle : (st (p + 1 + d)).m ≤ (uptoL ops).getD (I p) 0 := by rw [g2] at hup; split at hup <;> omega
    obtain ⟨i1, i2⟩ := ih (by omega) hmle
    have keep : (uptoL ops).getD (I p) 0 ≠ (st p).m → (⟨(uptoL ops).getD (I p) 0, fun H => valOf (aop P (evalT (st p).ts) (O p) H), V p⟩ : Held) ∈ (st (p + 1 + d + 1)).hs := by
      intro hu
      rcases g3 with ⟨_, _, _, e⟩ | ⟨_, _, _, e⟩
      · rw [e]; split
        · exact List.mem_cons_of_mem _ (i2 hu)
        · exact i2 hu
      · rw [e]; exact i2 hu
    refine ⟨?_, keep⟩
    by_cases he : kindOf (O (p + 1 + d)).op = .eff
    · rcases g3 with ⟨_, _, e, _⟩ | ⟨_, _, e, _⟩
      · have hh := e he
        have hmp : (st (p + 1)).m ≤ (st (p + 1 + d)).m := L.m_le d (p + 1) (by omega)
        have hpm : (st (p + 1)).m = (st p).m := by rw [hm, if_neg hne]
        rw [g2, if_pos he] at hup
        have := i2 (by omega)
        unfold heldOk at hh
        rw [List.all_eq_true] at hh
        have hq := hh _ this
        simp only [Bool.or_eq_true, decide_eq_true_eq] at hq
        rcases hq with hq | hq
        · omega
        · split at hq
          · rename_i v hv
            rw [hv, veq_sound _ _ hq]
          · cases hq
      · rw [e]; exact i1
    · have hx2 := L.pushes hs hx he
      cases ha2 : aop P (evalT (st p).ts) (O p) (st (p + 1 + d)).H with
      | none => rw [ha2] at i1; cases i1
      | some y =>
        cases y with
        | call f args => rw [ha2] at i1; cases i1
        | val u H1 =>
          rw [ha2] at i1
          simp only [valOf, Option.some.injEq] at i1
          subst i1
          exact read_ext hk ha2 hx2
end Go.Abs
/- The abstract machine: a region in whatever order, beside its run in one order. -/
namespace Go.Abs
open Go Go.RowKit
set_option linter.unusedVariables false
set_option linter.unusedSimpArgs false

variable {P : Program} {call : CallFn} {ops : Array Oper} {ts0 : Array Value} {H0 : Heap} {st : Nat → DS} {I : Nat → Nat} {O : Nat → Oper} {V : Nat → Value}

/-- Where the model stands, some operations run: as behind the effects among them. -/
structure Inv (P : Program) (ops : Array Oper) (ts0 : Array Value) (H0 : Heap) (st : Nat → DS) (I : Nat → Nat) (O : Nat → Oper) (V : Nat → Value) (B0 : Nat) (ρ0 : Ren) (w0 : World) (a0 : Act) (S : Nat → Bool) (a : Act) (w : World) (ρ : Ren) (q : Nat) : Prop where
  le : q ≤ ops.size
  at_ : q = ops.size ∨ kindOf (O q).op = .eff
  effs : ∀ p, p < ops.size → kindOf (O p).op = .eff → (S (I p) = true ↔ p < q)
  rel : Rel B0 ρ (st q).H w
  size : a.tmps.size = ts0.size
  defers : a.defers = a0.defers
  slots : ∀ t, t < ts0.size → VR ρ (slotV ops O V ts0 (fun q => S (I q)) t) (a.tmps.getD t undef)
  fut : Fut B0 ρ0 H0 w0 ρ (st q).H w
  late : ∀ p, p < q → S (I p) = false → Region.wanted (O p) (yielded ops (st p).ts) = true → kindOf (O p).op = .make →
    ρ (st p).H.n = none ∧ ∃ b, (st (p + 1)).H = (st p).H.push b ∧ (st q).H.get (st p).H.n = some b
  closed : ∀ i o, ops[i]? = some o → S i = true → ∀ j ∈ onsOf o, S j = true

theorem looks_operand {o : Oper} {t : Nat} (h : Operand.tmp t ∈ o.op.operands) : t ∈ looks ops o := by
  unfold looks Oper.looksAt
  rw [List.mem_append]
  left
  rw [List.mem_filterMap]
  exact ⟨.tmp t, by simpa using h, rfl⟩

section step
variable {B0 : Nat} {ρ0 : Ren} {w0 : World} {a0 a : Act} {S : Nat → Bool} {w : World} {ρ : Ren} {q p : Nat}

theorem Inv.opsVR (L : Laid P call ops ts0 H0 st I O V) (inv : Inv P ops ts0 H0 st I O V B0 ρ0 w0 a0 S a w ρ q) (hp : p < ops.size) (hno : S (I p) = false) (hons : ∀ j ∈ onsOf (O p), S j = true) : OpsVR ρ (evalT (st p).ts) a.eval (O p) := by
  intro x hx
  have hg : noGlobalOp x = true := by
    have := L.noG p hp
    simp only [noGlobal, Array.all_eq_true] at this
    obtain ⟨i, hi, rfl⟩ := Array.mem_iff_getElem.1 hx
    exact this i hi
  cases x with
  | tmp t =>
    obtain ⟨s1, s2⟩ := L.slots p (by omega)
    show VR ρ ((st p).ts.getD t undefV) (a.tmps.getD t undef)
    by_cases ht : t < ts0.size
    · rw [s2 t ht, ← L.looked inv.closed hp hno hons (looks_operand hx)]
      exact inv.slots t ht
    · have e1 : (st p).ts.getD t undefV = undefV := by
        rw [Array.getD_eq_getD_getElem?, Array.getElem?_eq_none (by rw [s1]; exact Nat.le_of_not_lt ht)]; rfl
      have e2 : a.tmps.getD t undef = undefV := by
        rw [Array.getD_eq_getD_getElem?, Array.getElem?_eq_none (by rw [inv.size]; exact Nat.le_of_not_lt ht)]; rfl
      rw [e1, e2]; exact .flat _ rfl
  | const v => exact .flat v hg
  | global g => cases hg
  | func f => exact .flat _ rfl

theorem Inv.wanted (L : Laid P call ops ts0 H0 st I O V) (inv : Inv P ops ts0 H0 st I O V B0 ρ0 w0 a0 S a w ρ q) (hp : p < ops.size) (hno : S (I p) = false) (hons : ∀ j ∈ onsOf (O p), S j = true) : Region.wanted (O p) (yielded ops a.tmps) = Region.wanted (O p) (yielded ops (st p).ts) := by
  unfold Region.wanted
  cases hgd : (O p).guard with
  | none => rfl
  | some g =>
    obtain ⟨g, want⟩ := g
    simp only
    have : yielded ops a.tmps g = yielded ops (st p).ts g := by
      unfold yielded
      cases hd : (ops[g]?).bind (·.dst) with
      | none => rfl
      | some d =>
        simp only [Option.bind_some]
        obtain ⟨s1, s2⟩ := L.slots p (by omega)
        have hl : d ∈ looks ops (O p) := by
          unfold looks Oper.looksAt
          rw [List.mem_append]
          right
          rw [hgd]
          simp [hd]
        by_cases ht : d < ts0.size
        · have h1 := inv.slots d ht
          rw [L.looked inv.closed hp hno hons hl, ← s2 d ht] at h1
          have e1 : (st p).ts[d]? = some ((st p).ts.getD d undefV) := by
            rw [Array.getD_eq_getD_getElem?, Array.getElem?_eq_getElem (by rw [s1]; exact ht)]; rfl
          have e2 : a.tmps[d]? = some (a.tmps.getD d undef) := by
            rw [Array.getD_eq_getD_getElem?, Array.getElem?_eq_getElem (by rw [inv.size]; exact ht)]; rfl
          rw [e1, e2]
          generalize (st p).ts.getD d undefV = x at h1
          generalize a.tmps.getD d undef = y at h1
          cases h1 <;> rfl
        · have e1 : (st p).ts[d]? = none := Array.getElem?_eq_none (by rw [s1]; exact Nat.le_of_not_lt ht)
          have e2 : a.tmps[d]? = none := Array.getElem?_eq_none (by rw [inv.size]; exact Nat.le_of_not_lt ht)
          rw [e1, e2]
    rw [this]

theorem Inv.before (L : Laid P call ops ts0 H0 st I O V) (inv : Inv P ops ts0 H0 st I O V B0 ρ0 w0 a0 S a w ρ q) (hp : p < ops.size) (hno : S (I p) = false) (hons : ∀ j ∈ onsOf (O p), S j = true) (hk : kindOf (O p).op ≠ .eff) : p < q := by
  rcases Nat.lt_or_ge p q with h | h
  · exact h
  · exfalso
    rcases inv.at_ with e | e
    · omega
    · have hpq : p ≠ q := fun x => hk (x ▸ e)
      have hbp : ∀ x ∈ (befs ops).getD (I p) [], S x = true := bef_closed L.edges (S := fun x => S x = true) inv.closed (I p) (O p) (L.op p hp) hons
      -- the last effect ahead of p stands at q or behind it
      have : ∀ d, d ≤ p - q → (∀ x, q + d < x → x < p → kindOf (O x).op ≠ .eff) → False := by
        intro d
        induction d with
        | zero =>
          intro _ hx
          have := hbp _ (L.last p q hp (by omega) e (by simpa using hx))
          exact absurd ((inv.effs q (by omega) e).1 this) (by omega)
        | succ d ih =>
          intro hd hx
          by_cases ex : kindOf (O (q + (d + 1))).op = .eff
          · rcases Nat.lt_or_ge (q + (d + 1)) p with hl | hl
            · have := hbp _ (L.last p _ hp hl ex hx)
              exact absurd ((inv.effs _ (by omega) ex).1 this) (by omega)
            · have : q + (d + 1) = p := by omega
              rw [this] at ex; exact hk ex
          · refine ih (by omega) fun x h1 h2 => ?_
            rcases Nat.lt_or_ge (q + (d + 1)) x with hl | hl
            · exact hx x hl h2
            · have : x = q + (d + 1) := by omega
              rw [this]; exact ex
      exact this (p - q) (Nat.le_refl _) (fun x h1 h2 => by omega)
theorem Inv.isNext (L : Laid P call ops ts0 H0 st I O V) (inv : Inv P ops ts0 H0 st I O V B0 ρ0 w0 a0 S a w ρ q) (hp : p < ops.size) (hno : S (I p) = false) (hons : ∀ j ∈ onsOf (O p), S j = true) (hk : kindOf (O p).op = .eff) : p = q := by
  have hge : q ≤ p := by
    rcases Nat.lt_or_ge p q with h | h
    · have := (inv.effs p hp hk).2 h; rw [hno] at this; cases this
    · exact h
  rcases Nat.lt_or_ge q p with h | h
  · exfalso
    rcases inv.at_ with e | e
    · omega
    · have hbp : ∀ x ∈ (befs ops).getD (I p) [], S x = true := bef_closed L.edges (S := fun x => S x = true) inv.closed (I p) (O p) (L.op p hp) hons
      have : ∀ d, q + d < p → (∀ x, q + d < x → x < p → kindOf (O x).op ≠ .eff) → False := by
        intro d
        induction d with
        | zero =>
          intro _ hx
          have := hbp _ (L.last p q hp (by omega) e (by simpa using hx))
          exact absurd ((inv.effs q (by omega) e).1 this) (by omega)
        | succ d ih =>
          intro hd hx
          by_cases ex : kindOf (O (q + (d + 1))).op = .eff
          · have := hbp _ (L.last p _ hp hd ex hx)
            exact absurd ((inv.effs _ (by omega) ex).1 this) (by omega)
          · refine ih (by omega) fun x h1 h2 => ?_
            rcases Nat.lt_or_ge (q + (d + 1)) x with hl | hl
            · exact hx x hl h2
            · have : x = q + (d + 1) := by omega
              rw [this]; exact ex
      exact this (p - 1 - q) (by omega) (fun x h1 h2 => by omega)
  · omega

/-- The slots behind it. -/
theorem Inv.put (L : Laid P call ops ts0 H0 st I O V) (inv : Inv P ops ts0 H0 st I O V B0 ρ0 w0 a0 S a w ρ q) (hp : p < ops.size) (hno : S (I p) = false) (hons : ∀ j ∈ onsOf (O p), S j = true) {ρ' : Ren} (hle : Le ρ ρ') {cv : Value} (hcv : VR ρ' (V p) cv) (t : Nat) (ht : t < ts0.size) :
    VR ρ' (slotV ops O V ts0 (fun q => if I q = I p then true else S (I q)) t) ((a.put (O p).dst cv).tmps.getD t undef) := by
  by_cases e : (O p).dst = some t
  · have h1 : slotV ops O V ts0 (fun q => if I q = I p then true else S (I q)) t = V p := by
      unfold slotV; rw [writer_is L hp e]; simp
    rw [h1, e]
    simp only [Act.put, Array.getD_eq_getD_getElem?]
    rw [Array.getElem?_setIfInBounds_self_of_lt (by rw [inv.size]; exact ht)]
    exact hcv
  · have h1 : slotV ops O V ts0 (fun q => if I q = I p then true else S (I q)) t = slotV ops O V ts0 (fun q => S (I q)) t := by
      unfold slotV
      cases hw : writer ops O t with
      | none => rfl
      | some x =>
        obtain ⟨x1, x2⟩ := writer_some t x hw
        have : I x ≠ I p := fun h => e (by rw [← L.inj x p x1 hp h]; exact x2)
        simp [this]
    have h2 : (a.put (O p).dst cv).tmps.getD t undef = a.tmps.getD t undef := by
      cases hd : (O p).dst with
      | none => rfl
      | some d =>
        have : d ≠ t := fun h => e (by rw [hd, h])
        simp only [Act.put, Array.getD_eq_getD_getElem?, Array.getElem?_setIfInBounds_ne this]
    rw [h1, h2]
    exact (inv.slots t ht).mono hle

/-- Behind an operation that is no effect. -/
theorem Inv.quietly (L : Laid P call ops ts0 H0 st I O V) (inv : Inv P ops ts0 H0 st I O V B0 ρ0 w0 a0 S a w ρ q) (hp : p < ops.size) (hno : S (I p) = false) (hons : ∀ j ∈ onsOf (O p), S j = true) (hk : kindOf (O p).op ≠ .eff) {ρ' : Ren} {w' : World} {cv : Value} (hrel : Rel B0 ρ' (st q).H w') (hle : Le ρ ρ') (hcv : VR ρ' (V p) cv) (hbel : Below B0 w w') (hext : ∀ id, id < H0.n → ρ' id = ρ id)
    (hlate : ∀ p', p' < q → S (I p') = false → p' ≠ p → Region.wanted (O p') (yielded ops (st p').ts) = true → kindOf (O p').op = .make → ρ' (st p').H.n = ρ (st p').H.n) :
    Inv P ops ts0 H0 st I O V B0 ρ0 w0 a0 (fun j => if j = I p then true else S j) (a.put (O p).dst cv) w' ρ' q where
  le := inv.le
  at_ := inv.at_
  effs := fun x hx hxk => by
    have hne : I x ≠ I p := fun h => hk (by rw [← L.inj x p hx hp h]; exact hxk)
    simp only [if_neg hne]
    exact inv.effs x hx hxk
  rel := hrel
  size := by cases (O p).dst <;> simp [Act.put, inv.size]
  defers := by rw [put_defers]; exact inv.defers
  slots := fun t ht => inv.put L hp hno hons hle hcv t ht
  fut := ⟨inv.fut.n, fun id hid => (hext id hid).trans (inv.fut.ext id hid), inv.fut.below.trans hbel, inv.fut.late⟩
  late := fun x hx hxS hxw hxk => by
    have hne : I x ≠ I p := by intro h; simp [h] at hxS
    simp only [if_neg hne] at hxS
    obtain ⟨b1, b2⟩ := inv.late x hx hxS hxw hxk
    exact ⟨by rw [hlate x hx hxS (fun h => hne (by rw [h])) hxw hxk]; exact b1, b2⟩
  closed := fun i o ho hi j hj => by
    by_cases e : i = I p
    · subst e
      have : o = O p := by have := L.op p hp; rw [ho] at this; exact Option.some.inj this
      subst this
      split
      · rfl
      · exact hons j hj
    · simp only [if_neg e] at hi
      split
      · rfl
      · exact inv.closed i o ho hi j hj
end step
end Go.Abs
/- The abstract machine: a region in whatever order: the theorem. -/
namespace Go.Abs
open Go Go.RowKit
set_option linter.unusedVariables false
set_option linter.unusedSimpArgs false
set_option linter.unusedSectionVars false

variable {P : Program} {call : CallFn} {ops : Array Oper} {ts0 : Array Value} {H0 : Heap} {st : Nat → DS} {I : Nat → Nat} {O : Nat → Oper} {V : Nat → Value}

/-- Behind an effect. -/
theorem Inv.behind (L : Laid P call ops ts0 H0 st I O V) (hs : SimCall P call) {B0 : Nat} {ρ0 : Ren} {w0 : World} {a0 a : Act} {S : Nat → Bool} {w : World} {ρ : Ren} {q : Nat}
    (inv : Inv P ops ts0 H0 st I O V B0 ρ0 w0 a0 S a w ρ q) (hq : q < ops.size) (hk : kindOf (O q).op = .eff) (hno : S (I q) = false) (hons : ∀ j ∈ onsOf (O q), S j = true)
    {ρ' : Ren} {w' : World} {cv : Value} (hrel : Rel B0 ρ' (st (q + 1)).H w') (hcv : VR ρ' (V q) cv) (hfut : Fut B0 ρ (st q).H w ρ' (st (q + 1)).H w') :
    ∃ q', Inv P ops ts0 H0 st I O V B0 ρ0 w0 a0 (fun j => if j = I q then true else S j) (a.put (O q).dst cv) w' ρ' q' := by
  obtain ⟨q', h1, h2, h3, h4⟩ := next_eff ops.size (fun x => kindOf (O x).op = .eff) (ops.size - (q + 1)) (q + 1) (by omega)
  have hpe : PushExt (st (q + 1)).H (st q').H := by
    have := (L.pushes_to hs (q' - (q + 1)) (q + 1) (by omega) (fun x g1 g2 => h4 x g1 (by omega))).1
    rwa [show q + 1 + (q' - (q + 1)) = q' by omega] at this
  have hle : Le ρ ρ' := hfut.le inv.rel
  refine ⟨q', ?_⟩
  exact {
    le := h2
    at_ := h3
    effs := fun x hx hxk => by
      by_cases e : I x = I q
      · have := L.inj x q hx hq e
        subst this
        simp; omega
      · have hxq : x ≠ q := fun h => e (by rw [h])
        simp only [if_neg e]
        rw [inv.effs x hx hxk]
        constructor
        · intro h; omega
        · intro h
          rcases Nat.lt_or_ge x (q + 1) with g | g
          · omega
          · exact absurd hxk (h4 x g h)
    rel := hrel.lateExt hpe
    size := by cases (O q).dst <;> simp [Act.put, inv.size]
    defers := by rw [put_defers]; exact inv.defers
    slots := fun t ht => inv.put L hq hno hons hle hcv t ht
    fut := (inv.fut.trans hfut).trans ⟨hpe.1, fun _ _ => rfl, Below.refl _ _, fun id hid _ => hpe.2 id hid⟩
    late := fun x hx hxS hxw hxk => by
      have hne : I x ≠ I q := by intro h; simp [h] at hxS
      simp only [if_neg hne] at hxS
      rcases Nat.lt_or_ge x q with g | g
      · obtain ⟨b1, b, b2, b3⟩ := inv.late x g hxS hxw hxk
        have hlt : (st x).H.n < (st q).H.n := Heap.get_lt b3
        refine ⟨by rw [hfut.ext _ hlt]; exact b1, b, b2, ?_⟩
        rw [hpe.2 _ (Nat.lt_of_lt_of_le hlt hfut.n), hfut.late _ hlt b1]
        exact b3
      · have hxq : x ≠ q := fun h => hne (by rw [h])
        have hxn : x < ops.size := by omega
        obtain ⟨_, _, hst⟩ := L.step x hxn
        rcases hst with ⟨_, ha, _⟩ | ⟨hw', _⟩
        · have hop := astep_noneff hs (by rw [hxk]; simp) ha
          obtain ⟨b, e, _⟩ := make_sim hxk hop
          have hge : (st (q + 1)).H.n ≤ (st x).H.n := by
            have := L.grows hs (x - (q + 1)) (q + 1) (by omega)
            rwa [show q + 1 + (x - (q + 1)) = x by omega] at this
          refine ⟨?_, b, e, ?_⟩
          · cases hr : ρ' (st x).H.n with
            | none => rfl
            | some M => have := (hrel.dom _ M hr).1; omega
          · have hp2 : PushExt (st (x + 1)).H (st q').H := by
              have := (L.pushes_to hs (q' - (x + 1)) (x + 1) (by omega) (fun y g1 g2 => h4 y (by omega) (by omega))).1
              rwa [show x + 1 + (q' - (x + 1)) = q' by omega] at this
            exact hp2.some (by rw [e]; exact get_push_self _ _)
        · rw [hxw] at hw'; cases hw'
    closed := fun i o ho hi j hj => by
      by_cases e : i = I q
      · subst e
        have : o = O q := by have := L.op q hq; rw [ho] at this; exact Option.some.inj this
        subst this
        split
        · rfl
        · exact hons j hj
      · simp only [if_neg e] at hi
        split
        · rfl
        · exact inv.closed i o ho hi j hj }

def SetOf (listed : Array Bool) (j : Nat) : Bool := listed.getD j false

theorem setOf_set (listed : Array Bool) (i : Nat) (hi : i < listed.size) : SetOf (listed.setIfInBounds i true) = fun j => if j = i then true else SetOf listed j := by
  funext j
  unfold SetOf
  rw [Array.getD_eq_getD_getElem?, Array.getD_eq_getD_getElem?]
  by_cases e : j = i
  · subst e; rw [Array.getElem?_setIfInBounds_self_of_lt hi]; simp
  · rw [Array.getElem?_setIfInBounds_ne (Ne.symm e), if_neg e]

theorem ready_iff (ops : Array Oper) (listed : Array Bool) (hl : listed.size = ops.size) (i : Nat) : i ∈ Region.ready .any ops listed ↔ i < ops.size ∧ SetOf listed i = false ∧ ∀ o, ops[i]? = some o → ∀ j ∈ onsOf o, SetOf listed j = true := by
  unfold Region.ready
  rw [List.mem_filter, List.mem_range]
  constructor
  · rintro ⟨h1, h2⟩
    simp only [Bool.and_eq_true, Bool.not_eq_true'] at h2
    obtain ⟨h2, h3⟩ := h2
    refine ⟨h1, ?_, fun o ho j hj => ?_⟩
    · unfold SetOf
      rw [Array.getD_eq_getD_getElem?, Array.getElem?_eq_getElem (by omega)] at h2 ⊢
      exact h2
    · rw [ho] at h3
      simp only [Option.map_some, Option.getD_some, Array.all_eq_true] at h3
      unfold onsOf at hj
      rw [List.mem_map] at hj
      obtain ⟨e, he, rfl⟩ := hj
      rw [List.mem_filter] at he
      obtain ⟨k, hk, rfl⟩ := Array.mem_iff_getElem.1 (Array.mem_toList_iff.1 he.1)
      have := h3 k hk
      simp only [Bool.or_eq_true, Bool.not_eq_true'] at this
      rcases this with h | h
      · rw [h] at he; exact absurd he.2 (by simp)
      · exact h
  · rintro ⟨h1, h2, h3⟩
    refine ⟨h1, ?_⟩
    simp only [Bool.and_eq_true, Bool.not_eq_true']
    refine ⟨?_, ?_⟩
    · unfold SetOf at h2
      rw [Array.getD_eq_getD_getElem?, Array.getElem?_eq_getElem (by omega)] at h2 ⊢
      exact h2
    · have ho : ops[i]? = some ops[i] := Array.getElem?_eq_getElem h1
      rw [ho]
      simp only [Option.map_some, Option.getD_some, Array.all_eq_true]
      intro k hk
      simp only [Bool.or_eq_true, Bool.not_eq_true']
      cases hb : Region.binds .any ops[i].after[k] with
      | false => exact .inl rfl
      | true =>
        right
        refine h3 _ ho _ ?_
        unfold onsOf
        rw [List.mem_map]
        exact ⟨ops[i].after[k], by rw [List.mem_filter]; exact ⟨by simp, hb⟩, rfl⟩

/-- If nothing is ready, all has been run. -/
theorem ready_nil (L : Laid P call ops ts0 H0 st I O V) {listed : Array Bool} (hl : listed.size = ops.size) (h : Region.ready .any ops listed = []) : ∀ i, i < ops.size → SetOf listed i = true := by
  intro i
  induction i using Nat.strongRecOn with
  | _ i ih =>
    intro hi
    cases hs : SetOf listed i with
    | true => rfl
    | false =>
      exfalso
      have : i ∈ Region.ready .any ops listed := by
        rw [ready_iff ops listed hl]
        refine ⟨hi, hs, fun o ho j hj => ?_⟩
        have := L.edges i o ho j hj
        exact ih j this (by omega)
      rw [h] at this
      cases this

theorem draw_any (L : Laid P call ops ts0 H0 st I O V) (hs : SimCall P call) {B0 : Nat} {ρ0 : Ren} {w0 : World} {a0 : Act} {Q : Exit → Act → World → Prop} (hts0 : ts0.size = (st ops.size).ts.size)
    (hQ : ∀ ρ' w' a', a'.defers = a0.defers → Rel B0 ρ' (st ops.size).H w' → VRs ρ' (st ops.size).ts.toList a'.tmps.toList → Fut B0 ρ0 H0 w0 ρ' (st ops.size).H w' → Q .normal a' w') :
    ∀ (fuel : Nat) (listed : Array Bool) (a : Act) (w : World) (ρ : Ren) (q : Nat), listed.size = ops.size → (List.range ops.size).countP (fun j => !SetOf listed j) = fuel →
      Inv P ops ts0 H0 st I O V B0 ρ0 w0 a0 (SetOf listed) a w ρ q → wpAny P .any ops Q fuel listed a w := by
  intro fuel
  have fin : ∀ (listed : Array Bool) (a : Act) (w : World) (ρ : Ren) (q : Nat), listed.size = ops.size → Inv P ops ts0 H0 st I O V B0 ρ0 w0 a0 (SetOf listed) a w ρ q → (∀ i, i < ops.size → SetOf listed i = true) → Q .normal a w := by
    intro listed a w ρ q hl inv hall
    have hq : q = ops.size := by
      rcases inv.at_ with e | e
      · exact e
      · rcases Nat.lt_or_ge q ops.size with h | h
        · exact absurd ((inv.effs q h e).1 (hall _ (L.lt q h))) (by omega)
        · have := inv.le; omega
    subst hq
    refine hQ ρ w a inv.defers inv.rel ?_ inv.fut
    obtain ⟨s1, s2⟩ := L.slots ops.size (Nat.le_refl _)
    refine VRs.of_get (by simp [inv.size, s1]) fun t v hv => ?_
    have ht : t < ts0.size := by
      rcases Nat.lt_or_ge t ts0.size with h | h
      · exact h
      · rw [List.getElem?_eq_none (by simp [s1]; exact h)] at hv; cases hv
    have e1 : v = (st ops.size).ts.getD t undefV := by
      rw [Array.getD_eq_getD_getElem?]
      have : (st ops.size).ts[t]? = some v := by simpa using hv
      rw [this]; rfl
    have h1 := inv.slots t ht
    have h2 : slotV ops O V ts0 (fun q => SetOf listed (I q)) t = slotV ops O V ts0 (fun q => decide (q < ops.size)) t := by
      unfold slotV
      cases hw : writer ops O t with
      | none => rfl
      | some x =>
        obtain ⟨x1, x2⟩ := writer_some t x hw
        simp [hall _ (L.lt x x1), x1]
    rw [h2, ← s2 t ht, ← e1] at h1
    refine ⟨a.tmps.getD t undef, ?_, h1⟩
    rw [Array.getD_eq_getD_getElem?]
    simp only [Array.getElem?_toList]
    rw [Array.getElem?_eq_getElem (by rw [inv.size]; exact ht)]; rfl
  induction fuel with
  | zero =>
    intro listed a w ρ q hl hc inv
    have hall : ∀ i, i < ops.size → SetOf listed i = true := by
      intro i hi
      rw [List.countP_eq_zero] at hc
      simpa using hc i (by simpa using hi)
    refine ⟨?_, fin listed a w ρ q hl inv hall⟩
    cases hr : Region.ready .any ops listed with
    | nil => rfl
    | cons x xs =>
      have : x ∈ Region.ready .any ops listed := by rw [hr]; exact List.mem_cons_self
      rw [ready_iff ops listed hl] at this
      rw [hall x this.1] at this
      exact absurd this.2.1 (by simp)
  | succ fuel ih =>
    intro listed a w ρ q hl hc inv
    refine ⟨fun hr => fin listed a w ρ q hl inv (ready_nil L hl hr), fun i hi => ?_⟩
    rw [ready_iff ops listed hl] at hi
    obtain ⟨hin, hno, hons⟩ := hi
    obtain ⟨p, hp, rfl⟩ := L.onto i hin
    have ho := L.op p hp
    have hons := hons _ ho
    have hcount : (List.range ops.size).countP (fun j => !SetOf (listed.setIfInBounds (I p) true) j) = fuel := by
      have := count_one ops.size (fun j => !SetOf listed j) (fun j => !SetOf (listed.setIfInBounds (I p) true) j) (I p) hin (by simp [hno]) (by rw [setOf_set _ _ (by omega)]; simp) (fun j hj => by rw [setOf_set _ _ (by omega)]; simp [hj])
      omega
    have next : ∀ a' w' ρ' q', Inv P ops ts0 H0 st I O V B0 ρ0 w0 a0 (fun j => if j = I p then true else SetOf listed j) a' w' ρ' q' → wpAny P .any ops Q fuel (listed.setIfInBounds (I p) true) a' w' := by
      intro a' w' ρ' q' inv'
      exact ih _ a' w' ρ' q' (by simpa using hl) hcount (by rw [setOf_set _ _ (by omega)]; exact inv')
    have hwant := inv.wanted L hp hno hons
    have hops := inv.opsVR L hp hno hons
    obtain ⟨_, hm, hst⟩ := L.step p hp
    unfold wpOp
    simp only [ho]
    rw [hwant]
    split
    · rename_i hw
      left
      rcases hst with ⟨_, ha, _, _⟩ | ⟨hw', _⟩
      rotate_left
      · rw [hw] at hw'; cases hw'
      cases hk : kindOf (O p).op with
      | quiet =>
        have hne : kindOf (O p).op ≠ .eff := by rw [hk]; simp
        obtain ⟨cv, g1, g2⟩ := (quiet_sim hk (astep_noneff hs hne ha)).2 ρ a.eval hops w
        unfold Oper.wp
        rw [g1]
        exact next _ _ ρ q (inv.quietly L hp hno hons hne inv.rel (Le.refl _) g2 (Below.refl _ _) (fun _ _ => rfl) (fun _ _ _ _ _ _ => rfl))
      | read =>
        have hne : kindOf (O p).op ≠ .eff := by rw [hk]; simp
        have hpq := inv.before L hp hno hons hne
        have hup : (st q).m ≤ (uptoL ops).getD (I p) 0 := by
          refine L.up p hp q inv.le fun e he hek hin2 => ?_
          have heS : SetOf listed (I e) = true := (inv.effs e (by have := inv.le; omega) hek).2 he
          have := bef_closed L.edges (S := fun x => SetOf listed x = true) inv.closed (I e) (O e) (L.op e (by have := inv.le; omega)) (fun j hj => inv.closed _ _ (L.op e (by have := inv.le; omega)) heS j hj) _ hin2
          rw [hno] at this; cases this
        have hheld := (L.held hs hp hk hw (q - (p + 1)) (by have := inv.le; omega) (by rwa [show p + 1 + (q - (p + 1)) = q by omega])).1
        rw [show p + 1 + (q - (p + 1)) = q by omega] at hheld
        cases hop : aop P (evalT (st p).ts) (O p) (st q).H with
        | none => rw [hop] at hheld; cases hheld
        | some y =>
          cases y with
          | call f args => rw [hop] at hheld; cases hheld
          | val u H1 =>
            rw [hop] at hheld
            simp only [valOf, Option.some.injEq] at hheld
            subst hheld
            obtain ⟨cv, g1, g2⟩ := (read_sim hk hop).2 B0 ρ w a.eval inv.rel hops
            unfold Oper.wp
            rw [g1]
            exact next _ _ ρ q (inv.quietly L hp hno hons hne inv.rel (Le.refl _) g2 (Below.refl _ _) (fun _ _ => rfl) (fun _ _ _ _ _ _ => rfl))
      | make =>
        have hne : kindOf (O p).op ≠ .eff := by rw [hk]; simp
        have hpq := inv.before L hp hno hons hne
        obtain ⟨b1, b, b2, b3⟩ := inv.late p hpq hno hw hk
        obtain ⟨b', e, hmk⟩ := make_sim hk (astep_noneff hs hne ha)
        have hbb : b' = b := by
          have h1 := get_push_self (st p).H b'
          rw [← e, b2, get_push_self] at h1
          exact (Option.some.inj h1).symm
        subst hbb
        obtain ⟨cv, w', M, g1, g2, g3, g4⟩ := hmk (st q).H B0 ρ w a.eval inv.rel (Heap.get_lt b3) b1 b3 hops
        unfold Oper.wp
        rw [g1]
        have hle : Le ρ (ρ.upd (st p).H.n M) := fun i M' h => by
          rw [Ren.upd_ne]; exact h
          intro e; subst e; rw [b1] at h; cases h
        have hH0 : H0.n ≤ (st p).H.n := by
          have := L.grows hs p 0 (by omega)
          rw [L.s0] at this
          rwa [Nat.zero_add] at this
        refine next _ _ _ q (inv.quietly L hp hno hons hne g3 hle g2 g4 (fun id hid => Ren.upd_ne _ _ (by omega)) fun p' h1 h2 h3 h4 h5 => Ren.upd_ne _ _ ?_)
        -- two places that make memory have unlike numbers
        intro heq
        have mk : ∀ x, x < ops.size → Region.wanted (O x) (yielded ops (st x).ts) = true → kindOf (O x).op = .make → (st (x + 1)).H.n = (st x).H.n + 1 := by
          intro x hx hxw hxk
          obtain ⟨_, _, hst⟩ := L.step x hx
          rcases hst with ⟨_, ha, _⟩ | ⟨hw', _⟩
          · obtain ⟨b, e, _⟩ := make_sim hxk (astep_noneff hs (by rw [hxk]; simp) ha)
            rw [e]; rfl
          · rw [hxw] at hw'; cases hw'
        have hp' : p' < ops.size := by have := inv.le; omega
        rcases Nat.lt_or_ge p p' with g | g
        · have h6 := mk p hp hw hk
          have h7 := L.grows hs (p' - (p + 1)) (p + 1) (by omega)
          rw [show p + 1 + (p' - (p + 1)) = p' by omega] at h7
          omega
        · have h6 := mk p' hp' h4 h5
          have h7 := L.grows hs (p - (p' + 1)) (p' + 1) (by omega)
          rw [show p' + 1 + (p - (p' + 1)) = p by omega] at h7
          omega
      | eff =>
        have hpq := inv.isNext L hp hno hons hk
        subst hpq
        refine step_sim hs ha inv.rel hops fun ρ' w' cv h1 h2 h3 => ?_
        obtain ⟨q', inv'⟩ := inv.behind L hs hp hk hno hons h2 h1 h3
        exact next _ _ ρ' q' inv'
    · rename_i hw
      rcases hst with ⟨hw', _⟩ | ⟨_, hV, hH, _⟩
      · exact absurd hw' hw
      · have hcv : VR ρ (V p) undef := by rw [hV]; exact .flat _ rfl
        by_cases hk : kindOf (O p).op = .eff
        · have hpq := inv.isNext L hp hno hons hk
          subst hpq
          obtain ⟨q', inv'⟩ := inv.behind L hs hp hk hno hons (by rw [hH]; exact inv.rel) hcv (by rw [hH]; exact Fut.refl _ _ _ _)
          exact next _ _ ρ q' inv'
        · exact next _ _ ρ q (inv.quietly L hp hno hons hk inv.rel (Le.refl _) hcv (Below.refl _ _) (fun _ _ => rfl) (fun _ _ _ _ _ _ => rfl))
end Go.Abs
/- The abstract machine: code and calls, beside the model's. -/
namespace Go.Abs
open Go Go.RowKit
set_option linter.unusedVariables false
set_option linter.unusedSimpArgs false
set_option linter.unusedSectionVars false

def effB (ops : Array Oper) (i : Nat) : Bool := match ops[i]? with | some o => decide (kindOf o.op = .eff) | none => false
theorem effs_eq (ops : Array Oper) (l : List Nat) : effs ops l = l.filter (effB ops) := rfl
theorem effB_iff {ops : Array Oper} {i : Nat} {o : Oper} (h : ops[i]? = some o) : effB ops i = true ↔ kindOf o.op = .eff := by simp [effB, h]

theorem draw_sim {P : Program} {call : CallFn} (hs : SimCall P call) (hmix : P.follows .mixedOrders = true) {id : Nat} {ops : Array Oper} (hg : ops.all noGlobal = true) (hd : drawOk ops = true) {ts0 tsN : Array Value} {H0 HN : Heap}
    (h : adraw P call ops (fun i => (uptoL ops).getD i 0) (canon ops) 0 [] ts0 H0 = some (tsN, HN)) {B0 : Nat} {ρ0 : Ren} {w0 : World} {a0 : Act} {Q : Exit → Act → World → Prop} (r0 : Rel B0 ρ0 H0 w0) (hv0 : VRs ρ0 ts0.toList a0.tmps.toList)
    (hQ : ∀ ρ' w' a', a'.defers = a0.defers → Rel B0 ρ' HN w' → VRs ρ' tsN.toList a'.tmps.toList → Fut B0 ρ0 H0 w0 ρ' HN w' → Q .normal a' w') :
    (Code.region id ops true).wp P Q a0 w0 := by
  unfold drawOk at hd
  simp only [Bool.and_eq_true, decide_eq_true_eq] at hd
  obtain ⟨⟨⟨⟨⟨d1, d2⟩, d3⟩, d4⟩, d5⟩, d6⟩ := hd
  obtain ⟨st, s0, s1, s2, s3⟩ := adraw_fold P call ops _ _ _ _ _ _ _ h
  rw [d2] at s1 s2
  have hord : ∀ p, p < ops.size → (canon ops)[p]? = some ((canon ops).getD p 0) := by
    intro p hp
    have : p < (canon ops).length := by omega
    simp [List.getD, List.getElem?_eq_getElem this]
  have hlt : ∀ p, p < ops.size → (canon ops).getD p 0 < ops.size := by
    intro p hp
    rw [List.all_eq_true] at d3
    simpa using d3 _ (List.mem_of_getElem? (hord p hp))
  have hop : ∀ p, p < ops.size → ops[(canon ops).getD p 0]? = some (ops.getD ((canon ops).getD p 0) default) := by
    intro p hp
    rw [Array.getD_eq_getD_getElem?, Array.getElem?_eq_getElem (hlt p hp)]; rfl
  have hedges : ∀ i o, ops[i]? = some o → ∀ j ∈ onsOf o, j < i := by
    intro i o ho j hj
    have hi : i < ops.size := (Array.getElem?_eq_some_iff.1 ho).1
    rw [List.all_eq_true] at d1
    have := d1 i (by simpa using hi)
    rw [Array.getD_eq_getD_getElem?, ho] at this
    simp only [Option.getD_some, List.all_eq_true, decide_eq_true_eq] at this
    exact this j hj
  have hex : ∀ p, ∃ v, p < ops.size → StepF P call ops (fun i => (uptoL ops).getD i 0) (st p) (st (p + 1)) ((canon ops).getD p 0) (ops.getD ((canon ops).getD p 0) default) v := by
    intro p
    by_cases hp : p < ops.size
    · obtain ⟨v, hv⟩ := dstep_spec (hop p hp) (s3 p _ (hord p hp))
      exact ⟨v, fun _ => hv⟩
    · exact ⟨undefV, fun h => absurd h hp⟩
  obtain ⟨V, hV⟩ := Classical.axiomOfChoice hex
  have hph := phases_spec (ops := ops) (bs := befs ops) _ _ _ d5
  have hinj : ∀ p q, p < ops.size → q < ops.size → (canon ops).getD p 0 = (canon ops).getD q 0 → p = q := by
    intro p q hp hq e
    rcases Nat.lt_trichotomy p q with g | g | g
    · exact absurd (hord p hp) (by rw [e]; exact (hph q _ (hord q hq)).2.2.1 p g)
    · exact g
    · exact absurd (hord q hq) (by rw [← e]; exact (hph p _ (hord p hp)).2.2.1 q g)
  have hapart : ∀ p q, p < ops.size → q < ops.size → ∀ d, (ops.getD ((canon ops).getD q 0) default).dst = some d →
      ((canon ops).getD p 0 = (canon ops).getD q 0 ∨ (ops.getD ((canon ops).getD p 0) default).dst ≠ some d) ∧
      (d ∉ looks ops (ops.getD ((canon ops).getD p 0) default) ∨ (canon ops).getD q 0 ∈ (befs ops).getD ((canon ops).getD p 0) [] ∨ (canon ops).getD p 0 ∈ (befs ops).getD ((canon ops).getD q 0) []) := by
    intro p q hp hq d hdst
    unfold apartAll at d6
    rw [List.all_eq_true] at d6
    have := d6 ((canon ops).getD p 0) (List.mem_range.2 (hlt p hp))
    rw [List.all_eq_true] at this
    have := this ((canon ops).getD q 0) (List.mem_range.2 (hlt q hq))
    rw [hop p hp, hop q hq] at this
    simp only [hdst, Bool.and_eq_true, Bool.or_eq_true, beq_iff_eq, bne_iff_ne, ne_eq, Bool.not_eq_true', List.contains_eq_mem, decide_eq_true_eq, decide_eq_false_iff_not] at this
    obtain ⟨h1, h2⟩ := this
    refine ⟨h1, ?_⟩
    rcases h2 with (h2 | h2) | h2
    · exact .inl h2
    · exact .inr (.inl h2)
    · exact .inr (.inr h2)
  have hm : ∀ p, p ≤ ops.size → (st p).m = (((canon ops).take p).filter (effB ops)).length := by
    intro p
    induction p with
    | zero => intro _; rw [s0]; simp
    | succ p ih =>
      intro hp
      obtain ⟨_, g, _⟩ := hV p (by omega)
      rw [g, ih (by omega), List.take_add_one, hord p (by omega)]
      simp only [Option.toList_some, List.filter_append, List.length_append]
      by_cases he : kindOf (ops.getD ((canon ops).getD p 0) default).op = .eff
      · rw [if_pos he, List.filter_cons, if_pos ((effB_iff (hop p (by omega))).2 he)]; simp
      · rw [if_neg he, List.filter_cons, if_neg (fun x => he ((effB_iff (hop p (by omega))).1 x))]; simp
  have L : Laid P call ops ts0 H0 st (fun p => (canon ops).getD p 0) (fun p => ops.getD ((canon ops).getD p 0) default) V :=
    { s0 := s0
      step := fun p hp => hV p hp
      lt := hlt
      op := hop
      onto := fun i hi => by
        rw [List.all_eq_true] at d4
        have := d4 i (by simpa using hi)
        have hmem : i ∈ canon ops := by simpa using this
        obtain ⟨p, hp, e⟩ := List.mem_iff_getElem.1 hmem
        exact ⟨p, by omega, by simp [List.getD, List.getElem?_eq_getElem hp, e]⟩
      inj := hinj
      edges := hedges
      bef := fun p hp x hx => by
        rcases (hph p _ (hord p hp)).1 x hx with h | ⟨q, h1, h2⟩
        · cases h
        · refine ⟨q, h1, ?_⟩
          rw [hord q (by omega)] at h2
          exact Option.some.inj h2
      last := fun p e hp he hk hno => by
        refine (hph p _ (hord p hp)).2.2.2.1 e _ he (hord e (by omega)) ⟨_, hop e (by omega), hk⟩ fun x y h1 h2 h3 ⟨o, ho, hko⟩ => ?_
        rw [hord x (by omega)] at h3
        have := Option.some.inj h3
        subst this
        have h4 := hop x (by omega)
        rw [ho] at h4
        have := Option.some.inj h4
        subst this
        exact hno x h1 h2 hko
      up := fun p hp q hq hno => by
        have hi := hlt p hp
        have e1 : (uptoL ops).getD ((canon ops).getD p 0) 0 = uptoOf (befs ops) (effs ops (canon ops)) ((canon ops).getD p 0) := by
          unfold uptoL
          rw [List.getD_eq_getElem?_getD, List.getElem?_map, List.getElem?_range hi]; rfl
        rw [e1, effs_eq, hm q hq]
        unfold uptoOf
        have split : (canon ops).filter (effB ops) = ((canon ops).take q).filter (effB ops) ++ ((canon ops).drop q).filter (effB ops) := by
          rw [← List.filter_append, List.take_append_drop]
        rw [split, List.findIdx?_append]
        have hA : (((canon ops).take q).filter (effB ops)).findIdx? (fun e => ((befs ops).getD e []).contains ((canon ops).getD p 0)) = none := by
          rw [List.findIdx?_eq_none_iff]
          intro x hx
          rw [List.mem_filter] at hx
          obtain ⟨e, he, ee⟩ := List.mem_iff_getElem.1 hx.1
          have helt : e < q := by simp at he; omega
          have hx2 : (canon ops).getD e 0 = x := by
            rw [← ee]; simp [List.getD, List.getElem?_eq_getElem (show e < (canon ops).length by omega)]
          have := hno e helt (by
            refine (effB_iff (hop e (by omega))).1 ?_
            rw [hx2]; exact hx.2)
          rw [hx2] at this
          simpa using this
        rw [hA]
        simp only [Option.none_or]
        cases (((canon ops).drop q).filter (effB ops)).findIdx? (fun e => ((befs ops).getD e []).contains ((canon ops).getD p 0)) with
        | none => simp
        | some k => simp
      dst := fun p q d hp hq hne hdq hdp => by
        rcases (hapart p q hp hq d hdq).1 with h | h
        · exact hne (hinj p q hp hq h)
        · exact h hdp
      look := fun p q d hp hq hdq hl => by
        rcases (hapart p q hp hq d hdq).2 with h | h
        · exact absurd hl h
        · exact h
      noG := fun p hp => by
        simp only [Array.all_eq_true] at hg
        obtain ⟨hi, e⟩ := Array.getElem?_eq_some_iff.1 (hop p hp)
        rw [← e]; exact hg _ hi }
  refine wp_region_any hmix ?_
  rw [World.drew_eq]
  obtain ⟨q0, g1, g2, g3, g4⟩ := next_eff ops.size (fun x => kindOf (ops.getD ((canon ops).getD x 0) default).op = .eff) ops.size 0 (by omega)
  have hpe : PushExt H0 (st q0).H := by
    have := (L.pushes_to hs q0 0 (by omega) (fun x h1 h2 => g4 x h1 (by omega))).1
    rw [s0, Nat.zero_add] at this
    exact this
  have hset : ∀ j, SetOf (Array.replicate ops.size false) j = false := by
    intro j
    unfold SetOf
    rw [Array.getD_eq_getD_getElem?, Array.getElem?_replicate]
    split <;> rfl
  have hsz0 : ts0.size = (st ops.size).ts.size := ((L.slots ops.size (Nat.le_refl _)).1).symm
  refine draw_any L hs (B0 := B0) (ρ0 := ρ0) (w0 := w0) (a0 := a0) hsz0 (fun ρ' w' a' k1 k2 k3 k4 => ?_) ops.size (Array.replicate ops.size false) a0 w0.drew ρ0 q0 (by simp) ?_ ?_
  · rw [s2] at k2 k4; rw [s1] at k3
    exact hQ ρ' w' a' k1 k2 k3 k4
  · have : (List.range ops.size).countP (fun j => !SetOf (Array.replicate ops.size false) j) = (List.range ops.size).length := by
      rw [List.countP_eq_length]; intro j _; rw [hset]; rfl
    rw [this]; simp
  · exact {
      le := g2
      at_ := g3
      effs := fun p hp hk => by
        constructor
        · intro h; rw [hset] at h; cases h
        · intro h; exact absurd hk (g4 p (by omega) h)
      rel := r0.drew.lateExt hpe
      size := by have := hv0.length_eq; simpa using this
      defers := rfl
      slots := fun t ht => by
        have : slotV ops (fun p => ops.getD ((canon ops).getD p 0) default) V ts0 (fun q => SetOf (Array.replicate ops.size false) ((canon ops).getD q 0)) t = ts0.getD t undefV := by
          unfold slotV
          split
          · simp [hset]
          · rfl
        rw [this]
        exact getD_sim hv0 t
      fut := ⟨hpe.1, fun _ _ => rfl, (Below.refl _ _).drew, fun id hid _ => hpe.2 id hid⟩
      late := fun p hp hS hw hk => by
        have hpn : p < ops.size := by omega
        obtain ⟨_, _, hst⟩ := L.step p hpn
        rcases hst with ⟨_, ha, _⟩ | ⟨hw', _⟩
        · obtain ⟨b, e, _⟩ := make_sim hk (astep_noneff hs (by rw [hk]; simp) ha)
          have hge : H0.n ≤ (st p).H.n := by
            have := L.grows hs p 0 (by omega)
            rw [s0, Nat.zero_add] at this
            exact this
          refine ⟨?_, b, e, ?_⟩
          · cases hr : ρ0 (st p).H.n with
            | none => rfl
            | some M => have := (r0.dom _ M hr).1; omega
          · have hp2 : PushExt (st (p + 1)).H (st q0).H := by
              have := (L.pushes_to hs (q0 - (p + 1)) (p + 1) (by omega) (fun y h1 h2 => g4 y (by omega) (by omega))).1
              rwa [show p + 1 + (q0 - (p + 1)) = q0 by omega] at this
            exact hp2.some (by rw [e]; exact get_push_self _ _)
        · rw [hw] at hw'; cases hw'
      closed := fun i o ho hi => by rw [hset] at hi; cases hi }
end Go.Abs
/- The abstract machine: what it runs to, the model runs to. -/
namespace Go.Abs
open Go Go.RowKit
set_option linter.unusedVariables false
set_option linter.unusedSimpArgs false

def Ex.up : Ex → Exit
  | .normal => .normal
  | .exit id => .exit id
  | .ret => .ret

theorem code_sim {P : Program} {call : CallFn} (hs : SimCall P call) (hmix : P.follows .mixedOrders = true) (k : Nat) {B0 : Nat} : ∀ (c : Code), codeOk c = true → ∀ (ts : Array Value) (H : Heap) (ex : Ex) (ts' : Array Value) (H' : Heap), acode P call k c ts H = some (ex, ts', H') →
    ∀ (ρ : Ren) (w : World) (a : Act) (Q : Exit → Act → World → Prop), Rel B0 ρ H w → VRs ρ ts.toList a.tmps.toList →
      (∀ ρ' w' a', a'.defers = a.defers → Rel B0 ρ' H' w' → VRs ρ' ts'.toList a'.tmps.toList → Fut B0 ρ H w ρ' H' w' → Q ex.up a' w') → c.wp P Q a w := by
  intro c
  induction c with
  | skip =>
    intro _ ts H ex ts' H' h ρ w a Q r hv hQ
    simp only [acode, Option.some.injEq, Prod.mk.injEq] at h; obtain ⟨rfl, rfl, rfl⟩ := h
    exact wp_skip (hQ ρ w a rfl r hv (Fut.refl _ _ _ _))
  | label l =>
    intro _ ts H ex ts' H' h ρ w a Q r hv hQ
    simp only [acode, Option.some.injEq, Prod.mk.injEq] at h; obtain ⟨rfl, rfl, rfl⟩ := h
    exact wp_label (hQ ρ w a rfl r hv (Fut.refl _ _ _ _))
  | region id ops draw =>
    intro hok ts H ex ts' H' h ρ w a Q r hv hQ
    simp only [acode, Option.map_eq_some_iff] at h
    obtain ⟨⟨t1, H1⟩, h, e⟩ := h
    simp only [Prod.mk.injEq] at e
    obtain ⟨rfl, rfl, rfl⟩ := e
    simp only [codeOk, Bool.and_eq_true, Bool.or_eq_true, Bool.not_eq_true'] at hok
    cases draw with
    | true =>
      rw [if_pos rfl] at h
      have hd : drawOk ops = true := by rcases hok.2 with e | e; · cases e
                                        · exact e
      exact draw_sim hs hmix hok.1 hd h r hv hQ
    | false =>
      simp only [Bool.false_eq_true, if_false] at h
      exact wp_region (aops_sim hs hok.1 _ _ _ _ _ h ρ w a r hv hQ)
  | seq x y ihx ihy =>
    intro hok ts H ex ts' H' h ρ w a Q r hv hQ
    simp only [codeOk, Bool.and_eq_true] at hok
    simp only [acode] at h
    refine wp_seq ?_
    cases hx : acode P call k x ts H with
    | none => rw [hx] at h; cases h
    | some s =>
      obtain ⟨e, t1, H1⟩ := s
      rw [hx] at h
      refine ihx hok.1 _ _ _ _ _ hx ρ w a _ r hv fun ρ' w' a' hd hr hv' hf => ?_
      cases e with
      | normal =>
        refine ihy hok.2 _ _ _ _ _ h ρ' w' a' Q hr hv' fun ρ'' w'' a'' hd' hr' hv'' hf' => ?_
        exact hQ ρ'' w'' a'' (hd'.trans hd) hr' hv'' (hf.trans hf')
      | exit id =>
        simp only [Option.some.injEq, Prod.mk.injEq] at h; obtain ⟨rfl, rfl, rfl⟩ := h
        exact hQ ρ' w' a' hd hr hv' hf
      | ret =>
        simp only [Option.some.injEq, Prod.mk.injEq] at h; obtain ⟨rfl, rfl, rfl⟩ := h
        exact hQ ρ' w' a' hd hr hv' hf
  | cond q x y ihx ihy =>
    intro hok ts H ex ts' H' h ρ w a Q r hv hQ
    simp only [codeOk, Bool.and_eq_true] at hok
    simp only [acode] at h
    split at h
    · rename_i b hb
      have hq := evalT_sim (a := a) hv hok.1.1
      rw [hb] at hq
      refine wp_cond (t := b) hq.bool_inv ?_
      cases b with
      | true => exact ihx hok.1.2 _ _ _ _ _ (by simpa using h) ρ w a Q r hv hQ
      | false => exact ihy hok.2 _ _ _ _ _ (by simpa using h) ρ w a Q r hv hQ
    · cases h
  | block id b ih =>
    intro hok ts H ex ts' H' h ρ w a Q r hv hQ
    simp only [codeOk] at hok
    simp only [acode] at h
    refine wp_block ?_
    cases hb : acode P call k b ts H with
    | none => rw [hb] at h; cases h
    | some s =>
      obtain ⟨e, t1, H1⟩ := s
      rw [hb] at h
      refine ih hok _ _ _ _ _ hb ρ w a _ r hv fun ρ' w' a' hd hr hv' hf => ?_
      cases e with
      | normal =>
        simp only [Option.some.injEq, Prod.mk.injEq] at h; obtain ⟨rfl, rfl, rfl⟩ := h
        exact hQ ρ' w' a' hd hr hv' hf
      | exit id' =>
        simp only at h
        show Exit.inBlock id Q (.exit id') a' w'
        unfold Exit.inBlock
        simp only
        split
        · rename_i e
          rw [if_pos e] at h
          simp only [Option.some.injEq, Prod.mk.injEq] at h; obtain ⟨rfl, rfl, rfl⟩ := h
          exact hQ ρ' w' a' hd hr hv' hf
        · rename_i e
          rw [if_neg e] at h
          simp only [Option.some.injEq, Prod.mk.injEq] at h; obtain ⟨rfl, rfl, rfl⟩ := h
          exact hQ ρ' w' a' hd hr hv' hf
      | ret =>
        simp only [Option.some.injEq, Prod.mk.injEq] at h; obtain ⟨rfl, rfl, rfl⟩ := h
        exact hQ ρ' w' a' hd hr hv' hf
  | loop b ih =>
    intro hok ts H ex ts' H' h ρ w a Q r hv hQ
    simp only [codeOk] at hok
    simp only [acode] at h
    refine wp_loop_rounds k ?_
    have go : ∀ (n : Nat) (ts : Array Value) (H : Heap), iter (acode P call k b) n ts H = some (ex, ts', H') → ∀ (ρ : Ren) (w : World) (a : Act), Rel B0 ρ H w → VRs ρ ts.toList a.tmps.toList →
        (∀ ρ' w' a', a'.defers = a.defers → Rel B0 ρ' H' w' → VRs ρ' ts'.toList a'.tmps.toList → Fut B0 ρ H w ρ' H' w' → Q ex.up a' w') → Code.rounds P b Q n a w := by
      intro n
      induction n with
      | zero => intro ts H h; cases h
      | succ n ihn =>
        intro ts H h ρ w a r hv hQ
        rw [rounds_succ]
        simp only [iter] at h
        cases hb : acode P call k b ts H with
        | none => rw [hb] at h; cases h
        | some s =>
          obtain ⟨e, t1, H1⟩ := s
          rw [hb] at h
          refine ih hok _ _ _ _ _ hb ρ w a _ r hv fun ρ' w' a' hd hr hv' hf => ?_
          cases e with
          | normal =>
            refine ihn _ _ h ρ' w' a' hr hv' fun ρ'' w'' a'' hd' hr' hv'' hf' => ?_
            exact hQ ρ'' w'' a'' (hd'.trans hd) hr' hv'' (hf.trans hf')
          | exit id' =>
            simp only [Option.some.injEq, Prod.mk.injEq] at h; obtain ⟨rfl, rfl, rfl⟩ := h
            exact hQ ρ' w' a' hd hr hv' hf
          | ret =>
            simp only [Option.some.injEq, Prod.mk.injEq] at h; obtain ⟨rfl, rfl, rfl⟩ := h
            exact hQ ρ' w' a' hd hr hv' hf
    exact go k ts H h ρ w a r hv hQ
  | scope b ih =>
    intro hok ts H ex ts' H' h ρ w a Q r hv hQ
    simp only [codeOk] at hok
    simp only [acode] at h
    refine wp_scope_straight ?_
    refine ih hok _ _ _ _ _ h ρ w a _ r hv fun ρ' w' a' hd hr hv' hf => ?_
    have := hQ ρ' w' a' hd hr hv' hf
    cases ex <;> exact this
  | exit id =>
    intro _ ts H ex ts' H' h ρ w a Q r hv hQ
    simp only [acode, Option.some.injEq, Prod.mk.injEq] at h; obtain ⟨rfl, rfl, rfl⟩ := h
    exact wp_exit (hQ ρ w a rfl r hv (Fut.refl _ _ _ _))
  | ret =>
    intro _ ts H ex ts' H' h ρ w a Q r hv hQ
    simp only [acode, Option.some.injEq, Prod.mk.injEq] at h; obtain ⟨rfl, rfl, rfl⟩ := h
    exact wp_ret (hQ ρ w a rfl r hv (Fut.refl _ _ _ _))
  | _ =>
    intro hok ts H ex ts' H' h
    simp [acode] at h

theorem one_result {P : Program} {B0 : Nat} {ρ : Ren} {H : Heap} {w : World} (r : Rel B0 ρ H w) {ts cs : Array Value} (hv : VRs ρ ts.toList cs.toList) {rv : ResultVar} {v : Value} (h : oneResult P ts H rv = some v) :
    ∃ cv, ((match rv with | .tmp t => pure (cs.getD t undef) | .cell a t => do loadVar t (← asAddr (cs.getD a undef)) : Sem Value)).run P w = .ok cv w ∧ VR ρ v cv := by
  cases rv with
  | tmp t =>
    simp only [oneResult, Option.some.injEq] at h; subst h
    exact ⟨_, rfl, getD_sim hv t⟩
  | cell a t =>
    simp only [oneResult] at h
    obtain ⟨cv, g1, g2⟩ := load_sim (P := P) r h (getD_sim hv a)
    refine ⟨cv, ?_, g2⟩
    have hp := getD_sim hv a
    unfold aload at h
    split at h
    · rename_i id off e
      rw [e] at hp
      obtain ⟨L, hL, e2⟩ := hp.ptr_inv
      show (do loadVar t (← asAddr (cs.getD a undef)) : Sem Value).run P w = _
      rw [e2] at g1 ⊢
      simpa [Instr.loadAt, Instr.sureAddr, asAddr] using g1
    · cases h
theorem results_sim {P : Program} {B0 : Nat} {ρ : Ren} {H : Heap} {w : World} (r : Rel B0 ρ H w) {ts cs : Array Value} (hv : VRs ρ ts.toList cs.toList) : ∀ (rs : List ResultVar) (vs : List Value), resultsV P rs ts H = some vs →
    ∃ us : List Value, (rs.mapM (fun rv => (match rv with | .tmp t => pure (cs.getD t undef) | .cell a t => do loadVar t (← asAddr (cs.getD a undef)) : Sem Value))).run P w = .ok us w ∧ VRs ρ vs us := by
  intro rs
  induction rs with
  | nil => intro vs h; simp only [resultsV, Option.some.injEq] at h; subst h; exact ⟨[], rfl, .nil⟩
  | cons x xs ih =>
    intro vs h
    simp only [resultsV] at h
    cases h1 : oneResult P ts H x with
    | none => simp [h1] at h
    | some v =>
      cases h2 : resultsV P xs ts H with
      | none => simp [h1, h2] at h
      | some vs' =>
        simp only [h1, h2, Option.some.injEq] at h
        subst h
        obtain ⟨cv, g1, g2⟩ := one_result r hv h1
        obtain ⟨us, g3, g4⟩ := ih vs' h2
        refine ⟨cv :: us, ?_, .cons _ _ _ _ g2 g4⟩
        rw [List.mapM_cons]
        simp only [Sem.run_bind, g1, Result.andThen_ok, g3, Sem.run_pure]

theorem aops_n {P : Program} {call : CallFn} (hs : SimCall P call) {ops : Array Oper} : ∀ (l : List Nat) (ts : Array Value) (H : Heap) (ts' : Array Value) (H' : Heap), aops P call ops l ts H = some (ts', H') → H.n ≤ H'.n := by
  intro l
  induction l with
  | nil => intro ts H ts' H' h; simp only [aops, Option.some.injEq, Prod.mk.injEq] at h; rw [h.2]; exact Nat.le_refl _
  | cons i rest ih =>
    intro ts H ts' H' h
    simp only [aops] at h
    (repeat' split at h) <;> first
      | (cases h; done)
      | (rename_i hst; exact Nat.le_trans (astep_n hs hst) (ih _ _ _ _ h))
      | exact ih _ _ _ _ h
theorem adraw_n {P : Program} {call : CallFn} (hs : SimCall P call) {ops : Array Oper} {up : Nat → Nat} : ∀ (l : List Nat) (m : Nat) (hh : List Held) (ts : Array Value) (H : Heap) (ts' : Array Value) (H' : Heap), adraw P call ops up l m hh ts H = some (ts', H') → H.n ≤ H'.n := by
  intro l
  induction l with
  | nil => intro m hh ts H ts' H' h; simp only [adraw, Option.some.injEq, Prod.mk.injEq] at h; rw [h.2]; exact Nat.le_refl _
  | cons i rest ih =>
    intro m hh ts H ts' H' h
    simp only [adraw] at h
    cases ho : ops[i]? with
    | none => rw [ho] at h; cases h
    | some o =>
      simp only [ho] at h
      split at h
      · cases hst : astep P call (evalT ts) o H with
        | none => rw [hst] at h; cases h
        | some vh =>
          obtain ⟨v, H1⟩ := vh
          rw [hst] at h
          simp only at h
          split at h
          · cases h
          · exact Nat.le_trans (astep_n hs hst) (ih _ _ _ _ _ _ h)
      · exact ih _ _ _ _ _ _ h
theorem acode_n {P : Program} {call : CallFn} (hs : SimCall P call) (k : Nat) : ∀ (c : Code) (ts : Array Value) (H : Heap) (ex : Ex) (ts' : Array Value) (H' : Heap), acode P call k c ts H = some (ex, ts', H') → H.n ≤ H'.n := by
  intro c
  induction c with
  | region id ops draw =>
    intro ts H ex ts' H' h
    simp only [acode, Option.map_eq_some_iff] at h
    obtain ⟨⟨t1, H1⟩, h, e⟩ := h
    simp only [Prod.mk.injEq] at e
    obtain ⟨rfl, rfl, rfl⟩ := e
    split at h
    · exact adraw_n hs _ _ _ _ _ _ _ h
    · exact aops_n hs _ _ _ _ _ h
  | seq x y ihx ihy =>
    intro ts H ex ts' H' h
    simp only [acode] at h
    cases hx : acode P call k x ts H with
    | none => rw [hx] at h; cases h
    | some s =>
      obtain ⟨e, t1, H1⟩ := s
      rw [hx] at h
      refine Nat.le_trans (ihx _ _ _ _ _ hx) ?_
      cases e with
      | normal => exact ihy _ _ _ _ _ h
      | exit id => simp only [Option.some.injEq, Prod.mk.injEq] at h; rw [h.2.2]; exact Nat.le_refl _
      | ret => simp only [Option.some.injEq, Prod.mk.injEq] at h; rw [h.2.2]; exact Nat.le_refl _
  | cond q x y ihx ihy =>
    intro ts H ex ts' H' h
    simp only [acode] at h
    split at h
    · split at h
      · exact ihx _ _ _ _ _ h
      · exact ihy _ _ _ _ _ h
    · cases h
  | block id b ih =>
    intro ts H ex ts' H' h
    simp only [acode] at h
    cases hb : acode P call k b ts H with
    | none => rw [hb] at h; cases h
    | some s =>
      obtain ⟨e, t1, H1⟩ := s
      rw [hb] at h
      refine Nat.le_trans (ih _ _ _ _ _ hb) ?_
      cases e with
      | normal => simp only [Option.some.injEq, Prod.mk.injEq] at h; rw [h.2.2]; exact Nat.le_refl _
      | exit id =>
        simp only at h
        split at h <;> (simp only [Option.some.injEq, Prod.mk.injEq] at h; rw [h.2.2]; exact Nat.le_refl _)
      | ret => simp only [Option.some.injEq, Prod.mk.injEq] at h; rw [h.2.2]; exact Nat.le_refl _
  | loop b ih =>
    intro ts H ex ts' H' h
    simp only [acode] at h
    have go : ∀ (n : Nat) (ts : Array Value) (H : Heap), iter (acode P call k b) n ts H = some (ex, ts', H') → H.n ≤ H'.n := by
      intro n
      induction n with
      | zero => intro ts H h; cases h
      | succ n ihn =>
        intro ts H h
        simp only [iter] at h
        cases hb : acode P call k b ts H with
        | none => rw [hb] at h; cases h
        | some s =>
          obtain ⟨e, t1, H1⟩ := s
          rw [hb] at h
          refine Nat.le_trans (ih _ _ _ _ _ hb) ?_
          cases e with
          | normal => exact ihn _ _ h
          | exit id => simp only [Option.some.injEq, Prod.mk.injEq] at h; rw [h.2.2]; exact Nat.le_refl _
          | ret => simp only [Option.some.injEq, Prod.mk.injEq] at h; rw [h.2.2]; exact Nat.le_refl _
    exact go k ts H h
  | scope b ih => intro ts H ex ts' H' h; simp only [acode] at h; exact ih _ _ _ _ _ h
  | skip => intro ts H ex ts' H' h; simp only [acode, Option.some.injEq, Prod.mk.injEq] at h; rw [h.2.2]; exact Nat.le_refl _
  | label l => intro ts H ex ts' H' h; simp only [acode, Option.some.injEq, Prod.mk.injEq] at h; rw [h.2.2]; exact Nat.le_refl _
  | exit id => intro ts H ex ts' H' h; simp only [acode, Option.some.injEq, Prod.mk.injEq] at h; rw [h.2.2]; exact Nat.le_refl _
  | ret => intro ts H ex ts' H' h; simp only [acode, Option.some.injEq, Prod.mk.injEq] at h; rw [h.2.2]; exact Nat.le_refl _
  | _ => intro ts H ex ts' H' h; simp [acode] at h

/-- What is told from elsewhere is so. -/
def OrcOk (P : Program) (orc : Orc) : Prop := ∀ f g, orc f = some g → ∀ (args : Array Value) (H : Heap) (v : Value) (H' : Heap), g args H = some (v, H') → CallOk P f ∧ H.n ≤ H'.n ∧
    ∀ (B0 : Nat) (ρ : Ren) (w : World) (cargs : Array Value), Rel B0 ρ H w → VRs ρ args.toList cargs.toList →
      Calls P f cargs w fun e w' => ∃ ρ' cv, e = .returned cv ∧ VR ρ' v cv ∧ Rel B0 ρ' H' w' ∧ Fut B0 ρ H w ρ' H' w'

/-- WHAT THE ABSTRACT MACHINE RUNS TO, THE MODEL RUNS TO, in whatever order, wherever its memory lies. -/
theorem arun_sim {P : Program} (hmix : P.follows .mixedOrders = true) {orc : Orc} (horc : OrcOk P orc) : ∀ k, SimCall P (arun P orc k) := by
  intro k
  induction k with
  | zero => intro f args H v H' h; cases h
  | succ k ih =>
    intro f args H v H' h
    simp only [arun] at h
    cases ho : orc f with
    | some g => rw [ho] at h; exact horc f g ho args H v H' h
    | none =>
    simp only [ho] at h
    cases hf : P.funcs[f]? with
    | none => rw [hf] at h; cases h
    | some fn =>
      simp only [hf] at h
      split at h
      rotate_left
      · cases h
      rename_i hc
      unfold abody at h
      cases hb : fn.body with
      | none => simp [hb] at h
      | some c =>
        simp only [hb] at h
        have hcode : codeOk c = true := by
          unfold callable at hc
          rw [hb] at hc
          simp only [Bool.and_eq_true] at hc
          exact hc.2
        cases ha : acode P (arun P orc k) k c (enterT fn args) H with
        | none => simp [ha] at h
        | some s =>
          obtain ⟨ex, t, H1⟩ := s
          have hex : ex ≠ .normal → ex ≠ .ret → False := by
            intro h1 h2
            cases ex with
            | normal => exact h1 rfl
            | ret => exact h2 rfl
            | exit id => simp [ha] at h
          have hres : ∃ vs, resultsV P fn.results.toList t H1 = some vs ∧ v = packV vs ∧ H' = H1 := by
            cases ex with
            | exit id => simp [ha] at h
            | normal =>
              simp only [ha, Option.map_eq_some_iff] at h
              obtain ⟨vs, h1, h2⟩ := h
              injection h2 with h2 h3
              exact ⟨vs, h1, h2.symm, h3.symm⟩
            | ret =>
              simp only [ha, Option.map_eq_some_iff] at h
              obtain ⟨vs, h1, h2⟩ := h
              injection h2 with h2 h3
              exact ⟨vs, h1, h2.symm, h3.symm⟩
          obtain ⟨vs, hvs, rfl, rfl⟩ := hres
          have hsim : ∀ (B0 : Nat) (ρ : Ren) (w : World) (cargs : Array Value), Rel B0 ρ H w → VRs ρ args.toList cargs.toList →
              Calls P f cargs w fun e w' => ∃ ρ' cv, e = .returned cv ∧ VR ρ' (packV vs) cv ∧ Rel B0 ρ' H' w' ∧ Fut B0 ρ H w ρ' H' w' := by
            intro B0 ρ w cargs r hv
            refine calls_of_wp hf hb ?_
            have hl : cargs.size = args.size := by have := hv.length_eq; simpa using this
            have hrep : ∀ n, VRs ρ (List.replicate n undefV) (List.replicate n undef) := by
              intro n
              induction n with
              | zero => exact .nil
              | succ n ih => rw [List.replicate_succ, List.replicate_succ]; exact .cons _ _ _ _ (.flat _ rfl) ih
            have hent : VRs ρ (enterT fn args).toList (cargs ++ Array.replicate (fn.ntmps - cargs.size) undef).toList := by
              unfold enterT
              rw [hl]
              simp only [Array.toList_append, Array.toList_replicate]
              exact hv.append (hrep _)
            refine code_sim ih hmix k c hcode _ _ _ _ _ ha ρ w _ _ r hent fun ρ' w' a' hd hr hv' hf' => ?_
            have hpost : a'.defers = [] ∧ ∃ v, (results fn a'.tmps).run P w' = .ok v w' ∧ ∃ ρ' cv, Ending.returned v = .returned cv ∧ VR ρ' (packV vs) cv ∧ Rel B0 ρ' H' w' ∧ Fut B0 ρ H w ρ' H' w' := by
              refine ⟨hd, ?_⟩
              obtain ⟨us, g1, g2⟩ := results_sim hr hv' _ _ hvs
              have hm : (fn.results.mapM (fun rv => (match rv with | .tmp t => pure (a'.tmps.getD t undef) | .cell a t => do loadVar t (← asAddr (a'.tmps.getD a undef)) : Sem Value))).run P w' = .ok us.toArray w' := by
                rw [← Array.toArray_toList (xs := fn.results), List.mapM_toArray]
                simp only [Sem.run_map, g1, Result.andThen_ok]
              refine ⟨if h : us.toArray.size = 1 then us.toArray[0] else .tuple us.toArray, ?_, ρ', _, rfl, ?_, hr, hf'⟩
              · have hres : results fn a'.tmps = (do
                    let vs ← fn.results.mapM (fun rv => (match rv with | .tmp t => pure (a'.tmps.getD t undef) | .cell a t => do loadVar t (← asAddr (a'.tmps.getD a undef)) : Sem Value))
                    pure (if h : vs.size = 1 then vs[0] else .tuple vs)) := rfl
                rw [hres]
                simp only [Sem.run_bind, hm, Result.andThen_ok, Sem.run_pure]
              · cases g2 with
                | nil => exact .flat _ rfl
                | cons x y l m h1 h2 =>
                  cases h2 with
                  | nil => exact h1
                  | cons x2 y2 l2 m2 h3 h4 =>
                    rw [dif_neg (by simp)]
                    exact .tuple _ _ (.cons _ _ _ _ h1 (.cons _ _ _ _ h3 h4))
            cases ex with
            | normal => exact hpost
            | ret => exact hpost
            | exit id => exact (hex (by simp) (by simp)).elim
          refine ⟨⟨fn, hf, hc⟩, ?_, hsim⟩
          exact acode_n ih k c _ _ _ _ _ ha
end Go.Abs
/- The abstract machine: what must hold ahead of a run, spelled in continuations. -/
namespace Go.Abs
open Go Go.RowKit
set_option linter.unusedVariables false
set_option linter.unusedSimpArgs false

def obind {α : Type} (o : Option α) (k : α → Prop) : Prop :=
  match o with
  | some a => k a
  | none => False
theorem obind_some {α : Type} (a : α) (k : α → Prop) : obind (some a) k = k a := rfl
theorem obind_of {α : Type} {o : Option α} {a : α} {k : α → Prop} (h : o = some a) (hk : k a) : obind o k := by rw [h]; exact hk
theorem obind_elim {α : Type} {o : Option α} {k : α → Prop} (h : obind o k) : ∃ a, o = some a ∧ k a := by
  cases o with
  | none => exact h.elim
  | some a => exact ⟨a, rfl, h⟩

/-- A call ends, and what it gives is so. -/
def Ev (P : Program) (orc : Orc) (f : FuncId) (args : Array Value) (H : Heap) (Q : Value → Heap → Prop) : Prop := ∃ k v H', arun P orc k f args H = some (v, H') ∧ Q v H'
theorem Ev.mono {P : Program} {orc : Orc} {f : FuncId} {args : Array Value} {H : Heap} {Q Q' : Value → Heap → Prop} (h : Ev P orc f args H Q) (hq : ∀ v H', Q v H' → Q' v H') : Ev P orc f args H Q' := by
  obtain ⟨k, v, H', h1, h2⟩ := h
  exact ⟨k, v, H', h1, hq _ _ h2⟩

def boolV : Value → Option Bool
  | .bool b => some b
  | _ => none
def tupleV : Value → Option (Array Value)
  | .tuple vs => some vs
  | _ => none
def funcV : Value → Option (FuncId × Array Value × Array Value)
  | .func (.func g) first captured => some (g, first, captured)
  | _ => none
def ifaceV : Value → Option (TypeId × Value)
  | .iface t v => some (t, v)
  | _ => none
def nonNilV (v : Value) : Option Value := if nonNil v then some v else none
def unV (P : Program) (op : UnOp) (x : Value) : Option Value := if flat x then flatRes (purely P (Op.unary op x)) else none
def minV (P : Program) (ts : Array TypeId) (t : TypeId) (args : Array Value) : Option Value := if args.toList.all flat = true then flatRes (purely P (Builtin.min_ ts t args)) else none
def maxV (P : Program) (ts : Array TypeId) (t : TypeId) (args : Array Value) : Option Value := if args.toList.all flat = true then flatRes (purely P (Builtin.max_ ts t args)) else none
def ifaceOf (P : Program) (t : TypeId) (x : Value) : Option Value := if notIface P t then some (.iface t x) else none
def lenOf1 (P : Program) (args : List Value) (ts : List TypeId) (H : Heap) : Option Value :=
  match args, ts with
  | [x], [t] => alen P t x H
  | _, _ => none
/-- A slice written out: its cells. -/
def buildS (P : Program) (t : TypeId) (len : Nat) (parts : List (Nat × Value)) : Option (List Value) :=
  match elemT P t with
  | some (elem, size, _) =>
    match zeroT P elem with
    | some z => if len * size ≤ 2 ^ 24 ∧ z.cells.size = size ∧ 0 < size then fillL (fun i => some (i * size, size)) (repeatL z.cells.toList len) parts else none
    | none => none
  | none => none
/-- A slice made: its cells, its length, its capacity. -/
def makeS (P : Program) (t : TypeId) (l c : Value) : Option (List Value × Nat × Nat) :=
  match elemT P t, l, c with
  | some (elem, size, bytes), .int _ len, .int _ cap =>
    match zeroT P elem with
    | some z => if 0 ≤ len ∧ len ≤ cap ∧ cap < 2 ^ 47 ∧ cap * bytes ≤ 2 ^ 47 ∧ z.cells.size = size ∧ 0 < size then some (repeatL z.cells.toList cap.toNat, len.toNat, cap.toNat) else none
    | none => none
  | _, _, _ => none
def mapOk (P : Program) (t : TypeId) : Option Value → Option Unit
  | none => some ()
  | some (.int _ _) => (mapT P t).map fun _ => ()
  | some _ => none

def AWop (P : Program) (orc : Orc) (ev : Operand → Value) (o : Oper) (H : Heap) (K : Value → Heap → Prop) : Prop :=
  match o.op with
  | .move x | .assign x => K (ev x) H
  | .pick c a b => obind (boolV (ev c)) fun t => K (if t then ev a else ev b) H
  | .alloc elem => obind (zeroT P elem) fun z => K (ptr H.n 0) (H.push (.cells z.cells.toList .fix))
  | .box elem x => K (ptr H.n 0) (H.push (.cells (ev x).cells.toList .fix))
  | .load t a => obind (aload P t (ev a) H) fun v => K v H
  | .store t a x => obind (astore P t (ev a) (ev x) H) fun H' => K undefV H'
  | .build t parts => obind (buildL P t ((parts.map fun (i, x) => (i, ev x)).toList)) fun c => K (.agg c.toArray) H
  | .buildSlice t len parts => obind (buildS P t len ((parts.map fun (i, x) => (i, ev x)).toList)) fun c => K (slc H.n 0 len len) (H.push (.cells c .fix))
  | .nilCheck x => obind (nonNilV (ev x)) fun v => K v H
  | .binOp op t x y _ => obind (abin P op t x y (ev x) (ev y)) fun v => K v H
  | .unOp op _ x => obind (unV P op (ev x)) fun v => K v H
  | .convert src dst x => obind (aconvert P src dst (ev x) H) fun v => K v H
  | .makeInterface t x => obind (ifaceOf P t (ev x)) fun v => K v H
  | .makeFunc fn first captured => K (.func fn (first.map ev) (captured.map ev)) H
  | .makeMap t r => obind (mapOk P t (r.map ev)) fun _ => K (.map (some H.n)) (H.push (.map []))
  | .makeSlice t l c => obind (makeS P t (ev l) (ev c)) fun s => K (slc H.n 0 s.2.1 s.2.2) (H.push (.cells s.1 .fix))
  | .slice t x lo hi mx => obind (aslice P t (ev x) (lo.map ev) (hi.map ev) (mx.map ev) H) fun v => K v H
  | .fieldAddr s x f => obind (afieldAddr P s (ev x) f) fun v => K v H
  | .field t x f => obind (afield P t (ev x) f) fun v => K v H
  | .indexAddr t x ix => obind (aindexAddr P t (ev x) (ev ix)) fun v => K v H
  | .index t x ix => obind (aindex P t (ev x) (ev ix)) fun v => K v H
  | .extract x ix => obind (tupleV (ev x)) fun vs => obind (vs[ix]?) fun v => K v H
  | .lookup t x k ok => obind (alookup P t (ev x) (ev k) ok H) fun v => K v H
  | .mapUpdate t m k x | .insert t m k x => obind (aupdate P t (ev m) (ev k) (ev x) H) fun H' => K undefV H'
  | .call c =>
    match c.callee with
    | .builtin .len => obind (lenOf1 P (c.args.map ev).toList c.argTypes.toList H) fun v => K v H
    | .builtin .min => obind (minV P c.argTypes o.type (c.args.map ev)) fun v => K v H
    | .builtin .max => obind (maxV P c.argTypes o.type (c.args.map ev)) fun v => K v H
    | .builtin .append => obind (aappend P c.argTypes (c.args.map ev) H) fun r => K r.1 r.2
    | .builtin .copy => obind (acopy P c.argTypes (c.args.map ev) H) fun r => K r.1 r.2
    | .builtin _ => False
    | .value f => obind (funcV (ev f)) fun g => Ev P orc g.1 ((g.2.1 ++ c.args.map ev) ++ g.2.2) H K
    | .invoke r name => obind (ifaceV (ev r)) fun tv => obind (methodT P tv.1 name) fun f => Ev P orc f (#[tv.2] ++ c.args.map ev) H K
  | _ => False

/-- What an operation that reads gives at a heap. -/
def readOp (P : Program) (ev : Operand → Value) (o : Oper) (H : Heap) : Option Value :=
  match o.op with
  | .load t a => aload P t (ev a) H
  | .convert src dst x => aconvert P src dst (ev x) H
  | .slice t x lo hi mx => aslice P t (ev x) (lo.map ev) (hi.map ev) (mx.map ev) H
  | .lookup t x k ok => alookup P t (ev x) (ev k) ok H
  | .call c => match c.callee with
    | .builtin .len => lenOf1 P (c.args.map ev).toList c.argTypes.toList H
    | _ => none
  | _ => none

theorem astep_mono' {P : Program} {orc : Orc} {k k' : Nat} (h : k ≤ k') {ev : Operand → Value} {o : Oper} {H : Heap} {r : Value × Heap} (hs : astep P (arun P orc k) ev o H = some r) : astep P (arun P orc k') ev o H = some r :=
  astep_mono (arun_mono P orc k k' h) hs

theorem AWop_sound {P : Program} {orc : Orc} {ev : Operand → Value} {o : Oper} {H : Heap} {K : Value → Heap → Prop} (h : AWop P orc ev o H K) : ∃ k v H', astep P (arun P orc k) ev o H = some (v, H') ∧ K v H' := by
  have val : ∀ v H', aop P ev o H = some (.val v H') → K v H' → ∃ k v H', astep P (arun P orc k) ev o H = some (v, H') ∧ K v H' := by
    intro v H' h1 h2
    exact ⟨0, v, H', by unfold astep; rw [h1], h2⟩
  have cal : ∀ f args, aop P ev o H = some (.call f args) → Ev P orc f args H K → ∃ k v H', astep P (arun P orc k) ev o H = some (v, H') ∧ K v H' := by
    intro f args h1 ⟨k, v, H', h2, h3⟩
    exact ⟨k, v, H', by unfold astep; rw [h1]; exact h2, h3⟩
  obtain ⟨dst, op, type, pos, after, guard⟩ := o
  cases op <;> simp only [AWop] at h
  case move x => exact val _ _ (by simp only [aop]) h
  case assign x => exact val _ _ (by simp only [aop]) h
  case pick c a b =>
    obtain ⟨t, h1, h2⟩ := obind_elim h
    refine val _ _ ?_ h2
    simp only [aop]
    cases hc : ev c <;> rw [hc] at h1 <;> simp [boolV] at h1
    subst h1; rfl
  case alloc elem => obtain ⟨z, h1, h2⟩ := obind_elim h; exact val _ _ (by simp only [aop, h1, Option.map_some]) h2
  case box elem x => exact val _ _ (by simp only [aop]) h
  case load t a => obtain ⟨z, h1, h2⟩ := obind_elim h; exact val _ _ (by simp only [aop, h1, Option.map_some]) h2
  case store t a x => obtain ⟨z, h1, h2⟩ := obind_elim h; exact val _ _ (by simp only [aop, h1, Option.map_some]) h2
  case build t parts => obtain ⟨z, h1, h2⟩ := obind_elim h; exact val _ _ (by simp only [aop, h1, Option.map_some]) h2
  case buildSlice t len parts =>
    obtain ⟨z, h1, h2⟩ := obind_elim h
    refine val _ _ ?_ h2
    unfold buildS at h1
    simp only [aop]
    cases hT : elemT P t with
    | none => simp only [hT] at h1; cases h1
    | some y =>
      obtain ⟨elem, size, bytes⟩ := y
      simp only [hT] at h1 ⊢
      cases hz : zeroT P elem with
      | none => simp only [hz] at h1; cases h1
      | some z =>
        simp only [hz] at h1 ⊢
        split at h1
        · rename_i e3; rw [if_pos e3, h1]; rfl
        · cases h1
  case nilCheck x =>
    obtain ⟨z, h1, h2⟩ := obind_elim h
    refine val _ _ ?_ h2
    unfold nonNilV at h1
    simp only [aop]
    split at h1
    · rename_i e; injection h1 with h1; rw [if_pos e, h1]
    · cases h1
  case binOp op t x y yt => obtain ⟨z, h1, h2⟩ := obind_elim h; exact val _ _ (by simp only [aop, h1, Option.map_some]) h2
  case unOp op t x =>
    obtain ⟨z, h1, h2⟩ := obind_elim h
    refine val _ _ ?_ h2
    unfold unV at h1
    simp only [aop]
    split at h1
    · rename_i e; rw [if_pos e, h1]; rfl
    · cases h1
  case convert s d x => obtain ⟨z, h1, h2⟩ := obind_elim h; exact val _ _ (by simp only [aop, h1, Option.map_some]) h2
  case makeInterface t x =>
    obtain ⟨z, h1, h2⟩ := obind_elim h
    refine val _ _ ?_ h2
    unfold ifaceOf at h1
    simp only [aop]
    split at h1
    · rename_i e; injection h1 with h1; rw [if_pos e, h1]
    · cases h1
  case makeFunc fn first captured => exact val _ _ (by simp only [aop]) h
  case makeMap t r =>
    obtain ⟨z, h1, h2⟩ := obind_elim h
    refine val _ _ ?_ h2
    simp only [aop]
    cases r with
    | none => rfl
    | some x =>
      simp only [Option.map_some] at h1
      cases hx : ev x <;> rw [hx] at h1 <;> simp [mapOk] at h1
      obtain ⟨a, b, hm⟩ := h1
      simp only [hx, hm]
  case makeSlice t l c =>
    obtain ⟨s, h1, h2⟩ := obind_elim h
    refine val _ _ ?_ h2
    unfold makeS at h1
    simp only [aop]
    split at h1
    · rename_i e1 e2 e3
      simp only [e1, e2, e3]
      split at h1
      · rename_i e4
        simp only [e4]
        split at h1
        · rename_i e5; injection h1 with h1; rw [if_pos e5, ← h1]
        · cases h1
      · cases h1
    · cases h1
  case slice t x lo hi mx => obtain ⟨z, h1, h2⟩ := obind_elim h; exact val _ _ (by simp only [aop, h1, Option.map_some]) h2
  case fieldAddr s x f => obtain ⟨z, h1, h2⟩ := obind_elim h; exact val _ _ (by simp only [aop, h1, Option.map_some]) h2
  case field t x f => obtain ⟨z, h1, h2⟩ := obind_elim h; exact val _ _ (by simp only [aop, h1, Option.map_some]) h2
  case indexAddr t x ix => obtain ⟨z, h1, h2⟩ := obind_elim h; exact val _ _ (by simp only [aop, h1, Option.map_some]) h2
  case index t x ix => obtain ⟨z, h1, h2⟩ := obind_elim h; exact val _ _ (by simp only [aop, h1, Option.map_some]) h2
  case extract x ix =>
    obtain ⟨vs, h1, h2⟩ := obind_elim h
    obtain ⟨z, h3, h4⟩ := obind_elim h2
    refine val _ _ ?_ h4
    simp only [aop]
    cases hx : ev x <;> rw [hx] at h1 <;> simp [tupleV] at h1
    subst h1
    simp only [h3, Option.map_some]
  case lookup t x k ok => obtain ⟨z, h1, h2⟩ := obind_elim h; exact val _ _ (by simp only [aop, h1, Option.map_some]) h2
  case mapUpdate t m k x => obtain ⟨z, h1, h2⟩ := obind_elim h; exact val _ _ (by simp only [aop, h1, Option.map_some]) h2
  case insert t m k x => obtain ⟨z, h1, h2⟩ := obind_elim h; exact val _ _ (by simp only [aop, h1, Option.map_some]) h2
  case call c =>
    obtain ⟨callee, args, ts⟩ := c
    cases callee with
    | value f =>
      obtain ⟨⟨g, a, b⟩, h1, h2⟩ := obind_elim h
      refine cal _ _ ?_ h2
      simp only [aop]
      cases hx : ev f <;> rw [hx] at h1 <;> try (simp [funcV] at h1; done)
      rename_i fn first captured
      cases fn <;> simp [funcV] at h1
      obtain ⟨rfl, rfl, rfl⟩ := h1
      rfl
    | invoke r name =>
      obtain ⟨⟨t, v⟩, h1, h2⟩ := obind_elim h
      obtain ⟨f, h3, h4⟩ := obind_elim h2
      refine cal _ _ ?_ h4
      simp only [aop]
      cases hx : ev r <;> rw [hx] at h1 <;> simp [ifaceV] at h1
      obtain ⟨rfl, rfl⟩ := h1
      simp only [h3, Option.map_some]
    | builtin b =>
      cases b <;> simp only at h
      case len =>
        obtain ⟨z, h1, h2⟩ := obind_elim h
        refine val _ _ ?_ h2
        unfold lenOf1 at h1
        simp only [aop]
        split at h1
        · rename_i e1 e2; simp only [e1, e2, h1, Option.map_some]
        · cases h1
      case min =>
        obtain ⟨z, h1, h2⟩ := obind_elim h
        refine val _ _ ?_ h2
        unfold minV at h1
        simp only [aop]
        split at h1
        · rename_i e; rw [if_pos e, h1]; rfl
        · cases h1
      case max =>
        obtain ⟨z, h1, h2⟩ := obind_elim h
        refine val _ _ ?_ h2
        unfold maxV at h1
        simp only [aop]
        split at h1
        · rename_i e; rw [if_pos e, h1]; rfl
        · cases h1
      case append => obtain ⟨z, h1, h2⟩ := obind_elim h; exact val _ _ (by simp only [aop, h1, Option.map_some]) h2
      case copy => obtain ⟨z, h1, h2⟩ := obind_elim h; exact val _ _ (by simp only [aop, h1, Option.map_some]) h2
  all_goals exact h.elim
end Go.Abs
/- The abstract machine: what must hold ahead of code. -/
namespace Go.Abs
open Go Go.RowKit
set_option linter.unusedVariables false
set_option linter.unusedSimpArgs false

def dstOf (ops : Array Oper) (g : Nat) : Option Tmp := (ops[g]?).bind (·.dst)
def cleanK (ops : Array Oper) (d : Option Tmp) (kn : List (Nat × Bool)) : List (Nat × Bool) := kn.filter fun e => decide (dstOf ops e.1 ≠ d)
def cleanS (ops : Array Oper) (d : Option Tmp) (sk : List Nat) : List Nat := sk.filter fun g => decide (dstOf ops g ≠ d)
def setB (ts : Array Value) (d : Tmp) (b : Bool) : Array Value := ts.setIfInBounds d (.bool b)

/-- Both ways of a test. -/
def ifB (b : Bool) (A B : Prop) : Prop :=
  match b with
  | true => A
  | false => B
def condB (v : Value) (A B : Prop) : Prop :=
  match v with
  | .bool b => ifB b A B
  | _ => False
theorem ifB_true (A B : Prop) : ifB true A B = A := rfl
theorem ifB_false (A B : Prop) : ifB false A B = B := rfl
theorem ifB_iff {b : Bool} {A B : Prop} : ifB b A B ↔ (b = true → A) ∧ (b = false → B) := by cases b <;> simp [ifB]
theorem condB_bool (b : Bool) (A B : Prop) : condB (.bool b) A B = ifB b A B := rfl
theorem condB_elim {v : Value} {A B : Prop} (h : condB v A B) : ∃ b, v = .bool b ∧ (b = true → A) ∧ (b = false → B) := by
  cases v <;> simp only [condB] at h
  rename_i b
  exact ⟨b, rfl, ifB_iff.1 h⟩
theorem condB_mono {v : Value} {A B A' B' : Prop} (h : condB v A B) (ha : A → A') (hb : B → B') : condB v A' B' := by
  obtain ⟨b, rfl, h1, h2⟩ := condB_elim h
  exact ifB_iff.2 ⟨fun e => ha (h1 e), fun e => hb (h2 e)⟩
/-- A value under a name. -/
def letK {α : Type} (a : α) (k : α → Prop) : Prop := k a
theorem letK_intro {α : Type} {a : α} {k : α → Prop} (h : ∀ x, x = a → k x) : letK a k := h a rfl

/-- A guard decided: known already, or both ways. -/
def AWg (ops : Array Oper) (g : Nat) (want : Bool) (kn : List (Nat × Bool)) (sk : List Nat) (ts : Array Value) (run skip : List (Nat × Bool) → Array Value → Prop) : Prop :=
  if sk.contains g then skip kn ts else
  match kn.lookup g with
  | some b => if b = want then run kn ts else skip kn ts
  | none => match dstOf ops g with
    | none => False
    | some d => condB (ts.getD d undefV) (if want then run ((g, true) :: kn) (setB ts d true) else skip ((g, true) :: kn) (setB ts d true)) (if want then skip ((g, false) :: kn) (setB ts d false) else run ((g, false) :: kn) (setB ts d false))

def AWo (P : Program) (orc : Orc) (ops : Array Oper) : List Oper → Nat → List (Nat × Bool) → List Nat → Array Value → Heap → (Array Value → Heap → Prop) → Prop
  | [], _, _, _, ts, H, K => K ts H
  | o :: rest, i, kn, sk, ts, H, K =>
    match o.guard with
    | none => AWop P orc (evalT ts) o H fun v H' => AWo P orc ops rest (i + 1) (cleanK ops o.dst kn) (cleanS ops o.dst sk) (putT ts o.dst v) H' K
    | some (g, want) => AWg ops g want kn sk ts
        (fun kn ts => AWop P orc (evalT ts) o H fun v H' => AWo P orc ops rest (i + 1) (cleanK ops o.dst kn) (cleanS ops o.dst sk) (putT ts o.dst v) H' K)
        (fun kn ts => AWo P orc ops rest (i + 1) (cleanK ops o.dst kn) (i :: cleanS ops o.dst sk) (putT ts o.dst undefV) H K)

/-- What is held is as it was read. -/
def heldP (m : Nat) (H : Heap) : List Held → Prop
  | [] => True
  | h :: r => if h.upto < m then heldP m H r else h.read H = some h.was ∧ heldP m H r

def AWd (P : Program) (orc : Orc) (ops : Array Oper) (up : List Nat) : List Nat → Nat → List Held → List (Nat × Bool) → List Nat → Array Value → Heap → (Array Value → Heap → Prop) → Prop
  | [], _, _, _, _, ts, H, K => K ts H
  | i :: rest, m, hs, kn, sk, ts, H, K =>
    match ops[i]? with
    | none => False
    | some o =>
      let run := fun (kn : List (Nat × Bool)) (ts : Array Value) => AWop P orc (evalT ts) o H fun v H' =>
        match kindOf o.op with
        | .eff => heldP (m + 1) H' hs ∧ AWd P orc ops up rest (m + 1) hs (cleanK ops o.dst kn) (cleanS ops o.dst sk) (putT ts o.dst v) H' K
        | .read => AWd P orc ops up rest m (if up.getD i 0 = m then hs else ⟨up.getD i 0, readOp P (evalT ts) o, v⟩ :: hs) (cleanK ops o.dst kn) (cleanS ops o.dst sk) (putT ts o.dst v) H' K
        | _ => AWd P orc ops up rest m hs (cleanK ops o.dst kn) (cleanS ops o.dst sk) (putT ts o.dst v) H' K
      match o.guard with
      | none => run kn ts
      | some (g, want) => AWg ops g want kn sk ts run
          (fun kn ts => AWd P orc ops up rest (match kindOf o.op with | .eff => m + 1 | _ => m) hs (cleanK ops o.dst kn) (i :: cleanS ops o.dst sk) (putT ts o.dst undefV) H K)

def AWr (f : Array Value → Heap → (Ex → Array Value → Heap → Prop) → Prop) : Nat → Array Value → Heap → (Ex → Array Value → Heap → Prop) → Prop
  | 0, _, _, _ => False
  | n + 1, ts, H, K => f ts H fun ex ts' H' => match ex with
    | .normal => AWr f n ts' H' K
    | .exit id => K (.exit id) ts' H'
    | .ret => K .ret ts' H'

def seqK (next : Array Value → Heap → (Ex → Array Value → Heap → Prop) → Prop) (K : Ex → Array Value → Heap → Prop) : Ex → Array Value → Heap → Prop
  | .normal, ts, H => next ts H K
  | .exit id, ts, H => K (.exit id) ts H
  | .ret, ts, H => K .ret ts H
def blockK (id : Nat) (K : Ex → Array Value → Heap → Prop) : Ex → Array Value → Heap → Prop
  | .normal, ts, H => K .normal ts H
  | .exit id', ts, H => if id' = id then K .normal ts H else K (.exit id') ts H
  | .ret, ts, H => K .ret ts H
def AWc (P : Program) (orc : Orc) : Code → Array Value → Heap → (Ex → Array Value → Heap → Prop) → Prop
  | .skip, ts, H, K | .label _, ts, H, K => K .normal ts H
  | .region _ ops draw, ts, H, K => match draw with
    | true => AWd P orc ops (uptoL ops) (canon ops) 0 [] [] [] ts H fun ts' H' => K .normal ts' H'
    | false => AWo P orc ops ops.toList 0 [] [] ts H fun ts' H' => K .normal ts' H'
  | .seq a b, ts, H, K => AWc P orc a ts H (seqK (fun t h k => AWc P orc b t h k) K)
  | .cond c a b, ts, H, K => condB (evalT ts c) (AWc P orc a ts H K) (AWc P orc b ts H K)
  | .block id b, ts, H, K => AWc P orc b ts H (blockK id K)
  | .loop b, ts, H, K => ∃ n, AWr (fun t h k => AWc P orc b t h k) n ts H K
  | .scope b, ts, H, K => AWc P orc b ts H K
  | .exit id, ts, H, K => K (.exit id) ts H
  | .ret, ts, H, K => K .ret ts H
  | _, _, _, _ => False

def AWloop (P : Program) (orc : Orc) (b : Code) (ts : Array Value) (H : Heap) (K : Ex → Array Value → Heap → Prop) : Prop := ∃ n, AWr (fun t h k => AWc P orc b t h k) n ts H K

/-- A part of code, by its place. -/
def subC : Code → List Nat → Code
  | c, [] => c
  | .seq a b, i :: r => if i = 0 then subC a r else subC b r
  | .cond _ a b, i :: r => if i = 0 then subC a r else subC b r
  | .block _ b, _ :: r => subC b r
  | .loop b, _ :: r => subC b r
  | .scope b, _ :: r => subC b r
  | c, _ => c

/-! Sound -/
def Knows (ops : Array Oper) (kn : List (Nat × Bool)) (sk : List Nat) (ts : Array Value) : Prop :=
  (∀ g b, (g, b) ∈ kn → yielded ops ts g = some b) ∧ (∀ g, g ∈ sk → yielded ops ts g = none)

theorem yielded_put {ops : Array Oper} {ts : Array Value} {d : Option Tmp} {v : Value} {g : Nat} (h : dstOf ops g ≠ d) : yielded ops (putT ts d v) g = yielded ops ts g := by
  unfold yielded
  cases hd : (ops[g]?).bind (·.dst) with
  | none => rfl
  | some t =>
    simp only [Option.bind_some]
    cases d with
    | none => rfl
    | some d =>
      have : d ≠ t := fun e => h (by unfold dstOf; rw [hd, e])
      simp only [putT, Array.getElem?_setIfInBounds_ne this]
theorem Knows.put {ops : Array Oper} {kn : List (Nat × Bool)} {sk : List Nat} {ts : Array Value} (h : Knows ops kn sk ts) (d : Option Tmp) (v : Value) : Knows ops (cleanK ops d kn) (cleanS ops d sk) (putT ts d v) := by
  refine ⟨fun g b hg => ?_, fun g hg => ?_⟩
  · unfold cleanK at hg
    rw [List.mem_filter] at hg
    rw [yielded_put (by simpa using hg.2)]
    exact h.1 g b hg.1
  · unfold cleanS at hg
    rw [List.mem_filter] at hg
    rw [yielded_put (by simpa using hg.2)]
    exact h.2 g hg.1
theorem Knows.skip {ops : Array Oper} {kn : List (Nat × Bool)} {sk : List Nat} {ts : Array Value} (h : Knows ops kn sk ts) {i : Nat} {o : Oper} (ho : ops[i]? = some o) : Knows ops (cleanK ops o.dst kn) (i :: cleanS ops o.dst sk) (putT ts o.dst undefV) := by
  obtain ⟨h1, h2⟩ := h.put o.dst undefV
  refine ⟨h1, fun g hg => ?_⟩
  rcases List.mem_cons.1 hg with e | hg
  · subst e
    unfold yielded
    rw [ho]
    simp only [Option.bind_some]
    cases hd : o.dst with
    | none => rfl
    | some d =>
      simp only [Option.bind_some, putT]
      by_cases hlt : d < ts.size
      · rw [Array.getElem?_setIfInBounds_self_of_lt hlt]; rfl
      · rw [Array.getElem?_eq_none (by simp; exact Nat.le_of_not_lt hlt)]
  · exact h2 g hg
theorem lookup_mem {l : List (Nat × Bool)} {g : Nat} {b : Bool} (h : l.lookup g = some b) : (g, b) ∈ l := by
  induction l with
  | nil => cases h
  | cons x l ih =>
    obtain ⟨a, c⟩ := x
    rw [List.lookup_cons] at h
    split at h
    · rename_i e; injection h with h; subst h
      have : g = a := by simpa using e
      subst this; exact List.mem_cons_self
    · exact List.mem_cons_of_mem _ (ih h)

theorem guard_sound {ops : Array Oper} {g : Nat} {want : Bool} {kn : List (Nat × Bool)} {sk : List Nat} {ts : Array Value} {run skip : List (Nat × Bool) → Array Value → Prop} (hk : Knows ops kn sk ts) (h : AWg ops g want kn sk ts run skip) :
    ∃ kn', Knows ops kn' sk ts ∧ ((yielded ops ts g == some want) = true ∧ run kn' ts ∨ (yielded ops ts g == some want) = false ∧ skip kn' ts) := by
  unfold AWg at h
  split at h
  · rename_i e
    refine ⟨kn, hk, .inr ⟨?_, h⟩⟩
    rw [hk.2 g (by simpa using e)]; rfl
  · split at h
    · rename_i b hb
      have := hk.1 g b (lookup_mem hb)
      refine ⟨kn, hk, ?_⟩
      split at h
      · rename_i e; subst e; exact .inl ⟨by rw [this]; simp, h⟩
      · rename_i e; exact .inr ⟨by rw [this]; simp [e], h⟩
    · split at h
      · exact h.elim
      · rename_i d hd
        obtain ⟨b, hv, h1, h2⟩ := condB_elim h
        have hlt : ts[d]? = some (.bool b) := by
          rw [Array.getD_eq_getD_getElem?] at hv
          cases hx : ts[d]? with
          | none => rw [hx] at hv; cases hv
          | some y => rw [hx] at hv; simp only [Option.getD_some] at hv; rw [hv]
        have hset : setB ts d b = ts := by
          unfold setB
          apply Array.ext_getElem?
          intro j
          by_cases e : d = j
          · subst e
            obtain ⟨hl, _⟩ := Array.getElem?_eq_some_iff.1 hlt
            rw [Array.getElem?_setIfInBounds_self_of_lt hl, hlt]
          · rw [Array.getElem?_setIfInBounds_ne e]
        have hy : yielded ops ts g = some b := by
          unfold yielded
          unfold dstOf at hd
          rw [hd]
          simp only [Option.bind_some, hlt]
        refine ⟨(g, b) :: kn, ⟨fun g' b' hm => ?_, hk.2⟩, ?_⟩
        · rcases List.mem_cons.1 hm with e | hm
          · injection e with e1 e2; subst e1; subst e2; exact hy
          · exact hk.1 g' b' hm
        · rw [hy]
          cases b with
          | true =>
            have := h1 rfl
            rw [hset] at this
            cases want with
            | true => exact .inl ⟨rfl, this⟩
            | false => exact .inr ⟨rfl, this⟩
          | false =>
            have := h2 rfl
            rw [hset] at this
            cases want with
            | true => exact .inr ⟨rfl, this⟩
            | false => exact .inl ⟨rfl, this⟩

theorem aops_up {P : Program} {orc : Orc} {k k' : Nat} (h : k ≤ k') {ops : Array Oper} {l : List Nat} {t : Array Value} {H : Heap} {r : Array Value × Heap} (hr : aops P (arun P orc k) ops l t H = some r) : aops P (arun P orc k') ops l t H = some r :=
  aops_mono (arun_mono P orc k k' h) l t H r hr
theorem adraw_up {P : Program} {orc : Orc} {k k' : Nat} (h : k ≤ k') {ops : Array Oper} {up : Nat → Nat} {l : List Nat} {m : Nat} {hs : List Held} {t : Array Value} {H : Heap} {r : Array Value × Heap} (hr : adraw P (arun P orc k) ops up l m hs t H = some r) : adraw P (arun P orc k') ops up l m hs t H = some r :=
  adraw_mono (arun_mono P orc k k' h) l m hs t H r hr

theorem AWo_sound {P : Program} {orc : Orc} {ops : Array Oper} : ∀ (l : List Oper) (i : Nat) (kn : List (Nat × Bool)) (sk : List Nat) (ts : Array Value) (H : Heap) (K : Array Value → Heap → Prop), (∀ j, j < l.length → ops[i + j]? = l[j]?) → Knows ops kn sk ts → AWo P orc ops l i kn sk ts H K →
    ∃ k ts' H', aops P (arun P orc k) ops (List.range' i l.length) ts H = some (ts', H') ∧ K ts' H' := by
  intro l
  induction l with
  | nil => intro i kn sk ts H K _ _ h; exact ⟨0, ts, H, by simp [aops], h⟩
  | cons o rest ih =>
    intro i kn sk ts H K hops hk h
    have ho : ops[i]? = some o := by simpa using hops 0 (by simp)
    have hrest : ∀ j, j < rest.length → ops[i + 1 + j]? = rest[j]? := fun j hj => by
      have := hops (j + 1) (by simp; omega)
      rw [show i + (j + 1) = i + 1 + j by omega] at this
      simpa using this
    have runs : ∀ kn, Knows ops kn sk ts → Region.wanted o (yielded ops ts) = true → (AWop P orc (evalT ts) o H fun v H' => AWo P orc ops rest (i + 1) (cleanK ops o.dst kn) (cleanS ops o.dst sk) (putT ts o.dst v) H' K) →
        ∃ k ts' H', aops P (arun P orc k) ops (List.range' i (o :: rest).length) ts H = some (ts', H') ∧ K ts' H' := by
      intro kn hk hw h
      obtain ⟨k1, v, H1, h1, h2⟩ := AWop_sound h
      obtain ⟨k2, ts', H', h3, h4⟩ := ih _ _ _ _ _ _ hrest (hk.put o.dst v) h2
      refine ⟨max k1 k2, ts', H', ?_, h4⟩
      rw [List.length_cons, List.range'_succ]
      simp only [aops, ho, if_pos hw, astep_mono' (Nat.le_max_left k1 k2) h1]
      exact aops_up (Nat.le_max_right k1 k2) h3
    have skips : ∀ kn, Knows ops kn sk ts → Region.wanted o (yielded ops ts) = false → AWo P orc ops rest (i + 1) (cleanK ops o.dst kn) (i :: cleanS ops o.dst sk) (putT ts o.dst undefV) H K →
        ∃ k ts' H', aops P (arun P orc k) ops (List.range' i (o :: rest).length) ts H = some (ts', H') ∧ K ts' H' := by
      intro kn hk hw h
      obtain ⟨k2, ts', H', h3, h4⟩ := ih _ _ _ _ _ _ hrest (hk.skip ho) h
      refine ⟨k2, ts', H', ?_, h4⟩
      rw [List.length_cons, List.range'_succ]
      simp only [aops, ho, hw, Bool.false_eq_true, if_false]
      exact h3
    simp only [AWo] at h
    cases hg : o.guard with
    | none =>
      rw [hg] at h
      exact runs kn hk (by unfold Region.wanted; rw [hg]) h
    | some gw =>
      obtain ⟨g, want⟩ := gw
      rw [hg] at h
      obtain ⟨kn', hk', h | h⟩ := guard_sound hk h
      · exact runs kn' hk' (by unfold Region.wanted; rw [hg]; exact h.1) h.2
      · exact skips kn' hk' (by unfold Region.wanted; rw [hg]; exact h.1) h.2

theorem readOp_eq {P : Program} {ev : Operand → Value} {o : Oper} {H : Heap} (hk : kindOf o.op = .read) {v : Value} (h : readOp P ev o H = some v) : valOf (aop P ev o H) = some v := by
  obtain ⟨dst, op, type, pos, after, guard⟩ := o
  cases op <;> simp only [kindOf] at hk <;> try (cases hk)
  case load t a => simp only [readOp] at h; simp only [aop, h, Option.map_some, valOf]
  case convert s d x => simp only [readOp] at h; simp only [aop, h, Option.map_some, valOf]
  case slice t x lo hi mx => simp only [readOp] at h; simp only [aop, h, Option.map_some, valOf]
  case lookup t x k ok => simp only [readOp] at h; simp only [aop, h, Option.map_some, valOf]
  case call c =>
    obtain ⟨callee, args, ts⟩ := c
    cases callee with
    | value f => simp [kindOf] at hk
    | invoke r n => simp [kindOf] at hk
    | builtin b =>
      cases b <;> simp [kindOf] at hk
      simp only [readOp, lenOf1] at h
      simp only [aop]
      split at h
      · rename_i e1 e2; simp only [e1, e2, h, Option.map_some, valOf]
      · cases h

/-- What is held, told in both ways. -/
def SameHeld : List Held → List Held → Prop
  | [], [] => True
  | a :: l, b :: m => a.upto = b.upto ∧ a.was = b.was ∧ (∀ H v, a.read H = some v → b.read H = some v) ∧ SameHeld l m
  | _, _ => False
theorem heldP_ok {m : Nat} {H : Heap} : ∀ {l l' : List Held}, SameHeld l l' → heldP m H l → heldOk m H l' = true
  | [], [], _, _ => rfl
  | a :: l, b :: l', ⟨h1, h2, h3, h4⟩, h => by
    simp only [heldP] at h
    simp only [heldOk, List.all_cons, Bool.and_eq_true, Bool.or_eq_true, decide_eq_true_eq]
    split at h
    · rename_i e; exact ⟨.inl (by omega), heldP_ok h4 h⟩
    · refine ⟨.inr ?_, heldP_ok h4 h.2⟩
      rw [h3 H _ h.1]
      simp only
      rw [← h2]; exact veq_refl _
  | [], _ :: _, h, _ => h.elim
  | _ :: _, [], h, _ => h.elim

theorem AWd_sound {P : Program} {orc : Orc} {ops : Array Oper} {up : List Nat} : ∀ (l : List Nat) (m : Nat) (hs hs' : List Held) (kn : List (Nat × Bool)) (sk : List Nat) (ts : Array Value) (H : Heap) (K : Array Value → Heap → Prop), SameHeld hs hs' → Knows ops kn sk ts → AWd P orc ops up l m hs kn sk ts H K →
    ∃ k ts' H', adraw P (arun P orc k) ops (fun i => up.getD i 0) l m hs' ts H = some (ts', H') ∧ K ts' H' := by
  intro l
  induction l with
  | nil => intro m hs hs' kn sk ts H K _ _ h; exact ⟨0, ts, H, by simp [adraw], h⟩
  | cons i rest ih =>
    intro m hs hs' kn sk ts H K hsame hk h
    simp only [AWd] at h
    cases ho : ops[i]? with
    | none => simp only [ho] at h
    | some o =>
      simp only [ho] at h
      have runs : ∀ kn, Knows ops kn sk ts → Region.wanted o (yielded ops ts) = true → (AWop P orc (evalT ts) o H fun v H' =>
          match kindOf o.op with
          | .eff => heldP (m + 1) H' hs ∧ AWd P orc ops up rest (m + 1) hs (cleanK ops o.dst kn) (cleanS ops o.dst sk) (putT ts o.dst v) H' K
          | .read => AWd P orc ops up rest m (if up.getD i 0 = m then hs else ⟨up.getD i 0, readOp P (evalT ts) o, v⟩ :: hs) (cleanK ops o.dst kn) (cleanS ops o.dst sk) (putT ts o.dst v) H' K
          | _ => AWd P orc ops up rest m hs (cleanK ops o.dst kn) (cleanS ops o.dst sk) (putT ts o.dst v) H' K) →
          ∃ k ts' H', adraw P (arun P orc k) ops (fun i => up.getD i 0) (i :: rest) m hs' ts H = some (ts', H') ∧ K ts' H' := by
        intro kn hk hw h
        obtain ⟨k1, v, H1, h1, h2⟩ := AWop_sound h
        cases hkd : kindOf o.op with
        | eff =>
          rw [hkd] at h2
          obtain ⟨g1, g2⟩ := h2
          obtain ⟨k2, ts', H', h3, h4⟩ := ih _ _ _ _ _ _ _ _ hsame (hk.put o.dst v) g2
          refine ⟨max k1 k2, ts', H', ?_, h4⟩
          have e1 : ¬ (kindOf o.op = .eff ∧ heldOk (m + 1) H1 hs' = false) := by rw [heldP_ok hsame g1]; simp
          have e2 : (if kindOf o.op = .eff then m + 1 else m) = m + 1 := by rw [hkd]; simp
          have e3 : ∀ X : Held, (if kindOf o.op = .read ∧ up.getD i 0 ≠ m then X :: hs' else hs') = hs' := fun X => by rw [hkd]; simp
          simp only [adraw, ho, if_pos hw, astep_mono' (Nat.le_max_left k1 k2) h1, if_neg e1, e2, e3]
          exact adraw_up (Nat.le_max_right k1 k2) h3
        | read =>
          rw [hkd] at h2
          simp only at h2
          by_cases hu : up.getD i 0 = m
          · rw [if_pos hu] at h2
            obtain ⟨k2, ts', H', h3, h4⟩ := ih _ _ _ _ _ _ _ _ hsame (hk.put o.dst v) h2
            refine ⟨max k1 k2, ts', H', ?_, h4⟩
            have e1 : ¬ (kindOf o.op = .eff ∧ heldOk (m + 1) H1 hs' = false) := by rw [hkd]; simp
            have e2 : (if kindOf o.op = .eff then m + 1 else m) = m := by rw [hkd]; simp
            have e3 : ∀ X : Held, (if kindOf o.op = .read ∧ up.getD i 0 ≠ m then X :: hs' else hs') = hs' := fun X => if_neg (fun h => h.2 hu)
            simp only [adraw, ho, if_pos hw, astep_mono' (Nat.le_max_left k1 k2) h1, if_neg e1, e2, e3]
            exact adraw_up (Nat.le_max_right k1 k2) h3
          · rw [if_neg hu] at h2
            have hs2 : SameHeld (⟨up.getD i 0, readOp P (evalT ts) o, v⟩ :: hs) (⟨up.getD i 0, fun H => valOf (aop P (evalT ts) o H), v⟩ :: hs') :=
              ⟨rfl, rfl, fun H u hH => readOp_eq hkd hH, hsame⟩
            obtain ⟨k2, ts', H', h3, h4⟩ := ih _ _ _ _ _ _ _ _ hs2 (hk.put o.dst v) h2
            refine ⟨max k1 k2, ts', H', ?_, h4⟩
            have e1 : ¬ (kindOf o.op = .eff ∧ heldOk (m + 1) H1 hs' = false) := by rw [hkd]; simp
            have e2 : (if kindOf o.op = .eff then m + 1 else m) = m := by rw [hkd]; simp
            have e3 : ∀ X : Held, (if kindOf o.op = .read ∧ up.getD i 0 ≠ m then X :: hs' else hs') = X :: hs' := fun X => if_pos ⟨hkd, hu⟩
            simp only [adraw, ho, if_pos hw, astep_mono' (Nat.le_max_left k1 k2) h1, if_neg e1, e2, e3]
            exact adraw_up (Nat.le_max_right k1 k2) h3
        | quiet =>
          rw [hkd] at h2
          obtain ⟨k2, ts', H', h3, h4⟩ := ih _ _ _ _ _ _ _ _ hsame (hk.put o.dst v) h2
          refine ⟨max k1 k2, ts', H', ?_, h4⟩
          have e1 : ¬ (kindOf o.op = .eff ∧ heldOk (m + 1) H1 hs' = false) := by rw [hkd]; simp
          have e2 : (if kindOf o.op = .eff then m + 1 else m) = m := by rw [hkd]; simp
          have e3 : ∀ X : Held, (if kindOf o.op = .read ∧ up.getD i 0 ≠ m then X :: hs' else hs') = hs' := fun X => by rw [hkd]; simp
          simp only [adraw, ho, if_pos hw, astep_mono' (Nat.le_max_left k1 k2) h1, if_neg e1, e2, e3]
          exact adraw_up (Nat.le_max_right k1 k2) h3
        | make =>
          rw [hkd] at h2
          obtain ⟨k2, ts', H', h3, h4⟩ := ih _ _ _ _ _ _ _ _ hsame (hk.put o.dst v) h2
          refine ⟨max k1 k2, ts', H', ?_, h4⟩
          have e1 : ¬ (kindOf o.op = .eff ∧ heldOk (m + 1) H1 hs' = false) := by rw [hkd]; simp
          have e2 : (if kindOf o.op = .eff then m + 1 else m) = m := by rw [hkd]; simp
          have e3 : ∀ X : Held, (if kindOf o.op = .read ∧ up.getD i 0 ≠ m then X :: hs' else hs') = hs' := fun X => by rw [hkd]; simp
          simp only [adraw, ho, if_pos hw, astep_mono' (Nat.le_max_left k1 k2) h1, if_neg e1, e2, e3]
          exact adraw_up (Nat.le_max_right k1 k2) h3
      have skips : ∀ kn, Knows ops kn sk ts → Region.wanted o (yielded ops ts) = false → AWd P orc ops up rest (match kindOf o.op with | .eff => m + 1 | _ => m) hs (cleanK ops o.dst kn) (i :: cleanS ops o.dst sk) (putT ts o.dst undefV) H K →
          ∃ k ts' H', adraw P (arun P orc k) ops (fun i => up.getD i 0) (i :: rest) m hs' ts H = some (ts', H') ∧ K ts' H' := by
        intro kn hk hw h
        obtain ⟨k2, ts', H', h3, h4⟩ := ih _ _ _ _ _ _ _ _ hsame (hk.skip ho) h
        refine ⟨k2, ts', H', ?_, h4⟩
        simp only [adraw, ho, hw, Bool.false_eq_true, if_false]
        have e : (if kindOf o.op = .eff then m + 1 else m) = (match kindOf o.op with | .eff => m + 1 | _ => m) := by
          cases kindOf o.op <;> rfl
        rw [e]; exact h3
      cases hg : o.guard with
      | none =>
        rw [hg] at h
        exact runs kn hk (by unfold Region.wanted; rw [hg]) h
      | some gw =>
        obtain ⟨g, want⟩ := gw
        rw [hg] at h
        obtain ⟨kn', hk', h | h⟩ := guard_sound hk h
        · exact runs kn' hk' (by unfold Region.wanted; rw [hg]; exact h.1) h.2
        · exact skips kn' hk' (by unfold Region.wanted; rw [hg]; exact h.1) h.2

theorem acode_up {P : Program} {orc : Orc} {k k' : Nat} (h : k ≤ k') {c : Code} {t : Array Value} {H : Heap} {r : Ex × Array Value × Heap} (hr : acode P (arun P orc k) k c t H = some r) : acode P (arun P orc k') k' c t H = some r :=
  acode_mono (arun_mono P orc k k' h) h c t H r hr

theorem AWc_sound {P : Program} {orc : Orc} : ∀ (c : Code) (ts : Array Value) (H : Heap) (K : Ex → Array Value → Heap → Prop), AWc P orc c ts H K → ∃ k ex ts' H', acode P (arun P orc k) k c ts H = some (ex, ts', H') ∧ K ex ts' H' := by
  intro c
  induction c with
  | skip => intro ts H K h; exact ⟨0, .normal, ts, H, rfl, h⟩
  | label l => intro ts H K h; exact ⟨0, .normal, ts, H, rfl, h⟩
  | region id ops draw =>
    intro ts H K h
    cases draw with
    | true =>
      obtain ⟨k, ts', H', h1, h2⟩ := AWd_sound _ _ [] [] _ _ _ _ _ trivial ⟨fun g b hg => (List.not_mem_nil hg).elim, fun g hg => (List.not_mem_nil hg).elim⟩ h
      exact ⟨k, .normal, ts', H', by simp only [acode, if_true, h1, Option.map_some], h2⟩
    | false =>
      obtain ⟨k, ts', H', h1, h2⟩ := AWo_sound ops.toList 0 _ _ _ _ _ (fun j hj => by simp) ⟨fun g b hg => (List.not_mem_nil hg).elim, fun g hg => (List.not_mem_nil hg).elim⟩ h
      refine ⟨k, .normal, ts', H', ?_, h2⟩
      simp only [acode, Bool.false_eq_true, if_false]
      rw [List.range_eq_range', show ops.size = ops.toList.length by simp, h1]; rfl
  | seq a b iha ihb =>
    intro ts H K h
    obtain ⟨k1, ex, ts1, H1, h1, h2⟩ := iha _ _ _ h
    cases ex with
    | normal =>
      obtain ⟨k2, ex2, ts2, H2, h3, h4⟩ := ihb _ _ _ h2
      refine ⟨max k1 k2, ex2, ts2, H2, ?_, h4⟩
      simp only [acode, acode_up (Nat.le_max_left k1 k2) h1]
      exact acode_up (Nat.le_max_right k1 k2) h3
    | exit id => exact ⟨k1, .exit id, ts1, H1, by simp only [acode, h1], h2⟩
    | ret => exact ⟨k1, .ret, ts1, H1, by simp only [acode, h1], h2⟩
  | cond q a b iha ihb =>
    intro ts H K h
    obtain ⟨x, hv, h1, h2⟩ := condB_elim h
    cases x with
    | true =>
      obtain ⟨k, ex, ts', H', g1, g2⟩ := iha _ _ _ (h1 rfl)
      exact ⟨k, ex, ts', H', by simp only [acode, hv, if_true, g1], g2⟩
    | false =>
      obtain ⟨k, ex, ts', H', g1, g2⟩ := ihb _ _ _ (h2 rfl)
      exact ⟨k, ex, ts', H', by simp only [acode, hv, Bool.false_eq_true, if_false, g1], g2⟩
  | block id b ih =>
    intro ts H K h
    obtain ⟨k, ex, ts', H', h1, h2⟩ := ih _ _ _ h
    cases ex with
    | normal => exact ⟨k, .normal, ts', H', by simp only [acode, h1], h2⟩
    | ret => exact ⟨k, .ret, ts', H', by simp only [acode, h1], h2⟩
    | exit id' =>
      simp only [blockK] at h2
      split at h2
      · rename_i e; exact ⟨k, .normal, ts', H', by simp only [acode, h1, if_pos e], h2⟩
      · rename_i e; exact ⟨k, .exit id', ts', H', by simp only [acode, h1, if_neg e], h2⟩
  | loop b ih =>
    intro ts H K h
    obtain ⟨n, h⟩ := h
    have go : ∀ n ts H, AWr (fun t h k => AWc P orc b t h k) n ts H K → ∃ k m ex ts' H', iter (acode P (arun P orc k) k b) m ts H = some (ex, ts', H') ∧ K ex ts' H' := by
      intro n
      induction n with
      | zero => intro ts H h; exact h.elim
      | succ n ihn =>
        intro ts H h
        obtain ⟨k1, ex, ts1, H1, h1, h2⟩ := ih _ _ _ h
        cases ex with
        | normal =>
          obtain ⟨k2, m, ex2, ts2, H2, h3, h4⟩ := ihn _ _ h2
          refine ⟨max k1 k2, m + 1, ex2, ts2, H2, ?_, h4⟩
          simp only [iter, acode_up (Nat.le_max_left k1 k2) h1]
          exact iter_mono (fun t H r hr => acode_up (Nat.le_max_right k1 k2) hr) _ _ (Nat.le_refl _) _ _ _ h3
        | exit id => exact ⟨k1, 1, .exit id, ts1, H1, by simp only [iter, h1], h2⟩
        | ret => exact ⟨k1, 1, .ret, ts1, H1, by simp only [iter, h1], h2⟩
    obtain ⟨k, m, ex, ts', H', h1, h2⟩ := go n ts H h
    refine ⟨max k m, ex, ts', H', ?_, h2⟩
    simp only [acode]
    exact iter_mono (fun t H r hr => acode_up (Nat.le_max_left k m) hr) _ _ (Nat.le_max_right k m) _ _ _ h1
  | scope b ih => intro ts H K h; obtain ⟨k, ex, ts', H', h1, h2⟩ := ih _ _ _ h; exact ⟨k, ex, ts', H', by simp only [acode, h1], h2⟩
  | exit id => intro ts H K h; exact ⟨0, .exit id, ts, H, rfl, h⟩
  | ret => intro ts H K h; exact ⟨0, .ret, ts, H, rfl, h⟩
  | _ => intro ts H K h; exact h.elim

/-- What stands behind a body: its results. -/
def endK (P : Program) (rs : List ResultVar) (Q : Value → Heap → Prop) : Ex → Array Value → Heap → Prop
  | .exit _, _, _ => False
  | _, ts, H => obind (resultsV P rs ts H) fun vs => Q (packV vs) H

theorem Ev_of {P : Program} {orc : Orc} {f : FuncId} {fn : Func} {c : Code} {args : Array Value} {H : Heap} {Q : Value → Heap → Prop} (ho : orc f = none) (hf : P.funcs[f]? = some fn) (hc : callable fn = true) (hb : fn.body = some c)
    (h : AWc P orc c (enterT fn args) H (endK P fn.results.toList Q)) : Ev P orc f args H Q := by
  obtain ⟨k, ex, ts, H', h1, h2⟩ := AWc_sound _ _ _ _ h
  cases ex with
  | exit id => exact h2.elim
  | normal =>
    obtain ⟨vs, h3, h4⟩ := obind_elim h2
    exact ⟨k + 1, _, _, by simp only [arun, ho, hf, if_pos hc, abody, hb, h1, h3, Option.map_some], h4⟩
  | ret =>
    obtain ⟨vs, h3, h4⟩ := obind_elim h2
    exact ⟨k + 1, _, _, by simp only [arun, ho, hf, if_pos hc, abody, hb, h1, h3, Option.map_some], h4⟩

/-! More may be claimed of less -/
theorem obind_mono {α : Type} {o : Option α} {k k' : α → Prop} (h : obind o k) (hk : ∀ a, k a → k' a) : obind o k' := by
  obtain ⟨a, h1, h2⟩ := obind_elim h
  exact obind_of h1 (hk a h2)
theorem AWop_mono {P : Program} {orc : Orc} {ev : Operand → Value} {o : Oper} {H : Heap} {K K' : Value → Heap → Prop} (h : AWop P orc ev o H K) (hk : ∀ v H', K v H' → K' v H') : AWop P orc ev o H K' := by
  obtain ⟨dst, op, type, pos, after, guard⟩ := o
  cases op <;> simp only [AWop] at h ⊢
  case call c =>
    obtain ⟨callee, args, ts⟩ := c
    cases callee with
    | value f => exact obind_mono h fun g hg => hg.mono hk
    | invoke r name => exact obind_mono h fun g hg => obind_mono hg fun f hf => hf.mono hk
    | builtin b =>
      cases b <;> simp only at h ⊢ <;> first
        | exact h
        | exact obind_mono h fun _ hh => hk _ _ hh
  case extract x ix => exact obind_mono h fun _ hh => obind_mono hh fun _ hhh => hk _ _ hhh
  all_goals first
    | exact hk _ _ h
    | exact obind_mono h fun _ hh => hk _ _ hh
    | exact h
theorem AWg_mono {ops : Array Oper} {g : Nat} {want : Bool} {kn : List (Nat × Bool)} {sk : List Nat} {ts : Array Value} {run skip run' skip' : List (Nat × Bool) → Array Value → Prop} (h : AWg ops g want kn sk ts run skip)
    (h1 : ∀ kn ts, run kn ts → run' kn ts) (h2 : ∀ kn ts, skip kn ts → skip' kn ts) : AWg ops g want kn sk ts run' skip' := by
  unfold AWg at *
  split
  · rename_i e; rw [if_pos e] at h; exact h2 _ _ h
  · rename_i e
    rw [if_neg e] at h
    split
    · rename_i b hb
      simp only [hb] at h
      split
      · rename_i e2; rw [if_pos e2] at h; exact h1 _ _ h
      · rename_i e2; rw [if_neg e2] at h; exact h2 _ _ h
    · rename_i hb
      simp only [hb] at h
      split
      · rename_i hd; simp only [hd] at h
      · rename_i d hd
        simp only [hd] at h
        refine condB_mono h (fun this => ?_) (fun this => ?_)
        · cases want with
          | true => exact h1 _ _ this
          | false => exact h2 _ _ this
        · cases want with
          | true => exact h2 _ _ this
          | false => exact h1 _ _ this
theorem AWo_mono {P : Program} {orc : Orc} {ops : Array Oper} {K K' : Array Value → Heap → Prop} (hk : ∀ ts H, K ts H → K' ts H) : ∀ (l : List Oper) (i : Nat) (kn : List (Nat × Bool)) (sk : List Nat) (ts : Array Value) (H : Heap), AWo P orc ops l i kn sk ts H K → AWo P orc ops l i kn sk ts H K' := by
  intro l
  induction l with
  | nil => intro i kn sk ts H h; exact hk _ _ h
  | cons o rest ih =>
    intro i kn sk ts H h
    simp only [AWo] at h ⊢
    split
    · rename_i e
      simp only [e] at h
      exact AWop_mono h fun v H' hh => ih _ _ _ _ _ hh
    · rename_i g want e
      simp only [e] at h
      exact AWg_mono h (fun kn ts hh => AWop_mono hh fun v H' hhh => ih _ _ _ _ _ hhh) (fun kn ts hh => ih _ _ _ _ _ hh)
theorem AWd_mono {P : Program} {orc : Orc} {ops : Array Oper} {up : List Nat} {K K' : Array Value → Heap → Prop} (hk : ∀ ts H, K ts H → K' ts H) : ∀ (l : List Nat) (m : Nat) (hs : List Held) (kn : List (Nat × Bool)) (sk : List Nat) (ts : Array Value) (H : Heap), AWd P orc ops up l m hs kn sk ts H K → AWd P orc ops up l m hs kn sk ts H K' := by
  intro l
  induction l with
  | nil => intro m hs kn sk ts H h; exact hk _ _ h
  | cons i rest ih =>
    intro m hs kn sk ts H h
    simp only [AWd] at h ⊢
    cases ho : ops[i]? with
    | none => simp only [ho] at h
    | some o =>
      simp only [ho] at h ⊢
      have run : ∀ (kn : List (Nat × Bool)) (ts : Array Value), (AWop P orc (evalT ts) o H fun v H' =>
          match kindOf o.op with
          | .eff => heldP (m + 1) H' hs ∧ AWd P orc ops up rest (m + 1) hs (cleanK ops o.dst kn) (cleanS ops o.dst sk) (putT ts o.dst v) H' K
          | .read => AWd P orc ops up rest m (if up.getD i 0 = m then hs else ⟨up.getD i 0, readOp P (evalT ts) o, v⟩ :: hs) (cleanK ops o.dst kn) (cleanS ops o.dst sk) (putT ts o.dst v) H' K
          | _ => AWd P orc ops up rest m hs (cleanK ops o.dst kn) (cleanS ops o.dst sk) (putT ts o.dst v) H' K) →
          (AWop P orc (evalT ts) o H fun v H' =>
          match kindOf o.op with
          | .eff => heldP (m + 1) H' hs ∧ AWd P orc ops up rest (m + 1) hs (cleanK ops o.dst kn) (cleanS ops o.dst sk) (putT ts o.dst v) H' K'
          | .read => AWd P orc ops up rest m (if up.getD i 0 = m then hs else ⟨up.getD i 0, readOp P (evalT ts) o, v⟩ :: hs) (cleanK ops o.dst kn) (cleanS ops o.dst sk) (putT ts o.dst v) H' K'
          | _ => AWd P orc ops up rest m hs (cleanK ops o.dst kn) (cleanS ops o.dst sk) (putT ts o.dst v) H' K') := by
        intro kn ts h
        refine AWop_mono h fun v H' hh => ?_
        revert hh
        cases kindOf o.op with
        | eff => exact fun hh => ⟨hh.1, ih _ _ _ _ _ _ hh.2⟩
        | read => exact fun hh => ih _ _ _ _ _ _ hh
        | quiet => exact fun hh => ih _ _ _ _ _ _ hh
        | make => exact fun hh => ih _ _ _ _ _ _ hh
      split
      · rename_i e
        simp only [e] at h
        exact run _ _ h
      · rename_i g want e
        simp only [e] at h
        exact AWg_mono h run (fun kn ts hh => ih _ _ _ _ _ _ hh)
theorem AWr_mono {f : Array Value → Heap → (Ex → Array Value → Heap → Prop) → Prop} (hf : ∀ ts H K K', (∀ ex ts H, K ex ts H → K' ex ts H) → f ts H K → f ts H K') {K K' : Ex → Array Value → Heap → Prop} (hk : ∀ ex ts H, K ex ts H → K' ex ts H) :
    ∀ n ts H, AWr f n ts H K → AWr f n ts H K'
  | 0, _, _, h => h
  | n + 1, ts, H, h => by
    simp only [AWr] at h ⊢
    refine hf _ _ _ _ (fun ex ts H hh => ?_) h
    cases ex with
    | normal => exact AWr_mono hf hk n _ _ hh
    | exit id => exact hk _ _ _ hh
    | ret => exact hk _ _ _ hh
theorem AWc_mono {P : Program} {orc : Orc} : ∀ (c : Code) (ts : Array Value) (H : Heap) (K K' : Ex → Array Value → Heap → Prop), (∀ ex ts H, K ex ts H → K' ex ts H) → AWc P orc c ts H K → AWc P orc c ts H K' := by
  intro c
  induction c with
  | skip => intro ts H K K' hk h; exact hk _ _ _ h
  | label l => intro ts H K K' hk h; exact hk _ _ _ h
  | region id ops draw =>
    intro ts H K K' hk h
    cases draw with
    | true => exact AWd_mono (fun ts H hh => hk _ _ _ hh) _ _ _ _ _ _ _ h
    | false => exact AWo_mono (fun ts H hh => hk _ _ _ hh) _ _ _ _ _ _ h
  | seq a b iha ihb =>
    intro ts H K K' hk h
    refine iha _ _ _ _ (fun ex ts H hh => ?_) h
    cases ex with
    | normal => exact ihb _ _ _ _ hk hh
    | exit id => exact hk _ _ _ hh
    | ret => exact hk _ _ _ hh
  | cond q a b iha ihb =>
    intro ts H K K' hk h
    exact condB_mono h (fun hh => iha _ _ _ _ hk hh) (fun hh => ihb _ _ _ _ hk hh)
  | block id b ih =>
    intro ts H K K' hk h
    refine ih _ _ _ _ (fun ex ts H hh => ?_) h
    cases ex with
    | normal => exact hk _ _ _ hh
    | ret => exact hk _ _ _ hh
    | exit id' =>
      simp only [blockK] at hh ⊢
      split
      · rename_i e; rw [if_pos e] at hh; exact hk _ _ _ hh
      · rename_i e; rw [if_neg e] at hh; exact hk _ _ _ hh
  | loop b ih =>
    intro ts H K K' hk h
    obtain ⟨n, h⟩ := h
    exact ⟨n, AWr_mono (f := fun t h k => AWc P orc b t h k) (fun ts H K K' hk h => ih _ _ _ _ hk h) hk n ts H h⟩
  | scope b ih => intro ts H K K' hk h; exact ih _ _ _ _ hk h
  | exit id => intro ts H K K' hk h; exact hk _ _ _ h
  | ret => intro ts H K K' hk h; exact hk _ _ _ h
  | _ => intro ts H K K' hk h; exact h

/-- A loop: what holds ahead of each round, and a measure. -/
theorem AWloop_rule {P : Program} {orc : Orc} {b : Code} {ts : Array Value} {H : Heap} {K : Ex → Array Value → Heap → Prop} (I : Nat → Array Value → Heap → Prop) (n : Nat) (h0 : I n ts H)
    (step : ∀ n ts H, I n ts H → AWc P orc b ts H (seqK (fun ts' H' _ => ∃ m, m < n ∧ I m ts' H') K)) : AWloop P orc b ts H K := by
  have key : ∀ N n, n < N → ∀ ts H, I n ts H → AWr (fun t h k => AWc P orc b t h k) N ts H K := by
    intro N
    induction N with
    | zero => intro n hn; omega
    | succ N ih =>
      intro n hn ts H hI
      refine AWc_mono _ _ _ _ _ (fun ex ts H hh => ?_) (step n ts H hI)
      cases ex with
      | normal =>
        obtain ⟨m, hm, hI'⟩ := hh
        exact ih m (by omega) _ _ hI'
      | exit id => exact hh
      | ret => exact hh
  exact ⟨n + 1, key (n + 1) n (by omega) ts H h0⟩
/-- A sequence, cut. -/
theorem AWc_cut {P : Program} {orc : Orc} {a : Code} {ts : Array Value} {H : Heap} {K : Ex → Array Value → Heap → Prop} (J : Ex → Array Value → Heap → Prop) (h : AWc P orc a ts H J) (hJ : ∀ ex ts' H', J ex ts' H' → K ex ts' H') : AWc P orc a ts H K :=
  AWc_mono _ _ _ _ _ hJ h
end Go.Abs
namespace Go.Abs
theorem Ev_ofW {P : Program} {orc : Orc} {f : FuncId} {fn : Func} {c : Code} {args : Array Value} {H : Heap} {Q : Value → Heap → Prop} {W : Prop} (ho : orc f = none) (hf : P.funcs[f]? = some fn) (hc : callable fn = true) (hb : fn.body = some c)
    (e : AWc P orc c (enterT fn args) H (endK P fn.results.toList Q) = W) (h : W) : Ev P orc f args H Q := Ev_of ho hf hc hb (by rw [e]; exact h)
end Go.Abs
/- The abstract machine: what its operations come to. -/
namespace Go.Abs
open Go Go.RowKit
set_option linter.unusedVariables false
set_option linter.unusedSimpArgs false

@[simp] theorem obind_some' {α : Type} (a : α) (k : α → Prop) : obind (some a) k = k a := propext Iff.rfl
@[simp] theorem condB_bool' (b : Bool) (A B : Prop) : condB (.bool b) A B = ifB b A B := propext Iff.rfl
@[simp] theorem ifB_true' (A B : Prop) : ifB true A B = A := propext Iff.rfl
@[simp] theorem ifB_false' (A B : Prop) : ifB false A B = B := propext Iff.rfl
theorem ifB_dec {p : Prop} [Decidable p] {A B : Prop} (ha : p → A) (hb : ¬p → B) : ifB (decide p) A B := by
  by_cases h : p
  · rw [decide_eq_true h]; exact ha h
  · rw [decide_eq_false h]; exact hb h
theorem ifB_of {b : Bool} {A B : Prop} (ha : b = true → A) (hb : b = false → B) : ifB b A B := by cases b; exact hb rfl; exact ha rfl

@[simp] theorem boolV_bool (b : Bool) : boolV (.bool b) = some b := rfl
@[simp] theorem tupleV_tuple (vs : Array Value) : tupleV (.tuple vs) = some vs := rfl
@[simp] theorem nonNilV_ptr (id off : Nat) : nonNilV (ptr id off) = some (ptr id off) := rfl
@[simp] theorem nonNilV_func (f : FuncId) (a b : Array Value) : nonNilV (.func (.func f) a b) = some (.func (.func f) a b) := rfl
@[simp] theorem nonNilV_iface (t : TypeId) (v : Value) : nonNilV (.iface t v) = some (.iface t v) := rfl
@[simp] theorem funcV_func (f : FuncId) (a b : Array Value) : funcV (.func (.func f) a b) = some (f, a, b) := rfl
@[simp] theorem ifaceV_iface (t : TypeId) (v : Value) : ifaceV (.iface t v) = some (t, v) := rfl
@[simp] theorem purely_pure' (P : Program) {α : Type} (a : α) : purely P (pure a : Sem α) = some a := rfl
@[simp] theorem purely_bind' (P : Program) {α β : Type} (s : Sem α) (f : α → Sem β) : purely P (s >>= f) = (purely P s).bind fun a => purely P (f a) := purely_bind P s f
@[simp] theorem flatRes_some' (v : Value) : flatRes (some v) = if flat v then some v else none := rfl
@[simp] theorem flat_int (k : IntKind) (n : Int) : flat (.int k n) = true := rfl
@[simp] theorem flat_bool (b : Bool) : flat (.bool b) = true := rfl
@[simp] theorem flat_string (s : ByteArray) : flat (.string s) = true := rfl

/-- Bits of whole numbers. -/
def ibits (op : BinOp) (k : IntKind) (x y : Int) : Int :=
  k.wrap (match op with
    | .and => (BitVec.ofInt k.bits x &&& BitVec.ofInt k.bits y).toNat
    | .or => (BitVec.ofInt k.bits x ||| BitVec.ofInt k.bits y).toNat
    | .xor => (BitVec.ofInt k.bits x ^^^ BitVec.ofInt k.bits y).toNat
    | _ => (BitVec.ofInt k.bits x &&& ~~~ BitVec.ofInt k.bits y).toNat : Nat)

section bin
variable (P : Program) (t : TypeId) (x y : Operand) (k : IntKind) (a b : Int)
@[simp] theorem abin_add : abin P .add t x y (.int k a) (.int k b) = some (.int k (k.wrap (a + b))) := by simp [abin, eqGuard, Go.binOp, Op.intArith]
@[simp] theorem abin_sub : abin P .sub t x y (.int k a) (.int k b) = some (.int k (k.wrap (a - b))) := by simp [abin, eqGuard, Go.binOp, Op.intArith]
@[simp] theorem abin_mul : abin P .mul t x y (.int k a) (.int k b) = some (.int k (k.wrap (a * b))) := by simp [abin, eqGuard, Go.binOp, Op.intArith]
@[simp] theorem abin_lss : abin P .lss t x y (.int k a) (.int k b) = some (.bool (decide (a < b))) := by simp [abin, eqGuard, Go.binOp, Op.intCmp]
@[simp] theorem abin_leq : abin P .leq t x y (.int k a) (.int k b) = some (.bool (decide (a ≤ b))) := by simp [abin, eqGuard, Go.binOp, Op.intCmp]
@[simp] theorem abin_gtr : abin P .gtr t x y (.int k a) (.int k b) = some (.bool (decide (b < a))) := by simp [abin, eqGuard, Go.binOp, Op.intCmp]
@[simp] theorem abin_geq : abin P .geq t x y (.int k a) (.int k b) = some (.bool (decide (b ≤ a))) := by simp [abin, eqGuard, Go.binOp, Op.intCmp]
@[simp] theorem abin_eql : abin P .eql t x y (.int k a) (.int k b) = some (.bool (decide (a = b))) := by
  simp [abin, eqGuard, Go.binOp, Op.intCmp]
  rfl
@[simp] theorem abin_neq : abin P .neq t x y (.int k a) (.int k b) = some (.bool (decide (a ≠ b))) := by
  simp [abin, eqGuard, Go.binOp, Op.intCmp, bne]
  rfl
@[simp] theorem abin_and : abin P .and t x y (.int k a) (.int k b) = some (.int k (ibits .and k a b)) := by simp [abin, eqGuard, Go.binOp, Op.intBits, ibits]
@[simp] theorem abin_or : abin P .or t x y (.int k a) (.int k b) = some (.int k (ibits .or k a b)) := by simp [abin, eqGuard, Go.binOp, Op.intBits, ibits]
@[simp] theorem abin_xor : abin P .xor t x y (.int k a) (.int k b) = some (.int k (ibits .xor k a b)) := by simp [abin, eqGuard, Go.binOp, Op.intBits, ibits]
@[simp] theorem abin_andNot : abin P .andNot t x y (.int k a) (.int k b) = some (.int k (ibits .andNot k a b)) := by simp [abin, eqGuard, Go.binOp, Op.intBits, ibits]
theorem abin_shl (j : IntKind) (h : 0 ≤ b) : abin P .shl t x y (.int k a) (.int j b) = some (.int k (k.wrap (a * 2 ^ (min b.toNat k.bits)))) := by
  have : ¬ b < 0 := by omega
  simp [abin, eqGuard, Go.binOp, Op.shift, this]
theorem abin_shr (j : IntKind) (h : 0 ≤ b) : abin P .shr t x y (.int k a) (.int j b) = some (.int k (a.fdiv (2 ^ (min b.toNat k.bits)))) := by
  have : ¬ b < 0 := by omega
  simp [abin, eqGuard, Go.binOp, Op.shift, this]
theorem abin_quo (h : b ≠ 0) : abin P .quo t x y (.int k a) (.int k b) = some (.int k (k.wrap (a.tdiv b))) := by simp [abin, eqGuard, Go.binOp, Op.intDiv, h]
theorem abin_rem (h : b ≠ 0) : abin P .rem t x y (.int k a) (.int k b) = some (.int k (a.tmod b)) := by simp [abin, eqGuard, Go.binOp, Op.intDiv, h]
theorem purely_under {t : TypeId} {d : TypeDesc} (h : P.underlying t = some d) : purely P (underlying t) = some d := by
  show purely P (program >>= _) = _
  rw [purely_bind]
  show purely P _ = _
  rw [h]; rfl
theorem abin_eql_bool (h : P.underlying t = some .bool) (p q : Bool) : abin P .eql t x y (.bool p) (.bool q) = some (.bool (decide (p = q))) := by
  simp [abin, eqGuard, Go.binOp]
  rw [equal_one]; unfold Op.equalIn
  simp [purely_under P h]
  rfl
theorem abin_neq_bool (h : P.underlying t = some .bool) (p q : Bool) : abin P .neq t x y (.bool p) (.bool q) = some (.bool (decide (p ≠ q))) := by
  simp [abin, eqGuard, Go.binOp]
  rw [equal_one]; unfold Op.equalIn
  simp [purely_under P h]
  cases p <;> cases q <;> rfl
end bin
@[simp] theorem unV_not (P : Program) (b : Bool) : unV P .not (.bool b) = some (.bool (!b)) := by simp [unV, Op.unary]
@[simp] theorem unV_neg (P : Program) (k : IntKind) (n : Int) : unV P .neg (.int k n) = some (.int k (k.wrap (0 - n))) := by simp [unV, Op.unary, Op.intArith]
@[simp] theorem unV_xor (P : Program) (k : IntKind) (n : Int) : unV P .xor (.int k n) = some (.int k (ibits .xor k (if k.signed then -1 else k.max) n)) := by simp [unV, Op.unary, Op.intBits, ibits]

@[simp] theorem lenOf1_slice (P : Program) (a : Option Addr) (n c : Nat) (t : TypeId) (H : Heap) {e : TypeId × Nat × Nat} (h : elemT P t = some e) : lenOf1 P [.slice a n c] [t] H = some (.int .i64 n) := by simp [lenOf1, alen, h]
@[simp] theorem lenOf1_slc (P : Program) (id off n c : Nat) (t : TypeId) (H : Heap) {e : TypeId × Nat × Nat} (h : elemT P t = some e) : lenOf1 P [slc id off n c] [t] H = some (.int .i64 n) := by simp [lenOf1, slc, alen, h]

theorem afieldAddr_eq {P : Program} {s : TypeId} {f o u size id off : Nat} (h : fieldT P s f = some (o, u, size)) (hs : size ≠ 0) : afieldAddr P s (ptr id off) f = some (ptr id (off + o)) := by
  unfold afieldAddr ptr
  simp only [h, if_neg hs]
theorem afield_eq {P : Program} {s : TypeId} {f o u size : Nat} {cs : Array Value} (h : fieldT P s f = some (o, u, size)) : afield P s (.agg cs) f = partV P u size cs.toList o := by
  unfold afield
  simp only [h]
theorem aload_one {P : Program} {t : TypeId} {id off : Nat} {H : Heap} {c : List Value} {m : Md} {v : Value} (h : H.get id = some (.cells c m)) (ht : isAggT P t = some false) (hv : c[off]? = some v) : aload P t (ptr id off) H = some v := by
  unfold aload ptr; simp only [h, ht, hv]
theorem aload_agg {P : Program} {t : TypeId} {id off n : Nat} {H : Heap} {c : List Value} {m : Md} (h : H.get id = some (.cells c m)) (ht : isAggT P t = some true) (hn : sizeT P t = some n) (hle : off + n ≤ c.length) : aload P t (ptr id off) H = some (.agg ((c.drop off).take n).toArray) := by
  unfold aload ptr; simp only [h, ht, hn, if_pos hle]
theorem astore_eq {P : Program} {t : TypeId} {id off : Nat} {H : Heap} {c : List Value} {m : Md} {v : Value} (h : H.get id = some (.cells c m)) (hm : m ≠ .ro) (hn : sizeT P t = some v.cells.size) (hle : off + v.cells.size ≤ c.length) (hs : v.cells.toList.all scal = true) :
    astore P t (ptr id off) v H = some (H.set id (.cells (writeAt c off v.cells.toList) m)) := by
  unfold astore ptr
  simp only [hn, if_true]
  unfold astoreAt
  simp only [h]
  rw [if_pos ⟨hm, by simpa using hle, hs⟩]
theorem aindexAddr_slice {P : Program} {t : TypeId} {id off n c e size bytes : Nat} {k : IntKind} {i : Int} (h : elemT P t = some (e, size, bytes)) (h0 : 0 ≤ i) (h1 : i < n) : aindexAddr P t (slc id off n c) (.int k i) = some (ptr id (off + i.toNat * size)) := by
  unfold aindexAddr slc; simp only [h, if_pos (And.intro h0 h1)]
theorem aindexAddr_arr {P : Program} {t : TypeId} {id off n e size : Nat} {k : IntKind} {i : Int} (h : arrT P t = some (n, e, size)) (h0 : 0 ≤ i) (h1 : i < n) : aindexAddr P t (ptr id off) (.int k i) = some (ptr id (off + i.toNat * size)) := by
  unfold aindexAddr ptr; simp only [h, if_pos (And.intro h0 h1)]

/-! By the block -/
def loadC (P : Program) (t : TypeId) (c : List Value) (off : Nat) : Option Value :=
  match isAggT P t, sizeT P t with
  | some true, some n => if off + n ≤ c.length then some (.agg ((c.drop off).take n).toArray) else none
  | some false, _ => c[off]?
  | _, _ => none
theorem aload_ptr {P : Program} {t : TypeId} {id off : Nat} {H : Heap} {c : List Value} {m : Md} (h : H.get id = some (.cells c m)) : aload P t (ptr id off) H = loadC P t c off := by
  unfold aload ptr loadC; simp only [h]; rfl
theorem loadC_one {P : Program} {t : TypeId} {c : List Value} {off : Nat} (ht : isAggT P t = some false) : loadC P t c off = c[off]? := by unfold loadC; simp only [ht]
theorem loadC_agg {P : Program} {t : TypeId} {c : List Value} {off n : Nat} (ht : isAggT P t = some true) (hn : sizeT P t = some n) : loadC P t c off = if off + n ≤ c.length then some (.agg ((c.drop off).take n).toArray) else none := by unfold loadC; simp only [ht, hn]
def storeC (P : Program) (t : TypeId) (c : List Value) (off : Nat) (v : Value) : Option (List Value) :=
  if some v.cells.size = sizeT P t ∧ off + v.cells.toList.length ≤ c.length ∧ v.cells.toList.all scal = true then some (writeAt c off v.cells.toList) else none
theorem astore_ptr {P : Program} {t : TypeId} {id off : Nat} {H : Heap} {c : List Value} {m : Md} {v : Value} (h : H.get id = some (.cells c m)) (hm : m ≠ .ro) : astore P t (ptr id off) v H = (storeC P t c off v).map fun c' => H.set id (.cells c' m) := by
  unfold astore ptr storeC astoreAt
  simp only [h]
  by_cases h1 : some v.cells.size = sizeT P t
  · by_cases h2 : off + v.cells.toList.length ≤ c.length ∧ v.cells.toList.all scal = true
    · rw [if_pos h1, if_pos ⟨hm, h2⟩, if_pos ⟨h1, h2⟩]; rfl
    · rw [if_pos h1, if_neg (fun h => h2 h.2), if_neg (fun h => h2 h.2)]; rfl
  · rw [if_neg h1, if_neg (fun h => h1 h.1)]; rfl

/-! Heaps -/
@[simp] theorem get_push_new (H : Heap) (b : Blk) : (H.push b).get H.n = some b := get_push_self H b
theorem get_push_old {H : Heap} {b c : Blk} {i : Nat} (h : H.get i = some c) : (H.push b).get i = some c := by rw [Heap.get_push, if_neg (Nat.ne_of_lt (Heap.get_lt h))]; exact h
theorem get_set_new {H : Heap} {i : Nat} {b c : Blk} (h : H.get i = some c) : (H.set i b).get i = some b := get_set_self h
theorem get_set_old {H : Heap} {i j : Nat} {b : Blk} (h : j ≠ i) : (H.set i b).get j = H.get j := get_set_other H b h

/-- Calls to functions that make memory at most: all that was there is as it was. -/
theorem PushExt.of_eq {H H' : Heap} (h : H' = H) : PushExt H H' := by subst h; exact PushExt.refl _
end Go.Abs
/- The abstract machine: rows that came in; an answer told from elsewhere; the call. -/
namespace Go.Abs
open Go Go.RowKit
set_option linter.unusedVariables false
set_option linter.unusedSimpArgs false

/-- A row below B0 is read, never written. -/
theorem Rel.addRo {B0 : Nat} {ρ : Ren} {H : Heap} {w : World} (r : Rel B0 ρ H w) (b off : Nat) (hb : b < B0) (c : List Value)
    (hc : ∀ (i : Nat) (v : Value), c[i]? = some v → ∃ v' : Value, w.cell? ⟨b, off + i, none⟩ = some v' ∧ VR ρ v v') :
    Rel B0 (ρ.upd H.n ⟨b, off, 0, .ro⟩) (H.push (.cells c .ro)) w ∧ Le ρ (ρ.upd H.n ⟨b, off, 0, .ro⟩) := by
  have hno : ∀ i L, ρ i = some L → i ≠ H.n := fun i L h e => by subst e; exact absurd (r.dom _ L h).1 (Nat.lt_irrefl _)
  have hle : Le ρ (ρ.upd H.n ⟨b, off, 0, .ro⟩) := fun i L h => by rw [Ren.upd_ne _ _ (hno i L h)]; exact h
  have old : ∀ i L', ρ.upd H.n ⟨b, off, 0, .ro⟩ i = some L' → (i = H.n ∧ L' = ⟨b, off, 0, .ro⟩) ∨ (i ≠ H.n ∧ ρ i = some L') := by
    intro i L' h
    by_cases e : i = H.n
    · subst e; rw [Ren.upd_same] at h; exact .inl ⟨rfl, by injection h with h; exact h.symm⟩
    · rw [Ren.upd_ne _ _ e] at h; exact .inr ⟨e, h⟩
  have get : ∀ i, i ≠ H.n → (H.push (.cells c .ro)).get i = H.get i := fun i h => by rw [Heap.get_push, if_neg h]
  have new : (H.push (.cells c .ro)).get H.n = some (.cells c .ro) := by rw [Heap.get_push, if_pos rfl]
  have noro : ∀ {i c' md'}, i = H.n → (H.push (.cells c .ro)).get i = some (.cells c' md') → md' ≠ .ro → False := by
    intro i c' md' e h hm; subst e; rw [new] at h; injection h with h; injection h with h1 h2; exact hm h2.symm
  refine ⟨⟨r.low, ?_, ?_, ?_, ?_, ?_, ?_, ?_, ?_⟩, hle⟩
  · intro i L' h
    rcases old i L' h with ⟨rfl, rfl⟩ | ⟨hne, h⟩
    · exact ⟨by simp, Nat.lt_of_lt_of_le hb r.low⟩
    · have := r.dom i L' h; exact ⟨by simp; omega, this.2⟩
  · intro i L' c' md' h e j v hv
    rcases old i L' h with ⟨rfl, rfl⟩ | ⟨hne, h⟩
    · rw [new] at e; injection e with e; injection e with e1 e2; subst e1; subst e2
      obtain ⟨v', h1, h2⟩ := hc j v hv
      exact ⟨v', h1, h2.mono hle⟩
    · rw [get i hne] at e
      obtain ⟨v', h1, h2⟩ := r.cells i L' c' md' h e j v hv
      exact ⟨v', h1, h2.mono hle⟩
  · intro i L' c' md' h e hm
    rcases old i L' h with ⟨h1, rfl⟩ | ⟨hne, h⟩
    · exact (noro h1 e hm).elim
    · rw [get i hne] at e; exact r.own i L' c' md' h e hm
  · intro i L' c' h e
    rcases old i L' h with ⟨rfl, rfl⟩ | ⟨hne, h⟩
    · exact hb
    · rw [get i hne] at e; exact r.lowRo i L' c' h e
  · intro i L' c' md' h e
    rcases old i L' h with ⟨rfl, rfl⟩ | ⟨hne, h⟩
    · rw [new] at e; injection e with e; injection e
    · rw [get i hne] at e; exact r.kind i L' c' md' h e
  · intro i i' L L' c' md c'' md' hn h h' e e' hm hm'
    rcases old i L h with ⟨h1, rfl⟩ | ⟨hne, h⟩
    · exact (noro h1 e hm).elim
    · rcases old i' L' h' with ⟨h1, rfl⟩ | ⟨hne', h'⟩
      · exact (noro h1 e' hm').elim
      · rw [get i hne] at e; rw [get i' hne'] at e'
        exact r.sep i i' L L' c' md c'' md' hn h h' e e' hm hm'
  · intro i L es h e
    rcases old i L h with ⟨rfl, rfl⟩ | ⟨hne, h⟩
    · rw [new] at e; injection e with e; cases e
    · rw [get i hne] at e
      obtain ⟨h1, ms, cl, h2, h3⟩ := r.maps i L es h e
      exact ⟨h1, ms, cl, h2, h3.mono hle⟩
  · intro i i' L L' es es' hn h h' e e'
    rcases old i L h with ⟨rfl, rfl⟩ | ⟨hne, h⟩
    · rw [new] at e; injection e with e; cases e
    · rcases old i' L' h' with ⟨rfl, rfl⟩ | ⟨hne', h'⟩
      · rw [new] at e'; injection e' with e'; cases e'
      · rw [get i hne] at e; rw [get i' hne'] at e'
        exact r.sepM i i' L L' es es' hn h h' e e'

/-- Nothing is known of a world. -/
theorem Rel.empty (w : World) : Rel w.heap.size (fun _ => none) Heap.nil w :=
  ⟨Nat.le_refl _, (fun _ _ h => nomatch h), (fun _ _ _ _ h => nomatch h), (fun _ _ _ _ h => nomatch h), (fun _ _ _ h => nomatch h), (fun _ _ _ _ h => nomatch h),
   (fun _ _ _ _ _ _ _ _ _ h => nomatch h), (fun _ _ _ h => nomatch h), (fun _ _ _ _ _ _ _ h => nomatch h)⟩

/-- What lies below the world's end stays. -/
theorem Rel.below {B0 : Nat} {ρ : Ren} {H : Heap} {w w' : World} (r : Rel B0 ρ H w) (b : Below w.heap.size w w') : Rel B0 ρ H w' := by
  have blk : ∀ k, k < w.heap.size → w'.heap[k]? = w.heap[k]? := b.block
  have cell : ∀ a : Addr, a.block < w.heap.size → w'.cell? a = w.cell? a := fun a h => by unfold World.cell?; rw [blk _ h]
  have froz : ∀ a : Addr, a.block < w.heap.size → w'.frozen? a = w.frozen? a := fun a h => by unfold World.frozen?; rw [blk _ h]
  refine ⟨Nat.le_trans r.low b.size, fun id L h => ⟨(r.dom id L h).1, Nat.lt_of_lt_of_le (r.dom id L h).2 b.size⟩, ?_, ?_, r.lowRo, r.kind, r.sep, ?_, r.sepM⟩
  · intro id L c md h e i v hv
    obtain ⟨v', h1, h2⟩ := r.cells id L c md h e i v hv
    exact ⟨v', by rw [cell _ (r.dom id L h).2]; exact h1, h2⟩
  · intro id L c md h e hm
    obtain ⟨h1, h2, h3⟩ := r.own id L c md h e hm
    exact ⟨h1, h2, fun o ho ho' => by rw [cell _ (r.dom id L h).2, froz _ (r.dom id L h).2]; exact h3 o ho ho'⟩
  · intro id L es h e
    obtain ⟨h1, ms, cl, h2, h3⟩ := r.maps id L es h e
    exact ⟨h1, ms, cl, by rw [blk _ (r.dom id L h).2]; exact h2, h3⟩

theorem below_less {B B' : Nat} {w w' : World} (h : B' ≤ B) (b : Below B w w') : Below B' w w' := ⟨b.os, b.tape, b.output, b.size, fun k hk => b.block k (Nat.lt_of_lt_of_le hk h)⟩

/-- A call without arguments that answers one flat value, whatever the world. -/
def Tells (P : Program) (f : FuncId) (v : Value) : Prop := CallOk P f ∧ flat v = true ∧ ∀ w, Calls P f #[] w fun e w' => e = .returned v ∧ Below w.heap.size w w'
theorem tells_of {P : Program} (hmix : P.follows .mixedOrders = true) {orc : Orc} (horc : OrcOk P orc) {f : FuncId} {v : Value} (hv : flat v = true) {k : Nat}
    (h : ((arun P orc k f #[] Heap.nil).map fun r => veq r.1 v) = some true) : Tells P f v := by
  obtain ⟨⟨v', H'⟩, h1, h2⟩ := Option.map_eq_some_iff.1 h
  have e : v' = v := veq_sound _ _ h2
  subst e
  obtain ⟨h3, _, h4⟩ := arun_sim hmix horc k f #[] Heap.nil v' H' h1
  refine ⟨h3, hv, fun w => (h4 _ _ w #[] (Rel.empty w) .nil).mono fun e w' ⟨ρ', cv, h5, h6, _, h7⟩ => ?_⟩
  rw [h6.flat_eq hv] at h5
  exact ⟨h5, h7.below⟩
def oneOrc (f : FuncId) (v : Value) : Orc := fun g => if g = f then some (fun args H => if args.size = 0 then some (v, H) else none) else none
theorem oneOrc_ok {P : Program} {f : FuncId} {v : Value} (t : Tells P f v) : OrcOk P (oneOrc f v) := by
  intro g o ho args H v' H' h
  unfold oneOrc at ho
  split at ho
  · rename_i e
    subst e
    injection ho with ho
    subst ho
    simp only at h
    split at h
    · rename_i hs
      injection h with h
      injection h with h1 h2
      subst h1; subst h2
      have ha : args = #[] := Array.eq_empty_of_size_eq_zero hs
      subst ha
      refine ⟨t.1, Nat.le_refl _, fun B0 ρ w cargs r hv => ?_⟩
      have hc : cargs = #[] := Array.eq_empty_of_size_eq_zero (by have := hv.length_eq; simpa using this)
      subst hc
      refine (t.2.2 w).mono fun e w' ⟨h1, h2⟩ => ⟨ρ, v, h1, .flat _ t.2.1, r.below h2, ⟨Nat.le_refl _, fun _ _ => rfl, below_less r.low h2, fun _ _ _ => rfl⟩⟩
    · cases h
  · cases ho
theorem noOrc_ok (P : Program) : OrcOk P (fun _ => none) := fun _ _ h => by cases h
theorem Ev_one {P : Program} {f : FuncId} {v : Value} {H : Heap} {Q : Value → Heap → Prop} (h : Q v H) : Ev P (oneOrc f v) f #[] H Q :=
  ⟨1, v, H, by simp [arun, oneOrc], h⟩

/-- WHAT THE ABSTRACT MACHINE ANSWERS, THE CALL ANSWERS. -/
theorem calls_of_ev {P : Program} (hmix : P.follows .mixedOrders = true) {orc : Orc} (horc : OrcOk P orc) {f : FuncId} {args : Array Value} {H : Heap} {v : Value}
    (h : Ev P orc f args H fun v' _ => v' = v) (hv : flat v = true) {ρ : Ren} {w : World} {cargs : Array Value} (r : Rel w.heap.size ρ H w) (ha : VRs ρ args.toList cargs.toList) :
    Calls P f cargs w fun e w' => e = .returned v ∧ Below w.heap.size w w' := by
  obtain ⟨k, v', H', h1, rfl⟩ := h
  obtain ⟨_, _, h4⟩ := arun_sim hmix horc k f args H v' H' h1
  refine (h4 _ _ w cargs r ha).mono fun e w' ⟨ρ', cv, h5, h6, _, h7⟩ => ?_
  rw [h6.flat_eq hv] at h5
  exact ⟨h5, h7.below⟩
end Go.Abs
/- The abstract machine: maps, rows, evaluated. -/
namespace Go.Abs
open Go Go.RowKit
set_option linter.unusedVariables false
set_option linter.unusedSimpArgs false
theorem set_push_self (H : Heap) (b b' : Blk) : (H.push b).set H.n b' = H.push b' := by
  simp [Heap.set, Heap.push]
def mapUpd (P : Program) (t : TypeId) (es : List (Value × Value)) (k v : Value) : Option (List (Value × Value)) :=
  match mapT P t with
  | some (key, elem) =>
    match findT P key k es with
    | some (some i) => match es[i]? with
      | some e => if Instr.sameBits 10000 e.1 k then some (es.set i (k, v)) else none
      | none => none
    | some none => some (es ++ [(k, v)])
    | none => none
  | none => none
theorem aupdate_map {P : Program} {t : TypeId} {id : Nat} {es : List (Value × Value)} {k v : Value} {H : Heap} (h : H.get id = some (.map es)) :
    aupdate P t (.map (some id)) k v H = (mapUpd P t es k v).map fun es' => H.set id (.map es') := by
  unfold aupdate mapUpd
  simp only [h]
  cases mapT P t with
  | none => rfl
  | some ke =>
    simp only
    cases findT P ke.1 k es with
    | none => rfl
    | some o =>
      cases o with
      | none => rfl
      | some i =>
        simp only
        cases es[i]? with
        | none => rfl
        | some e => simp only; split <;> rfl
theorem aupdate_push {P : Program} {t : TypeId} {es : List (Value × Value)} {k v : Value} {H : Heap} :
    aupdate P t (.map (some H.n)) k v (H.push (.map es)) = (mapUpd P t es k v).map fun es' => H.push (.map es') := by
  rw [aupdate_map (get_push_self _ _)]
  simp only [set_push_self]
theorem alookup_map {P : Program} {t : TypeId} {id : Nat} {es : List (Value × Value)} {k : Value} {ok : Bool} {H : Heap} (h : H.get id = some (.map es)) :
    alookup P t (.map (some id)) k ok H = aget P t es k ok := by
  unfold alookup
  simp only [h]
theorem PushExt.set {H H1 : Heap} (p : PushExt H H1) {id : Nat} (h : H.n ≤ id) (b : Blk) : PushExt H (H1.set id b) :=
  ⟨by simpa using p.1, fun i hi => by rw [get_set_other _ _ (by omega)]; exact p.2 i hi⟩
theorem PushExt.push' {H H1 : Heap} (p : PushExt H H1) (b : Blk) : PushExt H (H1.push b) := p.trans (PushExt.push _ _)
theorem aconvert_int {P : Program} {a b : TypeId} {d : TypeDesc} {j k : IntKind} (n : Int) (H : Heap) (ha : P.underlying a = some d) (hb : P.underlying b = some (.int j)) : aconvert P a b (.int k n) H = some (.int j (j.wrap n)) := by
  have e : aconvert P a b (.int k n) H = if flat (.int k n) then flatRes (purely P (Go.convert a b (.int k n))) else none := rfl
  rw [e, if_pos (show flat (.int k n) = true from rfl)]
  unfold Go.convert
  rw [purely_bind', purely_under _ ha]
  simp only [Option.bind_some]
  rw [purely_bind', purely_under _ hb]
  simp [Conv.intToInt]

/-! Rows made -/
theorem repeatL_one (z : Value) : ∀ n, repeatL [z] n = List.replicate n z
  | 0 => rfl
  | n + 1 => by rw [repeatL, repeatL_one z n]; rfl
theorem makeS_one {P : Program} {t e bytes : Nat} {z : Value} {j k : IntKind} {n : Nat} (h : elemT P t = some (e, 1, bytes)) (hz : zeroT P e = some z) (hc : z.cells = #[z]) (hn : n < 2 ^ 47) (hb : n * bytes ≤ 2 ^ 47) :
    makeS P t (.int j n) (.int k n) = some (List.replicate n z, n, n) := by
  unfold makeS
  simp only [h, hz, hc]
  rw [if_pos (by refine ⟨by omega, by omega, by omega, ?_, rfl, by omega⟩; exact_mod_cast hb)]
  simp [repeatL_one]
theorem minV_int {P : Program} {ts : Array TypeId} {t : TypeId} {k : IntKind} (a b : Int) : minV P ts t #[.int k a, .int k b] = some (.int k (if b < a then b else a)) := by
  simp [minV, Builtin.min_, Builtin.min2]

/-! A part of a row -/
theorem boundV_int (k : IntKind) (n : Nat) {m : Nat} (h : n ≤ m) : boundV (.int k n) m = some n := by
  unfold boundV; simp; omega
theorem aslice_hi {P : Program} {t e size bytes id off n cap m : Nat} {k : IntKind} {H : Heap} {c : List Value} {md : Md} (h : elemT P t = some (e, size, bytes)) (hg : H.get id = some (.cells c md)) (hm : md.fits size = true) (hn : m ≤ cap) :
    aslice P t (slc id off n cap) none (some (.int k m)) none H = some (slc id off m cap) := by
  unfold aslice slc
  simp only [hg, h, hm, true_or, if_true]
  unfold boundsV
  simp [boundV_int k m hn]
theorem aslice_lo {P : Program} {t e size bytes id off n cap m : Nat} {k : IntKind} {H : Heap} {c : List Value} {md : Md} (h : elemT P t = some (e, size, bytes)) (hg : H.get id = some (.cells c md)) (hm : md.fits size = true) (hn : m ≤ n) (hc : n ≤ cap) :
    aslice P t (slc id off n cap) (some (.int k m)) none none H = some (slc id (if cap = m then off else off + m * size) (n - m) (cap - m)) := by
  unfold aslice slc
  simp only [hg, h, hm, true_or, if_true]
  unfold boundsV
  simp [boundV_int k m hn]
theorem aslice_lohi {P : Program} {t e size bytes id off n cap l m : Nat} {j k : IntKind} {H : Heap} {c : List Value} {md : Md} (h : elemT P t = some (e, size, bytes)) (hg : H.get id = some (.cells c md)) (hm : md.fits size = true) (hl : l ≤ m) (hn : m ≤ cap) :
    aslice P t (slc id off n cap) (some (.int j l)) (some (.int k m)) none H = some (slc id (if cap = l then off else off + l * size) (m - l) (cap - l)) := by
  unfold aslice slc
  simp only [hg, h, hm, true_or, if_true]
  unfold boundsV
  simp [boundV_int k m hn, boundV_int j l hl]

/-! Rows of equal parts -/
theorem flatMap_part {α : Type} (g : α → List Value) (w : Nat) (hg : ∀ a, (g a).length = w) : ∀ (l : List α) (i : Nat) (a : α), l[i]? = some a → ((l.flatMap g).drop (i * w)).take w = g a
  | [], i, a, h => by simp at h
  | x :: l, 0, a, h => by
    have : x = a := by simpa using h
    subst this
    rw [Nat.zero_mul, List.drop_zero, List.flatMap_cons, List.take_append_of_le_length (by rw [hg]; exact Nat.le_refl _), List.take_of_length_le (by rw [hg]; exact Nat.le_refl _)]
  | x :: l, i + 1, a, h => by
    have h' : l[i]? = some a := by simpa using h
    rw [List.flatMap_cons, List.drop_append, List.drop_eq_nil_of_le (by rw [hg, Nat.add_mul, Nat.one_mul]; exact Nat.le_add_left _ _), List.nil_append, hg]
    rw [show (i + 1) * w - w = i * w by rw [Nat.add_mul, Nat.one_mul, Nat.add_sub_cancel]]
    exact flatMap_part g w hg l i a h'
theorem flatMap_len {α : Type} (g : α → List Value) (w : Nat) (hg : ∀ a, (g a).length = w) : ∀ (l : List α), (l.flatMap g).length = l.length * w
  | [] => by simp
  | x :: l => by rw [List.flatMap_cons, List.length_append, hg, flatMap_len g w hg l, List.length_cons, Nat.add_mul, Nat.one_mul, Nat.add_comm]

/-! What comes behind: by name, so that nothing is unfolded -/
theorem seqK_normal (f : Array Value → Heap → (Ex → Array Value → Heap → Prop) → Prop) (K : Ex → Array Value → Heap → Prop) (ts : Array Value) (H : Heap) : seqK f K .normal ts H = f ts H K := propext Iff.rfl
theorem seqK_exit (f : Array Value → Heap → (Ex → Array Value → Heap → Prop) → Prop) (K : Ex → Array Value → Heap → Prop) (id : Nat) (ts : Array Value) (H : Heap) : seqK f K (.exit id) ts H = K (.exit id) ts H := propext Iff.rfl
theorem seqK_ret (f : Array Value → Heap → (Ex → Array Value → Heap → Prop) → Prop) (K : Ex → Array Value → Heap → Prop) (ts : Array Value) (H : Heap) : seqK f K .ret ts H = K .ret ts H := propext Iff.rfl
theorem blockK_normal (id : Nat) (K : Ex → Array Value → Heap → Prop) (ts : Array Value) (H : Heap) : blockK id K .normal ts H = K .normal ts H := propext Iff.rfl
theorem blockK_ret (id : Nat) (K : Ex → Array Value → Heap → Prop) (ts : Array Value) (H : Heap) : blockK id K .ret ts H = K .ret ts H := propext Iff.rfl
theorem blockK_hit (id : Nat) (K : Ex → Array Value → Heap → Prop) (ts : Array Value) (H : Heap) : blockK id K (.exit id) ts H = K .normal ts H := by simp [blockK]
theorem blockK_miss {id j : Nat} (h : j ≠ id) (K : Ex → Array Value → Heap → Prop) (ts : Array Value) (H : Heap) : blockK id K (.exit j) ts H = K (.exit j) ts H := by simp [blockK, h]
end Go.Abs
