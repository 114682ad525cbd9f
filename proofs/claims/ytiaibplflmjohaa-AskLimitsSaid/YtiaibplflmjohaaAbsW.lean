/- The abstract machine: a region in whatever order, beside its run in one order. -/
import Derived.Test.YtiaibplflmjohaaAbsV
set_option linter.unusedVariables false
set_option linter.unusedSimpArgs false
namespace Go.Abs
open Go Go.RowKit
set_option linter.unusedVariables false
set_option linter.unusedSimpArgs false

variable {P : Program} {call : CallFn} {ops : Array Oper} {ts0 : Array Value} {H0 : Heap} {st : Nat → DS} {I : Nat → Nat} {O : Nat → Oper} {V : Nat → Value}

/-- Where the model stands, some operations run: as behind the effects among them. -/
structure Inv (P : Program) (ops : Array Oper) (ts0 : Array Value) (H0 : Heap) (st : Nat → DS) (I : Nat → Nat) (O : Nat → Oper) (V : Nat → Value) (B0 : Nat) (ρ0 : Ren) (w0 : World) (a0 : Act) (S : Nat → Bool) (a : Act) (w : World) (ρ : Ren) (q : Nat) : Prop where
  le : q ≤ ops.size
  at_ : q = ops.size ∨ kindOf (O q).op = .eff
  effs : ∀ p, p < ops.size → kindOf (O p).op = .eff → (S (I p) = true ↔ p < q)
  rel : Rel B0 ρ (st q).H w
  size : a.tmps.size = ts0.size
  defers : a.defers = a0.defers
  slots : ∀ t, t < ts0.size → VR ρ (slotV ops O V ts0 (fun q => S (I q)) t) (a.tmps.getD t undef)
  fut : Fut B0 ρ0 H0 w0 ρ (st q).H w
  late : ∀ p, p < q → S (I p) = false → Region.wanted (O p) (yielded ops (st p).ts) = true → kindOf (O p).op = .make →
    ρ (st p).H.n = none ∧ ∃ b, (st (p + 1)).H = (st p).H.push b ∧ (st q).H.get (st p).H.n = some b
  closed : ∀ i o, ops[i]? = some o → S i = true → ∀ j ∈ onsOf o, S j = true

theorem looks_operand {o : Oper} {t : Nat} (h : Operand.tmp t ∈ o.op.operands) : t ∈ looks ops o := by
  unfold looks Oper.looksAt
  rw [List.mem_append]
  left
  rw [List.mem_filterMap]
  exact ⟨.tmp t, by simpa using h, rfl⟩

section step
variable {B0 : Nat} {ρ0 : Ren} {w0 : World} {a0 a : Act} {S : Nat → Bool} {w : World} {ρ : Ren} {q p : Nat}

theorem Inv.opsVR (L : Laid P call ops ts0 H0 st I O V) (inv : Inv P ops ts0 H0 st I O V B0 ρ0 w0 a0 S a w ρ q) (hp : p < ops.size) (hno : S (I p) = false) (hons : ∀ j ∈ onsOf (O p), S j = true) : OpsVR ρ (evalT (st p).ts) a.eval (O p) := by
  intro x hx
  have hg : noGlobalOp x = true := by
    have := L.noG p hp
    simp only [noGlobal, Array.all_eq_true] at this
    obtain ⟨i, hi, rfl⟩ := Array.mem_iff_getElem.1 hx
    exact this i hi
  cases x with
  | tmp t =>
    obtain ⟨s1, s2⟩ := L.slots p (by omega)
    show VR ρ ((st p).ts.getD t undefV) (a.tmps.getD t undef)
    by_cases ht : t < ts0.size
    · rw [s2 t ht, ← L.looked inv.closed hp hno hons (looks_operand hx)]
      exact inv.slots t ht
    · have e1 : (st p).ts.getD t undefV = undefV := by
        rw [Array.getD_eq_getD_getElem?, Array.getElem?_eq_none (by rw [s1]; exact Nat.le_of_not_lt ht)]; rfl
      have e2 : a.tmps.getD t undef = undefV := by
        rw [Array.getD_eq_getD_getElem?, Array.getElem?_eq_none (by rw [inv.size]; exact Nat.le_of_not_lt ht)]; rfl
      rw [e1, e2]; exact .flat _ rfl
  | const v => exact .flat v hg
  | global g => cases hg
  | func f => exact .flat _ rfl

theorem Inv.wanted (L : Laid P call ops ts0 H0 st I O V) (inv : Inv P ops ts0 H0 st I O V B0 ρ0 w0 a0 S a w ρ q) (hp : p < ops.size) (hno : S (I p) = false) (hons : ∀ j ∈ onsOf (O p), S j = true) : Region.wanted (O p) (yielded ops a.tmps) = Region.wanted (O p) (yielded ops (st p).ts) := by
  unfold Region.wanted
  cases hgd : (O p).guard with
  | none => rfl
  | some g =>
    obtain ⟨g, want⟩ := g
    simp only
    have : yielded ops a.tmps g = yielded ops (st p).ts g := by
      unfold yielded
      cases hd : (ops[g]?).bind (·.dst) with
      | none => rfl
      | some d =>
        simp only [Option.bind_some]
        obtain ⟨s1, s2⟩ := L.slots p (by omega)
        have hl : d ∈ looks ops (O p) := by
          unfold looks Oper.looksAt
          rw [List.mem_append]
          right
          rw [hgd]
          simp [hd]
        by_cases ht : d < ts0.size
        · have h1 := inv.slots d ht
          rw [L.looked inv.closed hp hno hons hl, ← s2 d ht] at h1
          have e1 : (st p).ts[d]? = some ((st p).ts.getD d undefV) := by
            rw [Array.getD_eq_getD_getElem?, Array.getElem?_eq_getElem (by rw [s1]; exact ht)]; rfl
          have e2 : a.tmps[d]? = some (a.tmps.getD d undef) := by
            rw [Array.getD_eq_getD_getElem?, Array.getElem?_eq_getElem (by rw [inv.size]; exact ht)]; rfl
          rw [e1, e2]
          generalize (st p).ts.getD d undefV = x at h1
          generalize a.tmps.getD d undef = y at h1
          cases h1 <;> rfl
        · have e1 : (st p).ts[d]? = none := Array.getElem?_eq_none (by rw [s1]; exact Nat.le_of_not_lt ht)
          have e2 : a.tmps[d]? = none := Array.getElem?_eq_none (by rw [inv.size]; exact Nat.le_of_not_lt ht)
          rw [e1, e2]
    rw [this]

theorem Inv.before (L : Laid P call ops ts0 H0 st I O V) (inv : Inv P ops ts0 H0 st I O V B0 ρ0 w0 a0 S a w ρ q) (hp : p < ops.size) (hno : S (I p) = false) (hons : ∀ j ∈ onsOf (O p), S j = true) (hk : kindOf (O p).op ≠ .eff) : p < q := by
  rcases Nat.lt_or_ge p q with h | h
  · exact h
  · exfalso
    rcases inv.at_ with e | e
    · omega
    · have hpq : p ≠ q := fun x => hk (x ▸ e)
      have hbp : ∀ x ∈ (befs ops).getD (I p) [], S x = true := bef_closed L.edges (S := fun x => S x = true) inv.closed (I p) (O p) (L.op p hp) hons
      -- the last effect ahead of p stands at q or behind it
      have : ∀ d, d ≤ p - q → (∀ x, q + d < x → x < p → kindOf (O x).op ≠ .eff) → False := by
        intro d
        induction d with
        | zero =>
          intro _ hx
          have := hbp _ (L.last p q hp (by omega) e (by simpa using hx))
          exact absurd ((inv.effs q (by omega) e).1 this) (by omega)
        | succ d ih =>
          intro hd hx
          by_cases ex : kindOf (O (q + (d + 1))).op = .eff
          · rcases Nat.lt_or_ge (q + (d + 1)) p with hl | hl
            · have := hbp _ (L.last p _ hp hl ex hx)
              exact absurd ((inv.effs _ (by omega) ex).1 this) (by omega)
            · have : q + (d + 1) = p := by omega
              rw [this] at ex; exact hk ex
          · refine ih (by omega) fun x h1 h2 => ?_
            rcases Nat.lt_or_ge (q + (d + 1)) x with hl | hl
            · exact hx x hl h2
            · have : x = q + (d + 1) := by omega
              rw [this]; exact ex
      exact this (p - q) (Nat.le_refl _) (fun x h1 h2 => by omega)
theorem Inv.isNext (L : Laid P call ops ts0 H0 st I O V) (inv : Inv P ops ts0 H0 st I O V B0 ρ0 w0 a0 S a w ρ q) (hp : p < ops.size) (hno : S (I p) = false) (hons : ∀ j ∈ onsOf (O p), S j = true) (hk : kindOf (O p).op = .eff) : p = q := by
  have hge : q ≤ p := by
    rcases Nat.lt_or_ge p q with h | h
    · have := (inv.effs p hp hk).2 h; rw [hno] at this; cases this
    · exact h
  rcases Nat.lt_or_ge q p with h | h
  · exfalso
    rcases inv.at_ with e | e
    · omega
    · have hbp : ∀ x ∈ (befs ops).getD (I p) [], S x = true := bef_closed L.edges (S := fun x => S x = true) inv.closed (I p) (O p) (L.op p hp) hons
      have : ∀ d, q + d < p → (∀ x, q + d < x → x < p → kindOf (O x).op ≠ .eff) → False := by
        intro d
        induction d with
        | zero =>
          intro _ hx
          have := hbp _ (L.last p q hp (by omega) e (by simpa using hx))
          exact absurd ((inv.effs q (by omega) e).1 this) (by omega)
        | succ d ih =>
          intro hd hx
          by_cases ex : kindOf (O (q + (d + 1))).op = .eff
          · have := hbp _ (L.last p _ hp hd ex hx)
            exact absurd ((inv.effs _ (by omega) ex).1 this) (by omega)
          · refine ih (by omega) fun x h1 h2 => ?_
            rcases Nat.lt_or_ge (q + (d + 1)) x with hl | hl
            · exact hx x hl h2
            · have : x = q + (d + 1) := by omega
              rw [this]; exact ex
      exact this (p - 1 - q) (by omega) (fun x h1 h2 => by omega)
  · omega

/-- The slots behind it. -/
theorem Inv.put (L : Laid P call ops ts0 H0 st I O V) (inv : Inv P ops ts0 H0 st I O V B0 ρ0 w0 a0 S a w ρ q) (hp : p < ops.size) (hno : S (I p) = false) (hons : ∀ j ∈ onsOf (O p), S j = true) {ρ' : Ren} (hle : Le ρ ρ') {cv : Value} (hcv : VR ρ' (V p) cv) (t : Nat) (ht : t < ts0.size) :
    VR ρ' (slotV ops O V ts0 (fun q => if I q = I p then true else S (I q)) t) ((a.put (O p).dst cv).tmps.getD t undef) := by
  by_cases e : (O p).dst = some t
  · have h1 : slotV ops O V ts0 (fun q => if I q = I p then true else S (I q)) t = V p := by
      unfold slotV; rw [writer_is L hp e]; simp
    rw [h1, e]
    simp only [Act.put, Array.getD_eq_getD_getElem?]
    rw [Array.getElem?_setIfInBounds_self_of_lt (by rw [inv.size]; exact ht)]
    exact hcv
  · have h1 : slotV ops O V ts0 (fun q => if I q = I p then true else S (I q)) t = slotV ops O V ts0 (fun q => S (I q)) t := by
      unfold slotV
      cases hw : writer ops O t with
      | none => rfl
      | some x =>
        obtain ⟨x1, x2⟩ := writer_some t x hw
        have : I x ≠ I p := fun h => e (by rw [← L.inj x p x1 hp h]; exact x2)
        simp [this]
    have h2 : (a.put (O p).dst cv).tmps.getD t undef = a.tmps.getD t undef := by
      cases hd : (O p).dst with
      | none => rfl
      | some d =>
        have : d ≠ t := fun h => e (by rw [hd, h])
        simp only [Act.put, Array.getD_eq_getD_getElem?, Array.getElem?_setIfInBounds_ne this]
    rw [h1, h2]
    exact (inv.slots t ht).mono hle

/-- Behind an operation that is no effect. -/
theorem Inv.quietly (L : Laid P call ops ts0 H0 st I O V) (inv : Inv P ops ts0 H0 st I O V B0 ρ0 w0 a0 S a w ρ q) (hp : p < ops.size) (hno : S (I p) = false) (hons : ∀ j ∈ onsOf (O p), S j = true) (hk : kindOf (O p).op ≠ .eff) {ρ' : Ren} {w' : World} {cv : Value} (hrel : Rel B0 ρ' (st q).H w') (hle : Le ρ ρ') (hcv : VR ρ' (V p) cv) (hbel : Below B0 w w') (hext : ∀ id, id < H0.n → ρ' id = ρ id)
    (hlate : ∀ p', p' < q → S (I p') = false → p' ≠ p → Region.wanted (O p') (yielded ops (st p').ts) = true → kindOf (O p').op = .make → ρ' (st p').H.n = ρ (st p').H.n) :
    Inv P ops ts0 H0 st I O V B0 ρ0 w0 a0 (fun j => if j = I p then true else S j) (a.put (O p).dst cv) w' ρ' q where
  le := inv.le
  at_ := inv.at_
  effs := fun x hx hxk => by
    have hne : I x ≠ I p := fun h => hk (by rw [← L.inj x p hx hp h]; exact hxk)
    simp only [if_neg hne]
    exact inv.effs x hx hxk
  rel := hrel
  size := by cases (O p).dst <;> simp [Act.put, inv.size]
  defers := by rw [put_defers]; exact inv.defers
  slots := fun t ht => inv.put L hp hno hons hle hcv t ht
  fut := ⟨inv.fut.n, fun id hid => (hext id hid).trans (inv.fut.ext id hid), inv.fut.below.trans hbel, inv.fut.late⟩
  late := fun x hx hxS hxw hxk => by
    have hne : I x ≠ I p := by intro h; simp [h] at hxS
    simp only [if_neg hne] at hxS
    obtain ⟨b1, b2⟩ := inv.late x hx hxS hxw hxk
    exact ⟨by rw [hlate x hx hxS (fun h => hne (by rw [h])) hxw hxk]; exact b1, b2⟩
  closed := fun i o ho hi j hj => by
    by_cases e : i = I p
    · subst e
      have : o = O p := by have := L.op p hp; rw [ho] at this; exact Option.some.inj this
      subst this
      split
      · rfl
      · exact hons j hj
    · simp only [if_neg e] at hi
      split
      · rfl
      · exact inv.closed i o ho hi j hj
end step
end Go.Abs
