/- The abstract machine: rows that grow, beside the model's. -/
import Derived.Test.YtiaibplflmjohaaAbsM
set_option linter.unusedVariables false
set_option linter.unusedSimpArgs false
namespace Go.Abs
open Go Go.RowKit
set_option linter.unusedVariables false
set_option linter.unusedSimpArgs false

/-- What is appended, in the model. -/
def appended (elem : TypeId) (size n : Nat) (zeros : Bool) (x : Value) : Sem (Array Value) :=
  if !zeros then Builtin.firstCells size n x
  else if n * size = 0 then pure #[]
  else do pure (Builtin.zeroCells (← zeroValue elem).cells n)

theorem new_sim {P : Program} {B0 : Nat} {ρ : Ren} {H : Heap} {elem : TypeId} {inf : TypeInfo} (hi : P.info? elem = some inf) {zeros : Bool} {x x' : Value} {n : Nat} {xs : List Value} (h : newL P elem inf.size inf.bytes zeros x H = some (n, xs)) (hx : VR ρ x x') (hz0 : 0 < inf.size) :
    xs.length = n * inf.size ∧
    (∀ w : World, Rel B0 ρ H w → ∃ cs : List Value, (appended elem inf.size n zeros x').run P w = .ok ⟨cs⟩ w ∧ VRs ρ xs cs) ∧
    (zeros = false → ∀ w : World, Rel B0 ρ H w → (Builtin.lenOf x').run P w = .ok n w) ∧
    (zeros = true → x' = .int .i64 n ∧ (n : Int) * inf.bytes ≤ 2 ^ 44) := by
  unfold newL at h
  cases zeros with
  | false =>
    simp only [Bool.false_eq_true, if_false] at h
    cases hl : lenV x with
    | none => simp [hl] at h
    | some m =>
      simp only [hl, Option.map_eq_some_iff] at h
      obtain ⟨ys, hy, e⟩ := h
      injection e with e1 e2; subst e1; subst e2
      refine ⟨?_, fun w r => ?_, fun _ w r => ?_, fun e => by cases e⟩
      · -- the length
        unfold firstL at hy
        split at hy
        · split at hy
          · rename_i h0; injection hy with hy; subst hy; simp [h0]
          · unfold cellsAt at hy
            split at hy
            · split at hy
              · injection hy with hy; subst hy; simp; omega
              · cases hy
            · cases hy
        · split at hy
          · rename_i h0; injection hy with hy; subst hy; simp [h0]
          · cases hy
        · split at hy
          · rename_i s hc
            injection hy with hy; subst hy
            rw [hc.2]
            simp [ByteArray.extract, ByteArray.copySlice]
            have := hc.1
            have e : s.size = s.data.size := rfl
            omega
          · cases hy
        · cases hy
      · obtain ⟨cs, k1, k2, k3, k4⟩ := first_sim (P := P) r hy hx hl (Nat.le_refl _)
        exact ⟨cs, by simp [appended, k1], k2⟩
      · obtain ⟨cs, k1, k2, k3, k4⟩ := first_sim (P := P) r hy hx hl (Nat.le_refl _)
        exact k3
  | true =>
    simp only [if_true] at h
    split at h
    · rename_i l z hz
      split at h
      · rename_i hc
        obtain ⟨c1, c2, c3⟩ := hc
        injection h with h; injection h with h1 h2; subst h1; subst h2
        have := hx.int_inv; subst this
        have hcast : ((l.toNat : Nat) : Int) = l := by omega
        refine ⟨by rw [repeatL_length, Array.length_toList, c3], fun w r => ?_, (fun e => by cases e), fun _ => ⟨by rw [hcast], by rw [hcast]; exact c2⟩⟩
        obtain ⟨z1, z2⟩ := run_zero (w := w) hz
        refine ⟨repeatL z.cells.toList l.toNat, ?_, VRs.refl_flat ρ _ (flat_repeat z2 _)⟩
        unfold appended
        simp only [Bool.not_true, Bool.false_eq_true, if_false]
        split
        · rename_i h0
          have : l.toNat = 0 := by
            rcases Nat.mul_eq_zero.1 h0 with h' | h'
            · exact h'
            · omega
          rw [this]; simp [repeatL]
        · simp only [Sem.run_bind, z1, Result.andThen_ok, Sem.run_pure]
          rw [zeroCells_eq _ (by omega)]
      · cases h
    · cases h


theorem isIntT_true {P : Program} {t : TypeId} (h : isIntT P t = some true) : ∃ k, P.underlying t = some (.int k) := by
  obtain ⟨d, hd, e⟩ := isIntT_run h
  cases d <;> simp at e
  exact ⟨_, hd⟩


theorem zeros_run {P : Program} {t : TypeId} {b : Bool} (h : isIntT P t = some b) (w : World) : ∃ d, (underlying t).run P w = .ok d w ∧ (d matches .int _) = b := by
  obtain ⟨d, hd, e⟩ := isIntT_run h
  refine ⟨d, run_under hd, ?_⟩
  cases d <;> exact e

/-- The model's append, in place. -/
theorem append_in {P : Program} {w w' : World} {sType xType elem ty : TypeId} {inf : TypeInfo} {base : Option Addr} {len cap n : Nat} {x' : Value} {zeros : Bool} {cs : List Value}
    (hu : P.underlying sType = some (.slice elem)) (hi : P.info? elem = some inf) (hz : isIntT P xType = some zeros)
    (hn0 : zeros = false → (Builtin.lenOf x').run P w = .ok n w) (hn1 : zeros = true → x' = .int .i64 n ∧ (n : Int) * inf.bytes ≤ 2 ^ 44) (hb : 0 < inf.bytes)
    (ha : (appended elem inf.size n zeros x').run P w = .ok ⟨cs⟩ w) (hc : len + n ≤ cap)
    (hst : (match base with | some a => storeCells (a.add (len * inf.size)) cs | none => pure () : Sem Unit).run P w = .ok () w') :
    (Builtin.append_ #[sType, xType] ty #[.slice base len cap, x']).run P w = .ok (.slice base (len + n) cap) w' := by
  obtain ⟨d, hd, e⟩ := zeros_run hz w
  unfold Builtin.append_
  have g0 : (#[sType, xType] : Array TypeId)[0]? = some sType := rfl
  have g1 : (#[sType, xType] : Array TypeId)[1]? = some xType := rfl
  have g2 : (#[Value.slice base len cap, x'] : Array Value)[0]? = some (.slice base len cap) := rfl
  have g3 : (#[Value.slice base len cap, x'] : Array Value)[1]? = some x' := rfl
  simp only [g0, g1, g2, g3, Sem.run_bind, run_under hu, Result.andThen_ok, run_size hi, hd, e, Sem.run_pure]
  have nt : ∀ d : TypeDesc, (match d with | .int _ => true | _ => false) = (d matches .int _) := fun d => rfl
  cases zeros with
  | false =>
    have h0 := hn0 rfl
    have hni : ∀ k, d = .int k → False := by intro k hk; subst hk; cases e
    simp only [appended, Bool.not_false, if_true] at ha
    simp only [Bool.false_eq_true, if_false, Sem.run_bind, h0, Result.andThen_ok, if_pos hc, Bool.not_false, if_true, ha]
    cases base with
    | none => simp only [Sem.run_pure] at hst ⊢; injection hst with _ hst; rw [hst]
    | some a => simp only at hst; simp only [Sem.run_bind, hst, Result.andThen_ok, Sem.run_pure]
  | true =>
    obtain ⟨k, hk⟩ : ∃ k, d = .int k := by cases d <;> simp at e; exact ⟨_, rfl⟩
    subst hk
    obtain ⟨rfl, hb2⟩ := hn1 rfl
    have hnn : (n : Int) ≤ (n : Int) * inf.bytes := by
      have : (n : Int) * 1 ≤ (n : Int) * inf.bytes := Int.mul_le_mul_of_nonneg_left (by omega) (by omega)
      omega
    have hw : IntKind.i64.wrap (n : Int) = n := IntWalk.i64_in _ (by omega)
    have h1 : ¬ ((n : Int) < 0) := by omega
    have h2 : ¬ ((n : Int) * inf.bytes > 2 ^ 48) := by omega
    simp only [appended, Bool.not_true, Bool.false_eq_true, if_false] at ha
    simp only [Bool.false_eq_true, if_false, Sem.run_bind, Result.andThen_ok, if_pos hc, Bool.not_true, if_true, run_asInt, hw, if_neg h1, run_info hi, if_neg h2, Int.toNat_natCast, Sem.run_pure, ha]
    cases base with
    | none => simp only [Sem.run_pure] at hst ⊢; injection hst with _ hst; rw [hst]
    | some a => simp only at hst; simp only [Sem.run_bind, hst, Result.andThen_ok, Sem.run_pure]

/-- The model's append, into a new row. -/
theorem append_out {P : Program} {w : World} {sType xType elem ty : TypeId} {inf : TypeInfo} {base : Option Addr} {len cap n : Nat} {x' z : Value} {zeros : Bool} {os cs : List Value}
    (hu : P.underlying sType = some (.slice elem)) (hi : P.info? elem = some inf) (hz : isIntT P xType = some zeros)
    (hn0 : zeros = false → (Builtin.lenOf x').run P w = .ok n w) (hn1 : zeros = true → x' = .int .i64 n ∧ (n : Int) * inf.bytes ≤ 2 ^ 44) (hb : 0 < inf.bytes) (hb2 : inf.bytes ≤ 2 ^ 20)
    (hsz : (len + n) * inf.bytes ≤ 2 ^ 44)
    (ha : (appended elem inf.size n zeros x').run P w.drew = .ok ⟨cs⟩ w.drew) (hc : ¬ len + n ≤ cap)
    (ho : (Builtin.firstCells inf.size len (.slice base len cap)).run P w.drew = .ok ⟨os⟩ w.drew) (hzr : (zeroValue elem).run P w.drew = .ok z w.drew) :
    ∃ newCap, len + n ≤ newCap ∧ (Builtin.append_ #[sType, xType] ty #[.slice base len cap, x']).run P w =
      .ok (.slice (some ⟨w.heap.size, 0, none⟩) (len + n) newCap) (w.drew.alloc (.cells (⟨os⟩ ++ ⟨cs⟩ ++ Builtin.zeroCells z.cells (newCap - (len + n))) elem)) := by
  obtain ⟨d, hd, e⟩ := zeros_run hz w
  have hle : len + n ≤ (len + n) * inf.bytes := by
    have := Nat.mul_le_mul_left (len + n) hb
    omega
  refine ⟨(Question.appendCap (len + n) cap elem).cut (w.tape w.drawn (Question.appendCap (len + n) cap elem)), by simp [Question.cut], ?_⟩
  have hnext : ¬ (Builtin.nextslicecap (len + n) cap * inf.bytes > 2 ^ 48) := by
    have h1 := nextcap_le (len + n) cap (by omega)
    have h2 : Builtin.nextslicecap (len + n) cap * inf.bytes ≤ (2 * (len + n) + 768) * inf.bytes := Nat.mul_le_mul_right _ h1
    have h3 : (2 * (len + n) + 768) * inf.bytes = 2 * ((len + n) * inf.bytes) + 768 * inf.bytes := by rw [Nat.add_mul, Nat.mul_assoc]
    omega
  have hmax : ¬ (((len + n : Nat) : Int) > IntKind.i64.max ∧ (zeros = true ∨ inf.bytes = 0)) := by
    have : IntKind.i64.max = 9223372036854775807 := rfl
    omega
  unfold Builtin.append_
  have g0 : (#[sType, xType] : Array TypeId)[0]? = some sType := rfl
  have g1 : (#[sType, xType] : Array TypeId)[1]? = some xType := rfl
  have g2 : (#[Value.slice base len cap, x'] : Array Value)[0]? = some (.slice base len cap) := rfl
  have g3 : (#[Value.slice base len cap, x'] : Array Value)[1]? = some x' := rfl
  simp only [g0, g1, g2, g3, Sem.run_bind, run_under hu, Result.andThen_ok, run_size hi, hd, e, Sem.run_pure]
  have hfo : (Question.appendCap (len + n) cap elem).forced = false := rfl
  cases zeros with
  | false =>
    have h0 := hn0 rfl
    have hni : ∀ k, d = .int k → False := by intro k hk; subst hk; cases e
    simp only [appended, Bool.not_false, if_true] at ha
    simp only [Bool.false_eq_true, if_false, Sem.run_bind, h0, Result.andThen_ok, if_neg hc, Bool.not_false, if_true, run_info hi, if_neg hnext, if_neg hmax, run_choose, hfo, run_askRoom, ho, ha, World.drew_eq, Sem.run_pure, hzr, newRow_run, World.size_drew]
    have hmax' := hmax
    simp only [Bool.false_eq_true] at hmax'
    simp only [if_neg hmax', Sem.run_bind, Result.andThen_ok, if_neg hnext, run_info hi, run_choose, hfo, Bool.false_eq_true, if_false, run_askRoom, ho, ha, World.drew_eq, Sem.run_pure, hzr, newRow_run, World.size_drew]
  | true =>
    obtain ⟨k, hk⟩ : ∃ k, d = .int k := by cases d <;> simp at e; exact ⟨_, rfl⟩
    subst hk
    obtain ⟨rfl, hb3⟩ := hn1 rfl
    have hnn : (n : Int) ≤ (n : Int) * inf.bytes := by
      have : (n : Int) * 1 ≤ (n : Int) * inf.bytes := Int.mul_le_mul_of_nonneg_left (by omega) (by omega)
      omega
    have hw : IntKind.i64.wrap (n : Int) = n := IntWalk.i64_in _ (by omega)
    have h1 : ¬ ((n : Int) < 0) := by omega
    have h2 : ¬ ((n : Int) * inf.bytes > 2 ^ 48) := by omega
    simp only [appended, Bool.not_true, Bool.false_eq_true, if_false] at ha
    simp only [Bool.false_eq_true, if_false, Sem.run_bind, Result.andThen_ok, if_neg hc, Bool.not_true, if_true, run_asInt, hw, if_neg h1, run_info hi, if_neg h2, Int.toNat_natCast, Sem.run_pure]
    have hmax' := hmax
    simp only [true_or, and_true] at hmax' ⊢
    simp only [if_neg hmax', Sem.run_bind, Result.andThen_ok, if_neg hnext, run_info hi, run_choose, hfo, Bool.false_eq_true, if_false, run_askRoom, ho, ha, World.drew_eq, Sem.run_pure, hzr, newRow_run, World.size_drew]
end Go.Abs
