import Derived.Test.YtbhdelloinnlpaaGCrcB
namespace Go.Proofs.Ytbhdelloinnlpaa.GCrcT
set_option linter.unusedSimpArgs false
open Go.Proofs.Ytbhdelloinnlpaa.GCrc Go.Proofs.YtbhdelloinnlpaaW.PrintWords
/-- one bit -/
def stepB (x : BitVec 16) : BitVec 16 := (x >>> 1) ^^^ (if x.getLsbD 0 then 40961#16 else 0#16)
theorem step_xor (x y : BitVec 16) : stepB (x ^^^ y) = stepB x ^^^ stepB y := by
  unfold stepB
  rw [BitVec.ushiftRight_xor_distrib, BitVec.getLsbD_xor]
  have e : ∀ p q : Bool, (if (p ^^ q) = true then 40961#16 else 0#16) = (if p = true then 40961#16 else 0#16) ^^^ (if q = true then 40961#16 else 0#16) := by decide
  rw [e]
  ac_rfl
def stepsB : Nat → BitVec 16 → BitVec 16
  | 0, x => x
  | n + 1, x => stepsB n (stepB x)
theorem steps_xor (n : Nat) : ∀ x y, stepsB n (x ^^^ y) = stepsB n x ^^^ stepsB n y := by
  induction n with
  | zero => intro x y; rfl
  | succ n ih => intro x y; simp only [stepsB, step_xor, ih]
theorem steps_add (m n : Nat) : ∀ x, stepsB (m + n) x = stepsB n (stepsB m x) := by
  induction m with
  | zero => intro x; rw [Nat.zero_add]; rfl
  | succ m ih => intro x; rw [Nat.succ_add]; exact ih _
theorem step_even (x : BitVec 16) (h : x.getLsbD 0 = false) : stepB x = x >>> 1 := by
  unfold stepB
  rw [h]
  simp
theorem high4 (x : BitVec 16) : stepsB 4 (x &&& 65520#16) = x >>> 4 := by
  have e : ∀ i, i < 4 → (65520#16).getLsbD i = false := by decide
  have h0 : stepB (x &&& 65520#16) = (x &&& 65520#16) >>> 1 := step_even _ (by simp [BitVec.getLsbD_and])
  have h1 : stepB ((x &&& 65520#16) >>> 1) = (x &&& 65520#16) >>> 2 := by rw [step_even _ (by simp [BitVec.getLsbD_and, BitVec.getLsbD_ushiftRight]), ← BitVec.shiftRight_add]
  have h2 : stepB ((x &&& 65520#16) >>> 2) = (x &&& 65520#16) >>> 3 := by rw [step_even _ (by simp [BitVec.getLsbD_and, BitVec.getLsbD_ushiftRight]), ← BitVec.shiftRight_add]
  have h3 : stepB ((x &&& 65520#16) >>> 3) = (x &&& 65520#16) >>> 4 := by rw [step_even _ (by simp [BitVec.getLsbD_and, BitVec.getLsbD_ushiftRight]), ← BitVec.shiftRight_add]
  simp only [stepsB, h0, h1, h2, h3]
  rw [BitVec.ushiftRight_and_distrib]
  have : (65520#16) >>> 4 = 4095#16 := by decide
  rw [this]
  ext i hi
  simp only [BitVec.getElem_and, BitVec.getElem_ushiftRight]
  have hm : ∀ i : Nat, i < 16 → (4095#16).getLsbD i = decide (i < 12) := by decide
  have := hm i hi
  rw [BitVec.getLsbD_eq_getElem hi] at this
  rw [this]
  by_cases h : i < 12
  · simp [h]
  · simp only [h, decide_false, Bool.and_false]
    rw [BitVec.getLsbD_of_ge _ _ (by omega)]
theorem split4 (x : BitVec 16) : x = (x &&& 65520#16) ^^^ (x &&& 15#16) := by
  ext i hi
  have hm : ∀ i : Nat, i < 16 → ((65520#16).getLsbD i ^^ (15#16).getLsbD i) = true := by decide
  have := hm i hi
  rw [BitVec.getLsbD_eq_getElem hi, BitVec.getLsbD_eq_getElem hi] at this
  simp only [BitVec.getElem_xor, BitVec.getElem_and]
  generalize (65520#16)[i] = p at *
  generalize (15#16)[i] = q at *
  generalize x[i] = r
  revert this
  cases p <;> cases q <;> cases r <;> decide
theorem four (x : BitVec 16) : stepsB 4 x = (x >>> 4) ^^^ stepsB 4 (x &&& 15#16) := by
  conv => lhs; rw [split4 x]
  rw [steps_xor, high4]
set_option linter.unusedSimpArgs false
theorem tab_ok : ∀ n : Fin 16, T n.val = ((stepsB 4 (BitVec.ofNat 16 n.val)).toNat : Int) := by decide +kernel
/-- A number as bits. -/
def bs (x : Int) : BitVec 16 := BitVec.ofInt 16 x
theorem wrap16 (n : Nat) (h : n < 65536) : IntKind.u16.wrap (n : Int) = n := by
  simp [IntKind.wrap, IntKind.bits, IntKind.signed]; omega
theorem bits_xor (x y : Int) : Go.bits .xor .u16 x y = ((bs x ^^^ bs y).toNat : Int) := by
  unfold Go.bits
  exact wrap16 _ (BitVec.isLt _)
theorem bits_and (x y : Int) : Go.bits .and .u16 x y = ((bs x &&& bs y).toNat : Int) := by
  unfold Go.bits
  exact wrap16 _ (BitVec.isLt _)
theorem bs_nat (x : BitVec 16) : bs (x.toNat : Int) = x := by
  unfold bs
  rw [BitVec.ofInt_natCast]
  simp
theorem nat_bs (x : Int) (h0 : 0 ≤ x) (h1 : x < 65536) : ((bs x).toNat : Int) = x := by
  unfold bs
  obtain ⟨n, rfl⟩ := Int.eq_ofNat_of_zero_le h0
  rw [BitVec.ofInt_natCast, BitVec.toNat_ofNat, Nat.mod_eq_of_lt (by omega)]
theorem bs_wrap (x : Int) : bs (IntKind.u16.wrap x) = bs x := by
  unfold bs
  apply BitVec.eq_of_toNat_eq
  simp [BitVec.toNat_ofInt, IntKind.wrap, IntKind.bits, IntKind.signed]
theorem div16 (x : BitVec 16) : (x.toNat : Int) / (16 : Int) = ((x >>> 4).toNat : Int) := by
  rw [BitVec.toNat_ushiftRight, Nat.shiftRight_eq_div_pow]
  rfl
theorem T_ok (x : BitVec 16) : T ((x &&& bs 15).toNat : Int) = ((stepsB 4 (x &&& 15#16)).toNat : Int) := by
  have h15 : bs 15 = 15#16 := by decide
  rw [h15]
  have hlt : (x &&& 15#16).toNat < 16 := by
    rw [BitVec.toNat_and]
    exact Nat.lt_succ_of_le Nat.and_le_right
  have := tab_ok ⟨(x &&& 15#16).toNat, hlt⟩
  simp only at this
  rw [this]
  rw [BitVec.ofNat_toNat, BitVec.setWidth_eq]
/-- One byte more, in bits. -/
def nextB (s c : BitVec 16) : BitVec 16 := stepsB 8 (s ^^^ c)
theorem half (x : BitVec 16) : Go.bits .xor .u16 ((x.toNat : Int) / 16) (T (Go.bits .and .u16 (x.toNat : Int) 15)) = ((stepsB 4 x).toNat : Int) := by
  rw [bits_and, bs_nat, T_ok, div16, bits_xor, bs_nat, bs_nat, ← four]
theorem next_bits (s c : Int) : nextI s c = ((nextB (bs s) (bs c)).toNat : Int) := by
  unfold nextI nextB
  rw [steps_add 4 4, ← half, ← half, ← bs_wrap c, ← bits_xor]
theorem next_range (s c : Int) : 0 ≤ nextI s c ∧ nextI s c < 65536 := by
  rw [next_bits]
  have := (nextB (bs s) (bs c)).isLt
  omega
theorem next_xor (s s' c c' : BitVec 16) : nextB (s ^^^ s') (c ^^^ c') = nextB s c ^^^ nextB s' c' := by
  unfold nextB
  rw [← steps_xor]
  congr 1
  ac_rfl
theorem step_zero (x : BitVec 16) (h : stepB x = 0#16) : x = 0#16 := by
  have h15 : (stepB x).getLsbD 15 = x.getLsbD 0 := by
    unfold stepB
    rw [BitVec.getLsbD_xor, BitVec.getLsbD_ushiftRight]
    have : x.getLsbD (1 + 15) = false := BitVec.getLsbD_of_ge _ _ (by omega)
    rw [this]
    cases x.getLsbD 0 <;> decide
  rw [h] at h15
  have h0 : x.getLsbD 0 = false := by rw [← h15]; decide
  rw [step_even x h0] at h
  apply BitVec.eq_of_getLsbD_eq
  intro i hi
  cases i with
  | zero => rw [h0]; simp
  | succ i =>
    have := congrArg (fun z => BitVec.getLsbD z i) h
    simp only [BitVec.getLsbD_ushiftRight] at this
    rw [Nat.add_comm] at this
    rw [this]
    simp
theorem steps_zero (n : Nat) : ∀ x, stepsB n x = 0#16 → x = 0#16 := by
  induction n with
  | zero => intro x h; exact h
  | succ n ih => intro x h; exact step_zero x (ih _ h)
theorem xor_zero {x y : BitVec 16} : x ^^^ y = 0#16 ↔ x = y := BitVec.xor_eq_zero_iff
theorem steps_inj (n : Nat) (x y : BitVec 16) : stepsB n x = stepsB n y ↔ x = y :=
  ⟨fun h => xor_zero.1 (steps_zero n _ (by rw [steps_xor]; exact xor_zero.2 h)), fun h => by rw [h]⟩
theorem xor_cancel (s x y : BitVec 16) : s ^^^ x = s ^^^ y ↔ x = y :=
  ⟨fun h => by
    have : s ^^^ (s ^^^ x) = s ^^^ (s ^^^ y) := by rw [h]
    simpa [← BitVec.xor_assoc] using this, fun h => by rw [h]⟩
theorem next_left (s t c : BitVec 16) : nextB s c = nextB t c ↔ s = t := by
  unfold nextB
  rw [steps_inj, BitVec.xor_comm s c, BitVec.xor_comm t c, xor_cancel]
theorem next_right (s c d : BitVec 16) : nextB s c = nextB s d ↔ c = d := by
  unfold nextB
  rw [steps_inj, xor_cancel]
theorem byte_big : ∀ v : Fin 256, stepsB 8 (BitVec.ofNat 16 v.val) < 256#16 → v = 0 := by decide +kernel
theorem high8 (x : BitVec 16) : stepsB 8 (x &&& 65280#16) = x >>> 8 := by
  have e1 : x &&& 65280#16 = (x &&& 65280#16) &&& 65520#16 := by rw [BitVec.and_assoc]; congr 1
  have e2 : (x &&& 65280#16) >>> 4 = ((x &&& 65280#16) >>> 4) &&& 65520#16 := by
    rw [BitVec.ushiftRight_and_distrib, BitVec.and_assoc]; congr 1
  rw [steps_add 4 4]
  conv => lhs; rw [e1]
  rw [high4]
  conv => lhs; rw [e2]
  rw [high4, BitVec.ushiftRight_and_distrib, BitVec.ushiftRight_and_distrib, ← BitVec.shiftRight_add]
  have : (65280#16) >>> 4 >>> 4 = 255#16 := by decide
  rw [this]
  ext i hi
  simp only [BitVec.getElem_and, BitVec.getElem_ushiftRight]
  have hm : ∀ i : Nat, i < 16 → (255#16).getLsbD i = decide (i < 8) := by decide
  have := hm i hi
  rw [BitVec.getLsbD_eq_getElem hi] at this
  rw [this]
  by_cases h : i < 8
  · simp [h]
  · simp only [h, decide_false, Bool.and_false]
    rw [BitVec.getLsbD_of_ge _ _ (by omega)]
theorem split8 (x : BitVec 16) : x = (x &&& 65280#16) ^^^ (x &&& 255#16) := by
  ext i hi
  have hm : ∀ i : Nat, i < 16 → ((65280#16).getLsbD i ^^ (255#16).getLsbD i) = true := by decide
  have := hm i hi
  rw [BitVec.getLsbD_eq_getElem hi, BitVec.getLsbD_eq_getElem hi] at this
  simp only [BitVec.getElem_xor, BitVec.getElem_and]
  generalize (65280#16)[i] = p at *
  generalize (255#16)[i] = q at *
  generalize x[i] = r
  revert this
  cases p <;> cases q <;> cases r <;> decide
/-- Of eight steps: the upper byte, and what becomes of the lower one. -/
theorem eight (x : BitVec 16) : stepsB 8 x = (x >>> 8) ^^^ stepsB 8 (x &&& 255#16) := by
  conv => lhs; rw [split8 x]
  rw [steps_xor, high8]
end Go.Proofs.Ytbhdelloinnlpaa.GCrcT
