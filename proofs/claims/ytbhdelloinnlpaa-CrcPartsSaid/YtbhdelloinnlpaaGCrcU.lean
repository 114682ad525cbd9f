import Derived.Test.YtbhdelloinnlpaaGCrcT
namespace Go.Proofs.Ytbhdelloinnlpaa.GCrcT
open Go.Proofs.Ytbhdelloinnlpaa.GCrc Go.Proofs.YtbhdelloinnlpaaW.PrintWords
set_option linter.unusedSimpArgs false
theorem bs_inj {x y : Int} (hx : 0 ≤ x ∧ x < 65536) (hy : 0 ≤ y ∧ y < 65536) : bs x = bs y ↔ x = y :=
  ⟨fun h => by rw [← nat_bs x hx.1 hx.2, h, nat_bs y hy.1 hy.2], fun h => by rw [h]⟩
theorem toNat_inj {x y : BitVec 16} : ((x.toNat : Int) = (y.toNat : Int)) ↔ x = y :=
  ⟨fun h => BitVec.eq_of_toNat_eq (by omega), fun h => by rw [h]⟩
theorem next_left_i {s t c : Int} (hs : 0 ≤ s ∧ s < 65536) (ht : 0 ≤ t ∧ t < 65536) : nextI s c = nextI t c ↔ s = t := by
  rw [next_bits, next_bits, toNat_inj, next_left, bs_inj hs ht]
theorem next_right_i {s c d : Int} (hc : 0 ≤ c ∧ c < 65536) (hd : 0 ≤ d ∧ d < 65536) : nextI s c = nextI s d ↔ c = d := by
  rw [next_bits, next_bits, toNat_inj, next_right, bs_inj hc hd]
theorem bs_mod (s : Int) (h0 : 0 ≤ s) (h1 : s < 65536) : bs (s % 256) = bs s &&& 255#16 := by
  obtain ⟨n, rfl⟩ := Int.eq_ofNat_of_zero_le h0
  apply BitVec.eq_of_toNat_eq
  have e : ((n : Int) % 256) = ((n % 256 : Nat) : Int) := by omega
  rw [e]
  unfold bs
  rw [BitVec.ofInt_natCast, BitVec.ofInt_natCast, BitVec.toNat_and, BitVec.toNat_ofNat, BitVec.toNat_ofNat]
  have : (255#16).toNat = 2 ^ 8 - 1 := by decide
  rw [this, Nat.and_two_pow_sub_one_eq_mod]
  omega
theorem bs_div (s : Int) (h0 : 0 ≤ s) (h1 : s < 65536) : bs (s / 256) = bs s >>> 8 := by
  obtain ⟨n, rfl⟩ := Int.eq_ofNat_of_zero_le h0
  apply BitVec.eq_of_toNat_eq
  have e : ((n : Int) / 256) = ((n / 256 : Nat) : Int) := by omega
  rw [e]
  unfold bs
  rw [BitVec.ofInt_natCast, BitVec.ofInt_natCast, BitVec.toNat_ushiftRight, BitVec.toNat_ofNat, BitVec.toNat_ofNat, Nat.shiftRight_eq_div_pow]
  omega
theorem steps_nought (n : Nat) : stepsB n 0#16 = 0#16 := by
  induction n with
  | zero => rfl
  | succ n ih => have : stepB 0#16 = 0#16 := by decide
                 rw [stepsB, this, ih]
theorem xor_low (x : BitVec 16) : x ^^^ (x &&& 255#16) = x &&& 65280#16 := by
  conv => lhs; lhs; rw [split8 x]
  rw [BitVec.xor_assoc]
  simp
/-- A sum, its own lower byte, its own upper byte: 0. -/
theorem put_zero (s : Int) (h0 : 0 ≤ s) (h1 : s < 65536) : nextI (nextI s (s % 256)) (s / 256 % 256) = 0 := by
  have e : s / 256 % 256 = s / 256 := by omega
  rw [next_bits, next_bits, bs_nat, e, bs_mod s h0 h1, bs_div s h0 h1]
  have : nextB (bs s) (bs s &&& 255#16) = bs s >>> 8 := by
    unfold nextB
    rw [xor_low, high8]
  rw [this]
  unfold nextB
  rw [BitVec.xor_self, steps_nought]
  rfl
/-- The sum of bytes. -/
def sumI (l : List Int) : Int := l.foldl nextI 65535
theorem fold_range (l : List Int) : ∀ s, 0 ≤ s ∧ s < 65536 → 0 ≤ l.foldl nextI s ∧ l.foldl nextI s < 65536 := by
  induction l with
  | nil => intro s h; exact h
  | cons x l ih => intro s _; exact ih _ (next_range s x)
theorem sum_range (l : List Int) : 0 ≤ sumI l ∧ sumI l < 65536 := fold_range l _ (by omega)
theorem sum_put (l : List Int) : sumI (l ++ [sumI l % 256, sumI l / 256 % 256]) = 0 := by
  unfold sumI
  rw [List.foldl_append]
  exact put_zero _ (sum_range l).1 (sum_range l).2
/-- Two bytes more leave nothing just if they are the sum. -/
theorem next_zero (s x y : Int) (hs : 0 ≤ s ∧ s < 65536) (hx : 0 ≤ x ∧ x < 256) (hy : 0 ≤ y ∧ y < 256) : nextI (nextI s x) y = 0 ↔ x + 256 * y = s := by
  constructor
  · intro h
    have e1 : nextI (nextI s x) y = nextI y y := by
      rw [h, next_bits]
      unfold nextB
      rw [BitVec.xor_self, steps_nought]
      rfl
    have e2 := (next_left_i (next_range s x) (show 0 ≤ y ∧ y < 65536 by omega)).1 e1
    -- the lower byte
    obtain ⟨v, hv⟩ : ∃ v : BitVec 16, v = (bs s ^^^ bs x) &&& 255#16 := ⟨_, rfl⟩
    have hvl : v.toNat < 256 := by
      rw [hv, BitVec.toNat_and]
      exact Nat.lt_succ_of_le Nat.and_le_right
    have e3 : ((bs s ^^^ bs x) >>> 8) ^^^ stepsB 8 v = bs y := by
      rw [hv, ← eight]
      have := congrArg bs e2
      rw [next_bits, bs_nat] at this
      exact this
    have hbx : bs x = bs x &&& 255#16 := by
      rw [← bs_mod x hx.1 (by omega)]
      congr 1
      omega
    have hbx8 : bs x >>> 8 = 0#16 := by
      rw [← bs_div x hx.1 (by omega)]
      have : x / 256 = 0 := by omega
      rw [this]
      rfl
    have e4 : stepsB 8 v = (bs s >>> 8) ^^^ bs y := by
      rw [BitVec.ushiftRight_xor_distrib, hbx8, BitVec.xor_zero] at e3
      rw [← e3, ← BitVec.xor_assoc, BitVec.xor_self, BitVec.zero_xor]
    have hsmall : stepsB 8 v < 256#16 := by
      rw [e4, BitVec.lt_def, BitVec.toNat_xor]
      have a : (bs s >>> 8).toNat < 2 ^ 8 := by
        rw [BitVec.toNat_ushiftRight, Nat.shiftRight_eq_div_pow]
        have := (bs s).isLt
        omega
      have b : (bs y).toNat < 2 ^ 8 := by
        have := nat_bs y hy.1 (by omega)
        omega
      exact Nat.xor_lt_two_pow a b
    have hv0 := byte_big ⟨v.toNat, hvl⟩
    simp only [BitVec.ofNat_toNat, BitVec.setWidth_eq] at hv0
    have hv1 : v.toNat = 0 := by
      have := hv0 hsmall
      exact congrArg Fin.val this
    have hv2 : v = 0#16 := BitVec.eq_of_toNat_eq (by rw [hv1]; rfl)
    have e5 : bs s >>> 8 = bs y := by
      rw [hv2, steps_nought] at e4
      exact xor_zero.1 e4.symm
    have e6 : bs s &&& 255#16 = bs x := by
      have h2 : (bs s ^^^ bs x) &&& 255#16 = 0#16 := by rw [← hv, hv2]
      have hd : ∀ a b c : BitVec 16, (a ^^^ b) &&& c = (a &&& c) ^^^ (b &&& c) := fun a b c => by
        ext i hi
        simp only [BitVec.getElem_xor, BitVec.getElem_and]
        generalize a[i] = p
        generalize b[i] = q
        generalize c[i] = r
        cases p <;> cases q <;> cases r <;> rfl
      rw [hd] at h2
      have := xor_zero.1 h2
      rw [this, ← hbx]
    rw [← bs_div s hs.1 hs.2] at e5
    rw [← bs_mod s hs.1 hs.2] at e6
    have q1 := (bs_inj (by omega) (by omega)).1 e5
    have q2 := (bs_inj (by omega) (by omega)).1 e6
    omega
  · intro h
    have h1 : x = s % 256 := by omega
    have h2 : y = s / 256 % 256 := by omega
    rw [h1, h2]
    exact put_zero s hs.1 hs.2
end Go.Proofs.Ytbhdelloinnlpaa.GCrcT
