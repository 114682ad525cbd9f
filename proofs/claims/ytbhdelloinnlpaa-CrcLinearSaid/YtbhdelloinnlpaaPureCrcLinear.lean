/- CrcLinear: of three rows of bytes, cut to the least of their lengths and 200, and changed bit by bit together, the sum is that of their sums, changed together. No condition. -/
import Derived.Test.YtbhdelloinnlpaaPx5
import Derived.Test.YtbhdelloinnlpaaGCrcV
import Derived.OpenShut
namespace Go.Proofs.Ytbhdelloinnlpaa.Pure
open Go.RowKit Go.Proofs.Ytbhdelloinnlpaa.P Go.Proofs.YtbhdelloinnlpaaW.PrintWords Go.Proofs.YtbhdelloinnlpaaW.PrintLast Go.Proofs.Ytbhdelloinnlpaa.GCrcT Go.Proofs.Ytbhdelloinnlpaa.GCrc Go.Proofs.Ytbhdelloinnlpaa.GCrcV
set_option linter.unusedSimpArgs false
def xor8 (a b c : Int) : Int := Go.bits .xor .u8 (Go.bits .xor .u8 a b) c
theorem bits8 (x y : Int) (hx : 0 ≤ x ∧ x ≤ 255) (hy : 0 ≤ y ∧ y ≤ 255) : bs (Go.bits .xor .u8 x y) = bs x ^^^ bs y ∧ 0 ≤ Go.bits .xor .u8 x y ∧ Go.bits .xor .u8 x y ≤ 255 := by
  obtain ⟨a, rfl⟩ := Int.eq_ofNat_of_zero_le hx.1
  obtain ⟨b, rfl⟩ := Int.eq_ofNat_of_zero_le hy.1
  have hlt : a ^^^ b < 2 ^ 8 := Nat.xor_lt_two_pow (by omega) (by omega)
  have e : Go.bits .xor .u8 (a : Int) (b : Int) = ((a ^^^ b : Nat) : Int) := by
    unfold Go.bits
    show IntKind.u8.wrap (((BitVec.ofInt 8 (a : Int) ^^^ BitVec.ofInt 8 (b : Int)).toNat : Nat) : Int) = _
    rw [BitVec.ofInt_natCast, BitVec.ofInt_natCast, BitVec.toNat_xor, BitVec.toNat_ofNat, BitVec.toNat_ofNat, Nat.mod_eq_of_lt (by omega), Nat.mod_eq_of_lt (by omega), IntKind.wrap_u8]
    omega
  rw [e]
  refine ⟨?_, by omega, by omega⟩
  unfold bs
  rw [BitVec.ofInt_natCast, BitVec.ofInt_natCast, BitVec.ofInt_natCast]
  apply BitVec.eq_of_toNat_eq
  rw [BitVec.toNat_xor, BitVec.toNat_ofNat, BitVec.toNat_ofNat, BitVec.toNat_ofNat, Nat.mod_eq_of_lt (by omega), Nat.mod_eq_of_lt (by omega), Nat.mod_eq_of_lt (by omega)]
theorem bits8_3 (x y z : Int) (hx : 0 ≤ x ∧ x ≤ 255) (hy : 0 ≤ y ∧ y ≤ 255) (hz : 0 ≤ z ∧ z ≤ 255) : bs (xor8 x y z) = bs x ^^^ bs y ^^^ bs z := by
  obtain ⟨h1, h2, h3⟩ := bits8 x y hx hy
  unfold xor8
  rw [(bits8 _ z ⟨h2, h3⟩ hz).1, h1]
/-- Three rows, changed together, up to a place. -/
def mixed (a b c : List Int) (n i : Nat) : List Int := (List.range n).map fun j => if j < i then xor8 (rd a j) (rd b j) (rd c j) else 0
theorem mixed_set (a b c : List Int) (n i : Nat) : (mixed a b c n i).set i (xor8 (rd a i) (rd b i) (rd c i)) = mixed a b c n (i + 1) := by
  apply List.ext_getElem
  · simp [mixed]
  · intro j h1 h2
    simp only [mixed, List.getElem_set, List.getElem_map, List.getElem_range]
    by_cases e : i = j
    · subst e; simp
    · rw [if_neg e]
      by_cases h3 : j < i
      · rw [if_pos h3, if_pos (by omega)]
      · rw [if_neg h3, if_neg (by omega)]
theorem fold_mixed (a b c : List Int) (n : Nat) (ha : n ≤ a.length) (hb : n ≤ b.length) (hc : n ≤ c.length) (wa : ∀ x ∈ a, 0 ≤ x ∧ x ≤ 255) (wb : ∀ x ∈ b, 0 ≤ x ∧ x ≤ 255) (wc : ∀ x ∈ c, 0 ≤ x ∧ x ≤ 255) (i : Nat) (hi : i ≤ n) :
    bs (((mixed a b c n n).take i).foldl nextI 65535) = bs ((a.take i).foldl nextI 65535) ^^^ bs ((b.take i).foldl nextI 65535) ^^^ bs ((c.take i).foldl nextI 65535) := by
  induction i with
  | zero => simp only [List.take_zero, List.foldl_nil]; decide
  | succ i ih =>
    have hl : (mixed a b c n n).length = n := by simp [mixed]
    rw [List.take_succ_eq_append_getElem (show i < (mixed a b c n n).length by omega), List.take_succ_eq_append_getElem (show i < a.length by omega), List.take_succ_eq_append_getElem (show i < b.length by omega), List.take_succ_eq_append_getElem (show i < c.length by omega)]
    simp only [List.foldl_append, List.foldl_cons, List.foldl_nil]
    rw [next_bits, next_bits, next_bits, next_bits, bs_nat, bs_nat, bs_nat, bs_nat, ih (by omega)]
    have e : (mixed a b c n n)[i]'(by omega) = xor8 (rd a i) (rd b i) (rd c i) := by simp [mixed, show i < n by omega]
    rw [e, bits8_3 _ _ _ (by rw [rd_at (by omega)]; exact wa _ (List.getElem_mem _)) (by rw [rd_at (by omega)]; exact wb _ (List.getElem_mem _)) (by rw [rd_at (by omega)]; exact wc _ (List.getElem_mem _)), rd_at (by omega), rd_at (by omega), rd_at (by omega), next_xor, next_xor]
theorem sum_mixed (a b c : List Int) (n : Nat) (ha : n ≤ a.length) (hb : n ≤ b.length) (hc : n ≤ c.length) (wa : ∀ x ∈ a, 0 ≤ x ∧ x ≤ 255) (wb : ∀ x ∈ b, 0 ≤ x ∧ x ≤ 255) (wc : ∀ x ∈ c, 0 ≤ x ∧ x ≤ 255) :
    sumI (mixed a b c n n) = Go.bits .xor .u16 (Go.bits .xor .u16 (sumI (a.take n)) (sumI (b.take n))) (sumI (c.take n)) := by
  have h := fold_mixed a b c n ha hb hc wa wb wc n (Nat.le_refl _)
  have hl : (mixed a b c n n).length = n := by simp [mixed]
  rw [List.take_of_length_le (by omega)] at h
  have hr := sum_range (mixed a b c n n)
  rw [bits_xor, bits_xor, bs_nat]
  unfold sumI at *
  rw [← h, nat_bs _ hr.1 hr.2]
theorem loop (a b c : List Int) (n : Nat) (hn : n ≤ 200) (ha : n ≤ a.length) (hb : n ≤ b.length) (hc : n ≤ c.length) (wa : ∀ x ∈ a, 0 ≤ x ∧ x ≤ 255) (wb : ∀ x ∈ b, 0 ≤ x ∧ x ≤ 255) (wc : ∀ x ∈ c, 0 ≤ x ∧ x ≤ 255) (d : Nat) : ∀ (k i : Nat), i + d = n → d < k →
    saucierlaw01_CrcLinear.l0 k a b c (n : Int) (mixed a b c n i) (n : Int) (i : Int) = some true := by
  induction d with
  | zero =>
    intro k i hi hk
    obtain ⟨k, rfl⟩ : ∃ m, k = m + 1 := ⟨k - 1, by omega⟩
    obtain rfl : i = n := by omega
    simp only [saucierlaw01_CrcLinear.l0]
    rw [if_neg (by omega), sum_f (by simp [mixed]; omega), Option.bind_some, if_pos (by omega), if_pos (by omega), Int.toNat_natCast]
    rw [sum_f (by simp; omega), Option.bind_some, if_pos (by omega)]
    rw [sum_f (by simp; omega), Option.bind_some, if_pos (by omega)]
    rw [sum_f (by simp; omega), Option.bind_some, if_pos (sum_mixed a b c i ha hb hc wa wb wc)]
    rfl
  | succ d ih =>
    intro k i hi hk
    obtain ⟨k, rfl⟩ : ∃ m, k = m + 1 := ⟨k - 1, by omega⟩
    simp only [saucierlaw01_CrcLinear.l0]
    have e : wrap64 ((i : Int) + 1) = ((i + 1 : Nat) : Int) := by unfold wrap64; omega
    rw [if_pos (by omega), if_pos (by omega), if_pos (by omega), if_pos (by omega), if_pos (by omega), if_pos (by simp [mixed]; omega), Int.toNat_natCast, e]
    have := mixed_set a b c n i
    unfold xor8 at this
    rw [this]
    exact ih k (i + 1) (by omega) (by omega)
theorem CrcLinear : saucierlaw01_CrcLinear.Pure := by
  intro l0 l1 l2 _ _ w0 _ _ w1 _ _ w2
  refine ⟨202, ?_⟩
  unfold saucierlaw01_CrcLinear.f
  obtain ⟨n, hn⟩ : ∃ n : Nat, mn (mn (mn (l0.length : Int) (l1.length : Int)) (l2.length : Int)) 200 = (n : Int) := ⟨(mn (mn (mn (l0.length : Int) (l1.length : Int)) (l2.length : Int)) 200).toNat, by unfold mn; split <;> split <;> split <;> omega⟩
  have h : n ≤ 200 ∧ n ≤ l0.length ∧ n ≤ l1.length ∧ n ≤ l2.length := by
    unfold mn at hn
    split at hn <;> split at hn <;> split at hn <;> omega
  rw [hn, if_pos (by omega), if_pos (by omega), Option.bind_some, Int.toNat_natCast]
  have e : List.replicate n (0 : Int) = mixed l0 l1 l2 n 0 := by
    apply List.ext_getElem
    · simp [mixed]
    · intro j h1 h2
      simp [mixed]
  rw [List.length_replicate, e]
  exact loop l0 l1 l2 n h.1 h.2.1 h.2.2.1 h.2.2.2 (fun x hx => bounds_u8 (w0 x hx)) (fun x hx => bounds_u8 (w1 x hx)) (fun x hx => bounds_u8 (w2 x hx)) n 202 0 (by omega) (by omega)
end Go.Proofs.Ytbhdelloinnlpaa.Pure
