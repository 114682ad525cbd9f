/- CrcTells: the sum of any bytes (up to 600; more are let by), of one byte more, what is put behind them, and what is cut, are as the reference has them; what is handed in stays. No other condition. -/
import Derived.Test.YtbhdelloinnlpaaPx6
import Derived.Test.YtbhdelloinnlpaaGCrcV
import Derived.OpenShut
namespace Go.Proofs.Ytbhdelloinnlpaa.Pure
open Go.RowKit Go.Proofs.Ytbhdelloinnlpaa.P Go.Proofs.YtbhdelloinnlpaaW.PrintWords Go.Proofs.YtbhdelloinnlpaaW.PrintLast Go.Proofs.Ytbhdelloinnlpaa.GCrcT Go.Proofs.Ytbhdelloinnlpaa.GCrc Go.Proofs.Ytbhdelloinnlpaa.GCrcV
set_option linter.unusedSimpArgs false
theorem odd_bit (x : BitVec 16) : (Int.tmod (x.toNat : Int) 2 = 1) ↔ x.getLsbD 0 = true := by
  have e : Int.tmod (x.toNat : Int) 2 = ((x.toNat % 2 : Nat) : Int) := by rw [Int.tmod_eq_emod_of_nonneg (by omega)]; omega
  rw [e, BitVec.getLsbD, Nat.testBit_zero]
  simp
  omega
theorem half_bits (x : BitVec 16) : IntKind.u16.wrap (Int.tdiv (x.toNat : Int) 2) = ((x >>> 1).toNat : Int) := by
  have := x.isLt
  have e : Int.tdiv (x.toNat : Int) 2 = ((x.toNat / 2 : Nat) : Int) := by rw [Int.tdiv_eq_ediv_of_nonneg (by omega)]; omega
  rw [e, wrap16 _ (by omega), BitVec.toNat_ushiftRight, Nat.shiftRight_eq_div_pow]
theorem ref_loop (d : Nat) : ∀ (k i : Nat) (x : BitVec 16), i + d = 8 → d < k → saucierref01_Next.l0 k (x.toNat : Int) (i : Int) = some ((stepsB d x).toNat : Int) := by
  induction d with
  | zero =>
    intro k i x hi hk
    obtain ⟨k, rfl⟩ : ∃ m, k = m + 1 := ⟨k - 1, by omega⟩
    simp only [saucierref01_Next.l0]
    rw [if_neg (by omega)]
    rfl
  | succ d ih =>
    intro k i x hi hk
    obtain ⟨k, rfl⟩ : ∃ m, k = m + 1 := ⟨k - 1, by omega⟩
    simp only [saucierref01_Next.l0]
    have e : wrap64 ((i : Int) + 1) = ((i + 1 : Nat) : Int) := by unfold wrap64; omega
    rw [if_pos (by omega), e, half_bits]
    have h40 : bs 40961 = 40961#16 := by decide
    by_cases hb : x.getLsbD 0 = true
    · rw [if_pos ((odd_bit x).2 hb), bits_xor, bs_nat, h40, ih k (i + 1) _ (by omega) (by omega), stepsB]
      unfold stepB
      rw [if_pos hb]
    · rw [if_neg (fun h => hb ((odd_bit x).1 h)), ih k (i + 1) _ (by omega) (by omega), stepsB, step_even x (by simpa using hb)]
theorem ref_next (k : Nat) (hk : 8 < k) (s c : Int) : saucierref01_Next.f k s c = some (nextI s c) := by
  unfold saucierref01_Next.f
  rw [bits_xor, bs_wrap, next_bits]
  exact ref_loop 8 k 0 _ (by omega) hk
theorem ref_sum_loop (l : List Int) (hl : l.length ≤ 1000) (d : Nat) : ∀ (k i : Nat) (s : Int), i + d = l.length → d + 9 < k → saucierref01_Sum.l0 k l s (i : Int) = some ((l.drop i).foldl nextI s) := by
  induction d with
  | zero =>
    intro k i s hi hk
    obtain ⟨k, rfl⟩ : ∃ m, k = m + 1 := ⟨k - 1, by omega⟩
    simp only [saucierref01_Sum.l0]
    rw [if_neg (by omega), List.drop_of_length_le (by omega), List.foldl_nil]
  | succ d ih =>
    intro k i s hi hk
    obtain ⟨k, rfl⟩ : ∃ m, k = m + 1 := ⟨k - 1, by omega⟩
    simp only [saucierref01_Sum.l0]
    have e : wrap64 ((i : Int) + 1) = ((i + 1 : Nat) : Int) := by unfold wrap64; omega
    rw [if_pos (by omega), if_pos (by omega), ref_next k (by omega), Option.bind_some, e, ih k (i + 1) _ (by omega) (by omega), List.drop_eq_getElem_cons (show i < l.length by omega), List.foldl_cons, rd_at (by omega)]
theorem ref_sum {k : Nat} {l : List Int} (hl : l.length ≤ 1000) (hk : l.length + 9 < k) : saucierref01_Sum.f k l = some (sumI l) := by
  unfold saucierref01_Sum.f sumI
  have := ref_sum_loop l hl l.length k 0 65535 (by omega) hk
  rw [List.drop_zero] at this
  exact this
theorem ref_put {k : Nat} {l : List Int} (hl : l.length ≤ 1000) (hk : l.length + 9 < k) : saucierref01_Put.f k l = some (l ++ [sumI l % 256, sumI l / 256 % 256]) := by
  have hr := sum_range l
  unfold saucierref01_Put.f
  rw [ref_sum hl hk]
  simp only [Option.bind_some, List.nil_append, List.length_nil, List.length_append, List.length_cons]
  rw [if_pos (by omega), if_pos (by omega), if_pos (by omega)]
  have e1 : Int.tmod (sumI l) 256 % 256 = sumI l % 256 := by rw [Int.tmod_eq_emod_of_nonneg hr.1]; omega
  have e2 : IntKind.u16.wrap (Int.tdiv (sumI l) 256) % 256 = sumI l / 256 % 256 := by
    rw [Int.tdiv_eq_ediv_of_nonneg hr.1]
    have : IntKind.u16.wrap (sumI l / 256) = sumI l / 256 := by simp [IntKind.wrap, IntKind.bits, IntKind.signed]; omega
    rw [this]
  rw [e1, e2, List.append_assoc]
  rfl
theorem ref_cut {k : Nat} {l : List Int} (hw : ∀ x ∈ l, 0 ≤ x ∧ x ≤ 255) (hl : l.length ≤ 1000) (hk : l.length + 9 < k) : saucierref01_Cut.f k l = some (cutI l) := by
  unfold saucierref01_Cut.f cutI
  by_cases h2 : l.length < 2
  · rw [if_pos (by omega), if_pos h2]
  · have e : wrap64 ((l.length : Int) - 2) = ((l.length - 2 : Nat) : Int) := by unfold wrap64; omega
    have e2 : wrap64 (((l.length - 2 : Nat) : Int) + 1) = ((l.length - 1 : Nat) : Int) := by unfold wrap64; omega
    rw [if_neg (by omega), if_neg h2, e, e2, if_pos (by omega), if_pos (by omega)]
    rw [Int.toNat_natCast, Option.bind_some, ref_sum (by simp; omega) (by simp; omega)]
    simp only [Option.bind_some]
    rw [if_pos (by omega), if_pos (by omega), if_pos (by omega), rd_at (by omega), rd_at (by omega)]
    have hx := hw l[l.length - 2] (List.getElem_mem _)
    have hy := hw l[l.length - 1] (List.getElem_mem _)
    have hr := sum_range (l.take (l.length - 2))
    have w1 : wrap64 l[l.length - 2] = l[l.length - 2] := by unfold wrap64; omega
    have w2 : wrap64 l[l.length - 1] = l[l.length - 1] := by unfold wrap64; omega
    have w3 : wrap64 (256 * l[l.length - 1]) = 256 * l[l.length - 1] := by unfold wrap64; omega
    have w4 : wrap64 (l[l.length - 2] + 256 * l[l.length - 1]) = l[l.length - 2] + 256 * l[l.length - 1] := by unfold wrap64; omega
    have w5 : wrap64 (sumI (l.take (l.length - 2))) = sumI (l.take (l.length - 2)) := by unfold wrap64; omega
    rw [w1, w2, w3, w4, w5]
    have hz := next_zero (sumI (l.take (l.length - 2))) l[l.length - 2] l[l.length - 1] hr (by omega) (by omega)
    have hs : sumI l = nextI (nextI (sumI (l.take (l.length - 2))) l[l.length - 2]) l[l.length - 1] := by
      have e3 : l = l.take (l.length - 2) ++ [l[l.length - 2], l[l.length - 1]] := by
        conv => lhs; rw [← List.take_append_drop (l.length - 2) l]
        congr 1
        rw [List.drop_eq_getElem_cons (by omega), List.drop_eq_getElem_cons (by omega), List.drop_of_length_le (by omega)]
        congr 3
        omega
      conv => lhs; rw [e3]
      unfold sumI
      rw [List.foldl_append]
      rfl
    rw [← hs] at hz
    by_cases h0 : sumI l = 0
    · rw [if_pos (hz.1 h0), if_pos h0, if_pos (by simp; omega), List.nil_append]
    · rw [if_neg (fun h => h0 (hz.2 h)), if_neg h0]
theorem CrcTells : saucierlaw01_CrcTells.Pure := by
  intro l0 a1 a2 _ _ hw h1 h2
  refine ⟨2000, ?_⟩
  unfold saucierlaw01_CrcTells.f
  by_cases hl : (l0.length : Int) > 600
  · rw [if_pos hl]; rfl
  · have hw' : ∀ x ∈ l0, 0 ≤ x ∧ x ≤ 255 := fun x hx => bounds_u8 (hw x hx)
    rw [if_neg hl]
    simp only [Option.bind_some, List.nil_append, List.length_nil, Nat.zero_add]
    rw [if_pos (by omega), cut_f (by omega), ref_cut hw' (by omega) (by omega)]
    simp only [Option.bind_some, crc_Next.f]
    rw [ref_next _ (by omega)]
    simp only [Option.bind_some, if_true]
    rw [sum_f (by omega), ref_sum (by omega) (by omega)]
    simp only [Option.bind_some, if_true]
    rw [put_f (by omega), ref_put (by omega) (by omega)]
    simp only [Option.bind_some, saucierlow_Same.f, beq_self_eq_true, if_true, saucierlaw01_awake.f]
end Go.Proofs.Ytbhdelloinnlpaa.Pure
