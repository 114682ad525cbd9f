/- CrcParts: the sum of any bytes (up to 300; more are let by), cut anywhere, is the first part's sum carried on by the others; with its own sum behind it, it is 0. No other condition. -/
import Derived.Test.YtbhdelloinnlpaaPx6
import Derived.Test.YtbhdelloinnlpaaGCrcV
import Derived.OpenShut
namespace Go.Proofs.Ytbhdelloinnlpaa.Pure
open Go.RowKit Go.Proofs.Ytbhdelloinnlpaa.P Go.Proofs.YtbhdelloinnlpaaW.PrintWords Go.Proofs.YtbhdelloinnlpaaW.PrintLast Go.Proofs.Ytbhdelloinnlpaa.GCrcT Go.Proofs.Ytbhdelloinnlpaa.GCrc Go.Proofs.Ytbhdelloinnlpaa.GCrcV
theorem CrcParts_loop (x0 x25 : List Int) (hx : x0.length ≤ 300) (hy : x25.length ≤ 300) (d : Nat) : ∀ (k i : Nat) (s : Int), i + d = x25.length → d < k → (x25.drop i).foldl nextI s = sumI x0 →
    saucierlaw01_CrcParts.l0 k x0 s x25 (x25.length : Int) (i : Int) = some true := by
  induction d with
  | zero =>
    intro k i s hi hk hs
    obtain ⟨k, rfl⟩ : ∃ m, k = m + 1 := ⟨k - 1, by omega⟩
    rw [List.drop_of_length_le (by omega), List.foldl_nil] at hs
    simp only [saucierlaw01_CrcParts.l0]
    rw [if_neg (by omega), sum_f (by omega), Option.bind_some, if_pos hs, put_f (by omega), Option.bind_some, sum_f (by simp; omega), Option.bind_some, sum_put, if_pos rfl]
    rfl
  | succ d ih =>
    intro k i s hi hk hs
    obtain ⟨k, rfl⟩ : ∃ m, k = m + 1 := ⟨k - 1, by omega⟩
    simp only [saucierlaw01_CrcParts.l0]
    rw [if_pos (by omega), if_pos (by omega), if_pos (by omega)]
    unfold crc_Next.f
    rw [Option.bind_some]
    have e : wrap64 ((i : Int) + 1) = ((i + 1 : Nat) : Int) := by unfold wrap64; omega
    rw [e]
    refine ih k (i + 1) _ (by omega) (by omega) ?_
    rw [List.drop_eq_getElem_cons (by omega)] at hs
    simp only [List.foldl_cons] at hs
    have : rd x25 (i : Int) = x25[i] := by
      have : i < x25.length := by omega
      simp [rd, this]
    rw [this]
    exact hs
theorem CrcParts : saucierlaw01_CrcParts.Pure := by
  intro l0 a1 _ _ hw h1
  have h1 := bounds_u16 h1
  refine ⟨302, ?_⟩
  unfold saucierlaw01_CrcParts.f
  by_cases hl : (l0.length : Int) > 300
  · rw [if_pos hl]; rfl
  · rw [if_neg hl]
    have e1 : wrap64 ((l0.length : Int) + 1) = (l0.length : Int) + 1 := by unfold wrap64; omega
    have e2 : wrap64 a1 = a1 := by unfold wrap64; omega
    rw [e1, e2]
    obtain ⟨c, hc⟩ : ∃ c, c = Int.tmod a1 ((l0.length : Int) + 1) := ⟨_, rfl⟩
    rw [← hc]
    have hc0 : 0 ≤ c := by rw [hc]; exact Int.tmod_nonneg _ (by omega)
    have hc1 : c < (l0.length : Int) + 1 := by rw [hc]; exact Int.tmod_lt_of_pos _ (by omega)
    rw [if_neg (by omega), if_pos hc0, if_pos (by omega), sum_f (by simp; omega), Option.bind_some]
    refine CrcParts_loop l0 (l0.drop c.toNat) (by omega) (by simp; omega) (l0.drop c.toNat).length 302 0 _ (by omega) (by simp; omega) ?_
    rw [List.drop_zero]
    unfold sumI
    rw [← List.foldl_append, List.take_append_drop]
end Go.Proofs.Ytbhdelloinnlpaa.Pure
