/- AskBits: bits packed and unpacked are as they were, bytes unpacked and packed too. More than the law's bounds: let by. -/
import Derived.Test.YtiaibplflmjohaaPx26
import Derived.Test.YtiaibplflmjohaaGAskP
import Derived.OpenShut
namespace Go.Proofs.Ytiaibplflmjohaa.Pure
open Go.RowKit Go.Proofs.Ytiaibplflmjohaa.P Go.Proofs.YtiaibplflmjohaaW.PrintWords Go.Proofs.YtiaibplflmjohaaW.PrintLast Go.Proofs.Ytiaibplflmjohaa.GAskP
set_option linter.unusedVariables false
theorem bits_l0 (x : List Bool) (hl : x.length ≤ 2100) (d : Nat) : ∀ (k i : Nat), i + d = x.length → d < k → saucierlow_Bits.l0 k x x (x.length : Int) (i : Int) = some true := by
  induction d with
  | zero =>
    intro k i hi hk
    obtain ⟨k, rfl⟩ : ∃ m, k = m + 1 := ⟨k - 1, by omega⟩
    rw [saucierlow_Bits.l0, if_neg (by omega)]
  | succ d ih =>
    intro k i hi hk
    obtain ⟨k, rfl⟩ : ∃ m, k = m + 1 := ⟨k - 1, by omega⟩
    have e : wrap64 ((i : Int) + 1) = ((i + 1 : Nat) : Int) := by unfold wrap64; omega
    rw [saucierlow_Bits.l0, if_pos (by omega), if_pos (by omega), if_pos (by omega), if_pos (by omega), if_neg (by simp), e]
    exact ih k (i + 1) (by omega) (by omega)
theorem AskBits_l0 (x1 : List Int) (hx : x1.length ≤ 300) (hb : ∀ x ∈ x1, 0 ≤ x ∧ x < 256) (m : Nat) (hm : m ≤ 100) (d : Nat) : ∀ (k i : Nat), i + d = m → d + 5000 < k →
    saucierlaw02_AskBits.l0 k x1 (List.replicate m false) ((List.replicate m false).length : Int) (i : Int) = some true := by
  induction d with
  | zero =>
    intro k i hi hk
    obtain ⟨k, rfl⟩ : ∃ m, k = m + 1 := ⟨k - 1, by omega⟩
    have hu := unp_len x1
    rw [saucierlaw02_AskBits.l0, if_neg (by simp; omega), unp_up (by omega) (by omega), Option.bind_some, pack_f _ (by omega) (by omega), Option.bind_some, pk_unp x1 hb]
    simp only [Option.bind_some, saucierlow_Same.f, beq_self_eq_true, if_true, saucierlaw02_awake.f]
  | succ d ih =>
    intro k i hi hk
    obtain ⟨k, rfl⟩ : ∃ m, k = m + 1 := ⟨k - 1, by omega⟩
    have e : wrap64 ((i : Int) + 1) = ((i + 1 : Nat) : Int) := by unfold wrap64; omega
    have hr : rdOf false (List.replicate m false) (i : Int) = false := by
      simp only [rdOf, Int.toNat_natCast, List.getD_eq_getElem?_getD, List.getElem?_replicate]
      split <;> rfl
    rw [saucierlaw02_AskBits.l0, if_pos (by simp; omega), if_pos (by omega), if_pos (by simp; omega), hr, if_neg (by simp), e]
    exact ih k (i + 1) (by omega) (by omega)
theorem AskBits : saucierlaw02_AskBits.Pure := by
  intro l0 l1 _ _ _ _ _ h1
  refine ⟨20000, ?_⟩
  have hb : ∀ x ∈ l1, 0 ≤ x ∧ x < 256 := fun x hx => by have := bounds_u8 (h1 x hx); omega
  unfold saucierlaw02_AskBits.f
  by_cases hl : (l0.length : Int) > 2100
  · rw [if_pos hl]; rfl
  · rw [if_neg hl]
    by_cases hk : (l1.length : Int) > 300
    · rw [decide_eq_true hk]; rfl
    · rw [decide_eq_false hk, saucierlaw02_AskBits.j0, if_neg (by simp), pack_f _ (by omega) (by omega), Option.bind_some]
      have hp := pk_len l0
      have hu := unp_len (pk l0)
      have e7 : wrap64 ((l0.length : Int) + 7) = (l0.length : Int) + 7 := by unfold wrap64; omega
      have e8 : wrap64 (Int.tdiv ((l0.length : Int) + 7) 8) = (((l0.length + 7) / 8 : Nat) : Int) := by
        rw [Int.tdiv_eq_ediv_of_nonneg (by omega)]
        unfold wrap64
        omega
      have e9 : wrap64 (8 * ((pk l0).length : Int)) = 8 * ((pk l0).length : Int) := by unfold wrap64; omega
      rw [unp_up (by omega) (by omega), Option.bind_some, e7, e8, e9, if_pos (by omega), if_pos (by omega), if_pos (by omega), if_pos (by omega), unp_pk, Int.toNat_natCast, List.take_left' rfl]
      have hs : saucierlow_Bits.f 19999 l0 l0 = some true := by
        unfold saucierlow_Bits.f
        rw [if_pos rfl]
        exact bits_l0 l0 (by omega) l0.length 19999 0 (by omega) (by omega)
      rw [hs, Option.bind_some, saucierlaw02_AskBits.j1, if_neg (by simp), if_pos (by omega), if_pos (by simp; omega), Option.bind_some, Int.toNat_natCast, List.drop_left' rfl]
      exact AskBits_l0 l1 (by omega) hb (8 * ((l0.length + 7) / 8) - l0.length) (by omega) (8 * ((l0.length + 7) / 8) - l0.length) 19998 0 (by omega) (by omega)
end Go.Proofs.Ytiaibplflmjohaa.Pure
