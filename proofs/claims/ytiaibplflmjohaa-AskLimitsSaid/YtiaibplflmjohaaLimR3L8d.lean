/- Of this session: a machine of its own, proved beside the model, and what the functions of the row come to on it; Lean checks all of it. -/
import Derived.Test.YtiaibplflmjohaaLimR3L8c
set_option linter.unusedVariables false
set_option linter.unusedSimpArgs false
namespace Go.Proofs
open Go Go.Abs
set_option linter.unusedVariables false
set_option linter.unusedSimpArgs false
set_option maxRecDepth 100000
attribute [local irreducible] letK obind condB AWc AWloop Ev

set_option maxHeartbeats 2000000 in
theorem limits_ev (at_ to many word : Nat) (on : Bool) (hm : many < 65536) (H : Heap) : Ev Try.prog orcS 8 #[.int .u16 at_, .int .u16 to, .int .u16 many, .bool on, .int .u16 word] H fun v _ => v = .bool true := by
  refine ev8 _ _ _ _ _ ?_
  unfold W8
  obtain ⟨N, hN, hNe⟩ : ∃ N : Nat, N ≤ 2100 ∧ (many : Int).tmod 2101 = N := ⟨many % 2101, by omega, by rw [Int.tmod_eq_emod_of_nonneg (by omega)]; omega⟩
  have cv : ∀ (n : Nat) H, n < 65536 → aconvert Try.prog 3 22 (.int .i64 n) H = some (.int .u16 n) := fun n H h => by
    rw [aconvert_int _ _ under_3 under_22, IntWalk.u16_in _ ⟨by omega, by omega⟩]
  have rem : ∀ x y, abin Try.prog .rem 3 x y (.int .i64 many) (.int .i64 2101) = some (.int .i64 N) := fun x y => by rw [abin_rem (h := by decide), hNe]
  simp only [aconvert_int _ _ under_22 under_3, IntWalk.i64_in _ (⟨by omega, by omega⟩ : -9223372036854775808 ≤ (many : Int) ∧ (many : Int) ≤ 9223372036854775807), obind_some', rem,
    makeS_one elem_24 zero_4 rfl (by omega : N < 2 ^ 47) (by omega), makeS_one elem_23 zero_22 rfl (by omega : N < 2 ^ 47) (by omega)]
  refine letK_intro fun h3 e3 => letK_intro fun h5 e5 => ?_
  have n3 : h3.n = H.n + 1 := by rw [e3]; rfl
  have g1 : h5.get H.n = some (.cells (List.replicate N (.bool false)) .fix) := by rw [e5, e3]; exact get_push_old (get_push_self _ _)
  have g2 : h5.get h3.n = some (.cells (List.replicate N (.int .u16 0)) .fix) := by rw [e5]; exact get_push_self _ _
  refine loop1 (hon := ⟨rfl, rfl⟩) (hwd := ⟨rfl, rfl⟩) (by omega : H.n ≠ h3.n) (by omega) g1 g2 (by simp) (by simp) (n0 := 0) ⟨by omega, by omega⟩ (FS8_mk ..) ?_
  clear g1 g2 e3 e5 h5
  rintro ts h6 ⟨s27, f⟩ ⟨c1, g1⟩ ⟨c2, g2⟩
  rw [blockK_hit, seqK_normal]
  refine LS8_1111 f fun d => ?_
  unfold WS8_1111
  have mn : ∃ s : Nat, s ≤ N ∧ s ≤ 200 ∧ (if (200 : Int) < (N : Int) then (200 : Int) else (N : Int)) = (s : Int) := by
    by_cases h : 200 < N
    · exact ⟨200, by omega, by omega, by rw [if_pos (by omega)]; rfl⟩
    · exact ⟨N, by omega, by omega, by rw [if_neg (by omega)]⟩
  obtain ⟨s, hs1, hs2, hse⟩ := mn
  simp only [minV_int, hse, obind_some', aslice_hi elem_23 g2 rfl hs1, cv N _ (by omega), bN1, bN2, bN3, bN4, bB15, bW16, bR2000, bR125, bR1968, bR123, bS1]
  refine letK_intro fun h22 e22 => ?_
  rw [bW23 at_ N to h6.n 1, obind_some', bR125 (askW 23 at_ N to h6.n 1 1), obind_some', bW23' at_ to h3.n N, obind_some', bR121 (askW 23 at_ 1 to h3.n N N), obind_some']
  rw [bS (askN 1 at_ N 0, 2000) (askN 2 at_ N 0, 2000) (askN 3 at_ N 0, 125) (askN 4 at_ N 0, 125) (askB 15 at_ N 0 H.n N N, 1968) (askW 16 at_ N 0 h3.n N N, 123) (askW 23 at_ N to h6.n 1 1, 125) (askW 23 at_ 1 to h3.n N N, 121), obind_some']
  refine letK_intro fun h28 e28 => ?_
  simp only [lenOf1_slc _ _ _ _ _ _ _ elem_49, obind_some']
  have g4 : h28.get h22.n = some (.cells ((rows8 at_ to N H.n h3.n h6.n).flatMap rowC) .fix) := by rw [e28]; exact get_push_self _ _
  refine loop2 (rows8_law at_ to N H.n h3.n h6.n hN) rfl g4 (FS8_mk ..) ?_
  clear f g4 e28 e22 g1 g2
  rintro ts h s90 f p
  rw [blockK_hit, seqK_normal]
  exact limits_tail hN hs1 hs2 f
end Go.Proofs
