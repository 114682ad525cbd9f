/- Of this session: a machine of its own, proved beside the model, and what the functions of the row come to on it; Lean checks all of it. -/
import Derived.Test.YtiaibplflmjohaaLimR3R
set_option linter.unusedVariables false
set_option linter.unusedSimpArgs false
namespace Go.Proofs
open Go Go.Abs
set_option linter.unusedVariables false
set_option linter.unusedSimpArgs false
set_option maxRecDepth 100000
/-! The rows of the table of AskLimits -/
def askN (f at_ many to : Nat) : AskA := ⟨f, at_, many, to, none, 0, 0, none, 0, 0⟩
def askW (f at_ many to : Nat) (id n c : Nat) : AskA := ⟨f, at_, many, to, some ⟨id, 0, none⟩, n, c, none, 0, 0⟩
def askB (f at_ many to : Nat) (id n c : Nat) : AskA := ⟨f, at_, many, to, none, 0, 0, some ⟨id, 0, none⟩, n, c⟩
def rows8 (at_ to N b1 b2 b3 : Nat) : List (AskA × Nat) :=
  [(askN 1 at_ N 0, 2000), (askN 2 at_ N 0, 2000), (askN 3 at_ N 0, 125), (askN 4 at_ N 0, 125), (askB 15 at_ N 0 b1 N N, 1968), (askW 16 at_ N 0 b2 N N, 123), (askW 23 at_ N to b3 1 1, 125), (askW 23 at_ 1 to b2 N N, 121)]
theorem rl1 (N to : Nat) : rightF 1 N 0 0 0 = (decide (1 ≤ N) && decide (N ≤ 2000)) := by
  rw [Bool.eq_iff_iff]; simp [rightF, kindF, listedF, tailF, manyF]; try omega
theorem rl2 (N to : Nat) : rightF 2 N 0 0 0 = (decide (1 ≤ N) && decide (N ≤ 2000)) := by
  rw [Bool.eq_iff_iff]; simp [rightF, kindF, listedF, tailF, manyF]; try omega
theorem rl3 (N to : Nat) : rightF 3 N 0 0 0 = (decide (1 ≤ N) && decide (N ≤ 125)) := by
  rw [Bool.eq_iff_iff]; simp [rightF, kindF, listedF, tailF, manyF]; try omega
theorem rl4 (N to : Nat) : rightF 4 N 0 0 0 = (decide (1 ≤ N) && decide (N ≤ 125)) := by
  rw [Bool.eq_iff_iff]; simp [rightF, kindF, listedF, tailF, manyF]; try omega
theorem rl5 (N to : Nat) : rightF 15 N 0 N 0 = (decide (1 ≤ N) && decide (N ≤ 1968)) := by
  rw [Bool.eq_iff_iff]; simp [rightF, kindF, listedF, tailF, manyF]; try omega
theorem rl6 (N to : Nat) : rightF 16 N 0 0 N = (decide (1 ≤ N) && decide (N ≤ 123)) := by
  rw [Bool.eq_iff_iff]; simp [rightF, kindF, listedF, tailF, manyF]; try omega
theorem rl7 (N to : Nat) : rightF 23 N to 0 1 = (decide (1 ≤ N) && decide (N ≤ 125)) := by
  rw [Bool.eq_iff_iff]; simp [rightF, kindF, listedF, tailF, manyF]; try omega
theorem rl8 (N to : Nat) : rightF 23 1 to 0 N = (decide (1 ≤ N) && decide (N ≤ 121)) := by
  rw [Bool.eq_iff_iff]; simp [rightF, kindF, listedF, tailF, manyF]; try omega
theorem rows8_law (at_ to N b1 b2 b3 : Nat) (hN : N ≤ 2100) : ∀ e ∈ rows8 at_ to N b1 b2 b3, rightF e.1.f e.1.many e.1.to e.1.bn e.1.wn = (decide (1 ≤ N) && decide (N ≤ e.2)) ∧ e.1.f < 256 ∧ e.1.many < 65536 ∧ e.1.bn + e.1.wn < 2 ^ 62 := by
  intro e he
  simp only [rows8, List.mem_cons, List.not_mem_nil, or_false] at he
  rcases he with rfl | rfl | rfl | rfl | rfl | rfl | rfl | rfl
  · exact ⟨rl1 N 0, by show 1 < 256; omega, by show N < 65536; omega, by show 0 + 0 < 2 ^ 62; omega⟩
  · exact ⟨rl2 N 0, by show 2 < 256; omega, by show N < 65536; omega, by show 0 + 0 < 2 ^ 62; omega⟩
  · exact ⟨rl3 N 0, by show 3 < 256; omega, by show N < 65536; omega, by show 0 + 0 < 2 ^ 62; omega⟩
  · exact ⟨rl4 N 0, by show 4 < 256; omega, by show N < 65536; omega, by show 0 + 0 < 2 ^ 62; omega⟩
  · exact ⟨rl5 N 0, by show 15 < 256; omega, by show N < 65536; omega, by show N + 0 < 2 ^ 62; omega⟩
  · exact ⟨rl6 N 0, by show 16 < 256; omega, by show N < 65536; omega, by show 0 + N < 2 ^ 62; omega⟩
  · exact ⟨rl7 N to, by show 23 < 256; omega, by show N < 65536; omega, by show 0 + 1 < 2 ^ 62; omega⟩
  · exact ⟨rl8 N to, by show 23 < 256; omega, by show 1 < 65536; omega, by show 0 + N < 2 ^ 62; omega⟩
theorem one5 (at_ N b1 : Nat) : rightF 5 0 0 N 0 = decide (N = 1) := by
  rw [Bool.eq_iff_iff]; simp [rightF, kindF, listedF, tailF, manyF]; omega
theorem one6 (N : Nat) : rightF 6 0 0 0 N = decide (N = 1) := by
  rw [Bool.eq_iff_iff]; simp [rightF, kindF, listedF, tailF, manyF]; omega
theorem short16 (s : Nat) : rightF 16 (s + 1) 0 0 s = false := by
  rw [Bool.eq_false_iff]; simp [rightF, kindF, listedF, tailF, manyF]; omega
theorem no3 : rightF 3 1 1 0 0 = false := by decide
theorem no6 : rightF 6 1 0 0 1 = false := by decide
end Go.Proofs
