import Derived.Test.YtbhdelloinnlpaaProg
import Derived.Test.YtbhdelloinnlpaaWWords
import Derived.WalkKit
import Derived.Outline
import Derived.KernelRfl
import Derived.Below
import Derived.Tactics
namespace Go.Proofs.Ytbhdelloinnlpaa.GCrc
open Go.RowKit Go.Proofs.YtbhdelloinnlpaaW.PrintWords
set_option linter.unusedVariables false
set_option linter.unusedSimpArgs false

/-- one bit -/
def st (x : Int) : Int := Go.bits .xor .u16 (x / 2) (IntKind.u16.wrap (Go.bits .and .u16 x 1 * 40961))
def stN : Nat → Int → Int
  | 0, x => x
  | k + 1, x => st (stN k x)
def nib (j : Nat) : Int := stN 4 j
def tabI (i : Nat) : List Int := (List.range 16).map fun j => if j < i then nib j else 0
def tab (i : Nat) : Array Value := ((tabI i).map fun x => Value.int .u16 x).toArray
theorem tabI_set : ∀ i : Fin 16, (tabI i.val).set i.val (nib i.val) = tabI (i.val + 1) := by decide +kernel
theorem tab_set (i : Nat) (h : i < 16) : (tab i).setIfInBounds i (.int .u16 (nib i)) = tab (i + 1) := by
  have := tabI_set ⟨i, h⟩
  simp only at this
  unfold tab
  rw [← this]
  simp
theorem tabI_at : ∀ i : Fin 16, (tabI i.val)[i.val]? = some 0 := by decide +kernel
theorem tab_at (k : Nat) (h : k < 16) : (tab k)[k]? = some (.int .u16 0) := by
  have := tabI_at ⟨k, h⟩
  simp only at this
  unfold tab
  simp [this]
theorem tabI_16 : tabI 16 = [0, 52225, 55297, 5120, 61441, 15360, 10240, 58369, 40961, 27648, 30720, 46081, 20480, 39937, 34817, 17408] := by decide +kernel
theorem tab_16 : tab 16 = #[Value.int .u16 0, Value.int .u16  52225, Value.int .u16  55297, Value.int .u16  5120, Value.int .u16  61441, Value.int .u16  15360, Value.int .u16  10240, Value.int .u16  58369, Value.int .u16  40961, Value.int .u16  27648, Value.int .u16  30720, Value.int .u16  46081, Value.int .u16  20480, Value.int .u16  39937, Value.int .u16  34817, Value.int .u16  17408] := by unfold tab; rw [tabI_16]; rfl
theorem tab_size (i : Nat) : (tab i).size = 16 := by simp [tab, tabI]

set_option maxHeartbeats 400000 in
theorem halves_any (w : World) :
    Calls Try.prog 26 #[] w fun e w' => e = .returned (.agg (tab 16)) ∧ Below w.heap.size w w' := by
  have T0 : tab 0 = #[Value.int IntKind.u16 0, Value.int IntKind.u16 0, Value.int IntKind.u16 0, Value.int IntKind.u16 0, Value.int IntKind.u16 0, Value.int IntKind.u16 0, Value.int IntKind.u16 0, Value.int IntKind.u16 0, Value.int IntKind.u16 0, Value.int IntKind.u16 0, Value.int IntKind.u16 0, Value.int IntKind.u16 0, Value.int IntKind.u16 0, Value.int IntKind.u16 0, Value.int IntKind.u16 0, Value.int IntKind.u16 0] := by rfl
  have H0 := Aside0.mk T0
  clear T0
  go_enter Try.func26, Try.ntmps26
  go_wp2
  rw [← H0.out]
  go_loopw [5] (fun i wr => ∃ k : Nat, k ≤ 16 ∧ i = .int .i64 k ∧ wr = (w.alloc (.cells (tab 0) 49)).alloc (.cells (tab k) 49)) (fun i _ => 16 - (intOf i).toNat)
  case atStart => exact ⟨0, by omega, rfl, rfl⟩
  case round =>
    obtain ⟨k, hk, rfl, rfl⟩ := hrel
    by_cases hlt : k < 16
    · go_wp2
      go_loop [3, 10] (fun x i => ∃ m : Nat, m ≤ 4 ∧ i = .int .i64 m ∧ x = .int .u16 (stN m k)) (fun _ i => 4 - (intOf i).toNat)
      case atStart => exact ⟨0, by omega, rfl, rfl⟩
      case round =>
        obtain ⟨m, hm, rfl, rfl⟩ := hrel
        by_cases hlm : m < 4
        · have hst : stN (m + 1) k = Go.bits .xor .u16 (stN m k / 2) (IntKind.u16.wrap (Go.bits .and .u16 (stN m k) 1 * 40961)) := rfl
          have Hst := Aside0.mk hst
          clear hst
          go_wp2
          go_round
          case rel => exact ⟨m + 1, by omega, by go_num, by rw [Hst.out]⟩
          case measure => simp [intOf]; omega
        · obtain rfl : m = 4 := by omega
          have hcell := tab_at k hlt
          go_wp2
          go_roundw
          case rel => exact ⟨k + 1, by omega, by go_num, by rw [← tab_set k hlt]; rfl⟩
          case measure => simp [intOf]; omega
    · obtain rfl : k = 16 := by omega
      rw [tab_16] at *
      rw [H0.out]
      go_wp2
      exact bodyPost_ret (v := .agg (tab 16)) (by rw [tab_16]; simp [results, Try.results26, go_sem]) rfl ⟨rfl, ((Below.refl _ _).alloc (Nat.le_refl _) _).alloc (by simp) _⟩

end Go.Proofs.Ytbhdelloinnlpaa.GCrc
