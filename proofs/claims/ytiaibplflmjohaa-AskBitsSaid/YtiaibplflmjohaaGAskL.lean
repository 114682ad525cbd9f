import Derived.Test.YtiaibplflmjohaaGAsk
import Derived.Outline
namespace Go.Proofs.Ytiaibplflmjohaa.GAsk
open Go.RowKit Go.Proofs.YtiaibplflmjohaaW.PrintWords
set_option linter.unusedVariables false
set_option linter.unusedSimpArgs false
theorem heap_at (w : World) (o : Obj) (n : Nat) (h : n = w.heap.size) : (w.alloc o).heap[n]? = some o := by subst h; exact heap_alloc_new w o
theorem heap_old (w : World) (o : Obj) (n : Nat) {p : Obj} (h : w.heap[n]? = some p) : (w.alloc o).heap[n]? = some p := blk_below h (below_alloc (Below.refl _ _) o)
def listedB (n most : Int) : Bool := if most = 0 then n == 0 else decide (1 ≤ n) && decide (n ≤ most)
set_option maxHeartbeats 800000 in
theorem listed_any (n most : Int) (w : World) : Calls Try.prog 34 #[.int .i64 n, .int .i64 most] w fun e w' => e = .returned (.bool (listedB n most)) ∧ w = w' := by
  unfold listedB
  by_cases h : most = 0
  · have h1 : (most == 0) = true := by simpa using h
    rw [if_pos h]
    clear h
    go_enter Try.func34, Try.ntmps34
    go_wp2
    go_ret
    exact ⟨rfl, rfl⟩
  · have h1 : (most == 0) = false := by simpa using h
    rw [if_neg h]
    clear h
    by_cases h2 : 1 ≤ n
    · have h3 : decide (1 ≤ n) = true := decide_eq_true h2
      rw [h3]
      clear h2
      go_enter Try.func34, Try.ntmps34
      go_wp2
      go_ret
      exact ⟨by simp, rfl⟩
    · have h3 : decide (1 ≤ n) = false := decide_eq_false h2
      rw [h3]
      clear h2
      go_enter Try.func34, Try.ntmps34
      go_wp2
      go_ret
      exact ⟨by simp, rfl⟩
def manyI (kr : Int) (ko : Bool) (nb nw : Nat) : Int := if kr > 0 then -1 else if ko then 0 else wrap64 ((nb : Int) + (nw : Int))
set_option maxHeartbeats 800000 in
theorem many_any (kr kb kw : Int) (ko : Bool) (f at_ many to_ : Int) (Aw : Option Addr) (nw cw : Nat) (Ab : Option Addr) (nb cb : Nat) (w : World) :
    Calls Try.prog 35 #[.agg #[.int .i64 kr, .int .i64 kb, .int .i64 kw, .bool ko], .agg #[.int .u8 f, .int .u16 at_, .int .u16 many, .int .u16 to_, .slice Aw nw cw, .slice Ab nb cb]] w fun e w' => e = .returned (.int .i64 (manyI kr ko nb nw)) ∧ Below w.heap.size w w' := by
  unfold manyI
  by_cases h : kr > 0
  · rw [if_pos h]
    have h1 : decide (0 < kr) = true := decide_eq_true h
    clear h
    go_enter Try.func35, Try.ntmps35
    go_wp2
    go_ret
    exact ⟨rfl, by repeat (first | exact Below.refl _ _ | apply below_drew | apply below_alloc)⟩
  · rw [if_neg h]
    have h1 : decide (0 < kr) = false := decide_eq_false h
    clear h
    cases ko
    · go_enter Try.func35, Try.ntmps35
      go_wp2
      go_ret
      exact ⟨by simp, by repeat (first | exact Below.refl _ _ | apply below_drew | apply below_alloc)⟩
    · go_enter Try.func35, Try.ntmps35
      go_wp2
      go_ret
      exact ⟨by simp, by repeat (first | exact Below.refl _ _ | apply below_drew | apply below_alloc)⟩
end Go.Proofs.Ytiaibplflmjohaa.GAsk
