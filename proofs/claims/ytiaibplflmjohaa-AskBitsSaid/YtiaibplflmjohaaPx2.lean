/- The machine side of the laws of this seat, printed by a program of this session (wip/tools/mkprint.py) out of the kit print and of contracts proved by hand; Lean checks all of it. -/
import Derived.Test.YtiaibplflmjohaaPx0
import Derived.Test.YtiaibplflmjohaaGAskR
namespace Go.Proofs.Ytiaibplflmjohaa.P
open Go.RowKit Go.Proofs.YtiaibplflmjohaaW.PrintWords Go.Proofs.YtiaibplflmjohaaW.PrintLast Go.Proofs.YtiaibplflmjohaaW.PrintMore
attribute [local go_sem] max2_int min2_int max_two min_two max_three min_three max_four min_four   -- for this text's walks alone
set_option linter.unusedVariables false
set_option linter.unusedSimpArgs false

-- GIVEN Derived.Test.YtiaibplflmjohaaGAskR
/-- Is a request right, by the table. -/
def ask_Right.f (a0_0 : Int) (a0_1 : Int) (a0_2 : Int) (a0_3 : Int) (l0_4 : List Int) (l0_5 : List Bool) : Option (Bool) := some (GAsk.rightB a0_0 a0_2 a0_3 l0_4.length l0_5.length)
theorem ask_Right.calls (a0_0 : Int) (a0_1 : Int) (a0_2 : Int) (a0_3 : Int) (A0_4 : Option Addr) (c0_4 : Nat) (l0_4 : List Int) (A0_5 : Option Addr) (c0_5 : Nat) (l0_5 : List Bool) (r : Bool) (w : World) (hr0_4 : Kd.C (Kd.int .u16) w A0_4 l0_4.length l0_4) (hc0_4 : l0_4.length ≤ c0_4) (hr0_5 : Kd.C Kd.bool w A0_5 l0_5.length l0_5) (hc0_5 : l0_5.length ≤ c0_5) (h : ask_Right.f a0_0 a0_1 a0_2 a0_3 l0_4 l0_5 = some r) :
    Calls Try.prog 13 #[.agg #[.int .u8 a0_0, .int .u16 a0_1, .int .u16 a0_2, .int .u16 a0_3, .slice A0_4 l0_4.length c0_4, .slice A0_5 l0_5.length c0_5]] w fun e w' => e = .returned (.bool r) ∧ Below w.heap.size w w' := by
  obtain rfl := Option.some.inj h
  exact GAsk.Right_any a0_0 a0_1 a0_2 a0_3 A0_4 l0_4.length c0_4 A0_5 l0_5.length c0_5 w

end Go.Proofs.Ytiaibplflmjohaa.P
