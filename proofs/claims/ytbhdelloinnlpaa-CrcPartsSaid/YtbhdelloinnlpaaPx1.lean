/- The machine side of the laws of this seat, printed by a program of this session (wip/tools/mkprint.py) out of the kit print and of contracts proved by hand; Lean checks all of it. -/
import Derived.Test.YtbhdelloinnlpaaPx0
import Derived.Test.YtbhdelloinnlpaaGCrcB
namespace Go.Proofs.Ytbhdelloinnlpaa.P
open Go.RowKit Go.Proofs.YtbhdelloinnlpaaW.PrintWords Go.Proofs.YtbhdelloinnlpaaW.PrintLast Go.Proofs.YtbhdelloinnlpaaW.PrintMore
attribute [local go_sem] max2_int min2_int max_two min_two max_three min_three max_four min_four   -- for this text's walks alone
set_option linter.unusedVariables false
set_option linter.unusedSimpArgs false

-- GIVEN Derived.Test.YtbhdelloinnlpaaGCrcB
/-- One byte more, by the table of half bytes. -/
def crc_Next.f (a0 : Int) (a1 : Int) : Option (Int) := some (GCrc.nextI a0 a1)
theorem crc_Next.calls (a0 : Int) (a1 : Int) (r : Int) (w : World) (h : crc_Next.f a0 a1 = some r) :
    Calls Try.prog 13 #[.int .u16 a0, .int .u8 a1] w fun e w' => e = .returned (.int .u16 r) ∧ Below w.heap.size w w' := by
  obtain rfl := Option.some.inj h
  exact GCrc.Next_any a0 a1 w
/-- The sum of bytes. -/
def crc_Sum.f (l0 : List Int) : Option (Int) := if l0.length ≤ 140737488351232 then some (l0.foldl GCrc.nextI 65535) else none
theorem crc_Sum.calls (A0 : Option Addr) (c0 : Nat) (l0 : List Int) (r : Int) (w : World) (hr0 : Kd.C (Kd.int .u8) w A0 l0.length l0) (hc0 : l0.length ≤ c0) (h : crc_Sum.f l0 = some r) :
    Calls Try.prog 9 #[.slice A0 l0.length c0] w fun e w' => e = .returned (.int .u16 r) ∧ Below w.heap.size w w' := by
  unfold crc_Sum.f at h
  split at h
  · rename_i hl
    obtain rfl := Option.some.inj h
    exact GCrc.Sum_any A0 c0 l0 w hr0 hc0 hl
  · cases h

end Go.Proofs.Ytbhdelloinnlpaa.P
