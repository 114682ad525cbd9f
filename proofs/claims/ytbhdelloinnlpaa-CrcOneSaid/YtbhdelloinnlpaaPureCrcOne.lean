/- CrcOne: of any two sums and any two bytes, unlike sums stay unlike under one byte, and unlike bytes lead to unlike sums. No condition. -/
import Derived.Test.YtbhdelloinnlpaaPx6
import Derived.Test.YtbhdelloinnlpaaGCrcU
import Derived.OpenShut
namespace Go.Proofs.Ytbhdelloinnlpaa.Pure
open Go.RowKit Go.Proofs.Ytbhdelloinnlpaa.P Go.Proofs.YtbhdelloinnlpaaW.PrintWords Go.Proofs.YtbhdelloinnlpaaW.PrintLast Go.Proofs.Ytbhdelloinnlpaa.GCrcT
theorem CrcOne : saucierlaw01_CrcOne.Pure := by
  intro a0 a1 a2 a3 h0 h1 h2 h3
  have h0 := bounds_u16 h0
  have h1 := bounds_u16 h1
  have h2 := bounds_u8 h2
  have h3 := bounds_u8 h3
  have e1 := next_left_i (s := a0) (t := a1) (c := a2) (by omega) (by omega)
  have e2 := next_right_i (s := a0) (c := a2) (d := a3) (by omega) (by omega)
  simp only [saucierlaw01_CrcOne.f, crc_Next.f, saucierlaw01_awake.f, Option.bind_some]
  rw [if_pos, if_pos]
  · rw [beq_iff_eq, Bool.eq_iff_iff, beq_iff_eq, beq_iff_eq]; exact e2
  · rw [beq_iff_eq, Bool.eq_iff_iff, beq_iff_eq, beq_iff_eq]; exact e1
end Go.Proofs.Ytbhdelloinnlpaa.Pure
