import Derived.Test.YtbhdelloinnlpaaPx3
import Derived.Test.YtbhdelloinnlpaaGCrcU
namespace Go.Proofs.Ytbhdelloinnlpaa.GCrcV
open Go.RowKit Go.Proofs.Ytbhdelloinnlpaa.P Go.Proofs.YtbhdelloinnlpaaW.PrintWords Go.Proofs.YtbhdelloinnlpaaW.PrintLast Go.Proofs.Ytbhdelloinnlpaa.GCrcT Go.Proofs.Ytbhdelloinnlpaa.GCrc
theorem sum_f {l : List Int} (h : l.length ≤ 140737488351232) : crc_Sum.f l = some (sumI l) := by
  unfold crc_Sum.f sumI
  rw [if_pos h]
theorem put_f {l : List Int} (h : l.length ≤ 140737488351232) : crc_Put.f l = some (l ++ [sumI l % 256, sumI l / 256 % 256]) := by
  unfold crc_Put.f slices_Clone_byte_byte.f
  rw [sum_f h, Option.bind_some, if_pos (by omega), Option.bind_some, Option.bind_some, if_pos (by simp; omega)]
/-- What is cut, and its error. -/
def cutI (l : List Int) : List Int × Int := if l.length < 2 then ([], 10) else if sumI l = 0 then (l.take (l.length - 2), 0) else ([], 11)
theorem cut_f {l : List Int} (h : l.length ≤ 140737488351232) : crc_Cut.f l = some (cutI l) := by
  unfold crc_Cut.f cutI slices_Clone_byte_byte.f
  have e : wrap64 ((l.length : Int) - 2) = (l.length : Int) - 2 := by unfold wrap64; omega
  rw [e]
  by_cases h2 : l.length < 2
  · rw [if_pos (by omega), if_pos h2]
  · rw [if_neg (by omega), if_neg h2, sum_f h, Option.bind_some]
    by_cases h0 : sumI l = 0
    · rw [if_pos h0, if_pos h0, if_pos (by omega), if_pos (by omega)]
      have e2 : ((l.length : Int) - 2).toNat = l.length - 2 := by omega
      rw [e2, if_pos (by simp; omega)]
      rfl
    · rw [if_neg h0, if_neg h0]
theorem rd_at {l : List Int} {i : Nat} (h : i < l.length) : rd l (i : Int) = l[i] := by simp [rd, h]
end Go.Proofs.Ytbhdelloinnlpaa.GCrcV
