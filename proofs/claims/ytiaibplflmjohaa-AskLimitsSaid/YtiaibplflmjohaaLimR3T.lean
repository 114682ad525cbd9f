/- Of this session: a machine of its own, proved beside the model, and what the functions of the row come to on it; Lean checks all of it. -/
import Derived.Test.YtiaibplflmjohaaAbsAD
import Derived.KernelRfl
import Derived.Test.YtiaibplflmjohaaProg
import Derived.Test.YtiaibplflmjohaaChecked
set_option linter.unusedVariables false
set_option linter.unusedSimpArgs false
namespace Go.Proofs
open Go Go.Abs
set_option linter.unusedVariables false
set_option maxRecDepth 100000
/-- What awake answers is told from elsewhere. -/
def orcS : Orc := oneOrc 10 (.bool true)
@[simp] theorem isAgg_3 : isAggT Try.prog 3 = some false := by kernel_rfl
@[simp] theorem size_3 : sizeT Try.prog 3 = some 1 := by kernel_rfl
@[simp] theorem zero_3 : zeroT Try.prog 3 = some (.int .i64 0) := by kernel_rfl
@[simp] theorem isInt_3 : isIntT Try.prog 3 = some true := by kernel_rfl
@[simp] theorem notIface_3 : notIface Try.prog 3 = true := by kernel_rfl
@[simp] theorem under_3 : Try.prog.underlying 3 = some (.int .i64) := by kernel_rfl
@[simp] theorem isAgg_4 : isAggT Try.prog 4 = some false := by kernel_rfl
@[simp] theorem size_4 : sizeT Try.prog 4 = some 1 := by kernel_rfl
@[simp] theorem zero_4 : zeroT Try.prog 4 = some (.bool false) := by kernel_rfl
@[simp] theorem isInt_4 : isIntT Try.prog 4 = some false := by kernel_rfl
@[simp] theorem notIface_4 : notIface Try.prog 4 = true := by kernel_rfl
@[simp] theorem under_4 : Try.prog.underlying 4 = some .bool := by kernel_rfl
@[simp] theorem isAgg_5 : isAggT Try.prog 5 = some false := by kernel_rfl
@[simp] theorem size_5 : sizeT Try.prog 5 = some 1 := by kernel_rfl
@[simp] theorem zero_5 : zeroT Try.prog 5 = some (.int .u8 0) := by kernel_rfl
@[simp] theorem isInt_5 : isIntT Try.prog 5 = some true := by kernel_rfl
@[simp] theorem notIface_5 : notIface Try.prog 5 = true := by kernel_rfl
@[simp] theorem under_5 : Try.prog.underlying 5 = some (.int .u8) := by kernel_rfl
@[simp] theorem isAgg_9 : isAggT Try.prog 9 = some false := by kernel_rfl
@[simp] theorem size_9 : sizeT Try.prog 9 = some 1 := by kernel_rfl
@[simp] theorem zero_9 : zeroT Try.prog 9 = some (.string ⟨#[]⟩) := by kernel_rfl
@[simp] theorem isInt_9 : isIntT Try.prog 9 = some false := by kernel_rfl
@[simp] theorem notIface_9 : notIface Try.prog 9 = true := by kernel_rfl
@[simp] theorem under_9 : Try.prog.underlying 9 = some .string := by kernel_rfl
@[simp] theorem isAgg_22 : isAggT Try.prog 22 = some false := by kernel_rfl
@[simp] theorem size_22 : sizeT Try.prog 22 = some 1 := by kernel_rfl
@[simp] theorem zero_22 : zeroT Try.prog 22 = some (.int .u16 0) := by kernel_rfl
@[simp] theorem isInt_22 : isIntT Try.prog 22 = some true := by kernel_rfl
@[simp] theorem notIface_22 : notIface Try.prog 22 = true := by kernel_rfl
@[simp] theorem under_22 : Try.prog.underlying 22 = some (.int .u16) := by kernel_rfl
@[simp] theorem isAgg_23 : isAggT Try.prog 23 = some false := by kernel_rfl
@[simp] theorem size_23 : sizeT Try.prog 23 = some 1 := by kernel_rfl
@[simp] theorem zero_23 : zeroT Try.prog 23 = some (.slice none 0 0) := by kernel_rfl
@[simp] theorem isInt_23 : isIntT Try.prog 23 = some false := by kernel_rfl
@[simp] theorem notIface_23 : notIface Try.prog 23 = true := by kernel_rfl
@[simp] theorem elem_23 : elemT Try.prog 23 = some (22, 1, 2) := by kernel_rfl
@[simp] theorem under_23 : Try.prog.underlying 23 = some (.slice 22) := by kernel_rfl
@[simp] theorem isAgg_24 : isAggT Try.prog 24 = some false := by kernel_rfl
@[simp] theorem size_24 : sizeT Try.prog 24 = some 1 := by kernel_rfl
@[simp] theorem zero_24 : zeroT Try.prog 24 = some (.slice none 0 0) := by kernel_rfl
@[simp] theorem isInt_24 : isIntT Try.prog 24 = some false := by kernel_rfl
@[simp] theorem notIface_24 : notIface Try.prog 24 = true := by kernel_rfl
@[simp] theorem elem_24 : elemT Try.prog 24 = some (4, 1, 1) := by kernel_rfl
@[simp] theorem under_24 : Try.prog.underlying 24 = some (.slice 4) := by kernel_rfl
@[simp] theorem isAgg_26 : isAggT Try.prog 26 = some true := by kernel_rfl
@[simp] theorem size_26 : sizeT Try.prog 26 = some 6 := by kernel_rfl
@[simp] theorem zero_26 : zeroT Try.prog 26 = some (.agg #[(.int .u8 0), (.int .u16 0), (.int .u16 0), (.int .u16 0), (.slice none 0 0), (.slice none 0 0)]) := by kernel_rfl
@[simp] theorem isInt_26 : isIntT Try.prog 26 = some false := by kernel_rfl
@[simp] theorem notIface_26 : notIface Try.prog 26 = true := by kernel_rfl
@[simp] theorem field_26_0 : fieldT Try.prog 26 0 = some (0, 5, 1) := by kernel_rfl
@[simp] theorem field_26_1 : fieldT Try.prog 26 1 = some (1, 22, 1) := by kernel_rfl
@[simp] theorem field_26_2 : fieldT Try.prog 26 2 = some (2, 22, 1) := by kernel_rfl
@[simp] theorem field_26_3 : fieldT Try.prog 26 3 = some (3, 22, 1) := by kernel_rfl
@[simp] theorem field_26_4 : fieldT Try.prog 26 4 = some (4, 23, 1) := by kernel_rfl
@[simp] theorem field_26_5 : fieldT Try.prog 26 5 = some (5, 24, 1) := by kernel_rfl
@[simp] theorem places_26 : placesT Try.prog 26 = some [(0, 1), (1, 1), (2, 1), (3, 1), (4, 1), (5, 1)] := by kernel_rfl
@[simp] theorem isAgg_27 : isAggT Try.prog 27 = some false := by kernel_rfl
@[simp] theorem size_27 : sizeT Try.prog 27 = some 1 := by kernel_rfl
@[simp] theorem zero_27 : zeroT Try.prog 27 = some (.slice none 0 0) := by kernel_rfl
@[simp] theorem isInt_27 : isIntT Try.prog 27 = some false := by kernel_rfl
@[simp] theorem notIface_27 : notIface Try.prog 27 = true := by kernel_rfl
@[simp] theorem elem_27 : elemT Try.prog 27 = some (5, 1, 1) := by kernel_rfl
@[simp] theorem under_27 : Try.prog.underlying 27 = some (.slice 5) := by kernel_rfl
@[simp] theorem isAgg_30 : isAggT Try.prog 30 = some false := by kernel_rfl
@[simp] theorem size_30 : sizeT Try.prog 30 = some 1 := by kernel_rfl
@[simp] theorem zero_30 : zeroT Try.prog 30 = some (.int .i64 0) := by kernel_rfl
@[simp] theorem isInt_30 : isIntT Try.prog 30 = some true := by kernel_rfl
@[simp] theorem notIface_30 : notIface Try.prog 30 = true := by kernel_rfl
@[simp] theorem under_30 : Try.prog.underlying 30 = some (.int .i64) := by kernel_rfl
@[simp] theorem isAgg_48 : isAggT Try.prog 48 = some true := by kernel_rfl
@[simp] theorem size_48 : sizeT Try.prog 48 = some 7 := by kernel_rfl
@[simp] theorem zero_48 : zeroT Try.prog 48 = some (.agg #[(.int .u8 0), (.int .u16 0), (.int .u16 0), (.int .u16 0), (.slice none 0 0), (.slice none 0 0), (.int .i64 0)]) := by kernel_rfl
@[simp] theorem isInt_48 : isIntT Try.prog 48 = some false := by kernel_rfl
@[simp] theorem notIface_48 : notIface Try.prog 48 = true := by kernel_rfl
@[simp] theorem field_48_0 : fieldT Try.prog 48 0 = some (0, 26, 6) := by kernel_rfl
@[simp] theorem field_48_1 : fieldT Try.prog 48 1 = some (6, 3, 1) := by kernel_rfl
@[simp] theorem places_48 : placesT Try.prog 48 = some [(0, 6), (6, 1)] := by kernel_rfl
@[simp] theorem isAgg_49 : isAggT Try.prog 49 = some false := by kernel_rfl
@[simp] theorem size_49 : sizeT Try.prog 49 = some 1 := by kernel_rfl
@[simp] theorem zero_49 : zeroT Try.prog 49 = some (.slice none 0 0) := by kernel_rfl
@[simp] theorem isInt_49 : isIntT Try.prog 49 = some false := by kernel_rfl
@[simp] theorem notIface_49 : notIface Try.prog 49 = true := by kernel_rfl
@[simp] theorem elem_49 : elemT Try.prog 49 = some (48, 7, 64) := by kernel_rfl
@[simp] theorem under_49 : Try.prog.underlying 49 = some (.slice 48) := by kernel_rfl
@[simp] theorem isAgg_58 : isAggT Try.prog 58 = some true := by kernel_rfl
@[simp] theorem size_58 : sizeT Try.prog 58 = some 4 := by kernel_rfl
@[simp] theorem zero_58 : zeroT Try.prog 58 = some (.agg #[(.int .i64 0), (.int .i64 0), (.int .i64 0), (.bool false)]) := by kernel_rfl
@[simp] theorem isInt_58 : isIntT Try.prog 58 = some false := by kernel_rfl
@[simp] theorem notIface_58 : notIface Try.prog 58 = true := by kernel_rfl
@[simp] theorem field_58_0 : fieldT Try.prog 58 0 = some (0, 3, 1) := by kernel_rfl
@[simp] theorem field_58_1 : fieldT Try.prog 58 1 = some (1, 3, 1) := by kernel_rfl
@[simp] theorem field_58_2 : fieldT Try.prog 58 2 = some (2, 3, 1) := by kernel_rfl
@[simp] theorem field_58_3 : fieldT Try.prog 58 3 = some (3, 4, 1) := by kernel_rfl
@[simp] theorem places_58 : placesT Try.prog 58 = some [(0, 1), (1, 1), (2, 1), (3, 1)] := by kernel_rfl
@[simp] theorem method_58_saucier_ask_many : methodT Try.prog 58 "saucier/ask.many" = some 35 := by kernel_rfl
@[simp] theorem isAgg_60 : isAggT Try.prog 60 = some false := by kernel_rfl
@[simp] theorem size_60 : sizeT Try.prog 60 = some 1 := by kernel_rfl
@[simp] theorem zero_60 : zeroT Try.prog 60 = some (.map none) := by kernel_rfl
@[simp] theorem isInt_60 : isIntT Try.prog 60 = some false := by kernel_rfl
@[simp] theorem notIface_60 : notIface Try.prog 60 = true := by kernel_rfl
@[simp] theorem map_60 : mapT Try.prog 60 = some (5, 58) := by kernel_rfl
@[simp] theorem isAgg_68 : isAggT Try.prog 68 = some false := by kernel_rfl
@[simp] theorem size_68 : sizeT Try.prog 68 = some 1 := by kernel_rfl
@[simp] theorem zero_68 : zeroT Try.prog 68 = some (.int .u64 0) := by kernel_rfl
@[simp] theorem isInt_68 : isIntT Try.prog 68 = some true := by kernel_rfl
@[simp] theorem notIface_68 : notIface Try.prog 68 = true := by kernel_rfl
@[simp] theorem under_68 : Try.prog.underlying 68 = some (.int .u64) := by kernel_rfl
@[simp] theorem isAgg_69 : isAggT Try.prog 69 = some false := by kernel_rfl
@[simp] theorem size_69 : sizeT Try.prog 69 = some 1 := by kernel_rfl
@[simp] theorem zero_69 : zeroT Try.prog 69 = some (.pointer none) := by kernel_rfl
@[simp] theorem isInt_69 : isIntT Try.prog 69 = some false := by kernel_rfl
@[simp] theorem notIface_69 : notIface Try.prog 69 = true := by kernel_rfl
@[simp] theorem under_69 : Try.prog.underlying 69 = some (.pointer 71) := by kernel_rfl
@[simp] theorem method_69_saucier_ask_bits : methodT Try.prog 69 "saucier/ask.bits" = some 42 := by kernel_rfl
@[simp] theorem method_69_saucier_ask_byte1 : methodT Try.prog 69 "saucier/ask.byte1" = some 40 := by kernel_rfl
@[simp] theorem method_69_saucier_ask_num : methodT Try.prog 69 "saucier/ask.num" = some 41 := by kernel_rfl
@[simp] theorem method_69_saucier_ask_rest : methodT Try.prog 69 "saucier/ask.rest" = some 44 := by kernel_rfl
@[simp] theorem method_69_saucier_ask_words : methodT Try.prog 69 "saucier/ask.words" = some 43 := by kernel_rfl
@[simp] theorem isAgg_71 : isAggT Try.prog 71 = some true := by kernel_rfl
@[simp] theorem size_71 : sizeT Try.prog 71 = some 2 := by kernel_rfl
@[simp] theorem zero_71 : zeroT Try.prog 71 = some (.agg #[(.slice none 0 0), (.bool false)]) := by kernel_rfl
@[simp] theorem isInt_71 : isIntT Try.prog 71 = some false := by kernel_rfl
@[simp] theorem notIface_71 : notIface Try.prog 71 = true := by kernel_rfl
@[simp] theorem field_71_0 : fieldT Try.prog 71 0 = some (0, 27, 1) := by kernel_rfl
@[simp] theorem field_71_1 : fieldT Try.prog 71 1 = some (1, 4, 1) := by kernel_rfl
@[simp] theorem places_71 : placesT Try.prog 71 = some [(0, 1), (1, 1)] := by kernel_rfl
end Go.Proofs
