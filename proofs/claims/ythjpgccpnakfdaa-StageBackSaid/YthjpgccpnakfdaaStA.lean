/- Of this session: a machine of its own, proved beside the model, and what the functions of the row come to on it; Lean checks all of it. -/
import Derived.Test.YthjpgccpnakfdaaMachF
import Derived.KernelRfl
import Derived.Test.YthjpgccpnakfdaaProg
import Derived.Test.YthjpgccpnakfdaaChecked
set_option linter.unusedVariables false
set_option linter.unusedSimpArgs false
set_option linter.unusedSectionVars false
namespace Go.Proofs
open Go Go.Abs
set_option linter.unusedVariables false
set_option maxRecDepth 100000
@[go_sem] theorem isAgg_3 : isAggT Try.prog 3 = some false := by kernel_rfl
@[go_sem] theorem size_3 : sizeT Try.prog 3 = some 1 := by kernel_rfl
@[go_sem] theorem zero_3 : zeroT Try.prog 3 = some (.int .i64 0) := by kernel_rfl
@[go_sem] theorem isInt_3 : isIntT Try.prog 3 = some true := by kernel_rfl
@[go_sem] theorem notIface_3 : notIface Try.prog 3 = true := by kernel_rfl
@[go_sem] theorem under_3 : Try.prog.underlying 3 = some (.int .i64) := by kernel_rfl
@[go_sem] theorem isAgg_4 : isAggT Try.prog 4 = some false := by kernel_rfl
@[go_sem] theorem size_4 : sizeT Try.prog 4 = some 1 := by kernel_rfl
@[go_sem] theorem zero_4 : zeroT Try.prog 4 = some (.bool false) := by kernel_rfl
@[go_sem] theorem isInt_4 : isIntT Try.prog 4 = some false := by kernel_rfl
@[go_sem] theorem notIface_4 : notIface Try.prog 4 = true := by kernel_rfl
@[go_sem] theorem under_4 : Try.prog.underlying 4 = some .bool := by kernel_rfl
@[go_sem] theorem isAgg_5 : isAggT Try.prog 5 = some false := by kernel_rfl
@[go_sem] theorem size_5 : sizeT Try.prog 5 = some 1 := by kernel_rfl
@[go_sem] theorem zero_5 : zeroT Try.prog 5 = some (.int .u8 0) := by kernel_rfl
@[go_sem] theorem isInt_5 : isIntT Try.prog 5 = some true := by kernel_rfl
@[go_sem] theorem notIface_5 : notIface Try.prog 5 = true := by kernel_rfl
@[go_sem] theorem under_5 : Try.prog.underlying 5 = some (.int .u8) := by kernel_rfl
@[go_sem] theorem isAgg_22 : isAggT Try.prog 22 = some false := by kernel_rfl
@[go_sem] theorem size_22 : sizeT Try.prog 22 = some 1 := by kernel_rfl
@[go_sem] theorem zero_22 : zeroT Try.prog 22 = some (.int .u16 0) := by kernel_rfl
@[go_sem] theorem isInt_22 : isIntT Try.prog 22 = some true := by kernel_rfl
@[go_sem] theorem notIface_22 : notIface Try.prog 22 = true := by kernel_rfl
@[go_sem] theorem under_22 : Try.prog.underlying 22 = some (.int .u16) := by kernel_rfl
@[go_sem] theorem isAgg_23 : isAggT Try.prog 23 = some false := by kernel_rfl
@[go_sem] theorem size_23 : sizeT Try.prog 23 = some 1 := by kernel_rfl
@[go_sem] theorem zero_23 : zeroT Try.prog 23 = some (.int .u32 0) := by kernel_rfl
@[go_sem] theorem isInt_23 : isIntT Try.prog 23 = some true := by kernel_rfl
@[go_sem] theorem notIface_23 : notIface Try.prog 23 = true := by kernel_rfl
@[go_sem] theorem under_23 : Try.prog.underlying 23 = some (.int .u32) := by kernel_rfl
@[go_sem] theorem isAgg_24 : isAggT Try.prog 24 = some false := by kernel_rfl
@[go_sem] theorem size_24 : sizeT Try.prog 24 = some 1 := by kernel_rfl
@[go_sem] theorem zero_24 : zeroT Try.prog 24 = some (.slice none 0 0) := by kernel_rfl
@[go_sem] theorem isInt_24 : isIntT Try.prog 24 = some false := by kernel_rfl
@[go_sem] theorem notIface_24 : notIface Try.prog 24 = true := by kernel_rfl
@[go_sem] theorem elem_24 : elemT Try.prog 24 = some (22, 1, 2) := by kernel_rfl
@[go_sem] theorem under_24 : Try.prog.underlying 24 = some (.slice 22) := by kernel_rfl
@[go_sem] theorem isAgg_26 : isAggT Try.prog 26 = some true := by kernel_rfl
@[go_sem] theorem size_26 : sizeT Try.prog 26 = some 2 := by kernel_rfl
@[go_sem] theorem zero_26 : zeroT Try.prog 26 = some (.agg #[(.int .i64 0), (.slice none 0 0)]) := by kernel_rfl
@[go_sem] theorem isInt_26 : isIntT Try.prog 26 = some false := by kernel_rfl
@[go_sem] theorem notIface_26 : notIface Try.prog 26 = true := by kernel_rfl
@[go_sem] theorem field_26_0 : fieldT Try.prog 26 0 = some (0, 3, 1) := by kernel_rfl
@[go_sem] theorem field_26_1 : fieldT Try.prog 26 1 = some (1, 24, 1) := by kernel_rfl
@[go_sem] theorem places_26 : placesT Try.prog 26 = some [(0, 1), (1, 1)] := by kernel_rfl
@[go_sem] theorem isAgg_28 : isAggT Try.prog 28 = some false := by kernel_rfl
@[go_sem] theorem size_28 : sizeT Try.prog 28 = some 1 := by kernel_rfl
@[go_sem] theorem zero_28 : zeroT Try.prog 28 = some (.int .i64 0) := by kernel_rfl
@[go_sem] theorem isInt_28 : isIntT Try.prog 28 = some true := by kernel_rfl
@[go_sem] theorem notIface_28 : notIface Try.prog 28 = true := by kernel_rfl
@[go_sem] theorem under_28 : Try.prog.underlying 28 = some (.int .i64) := by kernel_rfl
@[go_sem] theorem isAgg_34 : isAggT Try.prog 34 = some false := by kernel_rfl
@[go_sem] theorem size_34 : sizeT Try.prog 34 = some 1 := by kernel_rfl
@[go_sem] theorem zero_34 : zeroT Try.prog 34 = some (.nilFunc) := by kernel_rfl
@[go_sem] theorem isInt_34 : isIntT Try.prog 34 = some false := by kernel_rfl
@[go_sem] theorem notIface_34 : notIface Try.prog 34 = true := by kernel_rfl
@[go_sem] theorem isAgg_36 : isAggT Try.prog 36 = some false := by kernel_rfl
@[go_sem] theorem size_36 : sizeT Try.prog 36 = some 1 := by kernel_rfl
@[go_sem] theorem zero_36 : zeroT Try.prog 36 = some (.slice none 0 0) := by kernel_rfl
@[go_sem] theorem isInt_36 : isIntT Try.prog 36 = some false := by kernel_rfl
@[go_sem] theorem notIface_36 : notIface Try.prog 36 = true := by kernel_rfl
@[go_sem] theorem elem_36 : elemT Try.prog 36 = some (26, 2, 32) := by kernel_rfl
@[go_sem] theorem under_36 : Try.prog.underlying 36 = some (.slice 26) := by kernel_rfl
@[go_sem] theorem isAgg_39 : isAggT Try.prog 39 = some false := by kernel_rfl
@[go_sem] theorem size_39 : sizeT Try.prog 39 = some 1 := by kernel_rfl
@[go_sem] theorem zero_39 : zeroT Try.prog 39 = some (.slice none 0 0) := by kernel_rfl
@[go_sem] theorem isInt_39 : isIntT Try.prog 39 = some false := by kernel_rfl
@[go_sem] theorem notIface_39 : notIface Try.prog 39 = true := by kernel_rfl
@[go_sem] theorem elem_39 : elemT Try.prog 39 = some (5, 1, 1) := by kernel_rfl
@[go_sem] theorem under_39 : Try.prog.underlying 39 = some (.slice 5) := by kernel_rfl
@[go_sem] theorem isAgg_46 : isAggT Try.prog 46 = some false := by kernel_rfl
@[go_sem] theorem size_46 : sizeT Try.prog 46 = some 1 := by kernel_rfl
@[go_sem] theorem zero_46 : zeroT Try.prog 46 = some (.slice none 0 0) := by kernel_rfl
@[go_sem] theorem isInt_46 : isIntT Try.prog 46 = some false := by kernel_rfl
@[go_sem] theorem notIface_46 : notIface Try.prog 46 = true := by kernel_rfl
@[go_sem] theorem elem_46 : elemT Try.prog 46 = some (3, 1, 8) := by kernel_rfl
@[go_sem] theorem under_46 : Try.prog.underlying 46 = some (.slice 3) := by kernel_rfl
@[go_sem] theorem isAgg_49 : isAggT Try.prog 49 = some false := by kernel_rfl
@[go_sem] theorem size_49 : sizeT Try.prog 49 = some 1 := by kernel_rfl
@[go_sem] theorem zero_49 : zeroT Try.prog 49 = some (.map none) := by kernel_rfl
@[go_sem] theorem isInt_49 : isIntT Try.prog 49 = some false := by kernel_rfl
@[go_sem] theorem notIface_49 : notIface Try.prog 49 = true := by kernel_rfl
@[go_sem] theorem map_49 : mapT Try.prog 49 = some (3, 3) := by kernel_rfl
@[go_sem] theorem isAgg_52 : isAggT Try.prog 52 = some true := by kernel_rfl
@[go_sem] theorem size_52 : sizeT Try.prog 52 = some 8 := by kernel_rfl
@[go_sem] theorem zero_52 : zeroT Try.prog 52 = some (.agg #[(.bool false), (.bool false), (.bool false), (.bool false), (.bool false), (.bool false), (.bool false), (.bool false)]) := by kernel_rfl
@[go_sem] theorem isInt_52 : isIntT Try.prog 52 = some false := by kernel_rfl
@[go_sem] theorem notIface_52 : notIface Try.prog 52 = true := by kernel_rfl
@[go_sem] theorem arr_52 : arrT Try.prog 52 = some (8, 4, 1) := by kernel_rfl
@[go_sem] theorem under_52 : Try.prog.underlying 52 = some (.array 8 4) := by kernel_rfl
@[go_sem] theorem places_52 : placesT Try.prog 52 = none := by kernel_rfl
@[go_sem] theorem isAgg_53 : isAggT Try.prog 53 = some true := by kernel_rfl
@[go_sem] theorem size_53 : sizeT Try.prog 53 = some 16 := by kernel_rfl
@[go_sem] theorem zero_53 : zeroT Try.prog 53 = some (.agg #[(.int .i64 0), (.slice none 0 0), (.int .i64 0), (.slice none 0 0), (.int .i64 0), (.slice none 0 0), (.int .i64 0), (.slice none 0 0), (.int .i64 0), (.slice none 0 0), (.int .i64 0), (.slice none 0 0), (.int .i64 0), (.slice none 0 0), (.int .i64 0), (.slice none 0 0)]) := by kernel_rfl
@[go_sem] theorem isInt_53 : isIntT Try.prog 53 = some false := by kernel_rfl
@[go_sem] theorem notIface_53 : notIface Try.prog 53 = true := by kernel_rfl
@[go_sem] theorem arr_53 : arrT Try.prog 53 = some (8, 26, 2) := by kernel_rfl
@[go_sem] theorem under_53 : Try.prog.underlying 53 = some (.array 8 26) := by kernel_rfl
@[go_sem] theorem places_53 : placesT Try.prog 53 = none := by kernel_rfl
@[go_sem] theorem isAgg_55 : isAggT Try.prog 55 = some true := by kernel_rfl
@[go_sem] theorem size_55 : sizeT Try.prog 55 = some 25 := by kernel_rfl
@[go_sem] theorem zero_55 : zeroT Try.prog 55 = some (.agg #[(.int .u32 0), (.bool false), (.bool false), (.bool false), (.bool false), (.bool false), (.bool false), (.bool false), (.bool false), (.int .i64 0), (.slice none 0 0), (.int .i64 0), (.slice none 0 0), (.int .i64 0), (.slice none 0 0), (.int .i64 0), (.slice none 0 0), (.int .i64 0), (.slice none 0 0), (.int .i64 0), (.slice none 0 0), (.int .i64 0), (.slice none 0 0), (.int .i64 0), (.slice none 0 0)]) := by kernel_rfl
@[go_sem] theorem isInt_55 : isIntT Try.prog 55 = some false := by kernel_rfl
@[go_sem] theorem notIface_55 : notIface Try.prog 55 = true := by kernel_rfl
@[go_sem] theorem field_55_0 : fieldT Try.prog 55 0 = some (0, 23, 1) := by kernel_rfl
@[go_sem] theorem field_55_1 : fieldT Try.prog 55 1 = some (1, 52, 8) := by kernel_rfl
@[go_sem] theorem field_55_2 : fieldT Try.prog 55 2 = some (9, 53, 16) := by kernel_rfl
@[go_sem] theorem places_55 : placesT Try.prog 55 = some [(0, 1), (1, 8), (9, 16)] := by kernel_rfl
@[go_sem] theorem isAgg_72 : isAggT Try.prog 72 = some false := by kernel_rfl
@[go_sem] theorem size_72 : sizeT Try.prog 72 = some 1 := by kernel_rfl
@[go_sem] theorem zero_72 : zeroT Try.prog 72 = some (.nilFunc) := by kernel_rfl
@[go_sem] theorem isInt_72 : isIntT Try.prog 72 = some false := by kernel_rfl
@[go_sem] theorem notIface_72 : notIface Try.prog 72 = true := by kernel_rfl
@[go_sem] theorem isAgg_81 : isAggT Try.prog 81 = some false := by kernel_rfl
@[go_sem] theorem size_81 : sizeT Try.prog 81 = some 1 := by kernel_rfl
@[go_sem] theorem zero_81 : zeroT Try.prog 81 = some (.nilFunc) := by kernel_rfl
@[go_sem] theorem isInt_81 : isIntT Try.prog 81 = some false := by kernel_rfl
@[go_sem] theorem notIface_81 : notIface Try.prog 81 = true := by kernel_rfl
@[go_sem] theorem isAgg_83 : isAggT Try.prog 83 = some false := by kernel_rfl
@[go_sem] theorem size_83 : sizeT Try.prog 83 = some 1 := by kernel_rfl
@[go_sem] theorem zero_83 : zeroT Try.prog 83 = some (.nilFunc) := by kernel_rfl
@[go_sem] theorem isInt_83 : isIntT Try.prog 83 = some false := by kernel_rfl
@[go_sem] theorem notIface_83 : notIface Try.prog 83 = true := by kernel_rfl
@[go_sem] theorem isAgg_86 : isAggT Try.prog 86 = some true := by kernel_rfl
@[go_sem] theorem size_86 : sizeT Try.prog 86 = some 64 := by kernel_rfl
theorem zero_86 : zeroT Try.prog 86 = some (.agg #[(.bool false), (.bool false), (.bool false), (.bool false), (.bool false), (.bool false), (.bool false), (.bool false), (.bool false), (.bool false), (.bool false), (.bool false), (.bool false), (.bool false), (.bool false), (.bool false), (.bool false), (.bool false), (.bool false), (.bool false), (.bool false), (.bool false), (.bool false), (.bool false), (.bool false), (.bool false), (.bool false), (.bool false), (.bool false), (.bool false), (.bool false), (.bool false), (.bool false), (.bool false), (.bool false), (.bool false), (.bool false), (.bool false), (.bool false), (.bool false), (.bool false), (.bool false), (.bool false), (.bool false), (.bool false), (.bool false), (.bool false), (.bool false), (.bool false), (.bool false), (.bool false), (.bool false), (.bool false), (.bool false), (.bool false), (.bool false), (.bool false), (.bool false), (.bool false), (.bool false), (.bool false), (.bool false), (.bool false), (.bool false)]) := by kernel_rfl
@[go_sem] theorem isInt_86 : isIntT Try.prog 86 = some false := by kernel_rfl
@[go_sem] theorem notIface_86 : notIface Try.prog 86 = true := by kernel_rfl
@[go_sem] theorem arr_86 : arrT Try.prog 86 = some (64, 4, 1) := by kernel_rfl
@[go_sem] theorem under_86 : Try.prog.underlying 86 = some (.array 64 4) := by kernel_rfl
@[go_sem] theorem places_86 : placesT Try.prog 86 = none := by kernel_rfl
@[go_sem] theorem isAgg_92 : isAggT Try.prog 92 = some false := by kernel_rfl
@[go_sem] theorem size_92 : sizeT Try.prog 92 = some 1 := by kernel_rfl
@[go_sem] theorem zero_92 : zeroT Try.prog 92 = some (.int .u64 0) := by kernel_rfl
@[go_sem] theorem isInt_92 : isIntT Try.prog 92 = some true := by kernel_rfl
@[go_sem] theorem notIface_92 : notIface Try.prog 92 = true := by kernel_rfl
@[go_sem] theorem under_92 : Try.prog.underlying 92 = some (.int .u64) := by kernel_rfl
/-- Which calls hand a row on, or take rows as they stand. -/
def tabS : Tab := fun self f => if (self = 21 ∧ f = 50) ∨ (self = 3 ∧ f = 15) then { move := true } else if (self = 45 ∧ f = 53) ∨ (self = 3 ∧ f = 14) ∨ (self = 14 ∧ f = 41) ∨ (self = 41 ∧ f = 50) then { refs := true } else {}
/-- What is told from elsewhere: the chapter's examples; and Clone of an empty row. -/
def vorcS : VOrc := fun f => if f = 13 then some (false, fun _ args V => if args.isEmpty then some (.d (.v (.bool true)), V) else none)
  else if f = 50 then some (true, fun mv args V => if mv then none else match args with
    | [.d (.rows [])] => some (.d (.rows []), V)
    | _ => none) else none
theorem tab_refs (a b : Nat) (h : ¬ ((a = 45 ∧ b = 53) ∨ (a = 3 ∧ b = 14) ∨ (a = 14 ∧ b = 41) ∨ (a = 41 ∧ b = 50))) : (tabS a b).refs = false := by unfold tabS; by_cases h1 : (a = 21 ∧ b = 50) ∨ (a = 3 ∧ b = 15) <;> simp [h1, h]
theorem tab_move (a b : Nat) (h : ¬ ((a = 21 ∧ b = 50) ∨ (a = 3 ∧ b = 15))) : (tabS a b).move = false := by unfold tabS; rw [if_neg h]; split <;> rfl
theorem tab_3_15 : (tabS 3 15).move = true := by decide
theorem tab_21_50 : (tabS 21 50).move = true := by decide
end Go.Proofs
namespace Go.Proofs
open Go Go.Abs
set_option linter.unusedVariables false
set_option maxRecDepth 100000
/-! 17 saucier/bank.Fits -/
theorem cal17 : callable Try.f17 = true := by kernel_rfl
noncomputable def C17 : Code := Try.f17.body.getD .skip
theorem body17 : Try.f17.body = some C17 := by kernel_rfl

noncomputable def R17 : List ResultVar := Try.f17.results.toList
def W17 (mv : Bool) (a0 : DV) (H : VHeap) (Q : DV → VHeap → Prop) : Prop :=
  letK (H ++ [.cells (vcells a0) .fix false 0 0]) fun h0 =>
  obind (vfieldAddr Try.prog 26 (.ptr (List.length H) 0 0) 1) fun x1 =>
  obind (vload Try.prog 24 x1 h0) fun x2 =>
  obind (vlen1 Try.prog [x2] [24] h0) fun x3 =>
  obind (vbin Try.prog .leq 3 (.tmp 5) (.const (.int .i64 14)) x3 (.d (.v (.int .i64 14)))) fun x4 =>
  condD x4 (
  obind (vfieldAddr Try.prog 26 (.ptr (List.length H) 0 0) 0) fun x5 =>
  obind (vload Try.prog 3 x5 h0) fun x6 =>
  obind (vbin Try.prog .geq 3 (.tmp 9) (.const (.int .i64 0)) x6 (.d (.v (.int .i64 0)))) fun x7 =>
  condD x7 (
  obind (vfieldAddr Try.prog 26 (.ptr (List.length H) 0 0) 0) fun x8 =>
  obind (vload Try.prog 3 x8 h0) fun x9 =>
  obind (vbin Try.prog .lss 3 (.tmp 14) (.const (.int .i64 64)) x9 (.d (.v (.int .i64 64)))) fun x10 =>
  condD x10 (
  obind (vfieldAddr Try.prog 26 (.ptr (List.length H) 0 0) 0) fun x11 =>
  obind (vload Try.prog 3 x11 h0) fun x12 =>
  obind (vfieldAddr Try.prog 26 (.ptr (List.length H) 0 0) 1) fun x13 =>
  obind (vload Try.prog 24 x13 h0) fun x14 =>
  obind (vlen1 Try.prog [x14] [24] h0) fun x15 =>
  obind (vbin Try.prog .add 3 (.tmp 19) (.tmp 22) x12 x15) fun x16 =>
  obind (vbin Try.prog .leq 3 (.tmp 23) (.const (.int .i64 64)) x16 (.d (.v (.int .i64 64)))) fun x17 =>
  obind (leaveD H mv [x17] h0) fun r18 => Q (packD r18.1) r18.2) (
  obind (leaveD H mv [(.d (.v (.bool false)))] h0) fun r19 => Q (packD r19.1) r19.2)) (
  obind (leaveD H mv [(.d (.v (.bool false)))] h0) fun r20 => Q (packD r20.1) r20.2)) (
  obind (leaveD H mv [(.d (.v (.bool false)))] h0) fun r21 => Q (packD r21.1) r21.2)
theorem E17 (mv : Bool) (a0 : DV) (H : VHeap) (Q : DV → VHeap → Prop) : VWc Try.prog tabS vorcS 17 C17 (enterD Try.f17 [a0]) H (endD Try.prog H mv Try.f17.results.toList Q) = W17 mv a0 H Q := by kernel_rfl
theorem ev17 (mv : Bool) (a0 : DV) {H : VHeap} {Q : DV → VHeap → Prop} (h : W17 mv a0 H Q) : VEv Try.prog tabS vorcS 17 mv [a0] H Q :=
  VEv_ofW (by rfl) Try.func17 cal17 body17 (E17 mv a0 H Q) h
/-! 19 saucier/saucierlow.Bank -/
theorem cal19 : callable Try.f19 = true := by kernel_rfl
noncomputable def C19 : Code := Try.f19.body.getD .skip
theorem body19 : Try.f19.body = some C19 := by kernel_rfl

noncomputable def R19 : List ResultVar := Try.f19.results.toList
def W19 (mv : Bool) (a0 : DV) (H : VHeap) (Q : DV → VHeap → Prop) : Prop :=
  obind (vmakeS Try.prog 24 (.d (.v (.int .i64 64))) (.d (.v (.int .i64 64)))) fun x0 =>
  letK (H ++ [.cells x0.1 .fix false 0 0]) fun h1 =>
  obind (vcopy Try.prog #[24, 24] [(.slc (List.length H) 0 0 x0.2.1 x0.2.2.1 x0.2.2.2), a0] h1) fun x2 =>
  obind (leaveD H mv [(.slc (List.length H) 0 0 x0.2.1 x0.2.2.1 x0.2.2.2)] x2.2) fun r3 => Q (packD r3.1) r3.2
theorem E19 (mv : Bool) (a0 : DV) (H : VHeap) (Q : DV → VHeap → Prop) : VWc Try.prog tabS vorcS 19 C19 (enterD Try.f19 [a0]) H (endD Try.prog H mv Try.f19.results.toList Q) = W19 mv a0 H Q := by kernel_rfl
theorem ev19 (mv : Bool) (a0 : DV) {H : VHeap} {Q : DV → VHeap → Prop} (h : W19 mv a0 H Q) : VEv Try.prog tabS vorcS 19 mv [a0] H Q :=
  VEv_ofW (by rfl) Try.func19 cal19 body19 (E19 mv a0 H Q) h
end Go.Proofs
namespace Go.Proofs
open Go Go.Abs
set_option linter.unusedVariables false
set_option maxRecDepth 100000
/-! 16 saucier/saucierlow.Words -/
theorem cal16 : callable Try.f16 = true := by kernel_rfl
noncomputable def C16 : Code := Try.f16.body.getD .skip
theorem body16 : Try.f16.body = some C16 := by kernel_rfl

noncomputable def R16 : List ResultVar := Try.f16.results.toList
noncomputable def S16_111 : Code := subC C16 [1, 1, 1]
noncomputable def S16_110100 : Code := subC C16 [1, 1, 0, 1, 0, 0]
def WS16_111 (s0 s1 s2 s3 s4 s5 s6 s7 s8 s9 s10 s11 s12 s13 s14 s15 s16 s17 s18 s19 s20 s21 s22 s23 s24 s25 : DV) (H : VHeap) (K : Ex → Array DV → VHeap → Prop) : Prop :=
  K .ret #[s0, s1, s2, s3, (.d (.v (.bool true))), s5, s6, s7, s8, s9, s10, s11, s12, s13, s14, s15, s16, s17, s18, s19, s20, s21, s22, s23, s24, s25] H
theorem ES16_111 (s0 s1 s2 s3 s4 s5 s6 s7 s8 s9 s10 s11 s12 s13 s14 s15 s16 s17 s18 s19 s20 s21 s22 s23 s24 s25 : DV) (H : VHeap) (K : Ex → Array DV → VHeap → Prop) : VWc Try.prog tabS vorcS 16 S16_111 #[s0, s1, s2, s3, s4, s5, s6, s7, s8, s9, s10, s11, s12, s13, s14, s15, s16, s17, s18, s19, s20, s21, s22, s23, s24, s25] H K = WS16_111 s0 s1 s2 s3 s4 s5 s6 s7 s8 s9 s10 s11 s12 s13 s14 s15 s16 s17 s18 s19 s20 s21 s22 s23 s24 s25 H K := by kernel_rfl
def WS16_110100 (s0 s1 s2 s3 s4 s5 s6 s7 s8 s9 s10 s11 s12 s13 s14 s15 s16 s17 s18 s19 s20 s21 s22 s23 s24 s25 : DV) (H : VHeap) (K : Ex → Array DV → VHeap → Prop) : Prop :=
  obind (vbin Try.prog .lss 3 (.tmp 13) (.tmp 12) s13 s12) fun x0 =>
  condD x0 (
  obind (vindexAddr Try.prog 24 s0 s13) fun x1 =>
  obind (vload Try.prog 22 x1 H) fun x2 =>
  obind (vindexAddr Try.prog 24 s1 s13) fun x3 =>
  obind (vload Try.prog 22 x3 H) fun x4 =>
  obind (vbin Try.prog .neq 22 (.tmp 19) (.tmp 23) x2 x4) fun x5 =>
  condD x5 (
  K .ret #[s0, s1, s2, s3, (.d (.v (.bool false))), s13, s6, s7, s8, s9, s10, s11, s12, s13, x0, s13, s0, s13, x1, x2, s1, s13, x3, x4, x5, s25] H) (
  obind (vbin Try.prog .add 3 (.tmp 13) (.const (.int .i64 1)) s13 (.d (.v (.int .i64 1)))) fun x6 =>
  K .normal #[s0, s1, s2, s3, s4, s13, s6, s7, s8, s9, s10, s11, s12, x6, x0, s13, s0, s13, x1, x2, s1, s13, x3, x4, x5, x6] H)) (
  K (.exit 0) #[s0, s1, s2, s3, s4, s5, s6, s7, s8, s9, s10, s11, s12, s13, x0, s15, s16, s17, s18, s19, s20, s21, s22, s23, s24, s25] H)
theorem ES16_110100 (s0 s1 s2 s3 s4 s5 s6 s7 s8 s9 s10 s11 s12 s13 s14 s15 s16 s17 s18 s19 s20 s21 s22 s23 s24 s25 : DV) (H : VHeap) (K : Ex → Array DV → VHeap → Prop) : VWc Try.prog tabS vorcS 16 S16_110100 #[s0, s1, s2, s3, s4, s5, s6, s7, s8, s9, s10, s11, s12, s13, s14, s15, s16, s17, s18, s19, s20, s21, s22, s23, s24, s25] H K = WS16_110100 s0 s1 s2 s3 s4 s5 s6 s7 s8 s9 s10 s11 s12 s13 s14 s15 s16 s17 s18 s19 s20 s21 s22 s23 s24 s25 H K := by kernel_rfl
/-- The slots that matter; the others hold what they may. -/
def FS16 (s0 s1 s4 s12 s13 : DV) (ts : Array DV) : Prop := ∃ d : Nat → DV, ts = #[s0, s1, d 2, d 3, s4, d 5, d 6, d 7, d 8, d 9, d 10, d 11, s12, s13, d 14, d 15, d 16, d 17, d 18, d 19, d 20, d 21, d 22, d 23, d 24, d 25]
theorem FS16_mk (s0 s1 s2 s3 s4 s5 s6 s7 s8 s9 s10 s11 s12 s13 s14 s15 s16 s17 s18 s19 s20 s21 s22 s23 s24 s25 : DV) : FS16 s0 s1 s4 s12 s13 #[s0, s1, s2, s3, s4, s5, s6, s7, s8, s9, s10, s11, s12, s13, s14, s15, s16, s17, s18, s19, s20, s21, s22, s23, s24, s25] := ⟨fun i => [s0, s1, s2, s3, s4, s5, s6, s7, s8, s9, s10, s11, s12, s13, s14, s15, s16, s17, s18, s19, s20, s21, s22, s23, s24, s25].getD i undefD, by kernel_rfl⟩
theorem LS16_111 {s0 s1 s4 s12 s13 : DV} {ts : Array DV} {H : VHeap} {K : Ex → Array DV → VHeap → Prop} (h0 : FS16 s0 s1 s4 s12 s13 ts) (h : ∀ d : Nat → DV, WS16_111 s0 s1 (d 2) (d 3) s4 (d 5) (d 6) (d 7) (d 8) (d 9) (d 10) (d 11) s12 s13 (d 14) (d 15) (d 16) (d 17) (d 18) (d 19) (d 20) (d 21) (d 22) (d 23) (d 24) (d 25) H K) : VWc Try.prog tabS vorcS 16 S16_111 ts H K := by
  obtain ⟨d, rfl⟩ := h0
  rw [ES16_111]; exact h d
theorem LS16_110100 {s0 s1 s4 s12 s13 : DV} {ts : Array DV} {H : VHeap} {K : Ex → Array DV → VHeap → Prop} (h0 : FS16 s0 s1 s4 s12 s13 ts) (h : ∀ d : Nat → DV, WS16_110100 s0 s1 (d 2) (d 3) s4 (d 5) (d 6) (d 7) (d 8) (d 9) (d 10) (d 11) s12 s13 (d 14) (d 15) (d 16) (d 17) (d 18) (d 19) (d 20) (d 21) (d 22) (d 23) (d 24) (d 25) H K) : VWc Try.prog tabS vorcS 16 S16_110100 ts H K := by
  obtain ⟨d, rfl⟩ := h0
  rw [ES16_110100]; exact h d
theorem res16 {s0 s1 s4 s12 s13 : DV} {ts : Array DV} {H : VHeap} (h0 : FS16 s0 s1 s4 s12 s13 ts) : resultsD Try.prog R16 ts H = some [s4] := by
  obtain ⟨d, rfl⟩ := h0
  rfl
def W16 (mv : Bool) (a0 a1 : DV) (H : VHeap) (Q : DV → VHeap → Prop) : Prop :=
  obind (vlen1 Try.prog [a0] [24] H) fun x0 =>
  obind (vlen1 Try.prog [a1] [24] H) fun x1 =>
  obind (vbin Try.prog .neq 3 (.tmp 7) (.tmp 9) x0 x1) fun x2 =>
  condD x2 (
  obind (leaveD H mv [(.d (.v (.bool false)))] H) fun r3 => Q (packD r3.1) r3.2) (
  obind (vlen1 Try.prog [a0] [24] H) fun x4 =>
  VWloop Try.prog tabS vorcS 16 S16_110100 #[a0, a1, undefD, undefD, (.d (.v (.bool false))), undefD, a0, x0, a1, x1, x2, a0, x4, (.d (.v (.int .i64 0))), undefD, undefD, undefD, undefD, undefD, undefD, undefD, undefD, undefD, undefD, undefD, undefD] H (blockD 0 (seqD (fun t h k => VWc Try.prog tabS vorcS 16 S16_111 t h k) (endD Try.prog H mv R16 Q))))
theorem E16 (mv : Bool) (a0 a1 : DV) (H : VHeap) (Q : DV → VHeap → Prop) : VWc Try.prog tabS vorcS 16 C16 (enterD Try.f16 [a0, a1]) H (endD Try.prog H mv Try.f16.results.toList Q) = W16 mv a0 a1 H Q := by kernel_rfl
theorem ev16 (mv : Bool) (a0 a1 : DV) {H : VHeap} {Q : DV → VHeap → Prop} (h : W16 mv a0 a1 H Q) : VEv Try.prog tabS vorcS 16 mv [a0, a1] H Q :=
  VEv_ofW (by rfl) Try.func16 cal16 body16 (E16 mv a0 a1 H Q) h
end Go.Proofs
namespace Go.Proofs
open Go Go.Abs
set_option linter.unusedVariables false
set_option maxRecDepth 100000
/-! 50 slices.Clone[[]uint16,uint16] -/
theorem cal50 : callable Try.f50 = true := by kernel_rfl
noncomputable def C50 : Code := Try.f50.body.getD .skip
theorem body50 : Try.f50.body = some C50 := by kernel_rfl

noncomputable def R50 : List ResultVar := Try.f50.results.toList
def W50 (mv : Bool) (a0 : DV) (H : VHeap) (Q : DV → VHeap → Prop) : Prop :=
  obind (vbin Try.prog .eql 24 (.tmp 3) (.const (.slice none 0 0)) a0 (.d (.v (.slice none 0 0)))) fun x0 =>
  condD x0 (
  obind (leaveD H mv [(.d (.v (.slice none 0 0)))] H) fun r1 => Q (packD r1.1) r1.2) (
  obind (vbuildS Try.prog 24 0 []) fun x2 =>
  letK (H ++ [.cells x2.1 .fix false 0 0]) fun h3 =>
  obind (vappend Try.prog #[24, 24] [(.slc (List.length H) 0 0 0 0 x2.2), a0] h3) fun x4 =>
  obind (leaveD H mv [x4.1] x4.2) fun r5 => Q (packD r5.1) r5.2)
theorem E50 (mv : Bool) (a0 : DV) (H : VHeap) (Q : DV → VHeap → Prop) : VWc Try.prog tabS vorcS 50 C50 (enterD Try.f50 [a0]) H (endD Try.prog H mv Try.f50.results.toList Q) = W50 mv a0 H Q := by kernel_rfl
theorem ev50 (mv : Bool) (a0 : DV) {H : VHeap} {Q : DV → VHeap → Prop} (ho : vask vorcS 50 mv [a0] H = none) (h : W50 mv a0 H Q) : VEv Try.prog tabS vorcS 50 mv [a0] H Q :=
  VEv_ofW ho Try.func50 cal50 body50 (E50 mv a0 H Q) h
/-! 51 saucier/bank.fit -/
theorem cal51 : callable Try.f51 = true := by kernel_rfl
noncomputable def C51 : Code := Try.f51.body.getD .skip
theorem body51 : Try.f51.body = some C51 := by kernel_rfl

noncomputable def R51 : List ResultVar := Try.f51.results.toList
def W51 (mv : Bool) (a0 : DV) (H : VHeap) (Q : DV → VHeap → Prop) : Prop :=
  VCl Try.prog tabS vorcS 51 58 [a0, (.func 59 [] [])] H fun x0 h1 =>
  obind (vun Try.prog .not x0) fun x2 =>
  obind (leaveD H mv [x2] h1) fun r3 => Q (packD r3.1) r3.2
theorem E51 (mv : Bool) (a0 : DV) (H : VHeap) (Q : DV → VHeap → Prop) : VWc Try.prog tabS vorcS 51 C51 (enterD Try.f51 [a0]) H (endD Try.prog H mv Try.f51.results.toList Q) = W51 mv a0 H Q := by kernel_rfl
theorem ev51 (mv : Bool) (a0 : DV) {H : VHeap} {Q : DV → VHeap → Prop} (h : W51 mv a0 H Q) : VEv Try.prog tabS vorcS 51 mv [a0] H Q :=
  VEv_ofW (by rfl) Try.func51 cal51 body51 (E51 mv a0 H Q) h
/-! 58 slices.ContainsFunc[[]saucier/api.Block,saucier/api.Block] -/
theorem cal58 : callable Try.f58 = true := by kernel_rfl
noncomputable def C58 : Code := Try.f58.body.getD .skip
theorem body58 : Try.f58.body = some C58 := by kernel_rfl

noncomputable def R58 : List ResultVar := Try.f58.results.toList
def W58 (mv : Bool) (a0 a1 : DV) (H : VHeap) (Q : DV → VHeap → Prop) : Prop :=
  VCl Try.prog tabS vorcS 58 62 [a0, a1] H fun x0 h1 =>
  obind (vbin Try.prog .geq 3 (.tmp 7) (.const (.int .i64 0)) x0 (.d (.v (.int .i64 0)))) fun x2 =>
  obind (leaveD H mv [x2] h1) fun r3 => Q (packD r3.1) r3.2
theorem E58 (mv : Bool) (a0 a1 : DV) (H : VHeap) (Q : DV → VHeap → Prop) : VWc Try.prog tabS vorcS 58 C58 (enterD Try.f58 [a0, a1]) H (endD Try.prog H mv Try.f58.results.toList Q) = W58 mv a0 a1 H Q := by kernel_rfl
theorem ev58 (mv : Bool) (a0 a1 : DV) {H : VHeap} {Q : DV → VHeap → Prop} (h : W58 mv a0 a1 H Q) : VEv Try.prog tabS vorcS 58 mv [a0, a1] H Q :=
  VEv_ofW (by rfl) Try.func58 cal58 body58 (E58 mv a0 a1 H Q) h
/-! 59 saucier/bank.fit$1 -/
theorem cal59 : callable Try.f59 = true := by kernel_rfl
noncomputable def C59 : Code := Try.f59.body.getD .skip
theorem body59 : Try.f59.body = some C59 := by kernel_rfl

noncomputable def R59 : List ResultVar := Try.f59.results.toList
def W59 (mv : Bool) (a0 : DV) (H : VHeap) (Q : DV → VHeap → Prop) : Prop :=
  letK (H ++ [.cells (vcells a0) .fix false 0 0]) fun h0 =>
  obind (vload Try.prog 26 (.ptr (List.length H) 0 0) h0) fun x1 =>
  VCl Try.prog tabS vorcS 59 17 [x1] h0 fun x2 h3 =>
  obind (vun Try.prog .not x2) fun x4 =>
  obind (leaveD H mv [x4] h3) fun r5 => Q (packD r5.1) r5.2
theorem E59 (mv : Bool) (a0 : DV) (H : VHeap) (Q : DV → VHeap → Prop) : VWc Try.prog tabS vorcS 59 C59 (enterD Try.f59 [a0]) H (endD Try.prog H mv Try.f59.results.toList Q) = W59 mv a0 H Q := by kernel_rfl
theorem ev59 (mv : Bool) (a0 : DV) {H : VHeap} {Q : DV → VHeap → Prop} (h : W59 mv a0 H Q) : VEv Try.prog tabS vorcS 59 mv [a0] H Q :=
  VEv_ofW (by rfl) Try.func59 cal59 body59 (E59 mv a0 H Q) h
/-! 62 slices.IndexFunc[[]saucier/api.Block,saucier/api.Block] -/
theorem cal62 : callable Try.f62 = true := by kernel_rfl
noncomputable def C62 : Code := Try.f62.body.getD .skip
theorem body62 : Try.f62.body = some C62 := by kernel_rfl

noncomputable def R62 : List ResultVar := Try.f62.results.toList
noncomputable def S62_11 : Code := subC C62 [1, 1]
noncomputable def S62_10100 : Code := subC C62 [1, 0, 1, 0, 0]
def WS62_11 (s0 s1 s2 s3 s4 s5 s6 s7 s8 s9 s10 s11 s12 s13 s14 s15 s16 s17 s18 : DV) (H : VHeap) (K : Ex → Array DV → VHeap → Prop) : Prop :=
  K .ret #[s0, s1, s2, s3, (.d (.v (.int .i64 (-1)))), s5, s6, s7, s8, s9, s10, s11, s12, s13, s14, s15, s16, s17, s18] H
theorem ES62_11 (s0 s1 s2 s3 s4 s5 s6 s7 s8 s9 s10 s11 s12 s13 s14 s15 s16 s17 s18 : DV) (H : VHeap) (K : Ex → Array DV → VHeap → Prop) : VWc Try.prog tabS vorcS 62 S62_11 #[s0, s1, s2, s3, s4, s5, s6, s7, s8, s9, s10, s11, s12, s13, s14, s15, s16, s17, s18] H K = WS62_11 s0 s1 s2 s3 s4 s5 s6 s7 s8 s9 s10 s11 s12 s13 s14 s15 s16 s17 s18 H K := by kernel_rfl
def WS62_10100 (s0 s1 s2 s3 s4 s5 s6 s7 s8 s9 s10 s11 s12 s13 s14 s15 s16 s17 s18 : DV) (H : VHeap) (K : Ex → Array DV → VHeap → Prop) : Prop :=
  obind (vbin Try.prog .lss 3 (.tmp 8) (.tmp 7) s8 s7) fun x0 =>
  condD x0 (
  obind (vindexAddr Try.prog 36 s0 s8) fun x1 =>
  obind (vload Try.prog 26 x1 H) fun x2 =>
  obind (vfuncV s1) fun x3 =>
  VCl Try.prog tabS vorcS 62 x3.1 ((x3.2.1 ++ [x2]) ++ x3.2.2) H fun x4 h5 =>
  condD x4 (
  K .ret #[s0, s1, s2, s3, s8, s8, s6, s7, s8, x0, s8, s1, s0, s8, x1, x2, x4, s8, s18] h5) (
  obind (vbin Try.prog .add 3 (.tmp 8) (.const (.int .i64 1)) s8 (.d (.v (.int .i64 1)))) fun x6 =>
  K .normal #[s0, s1, s2, s3, s4, s8, s6, s7, x6, x0, s8, s1, s0, s8, x1, x2, x4, s17, x6] h5)) (
  K (.exit 0) #[s0, s1, s2, s3, s4, s5, s6, s7, s8, x0, s10, s11, s12, s13, s14, s15, s16, s17, s18] H)
theorem ES62_10100 (s0 s1 s2 s3 s4 s5 s6 s7 s8 s9 s10 s11 s12 s13 s14 s15 s16 s17 s18 : DV) (H : VHeap) (K : Ex → Array DV → VHeap → Prop) : VWc Try.prog tabS vorcS 62 S62_10100 #[s0, s1, s2, s3, s4, s5, s6, s7, s8, s9, s10, s11, s12, s13, s14, s15, s16, s17, s18] H K = WS62_10100 s0 s1 s2 s3 s4 s5 s6 s7 s8 s9 s10 s11 s12 s13 s14 s15 s16 s17 s18 H K := by kernel_rfl
/-- The slots that matter; the others hold what they may. -/
def FS62 (s0 s1 s4 s7 s8 : DV) (ts : Array DV) : Prop := ∃ d : Nat → DV, ts = #[s0, s1, d 2, d 3, s4, d 5, d 6, s7, s8, d 9, d 10, d 11, d 12, d 13, d 14, d 15, d 16, d 17, d 18]
theorem FS62_mk (s0 s1 s2 s3 s4 s5 s6 s7 s8 s9 s10 s11 s12 s13 s14 s15 s16 s17 s18 : DV) : FS62 s0 s1 s4 s7 s8 #[s0, s1, s2, s3, s4, s5, s6, s7, s8, s9, s10, s11, s12, s13, s14, s15, s16, s17, s18] := ⟨fun i => [s0, s1, s2, s3, s4, s5, s6, s7, s8, s9, s10, s11, s12, s13, s14, s15, s16, s17, s18].getD i undefD, by kernel_rfl⟩
theorem LS62_11 {s0 s1 s4 s7 s8 : DV} {ts : Array DV} {H : VHeap} {K : Ex → Array DV → VHeap → Prop} (h0 : FS62 s0 s1 s4 s7 s8 ts) (h : ∀ d : Nat → DV, WS62_11 s0 s1 (d 2) (d 3) s4 (d 5) (d 6) s7 s8 (d 9) (d 10) (d 11) (d 12) (d 13) (d 14) (d 15) (d 16) (d 17) (d 18) H K) : VWc Try.prog tabS vorcS 62 S62_11 ts H K := by
  obtain ⟨d, rfl⟩ := h0
  rw [ES62_11]; exact h d
theorem LS62_10100 {s0 s1 s4 s7 s8 : DV} {ts : Array DV} {H : VHeap} {K : Ex → Array DV → VHeap → Prop} (h0 : FS62 s0 s1 s4 s7 s8 ts) (h : ∀ d : Nat → DV, WS62_10100 s0 s1 (d 2) (d 3) s4 (d 5) (d 6) s7 s8 (d 9) (d 10) (d 11) (d 12) (d 13) (d 14) (d 15) (d 16) (d 17) (d 18) H K) : VWc Try.prog tabS vorcS 62 S62_10100 ts H K := by
  obtain ⟨d, rfl⟩ := h0
  rw [ES62_10100]; exact h d
theorem res62 {s0 s1 s4 s7 s8 : DV} {ts : Array DV} {H : VHeap} (h0 : FS62 s0 s1 s4 s7 s8 ts) : resultsD Try.prog R62 ts H = some [s4] := by
  obtain ⟨d, rfl⟩ := h0
  rfl
def W62 (mv : Bool) (a0 a1 : DV) (H : VHeap) (Q : DV → VHeap → Prop) : Prop :=
  obind (vlen1 Try.prog [a0] [36] H) fun x0 =>
  VWloop Try.prog tabS vorcS 62 S62_10100 #[a0, a1, undefD, undefD, (.d (.v (.int .i64 0))), undefD, a0, x0, (.d (.v (.int .i64 0))), undefD, undefD, undefD, undefD, undefD, undefD, undefD, undefD, undefD, undefD] H (blockD 0 (seqD (fun t h k => VWc Try.prog tabS vorcS 62 S62_11 t h k) (endD Try.prog H mv R62 Q)))
theorem E62 (mv : Bool) (a0 a1 : DV) (H : VHeap) (Q : DV → VHeap → Prop) : VWc Try.prog tabS vorcS 62 C62 (enterD Try.f62 [a0, a1]) H (endD Try.prog H mv Try.f62.results.toList Q) = W62 mv a0 a1 H Q := by kernel_rfl
theorem ev62 (mv : Bool) (a0 a1 : DV) {H : VHeap} {Q : DV → VHeap → Prop} (h : W62 mv a0 a1 H Q) : VEv Try.prog tabS vorcS 62 mv [a0, a1] H Q :=
  VEv_ofW (by rfl) Try.func62 cal62 body62 (E62 mv a0 a1 H Q) h
/-! 21 saucier/bank.Over -/
theorem cal21 : callable Try.f21 = true := by kernel_rfl
noncomputable def C21 : Code := Try.f21.body.getD .skip
theorem body21 : Try.f21.body = some C21 := by kernel_rfl

noncomputable def R21 : List ResultVar := Try.f21.results.toList
noncomputable def S21_1111 : Code := subC C21 [1, 1, 1, 1]
noncomputable def S21_1110100 : Code := subC C21 [1, 1, 1, 0, 1, 0, 0]
def WS21_1111 (s0 s1 s2 s3 s4 s5 s6 s7 s8 s9 s10 s11 s12 s13 s14 s15 s16 s17 s18 s19 s20 s21 s22 s23 s24 s25 s26 s27 s28 s29 s30 s31 s32 s33 : DV) (H : VHeap) (K : Ex → Array DV → VHeap → Prop) : Prop :=
  K .ret #[s0, s1, s2, s3, s6, (.d (.v (.int .i64 0))), s6, s7, s8, s9, s10, s11, s12, s13, s14, s15, s16, s17, s18, s19, s20, s21, s22, s23, s24, s25, s26, s27, s28, s29, s30, s31, s32, s6] H
theorem ES21_1111 (s0 s1 s2 s3 s4 s5 s6 s7 s8 s9 s10 s11 s12 s13 s14 s15 s16 s17 s18 s19 s20 s21 s22 s23 s24 s25 s26 s27 s28 s29 s30 s31 s32 s33 : DV) (H : VHeap) (K : Ex → Array DV → VHeap → Prop) : VWc Try.prog tabS vorcS 21 S21_1111 #[s0, s1, s2, s3, s4, s5, s6, s7, s8, s9, s10, s11, s12, s13, s14, s15, s16, s17, s18, s19, s20, s21, s22, s23, s24, s25, s26, s27, s28, s29, s30, s31, s32, s33] H K = WS21_1111 s0 s1 s2 s3 s4 s5 s6 s7 s8 s9 s10 s11 s12 s13 s14 s15 s16 s17 s18 s19 s20 s21 s22 s23 s24 s25 s26 s27 s28 s29 s30 s31 s32 s33 H K := by kernel_rfl
def WS21_1110100 (s0 s1 s2 s3 s4 s5 s6 s7 s8 s9 s10 s11 s12 s13 s14 s15 s16 s17 s18 s19 s20 s21 s22 s23 s24 s25 s26 s27 s28 s29 s30 s31 s32 s33 : DV) (H : VHeap) (K : Ex → Array DV → VHeap → Prop) : Prop :=
  obind (vbin Try.prog .lss 3 (.tmp 21) (.tmp 20) s21 s20) fun x0 =>
  condD x0 (
  obind (vindexAddr Try.prog 36 s19 s21) fun x1 =>
  obind (vload Try.prog 26 x1 H) fun x2 =>
  obind (zeroT Try.prog 26) fun x3 =>
  letK (H ++ [.cells (zD x3) .fix false 0 0]) fun h4 =>
  obind (vstore Try.prog 26 (.ptr (List.length H) 0 0) x2 h4) fun x5 =>
  obind (vfieldAddr Try.prog 26 (.ptr (List.length H) 0 0) 0) fun x6 =>
  obind (vload Try.prog 3 x6 x5) fun x7 =>
  obind (vslice Try.prog 24 s6 (some x7) none none x5) fun x8 =>
  obind (vfieldAddr Try.prog 26 (.ptr (List.length H) 0 0) 1) fun x9 =>
  obind (vload Try.prog 24 x9 x5) fun x10 =>
  obind (vcopy Try.prog #[24, 24] [x8, x10] x5) fun x11 =>
  (True) ∧
  obind (vbin Try.prog .add 3 (.tmp 21) (.const (.int .i64 1)) s21 (.d (.v (.int .i64 1)))) fun x12 =>
  K .normal #[s0, s1, s2, s3, s4, s5, s6, s7, (.ptr (List.length H) 0 0), s9, s10, s11, s12, s13, s14, s15, s16, s17, s18, s19, s20, x12, x0, x1, x2, s6, x6, x7, x8, x9, x10, x11.1, x12, s33] x11.2) (
  K (.exit 1) #[s0, s1, s2, s3, s4, s5, s6, s7, s8, s9, s10, s11, s12, s13, s14, s15, s16, s17, s18, s19, s20, s21, x0, s23, s24, s25, s26, s27, s28, s29, s30, s31, s32, s33] H)
theorem ES21_1110100 (s0 s1 s2 s3 s4 s5 s6 s7 s8 s9 s10 s11 s12 s13 s14 s15 s16 s17 s18 s19 s20 s21 s22 s23 s24 s25 s26 s27 s28 s29 s30 s31 s32 s33 : DV) (H : VHeap) (K : Ex → Array DV → VHeap → Prop) : VWc Try.prog tabS vorcS 21 S21_1110100 #[s0, s1, s2, s3, s4, s5, s6, s7, s8, s9, s10, s11, s12, s13, s14, s15, s16, s17, s18, s19, s20, s21, s22, s23, s24, s25, s26, s27, s28, s29, s30, s31, s32, s33] H K = WS21_1110100 s0 s1 s2 s3 s4 s5 s6 s7 s8 s9 s10 s11 s12 s13 s14 s15 s16 s17 s18 s19 s20 s21 s22 s23 s24 s25 s26 s27 s28 s29 s30 s31 s32 s33 H K := by kernel_rfl
/-- The slots that matter; the others hold what they may. -/
def FS21 (s4 s5 s6 s19 s20 s21 : DV) (ts : Array DV) : Prop := ∃ d : Nat → DV, ts = #[d 0, d 1, d 2, d 3, s4, s5, s6, d 7, d 8, d 9, d 10, d 11, d 12, d 13, d 14, d 15, d 16, d 17, d 18, s19, s20, s21, d 22, d 23, d 24, d 25, d 26, d 27, d 28, d 29, d 30, d 31, d 32, d 33]
theorem FS21_mk (s0 s1 s2 s3 s4 s5 s6 s7 s8 s9 s10 s11 s12 s13 s14 s15 s16 s17 s18 s19 s20 s21 s22 s23 s24 s25 s26 s27 s28 s29 s30 s31 s32 s33 : DV) : FS21 s4 s5 s6 s19 s20 s21 #[s0, s1, s2, s3, s4, s5, s6, s7, s8, s9, s10, s11, s12, s13, s14, s15, s16, s17, s18, s19, s20, s21, s22, s23, s24, s25, s26, s27, s28, s29, s30, s31, s32, s33] := ⟨fun i => [s0, s1, s2, s3, s4, s5, s6, s7, s8, s9, s10, s11, s12, s13, s14, s15, s16, s17, s18, s19, s20, s21, s22, s23, s24, s25, s26, s27, s28, s29, s30, s31, s32, s33].getD i undefD, by kernel_rfl⟩
theorem LS21_1111 {s4 s5 s6 s19 s20 s21 : DV} {ts : Array DV} {H : VHeap} {K : Ex → Array DV → VHeap → Prop} (h0 : FS21 s4 s5 s6 s19 s20 s21 ts) (h : ∀ d : Nat → DV, WS21_1111 (d 0) (d 1) (d 2) (d 3) s4 s5 s6 (d 7) (d 8) (d 9) (d 10) (d 11) (d 12) (d 13) (d 14) (d 15) (d 16) (d 17) (d 18) s19 s20 s21 (d 22) (d 23) (d 24) (d 25) (d 26) (d 27) (d 28) (d 29) (d 30) (d 31) (d 32) (d 33) H K) : VWc Try.prog tabS vorcS 21 S21_1111 ts H K := by
  obtain ⟨d, rfl⟩ := h0
  rw [ES21_1111]; exact h d
theorem LS21_1110100 {s4 s5 s6 s19 s20 s21 : DV} {ts : Array DV} {H : VHeap} {K : Ex → Array DV → VHeap → Prop} (h0 : FS21 s4 s5 s6 s19 s20 s21 ts) (h : ∀ d : Nat → DV, WS21_1110100 (d 0) (d 1) (d 2) (d 3) s4 s5 s6 (d 7) (d 8) (d 9) (d 10) (d 11) (d 12) (d 13) (d 14) (d 15) (d 16) (d 17) (d 18) s19 s20 s21 (d 22) (d 23) (d 24) (d 25) (d 26) (d 27) (d 28) (d 29) (d 30) (d 31) (d 32) (d 33) H K) : VWc Try.prog tabS vorcS 21 S21_1110100 ts H K := by
  obtain ⟨d, rfl⟩ := h0
  rw [ES21_1110100]; exact h d
theorem res21 {s4 s5 s6 s19 s20 s21 : DV} {ts : Array DV} {H : VHeap} (h0 : FS21 s4 s5 s6 s19 s20 s21 ts) : resultsD Try.prog R21 ts H = some [s4, s5] := by
  obtain ⟨d, rfl⟩ := h0
  rfl
def W21 (mv : Bool) (a0 a1 : DV) (H : VHeap) (Q : DV → VHeap → Prop) : Prop :=
  obind (vlen1 Try.prog [a0] [24] H) fun x0 =>
  obind (vbin Try.prog .neq 3 (.tmp 11) (.const (.int .i64 64)) x0 (.d (.v (.int .i64 64)))) fun x1 =>
  condD x1 (
  obind (leaveD H mv [(.d (.v (.slice none 0 0))), (.d (.v (.int .i64 21)))] H) fun r2 => Q (packD r2.1) r2.2) (
  VCl Try.prog tabS vorcS 21 51 [a1] H fun x3 h4 =>
  obind (vun Try.prog .not x3) fun x5 =>
  condD x5 (
  obind (leaveD H mv [(.d (.v (.slice none 0 0))), (.d (.v (.int .i64 20)))] h4) fun r6 => Q (packD r6.1) r6.2) (
  VCl Try.prog tabS vorcS 21 50 [a0] h4 fun x7 h8 =>
  obind (vlen1 Try.prog [a1] [36] h8) fun x9 =>
  VWloop Try.prog tabS vorcS 21 S21_1110100 #[a0, a1, undefD, undefD, (.d (.v (.slice none 0 0))), (.d (.v (.int .i64 0))), x7, undefD, undefD, x1, a0, x0, x1, x5, a1, x3, x5, a0, x7, a1, x9, (.d (.v (.int .i64 0))), undefD, undefD, undefD, undefD, undefD, undefD, undefD, undefD, undefD, undefD, undefD, undefD] h8 (blockD 1 (seqD (fun t h k => VWc Try.prog tabS vorcS 21 S21_1111 t h k) (endD Try.prog H mv R21 Q)))))
theorem E21 (mv : Bool) (a0 a1 : DV) (H : VHeap) (Q : DV → VHeap → Prop) : VWc Try.prog tabS vorcS 21 C21 (enterD Try.f21 [a0, a1]) H (endD Try.prog H mv Try.f21.results.toList Q) = W21 mv a0 a1 H Q := by kernel_rfl
theorem ev21 (mv : Bool) (a0 a1 : DV) {H : VHeap} {Q : DV → VHeap → Prop} (h : W21 mv a0 a1 H Q) : VEv Try.prog tabS vorcS 21 mv [a0, a1] H Q :=
  VEv_ofW (by rfl) Try.func21 cal21 body21 (E21 mv a0 a1 H Q) h
end Go.Proofs
namespace Go.Proofs
open Go Go.Abs
set_option linter.unusedVariables false
set_option maxRecDepth 100000
/-! 15 saucier/stage.Words -/
theorem cal15 : callable Try.f15 = true := by kernel_rfl
noncomputable def C15 : Code := Try.f15.body.getD .skip
theorem body15 : Try.f15.body = some C15 := by kernel_rfl

noncomputable def R15 : List ResultVar := Try.f15.results.toList
def W15 (mv : Bool) (a0 a1 a2 a3 : DV) (H : VHeap) (Q : DV → VHeap → Prop) : Prop :=
  letK (H ++ [.cells (vcells a3) .fix false 0 0]) fun h0 =>
  obind (vload Try.prog 26 (.ptr (List.length H) 0 0) h0) fun x1 =>
  VCl Try.prog tabS vorcS 15 43 [a2, x1] h0 fun x2 h3 =>
  obind (vbin Try.prog .neq 28 (.tmp 16) (.const (.int .i64 0)) x2 (.d (.v (.int .i64 0)))) fun x4 =>
  condD x4 (
  obind (leaveD H mv [(.d (.v (.slice none 0 0))), x2] h3) fun r5 => Q (packD r5.1) r5.2) (
  VCl Try.prog tabS vorcS 15 44 [a1] h3 fun x6 h7 =>
  obind (vtupleV x6) fun x8 =>
  obind (x8[0]?) fun x9 =>
  obind (vtupleV x6) fun x10 =>
  obind (x10[1]?) fun x11 =>
  obind (vconvert Try.prog 3 22 a2 h7) fun x12 =>
  obind (vbuildS Try.prog 24 4 [(0, a0), (1, x9), (2, x11), (3, x12)]) fun x13 =>
  letK (h7 ++ [.cells x13.1 .fix false 0 0]) fun h14 =>
  obind (vload Try.prog 26 (.ptr (List.length H) 0 0) h14) fun x15 =>
  VCl Try.prog tabS vorcS 15 45 [x15] h14 fun x16 h17 =>
  obind (vappend Try.prog #[24, 24] [(.slc (List.length h7) 0 0 4 4 x13.2), x16] h17) fun x18 =>
  obind (leaveD H mv [x18.1, (.d (.v (.int .i64 0)))] x18.2) fun r19 => Q (packD r19.1) r19.2)
theorem E15 (mv : Bool) (a0 a1 a2 a3 : DV) (H : VHeap) (Q : DV → VHeap → Prop) : VWc Try.prog tabS vorcS 15 C15 (enterD Try.f15 [a0, a1, a2, a3]) H (endD Try.prog H mv Try.f15.results.toList Q) = W15 mv a0 a1 a2 a3 H Q := by kernel_rfl
theorem ev15 (mv : Bool) (a0 a1 a2 a3 : DV) {H : VHeap} {Q : DV → VHeap → Prop} (h : W15 mv a0 a1 a2 a3 H Q) : VEv Try.prog tabS vorcS 15 mv [a0, a1, a2, a3] H Q :=
  VEv_ofW (by rfl) Try.func15 cal15 body15 (E15 mv a0 a1 a2 a3 H Q) h
/-! 18 saucier/bank.Same -/
theorem cal18 : callable Try.f18 = true := by kernel_rfl
noncomputable def C18 : Code := Try.f18.body.getD .skip
theorem body18 : Try.f18.body = some C18 := by kernel_rfl

noncomputable def R18 : List ResultVar := Try.f18.results.toList
def W18 (mv : Bool) (a0 a1 : DV) (H : VHeap) (Q : DV → VHeap → Prop) : Prop :=
  VCl Try.prog tabS vorcS 18 46 [a0, a1, (.func 47 [] [])] H fun x0 h1 =>
  obind (leaveD H mv [x0] h1) fun r2 => Q (packD r2.1) r2.2
theorem E18 (mv : Bool) (a0 a1 : DV) (H : VHeap) (Q : DV → VHeap → Prop) : VWc Try.prog tabS vorcS 18 C18 (enterD Try.f18 [a0, a1]) H (endD Try.prog H mv Try.f18.results.toList Q) = W18 mv a0 a1 H Q := by kernel_rfl
theorem ev18 (mv : Bool) (a0 a1 : DV) {H : VHeap} {Q : DV → VHeap → Prop} (h : W18 mv a0 a1 H Q) : VEv Try.prog tabS vorcS 18 mv [a0, a1] H Q :=
  VEv_ofW (by rfl) Try.func18 cal18 body18 (E18 mv a0 a1 H Q) h
/-! 40 saucier/stage.number -/
theorem cal40 : callable Try.f40 = true := by kernel_rfl
noncomputable def C40 : Code := Try.f40.body.getD .skip
theorem body40 : Try.f40.body = some C40 := by kernel_rfl

noncomputable def R40 : List ResultVar := Try.f40.results.toList
def W40 (mv : Bool) (a0 : DV) (H : VHeap) (Q : DV → VHeap → Prop) : Prop :=
  obind (vbin Try.prog .geq 3 (.tmp 3) (.const (.int .i64 0)) a0 (.d (.v (.int .i64 0)))) fun x0 =>
  condD x0 (
  obind (vbin Try.prog .lss 3 (.tmp 6) (.const (.int .i64 8)) a0 (.d (.v (.int .i64 8)))) fun x1 =>
  obind (leaveD H mv [x1] H) fun r2 => Q (packD r2.1) r2.2) (
  obind (leaveD H mv [(.d (.v (.bool false)))] H) fun r3 => Q (packD r3.1) r3.2)
theorem E40 (mv : Bool) (a0 : DV) (H : VHeap) (Q : DV → VHeap → Prop) : VWc Try.prog tabS vorcS 40 C40 (enterD Try.f40 [a0]) H (endD Try.prog H mv Try.f40.results.toList Q) = W40 mv a0 H Q := by kernel_rfl
theorem ev40 (mv : Bool) (a0 : DV) {H : VHeap} {Q : DV → VHeap → Prop} (h : W40 mv a0 H Q) : VEv Try.prog tabS vorcS 40 mv [a0] H Q :=
  VEv_ofW (by rfl) Try.func40 cal40 body40 (E40 mv a0 H Q) h
/-! 43 saucier/stage.may -/
theorem cal43 : callable Try.f43 = true := by kernel_rfl
noncomputable def C43 : Code := Try.f43.body.getD .skip
theorem body43 : Try.f43.body = some C43 := by kernel_rfl

noncomputable def R43 : List ResultVar := Try.f43.results.toList
def W43 (mv : Bool) (a0 a1 : DV) (H : VHeap) (Q : DV → VHeap → Prop) : Prop :=
  letK (H ++ [.cells (vcells a1) .fix false 0 0]) fun h0 =>
  VCl Try.prog tabS vorcS 43 40 [a0] h0 fun x1 h2 =>
  obind (vun Try.prog .not x1) fun x3 =>
  condD x3 (
  obind (leaveD H mv [(.d (.v (.int .i64 2)))] h2) fun r4 => Q (packD r4.1) r4.2) (
  obind (vload Try.prog 26 (.ptr (List.length H) 0 0) h2) fun x5 =>
  VCl Try.prog tabS vorcS 43 17 [x5] h2 fun x6 h7 =>
  obind (vun Try.prog .not x6) fun x8 =>
  condD x8 (
  obind (leaveD H mv [(.d (.v (.int .i64 20)))] h7) fun r9 => Q (packD r9.1) r9.2) (
  obind (leaveD H mv [(.d (.v (.int .i64 0)))] h7) fun r10 => Q (packD r10.1) r10.2))
theorem E43 (mv : Bool) (a0 a1 : DV) (H : VHeap) (Q : DV → VHeap → Prop) : VWc Try.prog tabS vorcS 43 C43 (enterD Try.f43 [a0, a1]) H (endD Try.prog H mv Try.f43.results.toList Q) = W43 mv a0 a1 H Q := by kernel_rfl
theorem ev43 (mv : Bool) (a0 a1 : DV) {H : VHeap} {Q : DV → VHeap → Prop} (h : W43 mv a0 a1 H Q) : VEv Try.prog tabS vorcS 43 mv [a0, a1] H Q :=
  VEv_ofW (by rfl) Try.func43 cal43 body43 (E43 mv a0 a1 H Q) h
/-! 44 saucier/words.Parts -/
theorem cal44 : callable Try.f44 = true := by kernel_rfl
noncomputable def C44 : Code := Try.f44.body.getD .skip
theorem body44 : Try.f44.body = some C44 := by kernel_rfl

noncomputable def R44 : List ResultVar := Try.f44.results.toList
def W44 (mv : Bool) (a0 : DV) (H : VHeap) (Q : DV → VHeap → Prop) : Prop :=
  obind (vbin Try.prog .shr 23 (.tmp 4) (.const (.int .u64 16)) a0 (.d (.v (.int .u64 16)))) fun x0 =>
  obind (vconvert Try.prog 23 22 x0 H) fun x1 =>
  obind (vconvert Try.prog 23 22 a0 H) fun x2 =>
  obind (leaveD H mv [x1, x2] H) fun r3 => Q (packD r3.1) r3.2
theorem E44 (mv : Bool) (a0 : DV) (H : VHeap) (Q : DV → VHeap → Prop) : VWc Try.prog tabS vorcS 44 C44 (enterD Try.f44 [a0]) H (endD Try.prog H mv Try.f44.results.toList Q) = W44 mv a0 H Q := by kernel_rfl
theorem ev44 (mv : Bool) (a0 : DV) {H : VHeap} {Q : DV → VHeap → Prop} (h : W44 mv a0 H Q) : VEv Try.prog tabS vorcS 44 mv [a0] H Q :=
  VEv_ofW (by rfl) Try.func44 cal44 body44 (E44 mv a0 H Q) h
/-! 45 saucier/stage.own -/
theorem cal45 : callable Try.f45 = true := by kernel_rfl
noncomputable def C45 : Code := Try.f45.body.getD .skip
theorem body45 : Try.f45.body = some C45 := by kernel_rfl

noncomputable def R45 : List ResultVar := Try.f45.results.toList
def W45 (mv : Bool) (a0 : DV) (H : VHeap) (Q : DV → VHeap → Prop) : Prop :=
  letK (H ++ [.cells (vcells a0) .fix false 0 0]) fun h0 =>
  obind (vload Try.prog 26 (.ptr (List.length H) 0 0) h0) fun x1 =>
  VCl Try.prog tabS vorcS 45 17 [x1] h0 fun x2 h3 =>
  obind (vun Try.prog .not x2) fun x4 =>
  condD x4 (
  obind (vbuild Try.prog 26 []) fun x5 =>
  obind (vstore Try.prog 26 (.ptr (List.length H) 0 0) (.agg x5) h3) fun x6 =>
  obind (vfieldAddr Try.prog 26 (.ptr (List.length H) 0 0) 0) fun x7 =>
  obind (vload Try.prog 3 x7 x6) fun x8 =>
  obind (vconvert Try.prog 3 22 x8 x6) fun x9 =>
  obind (vfieldAddr Try.prog 26 (.ptr (List.length H) 0 0) 1) fun x10 =>
  obind (vload Try.prog 24 x10 x6) fun x11 =>
  obind (vlen1 Try.prog [x11] [24] x6) fun x12 =>
  obind (vconvert Try.prog 3 22 x12 x6) fun x13 =>
  obind (vbuildS Try.prog 24 2 [(0, x9), (1, x13)]) fun x14 =>
  letK (x6 ++ [.cells x14.1 .fix false 0 0]) fun h15 =>
  obind (vfieldAddr Try.prog 26 (.ptr (List.length H) 0 0) 1) fun x16 =>
  obind (vload Try.prog 24 x16 h15) fun x17 =>
  obind (vappend Try.prog #[24, 24] [(.slc (List.length x6) 0 0 2 2 x14.2), x17] h15) fun x18 =>
  VCl Try.prog tabS vorcS 45 53 [(.d (.v (.int .i64 16))), x18.1] x18.2 fun x19 h20 =>
  obind (leaveD H mv [x19] h20) fun r21 => Q (packD r21.1) r21.2) (
  obind (vfieldAddr Try.prog 26 (.ptr (List.length H) 0 0) 0) fun x22 =>
  obind (vload Try.prog 3 x22 h3) fun x23 =>
  obind (vconvert Try.prog 3 22 x23 h3) fun x24 =>
  obind (vfieldAddr Try.prog 26 (.ptr (List.length H) 0 0) 1) fun x25 =>
  obind (vload Try.prog 24 x25 h3) fun x26 =>
  obind (vlen1 Try.prog [x26] [24] h3) fun x27 =>
  obind (vconvert Try.prog 3 22 x27 h3) fun x28 =>
  obind (vbuildS Try.prog 24 2 [(0, x24), (1, x28)]) fun x29 =>
  letK (h3 ++ [.cells x29.1 .fix false 0 0]) fun h30 =>
  obind (vfieldAddr Try.prog 26 (.ptr (List.length H) 0 0) 1) fun x31 =>
  obind (vload Try.prog 24 x31 h30) fun x32 =>
  obind (vappend Try.prog #[24, 24] [(.slc (List.length h3) 0 0 2 2 x29.2), x32] h30) fun x33 =>
  VCl Try.prog tabS vorcS 45 53 [(.d (.v (.int .i64 16))), x33.1] x33.2 fun x34 h35 =>
  obind (leaveD H mv [x34] h35) fun r36 => Q (packD r36.1) r36.2)
theorem E45 (mv : Bool) (a0 : DV) (H : VHeap) (Q : DV → VHeap → Prop) : VWc Try.prog tabS vorcS 45 C45 (enterD Try.f45 [a0]) H (endD Try.prog H mv Try.f45.results.toList Q) = W45 mv a0 H Q := by kernel_rfl
theorem ev45 (mv : Bool) (a0 : DV) {H : VHeap} {Q : DV → VHeap → Prop} (h : W45 mv a0 H Q) : VEv Try.prog tabS vorcS 45 mv [a0] H Q :=
  VEv_ofW (by rfl) Try.func45 cal45 body45 (E45 mv a0 H Q) h
/-! 46 slices.EqualFunc[[]saucier/api.Block,[]saucier/api.Block,saucier/api.Block,saucier/api.Block] -/
theorem cal46 : callable Try.f46 = true := by kernel_rfl
noncomputable def C46 : Code := Try.f46.body.getD .skip
theorem body46 : Try.f46.body = some C46 := by kernel_rfl

noncomputable def R46 : List ResultVar := Try.f46.results.toList
noncomputable def S46_111 : Code := subC C46 [1, 1, 1]
noncomputable def S46_110100 : Code := subC C46 [1, 1, 0, 1, 0, 0]
def WS46_111 (s0 s1 s2 s3 s4 s5 s6 s7 s8 s9 s10 s11 s12 s13 s14 s15 s16 s17 s18 s19 s20 s21 s22 s23 s24 s25 s26 s27 s28 s29 s30 s31 : DV) (H : VHeap) (K : Ex → Array DV → VHeap → Prop) : Prop :=
  K .ret #[s0, s1, s2, s3, s4, s5, (.d (.v (.bool true))), s7, s8, s9, s10, s11, s12, s13, s14, s15, s16, s17, s18, s19, s20, s21, s22, s23, s24, s25, s26, s27, s28, s29, s30, s31] H
theorem ES46_111 (s0 s1 s2 s3 s4 s5 s6 s7 s8 s9 s10 s11 s12 s13 s14 s15 s16 s17 s18 s19 s20 s21 s22 s23 s24 s25 s26 s27 s28 s29 s30 s31 : DV) (H : VHeap) (K : Ex → Array DV → VHeap → Prop) : VWc Try.prog tabS vorcS 46 S46_111 #[s0, s1, s2, s3, s4, s5, s6, s7, s8, s9, s10, s11, s12, s13, s14, s15, s16, s17, s18, s19, s20, s21, s22, s23, s24, s25, s26, s27, s28, s29, s30, s31] H K = WS46_111 s0 s1 s2 s3 s4 s5 s6 s7 s8 s9 s10 s11 s12 s13 s14 s15 s16 s17 s18 s19 s20 s21 s22 s23 s24 s25 s26 s27 s28 s29 s30 s31 H K := by kernel_rfl
def WS46_110100 (s0 s1 s2 s3 s4 s5 s6 s7 s8 s9 s10 s11 s12 s13 s14 s15 s16 s17 s18 s19 s20 s21 s22 s23 s24 s25 s26 s27 s28 s29 s30 s31 : DV) (H : VHeap) (K : Ex → Array DV → VHeap → Prop) : Prop :=
  obind (vbin Try.prog .lss 3 (.tmp 17) (.tmp 16) s17 s16) fun x0 =>
  condD x0 (
  obind (vindexAddr Try.prog 36 s15 s17) fun x1 =>
  obind (vload Try.prog 26 x1 H) fun x2 =>
  obind (zeroT Try.prog 26) fun x3 =>
  letK (H ++ [.cells (zD x3) .fix false 0 0]) fun h4 =>
  obind (vstore Try.prog 26 (.ptr (List.length H) 0 0) x2 h4) fun x5 =>
  obind (vindexAddr Try.prog 36 s1 s17) fun x6 =>
  obind (vload Try.prog 26 x6 x5) fun x7 =>
  obind (zeroT Try.prog 26) fun x8 =>
  letK (x5 ++ [.cells (zD x8) .fix false 0 0]) fun h9 =>
  obind (vstore Try.prog 26 (.ptr (List.length x5) 0 0) x7 h9) fun x10 =>
  obind (vload Try.prog 26 (.ptr (List.length H) 0 0) x10) fun x11 =>
  obind (vload Try.prog 26 (.ptr (List.length x5) 0 0) x10) fun x12 =>
  obind (vfuncV s2) fun x13 =>
  VCl Try.prog tabS vorcS 46 x13.1 ((x13.2.1 ++ [x11, x12]) ++ x13.2.2) x10 fun x14 h15 =>
  obind (vun Try.prog .not x14) fun x16 =>
  condD x16 (
  K .ret #[s0, s1, s2, s3, s4, s5, (.d (.v (.bool false))), s17, (.ptr (List.length H) 0 0), (.ptr (List.length x5) 0 0), s10, s11, s12, s13, s14, s15, s16, s17, x0, s17, x1, x2, s1, s17, x6, x7, s2, x11, x12, x14, x16, s31] h15) (
  obind (vbin Try.prog .add 3 (.tmp 17) (.const (.int .i64 1)) s17 (.d (.v (.int .i64 1)))) fun x17 =>
  K .normal #[s0, s1, s2, s3, s4, s5, s6, s17, (.ptr (List.length H) 0 0), (.ptr (List.length x5) 0 0), s10, s11, s12, s13, s14, s15, s16, x17, x0, s17, x1, x2, s1, s17, x6, x7, s2, x11, x12, x14, x16, x17] h15)) (
  K (.exit 0) #[s0, s1, s2, s3, s4, s5, s6, s7, s8, s9, s10, s11, s12, s13, s14, s15, s16, s17, x0, s19, s20, s21, s22, s23, s24, s25, s26, s27, s28, s29, s30, s31] H)
theorem ES46_110100 (s0 s1 s2 s3 s4 s5 s6 s7 s8 s9 s10 s11 s12 s13 s14 s15 s16 s17 s18 s19 s20 s21 s22 s23 s24 s25 s26 s27 s28 s29 s30 s31 : DV) (H : VHeap) (K : Ex → Array DV → VHeap → Prop) : VWc Try.prog tabS vorcS 46 S46_110100 #[s0, s1, s2, s3, s4, s5, s6, s7, s8, s9, s10, s11, s12, s13, s14, s15, s16, s17, s18, s19, s20, s21, s22, s23, s24, s25, s26, s27, s28, s29, s30, s31] H K = WS46_110100 s0 s1 s2 s3 s4 s5 s6 s7 s8 s9 s10 s11 s12 s13 s14 s15 s16 s17 s18 s19 s20 s21 s22 s23 s24 s25 s26 s27 s28 s29 s30 s31 H K := by kernel_rfl
/-- The slots that matter; the others hold what they may. -/
def FS46 (s1 s2 s6 s15 s16 s17 : DV) (ts : Array DV) : Prop := ∃ d : Nat → DV, ts = #[d 0, s1, s2, d 3, d 4, d 5, s6, d 7, d 8, d 9, d 10, d 11, d 12, d 13, d 14, s15, s16, s17, d 18, d 19, d 20, d 21, d 22, d 23, d 24, d 25, d 26, d 27, d 28, d 29, d 30, d 31]
theorem FS46_mk (s0 s1 s2 s3 s4 s5 s6 s7 s8 s9 s10 s11 s12 s13 s14 s15 s16 s17 s18 s19 s20 s21 s22 s23 s24 s25 s26 s27 s28 s29 s30 s31 : DV) : FS46 s1 s2 s6 s15 s16 s17 #[s0, s1, s2, s3, s4, s5, s6, s7, s8, s9, s10, s11, s12, s13, s14, s15, s16, s17, s18, s19, s20, s21, s22, s23, s24, s25, s26, s27, s28, s29, s30, s31] := ⟨fun i => [s0, s1, s2, s3, s4, s5, s6, s7, s8, s9, s10, s11, s12, s13, s14, s15, s16, s17, s18, s19, s20, s21, s22, s23, s24, s25, s26, s27, s28, s29, s30, s31].getD i undefD, by kernel_rfl⟩
theorem LS46_111 {s1 s2 s6 s15 s16 s17 : DV} {ts : Array DV} {H : VHeap} {K : Ex → Array DV → VHeap → Prop} (h0 : FS46 s1 s2 s6 s15 s16 s17 ts) (h : ∀ d : Nat → DV, WS46_111 (d 0) s1 s2 (d 3) (d 4) (d 5) s6 (d 7) (d 8) (d 9) (d 10) (d 11) (d 12) (d 13) (d 14) s15 s16 s17 (d 18) (d 19) (d 20) (d 21) (d 22) (d 23) (d 24) (d 25) (d 26) (d 27) (d 28) (d 29) (d 30) (d 31) H K) : VWc Try.prog tabS vorcS 46 S46_111 ts H K := by
  obtain ⟨d, rfl⟩ := h0
  rw [ES46_111]; exact h d
theorem LS46_110100 {s1 s2 s6 s15 s16 s17 : DV} {ts : Array DV} {H : VHeap} {K : Ex → Array DV → VHeap → Prop} (h0 : FS46 s1 s2 s6 s15 s16 s17 ts) (h : ∀ d : Nat → DV, WS46_110100 (d 0) s1 s2 (d 3) (d 4) (d 5) s6 (d 7) (d 8) (d 9) (d 10) (d 11) (d 12) (d 13) (d 14) s15 s16 s17 (d 18) (d 19) (d 20) (d 21) (d 22) (d 23) (d 24) (d 25) (d 26) (d 27) (d 28) (d 29) (d 30) (d 31) H K) : VWc Try.prog tabS vorcS 46 S46_110100 ts H K := by
  obtain ⟨d, rfl⟩ := h0
  rw [ES46_110100]; exact h d
theorem res46 {s1 s2 s6 s15 s16 s17 : DV} {ts : Array DV} {H : VHeap} (h0 : FS46 s1 s2 s6 s15 s16 s17 ts) : resultsD Try.prog R46 ts H = some [s6] := by
  obtain ⟨d, rfl⟩ := h0
  rfl
def W46 (mv : Bool) (a0 a1 a2 : DV) (H : VHeap) (Q : DV → VHeap → Prop) : Prop :=
  obind (vlen1 Try.prog [a0] [36] H) fun x0 =>
  obind (vlen1 Try.prog [a1] [36] H) fun x1 =>
  obind (vbin Try.prog .neq 3 (.tmp 11) (.tmp 13) x0 x1) fun x2 =>
  condD x2 (
  obind (leaveD H mv [(.d (.v (.bool false)))] H) fun r3 => Q (packD r3.1) r3.2) (
  obind (vlen1 Try.prog [a0] [36] H) fun x4 =>
  VWloop Try.prog tabS vorcS 46 S46_110100 #[a0, a1, a2, undefD, undefD, undefD, (.d (.v (.bool false))), undefD, undefD, undefD, a0, x0, a1, x1, x2, a0, x4, (.d (.v (.int .i64 0))), undefD, undefD, undefD, undefD, undefD, undefD, undefD, undefD, undefD, undefD, undefD, undefD, undefD, undefD] H (blockD 0 (seqD (fun t h k => VWc Try.prog tabS vorcS 46 S46_111 t h k) (endD Try.prog H mv R46 Q))))
theorem E46 (mv : Bool) (a0 a1 a2 : DV) (H : VHeap) (Q : DV → VHeap → Prop) : VWc Try.prog tabS vorcS 46 C46 (enterD Try.f46 [a0, a1, a2]) H (endD Try.prog H mv Try.f46.results.toList Q) = W46 mv a0 a1 a2 H Q := by kernel_rfl
theorem ev46 (mv : Bool) (a0 a1 a2 : DV) {H : VHeap} {Q : DV → VHeap → Prop} (h : W46 mv a0 a1 a2 H Q) : VEv Try.prog tabS vorcS 46 mv [a0, a1, a2] H Q :=
  VEv_ofW (by rfl) Try.func46 cal46 body46 (E46 mv a0 a1 a2 H Q) h
/-! 47 saucier/bank.Same$1 -/
theorem cal47 : callable Try.f47 = true := by kernel_rfl
noncomputable def C47 : Code := Try.f47.body.getD .skip
theorem body47 : Try.f47.body = some C47 := by kernel_rfl

noncomputable def R47 : List ResultVar := Try.f47.results.toList
def W47 (mv : Bool) (a0 a1 : DV) (H : VHeap) (Q : DV → VHeap → Prop) : Prop :=
  letK (H ++ [.cells (vcells a0) .fix false 0 0]) fun h0 =>
  letK (h0 ++ [.cells (vcells a1) .fix false 0 0]) fun h1 =>
  obind (vfieldAddr Try.prog 26 (.ptr (List.length H) 0 0) 0) fun x2 =>
  obind (vload Try.prog 3 x2 h1) fun x3 =>
  obind (vfieldAddr Try.prog 26 (.ptr (List.length h0) 0 0) 0) fun x4 =>
  obind (vload Try.prog 3 x4 h1) fun x5 =>
  obind (vbin Try.prog .eql 3 (.tmp 6) (.tmp 8) x3 x5) fun x6 =>
  condD x6 (
  obind (vfieldAddr Try.prog 26 (.ptr (List.length H) 0 0) 1) fun x7 =>
  obind (vload Try.prog 24 x7 h1) fun x8 =>
  obind (vfieldAddr Try.prog 26 (.ptr (List.length h0) 0 0) 1) fun x9 =>
  obind (vload Try.prog 24 x9 h1) fun x10 =>
  VCl Try.prog tabS vorcS 47 48 [x8, x10] h1 fun x11 h12 =>
  obind (leaveD H mv [x11] h12) fun r13 => Q (packD r13.1) r13.2) (
  obind (leaveD H mv [(.d (.v (.bool false)))] h1) fun r14 => Q (packD r14.1) r14.2)
theorem E47 (mv : Bool) (a0 a1 : DV) (H : VHeap) (Q : DV → VHeap → Prop) : VWc Try.prog tabS vorcS 47 C47 (enterD Try.f47 [a0, a1]) H (endD Try.prog H mv Try.f47.results.toList Q) = W47 mv a0 a1 H Q := by kernel_rfl
theorem ev47 (mv : Bool) (a0 a1 : DV) {H : VHeap} {Q : DV → VHeap → Prop} (h : W47 mv a0 a1 H Q) : VEv Try.prog tabS vorcS 47 mv [a0, a1] H Q :=
  VEv_ofW (by rfl) Try.func47 cal47 body47 (E47 mv a0 a1 H Q) h
/-! 48 slices.Equal[[]uint16,uint16] -/
theorem cal48 : callable Try.f48 = true := by kernel_rfl
noncomputable def C48 : Code := Try.f48.body.getD .skip
theorem body48 : Try.f48.body = some C48 := by kernel_rfl

noncomputable def R48 : List ResultVar := Try.f48.results.toList
noncomputable def S48_111 : Code := subC C48 [1, 1, 1]
noncomputable def S48_110100 : Code := subC C48 [1, 1, 0, 1, 0, 0]
def WS48_111 (s0 s1 s2 s3 s4 s5 s6 s7 s8 s9 s10 s11 s12 s13 s14 s15 s16 s17 s18 s19 s20 s21 s22 s23 s24 s25 : DV) (H : VHeap) (K : Ex → Array DV → VHeap → Prop) : Prop :=
  K .ret #[s0, s1, s2, s3, (.d (.v (.bool true))), s5, s6, s7, s8, s9, s10, s11, s12, s13, s14, s15, s16, s17, s18, s19, s20, s21, s22, s23, s24, s25] H
theorem ES48_111 (s0 s1 s2 s3 s4 s5 s6 s7 s8 s9 s10 s11 s12 s13 s14 s15 s16 s17 s18 s19 s20 s21 s22 s23 s24 s25 : DV) (H : VHeap) (K : Ex → Array DV → VHeap → Prop) : VWc Try.prog tabS vorcS 48 S48_111 #[s0, s1, s2, s3, s4, s5, s6, s7, s8, s9, s10, s11, s12, s13, s14, s15, s16, s17, s18, s19, s20, s21, s22, s23, s24, s25] H K = WS48_111 s0 s1 s2 s3 s4 s5 s6 s7 s8 s9 s10 s11 s12 s13 s14 s15 s16 s17 s18 s19 s20 s21 s22 s23 s24 s25 H K := by kernel_rfl
def WS48_110100 (s0 s1 s2 s3 s4 s5 s6 s7 s8 s9 s10 s11 s12 s13 s14 s15 s16 s17 s18 s19 s20 s21 s22 s23 s24 s25 : DV) (H : VHeap) (K : Ex → Array DV → VHeap → Prop) : Prop :=
  obind (vbin Try.prog .lss 3 (.tmp 13) (.tmp 12) s13 s12) fun x0 =>
  condD x0 (
  obind (vindexAddr Try.prog 24 s0 s13) fun x1 =>
  obind (vload Try.prog 22 x1 H) fun x2 =>
  obind (vindexAddr Try.prog 24 s1 s13) fun x3 =>
  obind (vload Try.prog 22 x3 H) fun x4 =>
  obind (vbin Try.prog .neq 22 (.tmp 19) (.tmp 23) x2 x4) fun x5 =>
  condD x5 (
  K .ret #[s0, s1, s2, s3, (.d (.v (.bool false))), s13, s6, s7, s8, s9, s10, s11, s12, s13, x0, s13, s0, s13, x1, x2, s1, s13, x3, x4, x5, s25] H) (
  obind (vbin Try.prog .add 3 (.tmp 13) (.const (.int .i64 1)) s13 (.d (.v (.int .i64 1)))) fun x6 =>
  K .normal #[s0, s1, s2, s3, s4, s13, s6, s7, s8, s9, s10, s11, s12, x6, x0, s13, s0, s13, x1, x2, s1, s13, x3, x4, x5, x6] H)) (
  K (.exit 0) #[s0, s1, s2, s3, s4, s5, s6, s7, s8, s9, s10, s11, s12, s13, x0, s15, s16, s17, s18, s19, s20, s21, s22, s23, s24, s25] H)
theorem ES48_110100 (s0 s1 s2 s3 s4 s5 s6 s7 s8 s9 s10 s11 s12 s13 s14 s15 s16 s17 s18 s19 s20 s21 s22 s23 s24 s25 : DV) (H : VHeap) (K : Ex → Array DV → VHeap → Prop) : VWc Try.prog tabS vorcS 48 S48_110100 #[s0, s1, s2, s3, s4, s5, s6, s7, s8, s9, s10, s11, s12, s13, s14, s15, s16, s17, s18, s19, s20, s21, s22, s23, s24, s25] H K = WS48_110100 s0 s1 s2 s3 s4 s5 s6 s7 s8 s9 s10 s11 s12 s13 s14 s15 s16 s17 s18 s19 s20 s21 s22 s23 s24 s25 H K := by kernel_rfl
/-- The slots that matter; the others hold what they may. -/
def FS48 (s0 s1 s4 s12 s13 : DV) (ts : Array DV) : Prop := ∃ d : Nat → DV, ts = #[s0, s1, d 2, d 3, s4, d 5, d 6, d 7, d 8, d 9, d 10, d 11, s12, s13, d 14, d 15, d 16, d 17, d 18, d 19, d 20, d 21, d 22, d 23, d 24, d 25]
theorem FS48_mk (s0 s1 s2 s3 s4 s5 s6 s7 s8 s9 s10 s11 s12 s13 s14 s15 s16 s17 s18 s19 s20 s21 s22 s23 s24 s25 : DV) : FS48 s0 s1 s4 s12 s13 #[s0, s1, s2, s3, s4, s5, s6, s7, s8, s9, s10, s11, s12, s13, s14, s15, s16, s17, s18, s19, s20, s21, s22, s23, s24, s25] := ⟨fun i => [s0, s1, s2, s3, s4, s5, s6, s7, s8, s9, s10, s11, s12, s13, s14, s15, s16, s17, s18, s19, s20, s21, s22, s23, s24, s25].getD i undefD, by kernel_rfl⟩
theorem LS48_111 {s0 s1 s4 s12 s13 : DV} {ts : Array DV} {H : VHeap} {K : Ex → Array DV → VHeap → Prop} (h0 : FS48 s0 s1 s4 s12 s13 ts) (h : ∀ d : Nat → DV, WS48_111 s0 s1 (d 2) (d 3) s4 (d 5) (d 6) (d 7) (d 8) (d 9) (d 10) (d 11) s12 s13 (d 14) (d 15) (d 16) (d 17) (d 18) (d 19) (d 20) (d 21) (d 22) (d 23) (d 24) (d 25) H K) : VWc Try.prog tabS vorcS 48 S48_111 ts H K := by
  obtain ⟨d, rfl⟩ := h0
  rw [ES48_111]; exact h d
theorem LS48_110100 {s0 s1 s4 s12 s13 : DV} {ts : Array DV} {H : VHeap} {K : Ex → Array DV → VHeap → Prop} (h0 : FS48 s0 s1 s4 s12 s13 ts) (h : ∀ d : Nat → DV, WS48_110100 s0 s1 (d 2) (d 3) s4 (d 5) (d 6) (d 7) (d 8) (d 9) (d 10) (d 11) s12 s13 (d 14) (d 15) (d 16) (d 17) (d 18) (d 19) (d 20) (d 21) (d 22) (d 23) (d 24) (d 25) H K) : VWc Try.prog tabS vorcS 48 S48_110100 ts H K := by
  obtain ⟨d, rfl⟩ := h0
  rw [ES48_110100]; exact h d
theorem res48 {s0 s1 s4 s12 s13 : DV} {ts : Array DV} {H : VHeap} (h0 : FS48 s0 s1 s4 s12 s13 ts) : resultsD Try.prog R48 ts H = some [s4] := by
  obtain ⟨d, rfl⟩ := h0
  rfl
def W48 (mv : Bool) (a0 a1 : DV) (H : VHeap) (Q : DV → VHeap → Prop) : Prop :=
  obind (vlen1 Try.prog [a0] [24] H) fun x0 =>
  obind (vlen1 Try.prog [a1] [24] H) fun x1 =>
  obind (vbin Try.prog .neq 3 (.tmp 7) (.tmp 9) x0 x1) fun x2 =>
  condD x2 (
  obind (leaveD H mv [(.d (.v (.bool false)))] H) fun r3 => Q (packD r3.1) r3.2) (
  obind (vlen1 Try.prog [a0] [24] H) fun x4 =>
  VWloop Try.prog tabS vorcS 48 S48_110100 #[a0, a1, undefD, undefD, (.d (.v (.bool false))), undefD, a0, x0, a1, x1, x2, a0, x4, (.d (.v (.int .i64 0))), undefD, undefD, undefD, undefD, undefD, undefD, undefD, undefD, undefD, undefD, undefD, undefD] H (blockD 0 (seqD (fun t h k => VWc Try.prog tabS vorcS 48 S48_111 t h k) (endD Try.prog H mv R48 Q))))
theorem E48 (mv : Bool) (a0 a1 : DV) (H : VHeap) (Q : DV → VHeap → Prop) : VWc Try.prog tabS vorcS 48 C48 (enterD Try.f48 [a0, a1]) H (endD Try.prog H mv Try.f48.results.toList Q) = W48 mv a0 a1 H Q := by kernel_rfl
theorem ev48 (mv : Bool) (a0 a1 : DV) {H : VHeap} {Q : DV → VHeap → Prop} (h : W48 mv a0 a1 H Q) : VEv Try.prog tabS vorcS 48 mv [a0, a1] H Q :=
  VEv_ofW (by rfl) Try.func48 cal48 body48 (E48 mv a0 a1 H Q) h
/-! 53 saucier/stage.row -/
theorem cal53 : callable Try.f53 = true := by kernel_rfl
noncomputable def C53 : Code := Try.f53.body.getD .skip
theorem body53 : Try.f53.body = some C53 := by kernel_rfl

noncomputable def R53 : List ResultVar := Try.f53.results.toList
def W53 (mv : Bool) (a0 a1 : DV) (H : VHeap) (Q : DV → VHeap → Prop) : Prop :=
  obind (vlen1 Try.prog [a1] [24] H) fun x0 =>
  obind (vbin Try.prog .sub 3 (.tmp 6) (.tmp 8) a0 x0) fun x1 =>
  obind (vappend Try.prog #[24, 3] [a1, x1] H) fun x2 =>
  obind (leaveD H mv [x2.1] x2.2) fun r3 => Q (packD r3.1) r3.2
theorem E53 (mv : Bool) (a0 a1 : DV) (H : VHeap) (Q : DV → VHeap → Prop) : VWc Try.prog tabS vorcS 53 C53 (enterD Try.f53 [a0, a1]) H (endD Try.prog H mv Try.f53.results.toList Q) = W53 mv a0 a1 H Q := by kernel_rfl
theorem ev53 (mv : Bool) (a0 a1 : DV) {H : VHeap} {Q : DV → VHeap → Prop} (h : W53 mv a0 a1 H Q) : VEv Try.prog tabS vorcS 53 mv [a0, a1] H Q :=
  VEv_ofW (by rfl) Try.func53 cal53 body53 (E53 mv a0 a1 H Q) h
end Go.Proofs
namespace Go.Proofs
open Go Go.Abs
set_option linter.unusedVariables false
set_option maxRecDepth 100000
/-! 14 saucier/stage.Read -/
theorem cal14 : callable Try.f14 = true := by kernel_rfl
noncomputable def C14 : Code := Try.f14.body.getD .skip
theorem body14 : Try.f14.body = some C14 := by kernel_rfl
noncomputable def R14 : List ResultVar := Try.f14.results.toList
def W14 (mv : Bool) (a0 : DV) (H : VHeap) (Q : DV → VHeap → Prop) : Prop :=
  obind (zeroT Try.prog 26) fun x0 =>
  letK (H ++ [.cells (zD x0) .fix false 0 0]) fun h1 =>
  obind (vlen1 Try.prog [a0] [24] h1) fun x2 =>
  obind (vbin Try.prog .neq 3 (.tmp 10) (.const (.int .i64 20)) x2 (.d (.v (.int .i64 20)))) fun x3 =>
  condD x3 (
  obind (vbuild Try.prog 26 []) fun x4 =>
  obind (vstore Try.prog 26 (.ptr (List.length H) 0 0) (.agg x4) h1) fun x5 =>
  obind (resultsD Try.prog R14 #[a0, undefD, (.d (.v (.int .u16 0))), (.d (.v (.int .u32 0))), (.d (.v (.int .i64 0))), (.ptr (List.length H) 0 0), (.d (.v (.int .i64 2))), undefD, undefD, a0, x2, x3, (.d (.v (.bool true))), undefD, undefD, undefD, undefD, undefD, undefD, (.d (.v (.bool true))), (.agg x4), undefD, undefD, undefD, undefD, undefD, undefD, undefD, undefD, undefD, undefD, undefD, undefD, undefD, undefD, undefD, undefD, undefD, undefD, undefD, undefD, undefD, undefD, undefD, undefD] x5) fun vs => obind (leaveD H mv vs x5) fun r => Q (packD r.1) r.2) (
  obind (vindexAddr Try.prog 24 a0 (.d (.v (.int .i64 3)))) fun x6 =>
  obind (vload Try.prog 22 x6 h1) fun x7 =>
  obind (vconvert Try.prog 22 3 x7 h1) fun x8 =>
  VCl Try.prog tabS vorcS 14 40 [x8] h1 fun x9 h10 =>
  obind (vun Try.prog .not x9) fun x11 =>
  condD x11 (
  obind (vbuild Try.prog 26 []) fun x12 =>
  obind (vstore Try.prog 26 (.ptr (List.length H) 0 0) (.agg x12) h10) fun x13 =>
  obind (resultsD Try.prog R14 #[a0, undefD, (.d (.v (.int .u16 0))), (.d (.v (.int .u32 0))), (.d (.v (.int .i64 0))), (.ptr (List.length H) 0 0), (.d (.v (.int .i64 2))), undefD, undefD, a0, x2, x3, (.d (.v (.bool false))), a0, x6, x7, x8, x9, x11, x11, (.agg x12), undefD, undefD, undefD, undefD, undefD, undefD, undefD, undefD, undefD, undefD, undefD, undefD, undefD, undefD, undefD, undefD, undefD, undefD, undefD, undefD, undefD, undefD, undefD, undefD] x13) fun vs => obind (leaveD H mv vs x13) fun r => Q (packD r.1) r.2) (
  obind (vslice Try.prog 24 a0 (some (.d (.v (.int .i64 4)))) none none h10) fun x14 =>
  VCl Try.prog tabS vorcS 14 41 [x14] h10 fun x15 h16 =>
  obind (vtupleV x15) fun x17 =>
  obind (x17[0]?) fun x18 =>
  obind (vtupleV x15) fun x19 =>
  obind (x19[1]?) fun x20 =>
  obind (zeroT Try.prog 26) fun x21 =>
  letK (h16 ++ [.cells (zD x21) .fix false 0 0]) fun h22 =>
  obind (vstore Try.prog 26 (.ptr (List.length h16) 0 0) x18 h22) fun x23 =>
  obind (vun Try.prog .not x20) fun x24 =>
  condD x24 (
  obind (vbuild Try.prog 26 []) fun x25 =>
  obind (vstore Try.prog 26 (.ptr (List.length H) 0 0) (.agg x25) x23) fun x26 =>
  obind (resultsD Try.prog R14 #[a0, undefD, (.d (.v (.int .u16 0))), (.d (.v (.int .u32 0))), (.d (.v (.int .i64 0))), (.ptr (List.length H) 0 0), (.d (.v (.int .i64 20))), (.ptr (List.length h16) 0 0), x20, a0, x2, x3, (.d (.v (.bool false))), a0, x6, x7, x8, x9, x11, x11, undefD, x15, a0, x14, x15, x18, x20, x20, x24, (.agg x25), undefD, undefD, undefD, undefD, undefD, undefD, undefD, undefD, undefD, undefD, undefD, undefD, undefD, undefD, undefD] x26) fun vs => obind (leaveD H mv vs x26) fun r => Q (packD r.1) r.2) (
  obind (vindexAddr Try.prog 24 a0 (.d (.v (.int .i64 0)))) fun x27 =>
  obind (vload Try.prog 22 x27 x23) fun x28 =>
  obind (vindexAddr Try.prog 24 a0 (.d (.v (.int .i64 1)))) fun x29 =>
  obind (vload Try.prog 22 x29 x23) fun x30 =>
  obind (vindexAddr Try.prog 24 a0 (.d (.v (.int .i64 2)))) fun x31 =>
  obind (vload Try.prog 22 x31 x23) fun x32 =>
  obind (vindexAddr Try.prog 24 a0 (.d (.v (.int .i64 3)))) fun x33 =>
  obind (vload Try.prog 22 x33 x23) fun x34 =>
  obind (vconvert Try.prog 22 3 x34 x23) fun x35 =>
  obind (vload Try.prog 26 (.ptr (List.length h16) 0 0) x23) fun x36 =>
  VCl Try.prog tabS vorcS 14 42 [x30, x32] x23 fun x37 h38 =>
  (depOk (depV x23 (.ptr (List.length h16) 0 0)) h38 = true ∧ depOk (depV x23 x34) h38 = true ∧ depOk (depV x23 x33) h38 = true ∧ depOk (depV x23 x27) h38 = true ∧ True) ∧
  obind (vstore Try.prog 26 (.ptr (List.length H) 0 0) x36 h38) fun x39 =>
  (True) ∧
  obind (resultsD Try.prog R14 #[a0, undefD, x28, x37, x35, (.ptr (List.length H) 0 0), (.d (.v (.int .i64 0))), (.ptr (List.length h16) 0 0), x20, a0, x2, x3, (.d (.v (.bool false))), a0, x6, x7, x8, x9, x11, x11, undefD, x15, a0, x14, x15, x18, x20, x20, x24, undefD, a0, x27, x28, a0, x29, x30, a0, x31, x32, x37, a0, x33, x34, x35, x36] x39) fun vs => obind (leaveD H mv vs x39) fun r => Q (packD r.1) r.2)))
theorem E14 (mv : Bool) (a0 : DV) (H : VHeap) (Q : DV → VHeap → Prop) : VWc Try.prog tabS vorcS 14 C14 (enterD Try.f14 [a0]) H (endD Try.prog H mv Try.f14.results.toList Q) = W14 mv a0 H Q := by kernel_rfl
theorem ev14 (mv : Bool) (a0 : DV) {H : VHeap} {Q : DV → VHeap → Prop} (h : W14 mv a0 H Q) : VEv Try.prog tabS vorcS 14 mv [a0] H Q :=
  VEv_ofW (by rfl) Try.func14 cal14 body14 (E14 mv a0 H Q) h
/-! 41 saucier/stage.block -/
theorem cal41 : callable Try.f41 = true := by kernel_rfl
noncomputable def C41 : Code := Try.f41.body.getD .skip
theorem body41 : Try.f41.body = some C41 := by kernel_rfl
noncomputable def R41 : List ResultVar := Try.f41.results.toList
def W41 (mv : Bool) (a0 : DV) (H : VHeap) (Q : DV → VHeap → Prop) : Prop :=
  obind (zeroT Try.prog 26) fun x0 =>
  letK (H ++ [.cells (zD x0) .fix false 0 0]) fun h1 =>
  obind (vindexAddr Try.prog 24 a0 (.d (.v (.int .i64 0)))) fun x2 =>
  obind (vload Try.prog 22 x2 h1) fun x3 =>
  obind (vconvert Try.prog 22 3 x3 h1) fun x4 =>
  obind (vindexAddr Try.prog 24 a0 (.d (.v (.int .i64 1)))) fun x5 =>
  obind (vload Try.prog 22 x5 h1) fun x6 =>
  obind (vconvert Try.prog 22 3 x6 h1) fun x7 =>
  obind (vbin Try.prog .gtr 3 (.tmp 15) (.const (.int .i64 14)) x7 (.d (.v (.int .i64 14)))) fun x8 =>
  condD x8 (
  obind (vbuild Try.prog 26 []) fun x9 =>
  obind (vstore Try.prog 26 (.ptr (List.length H) 0 0) (.agg x9) h1) fun x10 =>
  obind (resultsD Try.prog R41 #[a0, undefD, (.ptr (List.length H) 0 0), (.d (.v (.bool false))), x4, x7, undefD, a0, x2, x3, x4, a0, x5, x6, x7, x7, x8, (.agg x9), undefD, undefD, undefD, undefD, undefD, undefD, undefD, undefD, undefD, undefD, undefD, undefD, undefD, undefD, undefD, undefD] x10) fun vs => obind (leaveD H mv vs x10) fun r => Q (packD r.1) r.2) (
  obind (vbin Try.prog .add 3 (.const (.int .i64 2)) (.tmp 20) (.d (.v (.int .i64 2))) x7) fun x11 =>
  obind (vslice Try.prog 24 a0 (some (.d (.v (.int .i64 2)))) (some x11) none h1) fun x12 =>
  VCl Try.prog tabS vorcS 41 50 [x12] h1 fun x13 h14 =>
  obind (vbuild Try.prog 26 [(0, x4), (1, x13)]) fun x15 =>
  obind (zeroT Try.prog 26) fun x16 =>
  letK (h14 ++ [.cells (zD x16) .fix false 0 0]) fun h17 =>
  obind (vstore Try.prog 26 (.ptr (List.length h14) 0 0) (.agg x15) h17) fun x18 =>
  obind (vload Try.prog 26 (.ptr (List.length h14) 0 0) x18) fun x19 =>
  obind (vload Try.prog 26 (.ptr (List.length h14) 0 0) x18) fun x20 =>
  VCl Try.prog tabS vorcS 41 17 [x20] x18 fun x21 h22 =>
  (depOk (depV x18 (.ptr (List.length h14) 0 0)) h22 = true ∧ True) ∧
  condD x21 (
  obind (vload Try.prog 26 (.ptr (List.length h14) 0 0) h22) fun x23 =>
  VCl Try.prog tabS vorcS 41 45 [x23] h22 fun x24 h25 =>
  (depOk (depV x18 (.ptr (List.length h14) 0 0)) h25 = true ∧ True) ∧
  VCl Try.prog tabS vorcS 41 48 [x24, a0] h25 fun x26 h27 =>
  (depOk (depV x18 (.ptr (List.length h14) 0 0)) h27 = true ∧ True) ∧
  obind (vstore Try.prog 26 (.ptr (List.length H) 0 0) x19 h27) fun x28 =>
  (True) ∧
  obind (resultsD Try.prog R41 #[a0, undefD, (.ptr (List.length H) 0 0), x26, x4, x7, (.ptr (List.length h14) 0 0), a0, x2, x3, x4, a0, x5, x6, x7, x7, x8, undefD, x4, a0, x7, x11, x12, x13, (.agg x15), x19, x20, x21, (.d (.v (.bool true))), x23, x24, a0, x26, x26] x28) fun vs => obind (leaveD H mv vs x28) fun r => Q (packD r.1) r.2) (
  obind (vstore Try.prog 26 (.ptr (List.length H) 0 0) x19 h22) fun x29 =>
  (True) ∧
  obind (resultsD Try.prog R41 #[a0, undefD, (.ptr (List.length H) 0 0), (.d (.v (.bool false))), x4, x7, (.ptr (List.length h14) 0 0), a0, x2, x3, x4, a0, x5, x6, x7, x7, x8, undefD, x4, a0, x7, x11, x12, x13, (.agg x15), x19, x20, x21, (.d (.v (.bool false))), undefD, undefD, undefD, undefD, (.d (.v (.bool false)))] x29) fun vs => obind (leaveD H mv vs x29) fun r => Q (packD r.1) r.2))
theorem E41 (mv : Bool) (a0 : DV) (H : VHeap) (Q : DV → VHeap → Prop) : VWc Try.prog tabS vorcS 41 C41 (enterD Try.f41 [a0]) H (endD Try.prog H mv Try.f41.results.toList Q) = W41 mv a0 H Q := by kernel_rfl
theorem ev41 (mv : Bool) (a0 : DV) {H : VHeap} {Q : DV → VHeap → Prop} (h : W41 mv a0 H Q) : VEv Try.prog tabS vorcS 41 mv [a0] H Q :=
  VEv_ofW (by rfl) Try.func41 cal41 body41 (E41 mv a0 H Q) h
/-! 42 saucier/words.Wide -/
theorem cal42 : callable Try.f42 = true := by kernel_rfl
noncomputable def C42 : Code := Try.f42.body.getD .skip
theorem body42 : Try.f42.body = some C42 := by kernel_rfl

noncomputable def R42 : List ResultVar := Try.f42.results.toList
def W42 (mv : Bool) (a0 a1 : DV) (H : VHeap) (Q : DV → VHeap → Prop) : Prop :=
  obind (vconvert Try.prog 22 23 a0 H) fun x0 =>
  obind (vbin Try.prog .shl 23 (.tmp 6) (.const (.int .u64 16)) x0 (.d (.v (.int .u64 16)))) fun x1 =>
  obind (vconvert Try.prog 22 23 a1 H) fun x2 =>
  obind (vbin Try.prog .or 23 (.tmp 7) (.tmp 9) x1 x2) fun x3 =>
  obind (leaveD H mv [x3] H) fun r4 => Q (packD r4.1) r4.2
theorem E42 (mv : Bool) (a0 a1 : DV) (H : VHeap) (Q : DV → VHeap → Prop) : VWc Try.prog tabS vorcS 42 C42 (enterD Try.f42 [a0, a1]) H (endD Try.prog H mv Try.f42.results.toList Q) = W42 mv a0 a1 H Q := by kernel_rfl
theorem ev42 (mv : Bool) (a0 a1 : DV) {H : VHeap} {Q : DV → VHeap → Prop} (h : W42 mv a0 a1 H Q) : VEv Try.prog tabS vorcS 42 mv [a0, a1] H Q :=
  VEv_ofW (by rfl) Try.func42 cal42 body42 (E42 mv a0 a1 H Q) h
end Go.Proofs
namespace Go.Proofs
open Go Go.Abs
set_option linter.unusedVariables false
set_option maxRecDepth 100000
/-! 3 saucier/saucierlaw19.StageBack -/
theorem cal3 : callable Try.f3 = true := by kernel_rfl
noncomputable def C3 : Code := Try.f3.body.getD .skip
theorem body3 : Try.f3.body = some C3 := by kernel_rfl

noncomputable def R3 : List ResultVar := Try.f3.results.toList
noncomputable def S3_111 : Code := subC C3 [1, 1, 1]
noncomputable def S3_111111111 : Code := subC C3 [1, 1, 1, 1, 1, 1, 1, 1, 1]
noncomputable def S3_111111110100 : Code := subC C3 [1, 1, 1, 1, 1, 1, 1, 1, 0, 1, 0, 0]
def WS3_111 (s0 s1 s2 s3 s4 s5 s6 s7 s8 s9 s10 s11 s12 s13 s14 s15 s16 s17 s18 s19 s20 s21 s22 s23 s24 s25 s26 s27 s28 s29 s30 s31 s32 s33 s34 s35 s36 s37 s38 s39 s40 s41 s42 s43 s44 s45 s46 s47 s48 s49 s50 s51 s52 s53 s54 s55 s56 s57 s58 s59 s60 s61 s62 s63 s64 s65 s66 s67 s68 s69 s70 s71 s72 s73 s74 s75 s76 s77 s78 s79 s80 s81 s82 s83 s84 s85 s86 s87 s88 s89 s90 s91 s92 s93 s94 s95 s96 s97 s98 s99 s100 s101 s102 s103 s104 s105 s106 s107 s108 s109 s110 s111 s112 s113 s114 s115 s116 s117 s118 s119 s120 s121 s122 s123 s124 s125 s126 s127 s128 s129 s130 s131 s132 s133 s134 s135 s136 s137 s138 s139 s140 s141 s142 s143 s144 s145 s146 s147 s148 s149 s150 s151 s152 s153 s154 s155 s156 s157 s158 s159 s160 s161 : DV) (H : VHeap) (K : Ex → Array DV → VHeap → Prop) : Prop :=
  obind (vload Try.prog 26 s8 H) fun x0 =>
  VCl Try.prog tabS vorcS 3 15 [s0, s1, s2, x0] H fun x1 h2 =>
  obind (vtupleV x1) fun x3 =>
  obind (x3[0]?) fun x4 =>
  obind (vtupleV x1) fun x5 =>
  obind (x5[1]?) fun x6 =>
  obind (vbin Try.prog .lss 3 (.tmp 75) (.const (.int .i64 0)) s2 (.d (.v (.int .i64 0)))) fun x7 =>
  condD x7 (
  obind (vbin Try.prog .eql 28 (.tmp 81) (.const (.int .i64 2)) x6 (.d (.v (.int .i64 2)))) fun x8 =>
  condD x8 (
  obind (vlen1 Try.prog [x4] [24] h2) fun x9 =>
  obind (vbin Try.prog .eql 3 (.tmp 85) (.const (.int .i64 0)) x9 (.d (.v (.int .i64 0)))) fun x10 =>
  condD x10 (
  VCl Try.prog tabS vorcS 3 13 [] h2 fun x11 h12 =>
  K .ret #[s0, s1, s2, s3, s4, s5, s6, s7, s8, s9, x11, s11, s12, s13, s14, s15, s16, s17, x4, x6, s20, s21, s22, s23, s24, s25, s26, s27, s28, s29, s30, s31, s32, s33, s34, s35, s36, s37, s38, s39, s40, s41, s42, s43, s44, s45, s46, s47, s48, s49, s50, s51, s52, s53, s54, s55, s56, s57, s58, s59, s60, s61, s62, s63, s64, s65, s66, x1, s0, s1, s2, x0, x1, x4, x6, s2, x7, (.d (.v (.bool true))), undefD, undefD, (.d (.v (.bool true))), x6, x8, (.d (.v (.bool true))), x4, x9, x10, x10, (.d (.v (.bool true))), x11, x11, s91, s92, s93, s94, s95, s96, s97, s98, s99, s100, s101, s102, s103, s104, s105, s106, s107, s108, s109, s110, s111, s112, s113, s114, s115, s116, s117, s118, s119, s120, s121, s122, s123, s124, s125, s126, s127, s128, s129, s130, s131, s132, s133, s134, s135, s136, s137, s138, s139, s140, s141, s142, s143, s144, s145, s146, s147, s148, s149, s150, s151, s152, s153, s154, s155, s156, s157, s158, s159, s160, s161] h12) (
  K .ret #[s0, s1, s2, s3, s4, s5, s6, s7, s8, s9, (.d (.v (.bool false))), s11, s12, s13, s14, s15, s16, s17, x4, x6, s20, s21, s22, s23, s24, s25, s26, s27, s28, s29, s30, s31, s32, s33, s34, s35, s36, s37, s38, s39, s40, s41, s42, s43, s44, s45, s46, s47, s48, s49, s50, s51, s52, s53, s54, s55, s56, s57, s58, s59, s60, s61, s62, s63, s64, s65, s66, x1, s0, s1, s2, x0, x1, x4, x6, s2, x7, (.d (.v (.bool true))), undefD, undefD, (.d (.v (.bool true))), x6, x8, (.d (.v (.bool true))), x4, x9, x10, x10, (.d (.v (.bool false))), undefD, (.d (.v (.bool false))), s91, s92, s93, s94, s95, s96, s97, s98, s99, s100, s101, s102, s103, s104, s105, s106, s107, s108, s109, s110, s111, s112, s113, s114, s115, s116, s117, s118, s119, s120, s121, s122, s123, s124, s125, s126, s127, s128, s129, s130, s131, s132, s133, s134, s135, s136, s137, s138, s139, s140, s141, s142, s143, s144, s145, s146, s147, s148, s149, s150, s151, s152, s153, s154, s155, s156, s157, s158, s159, s160, s161] h2)) (
  K .ret #[s0, s1, s2, s3, s4, s5, s6, s7, s8, s9, (.d (.v (.bool false))), s11, s12, s13, s14, s15, s16, s17, x4, x6, s20, s21, s22, s23, s24, s25, s26, s27, s28, s29, s30, s31, s32, s33, s34, s35, s36, s37, s38, s39, s40, s41, s42, s43, s44, s45, s46, s47, s48, s49, s50, s51, s52, s53, s54, s55, s56, s57, s58, s59, s60, s61, s62, s63, s64, s65, s66, x1, s0, s1, s2, x0, x1, x4, x6, s2, x7, (.d (.v (.bool true))), undefD, undefD, (.d (.v (.bool true))), x6, x8, (.d (.v (.bool false))), undefD, undefD, undefD, (.d (.v (.bool false))), (.d (.v (.bool false))), undefD, (.d (.v (.bool false))), s91, s92, s93, s94, s95, s96, s97, s98, s99, s100, s101, s102, s103, s104, s105, s106, s107, s108, s109, s110, s111, s112, s113, s114, s115, s116, s117, s118, s119, s120, s121, s122, s123, s124, s125, s126, s127, s128, s129, s130, s131, s132, s133, s134, s135, s136, s137, s138, s139, s140, s141, s142, s143, s144, s145, s146, s147, s148, s149, s150, s151, s152, s153, s154, s155, s156, s157, s158, s159, s160, s161] h2)) (
  obind (vbin Try.prog .gtr 3 (.tmp 78) (.const (.int .i64 7)) s2 (.d (.v (.int .i64 7)))) fun x13 =>
  condD x13 (
  obind (vbin Try.prog .eql 28 (.tmp 81) (.const (.int .i64 2)) x6 (.d (.v (.int .i64 2)))) fun x14 =>
  condD x14 (
  obind (vlen1 Try.prog [x4] [24] h2) fun x15 =>
  obind (vbin Try.prog .eql 3 (.tmp 85) (.const (.int .i64 0)) x15 (.d (.v (.int .i64 0)))) fun x16 =>
  condD x16 (
  VCl Try.prog tabS vorcS 3 13 [] h2 fun x17 h18 =>
  K .ret #[s0, s1, s2, s3, s4, s5, s6, s7, s8, s9, x17, s11, s12, s13, s14, s15, s16, s17, x4, x6, s20, s21, s22, s23, s24, s25, s26, s27, s28, s29, s30, s31, s32, s33, s34, s35, s36, s37, s38, s39, s40, s41, s42, s43, s44, s45, s46, s47, s48, s49, s50, s51, s52, s53, s54, s55, s56, s57, s58, s59, s60, s61, s62, s63, s64, s65, s66, x1, s0, s1, s2, x0, x1, x4, x6, s2, x7, (.d (.v (.bool false))), s2, x13, x13, x6, x14, (.d (.v (.bool true))), x4, x15, x16, x16, (.d (.v (.bool true))), x17, x17, s91, s92, s93, s94, s95, s96, s97, s98, s99, s100, s101, s102, s103, s104, s105, s106, s107, s108, s109, s110, s111, s112, s113, s114, s115, s116, s117, s118, s119, s120, s121, s122, s123, s124, s125, s126, s127, s128, s129, s130, s131, s132, s133, s134, s135, s136, s137, s138, s139, s140, s141, s142, s143, s144, s145, s146, s147, s148, s149, s150, s151, s152, s153, s154, s155, s156, s157, s158, s159, s160, s161] h18) (
  K .ret #[s0, s1, s2, s3, s4, s5, s6, s7, s8, s9, (.d (.v (.bool false))), s11, s12, s13, s14, s15, s16, s17, x4, x6, s20, s21, s22, s23, s24, s25, s26, s27, s28, s29, s30, s31, s32, s33, s34, s35, s36, s37, s38, s39, s40, s41, s42, s43, s44, s45, s46, s47, s48, s49, s50, s51, s52, s53, s54, s55, s56, s57, s58, s59, s60, s61, s62, s63, s64, s65, s66, x1, s0, s1, s2, x0, x1, x4, x6, s2, x7, (.d (.v (.bool false))), s2, x13, x13, x6, x14, (.d (.v (.bool true))), x4, x15, x16, x16, (.d (.v (.bool false))), undefD, (.d (.v (.bool false))), s91, s92, s93, s94, s95, s96, s97, s98, s99, s100, s101, s102, s103, s104, s105, s106, s107, s108, s109, s110, s111, s112, s113, s114, s115, s116, s117, s118, s119, s120, s121, s122, s123, s124, s125, s126, s127, s128, s129, s130, s131, s132, s133, s134, s135, s136, s137, s138, s139, s140, s141, s142, s143, s144, s145, s146, s147, s148, s149, s150, s151, s152, s153, s154, s155, s156, s157, s158, s159, s160, s161] h2)) (
  K .ret #[s0, s1, s2, s3, s4, s5, s6, s7, s8, s9, (.d (.v (.bool false))), s11, s12, s13, s14, s15, s16, s17, x4, x6, s20, s21, s22, s23, s24, s25, s26, s27, s28, s29, s30, s31, s32, s33, s34, s35, s36, s37, s38, s39, s40, s41, s42, s43, s44, s45, s46, s47, s48, s49, s50, s51, s52, s53, s54, s55, s56, s57, s58, s59, s60, s61, s62, s63, s64, s65, s66, x1, s0, s1, s2, x0, x1, x4, x6, s2, x7, (.d (.v (.bool false))), s2, x13, x13, x6, x14, (.d (.v (.bool false))), undefD, undefD, undefD, (.d (.v (.bool false))), (.d (.v (.bool false))), undefD, (.d (.v (.bool false))), s91, s92, s93, s94, s95, s96, s97, s98, s99, s100, s101, s102, s103, s104, s105, s106, s107, s108, s109, s110, s111, s112, s113, s114, s115, s116, s117, s118, s119, s120, s121, s122, s123, s124, s125, s126, s127, s128, s129, s130, s131, s132, s133, s134, s135, s136, s137, s138, s139, s140, s141, s142, s143, s144, s145, s146, s147, s148, s149, s150, s151, s152, s153, s154, s155, s156, s157, s158, s159, s160, s161] h2)) (
  obind (vload Try.prog 26 s8 h2) fun x19 =>
  VCl Try.prog tabS vorcS 3 17 [x19] h2 fun x20 h21 =>
  obind (vun Try.prog .not x20) fun x22 =>
  condD x22 (
  obind (vbin Try.prog .eql 28 (.tmp 94) (.const (.int .i64 20)) x6 (.d (.v (.int .i64 20)))) fun x23 =>
  condD x23 (
  obind (vlen1 Try.prog [x4] [24] h21) fun x24 =>
  obind (vbin Try.prog .eql 3 (.tmp 98) (.const (.int .i64 0)) x24 (.d (.v (.int .i64 0)))) fun x25 =>
  condD x25 (
  VCl Try.prog tabS vorcS 3 13 [] h21 fun x26 h27 =>
  K .ret #[s0, s1, s2, s3, s4, s5, s6, s7, s8, s9, x26, s11, s12, s13, s14, s15, s16, s17, x4, x6, s20, s21, s22, s23, s24, s25, s26, s27, s28, s29, s30, s31, s32, s33, s34, s35, s36, s37, s38, s39, s40, s41, s42, s43, s44, s45, s46, s47, s48, s49, s50, s51, s52, s53, s54, s55, s56, s57, s58, s59, s60, s61, s62, s63, s64, s65, s66, x1, s0, s1, s2, x0, x1, x4, x6, s2, x7, (.d (.v (.bool false))), s2, x13, x13, s81, s82, s83, s84, s85, s86, s87, s88, s89, s90, x19, x20, x22, x6, x23, (.d (.v (.bool true))), x4, x24, x25, x25, (.d (.v (.bool true))), x26, x26, s104, s105, s106, s107, s108, s109, s110, s111, s112, s113, s114, s115, s116, s117, s118, s119, s120, s121, s122, s123, s124, s125, s126, s127, s128, s129, s130, s131, s132, s133, s134, s135, s136, s137, s138, s139, s140, s141, s142, s143, s144, s145, s146, s147, s148, s149, s150, s151, s152, s153, s154, s155, s156, s157, s158, s159, s160, s161] h27) (
  K .ret #[s0, s1, s2, s3, s4, s5, s6, s7, s8, s9, (.d (.v (.bool false))), s11, s12, s13, s14, s15, s16, s17, x4, x6, s20, s21, s22, s23, s24, s25, s26, s27, s28, s29, s30, s31, s32, s33, s34, s35, s36, s37, s38, s39, s40, s41, s42, s43, s44, s45, s46, s47, s48, s49, s50, s51, s52, s53, s54, s55, s56, s57, s58, s59, s60, s61, s62, s63, s64, s65, s66, x1, s0, s1, s2, x0, x1, x4, x6, s2, x7, (.d (.v (.bool false))), s2, x13, x13, s81, s82, s83, s84, s85, s86, s87, s88, s89, s90, x19, x20, x22, x6, x23, (.d (.v (.bool true))), x4, x24, x25, x25, (.d (.v (.bool false))), undefD, (.d (.v (.bool false))), s104, s105, s106, s107, s108, s109, s110, s111, s112, s113, s114, s115, s116, s117, s118, s119, s120, s121, s122, s123, s124, s125, s126, s127, s128, s129, s130, s131, s132, s133, s134, s135, s136, s137, s138, s139, s140, s141, s142, s143, s144, s145, s146, s147, s148, s149, s150, s151, s152, s153, s154, s155, s156, s157, s158, s159, s160, s161] h21)) (
  K .ret #[s0, s1, s2, s3, s4, s5, s6, s7, s8, s9, (.d (.v (.bool false))), s11, s12, s13, s14, s15, s16, s17, x4, x6, s20, s21, s22, s23, s24, s25, s26, s27, s28, s29, s30, s31, s32, s33, s34, s35, s36, s37, s38, s39, s40, s41, s42, s43, s44, s45, s46, s47, s48, s49, s50, s51, s52, s53, s54, s55, s56, s57, s58, s59, s60, s61, s62, s63, s64, s65, s66, x1, s0, s1, s2, x0, x1, x4, x6, s2, x7, (.d (.v (.bool false))), s2, x13, x13, s81, s82, s83, s84, s85, s86, s87, s88, s89, s90, x19, x20, x22, x6, x23, (.d (.v (.bool false))), undefD, undefD, undefD, (.d (.v (.bool false))), (.d (.v (.bool false))), undefD, (.d (.v (.bool false))), s104, s105, s106, s107, s108, s109, s110, s111, s112, s113, s114, s115, s116, s117, s118, s119, s120, s121, s122, s123, s124, s125, s126, s127, s128, s129, s130, s131, s132, s133, s134, s135, s136, s137, s138, s139, s140, s141, s142, s143, s144, s145, s146, s147, s148, s149, s150, s151, s152, s153, s154, s155, s156, s157, s158, s159, s160, s161] h21)) (
  VCl Try.prog tabS vorcS 3 14 [x4] h21 fun x28 h29 =>
  obind (vtupleV x28) fun x30 =>
  obind (x30[0]?) fun x31 =>
  obind (vtupleV x28) fun x32 =>
  obind (x32[1]?) fun x33 =>
  obind (vtupleV x28) fun x34 =>
  obind (x34[2]?) fun x35 =>
  obind (vtupleV x28) fun x36 =>
  obind (x36[3]?) fun x37 =>
  obind (vtupleV x28) fun x38 =>
  obind (x38[4]?) fun x39 =>
  obind (zeroT Try.prog 26) fun x40 =>
  letK (h29 ++ [.cells (zD x40) .fix false 0 0]) fun h41 =>
  obind (vstore Try.prog 26 (.ptr (List.length h29) 0 0) x37 h41) fun x42 =>
  obind (vlen1 Try.prog [x4] [24] x42) fun x43 =>
  obind (vbin Try.prog .neq 3 (.tmp 113) (.const (.int .i64 20)) x43 (.d (.v (.int .i64 20)))) fun x44 =>
  condD x44 (
  K .ret #[s0, s1, s2, s3, s4, s5, s6, s7, s8, s9, (.d (.v (.bool false))), s11, s12, s13, s14, s15, s16, s17, x4, x6, x31, x33, x35, (.ptr (List.length h29) 0 0), x39, s25, s26, s27, s28, s29, s30, s31, s32, s33, s34, s35, s36, s37, s38, s39, s40, s41, s42, s43, s44, s45, s46, s47, s48, s49, s50, s51, s52, s53, s54, s55, s56, s57, s58, s59, s60, s61, s62, s63, s64, s65, s66, x1, s0, s1, s2, x0, x1, x4, x6, s2, x7, (.d (.v (.bool false))), s2, x13, x13, s81, s82, s83, s84, s85, s86, s87, s88, s89, s90, x19, x20, x22, s94, s95, s96, s97, s98, s99, s100, s101, s102, s103, x28, x4, x28, x31, x33, x35, x37, x39, x4, x43, x44, (.d (.v (.bool true))), undefD, undefD, (.d (.v (.bool true))), (.d (.v (.bool true))), undefD, undefD, undefD, (.d (.v (.bool true))), (.d (.v (.bool true))), undefD, undefD, undefD, (.d (.v (.bool true))), (.d (.v (.bool true))), undefD, undefD, undefD, (.d (.v (.bool true))), (.d (.v (.bool true))), undefD, undefD, undefD, undefD, undefD, undefD, (.d (.v (.bool true))), s142, s143, s144, s145, s146, s147, s148, s149, s150, s151, s152, s153, s154, s155, s156, s157, s158, s159, s160, s161] x42) (
  obind (vbin Try.prog .neq 28 (.tmp 116) (.const (.int .i64 0)) x39 (.d (.v (.int .i64 0)))) fun x45 =>
  condD x45 (
  K .ret #[s0, s1, s2, s3, s4, s5, s6, s7, s8, s9, (.d (.v (.bool false))), s11, s12, s13, s14, s15, s16, s17, x4, x6, x31, x33, x35, (.ptr (List.length h29) 0 0), x39, s25, s26, s27, s28, s29, s30, s31, s32, s33, s34, s35, s36, s37, s38, s39, s40, s41, s42, s43, s44, s45, s46, s47, s48, s49, s50, s51, s52, s53, s54, s55, s56, s57, s58, s59, s60, s61, s62, s63, s64, s65, s66, x1, s0, s1, s2, x0, x1, x4, x6, s2, x7, (.d (.v (.bool false))), s2, x13, x13, s81, s82, s83, s84, s85, s86, s87, s88, s89, s90, x19, x20, x22, s94, s95, s96, s97, s98, s99, s100, s101, s102, s103, x28, x4, x28, x31, x33, x35, x37, x39, x4, x43, x44, (.d (.v (.bool false))), x39, x45, x45, (.d (.v (.bool true))), undefD, undefD, undefD, (.d (.v (.bool true))), (.d (.v (.bool true))), undefD, undefD, undefD, (.d (.v (.bool true))), (.d (.v (.bool true))), undefD, undefD, undefD, (.d (.v (.bool true))), (.d (.v (.bool true))), undefD, undefD, undefD, undefD, undefD, undefD, (.d (.v (.bool true))), s142, s143, s144, s145, s146, s147, s148, s149, s150, s151, s152, s153, s154, s155, s156, s157, s158, s159, s160, s161] x42) (
  obind (vbin Try.prog .neq 22 (.tmp 120) (.tmp 121) x31 s0) fun x46 =>
  condD x46 (
  K .ret #[s0, s1, s2, s3, s4, s5, s6, s7, s8, s9, (.d (.v (.bool false))), s11, s12, s13, s14, s15, s16, s17, x4, x6, x31, x33, x35, (.ptr (List.length h29) 0 0), x39, s25, s26, s27, s28, s29, s30, s31, s32, s33, s34, s35, s36, s37, s38, s39, s40, s41, s42, s43, s44, s45, s46, s47, s48, s49, s50, s51, s52, s53, s54, s55, s56, s57, s58, s59, s60, s61, s62, s63, s64, s65, s66, x1, s0, s1, s2, x0, x1, x4, x6, s2, x7, (.d (.v (.bool false))), s2, x13, x13, s81, s82, s83, s84, s85, s86, s87, s88, s89, s90, x19, x20, x22, s94, s95, s96, s97, s98, s99, s100, s101, s102, s103, x28, x4, x28, x31, x33, x35, x37, x39, x4, x43, x44, (.d (.v (.bool false))), x39, x45, x45, (.d (.v (.bool false))), x31, s0, x46, x46, (.d (.v (.bool true))), undefD, undefD, undefD, (.d (.v (.bool true))), (.d (.v (.bool true))), undefD, undefD, undefD, (.d (.v (.bool true))), (.d (.v (.bool true))), undefD, undefD, undefD, undefD, undefD, undefD, (.d (.v (.bool true))), s142, s143, s144, s145, s146, s147, s148, s149, s150, s151, s152, s153, s154, s155, s156, s157, s158, s159, s160, s161] x42) (
  obind (vbin Try.prog .neq 23 (.tmp 125) (.tmp 126) x33 s1) fun x47 =>
  condD x47 (
  K .ret #[s0, s1, s2, s3, s4, s5, s6, s7, s8, s9, (.d (.v (.bool false))), s11, s12, s13, s14, s15, s16, s17, x4, x6, x31, x33, x35, (.ptr (List.length h29) 0 0), x39, s25, s26, s27, s28, s29, s30, s31, s32, s33, s34, s35, s36, s37, s38, s39, s40, s41, s42, s43, s44, s45, s46, s47, s48, s49, s50, s51, s52, s53, s54, s55, s56, s57, s58, s59, s60, s61, s62, s63, s64, s65, s66, x1, s0, s1, s2, x0, x1, x4, x6, s2, x7, (.d (.v (.bool false))), s2, x13, x13, s81, s82, s83, s84, s85, s86, s87, s88, s89, s90, x19, x20, x22, s94, s95, s96, s97, s98, s99, s100, s101, s102, s103, x28, x4, x28, x31, x33, x35, x37, x39, x4, x43, x44, (.d (.v (.bool false))), x39, x45, x45, (.d (.v (.bool false))), x31, s0, x46, x46, (.d (.v (.bool false))), x33, s1, x47, x47, (.d (.v (.bool true))), undefD, undefD, undefD, (.d (.v (.bool true))), (.d (.v (.bool true))), undefD, undefD, undefD, undefD, undefD, undefD, (.d (.v (.bool true))), s142, s143, s144, s145, s146, s147, s148, s149, s150, s151, s152, s153, s154, s155, s156, s157, s158, s159, s160, s161] x42) (
  obind (vbin Try.prog .neq 3 (.tmp 130) (.tmp 131) x35 s2) fun x48 =>
  condD x48 (
  K .ret #[s0, s1, s2, s3, s4, s5, s6, s7, s8, s9, (.d (.v (.bool false))), s11, s12, s13, s14, s15, s16, s17, x4, x6, x31, x33, x35, (.ptr (List.length h29) 0 0), x39, s25, s26, s27, s28, s29, s30, s31, s32, s33, s34, s35, s36, s37, s38, s39, s40, s41, s42, s43, s44, s45, s46, s47, s48, s49, s50, s51, s52, s53, s54, s55, s56, s57, s58, s59, s60, s61, s62, s63, s64, s65, s66, x1, s0, s1, s2, x0, x1, x4, x6, s2, x7, (.d (.v (.bool false))), s2, x13, x13, s81, s82, s83, s84, s85, s86, s87, s88, s89, s90, x19, x20, x22, s94, s95, s96, s97, s98, s99, s100, s101, s102, s103, x28, x4, x28, x31, x33, x35, x37, x39, x4, x43, x44, (.d (.v (.bool false))), x39, x45, x45, (.d (.v (.bool false))), x31, s0, x46, x46, (.d (.v (.bool false))), x33, s1, x47, x47, (.d (.v (.bool false))), x35, s2, x48, x48, (.d (.v (.bool true))), undefD, undefD, undefD, undefD, undefD, undefD, (.d (.v (.bool true))), s142, s143, s144, s145, s146, s147, s148, s149, s150, s151, s152, s153, s154, s155, s156, s157, s158, s159, s160, s161] x42) (
  obind (vload Try.prog 26 s8 x42) fun x49 =>
  obind (vbuildS Try.prog 36 1 [(0, x49)]) fun x50 =>
  letK (x42 ++ [.cells x50.1 .fix false 0 0]) fun h51 =>
  obind (vload Try.prog 26 (.ptr (List.length h29) 0 0) h51) fun x52 =>
  obind (vbuildS Try.prog 36 1 [(0, x52)]) fun x53 =>
  letK (h51 ++ [.cells x53.1 .fix false 0 0]) fun h54 =>
  VCl Try.prog tabS vorcS 3 18 [(.slc (List.length x42) 0 0 1 1 x50.2), (.slc (List.length h51) 0 0 1 1 x53.2)] h54 fun x55 h56 =>
  obind (vun Try.prog .not x55) fun x57 =>
  condD x57 (
  K .ret #[s0, s1, s2, s3, s4, s5, s6, s7, s8, s9, (.d (.v (.bool false))), s11, s12, s13, s14, s15, s16, s17, x4, x6, x31, x33, x35, (.ptr (List.length h29) 0 0), x39, s25, s26, s27, s28, s29, s30, s31, s32, s33, s34, s35, s36, s37, s38, s39, s40, s41, s42, s43, s44, s45, s46, s47, s48, s49, s50, s51, s52, s53, s54, s55, s56, s57, s58, s59, s60, s61, s62, s63, s64, s65, s66, x1, s0, s1, s2, x0, x1, x4, x6, s2, x7, (.d (.v (.bool false))), s2, x13, x13, s81, s82, s83, s84, s85, s86, s87, s88, s89, s90, x19, x20, x22, s94, s95, s96, s97, s98, s99, s100, s101, s102, s103, x28, x4, x28, x31, x33, x35, x37, x39, x4, x43, x44, (.d (.v (.bool false))), x39, x45, x45, (.d (.v (.bool false))), x31, s0, x46, x46, (.d (.v (.bool false))), x33, s1, x47, x47, (.d (.v (.bool false))), x35, s2, x48, x48, (.d (.v (.bool false))), x49, (.slc (List.length x42) 0 0 1 1 x50.2), x52, (.slc (List.length h51) 0 0 1 1 x53.2), x55, x57, x57, s142, s143, s144, s145, s146, s147, s148, s149, s150, s151, s152, s153, s154, s155, s156, s157, s158, s159, s160, s161] h56) (
  obind (vlen1 Try.prog [x4] [24] h56) fun x58 =>
  VWloop Try.prog tabS vorcS 3 S3_111111110100 #[s0, s1, s2, s3, s4, s5, s6, s7, s8, s9, s10, s11, s12, s13, s14, s15, s16, s17, x4, x6, x31, x33, x35, (.ptr (List.length h29) 0 0), x39, s25, s26, s27, s28, s29, s30, s31, s32, s33, s34, s35, s36, s37, s38, s39, s40, s41, s42, s43, s44, s45, s46, s47, s48, s49, s50, s51, s52, s53, s54, s55, s56, s57, s58, s59, s60, s61, s62, s63, s64, s65, s66, x1, s0, s1, s2, x0, x1, x4, x6, s2, x7, (.d (.v (.bool false))), s2, x13, x13, s81, s82, s83, s84, s85, s86, s87, s88, s89, s90, x19, x20, x22, s94, s95, s96, s97, s98, s99, s100, s101, s102, s103, x28, x4, x28, x31, x33, x35, x37, x39, x4, x43, x44, (.d (.v (.bool false))), x39, x45, x45, (.d (.v (.bool false))), x31, s0, x46, x46, (.d (.v (.bool false))), x33, s1, x47, x47, (.d (.v (.bool false))), x35, s2, x48, x48, (.d (.v (.bool false))), x49, (.slc (List.length x42) 0 0 1 1 x50.2), x52, (.slc (List.length h51) 0 0 1 1 x53.2), x55, x57, x57, x4, x58, (.d (.v (.int .i64 0))), s145, s146, s147, s148, s149, s150, s151, s152, s153, s154, s155, s156, s157, s158, s159, s160, s161] h56 (blockD 0 (seqD (fun t h k => VWc Try.prog tabS vorcS 3 S3_111111111 t h k) K)))))))))))
theorem ES3_111 (s0 s1 s2 s3 s4 s5 s6 s7 s8 s9 s10 s11 s12 s13 s14 s15 s16 s17 s18 s19 s20 s21 s22 s23 s24 s25 s26 s27 s28 s29 s30 s31 s32 s33 s34 s35 s36 s37 s38 s39 s40 s41 s42 s43 s44 s45 s46 s47 s48 s49 s50 s51 s52 s53 s54 s55 s56 s57 s58 s59 s60 s61 s62 s63 s64 s65 s66 s67 s68 s69 s70 s71 s72 s73 s74 s75 s76 s77 s78 s79 s80 s81 s82 s83 s84 s85 s86 s87 s88 s89 s90 s91 s92 s93 s94 s95 s96 s97 s98 s99 s100 s101 s102 s103 s104 s105 s106 s107 s108 s109 s110 s111 s112 s113 s114 s115 s116 s117 s118 s119 s120 s121 s122 s123 s124 s125 s126 s127 s128 s129 s130 s131 s132 s133 s134 s135 s136 s137 s138 s139 s140 s141 s142 s143 s144 s145 s146 s147 s148 s149 s150 s151 s152 s153 s154 s155 s156 s157 s158 s159 s160 s161 : DV) (H : VHeap) (K : Ex → Array DV → VHeap → Prop) : VWc Try.prog tabS vorcS 3 S3_111 #[s0, s1, s2, s3, s4, s5, s6, s7, s8, s9, s10, s11, s12, s13, s14, s15, s16, s17, s18, s19, s20, s21, s22, s23, s24, s25, s26, s27, s28, s29, s30, s31, s32, s33, s34, s35, s36, s37, s38, s39, s40, s41, s42, s43, s44, s45, s46, s47, s48, s49, s50, s51, s52, s53, s54, s55, s56, s57, s58, s59, s60, s61, s62, s63, s64, s65, s66, s67, s68, s69, s70, s71, s72, s73, s74, s75, s76, s77, s78, s79, s80, s81, s82, s83, s84, s85, s86, s87, s88, s89, s90, s91, s92, s93, s94, s95, s96, s97, s98, s99, s100, s101, s102, s103, s104, s105, s106, s107, s108, s109, s110, s111, s112, s113, s114, s115, s116, s117, s118, s119, s120, s121, s122, s123, s124, s125, s126, s127, s128, s129, s130, s131, s132, s133, s134, s135, s136, s137, s138, s139, s140, s141, s142, s143, s144, s145, s146, s147, s148, s149, s150, s151, s152, s153, s154, s155, s156, s157, s158, s159, s160, s161] H K = WS3_111 s0 s1 s2 s3 s4 s5 s6 s7 s8 s9 s10 s11 s12 s13 s14 s15 s16 s17 s18 s19 s20 s21 s22 s23 s24 s25 s26 s27 s28 s29 s30 s31 s32 s33 s34 s35 s36 s37 s38 s39 s40 s41 s42 s43 s44 s45 s46 s47 s48 s49 s50 s51 s52 s53 s54 s55 s56 s57 s58 s59 s60 s61 s62 s63 s64 s65 s66 s67 s68 s69 s70 s71 s72 s73 s74 s75 s76 s77 s78 s79 s80 s81 s82 s83 s84 s85 s86 s87 s88 s89 s90 s91 s92 s93 s94 s95 s96 s97 s98 s99 s100 s101 s102 s103 s104 s105 s106 s107 s108 s109 s110 s111 s112 s113 s114 s115 s116 s117 s118 s119 s120 s121 s122 s123 s124 s125 s126 s127 s128 s129 s130 s131 s132 s133 s134 s135 s136 s137 s138 s139 s140 s141 s142 s143 s144 s145 s146 s147 s148 s149 s150 s151 s152 s153 s154 s155 s156 s157 s158 s159 s160 s161 H K := by kernel_rfl
def WS3_111111111 (s0 s1 s2 s3 s4 s5 s6 s7 s8 s9 s10 s11 s12 s13 s14 s15 s16 s17 s18 s19 s20 s21 s22 s23 s24 s25 s26 s27 s28 s29 s30 s31 s32 s33 s34 s35 s36 s37 s38 s39 s40 s41 s42 s43 s44 s45 s46 s47 s48 s49 s50 s51 s52 s53 s54 s55 s56 s57 s58 s59 s60 s61 s62 s63 s64 s65 s66 s67 s68 s69 s70 s71 s72 s73 s74 s75 s76 s77 s78 s79 s80 s81 s82 s83 s84 s85 s86 s87 s88 s89 s90 s91 s92 s93 s94 s95 s96 s97 s98 s99 s100 s101 s102 s103 s104 s105 s106 s107 s108 s109 s110 s111 s112 s113 s114 s115 s116 s117 s118 s119 s120 s121 s122 s123 s124 s125 s126 s127 s128 s129 s130 s131 s132 s133 s134 s135 s136 s137 s138 s139 s140 s141 s142 s143 s144 s145 s146 s147 s148 s149 s150 s151 s152 s153 s154 s155 s156 s157 s158 s159 s160 s161 : DV) (H : VHeap) (K : Ex → Array DV → VHeap → Prop) : Prop :=
  obind (vfieldAddr Try.prog 26 s23 1) fun x0 =>
  obind (vload Try.prog 24 x0 H) fun x1 =>
  obind (vfieldAddr Try.prog 26 s8 1) fun x2 =>
  obind (vload Try.prog 24 x2 H) fun x3 =>
  VCl Try.prog tabS vorcS 3 16 [x1, x3] H fun x4 h5 =>
  condD x4 (
  VCl Try.prog tabS vorcS 3 13 [] h5 fun x6 h7 =>
  K .ret #[s0, s1, s2, s3, s4, s5, s6, s7, s8, s9, x6, s11, s12, s13, s14, s15, s16, s17, s18, s19, s20, s21, s22, s23, s24, s25, s26, s27, s28, s29, s30, s31, s32, s33, s34, s35, s36, s37, s38, s39, s40, s41, s42, s43, s44, s45, s46, s47, s48, s49, s50, s51, s52, s53, s54, s55, s56, s57, s58, s59, s60, s61, s62, s63, s64, s65, s66, s67, s68, s69, s70, s71, s72, s73, s74, s75, s76, s77, s78, s79, s80, s81, s82, s83, s84, s85, s86, s87, s88, s89, s90, s91, s92, s93, s94, s95, s96, s97, s98, s99, s100, s101, s102, s103, s104, s105, s106, s107, s108, s109, s110, s111, s112, s113, s114, s115, s116, s117, s118, s119, s120, s121, s122, s123, s124, s125, s126, s127, s128, s129, s130, s131, s132, s133, s134, s135, s136, s137, s138, s139, s140, s141, s142, s143, s144, s145, s146, s147, s148, s149, s150, s151, s152, s153, x0, x1, x2, x3, x4, (.d (.v (.bool true))), x6, x6] h7) (
  K .ret #[s0, s1, s2, s3, s4, s5, s6, s7, s8, s9, (.d (.v (.bool false))), s11, s12, s13, s14, s15, s16, s17, s18, s19, s20, s21, s22, s23, s24, s25, s26, s27, s28, s29, s30, s31, s32, s33, s34, s35, s36, s37, s38, s39, s40, s41, s42, s43, s44, s45, s46, s47, s48, s49, s50, s51, s52, s53, s54, s55, s56, s57, s58, s59, s60, s61, s62, s63, s64, s65, s66, s67, s68, s69, s70, s71, s72, s73, s74, s75, s76, s77, s78, s79, s80, s81, s82, s83, s84, s85, s86, s87, s88, s89, s90, s91, s92, s93, s94, s95, s96, s97, s98, s99, s100, s101, s102, s103, s104, s105, s106, s107, s108, s109, s110, s111, s112, s113, s114, s115, s116, s117, s118, s119, s120, s121, s122, s123, s124, s125, s126, s127, s128, s129, s130, s131, s132, s133, s134, s135, s136, s137, s138, s139, s140, s141, s142, s143, s144, s145, s146, s147, s148, s149, s150, s151, s152, s153, x0, x1, x2, x3, x4, (.d (.v (.bool false))), undefD, (.d (.v (.bool false)))] h5)
theorem ES3_111111111 (s0 s1 s2 s3 s4 s5 s6 s7 s8 s9 s10 s11 s12 s13 s14 s15 s16 s17 s18 s19 s20 s21 s22 s23 s24 s25 s26 s27 s28 s29 s30 s31 s32 s33 s34 s35 s36 s37 s38 s39 s40 s41 s42 s43 s44 s45 s46 s47 s48 s49 s50 s51 s52 s53 s54 s55 s56 s57 s58 s59 s60 s61 s62 s63 s64 s65 s66 s67 s68 s69 s70 s71 s72 s73 s74 s75 s76 s77 s78 s79 s80 s81 s82 s83 s84 s85 s86 s87 s88 s89 s90 s91 s92 s93 s94 s95 s96 s97 s98 s99 s100 s101 s102 s103 s104 s105 s106 s107 s108 s109 s110 s111 s112 s113 s114 s115 s116 s117 s118 s119 s120 s121 s122 s123 s124 s125 s126 s127 s128 s129 s130 s131 s132 s133 s134 s135 s136 s137 s138 s139 s140 s141 s142 s143 s144 s145 s146 s147 s148 s149 s150 s151 s152 s153 s154 s155 s156 s157 s158 s159 s160 s161 : DV) (H : VHeap) (K : Ex → Array DV → VHeap → Prop) : VWc Try.prog tabS vorcS 3 S3_111111111 #[s0, s1, s2, s3, s4, s5, s6, s7, s8, s9, s10, s11, s12, s13, s14, s15, s16, s17, s18, s19, s20, s21, s22, s23, s24, s25, s26, s27, s28, s29, s30, s31, s32, s33, s34, s35, s36, s37, s38, s39, s40, s41, s42, s43, s44, s45, s46, s47, s48, s49, s50, s51, s52, s53, s54, s55, s56, s57, s58, s59, s60, s61, s62, s63, s64, s65, s66, s67, s68, s69, s70, s71, s72, s73, s74, s75, s76, s77, s78, s79, s80, s81, s82, s83, s84, s85, s86, s87, s88, s89, s90, s91, s92, s93, s94, s95, s96, s97, s98, s99, s100, s101, s102, s103, s104, s105, s106, s107, s108, s109, s110, s111, s112, s113, s114, s115, s116, s117, s118, s119, s120, s121, s122, s123, s124, s125, s126, s127, s128, s129, s130, s131, s132, s133, s134, s135, s136, s137, s138, s139, s140, s141, s142, s143, s144, s145, s146, s147, s148, s149, s150, s151, s152, s153, s154, s155, s156, s157, s158, s159, s160, s161] H K = WS3_111111111 s0 s1 s2 s3 s4 s5 s6 s7 s8 s9 s10 s11 s12 s13 s14 s15 s16 s17 s18 s19 s20 s21 s22 s23 s24 s25 s26 s27 s28 s29 s30 s31 s32 s33 s34 s35 s36 s37 s38 s39 s40 s41 s42 s43 s44 s45 s46 s47 s48 s49 s50 s51 s52 s53 s54 s55 s56 s57 s58 s59 s60 s61 s62 s63 s64 s65 s66 s67 s68 s69 s70 s71 s72 s73 s74 s75 s76 s77 s78 s79 s80 s81 s82 s83 s84 s85 s86 s87 s88 s89 s90 s91 s92 s93 s94 s95 s96 s97 s98 s99 s100 s101 s102 s103 s104 s105 s106 s107 s108 s109 s110 s111 s112 s113 s114 s115 s116 s117 s118 s119 s120 s121 s122 s123 s124 s125 s126 s127 s128 s129 s130 s131 s132 s133 s134 s135 s136 s137 s138 s139 s140 s141 s142 s143 s144 s145 s146 s147 s148 s149 s150 s151 s152 s153 s154 s155 s156 s157 s158 s159 s160 s161 H K := by kernel_rfl
def WS3_111111110100 (s0 s1 s2 s3 s4 s5 s6 s7 s8 s9 s10 s11 s12 s13 s14 s15 s16 s17 s18 s19 s20 s21 s22 s23 s24 s25 s26 s27 s28 s29 s30 s31 s32 s33 s34 s35 s36 s37 s38 s39 s40 s41 s42 s43 s44 s45 s46 s47 s48 s49 s50 s51 s52 s53 s54 s55 s56 s57 s58 s59 s60 s61 s62 s63 s64 s65 s66 s67 s68 s69 s70 s71 s72 s73 s74 s75 s76 s77 s78 s79 s80 s81 s82 s83 s84 s85 s86 s87 s88 s89 s90 s91 s92 s93 s94 s95 s96 s97 s98 s99 s100 s101 s102 s103 s104 s105 s106 s107 s108 s109 s110 s111 s112 s113 s114 s115 s116 s117 s118 s119 s120 s121 s122 s123 s124 s125 s126 s127 s128 s129 s130 s131 s132 s133 s134 s135 s136 s137 s138 s139 s140 s141 s142 s143 s144 s145 s146 s147 s148 s149 s150 s151 s152 s153 s154 s155 s156 s157 s158 s159 s160 s161 : DV) (H : VHeap) (K : Ex → Array DV → VHeap → Prop) : Prop :=
  obind (vbin Try.prog .lss 3 (.tmp 144) (.tmp 143) s144 s143) fun x0 =>
  condD x0 (
  obind (vindexAddr Try.prog 24 s18 s144) fun x1 =>
  obind (vload Try.prog 22 x1 H) fun x2 =>
  obind (vbin Try.prog .add 22 (.tmp 150) (.const (.int .u16 1)) x2 (.d (.v (.int .u16 1)))) fun x3 =>
  obind (vindexAddr Try.prog 24 s18 s144) fun x4 =>
  obind (vstore Try.prog 22 x4 x3 H) fun x5 =>
  obind (vbin Try.prog .add 3 (.tmp 144) (.const (.int .i64 1)) s144 (.d (.v (.int .i64 1)))) fun x6 =>
  K .normal #[s0, s1, s2, s3, s4, s5, s6, s7, s8, s9, s10, s11, s12, s13, s14, s15, s16, s17, s18, s19, s20, s21, s22, s23, s24, s144, s26, s27, s28, s29, s30, s31, s32, s33, s34, s35, s36, s37, s38, s39, s40, s41, s42, s43, s44, s45, s46, s47, s48, s49, s50, s51, s52, s53, s54, s55, s56, s57, s58, s59, s60, s61, s62, s63, s64, s65, s66, s67, s68, s69, s70, s71, s72, s73, s74, s75, s76, s77, s78, s79, s80, s81, s82, s83, s84, s85, s86, s87, s88, s89, s90, s91, s92, s93, s94, s95, s96, s97, s98, s99, s100, s101, s102, s103, s104, s105, s106, s107, s108, s109, s110, s111, s112, s113, s114, s115, s116, s117, s118, s119, s120, s121, s122, s123, s124, s125, s126, s127, s128, s129, s130, s131, s132, s133, s134, s135, s136, s137, s138, s139, s140, s141, s142, s143, x6, x0, s144, s18, s144, x1, x2, x3, x4, x6, s154, s155, s156, s157, s158, s159, s160, s161] x5) (
  K (.exit 0) #[s0, s1, s2, s3, s4, s5, s6, s7, s8, s9, s10, s11, s12, s13, s14, s15, s16, s17, s18, s19, s20, s21, s22, s23, s24, s25, s26, s27, s28, s29, s30, s31, s32, s33, s34, s35, s36, s37, s38, s39, s40, s41, s42, s43, s44, s45, s46, s47, s48, s49, s50, s51, s52, s53, s54, s55, s56, s57, s58, s59, s60, s61, s62, s63, s64, s65, s66, s67, s68, s69, s70, s71, s72, s73, s74, s75, s76, s77, s78, s79, s80, s81, s82, s83, s84, s85, s86, s87, s88, s89, s90, s91, s92, s93, s94, s95, s96, s97, s98, s99, s100, s101, s102, s103, s104, s105, s106, s107, s108, s109, s110, s111, s112, s113, s114, s115, s116, s117, s118, s119, s120, s121, s122, s123, s124, s125, s126, s127, s128, s129, s130, s131, s132, s133, s134, s135, s136, s137, s138, s139, s140, s141, s142, s143, s144, x0, s146, s147, s148, s149, s150, s151, s152, s153, s154, s155, s156, s157, s158, s159, s160, s161] H)
theorem ES3_111111110100 (s0 s1 s2 s3 s4 s5 s6 s7 s8 s9 s10 s11 s12 s13 s14 s15 s16 s17 s18 s19 s20 s21 s22 s23 s24 s25 s26 s27 s28 s29 s30 s31 s32 s33 s34 s35 s36 s37 s38 s39 s40 s41 s42 s43 s44 s45 s46 s47 s48 s49 s50 s51 s52 s53 s54 s55 s56 s57 s58 s59 s60 s61 s62 s63 s64 s65 s66 s67 s68 s69 s70 s71 s72 s73 s74 s75 s76 s77 s78 s79 s80 s81 s82 s83 s84 s85 s86 s87 s88 s89 s90 s91 s92 s93 s94 s95 s96 s97 s98 s99 s100 s101 s102 s103 s104 s105 s106 s107 s108 s109 s110 s111 s112 s113 s114 s115 s116 s117 s118 s119 s120 s121 s122 s123 s124 s125 s126 s127 s128 s129 s130 s131 s132 s133 s134 s135 s136 s137 s138 s139 s140 s141 s142 s143 s144 s145 s146 s147 s148 s149 s150 s151 s152 s153 s154 s155 s156 s157 s158 s159 s160 s161 : DV) (H : VHeap) (K : Ex → Array DV → VHeap → Prop) : VWc Try.prog tabS vorcS 3 S3_111111110100 #[s0, s1, s2, s3, s4, s5, s6, s7, s8, s9, s10, s11, s12, s13, s14, s15, s16, s17, s18, s19, s20, s21, s22, s23, s24, s25, s26, s27, s28, s29, s30, s31, s32, s33, s34, s35, s36, s37, s38, s39, s40, s41, s42, s43, s44, s45, s46, s47, s48, s49, s50, s51, s52, s53, s54, s55, s56, s57, s58, s59, s60, s61, s62, s63, s64, s65, s66, s67, s68, s69, s70, s71, s72, s73, s74, s75, s76, s77, s78, s79, s80, s81, s82, s83, s84, s85, s86, s87, s88, s89, s90, s91, s92, s93, s94, s95, s96, s97, s98, s99, s100, s101, s102, s103, s104, s105, s106, s107, s108, s109, s110, s111, s112, s113, s114, s115, s116, s117, s118, s119, s120, s121, s122, s123, s124, s125, s126, s127, s128, s129, s130, s131, s132, s133, s134, s135, s136, s137, s138, s139, s140, s141, s142, s143, s144, s145, s146, s147, s148, s149, s150, s151, s152, s153, s154, s155, s156, s157, s158, s159, s160, s161] H K = WS3_111111110100 s0 s1 s2 s3 s4 s5 s6 s7 s8 s9 s10 s11 s12 s13 s14 s15 s16 s17 s18 s19 s20 s21 s22 s23 s24 s25 s26 s27 s28 s29 s30 s31 s32 s33 s34 s35 s36 s37 s38 s39 s40 s41 s42 s43 s44 s45 s46 s47 s48 s49 s50 s51 s52 s53 s54 s55 s56 s57 s58 s59 s60 s61 s62 s63 s64 s65 s66 s67 s68 s69 s70 s71 s72 s73 s74 s75 s76 s77 s78 s79 s80 s81 s82 s83 s84 s85 s86 s87 s88 s89 s90 s91 s92 s93 s94 s95 s96 s97 s98 s99 s100 s101 s102 s103 s104 s105 s106 s107 s108 s109 s110 s111 s112 s113 s114 s115 s116 s117 s118 s119 s120 s121 s122 s123 s124 s125 s126 s127 s128 s129 s130 s131 s132 s133 s134 s135 s136 s137 s138 s139 s140 s141 s142 s143 s144 s145 s146 s147 s148 s149 s150 s151 s152 s153 s154 s155 s156 s157 s158 s159 s160 s161 H K := by kernel_rfl
/-- The slots that matter; the others hold what they may. -/
def FS3 (s0 s1 s2 s8 s10 s18 s23 s143 s144 : DV) (ts : Array DV) : Prop := ∃ d : Nat → DV, ts = #[s0, s1, s2, d 3, d 4, d 5, d 6, d 7, s8, d 9, s10, d 11, d 12, d 13, d 14, d 15, d 16, d 17, s18, d 19, d 20, d 21, d 22, s23, d 24, d 25, d 26, d 27, d 28, d 29, d 30, d 31, d 32, d 33, d 34, d 35, d 36, d 37, d 38, d 39, d 40, d 41, d 42, d 43, d 44, d 45, d 46, d 47, d 48, d 49, d 50, d 51, d 52, d 53, d 54, d 55, d 56, d 57, d 58, d 59, d 60, d 61, d 62, d 63, d 64, d 65, d 66, d 67, d 68, d 69, d 70, d 71, d 72, d 73, d 74, d 75, d 76, d 77, d 78, d 79, d 80, d 81, d 82, d 83, d 84, d 85, d 86, d 87, d 88, d 89, d 90, d 91, d 92, d 93, d 94, d 95, d 96, d 97, d 98, d 99, d 100, d 101, d 102, d 103, d 104, d 105, d 106, d 107, d 108, d 109, d 110, d 111, d 112, d 113, d 114, d 115, d 116, d 117, d 118, d 119, d 120, d 121, d 122, d 123, d 124, d 125, d 126, d 127, d 128, d 129, d 130, d 131, d 132, d 133, d 134, d 135, d 136, d 137, d 138, d 139, d 140, d 141, d 142, s143, s144, d 145, d 146, d 147, d 148, d 149, d 150, d 151, d 152, d 153, d 154, d 155, d 156, d 157, d 158, d 159, d 160, d 161]
theorem FS3_mk (s0 s1 s2 s3 s4 s5 s6 s7 s8 s9 s10 s11 s12 s13 s14 s15 s16 s17 s18 s19 s20 s21 s22 s23 s24 s25 s26 s27 s28 s29 s30 s31 s32 s33 s34 s35 s36 s37 s38 s39 s40 s41 s42 s43 s44 s45 s46 s47 s48 s49 s50 s51 s52 s53 s54 s55 s56 s57 s58 s59 s60 s61 s62 s63 s64 s65 s66 s67 s68 s69 s70 s71 s72 s73 s74 s75 s76 s77 s78 s79 s80 s81 s82 s83 s84 s85 s86 s87 s88 s89 s90 s91 s92 s93 s94 s95 s96 s97 s98 s99 s100 s101 s102 s103 s104 s105 s106 s107 s108 s109 s110 s111 s112 s113 s114 s115 s116 s117 s118 s119 s120 s121 s122 s123 s124 s125 s126 s127 s128 s129 s130 s131 s132 s133 s134 s135 s136 s137 s138 s139 s140 s141 s142 s143 s144 s145 s146 s147 s148 s149 s150 s151 s152 s153 s154 s155 s156 s157 s158 s159 s160 s161 : DV) : FS3 s0 s1 s2 s8 s10 s18 s23 s143 s144 #[s0, s1, s2, s3, s4, s5, s6, s7, s8, s9, s10, s11, s12, s13, s14, s15, s16, s17, s18, s19, s20, s21, s22, s23, s24, s25, s26, s27, s28, s29, s30, s31, s32, s33, s34, s35, s36, s37, s38, s39, s40, s41, s42, s43, s44, s45, s46, s47, s48, s49, s50, s51, s52, s53, s54, s55, s56, s57, s58, s59, s60, s61, s62, s63, s64, s65, s66, s67, s68, s69, s70, s71, s72, s73, s74, s75, s76, s77, s78, s79, s80, s81, s82, s83, s84, s85, s86, s87, s88, s89, s90, s91, s92, s93, s94, s95, s96, s97, s98, s99, s100, s101, s102, s103, s104, s105, s106, s107, s108, s109, s110, s111, s112, s113, s114, s115, s116, s117, s118, s119, s120, s121, s122, s123, s124, s125, s126, s127, s128, s129, s130, s131, s132, s133, s134, s135, s136, s137, s138, s139, s140, s141, s142, s143, s144, s145, s146, s147, s148, s149, s150, s151, s152, s153, s154, s155, s156, s157, s158, s159, s160, s161] := ⟨fun i => [s0, s1, s2, s3, s4, s5, s6, s7, s8, s9, s10, s11, s12, s13, s14, s15, s16, s17, s18, s19, s20, s21, s22, s23, s24, s25, s26, s27, s28, s29, s30, s31, s32, s33, s34, s35, s36, s37, s38, s39, s40, s41, s42, s43, s44, s45, s46, s47, s48, s49, s50, s51, s52, s53, s54, s55, s56, s57, s58, s59, s60, s61, s62, s63, s64, s65, s66, s67, s68, s69, s70, s71, s72, s73, s74, s75, s76, s77, s78, s79, s80, s81, s82, s83, s84, s85, s86, s87, s88, s89, s90, s91, s92, s93, s94, s95, s96, s97, s98, s99, s100, s101, s102, s103, s104, s105, s106, s107, s108, s109, s110, s111, s112, s113, s114, s115, s116, s117, s118, s119, s120, s121, s122, s123, s124, s125, s126, s127, s128, s129, s130, s131, s132, s133, s134, s135, s136, s137, s138, s139, s140, s141, s142, s143, s144, s145, s146, s147, s148, s149, s150, s151, s152, s153, s154, s155, s156, s157, s158, s159, s160, s161].getD i undefD, by kernel_rfl⟩
theorem LS3_111 {s0 s1 s2 s8 s10 s18 s23 s143 s144 : DV} {ts : Array DV} {H : VHeap} {K : Ex → Array DV → VHeap → Prop} (h0 : FS3 s0 s1 s2 s8 s10 s18 s23 s143 s144 ts) (h : ∀ d : Nat → DV, WS3_111 s0 s1 s2 (d 3) (d 4) (d 5) (d 6) (d 7) s8 (d 9) s10 (d 11) (d 12) (d 13) (d 14) (d 15) (d 16) (d 17) s18 (d 19) (d 20) (d 21) (d 22) s23 (d 24) (d 25) (d 26) (d 27) (d 28) (d 29) (d 30) (d 31) (d 32) (d 33) (d 34) (d 35) (d 36) (d 37) (d 38) (d 39) (d 40) (d 41) (d 42) (d 43) (d 44) (d 45) (d 46) (d 47) (d 48) (d 49) (d 50) (d 51) (d 52) (d 53) (d 54) (d 55) (d 56) (d 57) (d 58) (d 59) (d 60) (d 61) (d 62) (d 63) (d 64) (d 65) (d 66) (d 67) (d 68) (d 69) (d 70) (d 71) (d 72) (d 73) (d 74) (d 75) (d 76) (d 77) (d 78) (d 79) (d 80) (d 81) (d 82) (d 83) (d 84) (d 85) (d 86) (d 87) (d 88) (d 89) (d 90) (d 91) (d 92) (d 93) (d 94) (d 95) (d 96) (d 97) (d 98) (d 99) (d 100) (d 101) (d 102) (d 103) (d 104) (d 105) (d 106) (d 107) (d 108) (d 109) (d 110) (d 111) (d 112) (d 113) (d 114) (d 115) (d 116) (d 117) (d 118) (d 119) (d 120) (d 121) (d 122) (d 123) (d 124) (d 125) (d 126) (d 127) (d 128) (d 129) (d 130) (d 131) (d 132) (d 133) (d 134) (d 135) (d 136) (d 137) (d 138) (d 139) (d 140) (d 141) (d 142) s143 s144 (d 145) (d 146) (d 147) (d 148) (d 149) (d 150) (d 151) (d 152) (d 153) (d 154) (d 155) (d 156) (d 157) (d 158) (d 159) (d 160) (d 161) H K) : VWc Try.prog tabS vorcS 3 S3_111 ts H K := by
  obtain ⟨d, rfl⟩ := h0
  rw [ES3_111]; exact h d
theorem LS3_111111111 {s0 s1 s2 s8 s10 s18 s23 s143 s144 : DV} {ts : Array DV} {H : VHeap} {K : Ex → Array DV → VHeap → Prop} (h0 : FS3 s0 s1 s2 s8 s10 s18 s23 s143 s144 ts) (h : ∀ d : Nat → DV, WS3_111111111 s0 s1 s2 (d 3) (d 4) (d 5) (d 6) (d 7) s8 (d 9) s10 (d 11) (d 12) (d 13) (d 14) (d 15) (d 16) (d 17) s18 (d 19) (d 20) (d 21) (d 22) s23 (d 24) (d 25) (d 26) (d 27) (d 28) (d 29) (d 30) (d 31) (d 32) (d 33) (d 34) (d 35) (d 36) (d 37) (d 38) (d 39) (d 40) (d 41) (d 42) (d 43) (d 44) (d 45) (d 46) (d 47) (d 48) (d 49) (d 50) (d 51) (d 52) (d 53) (d 54) (d 55) (d 56) (d 57) (d 58) (d 59) (d 60) (d 61) (d 62) (d 63) (d 64) (d 65) (d 66) (d 67) (d 68) (d 69) (d 70) (d 71) (d 72) (d 73) (d 74) (d 75) (d 76) (d 77) (d 78) (d 79) (d 80) (d 81) (d 82) (d 83) (d 84) (d 85) (d 86) (d 87) (d 88) (d 89) (d 90) (d 91) (d 92) (d 93) (d 94) (d 95) (d 96) (d 97) (d 98) (d 99) (d 100) (d 101) (d 102) (d 103) (d 104) (d 105) (d 106) (d 107) (d 108) (d 109) (d 110) (d 111) (d 112) (d 113) (d 114) (d 115) (d 116) (d 117) (d 118) (d 119) (d 120) (d 121) (d 122) (d 123) (d 124) (d 125) (d 126) (d 127) (d 128) (d 129) (d 130) (d 131) (d 132) (d 133) (d 134) (d 135) (d 136) (d 137) (d 138) (d 139) (d 140) (d 141) (d 142) s143 s144 (d 145) (d 146) (d 147) (d 148) (d 149) (d 150) (d 151) (d 152) (d 153) (d 154) (d 155) (d 156) (d 157) (d 158) (d 159) (d 160) (d 161) H K) : VWc Try.prog tabS vorcS 3 S3_111111111 ts H K := by
  obtain ⟨d, rfl⟩ := h0
  rw [ES3_111111111]; exact h d
theorem LS3_111111110100 {s0 s1 s2 s8 s10 s18 s23 s143 s144 : DV} {ts : Array DV} {H : VHeap} {K : Ex → Array DV → VHeap → Prop} (h0 : FS3 s0 s1 s2 s8 s10 s18 s23 s143 s144 ts) (h : ∀ d : Nat → DV, WS3_111111110100 s0 s1 s2 (d 3) (d 4) (d 5) (d 6) (d 7) s8 (d 9) s10 (d 11) (d 12) (d 13) (d 14) (d 15) (d 16) (d 17) s18 (d 19) (d 20) (d 21) (d 22) s23 (d 24) (d 25) (d 26) (d 27) (d 28) (d 29) (d 30) (d 31) (d 32) (d 33) (d 34) (d 35) (d 36) (d 37) (d 38) (d 39) (d 40) (d 41) (d 42) (d 43) (d 44) (d 45) (d 46) (d 47) (d 48) (d 49) (d 50) (d 51) (d 52) (d 53) (d 54) (d 55) (d 56) (d 57) (d 58) (d 59) (d 60) (d 61) (d 62) (d 63) (d 64) (d 65) (d 66) (d 67) (d 68) (d 69) (d 70) (d 71) (d 72) (d 73) (d 74) (d 75) (d 76) (d 77) (d 78) (d 79) (d 80) (d 81) (d 82) (d 83) (d 84) (d 85) (d 86) (d 87) (d 88) (d 89) (d 90) (d 91) (d 92) (d 93) (d 94) (d 95) (d 96) (d 97) (d 98) (d 99) (d 100) (d 101) (d 102) (d 103) (d 104) (d 105) (d 106) (d 107) (d 108) (d 109) (d 110) (d 111) (d 112) (d 113) (d 114) (d 115) (d 116) (d 117) (d 118) (d 119) (d 120) (d 121) (d 122) (d 123) (d 124) (d 125) (d 126) (d 127) (d 128) (d 129) (d 130) (d 131) (d 132) (d 133) (d 134) (d 135) (d 136) (d 137) (d 138) (d 139) (d 140) (d 141) (d 142) s143 s144 (d 145) (d 146) (d 147) (d 148) (d 149) (d 150) (d 151) (d 152) (d 153) (d 154) (d 155) (d 156) (d 157) (d 158) (d 159) (d 160) (d 161) H K) : VWc Try.prog tabS vorcS 3 S3_111111110100 ts H K := by
  obtain ⟨d, rfl⟩ := h0
  rw [ES3_111111110100]; exact h d
theorem res3 {s0 s1 s2 s8 s10 s18 s23 s143 s144 : DV} {ts : Array DV} {H : VHeap} (h0 : FS3 s0 s1 s2 s8 s10 s18 s23 s143 s144 ts) : resultsD Try.prog R3 ts H = some [s10] := by
  obtain ⟨d, rfl⟩ := h0
  rfl
def W3F (F : Array DV → VHeap → (Ex → Array DV → VHeap → Prop) → Prop) (mv : Bool) (a0 a1 a2 a3 a4 : DV) (H : VHeap) (Q : DV → VHeap → Prop) : Prop :=
  letK (H ++ [.cells (vcells a3) .fix false 0 0]) fun h0 =>
  obind (vfieldAddr Try.prog 26 (.ptr (List.length H) 0 0) 1) fun x1 =>
  obind (vload Try.prog 24 x1 h0) fun x2 =>
  obind (vlen1 Try.prog [x2] [24] h0) fun x3 =>
  obind (vbin Try.prog .gtr 3 (.tmp 28) (.const (.int .i64 100)) x3 (.d (.v (.int .i64 100)))) fun x4 =>
  condD x4 (
  VCl Try.prog tabS vorcS 3 13 [] h0 fun x5 h6 =>
  obind (leaveD H mv [x5] h6) fun r7 => Q (packD r7.1) r7.2) (
  obind (vlen1 Try.prog [a4] [24] h0) fun x8 =>
  obind (vbin Try.prog .gtr 3 (.tmp 32) (.const (.int .i64 40)) x8 (.d (.v (.int .i64 40)))) fun x9 =>
  condD x9 (
  VCl Try.prog tabS vorcS 3 13 [] h0 fun x10 h11 =>
  obind (leaveD H mv [x10] h11) fun r12 => Q (packD r12.1) r12.2) (
  VCl Try.prog tabS vorcS 3 14 [a4] h0 fun x13 h14 =>
  obind (vtupleV x13) fun x15 =>
  obind (x15[0]?) fun x16 =>
  obind (vtupleV x13) fun x17 =>
  obind (x17[1]?) fun x18 =>
  obind (vtupleV x13) fun x19 =>
  obind (x19[2]?) fun x20 =>
  obind (vtupleV x13) fun x21 =>
  obind (x21[3]?) fun x22 =>
  obind (vtupleV x13) fun x23 =>
  obind (x23[4]?) fun x24 =>
  obind (zeroT Try.prog 26) fun x25 =>
  letK (h14 ++ [.cells (zD x25) .fix false 0 0]) fun h26 =>
  obind (vstore Try.prog 26 (.ptr (List.length h14) 0 0) x22 h26) fun x27 =>
  obind (vbin Try.prog .eql 28 (.tmp 44) (.const (.int .i64 0)) x24 (.d (.v (.int .i64 0)))) fun x28 =>
  condD x28 (
  obind (vload Try.prog 26 (.ptr (List.length h14) 0 0) x27) fun x29 =>
  VCl Try.prog tabS vorcS 3 15 [x16, x18, x20, x29] x27 fun x30 h31 =>
  obind (vtupleV x30) fun x32 =>
  obind (x32[0]?) fun x33 =>
  obind (vtupleV x30) fun x34 =>
  obind (x34[1]?) fun x35 =>
  obind (vbin Try.prog .neq 28 (.tmp 54) (.const (.int .i64 0)) x35 (.d (.v (.int .i64 0)))) fun x36 =>
  condD x36 (
  obind (leaveD H mv [(.d (.v (.bool false)))] h31) fun r37 => Q (packD r37.1) r37.2) (
  VCl Try.prog tabS vorcS 3 16 [x33, a4] h31 fun x38 h39 =>
  obind (vun Try.prog .not x38) fun x40 =>
  condD x40 (
  obind (leaveD H mv [(.d (.v (.bool false)))] h39) fun r41 => Q (packD r41.1) r41.2) (
  obind (vload Try.prog 26 (.ptr (List.length h14) 0 0) h39) fun x42 =>
  VCl Try.prog tabS vorcS 3 17 [x42] h39 fun x43 h44 =>
  obind (vun Try.prog .not x43) fun x45 =>
  condD x45 (
  obind (leaveD H mv [(.d (.v (.bool false)))] h44) fun r46 => Q (packD r46.1) r46.2) (
  seqD F (endD Try.prog H mv R3 Q) .normal #[a0, a1, a2, a3, a4, undefD, undefD, undefD, (.ptr (List.length H) 0 0), undefD, (.d (.v (.bool false))), x16, x18, x20, (.ptr (List.length h14) 0 0), x24, x33, x35, undefD, undefD, undefD, undefD, undefD, undefD, undefD, undefD, x1, x2, x3, x4, (.d (.v (.bool false))), a4, x8, x9, x9, undefD, x13, a4, x13, x16, x18, x20, x22, x24, x24, x28, x30, x16, x18, x20, x29, x30, x33, x35, x35, x36, (.d (.v (.bool false))), x33, a4, x38, x40, x40, (.d (.v (.bool false))), x42, x43, x45, x45, undefD, undefD, undefD, undefD, undefD, undefD, undefD, undefD, undefD, undefD, undefD, undefD, undefD, undefD, undefD, undefD, undefD, undefD, undefD, undefD, undefD, undefD, undefD, undefD, undefD, undefD, undefD, undefD, undefD, undefD, undefD, undefD, undefD, undefD, undefD, undefD, undefD, undefD, undefD, undefD, undefD, undefD, undefD, undefD, undefD, undefD, undefD, undefD, undefD, undefD, undefD, undefD, undefD, undefD, undefD, undefD, undefD, undefD, undefD, undefD, undefD, undefD, undefD, undefD, undefD, undefD, undefD, undefD, undefD, undefD, undefD, undefD, undefD, undefD, undefD, undefD, undefD, undefD, undefD, undefD, undefD, undefD, undefD, undefD, undefD, undefD, undefD, undefD, undefD, undefD, undefD, undefD, undefD, undefD, undefD] h44)))) (
  seqD F (endD Try.prog H mv R3 Q) .normal #[a0, a1, a2, a3, a4, undefD, undefD, undefD, (.ptr (List.length H) 0 0), undefD, (.d (.v (.bool false))), x16, x18, x20, (.ptr (List.length h14) 0 0), x24, undefD, undefD, undefD, undefD, undefD, undefD, undefD, undefD, undefD, undefD, x1, x2, x3, x4, (.d (.v (.bool false))), a4, x8, x9, x9, undefD, x13, a4, x13, x16, x18, x20, x22, x24, x24, x28, undefD, undefD, undefD, undefD, undefD, undefD, undefD, undefD, undefD, undefD, undefD, undefD, undefD, undefD, undefD, undefD, undefD, undefD, undefD, undefD, undefD, undefD, undefD, undefD, undefD, undefD, undefD, undefD, undefD, undefD, undefD, undefD, undefD, undefD, undefD, undefD, undefD, undefD, undefD, undefD, undefD, undefD, undefD, undefD, undefD, undefD, undefD, undefD, undefD, undefD, undefD, undefD, undefD, undefD, undefD, undefD, undefD, undefD, undefD, undefD, undefD, undefD, undefD, undefD, undefD, undefD, undefD, undefD, undefD, undefD, undefD, undefD, undefD, undefD, undefD, undefD, undefD, undefD, undefD, undefD, undefD, undefD, undefD, undefD, undefD, undefD, undefD, undefD, undefD, undefD, undefD, undefD, undefD, undefD, undefD, undefD, undefD, undefD, undefD, undefD, undefD, undefD, undefD, undefD, undefD, undefD, undefD, undefD, undefD, undefD, undefD, undefD, undefD, undefD, undefD, undefD] x27)))
def W3 (mv : Bool) (a0 a1 a2 a3 a4 : DV) (H : VHeap) (Q : DV → VHeap → Prop) : Prop := W3F (fun t h k => VWc Try.prog tabS vorcS 3 S3_111 t h k) mv a0 a1 a2 a3 a4 H Q
theorem E3h (F : Array DV → VHeap → (Ex → Array DV → VHeap → Prop) → Prop) (mv : Bool) (a0 a1 a2 a3 a4 : DV) (H : VHeap) (Q : DV → VHeap → Prop) : VWcH Try.prog tabS vorcS 3 F [1, 1, 1] C3 (enterD Try.f3 [a0, a1, a2, a3, a4]) H (endD Try.prog H mv Try.f3.results.toList Q) = W3F F mv a0 a1 a2 a3 a4 H Q := by kernel_rfl
theorem E3 (mv : Bool) (a0 a1 a2 a3 a4 : DV) (H : VHeap) (Q : DV → VHeap → Prop) : VWc Try.prog tabS vorcS 3 C3 (enterD Try.f3 [a0, a1, a2, a3, a4]) H (endD Try.prog H mv Try.f3.results.toList Q) = W3 mv a0 a1 a2 a3 a4 H Q := held (S := S3_111) [1, 1, 1] (by kernel_rfl) (W := fun F => W3F F mv a0 a1 a2 a3 a4 H Q) (fun F => E3h F mv a0 a1 a2 a3 a4 H Q)
theorem ev3 (mv : Bool) (a0 a1 a2 a3 a4 : DV) {H : VHeap} {Q : DV → VHeap → Prop} (h : W3 mv a0 a1 a2 a3 a4 H Q) : VEv Try.prog tabS vorcS 3 mv [a0, a1, a2, a3, a4] H Q :=
  VEv_ofW (by rfl) Try.func3 cal3 body3 (E3 mv a0 a1 a2 a3 a4 H Q) h
end Go.Proofs
