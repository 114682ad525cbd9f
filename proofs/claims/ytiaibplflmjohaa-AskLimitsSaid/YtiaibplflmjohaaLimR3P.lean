/- Of this session: a machine of its own, proved beside the model, and what the functions of the row come to on it; Lean checks all of it. -/
import Derived.Test.YtiaibplflmjohaaLimR3T
import Derived.Test.YtiaibplflmjohaaAbsAE
set_option linter.unusedVariables false
set_option linter.unusedSimpArgs false
namespace Go.Proofs
open Go Go.Abs
set_option linter.unusedVariables false
set_option maxRecDepth 100000
/-! 13 saucier/ask.Right -/
theorem cal13 : callable Try.f13 = true := by kernel_rfl
noncomputable def C13 : Code := Try.f13.body.getD .skip
theorem body13 : Try.f13.body = some C13 := by kernel_rfl
noncomputable def R13 : List ResultVar := Try.f13.results.toList
def W13 (a0 : Value) (H : Heap) (Q : Value → Heap → Prop) : Prop :=
  letK (H.push (.cells (Value.cells a0).toList .fix)) fun h0 =>
  obind (afieldAddr Try.prog 26 (ptr H.n 0) 0) fun x1 =>
  obind (aload Try.prog 5 x1 h0) fun x2 =>
  obind (zeroT Try.prog 58) fun x3 =>
  letK (h0.push (.cells x3.cells.toList .fix)) fun h4 =>
  Ev Try.prog orcS 33 #[] h4 fun x5 h6 =>
  (aload Try.prog 5 x1 h6 = some x2 ∧ True) ∧
  obind (alookup Try.prog 60 x5 x2 true h6) fun x7 =>
  obind (tupleV x7) fun x8 =>
  obind (x8[0]?) fun x9 =>
  obind (tupleV x7) fun x10 =>
  obind (x10[1]?) fun x11 =>
  obind (astore Try.prog 58 (ptr h0.n 0) x9 h6) fun x12 =>
  (True) ∧
  obind (unV Try.prog .not x11) fun x13 =>
  condB x13 (
  Q (.bool false) x12) (
  obind (afieldAddr Try.prog 26 (ptr H.n 0) 5) fun x14 =>
  obind (aload Try.prog 24 x14 x12) fun x15 =>
  obind (lenOf1 Try.prog [x15] [24] x12) fun x16 =>
  obind (afieldAddr Try.prog 58 (ptr h0.n 0) 1) fun x17 =>
  obind (aload Try.prog 3 x17 x12) fun x18 =>
  Ev Try.prog orcS 34 #[x16, x18] x12 fun x19 h20 =>
  obind (unV Try.prog .not x19) fun x21 =>
  condB x21 (
  Q (.bool false) h20) (
  obind (afieldAddr Try.prog 26 (ptr H.n 0) 4) fun x22 =>
  obind (aload Try.prog 23 x22 h20) fun x23 =>
  obind (lenOf1 Try.prog [x23] [23] h20) fun x24 =>
  obind (afieldAddr Try.prog 58 (ptr h0.n 0) 2) fun x25 =>
  obind (aload Try.prog 3 x25 h20) fun x26 =>
  Ev Try.prog orcS 34 #[x24, x26] h20 fun x27 h28 =>
  obind (unV Try.prog .not x27) fun x29 =>
  condB x29 (
  Q (.bool false) h28) (
  obind (afieldAddr Try.prog 26 (ptr H.n 0) 3) fun x30 =>
  obind (aload Try.prog 22 x30 h28) fun x31 =>
  obind (abin Try.prog .neq 22 (.tmp 34) (.const (.int .u16 0)) x31 (.int .u16 0)) fun x32 =>
  condB x32 (
  obind (afieldAddr Try.prog 26 (ptr H.n 0) 0) fun x33 =>
  obind (aload Try.prog 5 x33 h28) fun x34 =>
  obind (abin Try.prog .neq 5 (.tmp 38) (.const (.int .u8 23)) x34 (.int .u8 23)) fun x35 =>
  condB x35 (
  Q (.bool false) h28) (
  obind (aload Try.prog 58 (ptr h0.n 0) h28) fun x36 =>
  obind (aload Try.prog 26 (ptr H.n 0) h28) fun x37 =>
  Ev Try.prog orcS 35 #[x36, x37] h28 fun x38 h39 =>
  obind (abin Try.prog .geq 3 (.tmp 44) (.const (.int .i64 0)) x38 (.int .i64 0)) fun x40 =>
  condB x40 (
  obind (afieldAddr Try.prog 26 (ptr H.n 0) 2) fun x41 =>
  obind (aload Try.prog 22 x41 h39) fun x42 =>
  obind (aconvert Try.prog 22 3 x42 h39) fun x43 =>
  obind (abin Try.prog .eql 3 (.tmp 48) (.tmp 49) x43 x38) fun x44 =>
  Q x44 h39) (
  obind (afieldAddr Try.prog 26 (ptr H.n 0) 2) fun x45 =>
  obind (aload Try.prog 22 x45 h39) fun x46 =>
  obind (abin Try.prog .geq 22 (.tmp 52) (.const (.int .u16 1)) x46 (.int .u16 1)) fun x47 =>
  condB x47 (
  obind (afieldAddr Try.prog 26 (ptr H.n 0) 2) fun x48 =>
  obind (aload Try.prog 22 x48 h39) fun x49 =>
  obind (aconvert Try.prog 22 3 x49 h39) fun x50 =>
  obind (afieldAddr Try.prog 58 (ptr h0.n 0) 0) fun x51 =>
  obind (aload Try.prog 3 x51 h39) fun x52 =>
  obind (abin Try.prog .leq 3 (.tmp 57) (.tmp 59) x50 x52) fun x53 =>
  Q x53 h39) (
  Q (.bool false) h39)))) (
  obind (aload Try.prog 58 (ptr h0.n 0) h28) fun x54 =>
  obind (aload Try.prog 26 (ptr H.n 0) h28) fun x55 =>
  Ev Try.prog orcS 35 #[x54, x55] h28 fun x56 h57 =>
  obind (abin Try.prog .geq 3 (.tmp 44) (.const (.int .i64 0)) x56 (.int .i64 0)) fun x58 =>
  condB x58 (
  obind (afieldAddr Try.prog 26 (ptr H.n 0) 2) fun x59 =>
  obind (aload Try.prog 22 x59 h57) fun x60 =>
  obind (aconvert Try.prog 22 3 x60 h57) fun x61 =>
  obind (abin Try.prog .eql 3 (.tmp 48) (.tmp 49) x61 x56) fun x62 =>
  Q x62 h57) (
  obind (afieldAddr Try.prog 26 (ptr H.n 0) 2) fun x63 =>
  obind (aload Try.prog 22 x63 h57) fun x64 =>
  obind (abin Try.prog .geq 22 (.tmp 52) (.const (.int .u16 1)) x64 (.int .u16 1)) fun x65 =>
  condB x65 (
  obind (afieldAddr Try.prog 26 (ptr H.n 0) 2) fun x66 =>
  obind (aload Try.prog 22 x66 h57) fun x67 =>
  obind (aconvert Try.prog 22 3 x67 h57) fun x68 =>
  obind (afieldAddr Try.prog 58 (ptr h0.n 0) 0) fun x69 =>
  obind (aload Try.prog 3 x69 h57) fun x70 =>
  obind (abin Try.prog .leq 3 (.tmp 57) (.tmp 59) x68 x70) fun x71 =>
  Q x71 h57) (
  Q (.bool false) h57))))))

theorem E13 (a0 : Value) (H : Heap) (Q : Value → Heap → Prop) : AWc Try.prog orcS C13 (enterT Try.f13 #[a0]) H (endK Try.prog Try.f13.results.toList Q) = W13 a0 H Q := by kernel_rfl
theorem ev13 (a0 : Value) {H : Heap} {Q : Value → Heap → Prop} (h : W13 a0 H Q) : Ev Try.prog orcS 13 #[a0] H Q :=
  Ev_ofW (by rfl) Try.func13 cal13 body13 (E13 a0 H Q) h

/-! 33 saucier/ask.kinds -/
theorem cal33 : callable Try.f33 = true := by kernel_rfl
noncomputable def C33 : Code := Try.f33.body.getD .skip
theorem body33 : Try.f33.body = some C33 := by kernel_rfl
noncomputable def R33 : List ResultVar := Try.f33.results.toList
def W33 (H : Heap) (Q : Value → Heap → Prop) : Prop :=
  obind (mapOk Try.prog 60 none) fun x0 =>
  letK (H.push (.map [])) fun h1 =>
  obind (buildL Try.prog 58 [(0, (.int .i64 2000))]) fun x2 =>
  obind (aupdate Try.prog 60 (.map (some H.n)) (.int .u8 1) (.agg (List.toArray x2)) h1) fun x3 =>
  obind (buildL Try.prog 58 [(0, (.int .i64 2000))]) fun x4 =>
  obind (aupdate Try.prog 60 (.map (some H.n)) (.int .u8 2) (.agg (List.toArray x4)) x3) fun x5 =>
  obind (buildL Try.prog 58 [(0, (.int .i64 125))]) fun x6 =>
  obind (aupdate Try.prog 60 (.map (some H.n)) (.int .u8 3) (.agg (List.toArray x6)) x5) fun x7 =>
  obind (buildL Try.prog 58 [(0, (.int .i64 125))]) fun x8 =>
  obind (aupdate Try.prog 60 (.map (some H.n)) (.int .u8 4) (.agg (List.toArray x8)) x7) fun x9 =>
  obind (buildL Try.prog 58 [(1, (.int .i64 1)), (3, (.bool true))]) fun x10 =>
  obind (aupdate Try.prog 60 (.map (some H.n)) (.int .u8 5) (.agg (List.toArray x10)) x9) fun x11 =>
  obind (buildL Try.prog 58 [(2, (.int .i64 1)), (3, (.bool true))]) fun x12 =>
  obind (aupdate Try.prog 60 (.map (some H.n)) (.int .u8 6) (.agg (List.toArray x12)) x11) fun x13 =>
  obind (buildL Try.prog 58 [(1, (.int .i64 1968))]) fun x14 =>
  obind (aupdate Try.prog 60 (.map (some H.n)) (.int .u8 15) (.agg (List.toArray x14)) x13) fun x15 =>
  obind (buildL Try.prog 58 [(2, (.int .i64 123))]) fun x16 =>
  obind (aupdate Try.prog 60 (.map (some H.n)) (.int .u8 16) (.agg (List.toArray x16)) x15) fun x17 =>
  obind (buildL Try.prog 58 [(0, (.int .i64 125)), (2, (.int .i64 121))]) fun x18 =>
  obind (aupdate Try.prog 60 (.map (some H.n)) (.int .u8 23) (.agg (List.toArray x18)) x17) fun x19 =>
  Q (.map (some H.n)) x19

theorem E33 (H : Heap) (Q : Value → Heap → Prop) : AWc Try.prog orcS C33 (enterT Try.f33 #[]) H (endK Try.prog Try.f33.results.toList Q) = W33  H Q := by kernel_rfl
theorem ev33 {H : Heap} {Q : Value → Heap → Prop} (h : W33  H Q) : Ev Try.prog orcS 33 #[] H Q :=
  Ev_ofW (by rfl) Try.func33 cal33 body33 (E33  H Q) h

/-! 34 saucier/ask.listed -/
theorem cal34 : callable Try.f34 = true := by kernel_rfl
noncomputable def C34 : Code := Try.f34.body.getD .skip
theorem body34 : Try.f34.body = some C34 := by kernel_rfl
noncomputable def R34 : List ResultVar := Try.f34.results.toList
def W34 (a0 a1 : Value) (H : Heap) (Q : Value → Heap → Prop) : Prop :=
  obind (abin Try.prog .eql 3 (.tmp 5) (.const (.int .i64 0)) a1 (.int .i64 0)) fun x0 =>
  condB x0 (
  obind (abin Try.prog .eql 3 (.tmp 7) (.const (.int .i64 0)) a0 (.int .i64 0)) fun x1 =>
  Q x1 H) (
  obind (abin Try.prog .geq 3 (.tmp 9) (.const (.int .i64 1)) a0 (.int .i64 1)) fun x2 =>
  condB x2 (
  obind (abin Try.prog .leq 3 (.tmp 12) (.tmp 13) a0 a1) fun x3 =>
  Q x3 H) (
  Q (.bool false) H))

theorem E34 (a0 a1 : Value) (H : Heap) (Q : Value → Heap → Prop) : AWc Try.prog orcS C34 (enterT Try.f34 #[a0, a1]) H (endK Try.prog Try.f34.results.toList Q) = W34 a0 a1 H Q := by kernel_rfl
theorem ev34 (a0 a1 : Value) {H : Heap} {Q : Value → Heap → Prop} (h : W34 a0 a1 H Q) : Ev Try.prog orcS 34 #[a0, a1] H Q :=
  Ev_ofW (by rfl) Try.func34 cal34 body34 (E34 a0 a1 H Q) h

/-! 35 (saucier/ask.kind).many -/
theorem cal35 : callable Try.f35 = true := by kernel_rfl
noncomputable def C35 : Code := Try.f35.body.getD .skip
theorem body35 : Try.f35.body = some C35 := by kernel_rfl
noncomputable def R35 : List ResultVar := Try.f35.results.toList
def W35 (a0 a1 : Value) (H : Heap) (Q : Value → Heap → Prop) : Prop :=
  letK (H.push (.cells (Value.cells a0).toList .fix)) fun h0 =>
  letK (h0.push (.cells (Value.cells a1).toList .fix)) fun h1 =>
  obind (afieldAddr Try.prog 58 (ptr H.n 0) 0) fun x2 =>
  obind (aload Try.prog 3 x2 h1) fun x3 =>
  obind (abin Try.prog .gtr 3 (.tmp 7) (.const (.int .i64 0)) x3 (.int .i64 0)) fun x4 =>
  condB x4 (
  Q (.int .i64 (-1)) h1) (
  obind (afieldAddr Try.prog 58 (ptr H.n 0) 3) fun x5 =>
  obind (aload Try.prog 4 x5 h1) fun x6 =>
  condB x6 (
  Q (.int .i64 0) h1) (
  obind (afieldAddr Try.prog 26 (ptr h0.n 0) 5) fun x7 =>
  obind (aload Try.prog 24 x7 h1) fun x8 =>
  obind (lenOf1 Try.prog [x8] [24] h1) fun x9 =>
  obind (afieldAddr Try.prog 26 (ptr h0.n 0) 4) fun x10 =>
  obind (aload Try.prog 23 x10 h1) fun x11 =>
  obind (lenOf1 Try.prog [x11] [23] h1) fun x12 =>
  obind (abin Try.prog .add 3 (.tmp 14) (.tmp 17) x9 x12) fun x13 =>
  Q x13 h1))

theorem E35 (a0 a1 : Value) (H : Heap) (Q : Value → Heap → Prop) : AWc Try.prog orcS C35 (enterT Try.f35 #[a0, a1]) H (endK Try.prog Try.f35.results.toList Q) = W35 a0 a1 H Q := by kernel_rfl
theorem ev35 (a0 a1 : Value) {H : Heap} {Q : Value → Heap → Prop} (h : W35 a0 a1 H Q) : Ev Try.prog orcS 35 #[a0, a1] H Q :=
  Ev_ofW (by rfl) Try.func35 cal35 body35 (E35 a0 a1 H Q) h
end Go.Proofs
