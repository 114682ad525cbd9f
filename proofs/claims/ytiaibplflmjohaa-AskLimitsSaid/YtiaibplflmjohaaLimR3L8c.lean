/- Of this session: a machine of its own, proved beside the model, and what the functions of the row come to on it; Lean checks all of it. -/
import Derived.Test.YtiaibplflmjohaaLimR3L8
set_option linter.unusedVariables false
set_option linter.unusedSimpArgs false
namespace Go.Proofs
open Go Go.Abs
set_option linter.unusedVariables false
set_option linter.unusedSimpArgs false
set_option maxRecDepth 100000
theorem bN1 (a m : Nat) : buildL Try.prog 26 [(0, (.int .u8 1)), (1, (.int .u16 a)), (2, (.int .u16 m))] = some (askN 1 a m 0).cells := by kernel_rfl
theorem bN2 (a m : Nat) : buildL Try.prog 26 [(0, (.int .u8 2)), (1, (.int .u16 a)), (2, (.int .u16 m))] = some (askN 2 a m 0).cells := by kernel_rfl
theorem bN3 (a m : Nat) : buildL Try.prog 26 [(0, (.int .u8 3)), (1, (.int .u16 a)), (2, (.int .u16 m))] = some (askN 3 a m 0).cells := by kernel_rfl
theorem bN4 (a m : Nat) : buildL Try.prog 26 [(0, (.int .u8 4)), (1, (.int .u16 a)), (2, (.int .u16 m))] = some (askN 4 a m 0).cells := by kernel_rfl
theorem bB15 (a m id n : Nat) : buildL Try.prog 26 [(0, (.int .u8 15)), (1, (.int .u16 a)), (2, (.int .u16 m)), (5, slc id 0 n n)] = some (askB 15 a m 0 id n n).cells := by kernel_rfl
theorem bW16 (a m id n : Nat) : buildL Try.prog 26 [(0, (.int .u8 16)), (1, (.int .u16 a)), (2, (.int .u16 m)), (4, slc id 0 n n)] = some (askW 16 a m 0 id n n).cells := by kernel_rfl
theorem bW16s (a m id n c : Nat) : buildL Try.prog 26 [(0, (.int .u8 16)), (1, (.int .u16 a)), (2, (.int .u16 m)), (4, slc id 0 n c)] = some (askW 16 a m 0 id n c).cells := by kernel_rfl
theorem bW23 (a m t id n : Nat) : buildL Try.prog 26 [(0, (.int .u8 23)), (1, (.int .u16 a)), (2, (.int .u16 m)), (3, (.int .u16 t)), (4, slc id 0 n n)] = some (askW 23 a m t id n n).cells := by kernel_rfl
theorem bW23' (a t id n : Nat) : buildL Try.prog 26 [(0, (.int .u8 23)), (1, (.int .u16 a)), (2, (.int .u16 1)), (3, (.int .u16 t)), (4, slc id 0 n n)] = some (askW 23 a 1 t id n n).cells := by kernel_rfl
theorem bB5 (a id n : Nat) : buildL Try.prog 26 [(0, (.int .u8 5)), (1, (.int .u16 a)), (5, slc id 0 n n)] = some (askB 5 a 0 0 id n n).cells := by kernel_rfl
theorem bW6 (a id n : Nat) : buildL Try.prog 26 [(0, (.int .u8 6)), (1, (.int .u16 a)), (4, slc id 0 n n)] = some (askW 6 a 0 0 id n n).cells := by kernel_rfl
theorem bN3' : buildL Try.prog 26 [(0, (.int .u8 3)), (2, (.int .u16 1)), (3, (.int .u16 1))] = some (askN 3 0 1 1).cells := by kernel_rfl
theorem bW6' (id : Nat) : buildL Try.prog 26 [(0, (.int .u8 6)), (2, (.int .u16 1)), (4, slc id 0 1 1)] = some (askW 6 0 1 0 id 1 1).cells := by kernel_rfl
theorem bR2000 (e : AskA) : buildL Try.prog 48 [(0, (.agg (List.toArray e.cells))), (1, (.int .i64 2000))] = some (rowC (e, 2000)) := by kernel_rfl
theorem bR125 (e : AskA) : buildL Try.prog 48 [(0, (.agg (List.toArray e.cells))), (1, (.int .i64 125))] = some (rowC (e, 125)) := by kernel_rfl
theorem bR1968 (e : AskA) : buildL Try.prog 48 [(0, (.agg (List.toArray e.cells))), (1, (.int .i64 1968))] = some (rowC (e, 1968)) := by kernel_rfl
theorem bR123 (e : AskA) : buildL Try.prog 48 [(0, (.agg (List.toArray e.cells))), (1, (.int .i64 123))] = some (rowC (e, 123)) := by kernel_rfl
theorem bR121 (e : AskA) : buildL Try.prog 48 [(0, (.agg (List.toArray e.cells))), (1, (.int .i64 121))] = some (rowC (e, 121)) := by kernel_rfl
theorem bS (e0 e1 e2 e3 e4 e5 e6 e7 : AskA × Nat) : buildS Try.prog 49 8 [(0, (.agg (List.toArray (rowC e0)))), (1, (.agg (List.toArray (rowC e1)))), (2, (.agg (List.toArray (rowC e2)))), (3, (.agg (List.toArray (rowC e3)))), (4, (.agg (List.toArray (rowC e4)))), (5, (.agg (List.toArray (rowC e5)))), (6, (.agg (List.toArray (rowC e6)))), (7, (.agg (List.toArray (rowC e7))))] = some ([e0, e1, e2, e3, e4, e5, e6, e7].flatMap rowC) := by kernel_rfl
theorem bS1 (w : Nat) : buildS Try.prog 23 1 [(0, (.int .u16 w))] = some [.int .u16 w] := by kernel_rfl

set_option maxHeartbeats 2000000 in
theorem limits_tail {at_ to N word s : Nat} {on : Value} {b1 b2 : Nat} {s18 s26 s27 s88 s89 s90 s10 : Value} {ts : Array Value} {H : Heap} (hN : N ≤ 2100) (hs1 : s ≤ N) (hs2 : s ≤ 200)
    (f : FS8 (.int .u16 at_) (.int .u16 to) on (.int .u16 word) s10 (.int .i64 N) (slc b1 0 N N) (slc b2 0 N N) (slc b2 0 s N) s18 s26 s27 s88 s89 s90 ts) :
    AWc Try.prog orcS S8_111111 ts H (endK Try.prog R8 fun v _ => v = .bool true) := by
  refine LS8_111111 f fun d => ?_
  unfold WS8_111111 WS8_1111110
  have cv : ∀ (n : Nat) H, n < 65536 → aconvert Try.prog 3 22 (.int .i64 n) H = some (.int .u16 n) := fun n H h => by
    rw [aconvert_int _ _ under_3 under_22, IntWalk.u16_in _ ⟨by omega, by omega⟩]
  have w1 : IntKind.i64.wrap ((s : Int) + 1) = ((s + 1 : Nat) : Int) := by rw [IntWalk.i64_in _ ⟨by omega, by omega⟩]; omega
  simp only [bB5, obind_some']
  refine right_ev (a := askB 5 at_ 0 0 b1 N N) (by show 5 < 256; omega) (by show 0 < 65536; omega) (by show N + 0 < 2 ^ 62; omega) fun h2 p2 => ?_
  rw [show rightF (askB 5 at_ 0 0 b1 N N).f (askB 5 at_ 0 0 b1 N N).many (askB 5 at_ 0 0 b1 N N).to (askB 5 at_ 0 0 b1 N N).bn (askB 5 at_ 0 0 b1 N N).wn = decide (N = 1) from one5 at_ N b1]
  have e1 : decide (N = 1) = decide ((N : Int) = 1) := decide_eq_decide.2 (by omega)
  simp only [abin_eql, obind_some', abin_eql_bool _ _ _ _ under_4, condB_bool', e1, decide_true, ifB_true', bW6]
  refine right_ev (a := askW 6 at_ 0 0 b2 N N) (by show 6 < 256; omega) (by show 0 < 65536; omega) (by show 0 + N < 2 ^ 62; omega) fun h7 p7 => ?_
  rw [show rightF (askW 6 at_ 0 0 b2 N N).f (askW 6 at_ 0 0 b2 N N).many (askW 6 at_ 0 0 b2 N N).to (askW 6 at_ 0 0 b2 N N).bn (askW 6 at_ 0 0 b2 N N).wn = decide (N = 1) from one6 N]
  simp only [abin_eql, obind_some', abin_eql_bool _ _ _ _ under_4, condB_bool', e1, decide_true]
  rw [seqK_normal]
  refine LS8_1111111 (FS8_mk ..) fun d => ?_
  unfold WS8_1111111
  simp only [condB_bool', ifB_true', lenOf1_slc _ _ _ _ _ _ _ elem_23, obind_some', abin_add, w1, cv (s + 1) _ (by omega), bW16s]
  refine right_ev (a := askW 16 at_ (s + 1) 0 b2 s N) (by show 16 < 256; omega) (by show s + 1 < 65536; omega) (by show 0 + s < 2 ^ 62; omega) fun h8 p8 => ?_
  rw [show rightF (askW 16 at_ (s + 1) 0 b2 s N).f (askW 16 at_ (s + 1) 0 b2 s N).many (askW 16 at_ (s + 1) 0 b2 s N).to (askW 16 at_ (s + 1) 0 b2 s N).bn (askW 16 at_ (s + 1) 0 b2 s N).wn = false from short16 s]
  simp only [unV_not, Bool.not_false, obind_some', condB_bool', ifB_true', bN3']
  refine right_ev (a := askN 3 0 1 1) (by show 3 < 256; omega) (by show 1 < 65536; omega) (by show 0 + 0 < 2 ^ 62; omega) fun h9 p9 => ?_
  rw [show rightF (askN 3 0 1 1).f (askN 3 0 1 1).many (askN 3 0 1 1).to (askN 3 0 1 1).bn (askN 3 0 1 1).wn = false from no3]
  simp only [unV_not, Bool.not_false, obind_some', condB_bool', ifB_true', bS1]
  refine letK_intro fun h10 e10 => ?_
  simp only [bW6', obind_some']
  refine right_ev (a := askW 6 0 1 0 h9.n 1 1) (by show 6 < 256; omega) (by show 1 < 65536; omega) (by show 0 + 1 < 2 ^ 62; omega) fun h11 p11 => ?_
  rw [show rightF (askW 6 0 1 0 h9.n 1 1).f (askW 6 0 1 0 h9.n 1 1).many (askW 6 0 1 0 h9.n 1 1).to (askW 6 0 1 0 h9.n 1 1).bn (askW 6 0 1 0 h9.n 1 1).wn = false from no6]
  simp only [unV_not, Bool.not_false, obind_some', condB_bool', ifB_true']
  exact Ev_one (end8_ret (FS8_mk ..) rfl)

end Go.Proofs
