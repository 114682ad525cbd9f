/- Of this session: a machine of its own, proved beside the model, and what the functions of the row come to on it; Lean checks all of it. -/
import Derived.Test.YtiaibplflmjohaaLimR3S
set_option linter.unusedVariables false
set_option linter.unusedSimpArgs false
namespace Go.Proofs
open Go Go.Abs
set_option linter.unusedVariables false
set_option linter.unusedSimpArgs false
set_option maxRecDepth 100000
structure AskA where
  f : Nat
  at_ : Nat
  many : Nat
  to : Nat
  wa : Option Addr
  wn : Nat
  wc : Nat
  ba : Option Addr
  bn : Nat
  bc : Nat
def AskA.cells (a : AskA) : List Value := [.int .u8 a.f, .int .u16 a.at_, .int .u16 a.many, .int .u16 a.to, .slice a.wa a.wn a.wc, .slice a.ba a.bn a.bc]
def AskA.v (a : AskA) : Value := .agg ⟨a.cells⟩
def manyF (k : Knd) (bn wn : Nat) : Int := if 0 < k.read then -1 else if k.one then 0 else bn + wn
theorem many_ev {k : Knd} {a : AskA} (hb : a.bn + a.wn < 2 ^ 62) {H : Heap} {Q : Value → Heap → Prop} (h : ∀ H', PushExt H H' → Q (.int .i64 (manyF k a.bn a.wn)) H') : Ev Try.prog orcS 35 #[kv k.read k.bits k.words k.one, a.v] H Q := by
  refine ev35 _ _ ?_
  unfold W35
  refine letK_intro fun h0 e0 => letK_intro fun h1 e1 => ?_
  have n0 : h0.n = H.n + 1 := by rw [e0]; rfl
  have g0 : h1.get H.n = some (.cells [.int .i64 k.read, .int .i64 k.bits, .int .i64 k.words, .bool k.one] .fix) := by rw [e1, e0]; exact get_push_old (get_push_self _ _)
  have g1 : h1.get h0.n = some (.cells a.cells .fix) := by rw [e1]; exact get_push_self _ _
  have p1 : PushExt H h1 := by rw [e1, e0]; exact (PushExt.push _ _).trans (PushExt.push _ _)
  have hq := h h1 p1
  clear h
  unfold manyF at hq
  simp only [afieldAddr_eq field_58_0 (by decide), afieldAddr_eq field_58_3 (by decide), afieldAddr_eq field_26_4 (by decide), afieldAddr_eq field_26_5 (by decide), obind_some', aload_ptr g0, aload_ptr g1, loadC_one isAgg_3, loadC_one isAgg_4, loadC_one isAgg_23, loadC_one isAgg_24, AskA.cells]
  simp only [Nat.zero_add, List.getElem?_cons_zero, List.getElem?_cons_succ, obind_some', abin_gtr, condB_bool', lenOf1_slice _ _ _ _ _ _ elem_24, lenOf1_slice _ _ _ _ _ _ elem_23, abin_add]
  refine ifB_dec (fun e => ?_) (fun e => ?_)
  · rw [if_pos (by omega)] at hq; exact hq
  · rw [if_neg (by omega)] at hq
    refine ifB_of (fun e2 => ?_) (fun e2 => ?_)
    · rw [e2] at hq; exact hq
    · rw [e2] at hq
      have : IntKind.i64.wrap ((a.bn : Int) + a.wn) = a.bn + a.wn := IntWalk.i64_in _ ⟨by omega, by omega⟩
      rw [this]; exact hq
def tailF (k : Knd) (f many to bn wn : Nat) : Bool :=
  (decide (to = 0) || decide (f = 23)) && (if 0 ≤ manyF k bn wn then decide ((many : Int) = manyF k bn wn) else decide (1 ≤ many) && decide (many ≤ k.read))
def rightF (f many to bn wn : Nat) : Bool := match kindF f with
  | none => false
  | some k => listedF bn k.bits && (listedF wn k.words && tailF k f many to bn wn)
theorem st58 {a b c d : Value} {r q w : Nat} {o : Bool} : storeC Try.prog 58 [a, b, c, d] 0 (kv r q w o) = some [.int .i64 r, .int .i64 q, .int .i64 w, .bool o] := by
  simp [storeC, kv, Value.cells, writeAt, scal]
theorem right_ev {a : AskA} (hf : a.f < 256) (hm : a.many < 65536) (hb : a.bn + a.wn < 2 ^ 62) {H : Heap} {Q : Value → Heap → Prop} (h : ∀ H', PushExt H H' → Q (.bool (rightF a.f a.many a.to a.bn a.wn)) H') : Ev Try.prog orcS 13 #[a.v] H Q := by
  refine ev13 _ ?_
  unfold W13
  refine letK_intro fun h0 e0 => ?_
  have g0 : h0.get H.n = some (.cells a.cells .fix) := by rw [e0]; exact get_push_self _ _
  simp only [afieldAddr_eq field_26_0 (by decide), obind_some', aload_ptr g0, loadC_one isAgg_5, zero_58]
  simp only [AskA.cells, Nat.zero_add, List.getElem?_cons_zero, obind_some']
  refine letK_intro fun h1 e1 => ?_
  have p1 : PushExt H h1 := by rw [e1, e0]; exact (PushExt.push _ _).push' _
  have g0 : h1.get H.n = some (.cells a.cells .fix) := by rw [e1]; exact get_push_old g0
  have g1 : h1.get h0.n = some (.cells [.int .i64 0, .int .i64 0, .int .i64 0, .bool false] .fix) := by rw [e1]; exact get_push_self _ _
  have n0 : h0.n = H.n + 1 := by rw [e0]; rfl
  refine kinds_ev ?_
  have g2 : (h1.push (.map tabK)).get h1.n = some (.map tabK) := get_push_self _ _
  have p2 : PushExt H (h1.push (.map tabK)) := p1.push' _
  replace g0 := get_push_old (b := .map tabK) g0
  replace g1 := get_push_old (b := .map tabK) g1
  generalize h1.push (.map tabK) = h2 at g0 g1 g2 p2
  simp only [aload_ptr g0, loadC_one isAgg_5, AskA.cells, List.getElem?_cons_zero, true_and, alookup_map g2, tabGet a.f hf, obind_some']
  have gn : H.n ≠ h0.n := by omega
  cases hk : kindF a.f with
  | none =>
    have hq : rightF a.f a.many a.to a.bn a.wn = false := by unfold rightF; rw [hk]
    rw [hq] at h
    simp only [kndV, tupleV_tuple, obind_some', List.getElem?_toArray, List.getElem?_cons_zero, List.getElem?_cons_succ, astore_ptr g1 (by simp), st58, Option.map_some]
    simp only [unV_not, obind_some', condB_bool', Bool.not_false, ifB_true']
    exact h _ (p2.set (by omega) _)
  | some k =>
    have hq : rightF a.f a.many a.to a.bn a.wn = (listedF a.bn k.bits && (listedF a.wn k.words && tailF k a.f a.many a.to a.bn a.wn)) := by unfold rightF; rw [hk]
    rw [hq] at h
    simp only [kndV, tupleV_tuple, obind_some', List.getElem?_toArray, List.getElem?_cons_zero, List.getElem?_cons_succ, astore_ptr g1 (by simp), st58, Option.map_some]
    simp only [unV_not, obind_some', condB_bool', Bool.not_true, ifB_false']
    have p3 : PushExt H (h2.set h0.n (.cells [.int .i64 k.read, .int .i64 k.bits, .int .i64 k.words, .bool k.one] .fix)) := p2.set (by omega) _
    have g3 : (h2.set h0.n (.cells [.int .i64 k.read, .int .i64 k.bits, .int .i64 k.words, .bool k.one] .fix)).get h0.n = some (.cells [.int .i64 k.read, .int .i64 k.bits, .int .i64 k.words, .bool k.one] .fix) := get_set_new g1
    have g4 : (h2.set h0.n (.cells [.int .i64 k.read, .int .i64 k.bits, .int .i64 k.words, .bool k.one] .fix)).get H.n = some (.cells a.cells .fix) := by rw [get_set_old gn]; exact g0
    generalize h2.set h0.n (.cells [.int .i64 k.read, .int .i64 k.bits, .int .i64 k.words, .bool k.one] .fix) = h3 at p3 g3 g4
    clear g0 g1 g2 p2 p1 e1 e0
    simp only [afieldAddr_eq field_58_1 (by decide), afieldAddr_eq field_58_2 (by decide), afieldAddr_eq field_58_0 (by decide), afieldAddr_eq field_26_5 (by decide), afieldAddr_eq field_26_4 (by decide), afieldAddr_eq field_26_3 (by decide), afieldAddr_eq field_26_2 (by decide), obind_some', aload_ptr g3, aload_ptr g4, loadC_one isAgg_3, loadC_one isAgg_24]
    simp only [AskA.cells, Nat.zero_add, List.getElem?_cons_zero, List.getElem?_cons_succ, obind_some', lenOf1_slice _ _ _ _ _ _ elem_24]
    refine listed_ev ?_
    simp only [unV_not, obind_some', condB_bool']
    refine ifB_of (fun e => ?_) (fun e => ?_)
    · rw [Bool.not_eq_true'] at e; rw [e] at h; exact h _ p3
    rw [Bool.not_eq_false'] at e; rw [e] at h
    simp only [aload_ptr g3, aload_ptr g4, loadC_one isAgg_3, loadC_one isAgg_23, AskA.cells, List.getElem?_cons_zero, List.getElem?_cons_succ, obind_some', lenOf1_slice _ _ _ _ _ _ elem_23]
    refine listed_ev ?_
    simp only [unV_not, obind_some', condB_bool']
    refine ifB_of (fun e => ?_) (fun e => ?_)
    · rw [Bool.not_eq_true'] at e; rw [e] at h; exact h _ p3
    rw [Bool.not_eq_false'] at e; rw [e] at h
    have l0 : aload Try.prog 58 (ptr h0.n 0) h3 = some (kv k.read k.bits k.words k.one) := by rw [aload_ptr g3, loadC_agg isAgg_58 size_58]; rfl
    have l1 : aload Try.prog 26 (ptr H.n 0) h3 = some a.v := by rw [aload_ptr g4, loadC_agg isAgg_26 size_26]; rfl
    simp only [aload_ptr g4, loadC_one isAgg_22, loadC_one isAgg_5, l0, l1, AskA.cells, List.getElem?_cons_zero, List.getElem?_cons_succ, obind_some', abin_neq, condB_bool']
    simp only [Bool.true_and] at h
    refine ifB_dec (fun e2 => ifB_dec (fun e3 => ?_) (fun e3 => ?_)) (fun e2 => ?_)
    · have : tailF k a.f a.many a.to a.bn a.wn = false := by
        unfold tailF
        rw [show decide (a.to = 0) = false from decide_eq_false (by omega), show decide (a.f = 23) = false from decide_eq_false (by omega)]
        rfl
      rw [this] at h; exact h _ p3
    all_goals
      have hT : tailF k a.f a.many a.to a.bn a.wn = (if 0 ≤ manyF k a.bn a.wn then decide ((a.many : Int) = manyF k a.bn a.wn) else decide (1 ≤ a.many) && decide (a.many ≤ k.read)) := by
        unfold tailF
        have : (decide (a.to = 0) || decide (a.f = 23)) = true := by
          simp only [Bool.or_eq_true, decide_eq_true_eq]; omega
        rw [this, Bool.true_and]
      rw [hT] at h
      refine many_ev (k := k) hb fun h4 p4 => ?_
      have p5 := p3.trans p4
      have g5 := p4.some g3
      have g6 := p4.some g4
      have cv : ∀ H, aconvert Try.prog 22 3 (.int .u16 a.many) H = some (.int .i64 a.many) := fun H => by
        rw [aconvert_int _ _ under_22 under_3, IntWalk.i64_in _ ⟨by omega, by omega⟩]
      simp only [abin_geq, obind_some', condB_bool', aload_ptr g5, aload_ptr g6, loadC_one isAgg_3, loadC_one isAgg_22, AskA.cells, List.getElem?_cons_zero, List.getElem?_cons_succ, cv, abin_eql, abin_leq]
      refine ifB_dec (fun e4 => ?_) (fun e4 => ?_)
      · rw [if_pos e4] at h; exact h _ p5
      · rw [if_neg e4] at h
        refine ifB_dec (fun e5 => ?_) (fun e5 => ?_)
        · rw [show decide (1 ≤ a.many) = true from decide_eq_true (by omega), Bool.true_and] at h
          have := h _ p5
          rwa [show decide (a.many ≤ k.read) = decide ((a.many : Int) ≤ k.read) from decide_eq_decide.2 (by omega)] at this
        · rw [show decide (1 ≤ a.many) = false from decide_eq_false (by omega), Bool.false_and] at h
          exact h _ p5
end Go.Proofs
