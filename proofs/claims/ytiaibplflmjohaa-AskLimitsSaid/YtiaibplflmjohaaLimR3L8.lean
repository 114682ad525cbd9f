/- Of this session: a machine of its own, proved beside the model, and what the functions of the row come to on it; Lean checks all of it. -/
import Derived.Test.YtiaibplflmjohaaLimR3L8a
import Derived.Test.YtiaibplflmjohaaLimR3P8
set_option linter.unusedVariables false
set_option linter.unusedSimpArgs false
namespace Go.Proofs
open Go Go.Abs
set_option linter.unusedVariables false
set_option linter.unusedSimpArgs false
set_option maxRecDepth 100000

/-- The filling loop. -/
theorem loop1 {at_ to on word : Value} {hon : scal on = true ∧ on.cells = #[on]} {hwd : scal word = true ∧ word.cells = #[word]} {N b1 b2 : Nat} (hb : b1 ≠ b2) {s15 s18 s88 s89 s90 s10 : Value} {ts : Array Value} {H : Heap} {K : Ex → Array Value → Heap → Prop} {c1 c2 : List Value}
    (hN : N < 2 ^ 40) (g1 : H.get b1 = some (.cells c1 .fix)) (g2 : H.get b2 = some (.cells c2 .fix)) (l1 : c1.length = N) (l2 : c2.length = N) {n0 : Nat} (p : n0 ≤ b1 ∧ n0 ≤ b2)
    (f : FS8 at_ to on word s10 (.int .i64 N) (slc b1 0 N N) (slc b2 0 N N) s15 s18 (.int .i64 N) (.int .i64 0) s88 s89 s90 ts)
    (hK : ∀ ts' H', (∃ s27, FS8 at_ to on word s10 (.int .i64 N) (slc b1 0 N N) (slc b2 0 N N) s15 s18 (.int .i64 N) s27 s88 s89 s90 ts') → (∃ c, H'.get b1 = some (.cells c .fix)) → (∃ c, H'.get b2 = some (.cells c .fix)) → K (.exit 0) ts' H') :
    AWloop Try.prog orcS S8_1110100 ts H K := by
  refine AWloop_rule (fun m ts H => ∃ i : Nat, i ≤ N ∧ m = N - i ∧ FS8 at_ to on word s10 (.int .i64 N) (slc b1 0 N N) (slc b2 0 N N) s15 s18 (.int .i64 N) (.int .i64 i) s88 s89 s90 ts ∧ (∃ c1, H.get b1 = some (.cells c1 .fix) ∧ c1.length = N) ∧ (∃ c2, H.get b2 = some (.cells c2 .fix) ∧ c2.length = N)) N ⟨0, by omega, by omega, f, ⟨_, g1, l1⟩, ⟨_, g2, l2⟩⟩ ?_
  clear f g1 g2 l1 l2 c1 c2 H ts
  rintro m ts H ⟨i, hi, rfl, f, ⟨c1, g1, l1⟩, ⟨c2, g2, l2⟩⟩
  refine LS8_1110100 f ?_
  intros
  unfold WS8_1110100
  simp only [abin_lss, obind_some', condB_bool']
  refine ifB_dec (fun e => ?_) (fun e => ?_)
  · have hi' : i < N := by omega
    have st1 : storeC Try.prog 4 c1 (0 + (i : Int).toNat * 1) on = some (writeAt c1 (0 + (i : Int).toNat * 1) [on]) := by
      unfold storeC; rw [size_4, hon.2, if_pos ⟨rfl, by simp [l1]; omega, by simp [hon.1]⟩]
    have st2 : storeC Try.prog 22 c2 (0 + (i : Int).toNat * 1) word = some (writeAt c2 (0 + (i : Int).toNat * 1) [word]) := by
      unfold storeC; rw [size_22, hwd.2, if_pos ⟨rfl, by simp [l2]; omega, by simp [hwd.1]⟩]
    have g2' : ∀ b, (H.set b1 b).get b2 = some (.cells c2 .fix) := fun b => by rw [get_set_old hb.symm]; exact g2
    simp only [aindexAddr_slice elem_24 (by omega : (0:Int) ≤ i) (by omega : (i:Int) < N), aindexAddr_slice elem_23 (by omega : (0:Int) ≤ i) (by omega : (i:Int) < N), obind_some', astore_ptr g1 (by simp), st1, Option.map_some, astore_ptr (g2' _) (by simp), st2, abin_add]
    refine ⟨N - (i + 1), by omega, i + 1, by omega, rfl, ?_, ⟨writeAt c1 (0 + (i : Int).toNat * 1) [on], ?_, by rw [writeAt_length, l1]⟩, ⟨_, get_set_new (g2' _), by rw [writeAt_length, l2]⟩⟩
    · rw [IntWalk.i64_in _ ⟨by omega, by omega⟩]
      exact FS8_mk ..
    · rw [get_set_old hb]; exact get_set_new g1
  · exact hK _ _ ⟨_, FS8_mk ..⟩ ⟨_, g1⟩ ⟨_, g2⟩

def rowC (e : AskA × Nat) : List Value := e.1.cells ++ [.int .i64 e.2]
/-- The loop over the table: each row is as it should be. -/
theorem loop2 {at_ to on word : Value} {N b4 : Nat} {s10 s12 s13 s15 s18 s26 s27 : Value} {rows : List (AskA × Nat)} {ts : Array Value} {H : Heap} {K : Ex → Array Value → Heap → Prop}
    (hrows : ∀ e ∈ rows, rightF e.1.f e.1.many e.1.to e.1.bn e.1.wn = (decide (1 ≤ N) && decide (N ≤ e.2)) ∧ e.1.f < 256 ∧ e.1.many < 65536 ∧ e.1.bn + e.1.wn < 2 ^ 62) (h8 : rows.length = 8)
    (g : H.get b4 = some (.cells (rows.flatMap rowC) .fix))
    (f : FS8 at_ to on word s10 (.int .i64 N) s12 s13 s15 s18 s26 s27 (slc b4 0 8 8) (.int .i64 8) (.int .i64 0) ts)
    (hK : ∀ ts' H' s90, FS8 at_ to on word s10 (.int .i64 N) s12 s13 s15 s18 s26 s27 (slc b4 0 8 8) (.int .i64 8) s90 ts' → PushExt H H' → K (.exit 2) ts' H') :
    AWloop Try.prog orcS S8_111110100 ts H K := by
  refine AWloop_rule (fun m ts H1 => ∃ i : Nat, i ≤ 8 ∧ m = 8 - i ∧ FS8 at_ to on word s10 (.int .i64 N) s12 s13 s15 s18 s26 s27 (slc b4 0 8 8) (.int .i64 8) (.int .i64 i) ts ∧ PushExt H H1) 8 ⟨0, by omega, by omega, f, PushExt.refl _⟩ ?_
  clear f ts
  rintro m ts H1 ⟨i, hi, rfl, f, p⟩
  have g1 := p.some g
  refine LS8_111110100 f fun d => ?_
  unfold WS8_111110100
  simp only [abin_lss, obind_some', condB_bool']
  refine ifB_dec (fun e => ?_) (fun e => ?_)
  · have hi' : i < 8 := by omega
    obtain ⟨a, ha⟩ : ∃ a, rows[i]? = some a := ⟨_, List.getElem?_eq_getElem (by omega)⟩
    have hmem := List.mem_of_getElem? ha
    obtain ⟨q1, q2, q3, q4⟩ := hrows a hmem
    have hw : ∀ e : AskA × Nat, (rowC e).length = 7 := fun e => rfl
    have part := flatMap_part rowC 7 hw rows i a ha
    have len := flatMap_len rowC 7 hw rows
    have l0 : aload Try.prog 48 (ptr b4 (0 + (i : Int).toNat * 7)) H1 = some (.agg (List.toArray (rowC a))) := by
      rw [aload_ptr g1, loadC_agg isAgg_48 size_48, if_pos (by rw [len]; omega)]
      rw [show 0 + (i : Int).toNat * 7 = i * 7 by omega, part]
    simp only [aindexAddr_slice elem_49 (by omega : (0:Int) ≤ i) (by omega : (i:Int) < 8), obind_some', l0, zero_48]
    refine letK_intro fun h4 e4 => ?_
    have g4 : h4.get H1.n = some (.cells [.int .u8 0, .int .u16 0, .int .u16 0, .int .u16 0, .slice none 0 0, .slice none 0 0, .int .i64 0] .fix) := by rw [e4]; exact get_push_self _ _
    have p4 : PushExt H1 h4 := by rw [e4]; exact PushExt.push _ _
    have st : storeC Try.prog 48 [.int .u8 0, .int .u16 0, .int .u16 0, .int .u16 0, .slice none 0 0, .slice none 0 0, .int .i64 0] 0 (.agg (List.toArray (rowC a))) = some (rowC a) := by
      simp [storeC, rowC, AskA.cells, Value.cells, writeAt, scal]
    simp only [astore_ptr g4 (by simp), st, Option.map_some, obind_some', afieldAddr_eq field_48_0 (by decide), afieldAddr_eq field_48_1 (by decide)]
    have p5 : PushExt H1 (h4.set H1.n (.cells (rowC a) .fix)) := p4.set (by omega) _
    have g5 : (h4.set H1.n (.cells (rowC a) .fix)).get H1.n = some (.cells (rowC a) .fix) := get_set_new g4
    generalize h4.set H1.n (.cells (rowC a) .fix) = h5 at p5 g5
    have l1 : aload Try.prog 26 (ptr H1.n (0 + 0)) h5 = some a.1.v := by rw [aload_ptr g5, loadC_agg isAgg_26 size_26]; rfl
    simp only [l1, obind_some']
    refine right_ev q2 q3 q4 fun h9 p9 => ?_
    have g9 := p9.some g5
    rw [q1]
    have l2 : aload Try.prog 3 (ptr H1.n (0 + 6)) h9 = some (.int .i64 a.2) := by rw [aload_ptr g9, loadC_one isAgg_3]; rfl
    have pe : PushExt H h9 := (p.trans p5).trans p9
    simp only [abin_geq, obind_some', condB_bool', l2, abin_leq, abin_neq_bool _ _ _ _ under_4]
    refine ifB_dec (fun e1 => ?_) (fun e1 => ?_)
    · have : (decide (1 ≤ N) && decide (N ≤ a.2)) = decide ((N : Int) ≤ a.2) := by rw [decide_eq_true (by omega : 1 ≤ N), Bool.true_and]; exact decide_eq_decide.2 (by omega)
      rw [this]
      refine ifB_dec (fun e2 => absurd rfl e2) (fun _ => ?_)
      simp only [abin_add, obind_some']
      rw [IntWalk.i64_in _ ⟨by omega, by omega⟩]
      exact ⟨8 - (i + 1), by omega, i + 1, by omega, rfl, FS8_mk .., pe⟩
    · have : (decide (1 ≤ N) && decide (N ≤ a.2)) = false := by rw [decide_eq_false (by omega : ¬ 1 ≤ N), Bool.false_and]
      rw [this]
      refine ifB_dec (fun e2 => absurd rfl e2) (fun _ => ?_)
      simp only [abin_add, obind_some']
      rw [IntWalk.i64_in _ ⟨by omega, by omega⟩]
      exact ⟨8 - (i + 1), by omega, i + 1, by omega, rfl, FS8_mk .., pe⟩
  · exact hK _ _ _ (FS8_mk ..) p
end Go.Proofs
