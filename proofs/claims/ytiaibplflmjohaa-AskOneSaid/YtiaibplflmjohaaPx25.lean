/- The machine side of the laws of this seat, printed by a program of this session (wip/tools/mkprint.py) out of the kit print and of contracts proved by hand; Lean checks all of it. -/
import Derived.Test.YtiaibplflmjohaaPx0
import Derived.Test.YtiaibplflmjohaaPx1
import Derived.Test.YtiaibplflmjohaaPx2
import Derived.Test.YtiaibplflmjohaaPx4
import Derived.Test.YtiaibplflmjohaaPx6
import Derived.Test.YtiaibplflmjohaaPx7
import Derived.Test.YtiaibplflmjohaaPx11
import Derived.Test.YtiaibplflmjohaaPx15
namespace Go.Proofs.Ytiaibplflmjohaa.P
open Go.RowKit Go.Proofs.YtiaibplflmjohaaW.PrintWords Go.Proofs.YtiaibplflmjohaaW.PrintLast Go.Proofs.YtiaibplflmjohaaW.PrintMore
attribute [local go_sem] max2_int min2_int max_two min_two max_three min_three max_four min_four   -- for this text's walks alone
set_option linter.unusedVariables false
set_option linter.unusedSimpArgs false

/-! ### saucierlaw02_AskOne: function 5 -/
mutual
def saucierlaw02_AskOne.j0 : Nat → List Int → Bool → Int → Int → Int → Int → List Int → List Bool → Int → Int → Int → Int → List Int → List Bool → Option (Bool)
  | 0, _, _, _, _, _, _, _, _, _, _, _, _, _, _ => none
  | k + 1, x0, x33, x547000, x547001, x547002, x547003, x547004, x547005, x548000, x548001, x548002, x548003, x548004, x548005 => if x33 = true then ((saucierlaw02_awake.f).bind fun t550 => (some t550)) else ((ask_Parse.f x0).bind fun bt551 => (if bt551.2.2.2.2.2.2 = 0 then ((ask_Bytes.f k bt551.1 bt551.2.1 bt551.2.2.1 bt551.2.2.2.1 bt551.2.2.2.2.1 bt551.2.2.2.2.2.1).bind fun bt563 => ((ask_Right.f bt551.1 bt551.2.1 bt551.2.2.1 bt551.2.2.2.1 bt551.2.2.2.2.1 bt551.2.2.2.2.2.1).bind fun t567 => (if t567 = true then (if bt563.2 = 0 then ((saucierlow_Same.f x0 bt563.1).bind fun t568 => (if t568 = true then (saucierlaw02_AskOne.j1 k x547000 x547001 x547002 x547003 x547004 x547005 x548000 x548001 x548002 x548003 x548004 x548005) else (none))) else (none)) else (none)))) else (saucierlaw02_AskOne.j1 k x547000 x547001 x547002 x547003 x547004 x547005 x548000 x548001 x548002 x548003 x548004 x548005)))
def saucierlaw02_AskOne.j1 : Nat → Int → Int → Int → Int → List Int → List Bool → Int → Int → Int → Int → List Int → List Bool → Option (Bool)
  | 0, _, _, _, _, _, _, _, _, _, _, _, _ => none
  | k + 1, x547000, x547001, x547002, x547003, x547004, x547005, x548000, x548001, x548002, x548003, x548004, x548005 => (ask_Bytes.f k x547000 x547001 x547002 x547003 x547004 x547005).bind fun bt569 => ((ask_Bytes.f k x548000 x548001 x548002 x548003 x548004 x548005).bind fun bt573 => (if bt569.2 = 0 then (if bt573.2 = 0 then ((saucierlow_Same.f bt569.1 bt573.1).bind fun t577 => ((ask_Same.f k x547000 x547001 x547002 x547003 x547004 x547005 x548000 x548001 x548002 x548003 x548004 x548005).bind fun t578 => (if (t577 == t578) = true then ((saucierlaw02_awake.f).bind fun t579 => (some t579)) else (none)))) else ((saucierlaw02_awake.f).bind fun t580 => (some t580))) else ((saucierlaw02_awake.f).bind fun t581 => (some t581))))
end
def saucierlaw02_AskOne.f (k : Nat) (l0 : List Int) (a1_0 : Int) (a1_1 : Int) (a1_2 : Int) (a1_3 : Int) (l1_4 : List Int) (l1_5 : List Bool) (a2_0 : Int) (a2_1 : Int) (a2_2 : Int) (a2_3 : Int) (l2_4 : List Int) (l2_5 : List Bool) : Option (Bool) := (saucierlow_Few.f l1_4 l1_5).bind fun t548 => (if t548 = true then ((saucierlow_Few.f l2_4 l2_5).bind fun t549 => (if t549 = true then (saucierlaw02_AskOne.j0 k l0 (decide ((l0.length : Int) > 300)) a1_0 a1_1 a1_2 a1_3 l1_4 l1_5 a2_0 a2_1 a2_2 a2_3 l2_4 l2_5) else (saucierlaw02_AskOne.j0 k l0 true a1_0 a1_1 a1_2 a1_3 l1_4 l1_5 a2_0 a2_1 a2_2 a2_3 l2_4 l2_5))) else (saucierlaw02_AskOne.j0 k l0 true a1_0 a1_1 a1_2 a1_3 l1_4 l1_5 a2_0 a2_1 a2_2 a2_3 l2_4 l2_5))
theorem saucierlaw02_AskOne.mono_l : ∀ k, (∀ y0 y1 y2 y3 y4 y5 y6 y7 y8 y9 y10 y11 y12 y13, LeO (saucierlaw02_AskOne.j0 k y0 y1 y2 y3 y4 y5 y6 y7 y8 y9 y10 y11 y12 y13) (saucierlaw02_AskOne.j0 (k + 1) y0 y1 y2 y3 y4 y5 y6 y7 y8 y9 y10 y11 y12 y13)) ∧ (∀ y0 y1 y2 y3 y4 y5 y6 y7 y8 y9 y10 y11, LeO (saucierlaw02_AskOne.j1 k y0 y1 y2 y3 y4 y5 y6 y7 y8 y9 y10 y11) (saucierlaw02_AskOne.j1 (k + 1) y0 y1 y2 y3 y4 y5 y6 y7 y8 y9 y10 y11))
  | 0 => ⟨fun _ _ _ _ _ _ _ _ _ _ _ _ _ _ r h => by simp [saucierlaw02_AskOne.j0] at h, fun _ _ _ _ _ _ _ _ _ _ _ _ r h => by simp [saucierlaw02_AskOne.j1] at h⟩
  | k + 1 => by
    obtain ⟨ih0, ih1⟩ := saucierlaw02_AskOne.mono_l k
    refine ⟨?_, ?_⟩
    · intro y0 y1 y2 y3 y4 y5 y6 y7 y8 y9 y10 y11 y12 y13
      unfold saucierlaw02_AskOne.j0
      repeat' first
      | (with_reducible exact ih0 _ _ _ _ _ _ _ _ _ _ _ _ _ _)
      | (with_reducible exact ih1 _ _ _ _ _ _ _ _ _ _ _ _)
      | (with_reducible exact ask_Bytes.mono _ _ _ _ _ _ _)
      | (with_reducible exact ask_Same.mono _ _ _ _ _ _ _ _ _ _ _ _ _)
      | (with_reducible exact LeO.refl _)
      | (with_reducible exact LeO.none _)
      | (with_reducible refine LeO.ite ?_ ?_)
      | (with_reducible refine LeO.bind ?_ (fun _ => ?_))
      | exact ih0 _ _ _ _ _ _ _ _ _ _ _ _ _ _
      | exact ih1 _ _ _ _ _ _ _ _ _ _ _ _
      | exact ask_Bytes.mono _ _ _ _ _ _ _
      | exact ask_Same.mono _ _ _ _ _ _ _ _ _ _ _ _ _
      | exact LeO.none _
      | refine LeO.ite ?_ ?_
      | refine LeO.bind ?_ (fun _ => ?_)
    · intro y0 y1 y2 y3 y4 y5 y6 y7 y8 y9 y10 y11
      unfold saucierlaw02_AskOne.j1
      repeat' first
      | (with_reducible exact ih0 _ _ _ _ _ _ _ _ _ _ _ _ _ _)
      | (with_reducible exact ih1 _ _ _ _ _ _ _ _ _ _ _ _)
      | (with_reducible exact ask_Bytes.mono _ _ _ _ _ _ _)
      | (with_reducible exact ask_Same.mono _ _ _ _ _ _ _ _ _ _ _ _ _)
      | (with_reducible exact LeO.refl _)
      | (with_reducible exact LeO.none _)
      | (with_reducible refine LeO.ite ?_ ?_)
      | (with_reducible refine LeO.bind ?_ (fun _ => ?_))
      | exact ih0 _ _ _ _ _ _ _ _ _ _ _ _ _ _
      | exact ih1 _ _ _ _ _ _ _ _ _ _ _ _
      | exact ask_Bytes.mono _ _ _ _ _ _ _
      | exact ask_Same.mono _ _ _ _ _ _ _ _ _ _ _ _ _
      | exact LeO.none _
      | refine LeO.ite ?_ ?_
      | refine LeO.bind ?_ (fun _ => ?_)
theorem saucierlaw02_AskOne.mono : ∀ a0 a1 a2 a3 a4 a5 a6 a7 a8 a9 a10 a11 a12 k, LeO (saucierlaw02_AskOne.f k a0 a1 a2 a3 a4 a5 a6 a7 a8 a9 a10 a11 a12) (saucierlaw02_AskOne.f (k + 1) a0 a1 a2 a3 a4 a5 a6 a7 a8 a9 a10 a11 a12) := by
  intro a0 a1 a2 a3 a4 a5 a6 a7 a8 a9 a10 a11 a12 k
  obtain ⟨ih0, ih1⟩ := saucierlaw02_AskOne.mono_l k
  unfold saucierlaw02_AskOne.f
  repeat' first
      | (with_reducible exact ih0 _ _ _ _ _ _ _ _ _ _ _ _ _ _)
      | (with_reducible exact ih1 _ _ _ _ _ _ _ _ _ _ _ _)
      | (with_reducible exact ask_Bytes.mono _ _ _ _ _ _ _)
      | (with_reducible exact ask_Same.mono _ _ _ _ _ _ _ _ _ _ _ _ _)
      | (with_reducible exact LeO.refl _)
      | (with_reducible exact LeO.none _)
      | (with_reducible refine LeO.ite ?_ ?_)
      | (with_reducible refine LeO.bind ?_ (fun _ => ?_))
      | exact ih0 _ _ _ _ _ _ _ _ _ _ _ _ _ _
      | exact ih1 _ _ _ _ _ _ _ _ _ _ _ _
      | exact ask_Bytes.mono _ _ _ _ _ _ _
      | exact ask_Same.mono _ _ _ _ _ _ _ _ _ _ _ _ _
      | exact LeO.none _
      | refine LeO.ite ?_ ?_
      | refine LeO.bind ?_ (fun _ => ?_)
def saucierlaw02_AskOne.T10 : Bool × List (List Nat × List Nat) := (true, [([], []), ([0], [0]), ([1], [1]), ([2], [2]), ([3, 2], [2, 3]), ([2, 4], [2, 4]), ([5, 2], [5]), ([6], [6]), ([6], [6]), ([7, 8, 6, 6], [6, 7, 8]), ([6], [6]), ([6], [6]), ([10, 11, 9, 6], [6, 10, 11]), ([9, 12, 6], [6, 9, 12]), ([6, 13], [6, 13]), ([14, 12], [14]), ([15, 15], [15]), ([15, 16], [15, 16]), ([17, 16, 0, 1, 2, 3, 4, 5, 6, 7, 8, 9, 10, 11, 12, 13, 14, 15, 16, 17], [17])])
def saucierlaw02_AskOne.B10 : List Nat := [0, 1, 3, 7, 15, 31, 63, 127, 127, 511, 127, 127, 4095, 8191, 16383, 32767, 65535, 131071, 262143]
theorem saucierlaw02_AskOne.tab10 : rtab .any (opsOf Try.f5 10) = saucierlaw02_AskOne.T10 := by kernel_rfl
theorem saucierlaw02_AskOne.bits10 : waitsOk saucierlaw02_AskOne.T10.2 saucierlaw02_AskOne.B10 = true := by kernel_rfl
set_option maxHeartbeats 8000000 in
set_option maxRecDepth 100000 in
theorem saucierlaw02_AskOne.calls (k : Nat) (A0 : Option Addr) (c0 : Nat) (l0 : List Int) (a1_0 : Int) (a1_1 : Int) (a1_2 : Int) (a1_3 : Int) (A1_4 : Option Addr) (c1_4 : Nat) (l1_4 : List Int) (A1_5 : Option Addr) (c1_5 : Nat) (l1_5 : List Bool) (a2_0 : Int) (a2_1 : Int) (a2_2 : Int) (a2_3 : Int) (A2_4 : Option Addr) (c2_4 : Nat) (l2_4 : List Int) (A2_5 : Option Addr) (c2_5 : Nat) (l2_5 : List Bool) (r : Bool) (w : World) (hr0 : Kd.C (Kd.int .u8) w A0 l0.length l0) (hc0 : l0.length ≤ c0) (hr1_4 : Kd.C (Kd.int .u16) w A1_4 l1_4.length l1_4) (hc1_4 : l1_4.length ≤ c1_4) (hr1_5 : Kd.C Kd.bool w A1_5 l1_5.length l1_5) (hc1_5 : l1_5.length ≤ c1_5) (hr2_4 : Kd.C (Kd.int .u16) w A2_4 l2_4.length l2_4) (hc2_4 : l2_4.length ≤ c2_4) (hr2_5 : Kd.C Kd.bool w A2_5 l2_5.length l2_5) (hc2_5 : l2_5.length ≤ c2_5) (h : saucierlaw02_AskOne.f k l0 a1_0 a1_1 a1_2 a1_3 l1_4 l1_5 a2_0 a2_1 a2_2 a2_3 l2_4 l2_5 = some r) :
    Calls Try.prog 5 #[.slice A0 l0.length c0, .agg #[.int .u8 a1_0, .int .u16 a1_1, .int .u16 a1_2, .int .u16 a1_3, .slice A1_4 l1_4.length c1_4, .slice A1_5 l1_5.length c1_5], .agg #[.int .u8 a2_0, .int .u16 a2_1, .int .u16 a2_2, .int .u16 a2_3, .slice A2_4 l2_4.length c2_4, .slice A2_5 l2_5.length c2_5]] w fun e w' => e = .returned (.bool r) ∧ Below w.heap.size w w' := by
  have hu26 := Try.underlying26
  have HR0 := Aside0.mk hr0
  have HC0 := Aside0.mk hc0
  clear hr0 hc0
  have HR1_4 := Aside0.mk hr1_4
  have HC1_4 := Aside0.mk hc1_4
  clear hr1_4 hc1_4
  have HR1_5 := Aside0.mk hr1_5
  have HC1_5 := Aside0.mk hc1_5
  clear hr1_5 hc1_5
  have HR2_4 := Aside0.mk hr2_4
  have HC2_4 := Aside0.mk hc2_4
  clear hr2_4 hc2_4
  have HR2_5 := Aside0.mk hr2_5
  have HC2_5 := Aside0.mk hc2_5
  clear hr2_5 hc2_5
  have HB := Aside0.mk (Below.refl w.heap.size w)
  have H : ((saucierlow_Few.f l1_4 l1_5).bind fun t548 => (if t548 = true then ((saucierlow_Few.f l2_4 l2_5).bind fun t549 => (if t549 = true then (saucierlaw02_AskOne.j0 k l0 (decide ((l0.length : Int) > 300)) a1_0 a1_1 a1_2 a1_3 l1_4 l1_5 a2_0 a2_1 a2_2 a2_3 l2_4 l2_5) else (saucierlaw02_AskOne.j0 k l0 true a1_0 a1_1 a1_2 a1_3 l1_4 l1_5 a2_0 a2_1 a2_2 a2_3 l2_4 l2_5))) else (saucierlaw02_AskOne.j0 k l0 true a1_0 a1_1 a1_2 a1_3 l1_4 l1_5 a2_0 a2_1 a2_2 a2_3 l2_4 l2_5))) = some r := h
  clear h
  have HC4 := Aside0.mk H
  clear H
  go_enter Try.func5, Try.ntmps5
  go_upto_region 1 with (first | ((with_reducible refine gate_dst (N := 4) rfl ?_); (try (refine gate_guard (by rfl) ?_; dsimp only)); refine box_event ?hg (N := 4) ?hd (cs := #[.int .u8 a1_0, .int .u16 a1_1, .int .u16 a1_2, .int .u16 a1_3, .slice A1_4 l1_4.length c1_4, .slice A1_5 l1_5.length c1_5]) (t := 26) ?hr ?_; (case hd => rfl); (case hg => rfl); (case hr => first | (go_simp; done) | (go_simp; rfl)); intro gb546 hg w5 hbox hb; have n0_ := Aside0.mk (below_step (by repeat (first | (with_reducible first | exact HB.out | apply below_alloc | apply pw_below_drewN | apply below_drew1) | exact HB.out)) hb); have n1_ := Aside0.mk (hbox); have n2_ := Aside0.mk ((by rw [hg]; exact (below_size (by repeat (first | (with_reducible first | exact HB.out | apply below_alloc | apply pw_below_drewN | apply below_drew1) | exact HB.out))) : w.heap.size ≤ gb546)); have n3_ := Aside0.mk ((by rw [hg]; exact (below_size (by repeat (first | (with_reducible first | exact HB.out | apply below_alloc | apply pw_below_drewN | apply below_drew1) | exact HB.out))) : w.heap.size ≤ gb546)); clear HB; have HB := n0_; have BK546 := n1_; have GW546 := n2_; have GE546 := n3_; clear n0_ n1_ n2_ n3_; clear hb hbox hg) | ((with_reducible refine gate_dst (N := 5) rfl ?_); (try (refine gate_guard (by rfl) ?_; dsimp only)); refine box_event ?hg (N := 5) ?hd (cs := #[.int .u8 a2_0, .int .u16 a2_1, .int .u16 a2_2, .int .u16 a2_3, .slice A2_4 l2_4.length c2_4, .slice A2_5 l2_5.length c2_5]) (t := 26) ?hr ?_; (case hd => rfl); (case hg => rfl); (case hr => first | (go_simp; done) | (go_simp; rfl)); intro gb547 hg w6 hbox hb; have n0_ := Aside0.mk (blk_below (g := gb546) (o := .cells #[.int .u8 a1_0, .int .u16 a1_1, .int .u16 a1_2, .int .u16 a1_3, .slice A1_4 l1_4.length c1_4, .slice A1_5 l1_5.length c1_5] 26 (0, 0)) (by (with_reducible repeat (first | refine blk_drewN ?_ _ | refine blk_drew ?_ | refine blk_alloc ?_ _)); exact BK546.out) hb); have n1_ := Aside0.mk (below_step (by repeat (first | (with_reducible first | exact HB.out | apply below_alloc | apply pw_below_drewN | apply below_drew1 | refine below_set ?_ GE546.out) | exact HB.out)) hb); have n2_ := Aside0.mk (hbox); have n3_ := Aside0.mk ((by rw [hg]; exact (below_size (by repeat (first | (with_reducible first | exact HB.out | apply below_alloc | apply pw_below_drewN | apply below_drew1 | refine below_set ?_ GE546.out) | exact HB.out))) : w.heap.size ≤ gb547)); have n4_ := Aside0.mk ((by rw [hg]; exact (below_size (by repeat (first | (with_reducible first | exact HB.out | apply below_alloc | apply pw_below_drewN | apply below_drew1 | refine below_set ?_ GE546.out) | exact HB.out))) : w.heap.size ≤ gb547)); have n5_ := Aside0.mk ((by rw [hg]; exact Nat.ne_of_lt (blk_lt (g := gb546) (o := .cells #[.int .u8 a1_0, .int .u16 a1_1, .int .u16 a1_2, .int .u16 a1_3, .slice A1_4 l1_4.length c1_4, .slice A1_5 l1_5.length c1_5] 26 (0, 0)) (by (with_reducible repeat (first | refine blk_drewN ?_ _ | refine blk_drew ?_ | refine blk_alloc ?_ _)); exact BK546.out)) : gb546 ≠ gb547)); have n6_ := Aside0.mk ((by rw [hg]; exact Nat.ne_of_gt (blk_lt (g := gb546) (o := .cells #[.int .u8 a1_0, .int .u16 a1_1, .int .u16 a1_2, .int .u16 a1_3, .slice A1_4 l1_4.length c1_4, .slice A1_5 l1_5.length c1_5] 26 (0, 0)) (by (with_reducible repeat (first | refine blk_drewN ?_ _ | refine blk_drew ?_ | refine blk_alloc ?_ _)); exact BK546.out)) : gb547 ≠ gb546)); clear BK546; clear HB; have BK546 := n0_; have HB := n1_; have BK547 := n2_; have GW547 := n3_; have GE547 := n4_; have NB546_547 := n5_; have NB547_546 := n6_; clear n0_ n1_ n2_ n3_ n4_ n5_ n6_; clear hb hbox hg))
  (try simp only [Act.put, List.setIfInBounds_toArray, List.set_cons_zero, List.set_cons_succ])
  go_cut [33] (fun v33 wc => ∃ (kq : Nat) (x33_3 : Bool), v33 = .bool x33_3 ∧ Aside0 (saucierlaw02_AskOne.j0 kq l0 x33_3 a1_0 a1_1 a1_2 a1_3 l1_4 l1_5 a2_0 a2_1 a2_2 a2_3 l2_4 l2_5 = some r) ∧ Aside0 (kq ≤ k) ∧ Aside0 (wc.heap[gb546]? = some (.cells #[.int .u8 a1_0, .int .u16 a1_1, .int .u16 a1_2, .int .u16 a1_3, (.slice A1_4 l1_4.length c1_4), (.slice A1_5 l1_5.length c1_5)] 26 (0, 0))) ∧ Aside0 (wc.heap[gb547]? = some (.cells #[.int .u8 a2_0, .int .u16 a2_1, .int .u16 a2_2, .int .u16 a2_3, (.slice A2_4 l2_4.length c2_4), (.slice A2_5 l2_5.length c2_5)] 26 (0, 0))) ∧ Aside0 (Below w.heap.size w wc))
  case first =>
    have H := HC4.out
    clear HC4
    replace H := Option.bind_eq_some_iff.mp H
    obtain ⟨t548, A70, H⟩ := H
    replace H : (if t548 = true then ((saucierlow_Few.f l2_4 l2_5).bind fun t549 => (if t549 = true then (saucierlaw02_AskOne.j0 k l0 (decide ((l0.length : Int) > 300)) a1_0 a1_1 a1_2 a1_3 l1_4 l1_5 a2_0 a2_1 a2_2 a2_3 l2_4 l2_5) else (saucierlaw02_AskOne.j0 k l0 true a1_0 a1_1 a1_2 a1_3 l1_4 l1_5 a2_0 a2_1 a2_2 a2_3 l2_4 l2_5))) else (saucierlaw02_AskOne.j0 k l0 true a1_0 a1_1 a1_2 a1_3 l1_4 l1_5 a2_0 a2_1 a2_2 a2_3 l2_4 l2_5)) = some r := H
    have A7 := Aside0.mk A70
    clear A70
    by_cases c8 : t548 = true
    · subst c8
      have H1 : ((saucierlow_Few.f l2_4 l2_5).bind fun t549 => (if t549 = true then (saucierlaw02_AskOne.j0 k l0 (decide ((l0.length : Int) > 300)) a1_0 a1_1 a1_2 a1_3 l1_4 l1_5 a2_0 a2_1 a2_2 a2_3 l2_4 l2_5) else (saucierlaw02_AskOne.j0 k l0 true a1_0 a1_1 a1_2 a1_3 l1_4 l1_5 a2_0 a2_1 a2_2 a2_3 l2_4 l2_5))) = some r := by rw [if_pos rfl] at H; exact H
      clear H
      have H := H1
      clear H1
      replace H := Option.bind_eq_some_iff.mp H
      obtain ⟨t549, A90, H⟩ := H
      replace H : (if t549 = true then (saucierlaw02_AskOne.j0 k l0 (decide ((l0.length : Int) > 300)) a1_0 a1_1 a1_2 a1_3 l1_4 l1_5 a2_0 a2_1 a2_2 a2_3 l2_4 l2_5) else (saucierlaw02_AskOne.j0 k l0 true a1_0 a1_1 a1_2 a1_3 l1_4 l1_5 a2_0 a2_1 a2_2 a2_3 l2_4 l2_5)) = some r := H
      have A9 := Aside0.mk A90
      clear A90
      by_cases c10 : t549 = true
      · subst c10
        have H1 : (saucierlaw02_AskOne.j0 k l0 (decide ((l0.length : Int) > 300)) a1_0 a1_1 a1_2 a1_3 l1_4 l1_5 a2_0 a2_1 a2_2 a2_3 l2_4 l2_5) = some r := by rw [if_pos rfl] at H; exact H
        clear H
        have H := H1
        clear H1
        have H' := Aside0.mk H
        clear H
        have hnb11 := NB546_547.out
        have hnc11 := NB547_546.out
        have hcz12_0 : w6.cell? ⟨gb546, 0, none⟩ = some (.int .u8 a1_0) := (blk_cell BK546.out 0).trans rfl
        have hcz12_1 : w6.cell? ⟨gb546, 1, none⟩ = some (.int .u16 a1_1) := (blk_cell BK546.out 1).trans rfl
        have hcz12_2 : w6.cell? ⟨gb546, 2, none⟩ = some (.int .u16 a1_2) := (blk_cell BK546.out 2).trans rfl
        have hcz12_3 : w6.cell? ⟨gb546, 3, none⟩ = some (.int .u16 a1_3) := (blk_cell BK546.out 3).trans rfl
        have hcz12_4 : w6.cell? ⟨gb546, 4, none⟩ = some (.slice A1_4 l1_4.length c1_4) := (blk_cell BK546.out 4).trans rfl
        have hcz12_5 : w6.cell? ⟨gb546, 5, none⟩ = some (.slice A1_5 l1_5.length c1_5) := (blk_cell BK546.out 5).trans rfl
        have hfz12_0 := blk_frozen BK546.out 0
        have hfz12_1 := blk_frozen BK546.out 1
        have hfz12_2 := blk_frozen BK546.out 2
        have hfz12_3 := blk_frozen BK546.out 3
        have hfz12_4 := blk_frozen BK546.out 4
        have hfz12_5 := blk_frozen BK546.out 5
        go_wp2_with (first | ((with_reducible refine gate_callee (f := 9) rfl ?_); refine goesL_ (some 19) rfl rfl Try.func9 (by kernel_rfl) rfl #[.slice A1_4 l1_4.length c1_4, .slice A1_5 l1_5.length c1_5] rfl (by (try simp only [List.map_toArray, List.map_cons, List.map_nil]); first | done | rfl | (simp only [List.length_drop, List.length_take]; rfl)) ?_; (with_reducible refine (saucierlow_Few.calls _ _ l1_4 _ _ l1_5 true _ ?side1 ?side2 ?side3 ?side4 A7.out).mono ?_); (case side1 => repeat (first | exact (Kd.C_below HR1_4.out HB.out) | (with_reducible refine Kd.C_alloc ?_ _) | (with_reducible refine Kd.C_drewN ?_ _) | (with_reducible refine Kd.C_drew ?_))); (case side2 => exact HC1_4.out); (case side3 => repeat (first | exact (Kd.C_below HR1_5.out HB.out) | (with_reducible refine Kd.C_alloc ?_ _) | (with_reducible refine Kd.C_drewN ?_ _) | (with_reducible refine Kd.C_drew ?_))); (case side4 => exact HC1_5.out); rintro e w' ⟨rfl, ⟨nd, rfl⟩⟩; refine ⟨_, rfl, ?_⟩; have hcz13_0 : w6.cell? ⟨gb547, 0, none⟩ = some (.int .u8 a2_0) := (blk_cell BK547.out 0).trans rfl; have hcz13_1 : w6.cell? ⟨gb547, 1, none⟩ = some (.int .u16 a2_1) := (blk_cell BK547.out 1).trans rfl; have hcz13_2 : w6.cell? ⟨gb547, 2, none⟩ = some (.int .u16 a2_2) := (blk_cell BK547.out 2).trans rfl; have hcz13_3 : w6.cell? ⟨gb547, 3, none⟩ = some (.int .u16 a2_3) := (blk_cell BK547.out 3).trans rfl; have hcz13_4 : w6.cell? ⟨gb547, 4, none⟩ = some (.slice A2_4 l2_4.length c2_4) := (blk_cell BK547.out 4).trans rfl; have hcz13_5 : w6.cell? ⟨gb547, 5, none⟩ = some (.slice A2_5 l2_5.length c2_5) := (blk_cell BK547.out 5).trans rfl; have hfz13_0 := blk_frozen BK547.out 0; have hfz13_1 := blk_frozen BK547.out 1; have hfz13_2 := blk_frozen BK547.out 2; have hfz13_3 := blk_frozen BK547.out 3; have hfz13_4 := blk_frozen BK547.out 4; have hfz13_5 := blk_frozen BK547.out 5) | (go_at_call 9; (with_reducible refine (saucierlow_Few.calls _ _ l2_4 _ _ l2_5 true _ ?side1 ?side2 ?side3 ?side4 A9.out).mono ?_); (case side1 => repeat (first | exact (Kd.C_below HR2_4.out (by repeat (first | (with_reducible first | exact HB.out | apply below_alloc | apply pw_below_drewN | apply below_drew1 | refine below_set ?_ GE546.out | refine below_set ?_ GE547.out) | exact HB.out))) | (with_reducible refine Kd.C_alloc ?_ _) | (with_reducible refine Kd.C_drewN ?_ _) | (with_reducible refine Kd.C_drew ?_))); (case side2 => exact HC2_4.out); (case side3 => repeat (first | exact (Kd.C_below HR2_5.out (by repeat (first | (with_reducible first | exact HB.out | apply below_alloc | apply pw_below_drewN | apply below_drew1 | refine below_set ?_ GE546.out | refine below_set ?_ GE547.out) | exact HB.out))) | (with_reducible refine Kd.C_alloc ?_ _) | (with_reducible refine Kd.C_drewN ?_ _) | (with_reducible refine Kd.C_drew ?_))); (case side4 => exact HC2_5.out); rintro e w' ⟨rfl, ⟨nd, rfl⟩⟩))
        go_meet
        case rel => exact ⟨_, (decide ((l0.length : Int) > 300)), (by first | rfl | (simp; done) | (simp [*]; done)), H', ⟨by first | omega | exact Nat.le_refl _⟩, ⟨by (with_reducible repeat (first | refine blk_drewN ?_ _ | refine blk_drew ?_ | refine blk_alloc ?_ _)); exact BK546.out⟩, ⟨by (with_reducible repeat (first | refine blk_drewN ?_ _ | refine blk_drew ?_ | refine blk_alloc ?_ _)); exact BK547.out⟩, ⟨by repeat (first | (with_reducible first | exact HB.out | apply below_alloc | apply pw_below_drewN | apply below_drew1 | refine below_set ?_ GE546.out | refine below_set ?_ GE547.out) | exact HB.out)⟩⟩
      · replace c10 := Bool.eq_false_iff.mpr c10
        subst c10
        have H1 : (saucierlaw02_AskOne.j0 k l0 true a1_0 a1_1 a1_2 a1_3 l1_4 l1_5 a2_0 a2_1 a2_2 a2_3 l2_4 l2_5) = some r := by rw [if_neg (show ¬ (false = true) by decide)] at H; exact H
        clear H
        have H := H1
        clear H1
        have H' := Aside0.mk H
        clear H
        have hnb14 := NB546_547.out
        have hnc14 := NB547_546.out
        have hcz15_0 : w6.cell? ⟨gb546, 0, none⟩ = some (.int .u8 a1_0) := (blk_cell BK546.out 0).trans rfl
        have hcz15_1 : w6.cell? ⟨gb546, 1, none⟩ = some (.int .u16 a1_1) := (blk_cell BK546.out 1).trans rfl
        have hcz15_2 : w6.cell? ⟨gb546, 2, none⟩ = some (.int .u16 a1_2) := (blk_cell BK546.out 2).trans rfl
        have hcz15_3 : w6.cell? ⟨gb546, 3, none⟩ = some (.int .u16 a1_3) := (blk_cell BK546.out 3).trans rfl
        have hcz15_4 : w6.cell? ⟨gb546, 4, none⟩ = some (.slice A1_4 l1_4.length c1_4) := (blk_cell BK546.out 4).trans rfl
        have hcz15_5 : w6.cell? ⟨gb546, 5, none⟩ = some (.slice A1_5 l1_5.length c1_5) := (blk_cell BK546.out 5).trans rfl
        have hfz15_0 := blk_frozen BK546.out 0
        have hfz15_1 := blk_frozen BK546.out 1
        have hfz15_2 := blk_frozen BK546.out 2
        have hfz15_3 := blk_frozen BK546.out 3
        have hfz15_4 := blk_frozen BK546.out 4
        have hfz15_5 := blk_frozen BK546.out 5
        go_wp2_with (first | ((with_reducible refine gate_callee (f := 9) rfl ?_); refine goesL_ (some 19) rfl rfl Try.func9 (by kernel_rfl) rfl #[.slice A1_4 l1_4.length c1_4, .slice A1_5 l1_5.length c1_5] rfl (by (try simp only [List.map_toArray, List.map_cons, List.map_nil]); first | done | rfl | (simp only [List.length_drop, List.length_take]; rfl)) ?_; (with_reducible refine (saucierlow_Few.calls _ _ l1_4 _ _ l1_5 true _ ?side1 ?side2 ?side3 ?side4 A7.out).mono ?_); (case side1 => repeat (first | exact (Kd.C_below HR1_4.out HB.out) | (with_reducible refine Kd.C_alloc ?_ _) | (with_reducible refine Kd.C_drewN ?_ _) | (with_reducible refine Kd.C_drew ?_))); (case side2 => exact HC1_4.out); (case side3 => repeat (first | exact (Kd.C_below HR1_5.out HB.out) | (with_reducible refine Kd.C_alloc ?_ _) | (with_reducible refine Kd.C_drewN ?_ _) | (with_reducible refine Kd.C_drew ?_))); (case side4 => exact HC1_5.out); rintro e w' ⟨rfl, ⟨nd, rfl⟩⟩; refine ⟨_, rfl, ?_⟩; have hcz16_0 : w6.cell? ⟨gb547, 0, none⟩ = some (.int .u8 a2_0) := (blk_cell BK547.out 0).trans rfl; have hcz16_1 : w6.cell? ⟨gb547, 1, none⟩ = some (.int .u16 a2_1) := (blk_cell BK547.out 1).trans rfl; have hcz16_2 : w6.cell? ⟨gb547, 2, none⟩ = some (.int .u16 a2_2) := (blk_cell BK547.out 2).trans rfl; have hcz16_3 : w6.cell? ⟨gb547, 3, none⟩ = some (.int .u16 a2_3) := (blk_cell BK547.out 3).trans rfl; have hcz16_4 : w6.cell? ⟨gb547, 4, none⟩ = some (.slice A2_4 l2_4.length c2_4) := (blk_cell BK547.out 4).trans rfl; have hcz16_5 : w6.cell? ⟨gb547, 5, none⟩ = some (.slice A2_5 l2_5.length c2_5) := (blk_cell BK547.out 5).trans rfl; have hfz16_0 := blk_frozen BK547.out 0; have hfz16_1 := blk_frozen BK547.out 1; have hfz16_2 := blk_frozen BK547.out 2; have hfz16_3 := blk_frozen BK547.out 3; have hfz16_4 := blk_frozen BK547.out 4; have hfz16_5 := blk_frozen BK547.out 5) | (go_at_call 9; (with_reducible refine (saucierlow_Few.calls _ _ l2_4 _ _ l2_5 false _ ?side1 ?side2 ?side3 ?side4 A9.out).mono ?_); (case side1 => repeat (first | exact (Kd.C_below HR2_4.out (by repeat (first | (with_reducible first | exact HB.out | apply below_alloc | apply pw_below_drewN | apply below_drew1 | refine below_set ?_ GE546.out | refine below_set ?_ GE547.out) | exact HB.out))) | (with_reducible refine Kd.C_alloc ?_ _) | (with_reducible refine Kd.C_drewN ?_ _) | (with_reducible refine Kd.C_drew ?_))); (case side2 => exact HC2_4.out); (case side3 => repeat (first | exact (Kd.C_below HR2_5.out (by repeat (first | (with_reducible first | exact HB.out | apply below_alloc | apply pw_below_drewN | apply below_drew1 | refine below_set ?_ GE546.out | refine below_set ?_ GE547.out) | exact HB.out))) | (with_reducible refine Kd.C_alloc ?_ _) | (with_reducible refine Kd.C_drewN ?_ _) | (with_reducible refine Kd.C_drew ?_))); (case side4 => exact HC2_5.out); rintro e w' ⟨rfl, ⟨nd, rfl⟩⟩))
        go_meet
        case rel => exact ⟨_, (true), (by first | rfl | (simp; done) | (simp [*]; done)), H', ⟨by first | omega | exact Nat.le_refl _⟩, ⟨by (with_reducible repeat (first | refine blk_drewN ?_ _ | refine blk_drew ?_ | refine blk_alloc ?_ _)); exact BK546.out⟩, ⟨by (with_reducible repeat (first | refine blk_drewN ?_ _ | refine blk_drew ?_ | refine blk_alloc ?_ _)); exact BK547.out⟩, ⟨by repeat (first | (with_reducible first | exact HB.out | apply below_alloc | apply pw_below_drewN | apply below_drew1 | refine below_set ?_ GE546.out | refine below_set ?_ GE547.out) | exact HB.out)⟩⟩
    · replace c8 := Bool.eq_false_iff.mpr c8
      subst c8
      have H1 : (saucierlaw02_AskOne.j0 k l0 true a1_0 a1_1 a1_2 a1_3 l1_4 l1_5 a2_0 a2_1 a2_2 a2_3 l2_4 l2_5) = some r := by rw [if_neg (show ¬ (false = true) by decide)] at H; exact H
      clear H
      have H := H1
      clear H1
      have H' := Aside0.mk H
      clear H
      have hnb17 := NB546_547.out
      have hnc17 := NB547_546.out
      have hcz18_0 : w6.cell? ⟨gb546, 0, none⟩ = some (.int .u8 a1_0) := (blk_cell BK546.out 0).trans rfl
      have hcz18_1 : w6.cell? ⟨gb546, 1, none⟩ = some (.int .u16 a1_1) := (blk_cell BK546.out 1).trans rfl
      have hcz18_2 : w6.cell? ⟨gb546, 2, none⟩ = some (.int .u16 a1_2) := (blk_cell BK546.out 2).trans rfl
      have hcz18_3 : w6.cell? ⟨gb546, 3, none⟩ = some (.int .u16 a1_3) := (blk_cell BK546.out 3).trans rfl
      have hcz18_4 : w6.cell? ⟨gb546, 4, none⟩ = some (.slice A1_4 l1_4.length c1_4) := (blk_cell BK546.out 4).trans rfl
      have hcz18_5 : w6.cell? ⟨gb546, 5, none⟩ = some (.slice A1_5 l1_5.length c1_5) := (blk_cell BK546.out 5).trans rfl
      have hfz18_0 := blk_frozen BK546.out 0
      have hfz18_1 := blk_frozen BK546.out 1
      have hfz18_2 := blk_frozen BK546.out 2
      have hfz18_3 := blk_frozen BK546.out 3
      have hfz18_4 := blk_frozen BK546.out 4
      have hfz18_5 := blk_frozen BK546.out 5
      go_wp2_with (first | ((with_reducible refine gate_callee (f := 9) rfl ?_); refine goesL_ (some 19) rfl rfl Try.func9 (by kernel_rfl) rfl #[.slice A1_4 l1_4.length c1_4, .slice A1_5 l1_5.length c1_5] rfl (by (try simp only [List.map_toArray, List.map_cons, List.map_nil]); first | done | rfl | (simp only [List.length_drop, List.length_take]; rfl)) ?_; (with_reducible refine (saucierlow_Few.calls _ _ l1_4 _ _ l1_5 false _ ?side1 ?side2 ?side3 ?side4 A7.out).mono ?_); (case side1 => repeat (first | exact (Kd.C_below HR1_4.out HB.out) | (with_reducible refine Kd.C_alloc ?_ _) | (with_reducible refine Kd.C_drewN ?_ _) | (with_reducible refine Kd.C_drew ?_))); (case side2 => exact HC1_4.out); (case side3 => repeat (first | exact (Kd.C_below HR1_5.out HB.out) | (with_reducible refine Kd.C_alloc ?_ _) | (with_reducible refine Kd.C_drewN ?_ _) | (with_reducible refine Kd.C_drew ?_))); (case side4 => exact HC1_5.out); rintro e w' ⟨rfl, ⟨nd, rfl⟩⟩; refine ⟨_, rfl, ?_⟩))
      go_meet
      case rel => exact ⟨_, (true), (by first | rfl | (simp; done) | (simp [*]; done)), H', ⟨by first | omega | exact Nat.le_refl _⟩, ⟨by (with_reducible repeat (first | refine blk_drewN ?_ _ | refine blk_drew ?_ | refine blk_alloc ?_ _)); exact BK546.out⟩, ⟨by (with_reducible repeat (first | refine blk_drewN ?_ _ | refine blk_drew ?_ | refine blk_alloc ?_ _)); exact BK547.out⟩, ⟨by repeat (first | (with_reducible first | exact HB.out | apply below_alloc | apply pw_below_drewN | apply below_drew1 | refine below_set ?_ GE546.out | refine below_set ?_ GE547.out) | exact HB.out)⟩⟩
  case rest =>
    clear HC4
    try clear c1
    try clear c2
    try clear p2
    try clear c5
    try clear c8
    try clear c9
    try clear c10
    try clear c11
    try clear c14
    try clear c17
    try clear hcz12_0
    try clear hcz12_1
    try clear hcz12_2
    try clear hcz12_3
    try clear hcz12_4
    try clear hcz12_5
    try clear hcz13_0
    try clear hcz13_1
    try clear hcz13_2
    try clear hcz13_3
    try clear hcz13_4
    try clear hcz13_5
    try clear hcz15_0
    try clear hcz15_1
    try clear hcz15_2
    try clear hcz15_3
    try clear hcz15_4
    try clear hcz15_5
    try clear hcz16_0
    try clear hcz16_1
    try clear hcz16_2
    try clear hcz16_3
    try clear hcz16_4
    try clear hcz16_5
    try clear hcz18_0
    try clear hcz18_1
    try clear hcz18_2
    try clear hcz18_3
    try clear hcz18_4
    try clear hcz18_5
    try clear hfz12_0
    try clear hfz12_1
    try clear hfz12_2
    try clear hfz12_3
    try clear hfz12_4
    try clear hfz12_5
    try clear hfz13_0
    try clear hfz13_1
    try clear hfz13_2
    try clear hfz13_3
    try clear hfz13_4
    try clear hfz13_5
    try clear hfz15_0
    try clear hfz15_1
    try clear hfz15_2
    try clear hfz15_3
    try clear hfz15_4
    try clear hfz15_5
    try clear hfz16_0
    try clear hfz16_1
    try clear hfz16_2
    try clear hfz16_3
    try clear hfz16_4
    try clear hfz16_5
    try clear hfz18_0
    try clear hfz18_1
    try clear hfz18_2
    try clear hfz18_3
    try clear hfz18_4
    try clear hfz18_5
    obtain ⟨kq, x33_3, rfl, HA, HJ3, BK546, BK547, HB⟩ := hcut
    cases kq with
    | zero => exact absurd HA.out (by simp [saucierlaw02_AskOne.j0])
    | succ kj3 =>
      have H := HA.out
      clear HA
      simp only [saucierlaw02_AskOne.j0] at H
      by_cases c19 : x33_3 = true
      · subst c19
        have H1 : ((saucierlaw02_awake.f).bind fun t550 => (some t550)) = some r := by rw [if_pos rfl] at H; exact H
        clear H
        have H := H1
        clear H1
        replace H := Option.bind_eq_some_iff.mp H
        obtain ⟨t550, A200, H⟩ := H
        replace H : (some t550) = some r := H
        have A20 := Aside0.mk A200
        clear A200
        obtain rfl := Option.some.inj H
        go_wp2_with (first | ((with_reducible refine gate_callee (f := 10) rfl ?_); refine goesL_ (some 34) rfl rfl Try.func10 (by kernel_rfl) rfl #[] rfl (by (try simp only [List.map_toArray, List.map_cons, List.map_nil]); first | done | rfl | (simp only [List.length_drop, List.length_take]; rfl)) ?_; (with_reducible refine (saucierlaw02_awake.calls  t550 _ A20.out).mono ?_); rintro e w21 ⟨rfl, hb⟩; refine ⟨_, rfl, ?_⟩; have n0_ := Aside0.mk (blk_below (g := gb546) (o := .cells #[.int .u8 a1_0, .int .u16 a1_1, .int .u16 a1_2, .int .u16 a1_3, .slice A1_4 l1_4.length c1_4, .slice A1_5 l1_5.length c1_5] 26 (0, 0)) (by (with_reducible repeat (first | refine blk_drewN ?_ _ | refine blk_drew ?_ | refine blk_alloc ?_ _)); exact BK546.out) hb); have n1_ := Aside0.mk (blk_below (g := gb547) (o := .cells #[.int .u8 a2_0, .int .u16 a2_1, .int .u16 a2_2, .int .u16 a2_3, .slice A2_4 l2_4.length c2_4, .slice A2_5 l2_5.length c2_5] 26 (0, 0)) (by (with_reducible repeat (first | refine blk_drewN ?_ _ | refine blk_drew ?_ | refine blk_alloc ?_ _)); exact BK547.out) hb); have n2_ := Aside0.mk (below_step (by repeat (first | (with_reducible first | exact HB.out | apply below_alloc | apply pw_below_drewN | apply below_drew1 | refine below_set ?_ GE546.out | refine below_set ?_ GE547.out) | exact HB.out)) hb); clear BK546; clear BK547; clear HB; have BK546 := n0_; have BK547 := n1_; have HB := n2_; clear n0_ n1_ n2_; (try clear hb); (try clear hb2); (try clear hk); (try clear hi)))
        go_ret
        exact ⟨by first | rfl | (simp [errW_none, errW_some] <;> rfl) | (simp [*, errW_none, errW_some] <;> rfl), by repeat (first | (with_reducible first | exact HB.out | apply below_alloc | apply pw_below_drewN | apply below_drew1 | refine below_set ?_ GE546.out | refine below_set ?_ GE547.out) | exact HB.out)⟩
      · replace c19 := Bool.eq_false_iff.mpr c19
        subst c19
        have H1 : ((ask_Parse.f l0).bind fun bt551 => (if bt551.2.2.2.2.2.2 = 0 then ((ask_Bytes.f kj3 bt551.1 bt551.2.1 bt551.2.2.1 bt551.2.2.2.1 bt551.2.2.2.2.1 bt551.2.2.2.2.2.1).bind fun bt563 => ((ask_Right.f bt551.1 bt551.2.1 bt551.2.2.1 bt551.2.2.2.1 bt551.2.2.2.2.1 bt551.2.2.2.2.2.1).bind fun t567 => (if t567 = true then (if bt563.2 = 0 then ((saucierlow_Same.f l0 bt563.1).bind fun t568 => (if t568 = true then (saucierlaw02_AskOne.j1 kj3 a1_0 a1_1 a1_2 a1_3 l1_4 l1_5 a2_0 a2_1 a2_2 a2_3 l2_4 l2_5) else (none))) else (none)) else (none)))) else (saucierlaw02_AskOne.j1 kj3 a1_0 a1_1 a1_2 a1_3 l1_4 l1_5 a2_0 a2_1 a2_2 a2_3 l2_4 l2_5))) = some r := by rw [if_neg (show ¬ (false = true) by decide)] at H; exact H
        clear H
        have H := H1
        clear H1
        replace H := Option.bind_eq_some_iff.mp H
        obtain ⟨⟨t551, t552, t553, t554, t555, t558, t561⟩, A220, H⟩ := H
        replace H : (if t561 = 0 then ((ask_Bytes.f kj3 t551 t552 t553 t554 t555 t558).bind fun bt563 => ((ask_Right.f t551 t552 t553 t554 t555 t558).bind fun t567 => (if t567 = true then (if bt563.2 = 0 then ((saucierlow_Same.f l0 bt563.1).bind fun t568 => (if t568 = true then (saucierlaw02_AskOne.j1 kj3 a1_0 a1_1 a1_2 a1_3 l1_4 l1_5 a2_0 a2_1 a2_2 a2_3 l2_4 l2_5) else (none))) else (none)) else (none)))) else (saucierlaw02_AskOne.j1 kj3 a1_0 a1_1 a1_2 a1_3 l1_4 l1_5 a2_0 a2_1 a2_2 a2_3 l2_4 l2_5)) = some r := H
        have A22 := Aside0.mk A220
        clear A220
        have HC23 := Aside0.mk H
        clear H
        go_upto_if 41 with (first | ((with_reducible refine gate_callee (f := 18) rfl ?_); refine goesL_ (some 37) rfl rfl Try.func18 (by kernel_rfl) rfl #[.slice A0 l0.length c0] rfl (by (try simp only [List.map_toArray, List.map_cons, List.map_nil]); first | done | rfl | (simp only [List.length_drop, List.length_take]; rfl)) ?_; (with_reducible refine (ask_Parse.calls _ _ l0 t551 t552 t553 t554 t555 t558 t561 _ ?side1 ?side2 A22.out).mono ?_); (case side1 => repeat (first | exact (Kd.C_below HR0.out HB.out) | (with_reducible refine Kd.C_alloc ?_ _) | (with_reducible refine Kd.C_drewN ?_ _) | (with_reducible refine Kd.C_drew ?_))); (case side2 => exact HC0.out); rintro e w24 ⟨v556, v559, rfl, ho0, ho1, hb⟩; refine ⟨_, rfl, ?_⟩; have n0_ := Aside0.mk (Kd.R_lower ho0 (below_size (by repeat (first | (with_reducible first | exact HB.out | apply below_alloc | apply pw_below_drewN | apply below_drew1 | refine below_set ?_ GE546.out | refine below_set ?_ GE547.out) | exact HB.out)))); have n1_ := Aside0.mk (Kd.R_lower ho1 (below_size (by repeat (first | (with_reducible first | exact HB.out | apply below_alloc | apply pw_below_drewN | apply below_drew1 | refine below_set ?_ GE546.out | refine below_set ?_ GE547.out) | exact HB.out)))); have n2_ := Aside0.mk (blk_below (g := gb546) (o := .cells #[.int .u8 a1_0, .int .u16 a1_1, .int .u16 a1_2, .int .u16 a1_3, .slice A1_4 l1_4.length c1_4, .slice A1_5 l1_5.length c1_5] 26 (0, 0)) (by (with_reducible repeat (first | refine blk_drewN ?_ _ | refine blk_drew ?_ | refine blk_alloc ?_ _)); exact BK546.out) hb); have n3_ := Aside0.mk (blk_below (g := gb547) (o := .cells #[.int .u8 a2_0, .int .u16 a2_1, .int .u16 a2_2, .int .u16 a2_3, .slice A2_4 l2_4.length c2_4, .slice A2_5 l2_5.length c2_5] 26 (0, 0)) (by (with_reducible repeat (first | refine blk_drewN ?_ _ | refine blk_drew ?_ | refine blk_alloc ?_ _)); exact BK547.out) hb); have n4_ := Aside0.mk (below_step (by repeat (first | (with_reducible first | exact HB.out | apply below_alloc | apply pw_below_drewN | apply below_drew1 | refine below_set ?_ GE546.out | refine below_set ?_ GE547.out) | exact HB.out)) hb); clear BK546; clear BK547; clear HB; have HO557 := n0_; have HO560 := n1_; have BK546 := n2_; have BK547 := n3_; have HB := n4_; clear n0_ n1_ n2_ n3_ n4_; (try clear hb); (try clear hb2); (try clear hk); (try clear hi); (try clear ho0); (try clear ho1)) | ((with_reducible refine gate_dst (N := 7) rfl ?_); (try (refine gate_guard (by rfl) ?_; dsimp only)); refine box_event ?hg (N := 7) ?hd (cs := #[.int .u8 0, .int .u16 0, .int .u16 0, .int .u16 0, .slice none 0 0, .slice none 0 0]) (t := 26) ?hr ?_; (case hd => rfl); (case hg => rfl); (case hr => first | (go_simp; done) | (go_simp; rfl)); intro gb562 hg w25 hbox hb; have n0_ := Aside0.mk (Kd.R_below (by (with_reducible repeat (first | apply Kd.R_alloc | apply Kd.R_drewN | apply Kd.R_drew)); exact HO557.out) hb); have n1_ := Aside0.mk (Kd.R_below (by (with_reducible repeat (first | apply Kd.R_alloc | apply Kd.R_drewN | apply Kd.R_drew)); exact HO560.out) hb); have n2_ := Aside0.mk (blk_below (g := gb546) (o := .cells #[.int .u8 a1_0, .int .u16 a1_1, .int .u16 a1_2, .int .u16 a1_3, .slice A1_4 l1_4.length c1_4, .slice A1_5 l1_5.length c1_5] 26 (0, 0)) (by (with_reducible repeat (first | refine blk_drewN ?_ _ | refine blk_drew ?_ | refine blk_alloc ?_ _)); exact BK546.out) hb); have n3_ := Aside0.mk (blk_below (g := gb547) (o := .cells #[.int .u8 a2_0, .int .u16 a2_1, .int .u16 a2_2, .int .u16 a2_3, .slice A2_4 l2_4.length c2_4, .slice A2_5 l2_5.length c2_5] 26 (0, 0)) (by (with_reducible repeat (first | refine blk_drewN ?_ _ | refine blk_drew ?_ | refine blk_alloc ?_ _)); exact BK547.out) hb); have n4_ := Aside0.mk (below_step (by repeat (first | (with_reducible first | exact HB.out | apply below_alloc | apply pw_below_drewN | apply below_drew1 | refine below_set ?_ GE546.out | refine below_set ?_ GE547.out) | exact HB.out)) hb); have n5_ := Aside0.mk (hbox); have n6_ := Aside0.mk ((by rw [hg]; exact (below_size (by repeat (first | (with_reducible first | exact HB.out | apply below_alloc | apply pw_below_drewN | apply below_drew1 | refine below_set ?_ GE546.out | refine below_set ?_ GE547.out) | exact HB.out))) : w.heap.size ≤ gb562)); have n7_ := Aside0.mk ((by rw [hg]; exact (below_size (by repeat (first | (with_reducible first | exact HB.out | apply below_alloc | apply pw_below_drewN | apply below_drew1 | refine below_set ?_ GE546.out | refine below_set ?_ GE547.out) | exact HB.out))) : w.heap.size ≤ gb562)); have n8_ := Aside0.mk ((by rw [hg]; exact Nat.ne_of_lt (blk_lt (g := gb546) (o := .cells #[.int .u8 a1_0, .int .u16 a1_1, .int .u16 a1_2, .int .u16 a1_3, .slice A1_4 l1_4.length c1_4, .slice A1_5 l1_5.length c1_5] 26 (0, 0)) (by (with_reducible repeat (first | refine blk_drewN ?_ _ | refine blk_drew ?_ | refine blk_alloc ?_ _)); exact BK546.out)) : gb546 ≠ gb562)); have n9_ := Aside0.mk ((by rw [hg]; exact Nat.ne_of_gt (blk_lt (g := gb546) (o := .cells #[.int .u8 a1_0, .int .u16 a1_1, .int .u16 a1_2, .int .u16 a1_3, .slice A1_4 l1_4.length c1_4, .slice A1_5 l1_5.length c1_5] 26 (0, 0)) (by (with_reducible repeat (first | refine blk_drewN ?_ _ | refine blk_drew ?_ | refine blk_alloc ?_ _)); exact BK546.out)) : gb562 ≠ gb546)); have n10_ := Aside0.mk ((by rw [hg]; exact Nat.ne_of_lt (blk_lt (g := gb547) (o := .cells #[.int .u8 a2_0, .int .u16 a2_1, .int .u16 a2_2, .int .u16 a2_3, .slice A2_4 l2_4.length c2_4, .slice A2_5 l2_5.length c2_5] 26 (0, 0)) (by (with_reducible repeat (first | refine blk_drewN ?_ _ | refine blk_drew ?_ | refine blk_alloc ?_ _)); exact BK547.out)) : gb547 ≠ gb562)); have n11_ := Aside0.mk ((by rw [hg]; exact Nat.ne_of_gt (blk_lt (g := gb547) (o := .cells #[.int .u8 a2_0, .int .u16 a2_1, .int .u16 a2_2, .int .u16 a2_3, .slice A2_4 l2_4.length c2_4, .slice A2_5 l2_5.length c2_5] 26 (0, 0)) (by (with_reducible repeat (first | refine blk_drewN ?_ _ | refine blk_drew ?_ | refine blk_alloc ?_ _)); exact BK547.out)) : gb562 ≠ gb547)); clear HO557; clear HO560; clear BK546; clear BK547; clear HB; have HO557 := n0_; have HO560 := n1_; have BK546 := n2_; have BK547 := n3_; have HB := n4_; have BK562 := n5_; have GW562 := n6_; have GE562 := n7_; have NB546_562 := n8_; have NB562_546 := n9_; have NB547_562 := n10_; have NB562_547 := n11_; clear n0_ n1_ n2_ n3_ n4_ n5_ n6_ n7_ n8_ n9_ n10_ n11_; clear hb hbox hg; have hnb26 := NB562_546.out; have hnc26 := NB546_562.out; have hnb27 := NB562_547.out; have hnc27 := NB547_562.out; have hcz28_0 : w25.cell? ⟨gb562, 0, none⟩ = some (.int .u8 0) := (blk_cell BK562.out 0).trans rfl; have hcz28_1 : w25.cell? ⟨gb562, 1, none⟩ = some (.int .u16 0) := (blk_cell BK562.out 1).trans rfl; have hcz28_2 : w25.cell? ⟨gb562, 2, none⟩ = some (.int .u16 0) := (blk_cell BK562.out 2).trans rfl; have hcz28_3 : w25.cell? ⟨gb562, 3, none⟩ = some (.int .u16 0) := (blk_cell BK562.out 3).trans rfl; have hcz28_4 : w25.cell? ⟨gb562, 4, none⟩ = some (.slice none 0 0) := (blk_cell BK562.out 4).trans rfl; have hcz28_5 : w25.cell? ⟨gb562, 5, none⟩ = some (.slice none 0 0) := (blk_cell BK562.out 5).trans rfl; have hfz28_0 := blk_frozen BK562.out 0; have hfz28_1 := blk_frozen BK562.out 1; have hfz28_2 := blk_frozen BK562.out 2; have hfz28_3 := blk_frozen BK562.out 3; have hfz28_4 := blk_frozen BK562.out 4; have hfz28_5 := blk_frozen BK562.out 5; obtain ⟨Ao29, co29, eo29⟩ := Kd.R_slice HO557.out; subst eo29; obtain ⟨Ao30, co30, eo30⟩ := Kd.R_slice HO560.out; subst eo30))
        (try simp only [Act.put, List.setIfInBounds_toArray, List.set_cons_zero, List.set_cons_succ])
        go_cut [] (fun wc => ∃ (kq : Nat), Aside0 (saucierlaw02_AskOne.j1 kq a1_0 a1_1 a1_2 a1_3 l1_4 l1_5 a2_0 a2_1 a2_2 a2_3 l2_4 l2_5 = some r) ∧ Aside0 (kq ≤ kj3) ∧ Aside0 (Kd.R (Kd.int .u16) 22 wc w.heap.size (fun _ => True) (.slice Ao29 t555.length co29) t555) ∧ Aside0 (Kd.R Kd.bool 4 wc w.heap.size (fun _ => True) (.slice Ao30 t558.length co30) t558) ∧ Aside0 (wc.heap[gb546]? = some (.cells #[.int .u8 a1_0, .int .u16 a1_1, .int .u16 a1_2, .int .u16 a1_3, (.slice A1_4 l1_4.length c1_4), (.slice A1_5 l1_5.length c1_5)] 26 (0, 0))) ∧ Aside0 (wc.heap[gb547]? = some (.cells #[.int .u8 a2_0, .int .u16 a2_1, .int .u16 a2_2, .int .u16 a2_3, (.slice A2_4 l2_4.length c2_4), (.slice A2_5 l2_5.length c2_5)] 26 (0, 0))) ∧ Aside0 (wc.heap[gb562]? = some (.cells #[.int .u8 t551, .int .u16 t552, .int .u16 t553, .int .u16 t554, (.slice Ao29 t555.length co29), (.slice Ao30 t558.length co30)] 26 (0, 0))) ∧ Aside0 (Below w.heap.size w wc))
        case first =>
          have H := HC23.out
          clear HC23
          by_cases c31 : t561 = 0
          · rw [if_pos c31] at H
            have c31b0 : (t561 == 0) = true := beq_iff_eq.mpr c31
            have c31b1 : (t561 != 0) = false := bne_eq_false_iff_eq.mpr c31
            clear c31
            (first | rw [c31b0] | (simp only [i64_w, i32_w]; rw [c31b0]) | skip)
            replace H := Option.bind_eq_some_iff.mp H
            obtain ⟨⟨t563, t566⟩, A320, H⟩ := H
            replace H : ((ask_Right.f t551 t552 t553 t554 t555 t558).bind fun t567 => (if t567 = true then (if t566 = 0 then ((saucierlow_Same.f l0 t563).bind fun t568 => (if t568 = true then (saucierlaw02_AskOne.j1 kj3 a1_0 a1_1 a1_2 a1_3 l1_4 l1_5 a2_0 a2_1 a2_2 a2_3 l2_4 l2_5) else (none))) else (none)) else (none))) = some r := H
            have A32 := Aside0.mk A320
            clear A320
            replace H := Option.bind_eq_some_iff.mp H
            obtain ⟨t567, A330, H⟩ := H
            replace H : (if t567 = true then (if t566 = 0 then ((saucierlow_Same.f l0 t563).bind fun t568 => (if t568 = true then (saucierlaw02_AskOne.j1 kj3 a1_0 a1_1 a1_2 a1_3 l1_4 l1_5 a2_0 a2_1 a2_2 a2_3 l2_4 l2_5) else (none))) else (none)) else (none)) = some r := H
            have A33 := Aside0.mk A330
            clear A330
            by_cases c34 : t567 = true
            · subst c34
              have H1 : (if t566 = 0 then ((saucierlow_Same.f l0 t563).bind fun t568 => (if t568 = true then (saucierlaw02_AskOne.j1 kj3 a1_0 a1_1 a1_2 a1_3 l1_4 l1_5 a2_0 a2_1 a2_2 a2_3 l2_4 l2_5) else (none))) else (none)) = some r := by rw [if_pos rfl] at H; exact H
              clear H
              have H := H1
              clear H1
              by_cases c35 : t566 = 0
              · rw [if_pos c35] at H
                have c35b0 : (t566 == 0) = true := beq_iff_eq.mpr c35
                have c35b1 : (t566 != 0) = false := bne_eq_false_iff_eq.mpr c35
                clear c35
                replace H := Option.bind_eq_some_iff.mp H
                obtain ⟨t568, A360, H⟩ := H
                replace H : (if t568 = true then (saucierlaw02_AskOne.j1 kj3 a1_0 a1_1 a1_2 a1_3 l1_4 l1_5 a2_0 a2_1 a2_2 a2_3 l2_4 l2_5) else (none)) = some r := H
                have A36 := Aside0.mk A360
                clear A360
                by_cases c37 : t568 = true
                · subst c37
                  have H1 : (saucierlaw02_AskOne.j1 kj3 a1_0 a1_1 a1_2 a1_3 l1_4 l1_5 a2_0 a2_1 a2_2 a2_3 l2_4 l2_5) = some r := by rw [if_pos rfl] at H; exact H
                  clear H
                  have H := H1
                  clear H1
                  have H' := Aside0.mk H
                  clear H
                  have hnb38 := NB562_546.out
                  have hnc38 := NB546_562.out
                  have hnb39 := NB562_547.out
                  have hnc39 := NB547_562.out
                  have hcz40_0 : w25.cell? ⟨gb562, 0, none⟩ = some (.int .u8 0) := (blk_cell BK562.out 0).trans rfl
                  have hcz40_1 : w25.cell? ⟨gb562, 1, none⟩ = some (.int .u16 0) := (blk_cell BK562.out 1).trans rfl
                  have hcz40_2 : w25.cell? ⟨gb562, 2, none⟩ = some (.int .u16 0) := (blk_cell BK562.out 2).trans rfl
                  have hcz40_3 : w25.cell? ⟨gb562, 3, none⟩ = some (.int .u16 0) := (blk_cell BK562.out 3).trans rfl
                  have hcz40_4 : w25.cell? ⟨gb562, 4, none⟩ = some (.slice none 0 0) := (blk_cell BK562.out 4).trans rfl
                  have hcz40_5 : w25.cell? ⟨gb562, 5, none⟩ = some (.slice none 0 0) := (blk_cell BK562.out 5).trans rfl
                  have hfz40_0 := blk_frozen BK562.out 0
                  have hfz40_1 := blk_frozen BK562.out 1
                  have hfz40_2 := blk_frozen BK562.out 2
                  have hfz40_3 := blk_frozen BK562.out 3
                  have hfz40_4 := blk_frozen BK562.out 4
                  have hfz40_5 := blk_frozen BK562.out 5
                  go_wp2_with (first | ((with_reducible refine gate_callee (f := 11) rfl ?_); refine goesL_ (some 44) rfl rfl Try.func11 (by kernel_rfl) rfl #[.agg #[.int .u8 t551, .int .u16 t552, .int .u16 t553, .int .u16 t554, .slice Ao29 t555.length co29, .slice Ao30 t558.length co30]] rfl (by (try simp only [List.map_toArray, List.map_cons, List.map_nil]); first | done | rfl | (simp only [List.length_drop, List.length_take]; rfl)) ?_; (with_reducible refine (ask_Bytes.calls kj3 t551 t552 t553 t554 _ _ t555 _ _ t558 t563 t566 _ ?side1 ?side2 ?side3 ?side4 A32.out).mono ?_); (case side1 => refine (Kd.R_reads' (e := 22) (base := w.heap.size) (ok := fun k_ => True) (n := t555.length) (c := co29) ?_).2.2; exact (by (with_reducible repeat (first | apply Kd.R_alloc | apply Kd.R_drewN | apply Kd.R_drew)); exact (Kd.R_mono (Kd.R_far (p := ⟨gb562, 5, none⟩) (Kd.R_far (p := ⟨gb562, 4, none⟩) (Kd.R_far (p := ⟨gb562, 3, none⟩) (Kd.R_far (p := ⟨gb562, 2, none⟩) (Kd.R_far (p := ⟨gb562, 1, none⟩) (Kd.R_far (p := ⟨gb562, 0, none⟩) (Kd.R_types HO557.out BK562.out (by decide)) (fun _ hk => hk.2) (.int .u8 t551)) (fun _ hk => hk.2) (.int .u16 t552)) (fun _ hk => hk.2) (.int .u16 t553)) (fun _ hk => hk.2) (.int .u16 t554)) (fun _ hk => hk.2) (.slice Ao29 t555.length co29)) (fun _ hk => hk.2) (.slice Ao30 t558.length co30)) (fun _ h_ => h_.1)))); (case side2 => exact (Kd.R_reads' HO557.out).2.1); (case side3 => refine (Kd.R_reads' (e := 4) (base := w.heap.size) (ok := fun k_ => True) (n := t558.length) (c := co30) ?_).2.2; exact (by (with_reducible repeat (first | apply Kd.R_alloc | apply Kd.R_drewN | apply Kd.R_drew)); exact (Kd.R_mono (Kd.R_far (p := ⟨gb562, 5, none⟩) (Kd.R_far (p := ⟨gb562, 4, none⟩) (Kd.R_far (p := ⟨gb562, 3, none⟩) (Kd.R_far (p := ⟨gb562, 2, none⟩) (Kd.R_far (p := ⟨gb562, 1, none⟩) (Kd.R_far (p := ⟨gb562, 0, none⟩) (Kd.R_types HO560.out BK562.out (by decide)) (fun _ hk => hk.2) (.int .u8 t551)) (fun _ hk => hk.2) (.int .u16 t552)) (fun _ hk => hk.2) (.int .u16 t553)) (fun _ hk => hk.2) (.int .u16 t554)) (fun _ hk => hk.2) (.slice Ao29 t555.length co29)) (fun _ hk => hk.2) (.slice Ao30 t558.length co30)) (fun _ h_ => h_.1)))); (case side4 => exact (Kd.R_reads' HO560.out).2.1); rintro e w41 ⟨v564, rfl, ho0, hb⟩; refine ⟨_, rfl, ?_⟩; have n0_ := Aside0.mk (Kd.R_below (by (with_reducible repeat (first | apply Kd.R_alloc | apply Kd.R_drewN | apply Kd.R_drew)); exact (Kd.R_mono (Kd.R_far (p := ⟨gb562, 5, none⟩) (Kd.R_far (p := ⟨gb562, 4, none⟩) (Kd.R_far (p := ⟨gb562, 3, none⟩) (Kd.R_far (p := ⟨gb562, 2, none⟩) (Kd.R_far (p := ⟨gb562, 1, none⟩) (Kd.R_far (p := ⟨gb562, 0, none⟩) (Kd.R_types HO557.out BK562.out (by decide)) (fun _ hk => hk.2) (.int .u8 t551)) (fun _ hk => hk.2) (.int .u16 t552)) (fun _ hk => hk.2) (.int .u16 t553)) (fun _ hk => hk.2) (.int .u16 t554)) (fun _ hk => hk.2) (.slice Ao29 t555.length co29)) (fun _ hk => hk.2) (.slice Ao30 t558.length co30)) (fun _ h_ => h_.1))) hb); have n1_ := Aside0.mk (Kd.R_below (by (with_reducible repeat (first | apply Kd.R_alloc | apply Kd.R_drewN | apply Kd.R_drew)); exact (Kd.R_mono (Kd.R_far (p := ⟨gb562, 5, none⟩) (Kd.R_far (p := ⟨gb562, 4, none⟩) (Kd.R_far (p := ⟨gb562, 3, none⟩) (Kd.R_far (p := ⟨gb562, 2, none⟩) (Kd.R_far (p := ⟨gb562, 1, none⟩) (Kd.R_far (p := ⟨gb562, 0, none⟩) (Kd.R_types HO560.out BK562.out (by decide)) (fun _ hk => hk.2) (.int .u8 t551)) (fun _ hk => hk.2) (.int .u16 t552)) (fun _ hk => hk.2) (.int .u16 t553)) (fun _ hk => hk.2) (.int .u16 t554)) (fun _ hk => hk.2) (.slice Ao29 t555.length co29)) (fun _ hk => hk.2) (.slice Ao30 t558.length co30)) (fun _ h_ => h_.1))) hb); have n2_ := Aside0.mk (Kd.R_lower ho0 (below_size (by repeat (first | (with_reducible first | exact HB.out | apply below_alloc | apply pw_below_drewN | apply below_drew1 | refine below_set ?_ GE546.out | refine below_set ?_ GE547.out | refine below_set ?_ GE562.out) | exact HB.out)))); have n3_ := Aside0.mk (blk_below (g := gb546) (o := .cells #[.int .u8 a1_0, .int .u16 a1_1, .int .u16 a1_2, .int .u16 a1_3, .slice A1_4 l1_4.length c1_4, .slice A1_5 l1_5.length c1_5] 26 (0, 0)) (by (with_reducible repeat (first | refine blk_drewN ?_ _ | refine blk_drew ?_ | refine blk_alloc ?_ _)); refine blk_far ?_ NB546_562.out _; (with_reducible repeat (first | refine blk_drewN ?_ _ | refine blk_drew ?_ | refine blk_alloc ?_ _)); refine blk_far ?_ NB546_562.out _; (with_reducible repeat (first | refine blk_drewN ?_ _ | refine blk_drew ?_ | refine blk_alloc ?_ _)); refine blk_far ?_ NB546_562.out _; (with_reducible repeat (first | refine blk_drewN ?_ _ | refine blk_drew ?_ | refine blk_alloc ?_ _)); refine blk_far ?_ NB546_562.out _; (with_reducible repeat (first | refine blk_drewN ?_ _ | refine blk_drew ?_ | refine blk_alloc ?_ _)); refine blk_far ?_ NB546_562.out _; (with_reducible repeat (first | refine blk_drewN ?_ _ | refine blk_drew ?_ | refine blk_alloc ?_ _)); refine blk_far ?_ NB546_562.out _; (with_reducible repeat (first | refine blk_drewN ?_ _ | refine blk_drew ?_ | refine blk_alloc ?_ _)); exact BK546.out) hb); have n4_ := Aside0.mk (blk_below (g := gb547) (o := .cells #[.int .u8 a2_0, .int .u16 a2_1, .int .u16 a2_2, .int .u16 a2_3, .slice A2_4 l2_4.length c2_4, .slice A2_5 l2_5.length c2_5] 26 (0, 0)) (by (with_reducible repeat (first | refine blk_drewN ?_ _ | refine blk_drew ?_ | refine blk_alloc ?_ _)); refine blk_far ?_ NB547_562.out _; (with_reducible repeat (first | refine blk_drewN ?_ _ | refine blk_drew ?_ | refine blk_alloc ?_ _)); refine blk_far ?_ NB547_562.out _; (with_reducible repeat (first | refine blk_drewN ?_ _ | refine blk_drew ?_ | refine blk_alloc ?_ _)); refine blk_far ?_ NB547_562.out _; (with_reducible repeat (first | refine blk_drewN ?_ _ | refine blk_drew ?_ | refine blk_alloc ?_ _)); refine blk_far ?_ NB547_562.out _; (with_reducible repeat (first | refine blk_drewN ?_ _ | refine blk_drew ?_ | refine blk_alloc ?_ _)); refine blk_far ?_ NB547_562.out _; (with_reducible repeat (first | refine blk_drewN ?_ _ | refine blk_drew ?_ | refine blk_alloc ?_ _)); refine blk_far ?_ NB547_562.out _; (with_reducible repeat (first | refine blk_drewN ?_ _ | refine blk_drew ?_ | refine blk_alloc ?_ _)); exact BK547.out) hb); have n5_ := Aside0.mk (blk_below (g := gb562) (o := .cells #[.int .u8 t551, .int .u16 t552, .int .u16 t553, .int .u16 t554, .slice Ao29 t555.length co29, .slice Ao30 t558.length co30] 26 (0, 0)) (by (with_reducible repeat (first | refine blk_drewN ?_ _ | refine blk_drew ?_ | refine blk_alloc ?_ _)); refine blk_put (cs := #[.int .u8 t551, .int .u16 t552, .int .u16 t553, .int .u16 t554, .slice Ao29 t555.length co29, .slice none 0 0]) ?_ 5 _ rfl; (with_reducible repeat (first | refine blk_drewN ?_ _ | refine blk_drew ?_ | refine blk_alloc ?_ _)); refine blk_put (cs := #[.int .u8 t551, .int .u16 t552, .int .u16 t553, .int .u16 t554, .slice none 0 0, .slice none 0 0]) ?_ 4 _ rfl; (with_reducible repeat (first | refine blk_drewN ?_ _ | refine blk_drew ?_ | refine blk_alloc ?_ _)); refine blk_put (cs := #[.int .u8 t551, .int .u16 t552, .int .u16 t553, .int .u16 0, .slice none 0 0, .slice none 0 0]) ?_ 3 _ rfl; (with_reducible repeat (first | refine blk_drewN ?_ _ | refine blk_drew ?_ | refine blk_alloc ?_ _)); refine blk_put (cs := #[.int .u8 t551, .int .u16 t552, .int .u16 0, .int .u16 0, .slice none 0 0, .slice none 0 0]) ?_ 2 _ rfl; (with_reducible repeat (first | refine blk_drewN ?_ _ | refine blk_drew ?_ | refine blk_alloc ?_ _)); refine blk_put (cs := #[.int .u8 t551, .int .u16 0, .int .u16 0, .int .u16 0, .slice none 0 0, .slice none 0 0]) ?_ 1 _ rfl; (with_reducible repeat (first | refine blk_drewN ?_ _ | refine blk_drew ?_ | refine blk_alloc ?_ _)); refine blk_put (cs := #[.int .u8 0, .int .u16 0, .int .u16 0, .int .u16 0, .slice none 0 0, .slice none 0 0]) ?_ 0 _ rfl; (with_reducible repeat (first | refine blk_drewN ?_ _ | refine blk_drew ?_ | refine blk_alloc ?_ _)); exact BK562.out) hb); have n6_ := Aside0.mk (below_step (by repeat (first | (with_reducible first | exact HB.out | apply below_alloc | apply pw_below_drewN | apply below_drew1 | refine below_set ?_ GE546.out | refine below_set ?_ GE547.out | refine below_set ?_ GE562.out) | exact HB.out)) hb); clear HO557; clear HO560; clear BK546; clear BK547; clear BK562; clear HB; have HO557 := n0_; have HO560 := n1_; have HO565 := n2_; have BK546 := n3_; have BK547 := n4_; have BK562 := n5_; have HB := n6_; clear n0_ n1_ n2_ n3_ n4_ n5_ n6_; (try clear hb); (try clear hb2); (try clear hk); (try clear hi); (try clear ho0); have hcz42_0 : w41.cell? ⟨gb562, 0, none⟩ = some (.int .u8 t551) := (blk_cell BK562.out 0).trans rfl; have hcz42_1 : w41.cell? ⟨gb562, 1, none⟩ = some (.int .u16 t552) := (blk_cell BK562.out 1).trans rfl; have hcz42_2 : w41.cell? ⟨gb562, 2, none⟩ = some (.int .u16 t553) := (blk_cell BK562.out 2).trans rfl; have hcz42_3 : w41.cell? ⟨gb562, 3, none⟩ = some (.int .u16 t554) := (blk_cell BK562.out 3).trans rfl; have hcz42_4 : w41.cell? ⟨gb562, 4, none⟩ = some (.slice Ao29 t555.length co29) := (blk_cell BK562.out 4).trans rfl; have hcz42_5 : w41.cell? ⟨gb562, 5, none⟩ = some (.slice Ao30 t558.length co30) := (blk_cell BK562.out 5).trans rfl; have hfz42_0 := blk_frozen BK562.out 0; have hfz42_1 := blk_frozen BK562.out 1; have hfz42_2 := blk_frozen BK562.out 2; have hfz42_3 := blk_frozen BK562.out 3; have hfz42_4 := blk_frozen BK562.out 4; have hfz42_5 := blk_frozen BK562.out 5) | ((with_reducible refine gate_callee (f := 13) rfl ?_); refine goesL_ (some 48) rfl rfl Try.func13 (by kernel_rfl) rfl #[.agg #[.int .u8 t551, .int .u16 t552, .int .u16 t553, .int .u16 t554, .slice Ao29 t555.length co29, .slice Ao30 t558.length co30]] rfl (by (try simp only [List.map_toArray, List.map_cons, List.map_nil]); first | done | rfl | (simp only [List.length_drop, List.length_take]; rfl)) ?_; (with_reducible refine (ask_Right.calls t551 t552 t553 t554 _ _ t555 _ _ t558 true _ ?side1 ?side2 ?side3 ?side4 A33.out).mono ?_); (case side1 => repeat (first | exact (Kd.R_reads' HO557.out).2.2 | (with_reducible refine Kd.C_alloc ?_ _) | (with_reducible refine Kd.C_drewN ?_ _) | (with_reducible refine Kd.C_drew ?_))); (case side2 => exact (Kd.R_reads' HO557.out).2.1); (case side3 => repeat (first | exact (Kd.R_reads' HO560.out).2.2 | (with_reducible refine Kd.C_alloc ?_ _) | (with_reducible refine Kd.C_drewN ?_ _) | (with_reducible refine Kd.C_drew ?_))); (case side4 => exact (Kd.R_reads' HO560.out).2.1); rintro e w43 ⟨rfl, hb⟩; refine ⟨_, rfl, ?_⟩; have n0_ := Aside0.mk (Kd.R_below (by (with_reducible repeat (first | apply Kd.R_alloc | apply Kd.R_drewN | apply Kd.R_drew)); exact HO557.out) hb); have n1_ := Aside0.mk (Kd.R_below (by (with_reducible repeat (first | apply Kd.R_alloc | apply Kd.R_drewN | apply Kd.R_drew)); exact HO560.out) hb); have n2_ := Aside0.mk (Kd.R_below (by (with_reducible repeat (first | apply Kd.R_alloc | apply Kd.R_drewN | apply Kd.R_drew)); exact HO565.out) hb); have n3_ := Aside0.mk (blk_below (g := gb546) (o := .cells #[.int .u8 a1_0, .int .u16 a1_1, .int .u16 a1_2, .int .u16 a1_3, .slice A1_4 l1_4.length c1_4, .slice A1_5 l1_5.length c1_5] 26 (0, 0)) (by (with_reducible repeat (first | refine blk_drewN ?_ _ | refine blk_drew ?_ | refine blk_alloc ?_ _)); exact BK546.out) hb); have n4_ := Aside0.mk (blk_below (g := gb547) (o := .cells #[.int .u8 a2_0, .int .u16 a2_1, .int .u16 a2_2, .int .u16 a2_3, .slice A2_4 l2_4.length c2_4, .slice A2_5 l2_5.length c2_5] 26 (0, 0)) (by (with_reducible repeat (first | refine blk_drewN ?_ _ | refine blk_drew ?_ | refine blk_alloc ?_ _)); exact BK547.out) hb); have n5_ := Aside0.mk (blk_below (g := gb562) (o := .cells #[.int .u8 t551, .int .u16 t552, .int .u16 t553, .int .u16 t554, .slice Ao29 t555.length co29, .slice Ao30 t558.length co30] 26 (0, 0)) (by (with_reducible repeat (first | refine blk_drewN ?_ _ | refine blk_drew ?_ | refine blk_alloc ?_ _)); exact BK562.out) hb); have n6_ := Aside0.mk (below_step (by repeat (first | (with_reducible first | exact HB.out | apply below_alloc | apply pw_below_drewN | apply below_drew1 | refine below_set ?_ GE546.out | refine below_set ?_ GE547.out | refine below_set ?_ GE562.out) | exact HB.out)) hb); clear HO557; clear HO560; clear HO565; clear BK546; clear BK547; clear BK562; clear HB; have HO557 := n0_; have HO560 := n1_; have HO565 := n2_; have BK546 := n3_; have BK547 := n4_; have BK562 := n5_; have HB := n6_; clear n0_ n1_ n2_ n3_ n4_ n5_ n6_; (try clear hb); (try clear hb2); (try clear hk); (try clear hi); obtain ⟨Ao44, co44, eo44⟩ := Kd.R_slice HO565.out; subst eo44) | (go_at_call 17; (with_reducible refine (saucierlow_Same.calls _ _ l0 _ _ t563 true _ ?side1 ?side2 ?side3 ?side4 A36.out).mono ?_); (case side1 => repeat (first | exact (Kd.C_below HR0.out HB.out) | (with_reducible refine Kd.C_alloc ?_ _) | (with_reducible refine Kd.C_drewN ?_ _) | (with_reducible refine Kd.C_drew ?_))); (case side2 => exact HC0.out); (case side3 => repeat (first | exact (Kd.R_reads' HO565.out).2.2 | (with_reducible refine Kd.C_alloc ?_ _) | (with_reducible refine Kd.C_drewN ?_ _) | (with_reducible refine Kd.C_drew ?_))); (case side4 => exact (Kd.R_reads' HO565.out).2.1); rintro e w' ⟨rfl, ⟨nd, rfl⟩⟩))
                  go_meet
                  case rel => exact ⟨_, H', ⟨by have := HJ3.out; first | omega | exact Nat.le_refl _⟩, ⟨by (with_reducible repeat (first | apply Kd.R_alloc | apply Kd.R_drewN | apply Kd.R_drew)); exact HO557.out⟩, ⟨by (with_reducible repeat (first | apply Kd.R_alloc | apply Kd.R_drewN | apply Kd.R_drew)); exact HO560.out⟩, ⟨by (with_reducible repeat (first | refine blk_drewN ?_ _ | refine blk_drew ?_ | refine blk_alloc ?_ _)); exact BK546.out⟩, ⟨by (with_reducible repeat (first | refine blk_drewN ?_ _ | refine blk_drew ?_ | refine blk_alloc ?_ _)); exact BK547.out⟩, ⟨by (with_reducible repeat (first | refine blk_drewN ?_ _ | refine blk_drew ?_ | refine blk_alloc ?_ _)); exact BK562.out⟩, ⟨by repeat (first | (with_reducible first | exact HB.out | apply below_alloc | apply pw_below_drewN | apply below_drew1 | refine below_set ?_ GE546.out | refine below_set ?_ GE547.out | refine below_set ?_ GE562.out) | exact HB.out)⟩⟩
                · replace c37 := Bool.eq_false_iff.mpr c37
                  subst c37
                  have H1 : (none) = some r := by rw [if_neg (show ¬ (false = true) by decide)] at H; exact H
                  clear H
                  have H := H1
                  clear H1
                  exact absurd H (by simp)
              · rw [if_neg c35] at H
                exact absurd H (by simp)
            · replace c34 := Bool.eq_false_iff.mpr c34
              subst c34
              have H1 : (none) = some r := by rw [if_neg (show ¬ (false = true) by decide)] at H; exact H
              clear H
              have H := H1
              clear H1
              exact absurd H (by simp)
          · rw [if_neg c31] at H
            have c31b0 : (t561 == 0) = false := beq_eq_false_iff_ne.mpr c31
            have c31b1 : (t561 != 0) = true := bne_iff_ne.mpr c31
            (first | rw [c31b0] | (simp only [i64_w, i32_w]; rw [c31b0]) | skip)
            have H' := Aside0.mk H
            clear H
            go_wp2
            go_meet
            case rel => exact ⟨_, H', ⟨by have := HJ3.out; first | omega | exact Nat.le_refl _⟩, ⟨by (with_reducible repeat (first | apply Kd.R_alloc | apply Kd.R_drewN | apply Kd.R_drew)); exact Kd.R_mono (Kd.R_far (p := ⟨gb562, 5, none⟩) (Kd.R_far (p := ⟨gb562, 4, none⟩) (Kd.R_far (p := ⟨gb562, 3, none⟩) (Kd.R_far (p := ⟨gb562, 2, none⟩) (Kd.R_far (p := ⟨gb562, 1, none⟩) (Kd.R_far (p := ⟨gb562, 0, none⟩) (Kd.R_types HO557.out BK562.out (by decide)) (fun _ hk => hk.2) (.int .u8 t551)) (fun _ hk => hk.2) (.int .u16 t552)) (fun _ hk => hk.2) (.int .u16 t553)) (fun _ hk => hk.2) (.int .u16 t554)) (fun _ hk => hk.2) (.slice Ao29 t555.length co29)) (fun _ hk => hk.2) (.slice Ao30 t558.length co30)) (fun _ hk => trivial)⟩, ⟨by (with_reducible repeat (first | apply Kd.R_alloc | apply Kd.R_drewN | apply Kd.R_drew)); exact Kd.R_mono (Kd.R_far (p := ⟨gb562, 5, none⟩) (Kd.R_far (p := ⟨gb562, 4, none⟩) (Kd.R_far (p := ⟨gb562, 3, none⟩) (Kd.R_far (p := ⟨gb562, 2, none⟩) (Kd.R_far (p := ⟨gb562, 1, none⟩) (Kd.R_far (p := ⟨gb562, 0, none⟩) (Kd.R_types HO560.out BK562.out (by decide)) (fun _ hk => hk.2) (.int .u8 t551)) (fun _ hk => hk.2) (.int .u16 t552)) (fun _ hk => hk.2) (.int .u16 t553)) (fun _ hk => hk.2) (.int .u16 t554)) (fun _ hk => hk.2) (.slice Ao29 t555.length co29)) (fun _ hk => hk.2) (.slice Ao30 t558.length co30)) (fun _ hk => trivial)⟩, ⟨by (with_reducible repeat (first | refine blk_drewN ?_ _ | refine blk_drew ?_ | refine blk_alloc ?_ _)); refine blk_far ?_ NB546_562.out _; (with_reducible repeat (first | refine blk_drewN ?_ _ | refine blk_drew ?_ | refine blk_alloc ?_ _)); refine blk_far ?_ NB546_562.out _; (with_reducible repeat (first | refine blk_drewN ?_ _ | refine blk_drew ?_ | refine blk_alloc ?_ _)); refine blk_far ?_ NB546_562.out _; (with_reducible repeat (first | refine blk_drewN ?_ _ | refine blk_drew ?_ | refine blk_alloc ?_ _)); refine blk_far ?_ NB546_562.out _; (with_reducible repeat (first | refine blk_drewN ?_ _ | refine blk_drew ?_ | refine blk_alloc ?_ _)); refine blk_far ?_ NB546_562.out _; (with_reducible repeat (first | refine blk_drewN ?_ _ | refine blk_drew ?_ | refine blk_alloc ?_ _)); refine blk_far ?_ NB546_562.out _; (with_reducible repeat (first | refine blk_drewN ?_ _ | refine blk_drew ?_ | refine blk_alloc ?_ _)); exact BK546.out⟩, ⟨by (with_reducible repeat (first | refine blk_drewN ?_ _ | refine blk_drew ?_ | refine blk_alloc ?_ _)); refine blk_far ?_ NB547_562.out _; (with_reducible repeat (first | refine blk_drewN ?_ _ | refine blk_drew ?_ | refine blk_alloc ?_ _)); refine blk_far ?_ NB547_562.out _; (with_reducible repeat (first | refine blk_drewN ?_ _ | refine blk_drew ?_ | refine blk_alloc ?_ _)); refine blk_far ?_ NB547_562.out _; (with_reducible repeat (first | refine blk_drewN ?_ _ | refine blk_drew ?_ | refine blk_alloc ?_ _)); refine blk_far ?_ NB547_562.out _; (with_reducible repeat (first | refine blk_drewN ?_ _ | refine blk_drew ?_ | refine blk_alloc ?_ _)); refine blk_far ?_ NB547_562.out _; (with_reducible repeat (first | refine blk_drewN ?_ _ | refine blk_drew ?_ | refine blk_alloc ?_ _)); refine blk_far ?_ NB547_562.out _; (with_reducible repeat (first | refine blk_drewN ?_ _ | refine blk_drew ?_ | refine blk_alloc ?_ _)); exact BK547.out⟩, ⟨by (with_reducible repeat (first | refine blk_drewN ?_ _ | refine blk_drew ?_ | refine blk_alloc ?_ _)); refine blk_put (cs := #[.int .u8 t551, .int .u16 t552, .int .u16 t553, .int .u16 t554, .slice Ao29 t555.length co29, .slice none 0 0]) ?_ 5 _ rfl; (with_reducible repeat (first | refine blk_drewN ?_ _ | refine blk_drew ?_ | refine blk_alloc ?_ _)); refine blk_put (cs := #[.int .u8 t551, .int .u16 t552, .int .u16 t553, .int .u16 t554, .slice none 0 0, .slice none 0 0]) ?_ 4 _ rfl; (with_reducible repeat (first | refine blk_drewN ?_ _ | refine blk_drew ?_ | refine blk_alloc ?_ _)); refine blk_put (cs := #[.int .u8 t551, .int .u16 t552, .int .u16 t553, .int .u16 0, .slice none 0 0, .slice none 0 0]) ?_ 3 _ rfl; (with_reducible repeat (first | refine blk_drewN ?_ _ | refine blk_drew ?_ | refine blk_alloc ?_ _)); refine blk_put (cs := #[.int .u8 t551, .int .u16 t552, .int .u16 0, .int .u16 0, .slice none 0 0, .slice none 0 0]) ?_ 2 _ rfl; (with_reducible repeat (first | refine blk_drewN ?_ _ | refine blk_drew ?_ | refine blk_alloc ?_ _)); refine blk_put (cs := #[.int .u8 t551, .int .u16 0, .int .u16 0, .int .u16 0, .slice none 0 0, .slice none 0 0]) ?_ 1 _ rfl; (with_reducible repeat (first | refine blk_drewN ?_ _ | refine blk_drew ?_ | refine blk_alloc ?_ _)); refine blk_put (cs := #[.int .u8 0, .int .u16 0, .int .u16 0, .int .u16 0, .slice none 0 0, .slice none 0 0]) ?_ 0 _ rfl; (with_reducible repeat (first | refine blk_drewN ?_ _ | refine blk_drew ?_ | refine blk_alloc ?_ _)); exact BK562.out⟩, ⟨by repeat (first | (with_reducible first | exact HB.out | apply below_alloc | apply pw_below_drewN | apply below_drew1 | refine below_set ?_ GE546.out | refine below_set ?_ GE547.out | refine below_set ?_ GE562.out) | exact HB.out)⟩⟩
        case rest =>
          clear HC23
          try clear c1
          try clear c2
          try clear p2
          try clear c3
          try clear c5
          try clear c8
          try clear c9
          try clear c10
          try clear c11
          try clear c13
          try clear c14
          try clear c17
          try clear c18
          try clear c19
          try clear c26
          try clear c27
          try clear c31
          try clear c31b0
          try clear c31b1
          try clear c34
          try clear c35
          try clear c35b0
          try clear c35b1
          try clear c37
          try clear c38
          try clear c39
          try clear hcz12_0
          try clear hcz12_1
          try clear hcz12_2
          try clear hcz12_3
          try clear hcz12_4
          try clear hcz12_5
          try clear hcz13_0
          try clear hcz13_1
          try clear hcz13_2
          try clear hcz13_3
          try clear hcz13_4
          try clear hcz13_5
          try clear hcz15_0
          try clear hcz15_1
          try clear hcz15_2
          try clear hcz15_3
          try clear hcz15_4
          try clear hcz15_5
          try clear hcz16_0
          try clear hcz16_1
          try clear hcz16_2
          try clear hcz16_3
          try clear hcz16_4
          try clear hcz16_5
          try clear hcz18_0
          try clear hcz18_1
          try clear hcz18_2
          try clear hcz18_3
          try clear hcz18_4
          try clear hcz18_5
          try clear hcz28_0
          try clear hcz28_1
          try clear hcz28_2
          try clear hcz28_3
          try clear hcz28_4
          try clear hcz28_5
          try clear hcz40_0
          try clear hcz40_1
          try clear hcz40_2
          try clear hcz40_3
          try clear hcz40_4
          try clear hcz40_5
          try clear hcz42_0
          try clear hcz42_1
          try clear hcz42_2
          try clear hcz42_3
          try clear hcz42_4
          try clear hcz42_5
          try clear hfz12_0
          try clear hfz12_1
          try clear hfz12_2
          try clear hfz12_3
          try clear hfz12_4
          try clear hfz12_5
          try clear hfz13_0
          try clear hfz13_1
          try clear hfz13_2
          try clear hfz13_3
          try clear hfz13_4
          try clear hfz13_5
          try clear hfz15_0
          try clear hfz15_1
          try clear hfz15_2
          try clear hfz15_3
          try clear hfz15_4
          try clear hfz15_5
          try clear hfz16_0
          try clear hfz16_1
          try clear hfz16_2
          try clear hfz16_3
          try clear hfz16_4
          try clear hfz16_5
          try clear hfz18_0
          try clear hfz18_1
          try clear hfz18_2
          try clear hfz18_3
          try clear hfz18_4
          try clear hfz18_5
          try clear hfz28_0
          try clear hfz28_1
          try clear hfz28_2
          try clear hfz28_3
          try clear hfz28_4
          try clear hfz28_5
          try clear hfz40_0
          try clear hfz40_1
          try clear hfz40_2
          try clear hfz40_3
          try clear hfz40_4
          try clear hfz40_5
          try clear hfz42_0
          try clear hfz42_1
          try clear hfz42_2
          try clear hfz42_3
          try clear hfz42_4
          try clear hfz42_5
          try clear p2
          obtain ⟨kq, HA, HJ22, HO_563004, HO_563005, BK546, BK547, BK562, HB⟩ := hcut
          cases kq with
          | zero => exact absurd HA.out (by simp [saucierlaw02_AskOne.j1])
          | succ kj22 =>
            have H := HA.out
            clear HA
            simp only [saucierlaw02_AskOne.j1] at H
            replace H := Option.bind_eq_some_iff.mp H
            obtain ⟨⟨t569, t572⟩, A450, H⟩ := H
            replace H : ((ask_Bytes.f kj22 a2_0 a2_1 a2_2 a2_3 l2_4 l2_5).bind fun bt573 => (if t572 = 0 then (if bt573.2 = 0 then ((saucierlow_Same.f t569 bt573.1).bind fun t577 => ((ask_Same.f kj22 a1_0 a1_1 a1_2 a1_3 l1_4 l1_5 a2_0 a2_1 a2_2 a2_3 l2_4 l2_5).bind fun t578 => (if (t577 == t578) = true then ((saucierlaw02_awake.f).bind fun t579 => (some t579)) else (none)))) else ((saucierlaw02_awake.f).bind fun t580 => (some t580))) else ((saucierlaw02_awake.f).bind fun t581 => (some t581)))) = some r := H
            have A45 := Aside0.mk A450
            clear A450
            replace H := Option.bind_eq_some_iff.mp H
            obtain ⟨⟨t573, t576⟩, A460, H⟩ := H
            replace H : (if t572 = 0 then (if t576 = 0 then ((saucierlow_Same.f t569 t573).bind fun t577 => ((ask_Same.f kj22 a1_0 a1_1 a1_2 a1_3 l1_4 l1_5 a2_0 a2_1 a2_2 a2_3 l2_4 l2_5).bind fun t578 => (if (t577 == t578) = true then ((saucierlaw02_awake.f).bind fun t579 => (some t579)) else (none)))) else ((saucierlaw02_awake.f).bind fun t580 => (some t580))) else ((saucierlaw02_awake.f).bind fun t581 => (some t581))) = some r := H
            have A46 := Aside0.mk A460
            clear A460
            by_cases c47 : t572 = 0
            · rw [if_pos c47] at H
              have c47b0 : (t572 == 0) = true := beq_iff_eq.mpr c47
              have c47b1 : (t572 != 0) = false := bne_eq_false_iff_eq.mpr c47
              clear c47
              by_cases c48 : t576 = 0
              · rw [if_pos c48] at H
                have c48b0 : (t576 == 0) = true := beq_iff_eq.mpr c48
                have c48b1 : (t576 != 0) = false := bne_eq_false_iff_eq.mpr c48
                clear c48
                replace H := Option.bind_eq_some_iff.mp H
                obtain ⟨t577, A490, H⟩ := H
                replace H : ((ask_Same.f kj22 a1_0 a1_1 a1_2 a1_3 l1_4 l1_5 a2_0 a2_1 a2_2 a2_3 l2_4 l2_5).bind fun t578 => (if (t577 == t578) = true then ((saucierlaw02_awake.f).bind fun t579 => (some t579)) else (none))) = some r := H
                have A49 := Aside0.mk A490
                clear A490
                replace H := Option.bind_eq_some_iff.mp H
                obtain ⟨t578, A500, H⟩ := H
                replace H : (if (t577 == t578) = true then ((saucierlaw02_awake.f).bind fun t579 => (some t579)) else (none)) = some r := H
                have A50 := Aside0.mk A500
                clear A500
                by_cases c51 : (t577 == t578) = true
                · rw [if_pos c51] at H
                  have c51b0 : (t577 == t578) = true := c51
                  (try (have c51b1 : decide (t577 = t578) = true := by simpa using c51))
                  (try (have c51b2 : (t577 == t578) = true := by simpa using c51))
                  clear c51
                  replace H := Option.bind_eq_some_iff.mp H
                  obtain ⟨t579, A520, H⟩ := H
                  replace H : (some t579) = some r := H
                  have A52 := Aside0.mk A520
                  clear A520
                  obtain rfl := Option.some.inj H
                  have hnb53 := NB546_547.out
                  have hnc53 := NB547_546.out
                  have hnb54 := NB546_562.out
                  have hnc54 := NB562_546.out
                  have hcz55_0 : wc.cell? ⟨gb546, 0, none⟩ = some (.int .u8 a1_0) := (blk_cell BK546.out 0).trans rfl
                  have hcz55_1 : wc.cell? ⟨gb546, 1, none⟩ = some (.int .u16 a1_1) := (blk_cell BK546.out 1).trans rfl
                  have hcz55_2 : wc.cell? ⟨gb546, 2, none⟩ = some (.int .u16 a1_2) := (blk_cell BK546.out 2).trans rfl
                  have hcz55_3 : wc.cell? ⟨gb546, 3, none⟩ = some (.int .u16 a1_3) := (blk_cell BK546.out 3).trans rfl
                  have hcz55_4 : wc.cell? ⟨gb546, 4, none⟩ = some (.slice A1_4 l1_4.length c1_4) := (blk_cell BK546.out 4).trans rfl
                  have hcz55_5 : wc.cell? ⟨gb546, 5, none⟩ = some (.slice A1_5 l1_5.length c1_5) := (blk_cell BK546.out 5).trans rfl
                  have hfz55_0 := blk_frozen BK546.out 0
                  have hfz55_1 := blk_frozen BK546.out 1
                  have hfz55_2 := blk_frozen BK546.out 2
                  have hfz55_3 := blk_frozen BK546.out 3
                  have hfz55_4 := blk_frozen BK546.out 4
                  have hfz55_5 := blk_frozen BK546.out 5
                  try go_wp2_with (first | ((with_reducible refine gate_callee (f := 11) rfl ?_); refine goesL_ (some 62) rfl rfl Try.func11 (by kernel_rfl) rfl #[.agg #[.int .u8 a1_0, .int .u16 a1_1, .int .u16 a1_2, .int .u16 a1_3, .slice A1_4 l1_4.length c1_4, .slice A1_5 l1_5.length c1_5]] rfl (by (try simp only [List.map_toArray, List.map_cons, List.map_nil]); first | done | rfl | (simp only [List.length_drop, List.length_take]; rfl)) ?_; (with_reducible refine (ask_Bytes.calls kj22 a1_0 a1_1 a1_2 a1_3 _ _ l1_4 _ _ l1_5 t569 t572 _ ?side1 ?side2 ?side3 ?side4 A45.out).mono ?_); (case side1 => repeat (first | exact (Kd.C_below HR1_4.out HB.out) | (with_reducible refine Kd.C_alloc ?_ _) | (with_reducible refine Kd.C_drewN ?_ _) | (with_reducible refine Kd.C_drew ?_))); (case side2 => exact HC1_4.out); (case side3 => repeat (first | exact (Kd.C_below HR1_5.out HB.out) | (with_reducible refine Kd.C_alloc ?_ _) | (with_reducible refine Kd.C_drewN ?_ _) | (with_reducible refine Kd.C_drew ?_))); (case side4 => exact HC1_5.out); rintro e w56 ⟨v570, rfl, ho0, hb⟩; refine ⟨_, rfl, ?_⟩; have n0_ := Aside0.mk (Kd.R_below (by (with_reducible repeat (first | apply Kd.R_alloc | apply Kd.R_drewN | apply Kd.R_drew)); exact HO_563004.out) hb); have n1_ := Aside0.mk (Kd.R_below (by (with_reducible repeat (first | apply Kd.R_alloc | apply Kd.R_drewN | apply Kd.R_drew)); exact HO_563005.out) hb); have n2_ := Aside0.mk (Kd.R_lower ho0 (below_size (by repeat (first | (with_reducible first | exact HB.out | apply below_alloc | apply pw_below_drewN | apply below_drew1 | refine below_set ?_ GE546.out | refine below_set ?_ GE547.out | refine below_set ?_ GE562.out) | exact HB.out)))); have n3_ := Aside0.mk (blk_below (g := gb546) (o := .cells #[.int .u8 a1_0, .int .u16 a1_1, .int .u16 a1_2, .int .u16 a1_3, .slice A1_4 l1_4.length c1_4, .slice A1_5 l1_5.length c1_5] 26 (0, 0)) (by (with_reducible repeat (first | refine blk_drewN ?_ _ | refine blk_drew ?_ | refine blk_alloc ?_ _)); exact BK546.out) hb); have n4_ := Aside0.mk (blk_below (g := gb547) (o := .cells #[.int .u8 a2_0, .int .u16 a2_1, .int .u16 a2_2, .int .u16 a2_3, .slice A2_4 l2_4.length c2_4, .slice A2_5 l2_5.length c2_5] 26 (0, 0)) (by (with_reducible repeat (first | refine blk_drewN ?_ _ | refine blk_drew ?_ | refine blk_alloc ?_ _)); exact BK547.out) hb); have n5_ := Aside0.mk (blk_below (g := gb562) (o := .cells #[.int .u8 t551, .int .u16 t552, .int .u16 t553, .int .u16 t554, .slice Ao29 t555.length co29, .slice Ao30 t558.length co30] 26 (0, 0)) (by (with_reducible repeat (first | refine blk_drewN ?_ _ | refine blk_drew ?_ | refine blk_alloc ?_ _)); exact BK562.out) hb); have n6_ := Aside0.mk (below_step (by repeat (first | (with_reducible first | exact HB.out | apply below_alloc | apply pw_below_drewN | apply below_drew1 | refine below_set ?_ GE546.out | refine below_set ?_ GE547.out | refine below_set ?_ GE562.out) | exact HB.out)) hb); clear HO_563004; clear HO_563005; clear BK546; clear BK547; clear BK562; clear HB; have HO_563004 := n0_; have HO_563005 := n1_; have HO571 := n2_; have BK546 := n3_; have BK547 := n4_; have BK562 := n5_; have HB := n6_; clear n0_ n1_ n2_ n3_ n4_ n5_ n6_; (try clear hb); (try clear hb2); (try clear hk); (try clear hi); (try clear ho0); have hnb57 := NB547_562.out; have hnc57 := NB562_547.out; have hcz58_0 : w56.cell? ⟨gb547, 0, none⟩ = some (.int .u8 a2_0) := (blk_cell BK547.out 0).trans rfl; have hcz58_1 : w56.cell? ⟨gb547, 1, none⟩ = some (.int .u16 a2_1) := (blk_cell BK547.out 1).trans rfl; have hcz58_2 : w56.cell? ⟨gb547, 2, none⟩ = some (.int .u16 a2_2) := (blk_cell BK547.out 2).trans rfl; have hcz58_3 : w56.cell? ⟨gb547, 3, none⟩ = some (.int .u16 a2_3) := (blk_cell BK547.out 3).trans rfl; have hcz58_4 : w56.cell? ⟨gb547, 4, none⟩ = some (.slice A2_4 l2_4.length c2_4) := (blk_cell BK547.out 4).trans rfl; have hcz58_5 : w56.cell? ⟨gb547, 5, none⟩ = some (.slice A2_5 l2_5.length c2_5) := (blk_cell BK547.out 5).trans rfl; have hfz58_0 := blk_frozen BK547.out 0; have hfz58_1 := blk_frozen BK547.out 1; have hfz58_2 := blk_frozen BK547.out 2; have hfz58_3 := blk_frozen BK547.out 3; have hfz58_4 := blk_frozen BK547.out 4; have hfz58_5 := blk_frozen BK547.out 5) | ((with_reducible refine gate_callee (f := 11) rfl ?_); refine goesL_ (some 67) rfl rfl Try.func11 (by kernel_rfl) rfl #[.agg #[.int .u8 a2_0, .int .u16 a2_1, .int .u16 a2_2, .int .u16 a2_3, .slice A2_4 l2_4.length c2_4, .slice A2_5 l2_5.length c2_5]] rfl (by (try simp only [List.map_toArray, List.map_cons, List.map_nil]); first | done | rfl | (simp only [List.length_drop, List.length_take]; rfl)) ?_; (with_reducible refine (ask_Bytes.calls kj22 a2_0 a2_1 a2_2 a2_3 _ _ l2_4 _ _ l2_5 t573 t576 _ ?side1 ?side2 ?side3 ?side4 A46.out).mono ?_); (case side1 => repeat (first | exact (Kd.C_below HR2_4.out HB.out) | (with_reducible refine Kd.C_alloc ?_ _) | (with_reducible refine Kd.C_drewN ?_ _) | (with_reducible refine Kd.C_drew ?_))); (case side2 => exact HC2_4.out); (case side3 => repeat (first | exact (Kd.C_below HR2_5.out HB.out) | (with_reducible refine Kd.C_alloc ?_ _) | (with_reducible refine Kd.C_drewN ?_ _) | (with_reducible refine Kd.C_drew ?_))); (case side4 => exact HC2_5.out); rintro e w59 ⟨v574, rfl, ho0, hb⟩; refine ⟨_, rfl, ?_⟩; have n0_ := Aside0.mk (Kd.R_below (by (with_reducible repeat (first | apply Kd.R_alloc | apply Kd.R_drewN | apply Kd.R_drew)); exact HO_563004.out) hb); have n1_ := Aside0.mk (Kd.R_below (by (with_reducible repeat (first | apply Kd.R_alloc | apply Kd.R_drewN | apply Kd.R_drew)); exact HO_563005.out) hb); have n2_ := Aside0.mk (Kd.R_elder' (by (with_reducible repeat (first | apply Kd.R_alloc | apply Kd.R_drewN | apply Kd.R_drew)); exact HO571.out) (Kd.R_base ho0) hb); have n3_ := Aside0.mk (Kd.R_lower (Kd.R_new' ho0 (Kd.R_lt (by (with_reducible repeat (first | apply Kd.R_alloc | apply Kd.R_drewN | apply Kd.R_drew)); exact HO571.out))) (below_size (by repeat (first | (with_reducible first | exact HB.out | apply below_alloc | apply pw_below_drewN | apply below_drew1 | refine below_set ?_ GE546.out | refine below_set ?_ GE547.out | refine below_set ?_ GE562.out) | exact HB.out)))); have n4_ := Aside0.mk (blk_below (g := gb546) (o := .cells #[.int .u8 a1_0, .int .u16 a1_1, .int .u16 a1_2, .int .u16 a1_3, .slice A1_4 l1_4.length c1_4, .slice A1_5 l1_5.length c1_5] 26 (0, 0)) (by (with_reducible repeat (first | refine blk_drewN ?_ _ | refine blk_drew ?_ | refine blk_alloc ?_ _)); exact BK546.out) hb); have n5_ := Aside0.mk (blk_below (g := gb547) (o := .cells #[.int .u8 a2_0, .int .u16 a2_1, .int .u16 a2_2, .int .u16 a2_3, .slice A2_4 l2_4.length c2_4, .slice A2_5 l2_5.length c2_5] 26 (0, 0)) (by (with_reducible repeat (first | refine blk_drewN ?_ _ | refine blk_drew ?_ | refine blk_alloc ?_ _)); exact BK547.out) hb); have n6_ := Aside0.mk (blk_below (g := gb562) (o := .cells #[.int .u8 t551, .int .u16 t552, .int .u16 t553, .int .u16 t554, .slice Ao29 t555.length co29, .slice Ao30 t558.length co30] 26 (0, 0)) (by (with_reducible repeat (first | refine blk_drewN ?_ _ | refine blk_drew ?_ | refine blk_alloc ?_ _)); exact BK562.out) hb); have n7_ := Aside0.mk (below_step (by repeat (first | (with_reducible first | exact HB.out | apply below_alloc | apply pw_below_drewN | apply below_drew1 | refine below_set ?_ GE546.out | refine below_set ?_ GE547.out | refine below_set ?_ GE562.out) | exact HB.out)) hb); clear HO_563004; clear HO_563005; clear HO571; clear BK546; clear BK547; clear BK562; clear HB; have HO_563004 := n0_; have HO_563005 := n1_; have HO571 := n2_; have HO575 := n3_; have BK546 := n4_; have BK547 := n5_; have BK562 := n6_; have HB := n7_; clear n0_ n1_ n2_ n3_ n4_ n5_ n6_ n7_; (try clear hb); (try clear hb2); (try clear hk); (try clear hi); (try clear ho0)))
                  have n0_ := Aside0.mk (Kd.R_drew HO_563004.out)
                  have n1_ := Aside0.mk (Kd.R_drew HO_563005.out)
                  have n2_ := Aside0.mk (Kd.R_drew HO571.out)
                  have n3_ := Aside0.mk (Kd.R_drew HO575.out)
                  have n4_ := Aside0.mk (blk_drew BK546.out)
                  have n5_ := Aside0.mk (blk_drew BK547.out)
                  have n6_ := Aside0.mk (blk_drew BK562.out)
                  have n7_ := Aside0.mk (below_drew1 HB.out)
                  clear HO_563004
                  clear HO_563005
                  clear HO571
                  clear HO575
                  clear BK546
                  clear BK547
                  clear BK562
                  clear HB
                  have HO_563004 := n0_
                  have HO_563005 := n1_
                  have HO571 := n2_
                  have HO575 := n3_
                  have BK546 := n4_
                  have BK547 := n5_
                  have BK562 := n6_
                  have HB := n7_
                  clear n0_ n1_ n2_ n3_ n4_ n5_ n6_ n7_
                  obtain ⟨Ao61, co61, eo61⟩ := Kd.R_slice HO571.out
                  (first | subst eo61 | (injection eo61 with f1_ f2_ f3_; have f4_ := f1_.symm; have f5_ := f3_.symm; clear f1_ f2_ f3_; subst f4_; subst f5_))
                  obtain ⟨Ao62, co62, eo62⟩ := Kd.R_slice HO575.out
                  (first | subst eo62 | (injection eo62 with f1_ f2_ f3_; have f4_ := f1_.symm; have f5_ := f3_.symm; clear f1_ f2_ f3_; subst f4_; subst f5_))
                  refine start_ (n := 19) (S := fun w' => w'.cell? ⟨gb546, 0, none⟩ = some (.int .u8 a1_0) ∧ w'.cell? ⟨gb546, 1, none⟩ = some (.int .u16 a1_1) ∧ w'.cell? ⟨gb546, 2, none⟩ = some (.int .u16 a1_2) ∧ w'.cell? ⟨gb546, 3, none⟩ = some (.int .u16 a1_3) ∧ w'.cell? ⟨gb546, 4, none⟩ = some (.slice A1_4 l1_4.length c1_4) ∧ w'.cell? ⟨gb546, 5, none⟩ = some (.slice A1_5 l1_5.length c1_5) ∧ w'.cell? ⟨gb547, 0, none⟩ = some (.int .u8 a2_0) ∧ w'.cell? ⟨gb547, 1, none⟩ = some (.int .u16 a2_1) ∧ w'.cell? ⟨gb547, 2, none⟩ = some (.int .u16 a2_2) ∧ w'.cell? ⟨gb547, 3, none⟩ = some (.int .u16 a2_3) ∧ w'.cell? ⟨gb547, 4, none⟩ = some (.slice A2_4 l2_4.length c2_4) ∧ w'.cell? ⟨gb547, 5, none⟩ = some (.slice A2_5 l2_5.length c2_5)) (ds := []) #[false, false, false, false, false, false, false, false, false, false, false, false, false, false, false, false, false, false, false] (by kernel_rfl) rfl rfl ⟨(blk_cell BK546.out 0).trans rfl, (blk_cell BK546.out 1).trans rfl, (blk_cell BK546.out 2).trans rfl, (blk_cell BK546.out 3).trans rfl, (blk_cell BK546.out 4).trans rfl, (blk_cell BK546.out 5).trans rfl, (blk_cell BK547.out 0).trans rfl, (blk_cell BK547.out 1).trans rfl, (blk_cell BK547.out 2).trans rfl, (blk_cell BK547.out 3).trans rfl, (blk_cell BK547.out 4).trans rfl, (blk_cell BK547.out 5).trans rfl⟩ (fun hHeld => ?_); refine with_tabW saucierlaw02_AskOne.tab10 saucierlaw02_AskOne.bits10 (fun HT_ HW_ => ?_)
                  generalize w59.drew = w60 at HO_563004 HO_563005 HO571 HO575 BK546 BK547 BK562 HB hHeld ⊢
                  refine pure_ (i := 0) (N := some 70) (v := ?_) (a' := ?_) #[true, false, false, false, false, false, false, false, false, false, false, false, false, false, false, false, false, false, false] rfl rfl (any_of HT_.out (by kernel_rfl)) (fun _ _ _ h => h) (Or.inl ⟨by rfl, ?_⟩) ?_ ?_
                  rotate_left
                  · intro w'
                    go_simp
                    with_reducible rfl
                  rotate_left
                  · simp only [Act.put, List.setIfInBounds_toArray, List.set_cons_zero, List.set_cons_succ, i64_w, i32_w]
                    rfl
                  refine pure_ (i := 1) (N := some 71) (v := ?_) (a' := ?_) #[true, true, false, false, false, false, false, false, false, false, false, false, false, false, false, false, false, false, false] rfl rfl (any_of HT_.out (by kernel_rfl)) (fun _ _ _ h => h) (Or.inl ⟨by rfl, ?_⟩) ?_ ?_
                  rotate_left
                  · intro w'
                    go_simp
                    with_reducible rfl
                  rotate_left
                  · simp only [Act.put, List.setIfInBounds_toArray, List.set_cons_zero, List.set_cons_succ, i64_w, i32_w]
                    rfl
                  refine pure_ (i := 2) (N := some 72) (v := ?_) (a' := ?_) #[true, true, true, false, false, false, false, false, false, false, false, false, false, false, false, false, false, false, false] rfl rfl (any_of HT_.out (by kernel_rfl)) (fun _ _ _ h => h) (Or.inl ⟨by rfl, ?_⟩) ?_ ?_
                  rotate_left
                  · intro w'
                    go_simp
                    with_reducible rfl
                  rotate_left
                  · simp only [Act.put, List.setIfInBounds_toArray, List.set_cons_zero, List.set_cons_succ, i64_w, i32_w]
                    rfl
                  refine pure_ (i := 3) (N := some 73) (v := ?_) (a' := ?_) #[true, true, true, true, false, false, false, false, false, false, false, false, false, false, false, false, false, false, false] rfl rfl (any_of HT_.out (by kernel_rfl)) (fun _ _ _ h => h) (Or.inl ⟨by rfl, ?_⟩) ?_ ?_
                  rotate_left
                  · intro w'
                    go_simp
                    with_reducible rfl
                  rotate_left
                  · simp only [Act.put, List.setIfInBounds_toArray, List.set_cons_zero, List.set_cons_succ, i64_w, i32_w]
                    rfl
                  refine pure_ (i := 4) (N := some 74) (v := ?_) (a' := ?_) #[true, true, true, true, true, false, false, false, false, false, false, false, false, false, false, false, false, false, false] rfl rfl (any_of HT_.out (by kernel_rfl)) (fun _ _ _ h => h) (Or.inl ⟨by rfl, ?_⟩) ?_ ?_
                  rotate_left
                  · intro w'
                    go_simp
                    with_reducible rfl
                  rotate_left
                  · simp only [Act.put, List.setIfInBounds_toArray, List.set_cons_zero, List.set_cons_succ, i64_w, i32_w]
                    rfl
                  refine pure_ (i := 5) (N := some 75) (v := ?_) (a' := ?_) #[true, true, true, true, true, true, false, false, false, false, false, false, false, false, false, false, false, false, false] rfl rfl (any_of HT_.out (by kernel_rfl)) (fun _ _ _ h => h) (Or.inl ⟨by rfl, ?_⟩) ?_ ?_
                  rotate_left
                  · intro w'
                    go_simp
                    with_reducible rfl
                  rotate_left
                  · simp only [Act.put, List.setIfInBounds_toArray, List.set_cons_zero, List.set_cons_succ, i64_w, i32_w]
                    rfl
                  refine pure_ (i := 6) (N := some 76) (v := ?_) (a' := ?_) #[true, true, true, true, true, true, true, false, false, false, false, false, false, false, false, false, false, false, false] rfl rfl (any_of HT_.out (by kernel_rfl)) (fun _ _ _ h => h) (Or.inl ⟨by rfl, ?_⟩) ?_ ?_
                  rotate_left
                  · intro w'
                    go_simp
                    with_reducible rfl
                  rotate_left
                  · simp only [Act.put, List.setIfInBounds_toArray, List.set_cons_zero, List.set_cons_succ, i64_w, i32_w]
                    rfl
                  refine pure_ (i := 7) (N := some 77) (v := ?_) (a' := ?_) #[true, true, true, true, true, true, true, true, false, false, false, false, false, false, false, false, false, false, false] rfl rfl (any_of HT_.out (by kernel_rfl)) (fun _ _ _ h => h) (Or.inl ⟨by rfl, ?_⟩) ?_ ?_
                  rotate_left
                  · intro w'
                    go_simp
                    with_reducible rfl
                  rotate_left
                  · simp only [Act.put, List.setIfInBounds_toArray, List.set_cons_zero, List.set_cons_succ, i64_w, i32_w]
                    rfl
                  refine pure_ (i := 8) (N := some 78) (v := ?_) (a' := ?_) #[true, true, true, true, true, true, true, true, true, false, false, false, false, false, false, false, false, false, false] rfl rfl (any_of HT_.out (by kernel_rfl)) (fun _ _ _ h => h) (Or.inl ⟨by rfl, ?_⟩) ?_ ?_
                  rotate_left
                  · intro w'
                    go_simp
                    with_reducible rfl
                  rotate_left
                  · simp only [Act.put, List.setIfInBounds_toArray, List.set_cons_zero, List.set_cons_succ, i64_w, i32_w]
                    rfl
                  refine take_ (i := 10) (N := some 80) (v := ?_) (a' := ?_) #[true, true, true, true, true, true, true, true, true, false, true, false, false, false, false, false, false, false, false] rfl rfl (take_ofW HT_.out HW_.out (by kernel_rfl)) (fun _ _ _ h => h) (Or.inl ⟨by rfl, ?_⟩) hHeld ?_ ?_
                  rotate_left
                  · rintro w' ⟨s0, s1, s2, s3, s4, s5, s6, s7, s8, s9, s10, s11⟩
                    go_simp
                    with_reducible rfl
                  rotate_left
                  · simp only [Act.put, List.setIfInBounds_toArray, List.set_cons_zero, List.set_cons_succ, i64_w, i32_w]
                    rfl
                  refine take_ (i := 11) (N := some 81) (v := ?_) (a' := ?_) #[true, true, true, true, true, true, true, true, true, false, true, true, false, false, false, false, false, false, false] rfl rfl (take_ofW HT_.out HW_.out (by kernel_rfl)) (fun _ _ _ h => h) (Or.inl ⟨by rfl, ?_⟩) hHeld ?_ ?_
                  rotate_left
                  · rintro w' ⟨s0, s1, s2, s3, s4, s5, s6, s7, s8, s9, s10, s11⟩
                    go_simp
                    with_reducible rfl
                  rotate_left
                  · simp only [Act.put, List.setIfInBounds_toArray, List.set_cons_zero, List.set_cons_succ, i64_w, i32_w]
                    rfl
                  refine one_ (i := 9) (N := some 79) #[true, true, true, true, true, true, true, true, true, true, true, true, false, false, false, false, false, false, false] rfl rfl (one_of HT_.out (by kernel_rfl)) (by decide) (fun K hK => ?_)
                  refine goes_ Try.func17 (by kernel_rfl) rfl #[.slice Ao61 t569.length co61, .slice Ao62 t573.length co62] (by rfl) rfl rfl (by (try simp only [List.map_toArray, List.map_cons, List.map_nil]); first | done | rfl | (simp only [List.length_drop, List.length_take]; rfl)) ?_
                  with_reducible refine (saucierlow_Same.calls _ _ t569 _ _ t573 t577 _ ?side1 ?side2 ?side3 ?side4 A49.out).mono ?_
                  (case side1 => repeat (first | exact (Kd.R_reads' HO571.out).2.2 | (with_reducible refine Kd.C_alloc ?_ _) | (with_reducible refine Kd.C_drewN ?_ _) | (with_reducible refine Kd.C_drew ?_)))
                  (case side2 => exact (Kd.R_reads' HO571.out).2.1)
                  (case side3 => repeat (first | exact (Kd.R_reads' HO575.out).2.2 | (with_reducible refine Kd.C_alloc ?_ _) | (with_reducible refine Kd.C_drewN ?_ _) | (with_reducible refine Kd.C_drew ?_)))
                  (case side4 => exact (Kd.R_reads' HO575.out).2.1)
                  rintro e w' ⟨rfl, ⟨nd, rfl⟩⟩
                  refine ⟨_, rfl, ?_⟩
                  refine hK.out _ _ ⟨(blk_cell BK546.out 0).trans rfl, (blk_cell BK546.out 1).trans rfl, (blk_cell BK546.out 2).trans rfl, (blk_cell BK546.out 3).trans rfl, (blk_cell BK546.out 4).trans rfl, (blk_cell BK546.out 5).trans rfl, (blk_cell BK547.out 0).trans rfl, (blk_cell BK547.out 1).trans rfl, (blk_cell BK547.out 2).trans rfl, (blk_cell BK547.out 3).trans rfl, (blk_cell BK547.out 4).trans rfl, (blk_cell BK547.out 5).trans rfl⟩ (fun hHeld => ?_)
                  clear hK K
                  refine norm_ (a' := ?_) ?_ ?_
                  rotate_left
                  · show Act.put _ (some 79) _ = _
                    simp only [Act.put, List.setIfInBounds_toArray, List.set_cons_zero, List.set_cons_succ, i64_w, i32_w]
                    rfl
                  refine one_ (i := 12) (N := some 82) #[true, true, true, true, true, true, true, true, true, true, true, true, true, false, false, false, false, false, false] rfl rfl (one_of HT_.out (by kernel_rfl)) (by decide) (fun K hK => ?_)
                  refine goes_ Try.func15 (by kernel_rfl) rfl #[.agg #[.int .u8 a1_0, .int .u16 a1_1, .int .u16 a1_2, .int .u16 a1_3, .slice A1_4 l1_4.length c1_4, .slice A1_5 l1_5.length c1_5], .agg #[.int .u8 a2_0, .int .u16 a2_1, .int .u16 a2_2, .int .u16 a2_3, .slice A2_4 l2_4.length c2_4, .slice A2_5 l2_5.length c2_5]] (by rfl) rfl rfl (by (try simp only [List.map_toArray, List.map_cons, List.map_nil]); first | done | rfl | (simp only [List.length_drop, List.length_take]; rfl)) ?_
                  with_reducible refine (ask_Same.calls kj22 a1_0 a1_1 a1_2 a1_3 _ _ l1_4 _ _ l1_5 a2_0 a2_1 a2_2 a2_3 _ _ l2_4 _ _ l2_5 t578 _ ?side1 ?side2 ?side3 ?side4 ?side5 ?side6 ?side7 ?side8 A50.out).mono ?_
                  (case side1 => repeat (first | exact (Kd.C_below HR1_4.out (by repeat (first | (with_reducible first | exact HB.out | apply below_alloc | apply pw_below_drewN | apply below_drew1 | refine below_set ?_ GE546.out | refine below_set ?_ GE547.out | refine below_set ?_ GE562.out) | exact HB.out))) | (with_reducible refine Kd.C_alloc ?_ _) | (with_reducible refine Kd.C_drewN ?_ _) | (with_reducible refine Kd.C_drew ?_)))
                  (case side2 => exact HC1_4.out)
                  (case side3 => repeat (first | exact (Kd.C_below HR1_5.out (by repeat (first | (with_reducible first | exact HB.out | apply below_alloc | apply pw_below_drewN | apply below_drew1 | refine below_set ?_ GE546.out | refine below_set ?_ GE547.out | refine below_set ?_ GE562.out) | exact HB.out))) | (with_reducible refine Kd.C_alloc ?_ _) | (with_reducible refine Kd.C_drewN ?_ _) | (with_reducible refine Kd.C_drew ?_)))
                  (case side4 => exact HC1_5.out)
                  (case side5 => repeat (first | exact (Kd.C_below HR2_4.out (by repeat (first | (with_reducible first | exact HB.out | apply below_alloc | apply pw_below_drewN | apply below_drew1 | refine below_set ?_ GE546.out | refine below_set ?_ GE547.out | refine below_set ?_ GE562.out) | exact HB.out))) | (with_reducible refine Kd.C_alloc ?_ _) | (with_reducible refine Kd.C_drewN ?_ _) | (with_reducible refine Kd.C_drew ?_)))
                  (case side6 => exact HC2_4.out)
                  (case side7 => repeat (first | exact (Kd.C_below HR2_5.out (by repeat (first | (with_reducible first | exact HB.out | apply below_alloc | apply pw_below_drewN | apply below_drew1 | refine below_set ?_ GE546.out | refine below_set ?_ GE547.out | refine below_set ?_ GE562.out) | exact HB.out))) | (with_reducible refine Kd.C_alloc ?_ _) | (with_reducible refine Kd.C_drewN ?_ _) | (with_reducible refine Kd.C_drew ?_)))
                  (case side8 => exact HC2_5.out)
                  rintro e w63 ⟨rfl, hb⟩
                  refine ⟨_, rfl, ?_⟩
                  have n0_ := Aside0.mk (Kd.R_below (by (with_reducible repeat (first | apply Kd.R_alloc | apply Kd.R_drewN | apply Kd.R_drew)); exact HO_563004.out) hb)
                  have n1_ := Aside0.mk (Kd.R_below (by (with_reducible repeat (first | apply Kd.R_alloc | apply Kd.R_drewN | apply Kd.R_drew)); exact HO_563005.out) hb)
                  have n2_ := Aside0.mk (Kd.R_below (by (with_reducible repeat (first | apply Kd.R_alloc | apply Kd.R_drewN | apply Kd.R_drew)); exact HO571.out) hb)
                  have n3_ := Aside0.mk (Kd.R_below (by (with_reducible repeat (first | apply Kd.R_alloc | apply Kd.R_drewN | apply Kd.R_drew)); exact HO575.out) hb)
                  have n4_ := Aside0.mk (blk_below (g := gb546) (o := .cells #[.int .u8 a1_0, .int .u16 a1_1, .int .u16 a1_2, .int .u16 a1_3, .slice A1_4 l1_4.length c1_4, .slice A1_5 l1_5.length c1_5] 26 (0, 0)) (by (with_reducible repeat (first | refine blk_drewN ?_ _ | refine blk_drew ?_ | refine blk_alloc ?_ _)); exact BK546.out) hb)
                  have n5_ := Aside0.mk (blk_below (g := gb547) (o := .cells #[.int .u8 a2_0, .int .u16 a2_1, .int .u16 a2_2, .int .u16 a2_3, .slice A2_4 l2_4.length c2_4, .slice A2_5 l2_5.length c2_5] 26 (0, 0)) (by (with_reducible repeat (first | refine blk_drewN ?_ _ | refine blk_drew ?_ | refine blk_alloc ?_ _)); exact BK547.out) hb)
                  have n6_ := Aside0.mk (blk_below (g := gb562) (o := .cells #[.int .u8 t551, .int .u16 t552, .int .u16 t553, .int .u16 t554, .slice Ao29 t555.length co29, .slice Ao30 t558.length co30] 26 (0, 0)) (by (with_reducible repeat (first | refine blk_drewN ?_ _ | refine blk_drew ?_ | refine blk_alloc ?_ _)); exact BK562.out) hb)
                  have n7_ := Aside0.mk (below_step (by repeat (first | (with_reducible first | exact HB.out | apply below_alloc | apply pw_below_drewN | apply below_drew1 | refine below_set ?_ GE546.out | refine below_set ?_ GE547.out | refine below_set ?_ GE562.out) | exact HB.out)) hb)
                  clear HO_563004
                  clear HO_563005
                  clear HO571
                  clear HO575
                  clear BK546
                  clear BK547
                  clear BK562
                  clear HB
                  have HO_563004 := n0_
                  have HO_563005 := n1_
                  have HO571 := n2_
                  have HO575 := n3_
                  have BK546 := n4_
                  have BK547 := n5_
                  have BK562 := n6_
                  have HB := n7_
                  clear n0_ n1_ n2_ n3_ n4_ n5_ n6_ n7_
                  (try clear hb)
                  (try clear hb2)
                  (try clear hk)
                  (try clear hi)
                  refine hK.out _ _ ⟨(blk_cell BK546.out 0).trans rfl, (blk_cell BK546.out 1).trans rfl, (blk_cell BK546.out 2).trans rfl, (blk_cell BK546.out 3).trans rfl, (blk_cell BK546.out 4).trans rfl, (blk_cell BK546.out 5).trans rfl, (blk_cell BK547.out 0).trans rfl, (blk_cell BK547.out 1).trans rfl, (blk_cell BK547.out 2).trans rfl, (blk_cell BK547.out 3).trans rfl, (blk_cell BK547.out 4).trans rfl, (blk_cell BK547.out 5).trans rfl⟩ (fun hHeld => ?_)
                  clear hK K
                  refine norm_ (a' := ?_) ?_ ?_
                  rotate_left
                  · show Act.put _ (some 82) _ = _
                    simp only [Act.put, List.setIfInBounds_toArray, List.set_cons_zero, List.set_cons_succ, i64_w, i32_w]
                    rfl
                  refine pure_ (i := 13) (N := some 83) (v := ?_) (a' := ?_) #[true, true, true, true, true, true, true, true, true, true, true, true, true, true, false, false, false, false, false] rfl rfl (any_of HT_.out (by kernel_rfl)) (fun _ _ _ h => h) (Or.inl ⟨by rfl, ?_⟩) ?_ ?_
                  rotate_left
                  · intro w'
                    go_simp
                    with_reducible rfl
                  rotate_left
                  · simp only [Act.put, List.setIfInBounds_toArray, List.set_cons_zero, List.set_cons_succ, i64_w, i32_w]
                    rfl
                  refine pure_ (i := 14) (N := some 84) (v := ?_) (a' := ?_) #[true, true, true, true, true, true, true, true, true, true, true, true, true, true, true, false, false, false, false] rfl rfl (any_of HT_.out (by kernel_rfl)) (fun _ _ _ h => h) (Or.inl ⟨by rfl, ?_⟩) ?_ ?_
                  rotate_left
                  · intro w'
                    go_simp
                    with_reducible rfl
                  rotate_left
                  · simp only [Act.put, List.setIfInBounds_toArray, List.set_cons_zero, List.set_cons_succ, i64_w, i32_w]
                    rfl
                  refine pure_ (i := 15) (N := some 85) (v := ?_) (a' := ?_) #[true, true, true, true, true, true, true, true, true, true, true, true, true, true, true, true, false, false, false] rfl rfl (any_of HT_.out (by kernel_rfl)) (fun _ _ _ h => h) (Or.inl ⟨by rfl, ?_⟩) ?_ ?_
                  rotate_left
                  · intro w'
                    go_simp
                    with_reducible rfl
                  rotate_left
                  · simp only [Act.put, List.setIfInBounds_toArray, List.set_cons_zero, List.set_cons_succ, i64_w, i32_w]
                    rfl
                  refine one_ (i := 16) (N := some 86) #[true, true, true, true, true, true, true, true, true, true, true, true, true, true, true, true, true, false, false] rfl rfl (one_of HT_.out (by kernel_rfl)) (by decide) (fun K hK => ?_)
                  refine goes_ Try.func10 (by kernel_rfl) rfl #[] (by rfl) rfl rfl (by (try simp only [List.map_toArray, List.map_cons, List.map_nil]); first | done | rfl | (simp only [List.length_drop, List.length_take]; rfl)) ?_
                  with_reducible refine (saucierlaw02_awake.calls  t579 _ A52.out).mono ?_
                  rintro e w64 ⟨rfl, hb⟩
                  refine ⟨_, rfl, ?_⟩
                  have n0_ := Aside0.mk (Kd.R_below (by (with_reducible repeat (first | apply Kd.R_alloc | apply Kd.R_drewN | apply Kd.R_drew)); exact HO_563004.out) hb)
                  have n1_ := Aside0.mk (Kd.R_below (by (with_reducible repeat (first | apply Kd.R_alloc | apply Kd.R_drewN | apply Kd.R_drew)); exact HO_563005.out) hb)
                  have n2_ := Aside0.mk (Kd.R_below (by (with_reducible repeat (first | apply Kd.R_alloc | apply Kd.R_drewN | apply Kd.R_drew)); exact HO571.out) hb)
                  have n3_ := Aside0.mk (Kd.R_below (by (with_reducible repeat (first | apply Kd.R_alloc | apply Kd.R_drewN | apply Kd.R_drew)); exact HO575.out) hb)
                  have n4_ := Aside0.mk (blk_below (g := gb546) (o := .cells #[.int .u8 a1_0, .int .u16 a1_1, .int .u16 a1_2, .int .u16 a1_3, .slice A1_4 l1_4.length c1_4, .slice A1_5 l1_5.length c1_5] 26 (0, 0)) (by (with_reducible repeat (first | refine blk_drewN ?_ _ | refine blk_drew ?_ | refine blk_alloc ?_ _)); exact BK546.out) hb)
                  have n5_ := Aside0.mk (blk_below (g := gb547) (o := .cells #[.int .u8 a2_0, .int .u16 a2_1, .int .u16 a2_2, .int .u16 a2_3, .slice A2_4 l2_4.length c2_4, .slice A2_5 l2_5.length c2_5] 26 (0, 0)) (by (with_reducible repeat (first | refine blk_drewN ?_ _ | refine blk_drew ?_ | refine blk_alloc ?_ _)); exact BK547.out) hb)
                  have n6_ := Aside0.mk (blk_below (g := gb562) (o := .cells #[.int .u8 t551, .int .u16 t552, .int .u16 t553, .int .u16 t554, .slice Ao29 t555.length co29, .slice Ao30 t558.length co30] 26 (0, 0)) (by (with_reducible repeat (first | refine blk_drewN ?_ _ | refine blk_drew ?_ | refine blk_alloc ?_ _)); exact BK562.out) hb)
                  have n7_ := Aside0.mk (below_step (by repeat (first | (with_reducible first | exact HB.out | apply below_alloc | apply pw_below_drewN | apply below_drew1 | refine below_set ?_ GE546.out | refine below_set ?_ GE547.out | refine below_set ?_ GE562.out) | exact HB.out)) hb)
                  clear HO_563004
                  clear HO_563005
                  clear HO571
                  clear HO575
                  clear BK546
                  clear BK547
                  clear BK562
                  clear HB
                  have HO_563004 := n0_
                  have HO_563005 := n1_
                  have HO571 := n2_
                  have HO575 := n3_
                  have BK546 := n4_
                  have BK547 := n5_
                  have BK562 := n6_
                  have HB := n7_
                  clear n0_ n1_ n2_ n3_ n4_ n5_ n6_ n7_
                  (try clear hb)
                  (try clear hb2)
                  (try clear hk)
                  (try clear hi)
                  refine hK.out _ _ ⟨(blk_cell BK546.out 0).trans rfl, (blk_cell BK546.out 1).trans rfl, (blk_cell BK546.out 2).trans rfl, (blk_cell BK546.out 3).trans rfl, (blk_cell BK546.out 4).trans rfl, (blk_cell BK546.out 5).trans rfl, (blk_cell BK547.out 0).trans rfl, (blk_cell BK547.out 1).trans rfl, (blk_cell BK547.out 2).trans rfl, (blk_cell BK547.out 3).trans rfl, (blk_cell BK547.out 4).trans rfl, (blk_cell BK547.out 5).trans rfl⟩ (fun hHeld => ?_)
                  clear hK K
                  refine norm_ (a' := ?_) ?_ ?_
                  rotate_left
                  · show Act.put _ (some 86) _ = _
                    simp only [Act.put, List.setIfInBounds_toArray, List.set_cons_zero, List.set_cons_succ, i64_w, i32_w]
                    rfl
                  refine pure_ (i := 17) (N := some 87) (v := ?_) (a' := ?_) #[true, true, true, true, true, true, true, true, true, true, true, true, true, true, true, true, true, true, false] rfl rfl (any_of HT_.out (by kernel_rfl)) (fun _ _ _ h => h) (Or.inl ⟨by rfl, ?_⟩) ?_ ?_
                  rotate_left
                  · intro w'
                    go_simp
                    with_reducible rfl
                  rotate_left
                  · simp only [Act.put, List.setIfInBounds_toArray, List.set_cons_zero, List.set_cons_succ, i64_w, i32_w]
                    rfl
                  refine pure_ (i := 18) (N := some 6) (v := ?_) (a' := ?_) #[true, true, true, true, true, true, true, true, true, true, true, true, true, true, true, true, true, true, true] rfl rfl (any_of HT_.out (by kernel_rfl)) (fun _ _ _ h => h) (Or.inl ⟨by rfl, ?_⟩) ?_ ?_
                  rotate_left
                  · intro w'
                    go_simp
                    with_reducible rfl
                  rotate_left
                  · simp only [Act.put, List.setIfInBounds_toArray, List.set_cons_zero, List.set_cons_succ, i64_w, i32_w]
                    rfl
                  refine done_ (done_of HT_.out (by kernel_rfl)) ?_
                  try go_wp2
                  go_ret
                  exact ⟨by first | rfl | (simp [errW_none, errW_some] <;> rfl) | (simp [*, errW_none, errW_some] <;> rfl), by repeat (first | (with_reducible first | exact HB.out | apply below_alloc | apply pw_below_drewN | apply below_drew1 | refine below_set ?_ GE546.out | refine below_set ?_ GE547.out | refine below_set ?_ GE562.out) | exact HB.out)⟩
                · rw [if_neg c51] at H
                  have c51b0 : (t577 == t578) = false := by simpa using c51
                  (try (have c51b1 : decide (t577 = t578) = false := by simpa using c51))
                  (try (have c51b2 : (t577 == t578) = false := by simpa using c51))
                  (try (have c51b3 : ¬ (t577 = t578) := by simpa using c51))
                  clear c51
                  exact absurd H (by simp)
              · rw [if_neg c48] at H
                have c48b0 : (t576 == 0) = false := beq_eq_false_iff_ne.mpr c48
                have c48b1 : (t576 != 0) = true := bne_iff_ne.mpr c48
                replace H := Option.bind_eq_some_iff.mp H
                obtain ⟨t580, A650, H⟩ := H
                replace H : (some t580) = some r := H
                have A65 := Aside0.mk A650
                clear A650
                obtain rfl := Option.some.inj H
                have hnb66 := NB546_547.out
                have hnc66 := NB547_546.out
                have hnb67 := NB546_562.out
                have hnc67 := NB562_546.out
                have hcz68_0 : wc.cell? ⟨gb546, 0, none⟩ = some (.int .u8 a1_0) := (blk_cell BK546.out 0).trans rfl
                have hcz68_1 : wc.cell? ⟨gb546, 1, none⟩ = some (.int .u16 a1_1) := (blk_cell BK546.out 1).trans rfl
                have hcz68_2 : wc.cell? ⟨gb546, 2, none⟩ = some (.int .u16 a1_2) := (blk_cell BK546.out 2).trans rfl
                have hcz68_3 : wc.cell? ⟨gb546, 3, none⟩ = some (.int .u16 a1_3) := (blk_cell BK546.out 3).trans rfl
                have hcz68_4 : wc.cell? ⟨gb546, 4, none⟩ = some (.slice A1_4 l1_4.length c1_4) := (blk_cell BK546.out 4).trans rfl
                have hcz68_5 : wc.cell? ⟨gb546, 5, none⟩ = some (.slice A1_5 l1_5.length c1_5) := (blk_cell BK546.out 5).trans rfl
                have hfz68_0 := blk_frozen BK546.out 0
                have hfz68_1 := blk_frozen BK546.out 1
                have hfz68_2 := blk_frozen BK546.out 2
                have hfz68_3 := blk_frozen BK546.out 3
                have hfz68_4 := blk_frozen BK546.out 4
                have hfz68_5 := blk_frozen BK546.out 5
                try go_wp2_with (first | ((with_reducible refine gate_callee (f := 11) rfl ?_); refine goesL_ (some 62) rfl rfl Try.func11 (by kernel_rfl) rfl #[.agg #[.int .u8 a1_0, .int .u16 a1_1, .int .u16 a1_2, .int .u16 a1_3, .slice A1_4 l1_4.length c1_4, .slice A1_5 l1_5.length c1_5]] rfl (by (try simp only [List.map_toArray, List.map_cons, List.map_nil]); first | done | rfl | (simp only [List.length_drop, List.length_take]; rfl)) ?_; (with_reducible refine (ask_Bytes.calls kj22 a1_0 a1_1 a1_2 a1_3 _ _ l1_4 _ _ l1_5 t569 t572 _ ?side1 ?side2 ?side3 ?side4 A45.out).mono ?_); (case side1 => repeat (first | exact (Kd.C_below HR1_4.out HB.out) | (with_reducible refine Kd.C_alloc ?_ _) | (with_reducible refine Kd.C_drewN ?_ _) | (with_reducible refine Kd.C_drew ?_))); (case side2 => exact HC1_4.out); (case side3 => repeat (first | exact (Kd.C_below HR1_5.out HB.out) | (with_reducible refine Kd.C_alloc ?_ _) | (with_reducible refine Kd.C_drewN ?_ _) | (with_reducible refine Kd.C_drew ?_))); (case side4 => exact HC1_5.out); rintro e w69 ⟨v570, rfl, ho0, hb⟩; refine ⟨_, rfl, ?_⟩; have n0_ := Aside0.mk (Kd.R_below (by (with_reducible repeat (first | apply Kd.R_alloc | apply Kd.R_drewN | apply Kd.R_drew)); exact HO_563004.out) hb); have n1_ := Aside0.mk (Kd.R_below (by (with_reducible repeat (first | apply Kd.R_alloc | apply Kd.R_drewN | apply Kd.R_drew)); exact HO_563005.out) hb); have n2_ := Aside0.mk (Kd.R_lower ho0 (below_size (by repeat (first | (with_reducible first | exact HB.out | apply below_alloc | apply pw_below_drewN | apply below_drew1 | refine below_set ?_ GE546.out | refine below_set ?_ GE547.out | refine below_set ?_ GE562.out) | exact HB.out)))); have n3_ := Aside0.mk (blk_below (g := gb546) (o := .cells #[.int .u8 a1_0, .int .u16 a1_1, .int .u16 a1_2, .int .u16 a1_3, .slice A1_4 l1_4.length c1_4, .slice A1_5 l1_5.length c1_5] 26 (0, 0)) (by (with_reducible repeat (first | refine blk_drewN ?_ _ | refine blk_drew ?_ | refine blk_alloc ?_ _)); exact BK546.out) hb); have n4_ := Aside0.mk (blk_below (g := gb547) (o := .cells #[.int .u8 a2_0, .int .u16 a2_1, .int .u16 a2_2, .int .u16 a2_3, .slice A2_4 l2_4.length c2_4, .slice A2_5 l2_5.length c2_5] 26 (0, 0)) (by (with_reducible repeat (first | refine blk_drewN ?_ _ | refine blk_drew ?_ | refine blk_alloc ?_ _)); exact BK547.out) hb); have n5_ := Aside0.mk (blk_below (g := gb562) (o := .cells #[.int .u8 t551, .int .u16 t552, .int .u16 t553, .int .u16 t554, .slice Ao29 t555.length co29, .slice Ao30 t558.length co30] 26 (0, 0)) (by (with_reducible repeat (first | refine blk_drewN ?_ _ | refine blk_drew ?_ | refine blk_alloc ?_ _)); exact BK562.out) hb); have n6_ := Aside0.mk (below_step (by repeat (first | (with_reducible first | exact HB.out | apply below_alloc | apply pw_below_drewN | apply below_drew1 | refine below_set ?_ GE546.out | refine below_set ?_ GE547.out | refine below_set ?_ GE562.out) | exact HB.out)) hb); clear HO_563004; clear HO_563005; clear BK546; clear BK547; clear BK562; clear HB; have HO_563004 := n0_; have HO_563005 := n1_; have HO571 := n2_; have BK546 := n3_; have BK547 := n4_; have BK562 := n5_; have HB := n6_; clear n0_ n1_ n2_ n3_ n4_ n5_ n6_; (try clear hb); (try clear hb2); (try clear hk); (try clear hi); (try clear ho0); have hnb70 := NB547_562.out; have hnc70 := NB562_547.out; have hcz71_0 : w69.cell? ⟨gb547, 0, none⟩ = some (.int .u8 a2_0) := (blk_cell BK547.out 0).trans rfl; have hcz71_1 : w69.cell? ⟨gb547, 1, none⟩ = some (.int .u16 a2_1) := (blk_cell BK547.out 1).trans rfl; have hcz71_2 : w69.cell? ⟨gb547, 2, none⟩ = some (.int .u16 a2_2) := (blk_cell BK547.out 2).trans rfl; have hcz71_3 : w69.cell? ⟨gb547, 3, none⟩ = some (.int .u16 a2_3) := (blk_cell BK547.out 3).trans rfl; have hcz71_4 : w69.cell? ⟨gb547, 4, none⟩ = some (.slice A2_4 l2_4.length c2_4) := (blk_cell BK547.out 4).trans rfl; have hcz71_5 : w69.cell? ⟨gb547, 5, none⟩ = some (.slice A2_5 l2_5.length c2_5) := (blk_cell BK547.out 5).trans rfl; have hfz71_0 := blk_frozen BK547.out 0; have hfz71_1 := blk_frozen BK547.out 1; have hfz71_2 := blk_frozen BK547.out 2; have hfz71_3 := blk_frozen BK547.out 3; have hfz71_4 := blk_frozen BK547.out 4; have hfz71_5 := blk_frozen BK547.out 5) | ((with_reducible refine gate_callee (f := 11) rfl ?_); refine goesL_ (some 67) rfl rfl Try.func11 (by kernel_rfl) rfl #[.agg #[.int .u8 a2_0, .int .u16 a2_1, .int .u16 a2_2, .int .u16 a2_3, .slice A2_4 l2_4.length c2_4, .slice A2_5 l2_5.length c2_5]] rfl (by (try simp only [List.map_toArray, List.map_cons, List.map_nil]); first | done | rfl | (simp only [List.length_drop, List.length_take]; rfl)) ?_; (with_reducible refine (ask_Bytes.calls kj22 a2_0 a2_1 a2_2 a2_3 _ _ l2_4 _ _ l2_5 t573 t576 _ ?side1 ?side2 ?side3 ?side4 A46.out).mono ?_); (case side1 => repeat (first | exact (Kd.C_below HR2_4.out HB.out) | (with_reducible refine Kd.C_alloc ?_ _) | (with_reducible refine Kd.C_drewN ?_ _) | (with_reducible refine Kd.C_drew ?_))); (case side2 => exact HC2_4.out); (case side3 => repeat (first | exact (Kd.C_below HR2_5.out HB.out) | (with_reducible refine Kd.C_alloc ?_ _) | (with_reducible refine Kd.C_drewN ?_ _) | (with_reducible refine Kd.C_drew ?_))); (case side4 => exact HC2_5.out); rintro e w72 ⟨v574, rfl, ho0, hb⟩; refine ⟨_, rfl, ?_⟩; have n0_ := Aside0.mk (Kd.R_below (by (with_reducible repeat (first | apply Kd.R_alloc | apply Kd.R_drewN | apply Kd.R_drew)); exact HO_563004.out) hb); have n1_ := Aside0.mk (Kd.R_below (by (with_reducible repeat (first | apply Kd.R_alloc | apply Kd.R_drewN | apply Kd.R_drew)); exact HO_563005.out) hb); have n2_ := Aside0.mk (Kd.R_elder' (by (with_reducible repeat (first | apply Kd.R_alloc | apply Kd.R_drewN | apply Kd.R_drew)); exact HO571.out) (Kd.R_base ho0) hb); have n3_ := Aside0.mk (Kd.R_lower (Kd.R_new' ho0 (Kd.R_lt (by (with_reducible repeat (first | apply Kd.R_alloc | apply Kd.R_drewN | apply Kd.R_drew)); exact HO571.out))) (below_size (by repeat (first | (with_reducible first | exact HB.out | apply below_alloc | apply pw_below_drewN | apply below_drew1 | refine below_set ?_ GE546.out | refine below_set ?_ GE547.out | refine below_set ?_ GE562.out) | exact HB.out)))); have n4_ := Aside0.mk (blk_below (g := gb546) (o := .cells #[.int .u8 a1_0, .int .u16 a1_1, .int .u16 a1_2, .int .u16 a1_3, .slice A1_4 l1_4.length c1_4, .slice A1_5 l1_5.length c1_5] 26 (0, 0)) (by (with_reducible repeat (first | refine blk_drewN ?_ _ | refine blk_drew ?_ | refine blk_alloc ?_ _)); exact BK546.out) hb); have n5_ := Aside0.mk (blk_below (g := gb547) (o := .cells #[.int .u8 a2_0, .int .u16 a2_1, .int .u16 a2_2, .int .u16 a2_3, .slice A2_4 l2_4.length c2_4, .slice A2_5 l2_5.length c2_5] 26 (0, 0)) (by (with_reducible repeat (first | refine blk_drewN ?_ _ | refine blk_drew ?_ | refine blk_alloc ?_ _)); exact BK547.out) hb); have n6_ := Aside0.mk (blk_below (g := gb562) (o := .cells #[.int .u8 t551, .int .u16 t552, .int .u16 t553, .int .u16 t554, .slice Ao29 t555.length co29, .slice Ao30 t558.length co30] 26 (0, 0)) (by (with_reducible repeat (first | refine blk_drewN ?_ _ | refine blk_drew ?_ | refine blk_alloc ?_ _)); exact BK562.out) hb); have n7_ := Aside0.mk (below_step (by repeat (first | (with_reducible first | exact HB.out | apply below_alloc | apply pw_below_drewN | apply below_drew1 | refine below_set ?_ GE546.out | refine below_set ?_ GE547.out | refine below_set ?_ GE562.out) | exact HB.out)) hb); clear HO_563004; clear HO_563005; clear HO571; clear BK546; clear BK547; clear BK562; clear HB; have HO_563004 := n0_; have HO_563005 := n1_; have HO571 := n2_; have HO575 := n3_; have BK546 := n4_; have BK547 := n5_; have BK562 := n6_; have HB := n7_; clear n0_ n1_ n2_ n3_ n4_ n5_ n6_ n7_; (try clear hb); (try clear hb2); (try clear hk); (try clear hi); (try clear ho0)))
                have n0_ := Aside0.mk (Kd.R_drew HO_563004.out)
                have n1_ := Aside0.mk (Kd.R_drew HO_563005.out)
                have n2_ := Aside0.mk (Kd.R_drew HO571.out)
                have n3_ := Aside0.mk (Kd.R_drew HO575.out)
                have n4_ := Aside0.mk (blk_drew BK546.out)
                have n5_ := Aside0.mk (blk_drew BK547.out)
                have n6_ := Aside0.mk (blk_drew BK562.out)
                have n7_ := Aside0.mk (below_drew1 HB.out)
                clear HO_563004
                clear HO_563005
                clear HO571
                clear HO575
                clear BK546
                clear BK547
                clear BK562
                clear HB
                have HO_563004 := n0_
                have HO_563005 := n1_
                have HO571 := n2_
                have HO575 := n3_
                have BK546 := n4_
                have BK547 := n5_
                have BK562 := n6_
                have HB := n7_
                clear n0_ n1_ n2_ n3_ n4_ n5_ n6_ n7_
                refine start_ (n := 19) (S := fun w' => True) (ds := []) #[false, false, false, false, false, false, false, false, false, false, false, false, false, false, false, false, false, false, false] (by kernel_rfl) rfl rfl trivial (fun hHeld => ?_); refine with_tabW saucierlaw02_AskOne.tab10 saucierlaw02_AskOne.bits10 (fun HT_ HW_ => ?_)
                generalize w72.drew = w73 at HO_563004 HO_563005 HO571 HO575 BK546 BK547 BK562 HB hHeld ⊢
                refine pure_ (i := 0) (N := some 70) (v := ?_) (a' := ?_) #[true, false, false, false, false, false, false, false, false, false, false, false, false, false, false, false, false, false, false] rfl rfl (any_of HT_.out (by kernel_rfl)) (fun _ _ _ h => h) (Or.inl ⟨by rfl, ?_⟩) ?_ ?_
                rotate_left
                · intro w'
                  go_simp
                  with_reducible rfl
                rotate_left
                · simp only [Act.put, List.setIfInBounds_toArray, List.set_cons_zero, List.set_cons_succ, i64_w, i32_w]
                  rfl
                refine pure_ (i := 1) (N := some 71) (v := ?_) (a' := ?_) #[true, true, false, false, false, false, false, false, false, false, false, false, false, false, false, false, false, false, false] rfl rfl (any_of HT_.out (by kernel_rfl)) (fun _ _ _ h => h) (Or.inl ⟨by rfl, ?_⟩) ?_ ?_
                rotate_left
                · intro w'
                  go_simp
                  with_reducible rfl
                rotate_left
                · simp only [Act.put, List.setIfInBounds_toArray, List.set_cons_zero, List.set_cons_succ, i64_w, i32_w]
                  rfl
                refine pure_ (i := 2) (N := some 72) (v := ?_) (a' := ?_) #[true, true, true, false, false, false, false, false, false, false, false, false, false, false, false, false, false, false, false] rfl rfl (any_of HT_.out (by kernel_rfl)) (fun _ _ _ h => h) (Or.inl ⟨by rfl, ?_⟩) ?_ ?_
                rotate_left
                · intro w'
                  go_simp
                  with_reducible rfl
                rotate_left
                · simp only [Act.put, List.setIfInBounds_toArray, List.set_cons_zero, List.set_cons_succ, i64_w, i32_w]
                  rfl
                refine pure_ (i := 3) (N := some 73) (v := ?_) (a' := ?_) #[true, true, true, true, false, false, false, false, false, false, false, false, false, false, false, false, false, false, false] rfl rfl (any_of HT_.out (by kernel_rfl)) (fun _ _ _ h => h) (Or.inl ⟨by rfl, ?_⟩) ?_ ?_
                rotate_left
                · intro w'
                  go_simp
                  with_reducible rfl
                rotate_left
                · simp only [Act.put, List.setIfInBounds_toArray, List.set_cons_zero, List.set_cons_succ, i64_w, i32_w]
                  rfl
                refine pure_ (i := 4) (N := some 74) (v := ?_) (a' := ?_) #[true, true, true, true, true, false, false, false, false, false, false, false, false, false, false, false, false, false, false] rfl rfl (any_of HT_.out (by kernel_rfl)) (fun _ _ _ h => h) (Or.inl ⟨by rfl, ?_⟩) ?_ ?_
                rotate_left
                · intro w'
                  go_simp
                  with_reducible rfl
                rotate_left
                · simp only [Act.put, List.setIfInBounds_toArray, List.set_cons_zero, List.set_cons_succ, i64_w, i32_w]
                  rfl
                refine pure_ (i := 5) (N := some 75) (v := ?_) (a' := ?_) #[true, true, true, true, true, true, false, false, false, false, false, false, false, false, false, false, false, false, false] rfl rfl (any_of HT_.out (by kernel_rfl)) (fun _ _ _ h => h) (Or.inl ⟨by rfl, ?_⟩) ?_ ?_
                rotate_left
                · intro w'
                  go_simp
                  with_reducible rfl
                rotate_left
                · simp only [Act.put, List.setIfInBounds_toArray, List.set_cons_zero, List.set_cons_succ, i64_w, i32_w]
                  rfl
                refine pure_ (i := 6) (N := some 76) (v := ?_) (a' := ?_) #[true, true, true, true, true, true, true, false, false, false, false, false, false, false, false, false, false, false, false] rfl rfl (any_of HT_.out (by kernel_rfl)) (fun _ _ _ h => h) (Or.inl ⟨by rfl, ?_⟩) ?_ ?_
                rotate_left
                · intro w'
                  go_simp
                  with_reducible rfl
                rotate_left
                · simp only [Act.put, List.setIfInBounds_toArray, List.set_cons_zero, List.set_cons_succ, i64_w, i32_w]
                  rfl
                refine pure_ (i := 7) (N := some 77) (v := undef) (a' := ?_) #[true, true, true, true, true, true, true, true, false, false, false, false, false, false, false, false, false, false, false] rfl rfl (any_of HT_.out (by kernel_rfl)) (fun _ _ _ h => h) (Or.inr ⟨by rfl, rfl⟩) ?_ ?_
                rotate_left
                · simp only [Act.put, List.setIfInBounds_toArray, List.set_cons_zero, List.set_cons_succ, i64_w, i32_w]
                  rfl
                refine pure_ (i := 8) (N := some 78) (v := undef) (a' := ?_) #[true, true, true, true, true, true, true, true, true, false, false, false, false, false, false, false, false, false, false] rfl rfl (any_of HT_.out (by kernel_rfl)) (fun _ _ _ h => h) (Or.inr ⟨by rfl, rfl⟩) ?_ ?_
                rotate_left
                · simp only [Act.put, List.setIfInBounds_toArray, List.set_cons_zero, List.set_cons_succ, i64_w, i32_w]
                  rfl
                refine pure_ (i := 9) (N := some 79) (v := undef) (a' := ?_) #[true, true, true, true, true, true, true, true, true, true, false, false, false, false, false, false, false, false, false] rfl rfl (any_of HT_.out (by kernel_rfl)) (fun _ _ _ h => h) (Or.inr ⟨by rfl, rfl⟩) ?_ ?_
                rotate_left
                · simp only [Act.put, List.setIfInBounds_toArray, List.set_cons_zero, List.set_cons_succ, i64_w, i32_w]
                  rfl
                refine pure_ (i := 10) (N := some 80) (v := undef) (a' := ?_) #[true, true, true, true, true, true, true, true, true, true, true, false, false, false, false, false, false, false, false] rfl rfl (any_of HT_.out (by kernel_rfl)) (fun _ _ _ h => h) (Or.inr ⟨by rfl, rfl⟩) ?_ ?_
                rotate_left
                · simp only [Act.put, List.setIfInBounds_toArray, List.set_cons_zero, List.set_cons_succ, i64_w, i32_w]
                  rfl
                refine pure_ (i := 11) (N := some 81) (v := undef) (a' := ?_) #[true, true, true, true, true, true, true, true, true, true, true, true, false, false, false, false, false, false, false] rfl rfl (any_of HT_.out (by kernel_rfl)) (fun _ _ _ h => h) (Or.inr ⟨by rfl, rfl⟩) ?_ ?_
                rotate_left
                · simp only [Act.put, List.setIfInBounds_toArray, List.set_cons_zero, List.set_cons_succ, i64_w, i32_w]
                  rfl
                refine pure_ (i := 12) (N := some 82) (v := undef) (a' := ?_) #[true, true, true, true, true, true, true, true, true, true, true, true, true, false, false, false, false, false, false] rfl rfl (any_of HT_.out (by kernel_rfl)) (fun _ _ _ h => h) (Or.inr ⟨by rfl, rfl⟩) ?_ ?_
                rotate_left
                · simp only [Act.put, List.setIfInBounds_toArray, List.set_cons_zero, List.set_cons_succ, i64_w, i32_w]
                  rfl
                refine pure_ (i := 13) (N := some 83) (v := undef) (a' := ?_) #[true, true, true, true, true, true, true, true, true, true, true, true, true, true, false, false, false, false, false] rfl rfl (any_of HT_.out (by kernel_rfl)) (fun _ _ _ h => h) (Or.inr ⟨by rfl, rfl⟩) ?_ ?_
                rotate_left
                · simp only [Act.put, List.setIfInBounds_toArray, List.set_cons_zero, List.set_cons_succ, i64_w, i32_w]
                  rfl
                refine pure_ (i := 14) (N := some 84) (v := ?_) (a' := ?_) #[true, true, true, true, true, true, true, true, true, true, true, true, true, true, true, false, false, false, false] rfl rfl (any_of HT_.out (by kernel_rfl)) (fun _ _ _ h => h) (Or.inl ⟨by rfl, ?_⟩) ?_ ?_
                rotate_left
                · intro w'
                  go_simp
                  with_reducible rfl
                rotate_left
                · simp only [Act.put, List.setIfInBounds_toArray, List.set_cons_zero, List.set_cons_succ, i64_w, i32_w]
                  rfl
                refine pure_ (i := 15) (N := some 85) (v := ?_) (a' := ?_) #[true, true, true, true, true, true, true, true, true, true, true, true, true, true, true, true, false, false, false] rfl rfl (any_of HT_.out (by kernel_rfl)) (fun _ _ _ h => h) (Or.inl ⟨by rfl, ?_⟩) ?_ ?_
                rotate_left
                · intro w'
                  go_simp
                  with_reducible rfl
                rotate_left
                · simp only [Act.put, List.setIfInBounds_toArray, List.set_cons_zero, List.set_cons_succ, i64_w, i32_w]
                  rfl
                refine one_ (i := 16) (N := some 86) #[true, true, true, true, true, true, true, true, true, true, true, true, true, true, true, true, true, false, false] rfl rfl (one_of HT_.out (by kernel_rfl)) (by decide) (fun K hK => ?_)
                refine goes_ Try.func10 (by kernel_rfl) rfl #[] (by rfl) rfl rfl (by (try simp only [List.map_toArray, List.map_cons, List.map_nil]); first | done | rfl | (simp only [List.length_drop, List.length_take]; rfl)) ?_
                with_reducible refine (saucierlaw02_awake.calls  t580 _ A65.out).mono ?_
                rintro e w74 ⟨rfl, hb⟩
                refine ⟨_, rfl, ?_⟩
                have n0_ := Aside0.mk (Kd.R_below (by (with_reducible repeat (first | apply Kd.R_alloc | apply Kd.R_drewN | apply Kd.R_drew)); exact HO_563004.out) hb)
                have n1_ := Aside0.mk (Kd.R_below (by (with_reducible repeat (first | apply Kd.R_alloc | apply Kd.R_drewN | apply Kd.R_drew)); exact HO_563005.out) hb)
                have n2_ := Aside0.mk (Kd.R_below (by (with_reducible repeat (first | apply Kd.R_alloc | apply Kd.R_drewN | apply Kd.R_drew)); exact HO571.out) hb)
                have n3_ := Aside0.mk (Kd.R_below (by (with_reducible repeat (first | apply Kd.R_alloc | apply Kd.R_drewN | apply Kd.R_drew)); exact HO575.out) hb)
                have n4_ := Aside0.mk (blk_below (g := gb546) (o := .cells #[.int .u8 a1_0, .int .u16 a1_1, .int .u16 a1_2, .int .u16 a1_3, .slice A1_4 l1_4.length c1_4, .slice A1_5 l1_5.length c1_5] 26 (0, 0)) (by (with_reducible repeat (first | refine blk_drewN ?_ _ | refine blk_drew ?_ | refine blk_alloc ?_ _)); exact BK546.out) hb)
                have n5_ := Aside0.mk (blk_below (g := gb547) (o := .cells #[.int .u8 a2_0, .int .u16 a2_1, .int .u16 a2_2, .int .u16 a2_3, .slice A2_4 l2_4.length c2_4, .slice A2_5 l2_5.length c2_5] 26 (0, 0)) (by (with_reducible repeat (first | refine blk_drewN ?_ _ | refine blk_drew ?_ | refine blk_alloc ?_ _)); exact BK547.out) hb)
                have n6_ := Aside0.mk (blk_below (g := gb562) (o := .cells #[.int .u8 t551, .int .u16 t552, .int .u16 t553, .int .u16 t554, .slice Ao29 t555.length co29, .slice Ao30 t558.length co30] 26 (0, 0)) (by (with_reducible repeat (first | refine blk_drewN ?_ _ | refine blk_drew ?_ | refine blk_alloc ?_ _)); exact BK562.out) hb)
                have n7_ := Aside0.mk (below_step (by repeat (first | (with_reducible first | exact HB.out | apply below_alloc | apply pw_below_drewN | apply below_drew1 | refine below_set ?_ GE546.out | refine below_set ?_ GE547.out | refine below_set ?_ GE562.out) | exact HB.out)) hb)
                clear HO_563004
                clear HO_563005
                clear HO571
                clear HO575
                clear BK546
                clear BK547
                clear BK562
                clear HB
                have HO_563004 := n0_
                have HO_563005 := n1_
                have HO571 := n2_
                have HO575 := n3_
                have BK546 := n4_
                have BK547 := n5_
                have BK562 := n6_
                have HB := n7_
                clear n0_ n1_ n2_ n3_ n4_ n5_ n6_ n7_
                (try clear hb)
                (try clear hb2)
                (try clear hk)
                (try clear hi)
                refine hK.out _ _ trivial (fun hHeld => ?_)
                clear hK K
                refine norm_ (a' := ?_) ?_ ?_
                rotate_left
                · show Act.put _ (some 86) _ = _
                  simp only [Act.put, List.setIfInBounds_toArray, List.set_cons_zero, List.set_cons_succ, i64_w, i32_w]
                  rfl
                refine pure_ (i := 17) (N := some 87) (v := ?_) (a' := ?_) #[true, true, true, true, true, true, true, true, true, true, true, true, true, true, true, true, true, true, false] rfl rfl (any_of HT_.out (by kernel_rfl)) (fun _ _ _ h => h) (Or.inl ⟨by rfl, ?_⟩) ?_ ?_
                rotate_left
                · intro w'
                  go_simp
                  with_reducible rfl
                rotate_left
                · simp only [Act.put, List.setIfInBounds_toArray, List.set_cons_zero, List.set_cons_succ, i64_w, i32_w]
                  rfl
                refine pure_ (i := 18) (N := some 6) (v := ?_) (a' := ?_) #[true, true, true, true, true, true, true, true, true, true, true, true, true, true, true, true, true, true, true] rfl rfl (any_of HT_.out (by kernel_rfl)) (fun _ _ _ h => h) (Or.inl ⟨by rfl, ?_⟩) ?_ ?_
                rotate_left
                · intro w'
                  go_simp
                  with_reducible rfl
                rotate_left
                · simp only [Act.put, List.setIfInBounds_toArray, List.set_cons_zero, List.set_cons_succ, i64_w, i32_w]
                  rfl
                refine done_ (done_of HT_.out (by kernel_rfl)) ?_
                try go_wp2
                go_ret
                exact ⟨by first | rfl | (simp [errW_none, errW_some] <;> rfl) | (simp [*, errW_none, errW_some] <;> rfl), by repeat (first | (with_reducible first | exact HB.out | apply below_alloc | apply pw_below_drewN | apply below_drew1 | refine below_set ?_ GE546.out | refine below_set ?_ GE547.out | refine below_set ?_ GE562.out) | exact HB.out)⟩
            · rw [if_neg c47] at H
              have c47b0 : (t572 == 0) = false := beq_eq_false_iff_ne.mpr c47
              have c47b1 : (t572 != 0) = true := bne_iff_ne.mpr c47
              replace H := Option.bind_eq_some_iff.mp H
              obtain ⟨t581, A750, H⟩ := H
              replace H : (some t581) = some r := H
              have A75 := Aside0.mk A750
              clear A750
              obtain rfl := Option.some.inj H
              have hnb76 := NB546_547.out
              have hnc76 := NB547_546.out
              have hnb77 := NB546_562.out
              have hnc77 := NB562_546.out
              have hcz78_0 : wc.cell? ⟨gb546, 0, none⟩ = some (.int .u8 a1_0) := (blk_cell BK546.out 0).trans rfl
              have hcz78_1 : wc.cell? ⟨gb546, 1, none⟩ = some (.int .u16 a1_1) := (blk_cell BK546.out 1).trans rfl
              have hcz78_2 : wc.cell? ⟨gb546, 2, none⟩ = some (.int .u16 a1_2) := (blk_cell BK546.out 2).trans rfl
              have hcz78_3 : wc.cell? ⟨gb546, 3, none⟩ = some (.int .u16 a1_3) := (blk_cell BK546.out 3).trans rfl
              have hcz78_4 : wc.cell? ⟨gb546, 4, none⟩ = some (.slice A1_4 l1_4.length c1_4) := (blk_cell BK546.out 4).trans rfl
              have hcz78_5 : wc.cell? ⟨gb546, 5, none⟩ = some (.slice A1_5 l1_5.length c1_5) := (blk_cell BK546.out 5).trans rfl
              have hfz78_0 := blk_frozen BK546.out 0
              have hfz78_1 := blk_frozen BK546.out 1
              have hfz78_2 := blk_frozen BK546.out 2
              have hfz78_3 := blk_frozen BK546.out 3
              have hfz78_4 := blk_frozen BK546.out 4
              have hfz78_5 := blk_frozen BK546.out 5
              try go_wp2_with (first | ((with_reducible refine gate_callee (f := 11) rfl ?_); refine goesL_ (some 62) rfl rfl Try.func11 (by kernel_rfl) rfl #[.agg #[.int .u8 a1_0, .int .u16 a1_1, .int .u16 a1_2, .int .u16 a1_3, .slice A1_4 l1_4.length c1_4, .slice A1_5 l1_5.length c1_5]] rfl (by (try simp only [List.map_toArray, List.map_cons, List.map_nil]); first | done | rfl | (simp only [List.length_drop, List.length_take]; rfl)) ?_; (with_reducible refine (ask_Bytes.calls kj22 a1_0 a1_1 a1_2 a1_3 _ _ l1_4 _ _ l1_5 t569 t572 _ ?side1 ?side2 ?side3 ?side4 A45.out).mono ?_); (case side1 => repeat (first | exact (Kd.C_below HR1_4.out HB.out) | (with_reducible refine Kd.C_alloc ?_ _) | (with_reducible refine Kd.C_drewN ?_ _) | (with_reducible refine Kd.C_drew ?_))); (case side2 => exact HC1_4.out); (case side3 => repeat (first | exact (Kd.C_below HR1_5.out HB.out) | (with_reducible refine Kd.C_alloc ?_ _) | (with_reducible refine Kd.C_drewN ?_ _) | (with_reducible refine Kd.C_drew ?_))); (case side4 => exact HC1_5.out); rintro e w79 ⟨v570, rfl, ho0, hb⟩; refine ⟨_, rfl, ?_⟩; have n0_ := Aside0.mk (Kd.R_below (by (with_reducible repeat (first | apply Kd.R_alloc | apply Kd.R_drewN | apply Kd.R_drew)); exact HO_563004.out) hb); have n1_ := Aside0.mk (Kd.R_below (by (with_reducible repeat (first | apply Kd.R_alloc | apply Kd.R_drewN | apply Kd.R_drew)); exact HO_563005.out) hb); have n2_ := Aside0.mk (Kd.R_lower ho0 (below_size (by repeat (first | (with_reducible first | exact HB.out | apply below_alloc | apply pw_below_drewN | apply below_drew1 | refine below_set ?_ GE546.out | refine below_set ?_ GE547.out | refine below_set ?_ GE562.out) | exact HB.out)))); have n3_ := Aside0.mk (blk_below (g := gb546) (o := .cells #[.int .u8 a1_0, .int .u16 a1_1, .int .u16 a1_2, .int .u16 a1_3, .slice A1_4 l1_4.length c1_4, .slice A1_5 l1_5.length c1_5] 26 (0, 0)) (by (with_reducible repeat (first | refine blk_drewN ?_ _ | refine blk_drew ?_ | refine blk_alloc ?_ _)); exact BK546.out) hb); have n4_ := Aside0.mk (blk_below (g := gb547) (o := .cells #[.int .u8 a2_0, .int .u16 a2_1, .int .u16 a2_2, .int .u16 a2_3, .slice A2_4 l2_4.length c2_4, .slice A2_5 l2_5.length c2_5] 26 (0, 0)) (by (with_reducible repeat (first | refine blk_drewN ?_ _ | refine blk_drew ?_ | refine blk_alloc ?_ _)); exact BK547.out) hb); have n5_ := Aside0.mk (blk_below (g := gb562) (o := .cells #[.int .u8 t551, .int .u16 t552, .int .u16 t553, .int .u16 t554, .slice Ao29 t555.length co29, .slice Ao30 t558.length co30] 26 (0, 0)) (by (with_reducible repeat (first | refine blk_drewN ?_ _ | refine blk_drew ?_ | refine blk_alloc ?_ _)); exact BK562.out) hb); have n6_ := Aside0.mk (below_step (by repeat (first | (with_reducible first | exact HB.out | apply below_alloc | apply pw_below_drewN | apply below_drew1 | refine below_set ?_ GE546.out | refine below_set ?_ GE547.out | refine below_set ?_ GE562.out) | exact HB.out)) hb); clear HO_563004; clear HO_563005; clear BK546; clear BK547; clear BK562; clear HB; have HO_563004 := n0_; have HO_563005 := n1_; have HO571 := n2_; have BK546 := n3_; have BK547 := n4_; have BK562 := n5_; have HB := n6_; clear n0_ n1_ n2_ n3_ n4_ n5_ n6_; (try clear hb); (try clear hb2); (try clear hk); (try clear hi); (try clear ho0); have hnb80 := NB547_562.out; have hnc80 := NB562_547.out; have hcz81_0 : w79.cell? ⟨gb547, 0, none⟩ = some (.int .u8 a2_0) := (blk_cell BK547.out 0).trans rfl; have hcz81_1 : w79.cell? ⟨gb547, 1, none⟩ = some (.int .u16 a2_1) := (blk_cell BK547.out 1).trans rfl; have hcz81_2 : w79.cell? ⟨gb547, 2, none⟩ = some (.int .u16 a2_2) := (blk_cell BK547.out 2).trans rfl; have hcz81_3 : w79.cell? ⟨gb547, 3, none⟩ = some (.int .u16 a2_3) := (blk_cell BK547.out 3).trans rfl; have hcz81_4 : w79.cell? ⟨gb547, 4, none⟩ = some (.slice A2_4 l2_4.length c2_4) := (blk_cell BK547.out 4).trans rfl; have hcz81_5 : w79.cell? ⟨gb547, 5, none⟩ = some (.slice A2_5 l2_5.length c2_5) := (blk_cell BK547.out 5).trans rfl; have hfz81_0 := blk_frozen BK547.out 0; have hfz81_1 := blk_frozen BK547.out 1; have hfz81_2 := blk_frozen BK547.out 2; have hfz81_3 := blk_frozen BK547.out 3; have hfz81_4 := blk_frozen BK547.out 4; have hfz81_5 := blk_frozen BK547.out 5) | ((with_reducible refine gate_callee (f := 11) rfl ?_); refine goesL_ (some 67) rfl rfl Try.func11 (by kernel_rfl) rfl #[.agg #[.int .u8 a2_0, .int .u16 a2_1, .int .u16 a2_2, .int .u16 a2_3, .slice A2_4 l2_4.length c2_4, .slice A2_5 l2_5.length c2_5]] rfl (by (try simp only [List.map_toArray, List.map_cons, List.map_nil]); first | done | rfl | (simp only [List.length_drop, List.length_take]; rfl)) ?_; (with_reducible refine (ask_Bytes.calls kj22 a2_0 a2_1 a2_2 a2_3 _ _ l2_4 _ _ l2_5 t573 t576 _ ?side1 ?side2 ?side3 ?side4 A46.out).mono ?_); (case side1 => repeat (first | exact (Kd.C_below HR2_4.out HB.out) | (with_reducible refine Kd.C_alloc ?_ _) | (with_reducible refine Kd.C_drewN ?_ _) | (with_reducible refine Kd.C_drew ?_))); (case side2 => exact HC2_4.out); (case side3 => repeat (first | exact (Kd.C_below HR2_5.out HB.out) | (with_reducible refine Kd.C_alloc ?_ _) | (with_reducible refine Kd.C_drewN ?_ _) | (with_reducible refine Kd.C_drew ?_))); (case side4 => exact HC2_5.out); rintro e w82 ⟨v574, rfl, ho0, hb⟩; refine ⟨_, rfl, ?_⟩; have n0_ := Aside0.mk (Kd.R_below (by (with_reducible repeat (first | apply Kd.R_alloc | apply Kd.R_drewN | apply Kd.R_drew)); exact HO_563004.out) hb); have n1_ := Aside0.mk (Kd.R_below (by (with_reducible repeat (first | apply Kd.R_alloc | apply Kd.R_drewN | apply Kd.R_drew)); exact HO_563005.out) hb); have n2_ := Aside0.mk (Kd.R_elder' (by (with_reducible repeat (first | apply Kd.R_alloc | apply Kd.R_drewN | apply Kd.R_drew)); exact HO571.out) (Kd.R_base ho0) hb); have n3_ := Aside0.mk (Kd.R_lower (Kd.R_new' ho0 (Kd.R_lt (by (with_reducible repeat (first | apply Kd.R_alloc | apply Kd.R_drewN | apply Kd.R_drew)); exact HO571.out))) (below_size (by repeat (first | (with_reducible first | exact HB.out | apply below_alloc | apply pw_below_drewN | apply below_drew1 | refine below_set ?_ GE546.out | refine below_set ?_ GE547.out | refine below_set ?_ GE562.out) | exact HB.out)))); have n4_ := Aside0.mk (blk_below (g := gb546) (o := .cells #[.int .u8 a1_0, .int .u16 a1_1, .int .u16 a1_2, .int .u16 a1_3, .slice A1_4 l1_4.length c1_4, .slice A1_5 l1_5.length c1_5] 26 (0, 0)) (by (with_reducible repeat (first | refine blk_drewN ?_ _ | refine blk_drew ?_ | refine blk_alloc ?_ _)); exact BK546.out) hb); have n5_ := Aside0.mk (blk_below (g := gb547) (o := .cells #[.int .u8 a2_0, .int .u16 a2_1, .int .u16 a2_2, .int .u16 a2_3, .slice A2_4 l2_4.length c2_4, .slice A2_5 l2_5.length c2_5] 26 (0, 0)) (by (with_reducible repeat (first | refine blk_drewN ?_ _ | refine blk_drew ?_ | refine blk_alloc ?_ _)); exact BK547.out) hb); have n6_ := Aside0.mk (blk_below (g := gb562) (o := .cells #[.int .u8 t551, .int .u16 t552, .int .u16 t553, .int .u16 t554, .slice Ao29 t555.length co29, .slice Ao30 t558.length co30] 26 (0, 0)) (by (with_reducible repeat (first | refine blk_drewN ?_ _ | refine blk_drew ?_ | refine blk_alloc ?_ _)); exact BK562.out) hb); have n7_ := Aside0.mk (below_step (by repeat (first | (with_reducible first | exact HB.out | apply below_alloc | apply pw_below_drewN | apply below_drew1 | refine below_set ?_ GE546.out | refine below_set ?_ GE547.out | refine below_set ?_ GE562.out) | exact HB.out)) hb); clear HO_563004; clear HO_563005; clear HO571; clear BK546; clear BK547; clear BK562; clear HB; have HO_563004 := n0_; have HO_563005 := n1_; have HO571 := n2_; have HO575 := n3_; have BK546 := n4_; have BK547 := n5_; have BK562 := n6_; have HB := n7_; clear n0_ n1_ n2_ n3_ n4_ n5_ n6_ n7_; (try clear hb); (try clear hb2); (try clear hk); (try clear hi); (try clear ho0)))
              have n0_ := Aside0.mk (Kd.R_drew HO_563004.out)
              have n1_ := Aside0.mk (Kd.R_drew HO_563005.out)
              have n2_ := Aside0.mk (Kd.R_drew HO571.out)
              have n3_ := Aside0.mk (Kd.R_drew HO575.out)
              have n4_ := Aside0.mk (blk_drew BK546.out)
              have n5_ := Aside0.mk (blk_drew BK547.out)
              have n6_ := Aside0.mk (blk_drew BK562.out)
              have n7_ := Aside0.mk (below_drew1 HB.out)
              clear HO_563004
              clear HO_563005
              clear HO571
              clear HO575
              clear BK546
              clear BK547
              clear BK562
              clear HB
              have HO_563004 := n0_
              have HO_563005 := n1_
              have HO571 := n2_
              have HO575 := n3_
              have BK546 := n4_
              have BK547 := n5_
              have BK562 := n6_
              have HB := n7_
              clear n0_ n1_ n2_ n3_ n4_ n5_ n6_ n7_
              refine start_ (n := 19) (S := fun w' => True) (ds := []) #[false, false, false, false, false, false, false, false, false, false, false, false, false, false, false, false, false, false, false] (by kernel_rfl) rfl rfl trivial (fun hHeld => ?_); refine with_tabW saucierlaw02_AskOne.tab10 saucierlaw02_AskOne.bits10 (fun HT_ HW_ => ?_)
              generalize w82.drew = w83 at HO_563004 HO_563005 HO571 HO575 BK546 BK547 BK562 HB hHeld ⊢
              refine pure_ (i := 0) (N := some 70) (v := ?_) (a' := ?_) #[true, false, false, false, false, false, false, false, false, false, false, false, false, false, false, false, false, false, false] rfl rfl (any_of HT_.out (by kernel_rfl)) (fun _ _ _ h => h) (Or.inl ⟨by rfl, ?_⟩) ?_ ?_
              rotate_left
              · intro w'
                go_simp
                with_reducible rfl
              rotate_left
              · simp only [Act.put, List.setIfInBounds_toArray, List.set_cons_zero, List.set_cons_succ, i64_w, i32_w]
                rfl
              refine pure_ (i := 1) (N := some 71) (v := ?_) (a' := ?_) #[true, true, false, false, false, false, false, false, false, false, false, false, false, false, false, false, false, false, false] rfl rfl (any_of HT_.out (by kernel_rfl)) (fun _ _ _ h => h) (Or.inl ⟨by rfl, ?_⟩) ?_ ?_
              rotate_left
              · intro w'
                go_simp
                with_reducible rfl
              rotate_left
              · simp only [Act.put, List.setIfInBounds_toArray, List.set_cons_zero, List.set_cons_succ, i64_w, i32_w]
                rfl
              refine pure_ (i := 2) (N := some 72) (v := ?_) (a' := ?_) #[true, true, true, false, false, false, false, false, false, false, false, false, false, false, false, false, false, false, false] rfl rfl (any_of HT_.out (by kernel_rfl)) (fun _ _ _ h => h) (Or.inl ⟨by rfl, ?_⟩) ?_ ?_
              rotate_left
              · intro w'
                go_simp
                with_reducible rfl
              rotate_left
              · simp only [Act.put, List.setIfInBounds_toArray, List.set_cons_zero, List.set_cons_succ, i64_w, i32_w]
                rfl
              refine pure_ (i := 3) (N := some 73) (v := undef) (a' := ?_) #[true, true, true, true, false, false, false, false, false, false, false, false, false, false, false, false, false, false, false] rfl rfl (any_of HT_.out (by kernel_rfl)) (fun _ _ _ h => h) (Or.inr ⟨by rfl, rfl⟩) ?_ ?_
              rotate_left
              · simp only [Act.put, List.setIfInBounds_toArray, List.set_cons_zero, List.set_cons_succ, i64_w, i32_w]
                rfl
              refine pure_ (i := 4) (N := some 74) (v := undef) (a' := ?_) #[true, true, true, true, true, false, false, false, false, false, false, false, false, false, false, false, false, false, false] rfl rfl (any_of HT_.out (by kernel_rfl)) (fun _ _ _ h => h) (Or.inr ⟨by rfl, rfl⟩) ?_ ?_
              rotate_left
              · simp only [Act.put, List.setIfInBounds_toArray, List.set_cons_zero, List.set_cons_succ, i64_w, i32_w]
                rfl
              refine pure_ (i := 5) (N := some 75) (v := ?_) (a' := ?_) #[true, true, true, true, true, true, false, false, false, false, false, false, false, false, false, false, false, false, false] rfl rfl (any_of HT_.out (by kernel_rfl)) (fun _ _ _ h => h) (Or.inl ⟨by rfl, ?_⟩) ?_ ?_
              rotate_left
              · intro w'
                go_simp
                with_reducible rfl
              rotate_left
              · simp only [Act.put, List.setIfInBounds_toArray, List.set_cons_zero, List.set_cons_succ, i64_w, i32_w]
                rfl
              refine pure_ (i := 6) (N := some 76) (v := ?_) (a' := ?_) #[true, true, true, true, true, true, true, false, false, false, false, false, false, false, false, false, false, false, false] rfl rfl (any_of HT_.out (by kernel_rfl)) (fun _ _ _ h => h) (Or.inl ⟨by rfl, ?_⟩) ?_ ?_
              rotate_left
              · intro w'
                go_simp
                with_reducible rfl
              rotate_left
              · simp only [Act.put, List.setIfInBounds_toArray, List.set_cons_zero, List.set_cons_succ, i64_w, i32_w]
                rfl
              refine pure_ (i := 7) (N := some 77) (v := undef) (a' := ?_) #[true, true, true, true, true, true, true, true, false, false, false, false, false, false, false, false, false, false, false] rfl rfl (any_of HT_.out (by kernel_rfl)) (fun _ _ _ h => h) (Or.inr ⟨by rfl, rfl⟩) ?_ ?_
              rotate_left
              · simp only [Act.put, List.setIfInBounds_toArray, List.set_cons_zero, List.set_cons_succ, i64_w, i32_w]
                rfl
              refine pure_ (i := 8) (N := some 78) (v := undef) (a' := ?_) #[true, true, true, true, true, true, true, true, true, false, false, false, false, false, false, false, false, false, false] rfl rfl (any_of HT_.out (by kernel_rfl)) (fun _ _ _ h => h) (Or.inr ⟨by rfl, rfl⟩) ?_ ?_
              rotate_left
              · simp only [Act.put, List.setIfInBounds_toArray, List.set_cons_zero, List.set_cons_succ, i64_w, i32_w]
                rfl
              refine pure_ (i := 9) (N := some 79) (v := undef) (a' := ?_) #[true, true, true, true, true, true, true, true, true, true, false, false, false, false, false, false, false, false, false] rfl rfl (any_of HT_.out (by kernel_rfl)) (fun _ _ _ h => h) (Or.inr ⟨by rfl, rfl⟩) ?_ ?_
              rotate_left
              · simp only [Act.put, List.setIfInBounds_toArray, List.set_cons_zero, List.set_cons_succ, i64_w, i32_w]
                rfl
              refine pure_ (i := 10) (N := some 80) (v := undef) (a' := ?_) #[true, true, true, true, true, true, true, true, true, true, true, false, false, false, false, false, false, false, false] rfl rfl (any_of HT_.out (by kernel_rfl)) (fun _ _ _ h => h) (Or.inr ⟨by rfl, rfl⟩) ?_ ?_
              rotate_left
              · simp only [Act.put, List.setIfInBounds_toArray, List.set_cons_zero, List.set_cons_succ, i64_w, i32_w]
                rfl
              refine pure_ (i := 11) (N := some 81) (v := undef) (a' := ?_) #[true, true, true, true, true, true, true, true, true, true, true, true, false, false, false, false, false, false, false] rfl rfl (any_of HT_.out (by kernel_rfl)) (fun _ _ _ h => h) (Or.inr ⟨by rfl, rfl⟩) ?_ ?_
              rotate_left
              · simp only [Act.put, List.setIfInBounds_toArray, List.set_cons_zero, List.set_cons_succ, i64_w, i32_w]
                rfl
              refine pure_ (i := 12) (N := some 82) (v := undef) (a' := ?_) #[true, true, true, true, true, true, true, true, true, true, true, true, true, false, false, false, false, false, false] rfl rfl (any_of HT_.out (by kernel_rfl)) (fun _ _ _ h => h) (Or.inr ⟨by rfl, rfl⟩) ?_ ?_
              rotate_left
              · simp only [Act.put, List.setIfInBounds_toArray, List.set_cons_zero, List.set_cons_succ, i64_w, i32_w]
                rfl
              refine pure_ (i := 13) (N := some 83) (v := undef) (a' := ?_) #[true, true, true, true, true, true, true, true, true, true, true, true, true, true, false, false, false, false, false] rfl rfl (any_of HT_.out (by kernel_rfl)) (fun _ _ _ h => h) (Or.inr ⟨by rfl, rfl⟩) ?_ ?_
              rotate_left
              · simp only [Act.put, List.setIfInBounds_toArray, List.set_cons_zero, List.set_cons_succ, i64_w, i32_w]
                rfl
              refine pure_ (i := 14) (N := some 84) (v := ?_) (a' := ?_) #[true, true, true, true, true, true, true, true, true, true, true, true, true, true, true, false, false, false, false] rfl rfl (any_of HT_.out (by kernel_rfl)) (fun _ _ _ h => h) (Or.inl ⟨by rfl, ?_⟩) ?_ ?_
              rotate_left
              · intro w'
                go_simp
                with_reducible rfl
              rotate_left
              · simp only [Act.put, List.setIfInBounds_toArray, List.set_cons_zero, List.set_cons_succ, i64_w, i32_w]
                rfl
              refine pure_ (i := 15) (N := some 85) (v := ?_) (a' := ?_) #[true, true, true, true, true, true, true, true, true, true, true, true, true, true, true, true, false, false, false] rfl rfl (any_of HT_.out (by kernel_rfl)) (fun _ _ _ h => h) (Or.inl ⟨by rfl, ?_⟩) ?_ ?_
              rotate_left
              · intro w'
                go_simp
                with_reducible rfl
              rotate_left
              · simp only [Act.put, List.setIfInBounds_toArray, List.set_cons_zero, List.set_cons_succ, i64_w, i32_w]
                rfl
              refine one_ (i := 16) (N := some 86) #[true, true, true, true, true, true, true, true, true, true, true, true, true, true, true, true, true, false, false] rfl rfl (one_of HT_.out (by kernel_rfl)) (by decide) (fun K hK => ?_)
              refine goes_ Try.func10 (by kernel_rfl) rfl #[] (by rfl) rfl rfl (by (try simp only [List.map_toArray, List.map_cons, List.map_nil]); first | done | rfl | (simp only [List.length_drop, List.length_take]; rfl)) ?_
              with_reducible refine (saucierlaw02_awake.calls  t581 _ A75.out).mono ?_
              rintro e w84 ⟨rfl, hb⟩
              refine ⟨_, rfl, ?_⟩
              have n0_ := Aside0.mk (Kd.R_below (by (with_reducible repeat (first | apply Kd.R_alloc | apply Kd.R_drewN | apply Kd.R_drew)); exact HO_563004.out) hb)
              have n1_ := Aside0.mk (Kd.R_below (by (with_reducible repeat (first | apply Kd.R_alloc | apply Kd.R_drewN | apply Kd.R_drew)); exact HO_563005.out) hb)
              have n2_ := Aside0.mk (Kd.R_below (by (with_reducible repeat (first | apply Kd.R_alloc | apply Kd.R_drewN | apply Kd.R_drew)); exact HO571.out) hb)
              have n3_ := Aside0.mk (Kd.R_below (by (with_reducible repeat (first | apply Kd.R_alloc | apply Kd.R_drewN | apply Kd.R_drew)); exact HO575.out) hb)
              have n4_ := Aside0.mk (blk_below (g := gb546) (o := .cells #[.int .u8 a1_0, .int .u16 a1_1, .int .u16 a1_2, .int .u16 a1_3, .slice A1_4 l1_4.length c1_4, .slice A1_5 l1_5.length c1_5] 26 (0, 0)) (by (with_reducible repeat (first | refine blk_drewN ?_ _ | refine blk_drew ?_ | refine blk_alloc ?_ _)); exact BK546.out) hb)
              have n5_ := Aside0.mk (blk_below (g := gb547) (o := .cells #[.int .u8 a2_0, .int .u16 a2_1, .int .u16 a2_2, .int .u16 a2_3, .slice A2_4 l2_4.length c2_4, .slice A2_5 l2_5.length c2_5] 26 (0, 0)) (by (with_reducible repeat (first | refine blk_drewN ?_ _ | refine blk_drew ?_ | refine blk_alloc ?_ _)); exact BK547.out) hb)
              have n6_ := Aside0.mk (blk_below (g := gb562) (o := .cells #[.int .u8 t551, .int .u16 t552, .int .u16 t553, .int .u16 t554, .slice Ao29 t555.length co29, .slice Ao30 t558.length co30] 26 (0, 0)) (by (with_reducible repeat (first | refine blk_drewN ?_ _ | refine blk_drew ?_ | refine blk_alloc ?_ _)); exact BK562.out) hb)
              have n7_ := Aside0.mk (below_step (by repeat (first | (with_reducible first | exact HB.out | apply below_alloc | apply pw_below_drewN | apply below_drew1 | refine below_set ?_ GE546.out | refine below_set ?_ GE547.out | refine below_set ?_ GE562.out) | exact HB.out)) hb)
              clear HO_563004
              clear HO_563005
              clear HO571
              clear HO575
              clear BK546
              clear BK547
              clear BK562
              clear HB
              have HO_563004 := n0_
              have HO_563005 := n1_
              have HO571 := n2_
              have HO575 := n3_
              have BK546 := n4_
              have BK547 := n5_
              have BK562 := n6_
              have HB := n7_
              clear n0_ n1_ n2_ n3_ n4_ n5_ n6_ n7_
              (try clear hb)
              (try clear hb2)
              (try clear hk)
              (try clear hi)
              refine hK.out _ _ trivial (fun hHeld => ?_)
              clear hK K
              refine norm_ (a' := ?_) ?_ ?_
              rotate_left
              · show Act.put _ (some 86) _ = _
                simp only [Act.put, List.setIfInBounds_toArray, List.set_cons_zero, List.set_cons_succ, i64_w, i32_w]
                rfl
              refine pure_ (i := 17) (N := some 87) (v := ?_) (a' := ?_) #[true, true, true, true, true, true, true, true, true, true, true, true, true, true, true, true, true, true, false] rfl rfl (any_of HT_.out (by kernel_rfl)) (fun _ _ _ h => h) (Or.inl ⟨by rfl, ?_⟩) ?_ ?_
              rotate_left
              · intro w'
                go_simp
                with_reducible rfl
              rotate_left
              · simp only [Act.put, List.setIfInBounds_toArray, List.set_cons_zero, List.set_cons_succ, i64_w, i32_w]
                rfl
              refine pure_ (i := 18) (N := some 6) (v := ?_) (a' := ?_) #[true, true, true, true, true, true, true, true, true, true, true, true, true, true, true, true, true, true, true] rfl rfl (any_of HT_.out (by kernel_rfl)) (fun _ _ _ h => h) (Or.inl ⟨by rfl, ?_⟩) ?_ ?_
              rotate_left
              · intro w'
                go_simp
                with_reducible rfl
              rotate_left
              · simp only [Act.put, List.setIfInBounds_toArray, List.set_cons_zero, List.set_cons_succ, i64_w, i32_w]
                rfl
              refine done_ (done_of HT_.out (by kernel_rfl)) ?_
              try go_wp2
              go_ret
              exact ⟨by first | rfl | (simp [errW_none, errW_some] <;> rfl) | (simp [*, errW_none, errW_some] <;> rfl), by repeat (first | (with_reducible first | exact HB.out | apply below_alloc | apply pw_below_drewN | apply below_drew1 | refine below_set ?_ GE546.out | refine below_set ?_ GE547.out | refine below_set ?_ GE562.out) | exact HB.out)⟩

/-- THE ONE PURE STATEMENT of saucierlaw02_AskOne. -/
def saucierlaw02_AskOne.Pure : Prop := ∀ (l0 : List Int) (a1_0 : Int) (a1_1 : Int) (a1_2 : Int) (a1_3 : Int) (l1_4 : List Int) (l1_5 : List Bool) (a2_0 : Int) (a2_1 : Int) (a2_2 : Int) (a2_3 : Int) (l2_4 : List Int) (l2_5 : List Bool), l0.length ≤ maxLen → l0.length * 1 ≤ 140737488351232 → (∀ x ∈ l0, (Lit.int .u8 x).wf = true) → wf26 (⟨a1_0, a1_1, a1_2, a1_3, l1_4, l1_5⟩ : S26) → wf26 (⟨a2_0, a2_1, a2_2, a2_3, l2_4, l2_5⟩ : S26) → ∃ k, saucierlaw02_AskOne.f k l0 a1_0 a1_1 a1_2 a1_3 l1_4 l1_5 a2_0 a2_1 a2_2 a2_3 l2_4 l2_5 = some true

end Go.Proofs.Ytiaibplflmjohaa.P
