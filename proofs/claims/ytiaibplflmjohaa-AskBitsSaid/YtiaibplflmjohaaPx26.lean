/- The machine side of the laws of this seat, printed by a program of this session (wip/tools/mkprint.py) out of the kit print and of contracts proved by hand; Lean checks all of it. -/
import Derived.Test.YtiaibplflmjohaaPx0
import Derived.Test.YtiaibplflmjohaaPx3
import Derived.Test.YtiaibplflmjohaaPx7
import Derived.Test.YtiaibplflmjohaaPx8
import Derived.Test.YtiaibplflmjohaaPx15
import Derived.Test.YtiaibplflmjohaaPx23
namespace Go.Proofs.Ytiaibplflmjohaa.P
open Go.RowKit Go.Proofs.YtiaibplflmjohaaW.PrintWords Go.Proofs.YtiaibplflmjohaaW.PrintLast Go.Proofs.YtiaibplflmjohaaW.PrintMore
attribute [local go_sem] max2_int min2_int max_two min_two max_three min_three max_four min_four   -- for this text's walks alone
set_option linter.unusedVariables false
set_option linter.unusedSimpArgs false

-- NOT PRINTED: function 6 (saucierlaw02_AskLooks)

/-! ### saucierlaw02_AskBits: function 7 -/
mutual
def saucierlaw02_AskBits.j0 : Nat → List Bool → List Int → Bool → Option (Bool)
  | 0, _, _, _ => none
  | k + 1, x0, x1, x16 => if x16 = true then ((saucierlaw02_awake.f).bind fun t633 => (some t633)) else ((ask_Pack.f k x0).bind fun t634 => ((ask_Unpack.f k t634).bind fun t637 => (if (t634.length : Int) = (wrap64 (Int.tdiv (wrap64 ((x0.length : Int) + 7)) 8)) then (if (t637.length : Int) = (wrap64 (8 * (t634.length : Int))) then (if 0 ≤ (x0.length : Int) then (if (x0.length : Int) ≤ (t637.length : Int) then ((saucierlow_Bits.f k (t637.take ((x0.length : Int) : Int).toNat) x0).bind fun t644 => (saucierlaw02_AskBits.j1 k x0 x1 t637 (!t644))) else (none)) else (none)) else (saucierlaw02_AskBits.j1 k x0 x1 t637 true)) else (saucierlaw02_AskBits.j1 k x0 x1 t637 true))))
def saucierlaw02_AskBits.j1 : Nat → List Bool → List Int → List Bool → Bool → Option (Bool)
  | 0, _, _, _, _ => none
  | k + 1, x0, x1, x6, x45 => if x45 = true then (none) else (if 0 ≤ (x0.length : Int) then (if (x0.length : Int) ≤ (x6.length : Int) then ((some (x6.drop ((x0.length : Int) : Int).toNat : List Bool)).bind fun y645 => (saucierlaw02_AskBits.l0 k x1 y645 (y645.length : Int) 0)) else (none)) else (none))
def saucierlaw02_AskBits.l0 : Nat → List Int → List Bool → Int → Int → Option (Bool)
  | 0, _, _, _, _ => none
  | k + 1, x1, x49, x50, x51 => if x51 < x50 then (if 0 ≤ x51 then (if x51 < (x49.length : Int) then (if rdOf false x49 x51 = true then (none) else (saucierlaw02_AskBits.l0 k x1 x49 x50 (wrap64 (x51 + 1)))) else (none)) else (none)) else ((ask_Unpack.f k x1).bind fun t650 => ((ask_Pack.f k t650).bind fun t653 => ((saucierlow_Same.f t653 x1).bind fun t656 => (if t656 = true then ((saucierlaw02_awake.f).bind fun t657 => (some t657)) else (none)))))
end
def saucierlaw02_AskBits.f (k : Nat) (l0 : List Bool) (l1 : List Int) : Option (Bool) := if (l0.length : Int) > 2100 then (saucierlaw02_AskBits.j0 k l0 l1 true) else (saucierlaw02_AskBits.j0 k l0 l1 (decide ((l1.length : Int) > 300)))
theorem saucierlaw02_AskBits.mono_l : ∀ k, (∀ y0 y1 y2, LeO (saucierlaw02_AskBits.j0 k y0 y1 y2) (saucierlaw02_AskBits.j0 (k + 1) y0 y1 y2)) ∧ (∀ y0 y1 y2 y3, LeO (saucierlaw02_AskBits.j1 k y0 y1 y2 y3) (saucierlaw02_AskBits.j1 (k + 1) y0 y1 y2 y3)) ∧ (∀ y0 y1 y2 y3, LeO (saucierlaw02_AskBits.l0 k y0 y1 y2 y3) (saucierlaw02_AskBits.l0 (k + 1) y0 y1 y2 y3))
  | 0 => ⟨fun _ _ _ r h => by simp [saucierlaw02_AskBits.j0] at h, fun _ _ _ _ r h => by simp [saucierlaw02_AskBits.j1] at h, fun _ _ _ _ r h => by simp [saucierlaw02_AskBits.l0] at h⟩
  | k + 1 => by
    obtain ⟨ih0, ih1, ih2⟩ := saucierlaw02_AskBits.mono_l k
    refine ⟨?_, ?_, ?_⟩
    · intro y0 y1 y2
      unfold saucierlaw02_AskBits.j0
      repeat' first
      | (with_reducible exact ih0 _ _ _)
      | (with_reducible exact ih1 _ _ _ _)
      | (with_reducible exact ih2 _ _ _ _)
      | (with_reducible exact ask_Pack.mono _ _)
      | (with_reducible exact ask_Unpack.mono _ _)
      | (with_reducible exact saucierlow_Bits.mono _ _ _)
      | (with_reducible exact LeO.refl _)
      | (with_reducible exact LeO.none _)
      | (with_reducible refine LeO.ite ?_ ?_)
      | (with_reducible refine LeO.bind ?_ (fun _ => ?_))
      | exact ih0 _ _ _
      | exact ih1 _ _ _ _
      | exact ih2 _ _ _ _
      | exact ask_Pack.mono _ _
      | exact ask_Unpack.mono _ _
      | exact saucierlow_Bits.mono _ _ _
      | exact LeO.none _
      | refine LeO.ite ?_ ?_
      | refine LeO.bind ?_ (fun _ => ?_)
    · intro y0 y1 y2 y3
      unfold saucierlaw02_AskBits.j1
      repeat' first
      | (with_reducible exact ih0 _ _ _)
      | (with_reducible exact ih1 _ _ _ _)
      | (with_reducible exact ih2 _ _ _ _)
      | (with_reducible exact ask_Pack.mono _ _)
      | (with_reducible exact ask_Unpack.mono _ _)
      | (with_reducible exact saucierlow_Bits.mono _ _ _)
      | (with_reducible exact LeO.refl _)
      | (with_reducible exact LeO.none _)
      | (with_reducible refine LeO.ite ?_ ?_)
      | (with_reducible refine LeO.bind ?_ (fun _ => ?_))
      | exact ih0 _ _ _
      | exact ih1 _ _ _ _
      | exact ih2 _ _ _ _
      | exact ask_Pack.mono _ _
      | exact ask_Unpack.mono _ _
      | exact saucierlow_Bits.mono _ _ _
      | exact LeO.none _
      | refine LeO.ite ?_ ?_
      | refine LeO.bind ?_ (fun _ => ?_)
    · intro y0 y1 y2 y3
      unfold saucierlaw02_AskBits.l0
      repeat' first
      | (with_reducible exact ih0 _ _ _)
      | (with_reducible exact ih1 _ _ _ _)
      | (with_reducible exact ih2 _ _ _ _)
      | (with_reducible exact ask_Pack.mono _ _)
      | (with_reducible exact ask_Unpack.mono _ _)
      | (with_reducible exact saucierlow_Bits.mono _ _ _)
      | (with_reducible exact LeO.refl _)
      | (with_reducible exact LeO.none _)
      | (with_reducible refine LeO.ite ?_ ?_)
      | (with_reducible refine LeO.bind ?_ (fun _ => ?_))
      | exact ih0 _ _ _
      | exact ih1 _ _ _ _
      | exact ih2 _ _ _ _
      | exact ask_Pack.mono _ _
      | exact ask_Unpack.mono _ _
      | exact saucierlow_Bits.mono _ _ _
      | exact LeO.none _
      | refine LeO.ite ?_ ?_
      | refine LeO.bind ?_ (fun _ => ?_)
theorem saucierlaw02_AskBits.mono : ∀ a0 a1 k, LeO (saucierlaw02_AskBits.f k a0 a1) (saucierlaw02_AskBits.f (k + 1) a0 a1) := by
  intro a0 a1 k
  obtain ⟨ih0, ih1, ih2⟩ := saucierlaw02_AskBits.mono_l k
  unfold saucierlaw02_AskBits.f
  repeat' first
      | (with_reducible exact ih0 _ _ _)
      | (with_reducible exact ih1 _ _ _ _)
      | (with_reducible exact ih2 _ _ _ _)
      | (with_reducible exact ask_Pack.mono _ _)
      | (with_reducible exact ask_Unpack.mono _ _)
      | (with_reducible exact saucierlow_Bits.mono _ _ _)
      | (with_reducible exact LeO.refl _)
      | (with_reducible exact LeO.none _)
      | (with_reducible refine LeO.ite ?_ ?_)
      | (with_reducible refine LeO.bind ?_ (fun _ => ?_))
      | exact ih0 _ _ _
      | exact ih1 _ _ _ _
      | exact ih2 _ _ _ _
      | exact ask_Pack.mono _ _
      | exact ask_Unpack.mono _ _
      | exact saucierlow_Bits.mono _ _ _
      | exact LeO.none _
      | refine LeO.ite ?_ ?_
      | refine LeO.bind ?_ (fun _ => ?_)
set_option maxHeartbeats 8000000 in
set_option maxRecDepth 100000 in
theorem saucierlaw02_AskBits.calls (k : Nat) (A0 : Option Addr) (c0 : Nat) (l0 : List Bool) (A1 : Option Addr) (c1 : Nat) (l1 : List Int) (r : Bool) (w : World) (hr0 : Kd.C Kd.bool w A0 l0.length l0) (hc0 : l0.length ≤ c0) (hr1 : Kd.C (Kd.int .u8) w A1 l1.length l1) (hc1 : l1.length ≤ c1) (h : saucierlaw02_AskBits.f k l0 l1 = some r) :
    Calls Try.prog 7 #[.slice A0 l0.length c0, .slice A1 l1.length c1] w fun e w' => e = .returned (.bool r) ∧ Below w.heap.size w w' := by
  have HR0 := Aside0.mk hr0
  have HC0 := Aside0.mk hc0
  clear hr0 hc0
  have HR1 := Aside0.mk hr1
  have HC1 := Aside0.mk hc1
  clear hr1 hc1
  have HB := Aside0.mk (Below.refl w.heap.size w)
  have H : (if (l0.length : Int) > 2100 then (saucierlaw02_AskBits.j0 k l0 l1 true) else (saucierlaw02_AskBits.j0 k l0 l1 (decide ((l1.length : Int) > 300)))) = some r := h
  clear h
  have HC3 := Aside0.mk H
  clear H
  go_enter Try.func7, Try.ntmps7
  go_upto_region 1 with (fail)
  go_cut [16] (fun v16 wc => ∃ (kq : Nat) (x16_2 : Bool), v16 = .bool x16_2 ∧ Aside0 (saucierlaw02_AskBits.j0 kq l0 l1 x16_2 = some r) ∧ Aside0 (kq ≤ k) ∧ Aside0 (Below w.heap.size w wc))
  case first =>
    have H := HC3.out
    clear HC3
    by_cases c4 : (l0.length : Int) > 2100
    · rw [if_pos c4] at H
      have c4b0 : decide (2100 < (l0.length : Int)) = true := decide_eq_true c4
      have c4b1 : decide (2100 < l0.length) = true := decide_eq_true (by omega)
      clear c4
      (first | rw [c4b0] | (simp only [i64_w, i32_w]; rw [c4b0]) | skip)
      have H' := Aside0.mk H
      clear H
      go_wp2
      go_meet
      case rel => exact ⟨_, (true), (by first | rfl | (simp; done) | (simp [*]; done)), H', ⟨by first | omega | exact Nat.le_refl _⟩, ⟨by repeat (first | (with_reducible first | exact HB.out | apply below_alloc | apply pw_below_drewN | apply below_drew1) | exact HB.out)⟩⟩
    · rw [if_neg c4] at H
      have c4b0 : decide (2100 < (l0.length : Int)) = false := decide_eq_false c4
      have c4b1 : decide (2100 < l0.length) = false := decide_eq_false (by omega)
      clear c4
      (first | rw [c4b0] | (simp only [i64_w, i32_w]; rw [c4b0]) | skip)
      have H' := Aside0.mk H
      clear H
      go_wp2
      go_meet
      case rel => exact ⟨_, (decide ((l1.length : Int) > 300)), (by first | rfl | (simp; done) | (simp [*]; done)), H', ⟨by first | omega | exact Nat.le_refl _⟩, ⟨by repeat (first | (with_reducible first | exact HB.out | apply below_alloc | apply pw_below_drewN | apply below_drew1) | exact HB.out)⟩⟩
  case rest =>
    clear HC3
    try clear c1
    try clear p2
    try clear c4
    try clear c4b0
    try clear c4b1
    obtain ⟨kq, x16_2, rfl, HA, HJ2, HB⟩ := hcut
    cases kq with
    | zero => exact absurd HA.out (by simp [saucierlaw02_AskBits.j0])
    | succ kj2 =>
      have H := HA.out
      clear HA
      simp only [saucierlaw02_AskBits.j0] at H
      by_cases c5 : x16_2 = true
      · subst c5
        have H1 : ((saucierlaw02_awake.f).bind fun t633 => (some t633)) = some r := by rw [if_pos rfl] at H; exact H
        clear H
        have H := H1
        clear H1
        replace H := Option.bind_eq_some_iff.mp H
        obtain ⟨t633, A60, H⟩ := H
        replace H : (some t633) = some r := H
        have A6 := Aside0.mk A60
        clear A60
        obtain rfl := Option.some.inj H
        go_wp2_with (first | ((with_reducible refine gate_callee (f := 10) rfl ?_); refine goesL_ (some 17) rfl rfl Try.func10 (by kernel_rfl) rfl #[] rfl (by (try simp only [List.map_toArray, List.map_cons, List.map_nil]); first | done | rfl | (simp only [List.length_drop, List.length_take]; rfl)) ?_; (with_reducible refine (saucierlaw02_awake.calls  t633 _ A6.out).mono ?_); rintro e w7 ⟨rfl, hb⟩; refine ⟨_, rfl, ?_⟩; have n0_ := Aside0.mk (below_step (by repeat (first | (with_reducible first | exact HB.out | apply below_alloc | apply pw_below_drewN | apply below_drew1) | exact HB.out)) hb); clear HB; have HB := n0_; clear n0_; (try clear hb); (try clear hb2); (try clear hk); (try clear hi)))
        go_ret
        exact ⟨by first | rfl | (simp [errW_none, errW_some] <;> rfl) | (simp [*, errW_none, errW_some] <;> rfl), by repeat (first | (with_reducible first | exact HB.out | apply below_alloc | apply pw_below_drewN | apply below_drew1) | exact HB.out)⟩
      · replace c5 := Bool.eq_false_iff.mpr c5
        subst c5
        have H1 : ((ask_Pack.f kj2 l0).bind fun t634 => ((ask_Unpack.f kj2 t634).bind fun t637 => (if (t634.length : Int) = (wrap64 (Int.tdiv (wrap64 ((l0.length : Int) + 7)) 8)) then (if (t637.length : Int) = (wrap64 (8 * (t634.length : Int))) then (if 0 ≤ (l0.length : Int) then (if (l0.length : Int) ≤ (t637.length : Int) then ((saucierlow_Bits.f kj2 (t637.take ((l0.length : Int) : Int).toNat) l0).bind fun t644 => (saucierlaw02_AskBits.j1 kj2 l0 l1 t637 (!t644))) else (none)) else (none)) else (saucierlaw02_AskBits.j1 kj2 l0 l1 t637 true)) else (saucierlaw02_AskBits.j1 kj2 l0 l1 t637 true)))) = some r := by rw [if_neg (show ¬ (false = true) by decide)] at H; exact H
        clear H
        have H := H1
        clear H1
        replace H := Option.bind_eq_some_iff.mp H
        obtain ⟨t634, A80, H⟩ := H
        replace H : ((ask_Unpack.f kj2 t634).bind fun t637 => (if (t634.length : Int) = (wrap64 (Int.tdiv (wrap64 ((l0.length : Int) + 7)) 8)) then (if (t637.length : Int) = (wrap64 (8 * (t634.length : Int))) then (if 0 ≤ (l0.length : Int) then (if (l0.length : Int) ≤ (t637.length : Int) then ((saucierlow_Bits.f kj2 (t637.take ((l0.length : Int) : Int).toNat) l0).bind fun t644 => (saucierlaw02_AskBits.j1 kj2 l0 l1 t637 (!t644))) else (none)) else (none)) else (saucierlaw02_AskBits.j1 kj2 l0 l1 t637 true)) else (saucierlaw02_AskBits.j1 kj2 l0 l1 t637 true))) = some r := H
        have A8 := Aside0.mk A80
        clear A80
        replace H := Option.bind_eq_some_iff.mp H
        obtain ⟨t637, A90, H⟩ := H
        replace H : (if (t634.length : Int) = (wrap64 (Int.tdiv (wrap64 ((l0.length : Int) + 7)) 8)) then (if (t637.length : Int) = (wrap64 (8 * (t634.length : Int))) then (if 0 ≤ (l0.length : Int) then (if (l0.length : Int) ≤ (t637.length : Int) then ((saucierlow_Bits.f kj2 (t637.take ((l0.length : Int) : Int).toNat) l0).bind fun t644 => (saucierlaw02_AskBits.j1 kj2 l0 l1 t637 (!t644))) else (none)) else (none)) else (saucierlaw02_AskBits.j1 kj2 l0 l1 t637 true)) else (saucierlaw02_AskBits.j1 kj2 l0 l1 t637 true)) = some r := H
        have A9 := Aside0.mk A90
        clear A90
        have HC10 := Aside0.mk H
        clear H
        go_upto_region 5 with (first | ((with_reducible refine gate_callee (f := 22) rfl ?_); refine goesL_ (some 19) rfl rfl Try.func22 (by kernel_rfl) rfl #[.slice A0 l0.length c0] rfl (by (try simp only [List.map_toArray, List.map_cons, List.map_nil]); first | done | rfl | (simp only [List.length_drop, List.length_take]; rfl)) ?_; (with_reducible refine (ask_Pack.calls kj2 _ _ l0 t634 _ ?side1 ?side2 A8.out).mono ?_); (case side1 => repeat (first | exact (Kd.C_below HR0.out HB.out) | (with_reducible refine Kd.C_alloc ?_ _) | (with_reducible refine Kd.C_drewN ?_ _) | (with_reducible refine Kd.C_drew ?_))); (case side2 => exact HC0.out); rintro e w11 ⟨v635, rfl, ho0, hb⟩; refine ⟨_, rfl, ?_⟩; have n0_ := Aside0.mk (Kd.R_lower ho0 (below_size (by repeat (first | (with_reducible first | exact HB.out | apply below_alloc | apply pw_below_drewN | apply below_drew1) | exact HB.out)))); have n1_ := Aside0.mk (below_step (by repeat (first | (with_reducible first | exact HB.out | apply below_alloc | apply pw_below_drewN | apply below_drew1) | exact HB.out)) hb); clear HB; have HO636 := n0_; have HB := n1_; clear n0_ n1_; (try clear hb); (try clear hb2); (try clear hk); (try clear hi); (try clear ho0); obtain ⟨Ao12, co12, eo12⟩ := Kd.R_slice HO636.out; subst eo12) | ((with_reducible refine gate_callee (f := 25) rfl ?_); refine goesL_ (some 21) rfl rfl Try.func25 (by kernel_rfl) rfl #[.slice Ao12 t634.length co12] rfl (by (try simp only [List.map_toArray, List.map_cons, List.map_nil]); first | done | rfl | (simp only [List.length_drop, List.length_take]; rfl)) ?_; (with_reducible refine (ask_Unpack.calls kj2 _ _ t634 t637 _ ?side1 ?side2 A9.out).mono ?_); (case side1 => repeat (first | exact (Kd.R_reads' HO636.out).2.2 | (with_reducible refine Kd.C_alloc ?_ _) | (with_reducible refine Kd.C_drewN ?_ _) | (with_reducible refine Kd.C_drew ?_))); (case side2 => exact (Kd.R_reads' HO636.out).2.1); rintro e w13 ⟨v638, rfl, ho0, hb⟩; refine ⟨_, rfl, ?_⟩; have n0_ := Aside0.mk (Kd.R_below (by (with_reducible repeat (first | apply Kd.R_alloc | apply Kd.R_drewN | apply Kd.R_drew)); exact HO636.out) hb); have n1_ := Aside0.mk (Kd.R_lower ho0 (below_size (by repeat (first | (with_reducible first | exact HB.out | apply below_alloc | apply pw_below_drewN | apply below_drew1) | exact HB.out)))); have n2_ := Aside0.mk (below_step (by repeat (first | (with_reducible first | exact HB.out | apply below_alloc | apply pw_below_drewN | apply below_drew1) | exact HB.out)) hb); clear HO636; clear HB; have HO636 := n0_; have HO639 := n1_; have HB := n2_; clear n0_ n1_ n2_; (try clear hb); (try clear hb2); (try clear hk); (try clear hi); (try clear ho0)))
        (try simp only [Act.put, List.setIfInBounds_toArray, List.set_cons_zero, List.set_cons_succ])
        go_cut [45] (fun v45 wc => ∃ (kq : Nat) (x45_9 : Bool), v45 = .bool x45_9 ∧ Aside0 (saucierlaw02_AskBits.j1 kq l0 l1 t637 x45_9 = some r) ∧ Aside0 (kq ≤ kj2) ∧ Aside0 (Kd.R Kd.bool 4 wc w.heap.size (fun _ => True) v638 t637) ∧ Aside0 (Below w.heap.size w wc))
        case first =>
          have H := HC10.out
          clear HC10
          by_cases c14 : (t634.length : Int) = (wrap64 (Int.tdiv (wrap64 ((l0.length : Int) + 7)) 8))
          · rw [if_pos c14] at H
            have c14b0 : ((t634.length : Int) == (wrap64 (Int.tdiv (wrap64 ((l0.length : Int) + 7)) 8))) = true := beq_iff_eq.mpr c14
            have c14b1 : ((t634.length : Int) != (wrap64 (Int.tdiv (wrap64 ((l0.length : Int) + 7)) 8))) = false := bne_eq_false_iff_eq.mpr c14
            clear c14
            (first | rw [c14b0] | (simp only [i64_w, i32_w]; rw [c14b0]) | skip)
            by_cases c15 : (t637.length : Int) = (wrap64 (8 * (t634.length : Int)))
            · rw [if_pos c15] at H
              have c15b0 : ((t637.length : Int) == (wrap64 (8 * (t634.length : Int)))) = true := beq_iff_eq.mpr c15
              have c15b1 : ((t637.length : Int) != (wrap64 (8 * (t634.length : Int)))) = false := bne_eq_false_iff_eq.mpr c15
              clear c15
              by_cases c16 : 0 ≤ (l0.length : Int)
              · rw [if_pos c16] at H
                have c16b0 := eq_true c16
                have c16b1 : decide (0 ≤ (l0.length : Int)) = true := decide_eq_true c16
                clear c16
                by_cases c17 : (l0.length : Int) ≤ (t637.length : Int)
                · rw [if_pos c17] at H
                  have c17b0 := eq_true c17
                  have c17b1 : decide ((l0.length : Int) ≤ (t637.length : Int)) = true := decide_eq_true c17
                  clear c17
                  obtain ⟨y640, hy640⟩ : ∃ y_ : List Bool, y_ = (t637.take ((l0.length : Int) : Int).toNat) := ⟨_, rfl⟩
                  replace H : ((saucierlow_Bits.f kj2 y640 l0).bind fun t644 => (saucierlaw02_AskBits.j1 kj2 l0 l1 t637 (!t644))) = some r := by first | (rw [hy640]; with_reducible exact H) | (have H2_ := (Option.bind_some _ _).symm.trans H; rw [hy640]; with_reducible exact H2_) | (have H2_ := (Option.bind_some _ _).symm.trans H; with_reducible exact H2_) | with_reducible exact H | (rw [hy640]; exact H) | exact H
                  have Ny640 := Aside0.mk hy640
                  clear hy640
                  replace H := Option.bind_eq_some_iff.mp H
                  obtain ⟨t644, A180, H⟩ := H
                  replace H : (saucierlaw02_AskBits.j1 kj2 l0 l1 t637 (!t644)) = some r := H
                  have A18 := Aside0.mk A180
                  clear A180
                  have H' := Aside0.mk H
                  clear H
                  obtain ⟨Ao19, co19, eo19⟩ := Kd.R_slice HO639.out
                  subst eo19
                  have q20 : ((l0.length : Int) : Int) ≤ ((t637.length : Int) : Int) := of_decide_eq_true (by first | (with_reducible assumption) | assumption)
                  obtain ⟨i020, hi020, _, hsz20, _⟩ := info_parts info4
                  have hroom20 : t637.length ≤ co19 := (Kd.R_reads' HO639.out).2.1
                  have hC20 : Kd.C Kd.bool _ Ao19 t637.length t637 := (Kd.R_reads' HO639.out).2.2
                  have hcut20 := cut_to (P := Try.prog) 24 4 .i64 Try.underlying24 hi020 Ao19 t637.length co19 (l0.length : Int) (of_decide_eq_true (by first | (with_reducible assumption) | assumption)) q20 hroom20
                  have hr20 := Kd.C_take (m := ((l0.length : Int) : Int).toNat) hC20 (by omega)
                  have hy20 : y640.length = ((l0.length : Int) : Int).toNat := (by rw [Ny640.out, List.length_take]; omega)
                  rw [← Ny640.out] at hr20
                  rw [← hy20] at hcut20
                  have HR643 := Aside0.mk hr20
                  have HC643 := Aside0.mk (show y640.length ≤ co19 from by omega)
                  clear hr20 hC20 hroom20 hi020 hsz20
                  have KY20 := Aside0.mk hy20
                  clear hy20
                  have KL20 := Aside0.mk (show ((l0.length : Int) : Int).toNat ≤ t637.length from by omega)
                  replace q20 := eq_true q20
                  go_wp2_with (first | (go_at_call 24; (with_reducible refine (saucierlow_Bits.calls kj2 _ _ y640 _ _ l0 t644 _ ?side1 ?side2 ?side3 ?side4 A18.out).mono ?_); (case side1 => repeat (first | exact (by repeat (first | (with_reducible exact HR643.out) | (with_reducible refine Kd.C_alloc ?_ _) | (with_reducible refine Kd.C_drewN ?_ _) | (with_reducible refine Kd.C_drew ?_) | exact HR643.out)) | (with_reducible refine Kd.C_alloc ?_ _) | (with_reducible refine Kd.C_drewN ?_ _) | (with_reducible refine Kd.C_drew ?_))); (case side2 => exact HC643.out); (case side3 => repeat (first | exact (Kd.C_below HR0.out HB.out) | (with_reducible refine Kd.C_alloc ?_ _) | (with_reducible refine Kd.C_drewN ?_ _) | (with_reducible refine Kd.C_drew ?_))); (case side4 => exact HC0.out); rintro e w' ⟨rfl, ⟨nd, rfl⟩⟩))
                  go_meet
                  case rel => exact ⟨_, (!t644), (by first | rfl | (simp; done) | (simp [*]; done)), H', ⟨by have := HJ2.out; first | omega | exact Nat.le_refl _⟩, ⟨by (with_reducible repeat (first | apply Kd.R_alloc | apply Kd.R_drewN | apply Kd.R_drew)); exact HO639.out⟩, ⟨by repeat (first | (with_reducible first | exact HB.out | apply below_alloc | apply pw_below_drewN | apply below_drew1) | exact HB.out)⟩⟩
                · rw [if_neg c17] at H
                  exact absurd H (by simp)
              · rw [if_neg c16] at H
                exact absurd H (by simp)
            · rw [if_neg c15] at H
              have c15b0 : ((t637.length : Int) == (wrap64 (8 * (t634.length : Int)))) = false := beq_eq_false_iff_ne.mpr c15
              have c15b1 : ((t637.length : Int) != (wrap64 (8 * (t634.length : Int)))) = true := bne_iff_ne.mpr c15
              have H' := Aside0.mk H
              clear H
              obtain ⟨Ao21, co21, eo21⟩ := Kd.R_slice HO639.out
              subst eo21
              go_wp2
              go_meet
              case rel => exact ⟨_, (true), (by first | rfl | (simp; done) | (simp [*]; done)), H', ⟨by have := HJ2.out; first | omega | exact Nat.le_refl _⟩, ⟨by (with_reducible repeat (first | apply Kd.R_alloc | apply Kd.R_drewN | apply Kd.R_drew)); exact HO639.out⟩, ⟨by repeat (first | (with_reducible first | exact HB.out | apply below_alloc | apply pw_below_drewN | apply below_drew1) | exact HB.out)⟩⟩
          · rw [if_neg c14] at H
            have c14b0 : ((t634.length : Int) == (wrap64 (Int.tdiv (wrap64 ((l0.length : Int) + 7)) 8))) = false := beq_eq_false_iff_ne.mpr c14
            have c14b1 : ((t634.length : Int) != (wrap64 (Int.tdiv (wrap64 ((l0.length : Int) + 7)) 8))) = true := bne_iff_ne.mpr c14
            (first | rw [c14b0] | (simp only [i64_w, i32_w]; rw [c14b0]) | skip)
            have H' := Aside0.mk H
            clear H
            go_wp2
            go_meet
            case rel => exact ⟨_, (true), (by first | rfl | (simp; done) | (simp [*]; done)), H', ⟨by have := HJ2.out; first | omega | exact Nat.le_refl _⟩, ⟨by (with_reducible repeat (first | apply Kd.R_alloc | apply Kd.R_drewN | apply Kd.R_drew)); exact HO639.out⟩, ⟨by repeat (first | (with_reducible first | exact HB.out | apply below_alloc | apply pw_below_drewN | apply below_drew1) | exact HB.out)⟩⟩
        case rest =>
          clear HC10
          try clear c1
          try clear c2
          try clear p2
          try clear q2
          try clear c4
          try clear c4b0
          try clear c4b1
          try clear c5
          try clear p6
          try clear c7
          try clear c10
          try clear c14
          try clear c14b0
          try clear c14b1
          try clear c15
          try clear c15b0
          try clear c15b1
          try clear c16
          try clear c16b0
          try clear c16b1
          try clear c17
          try clear c17b0
          try clear c17b1
          try clear q20
          try clear p2
          try clear q20
          obtain ⟨kq, x45_9, rfl, HA, HJ9, HO_6, HB⟩ := hcut
          cases kq with
          | zero => exact absurd HA.out (by simp [saucierlaw02_AskBits.j1])
          | succ kj9 =>
            have H := HA.out
            clear HA
            simp only [saucierlaw02_AskBits.j1] at H
            by_cases c22 : x45_9 = true
            · subst c22
              have H1 : (none) = some r := by rw [if_pos rfl] at H; exact H
              clear H
              have H := H1
              clear H1
              exact absurd H (by simp)
            · replace c22 := Bool.eq_false_iff.mpr c22
              subst c22
              have H1 : (if 0 ≤ (l0.length : Int) then (if (l0.length : Int) ≤ (t637.length : Int) then ((some (t637.drop ((l0.length : Int) : Int).toNat : List Bool)).bind fun y645 => (saucierlaw02_AskBits.l0 kj9 l1 y645 (y645.length : Int) 0)) else (none)) else (none)) = some r := by rw [if_neg (show ¬ (false = true) by decide)] at H; exact H
              clear H
              have H := H1
              clear H1
              by_cases c23 : 0 ≤ (l0.length : Int)
              · rw [if_pos c23] at H
                have c23b0 := eq_true c23
                have c23b1 : decide (0 ≤ (l0.length : Int)) = true := decide_eq_true c23
                clear c23
                by_cases c24 : (l0.length : Int) ≤ (t637.length : Int)
                · rw [if_pos c24] at H
                  have c24b0 := eq_true c24
                  have c24b1 : decide ((l0.length : Int) ≤ (t637.length : Int)) = true := decide_eq_true c24
                  clear c24
                  obtain ⟨y645, hy645⟩ : ∃ y_ : List Bool, y_ = (t637.drop ((l0.length : Int) : Int).toNat) := ⟨_, rfl⟩
                  replace H : (saucierlaw02_AskBits.l0 kj9 l1 y645 (y645.length : Int) 0) = some r := by first | (rw [hy645]; with_reducible exact H) | (have H2_ := (Option.bind_some _ _).symm.trans H; rw [hy645]; with_reducible exact H2_) | (have H2_ := (Option.bind_some _ _).symm.trans H; with_reducible exact H2_) | with_reducible exact H | (rw [hy645]; exact H) | exact H
                  have Ny645 := Aside0.mk hy645
                  clear hy645
                  have H' := Aside0.mk H
                  clear H
                  obtain ⟨Ao26, co26, eo26⟩ := Kd.R_slice HO_6.out
                  subst eo26
                  have q25 : ((l0.length : Int) : Int) ≤ ((t637.length : Int) : Int) := of_decide_eq_true (by first | (with_reducible assumption) | assumption)
                  obtain ⟨i025, hi025, _, hsz25, _⟩ := info_parts info4
                  have hroom25 : t637.length ≤ co26 := (Kd.R_reads' HO_6.out).2.1
                  have hC25 : Kd.C Kd.bool _ Ao26 t637.length t637 := (Kd.R_reads' HO_6.out).2.2
                  have q025 : (0 : Int) ≤ ((l0.length : Int) : Int) := of_decide_eq_true (by first | (with_reducible assumption) | assumption)
                  have hcut25 := cut_from (P := Try.prog) 24 4 .i64 Try.underlying24 hi025 1 hsz25 Ao26 t637.length co26 (l0.length : Int) q025 q25
                  have hr25 := Kd.C_drop (m := ((l0.length : Int) : Int).toNat) (c := co26) hC25 (by omega) hroom25
                  obtain ⟨A25, hA25⟩ : ∃ A1, A1 = (if co26 = ((l0.length : Int) : Int).toNat then Ao26 else (Ao26 : Option Addr).map (·.add (((l0.length : Int) : Int).toNat * 1))) := ⟨_, rfl⟩
                  obtain ⟨c25, hc25⟩ : ∃ c1, c1 = co26 - ((l0.length : Int) : Int).toNat := ⟨_, rfl⟩
                  have hy25 : y645.length = t637.length - ((l0.length : Int) : Int).toNat := (by rw [Ny645.out, List.length_drop] <;> omega)
                  rw [show (t637).drop ((l0.length : Int) : Int).toNat = y645 from Ny645.out.symm] at hr25
                  replace hr25 : Kd.C Kd.bool _ A25 y645.length y645 := (by rw [hA25]; exact hr25)
                  rw [← hy25, ← hA25, ← hc25] at hcut25
                  have HR648 := Aside0.mk hr25
                  have HC648 := Aside0.mk (show y645.length ≤ c25 from by rw [hy25, hc25]; exact Nat.sub_le_sub_right hroom25 _)
                  clear hr25 hC25 hroom25 hi025 hsz25 hc25
                  have KY25 := Aside0.mk hy25
                  have KA25 := Aside0.mk hA25
                  clear hy25 hA25
                  have KL25 := Aside0.mk (show ((l0.length : Int) : Int).toNat ≤ t637.length from by omega)
                  replace q25 := eq_true q25
                  go_wp2
                  go_loopg [51] kj9 (fun kq v51 w' => ∃ (x51_3 : Int), v51 = .int .i64 x51_3 ∧ Aside0 (saucierlaw02_AskBits.l0 kq l1 y645 (y645.length : Int) x51_3 = some r) ∧ Aside0 (kq ≤ kj9) ∧ Aside0 (Kd.C Kd.bool w' A25 y645.length y645) ∧ Aside0 (Below w.heap.size w w'))
                  case atStart => exact ⟨(0), (by first | rfl | (simp; done) | (simp [*]; done)), H', ⟨Nat.le_refl _⟩, ⟨by repeat (first | (with_reducible exact HR648.out) | (with_reducible refine Kd.C_alloc ?_ _) | (with_reducible refine Kd.C_drewN ?_ _) | (with_reducible refine Kd.C_drew ?_) | exact HR648.out)⟩, ⟨by repeat (first | (with_reducible first | exact HB.out | apply below_alloc | apply pw_below_drewN | apply below_drew1) | exact HB.out)⟩⟩
                  case round =>
                    clear H'
                    try clear c1
                    try clear c2
                    try clear p2
                    try clear q2
                    try clear c4
                    try clear c4b0
                    try clear c4b1
                    try clear c5
                    try clear p6
                    try clear c7
                    try clear c10
                    try clear c14
                    try clear c14b0
                    try clear c14b1
                    try clear c15
                    try clear c15b0
                    try clear c15b1
                    try clear c16
                    try clear c16b0
                    try clear c16b1
                    try clear c17
                    try clear c17b0
                    try clear c17b1
                    try clear q20
                    try clear c22
                    try clear c23
                    try clear c23b0
                    try clear c23b1
                    try clear c24
                    try clear c24b0
                    try clear c24b1
                    try clear c25
                    try clear q25
                    try clear p2
                    try clear p6
                    try clear q025
                    try clear q2
                    try clear q20
                    try clear q25
                    obtain ⟨x51_3, rfl, HA, HK3, HR648, HB⟩ := hrel
                    cases gk with
                    | zero => exact absurd HA.out (by simp [saucierlaw02_AskBits.l0])
                    | succ k3 =>
                      have H := HA.out
                      clear HA
                      simp only [saucierlaw02_AskBits.l0] at H
                      by_cases c27 : x51_3 < (y645.length : Int)
                      · rw [if_pos c27] at H
                        have c27b0 : decide (x51_3 < (y645.length : Int)) = true := decide_eq_true c27
                        clear c27
                        by_cases c28 : 0 ≤ x51_3
                        · rw [if_pos c28] at H
                          have c28b0 : decide (0 ≤ x51_3) = true := decide_eq_true c28
                          clear c28
                          by_cases c29 : x51_3 < (y645.length : Int)
                          · rw [if_pos c29] at H
                            have c29b0 : decide (x51_3 < (y645.length : Int)) = true := decide_eq_true c29
                            clear c29
                            obtain ⟨bq30, hbq30⟩ : ∃ b_ : Bool, b_ = (rdOf false y645 x51_3) := ⟨_, rfl⟩
                            replace H : (if bq30 = true then (none) else (saucierlaw02_AskBits.l0 k3 l1 y645 (y645.length : Int) (wrap64 (x51_3 + 1)))) = some r := by rw [← hbq30] at H; exact H
                            have Nbq30 := Aside0.mk hbq30
                            clear hbq30
                            by_cases c31 : bq30 = true
                            · subst c31
                              have H1 : (none) = some r := by rw [if_pos rfl] at H; exact H
                              clear H
                              have H := H1
                              clear H1
                              exact absurd H (by simp)
                            · replace c31 := Bool.eq_false_iff.mpr c31
                              subst c31
                              have H1 : (saucierlaw02_AskBits.l0 k3 l1 y645 (y645.length : Int) (wrap64 (x51_3 + 1))) = some r := by rw [if_neg (show ¬ (false = true) by decide)] at H; exact H
                              clear H
                              have H := H1
                              clear H1
                              have H' := Aside0.mk H
                              clear H
                              have p649 : 0 ≤ (x51_3 : Int) := of_decide_eq_true (by first | (with_reducible assumption) | assumption)
                              have q649 : x51_3 < (y645.length : Int) := of_decide_eq_true (by first | (with_reducible assumption) | assumption)
                              obtain ⟨ad649, e649, hx649_0⟩ := Kd.at_bool HR648.out x51_3 p649 q649
                              (try rw [← Nbq30.out] at hx649_0)
                              cases e649
                              (try replace hx649_0 := (HB.out.cell (World.block_lt_of_cell? w _ hx649_0)).trans hx649_0)
                              replace p649 := eq_true p649
                              replace q649 := eq_true q649
                              go_wp2
                              go_roundg k3
                              case measure => have := HJ2.out; have := HJ9.out; have := HK3.out; omega
                              case rel => exact ⟨(wrap64 (x51_3 + 1)), (by first | rfl | (simp; done) | (simp [*]; done)), H', ⟨by have := HJ2.out; have := HJ9.out; have := HK3.out; omega⟩, ⟨by repeat (first | (with_reducible exact HR648.out) | (with_reducible refine Kd.C_alloc ?_ _) | (with_reducible refine Kd.C_drewN ?_ _) | (with_reducible refine Kd.C_drew ?_) | exact HR648.out)⟩, ⟨by repeat (first | (with_reducible first | exact HB.out | apply below_alloc | apply pw_below_drewN | apply below_drew1) | exact HB.out)⟩⟩
                          · rw [if_neg c29] at H
                            exact absurd H (by simp)
                        · rw [if_neg c28] at H
                          exact absurd H (by simp)
                      · rw [if_neg c27] at H
                        have c27b0 : decide (x51_3 < (y645.length : Int)) = false := decide_eq_false c27
                        clear c27
                        replace H := Option.bind_eq_some_iff.mp H
                        obtain ⟨t650, A320, H⟩ := H
                        replace H : ((ask_Pack.f k3 t650).bind fun t653 => ((saucierlow_Same.f t653 l1).bind fun t656 => (if t656 = true then ((saucierlaw02_awake.f).bind fun t657 => (some t657)) else (none)))) = some r := H
                        have A32 := Aside0.mk A320
                        clear A320
                        replace H := Option.bind_eq_some_iff.mp H
                        obtain ⟨t653, A330, H⟩ := H
                        replace H : ((saucierlow_Same.f t653 l1).bind fun t656 => (if t656 = true then ((saucierlaw02_awake.f).bind fun t657 => (some t657)) else (none))) = some r := H
                        have A33 := Aside0.mk A330
                        clear A330
                        replace H := Option.bind_eq_some_iff.mp H
                        obtain ⟨t656, A340, H⟩ := H
                        replace H : (if t656 = true then ((saucierlaw02_awake.f).bind fun t657 => (some t657)) else (none)) = some r := H
                        have A34 := Aside0.mk A340
                        clear A340
                        by_cases c35 : t656 = true
                        · subst c35
                          have H1 : ((saucierlaw02_awake.f).bind fun t657 => (some t657)) = some r := by rw [if_pos rfl] at H; exact H
                          clear H
                          have H := H1
                          clear H1
                          replace H := Option.bind_eq_some_iff.mp H
                          obtain ⟨t657, A360, H⟩ := H
                          replace H : (some t657) = some r := H
                          have A36 := Aside0.mk A360
                          clear A360
                          obtain rfl := Option.some.inj H
                          go_wp2_with (first | ((with_reducible refine gate_callee (f := 25) rfl ?_); refine goesL_ (some 58) rfl rfl Try.func25 (by kernel_rfl) rfl #[.slice A1 l1.length c1] rfl (by (try simp only [List.map_toArray, List.map_cons, List.map_nil]); first | done | rfl | (simp only [List.length_drop, List.length_take]; rfl)) ?_; (with_reducible refine (ask_Unpack.calls k3 _ _ l1 t650 _ ?side1 ?side2 A32.out).mono ?_); (case side1 => repeat (first | exact (Kd.C_below HR1.out HB.out) | (with_reducible refine Kd.C_alloc ?_ _) | (with_reducible refine Kd.C_drewN ?_ _) | (with_reducible refine Kd.C_drew ?_))); (case side2 => exact HC1.out); rintro e w37 ⟨v651, rfl, ho0, hb⟩; refine ⟨_, rfl, ?_⟩; have n0_ := Aside0.mk (Kd.R_lower ho0 (below_size (by repeat (first | (with_reducible first | exact HB.out | apply below_alloc | apply pw_below_drewN | apply below_drew1) | exact HB.out)))); have n1_ := Aside0.mk (Kd.C_below (by repeat (first | (with_reducible exact HR648.out) | (with_reducible refine Kd.C_alloc ?_ _) | (with_reducible refine Kd.C_drewN ?_ _) | (with_reducible refine Kd.C_drew ?_) | exact HR648.out)) hb); have n2_ := Aside0.mk (below_step (by repeat (first | (with_reducible first | exact HB.out | apply below_alloc | apply pw_below_drewN | apply below_drew1) | exact HB.out)) hb); clear HR648; clear HB; have HO652 := n0_; have HR648 := n1_; have HB := n2_; clear n0_ n1_ n2_; (try clear hb); (try clear hb2); (try clear hk); (try clear hi); (try clear ho0); obtain ⟨Ao38, co38, eo38⟩ := Kd.R_slice HO652.out; subst eo38) | ((with_reducible refine gate_callee (f := 22) rfl ?_); refine goesL_ (some 59) rfl rfl Try.func22 (by kernel_rfl) rfl #[.slice Ao38 t650.length co38] rfl (by (try simp only [List.map_toArray, List.map_cons, List.map_nil]); first | done | rfl | (simp only [List.length_drop, List.length_take]; rfl)) ?_; (with_reducible refine (ask_Pack.calls k3 _ _ t650 t653 _ ?side1 ?side2 A33.out).mono ?_); (case side1 => repeat (first | exact (Kd.R_reads' HO652.out).2.2 | (with_reducible refine Kd.C_alloc ?_ _) | (with_reducible refine Kd.C_drewN ?_ _) | (with_reducible refine Kd.C_drew ?_))); (case side2 => exact (Kd.R_reads' HO652.out).2.1); rintro e w39 ⟨v654, rfl, ho0, hb⟩; refine ⟨_, rfl, ?_⟩; have n0_ := Aside0.mk (Kd.R_below (by (with_reducible repeat (first | apply Kd.R_alloc | apply Kd.R_drewN | apply Kd.R_drew)); exact HO652.out) hb); have n1_ := Aside0.mk (Kd.R_lower ho0 (below_size (by repeat (first | (with_reducible first | exact HB.out | apply below_alloc | apply pw_below_drewN | apply below_drew1) | exact HB.out)))); have n2_ := Aside0.mk (Kd.C_below (by repeat (first | (with_reducible exact HR648.out) | (with_reducible refine Kd.C_alloc ?_ _) | (with_reducible refine Kd.C_drewN ?_ _) | (with_reducible refine Kd.C_drew ?_) | exact HR648.out)) hb); have n3_ := Aside0.mk (below_step (by repeat (first | (with_reducible first | exact HB.out | apply below_alloc | apply pw_below_drewN | apply below_drew1) | exact HB.out)) hb); clear HO652; clear HR648; clear HB; have HO652 := n0_; have HO655 := n1_; have HR648 := n2_; have HB := n3_; clear n0_ n1_ n2_ n3_; (try clear hb); (try clear hb2); (try clear hk); (try clear hi); (try clear ho0); obtain ⟨Ao40, co40, eo40⟩ := Kd.R_slice HO655.out; subst eo40) | ((with_reducible refine gate_callee (f := 17) rfl ?_); refine goesL_ (some 61) rfl rfl Try.func17 (by kernel_rfl) rfl #[.slice Ao40 t653.length co40, .slice A1 l1.length c1] rfl (by (try simp only [List.map_toArray, List.map_cons, List.map_nil]); first | done | rfl | (simp only [List.length_drop, List.length_take]; rfl)) ?_; (with_reducible refine (saucierlow_Same.calls _ _ t653 _ _ l1 true _ ?side1 ?side2 ?side3 ?side4 A34.out).mono ?_); (case side1 => repeat (first | exact (Kd.R_reads' HO655.out).2.2 | (with_reducible refine Kd.C_alloc ?_ _) | (with_reducible refine Kd.C_drewN ?_ _) | (with_reducible refine Kd.C_drew ?_))); (case side2 => exact (Kd.R_reads' HO655.out).2.1); (case side3 => repeat (first | exact (Kd.C_below HR1.out HB.out) | (with_reducible refine Kd.C_alloc ?_ _) | (with_reducible refine Kd.C_drewN ?_ _) | (with_reducible refine Kd.C_drew ?_))); (case side4 => exact HC1.out); rintro e w' ⟨rfl, ⟨nd, rfl⟩⟩; refine ⟨_, rfl, ?_⟩) | (go_at_call 10; (with_reducible refine (saucierlaw02_awake.calls  t657 _ A36.out).mono ?_); rintro e w41 ⟨rfl, hb⟩; have n0_ := Aside0.mk (Kd.R_below (by (with_reducible repeat (first | apply Kd.R_alloc | apply Kd.R_drewN | apply Kd.R_drew)); exact HO652.out) hb); have n1_ := Aside0.mk (Kd.R_below (by (with_reducible repeat (first | apply Kd.R_alloc | apply Kd.R_drewN | apply Kd.R_drew)); exact HO655.out) hb); have n2_ := Aside0.mk (Kd.C_below (by repeat (first | (with_reducible exact HR648.out) | (with_reducible refine Kd.C_alloc ?_ _) | (with_reducible refine Kd.C_drewN ?_ _) | (with_reducible refine Kd.C_drew ?_) | exact HR648.out)) hb); have n3_ := Aside0.mk (below_step (by repeat (first | (with_reducible first | exact HB.out | apply below_alloc | apply pw_below_drewN | apply below_drew1) | exact HB.out)) hb); clear HO652; clear HO655; clear HR648; clear HB; have HO652 := n0_; have HO655 := n1_; have HR648 := n2_; have HB := n3_; clear n0_ n1_ n2_ n3_; (try clear hb); (try clear hb2); (try clear hk); (try clear hi)))
                          go_ret
                          exact ⟨by first | rfl | (simp [errW_none, errW_some] <;> rfl) | (simp [*, errW_none, errW_some] <;> rfl), by repeat (first | (with_reducible first | exact HB.out | apply below_alloc | apply pw_below_drewN | apply below_drew1) | exact HB.out)⟩
                        · replace c35 := Bool.eq_false_iff.mpr c35
                          subst c35
                          have H1 : (none) = some r := by rw [if_neg (show ¬ (false = true) by decide)] at H; exact H
                          clear H
                          have H := H1
                          clear H1
                          exact absurd H (by simp)
                · rw [if_neg c24] at H
                  exact absurd H (by simp)
              · rw [if_neg c23] at H
                exact absurd H (by simp)

/-- THE ONE PURE STATEMENT of saucierlaw02_AskBits. -/
def saucierlaw02_AskBits.Pure : Prop := ∀ (l0 : List Bool) (l1 : List Int), l0.length ≤ maxLen → l0.length * 1 ≤ 140737488351232 → (∀ x ∈ l0, (fun _ : Bool => True) x) → l1.length ≤ maxLen → l1.length * 1 ≤ 140737488351232 → (∀ x ∈ l1, (Lit.int .u8 x).wf = true) → ∃ k, saucierlaw02_AskBits.f k l0 l1 = some true

end Go.Proofs.Ytiaibplflmjohaa.P
