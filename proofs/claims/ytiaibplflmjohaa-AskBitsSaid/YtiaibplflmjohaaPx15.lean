/- The machine side of the laws of this seat, printed by a program of this session (wip/tools/mkprint.py) out of the kit print and of contracts proved by hand; Lean checks all of it. -/
import Derived.Test.YtiaibplflmjohaaPx0
import Derived.Test.YtiaibplflmjohaaPx12
import Derived.Test.YtiaibplflmjohaaPx14
namespace Go.Proofs.Ytiaibplflmjohaa.P
open Go.RowKit Go.Proofs.YtiaibplflmjohaaW.PrintWords Go.Proofs.YtiaibplflmjohaaW.PrintLast Go.Proofs.YtiaibplflmjohaaW.PrintMore
attribute [local go_sem] max2_int min2_int max_two min_two max_three min_three max_four min_four   -- for this text's walks alone
set_option linter.unusedVariables false
set_option linter.unusedSimpArgs false

-- GIVEN 
def saucierlaw02_awake.f : Option (Bool) := some true
theorem lit_u8 (W : World) (fr : Nat × Nat) (l : List Int) (hl : l.length ≤ 9223372036854775807) :
    Kd.C (Kd.int .u8) (W.alloc (.cells (l.map (Value.int .u8)).toArray 5 fr)) (some ⟨W.heap.size, 0, none⟩) l.length l := by
  refine Kd.C_of_reads (d := (0 : Int)) (h1 := fun _ => rfl) ⟨rfl, hl, fun _ => ⟨_, rfl, fun j hj => ?_⟩⟩
  rw [add_plain, cell_of_row _ _ _ _ _ _ (heap_alloc_new W _)]
  simp [hj]
theorem lit_bool (W : World) (fr : Nat × Nat) (l : List Bool) (hl : l.length ≤ 9223372036854775807) :
    Kd.C Kd.bool (W.alloc (.cells (l.map Value.bool).toArray 4 fr)) (some ⟨W.heap.size, 0, none⟩) l.length l := by
  refine Kd.C_of_reads (d := false) (h1 := fun _ => rfl) ⟨rfl, hl, fun _ => ⟨_, rfl, fun j hj => ?_⟩⟩
  rw [add_plain, cell_of_row _ _ _ _ _ _ (heap_alloc_new W _)]
  simp [hj]
theorem lit_u8s (W : World) (o : Obj) (fr : Nat × Nat) (l : List Int) (hl : l.length ≤ 9223372036854775807) :
    Kd.C (Kd.int .u8) ((W.alloc o).alloc (.cells (l.map (Value.int .u8)).toArray 5 fr)) (some ⟨W.heap.size + 1, 0, none⟩) l.length l := by
  have := lit_u8 (W.alloc o) fr l hl
  rw [World.size_alloc] at this
  exact this
theorem lit_up {W : World} {d : Kd Bool} {A : Option Addr} {n : Nat} {xs : List Bool} (h : d.C W A n xs) (o : Obj) : d.C (W.alloc o) A n xs := Kd.C_below h (below_alloc (Below.refl _ _) o)
theorem said1 : saucierlaw02_said.f 60 3 107 3 0 [] [] [3, 0, 107, 0, 3] = some true := by decide +kernel
theorem said2 : saucierlaw02_said.f 90 15 19 4 0 [] [true, false, true, true] [15, 0, 19, 0, 4, 1, 13] = some true := by decide +kernel
theorem said3 : saucierlaw02_said.f 60 5 172 0 0 [] [true] [5, 0, 172, 255, 0] = some true := by decide +kernel
theorem wrong1 : saucierlaw02_wrong.f 3 [5, 0, 172, 255, 1] = some true := by decide +kernel
theorem wrong2 : saucierlaw02_wrong.f 3 [3, 0, 0, 0, 126] = some true := by decide +kernel
theorem wrong3 : saucierlaw02_wrong.f 1 [7] = some true := by decide +kernel
theorem wrong4 : saucierlaw02_wrong.f 1 [] = some true := by decide +kernel
set_option maxHeartbeats 1600000 in
set_option maxRecDepth 100000 in
theorem saucierlaw02_awake.calls (r : Bool) (w : World) (h : saucierlaw02_awake.f = some r) :
    Calls Try.prog 10 #[] w fun e w' => e = .returned (.bool r) ∧ Below w.heap.size w w' := by
  obtain rfl := Option.some.inj h
  clear h
  go_enter Try.func10, Try.ntmps10
  go_wp2_with fail
  refine (saucierlaw02_said.calls 60 3 107 3 0 _ _ [] _ _ [] _ _ [3, 0, 107, 0, 3] true _ (by exact Kd.C_nil _ _) (Nat.le_refl _) (by exact Kd.C_nil _ _) (Nat.le_refl _) (by exact lit_u8 _ _ [3, 0, 107, 0, 3] (by decide)) (by decide) said1).mono ?_
  rintro e w1 ⟨rfl, hb1⟩
  have HB := Aside0.mk (below_step (below_alloc (Below.refl _ _) _) hb1)
  clear hb1
  go_wp2_with fail
  refine (saucierlaw02_said.calls 90 15 19 4 0 _ _ [] _ _ [true, false, true, true] _ _ [15, 0, 19, 0, 4, 1, 13] true _ (by exact Kd.C_nil _ _) (Nat.le_refl _) (by exact lit_up (lit_bool _ _ [true, false, true, true] (by decide)) _) (Nat.le_refl _) (by exact lit_u8s _ _ _ [15, 0, 19, 0, 4, 1, 13] (by decide)) (by decide) said2).mono ?_
  rintro e w2 ⟨rfl, hb2⟩
  replace HB := Aside0.mk (below_step (below_alloc (below_alloc HB.out _) _) hb2)
  clear hb2
  go_wp2_with fail
  refine (saucierlaw02_said.calls 60 5 172 0 0 _ _ [] _ _ [true] _ _ [5, 0, 172, 255, 0] true _ (by exact Kd.C_nil _ _) (Nat.le_refl _) (by exact lit_up (lit_bool _ _ [true] (by decide)) _) (Nat.le_refl _) (by exact lit_u8s _ _ _ [5, 0, 172, 255, 0] (by decide)) (by decide) said3).mono ?_
  rintro e w3 ⟨rfl, hb3⟩
  replace HB := Aside0.mk (below_step (below_alloc (below_alloc HB.out _) _) hb3)
  clear hb3
  go_wp2_with fail
  refine (saucierlaw02_wrong.calls 3 _ _ [5, 0, 172, 255, 1] true _ (by exact lit_u8 _ _ [5, 0, 172, 255, 1] (by decide)) (by decide) wrong1).mono ?_
  rintro e w4 ⟨rfl, hb4⟩
  replace HB := Aside0.mk (below_step (below_alloc HB.out _) hb4)
  clear hb4
  go_wp2_with fail
  refine (saucierlaw02_wrong.calls 3 _ _ [3, 0, 0, 0, 126] true _ (by exact lit_u8 _ _ [3, 0, 0, 0, 126] (by decide)) (by decide) wrong2).mono ?_
  rintro e w5 ⟨rfl, hb5⟩
  replace HB := Aside0.mk (below_step (below_alloc HB.out _) hb5)
  clear hb5
  go_wp2_with fail
  refine (saucierlaw02_wrong.calls 1 _ _ [7] true _ (by exact lit_u8 _ _ [7] (by decide)) (by decide) wrong3).mono ?_
  rintro e w6 ⟨rfl, hb6⟩
  replace HB := Aside0.mk (below_step (below_alloc HB.out _) hb6)
  clear hb6
  go_wp2_with fail
  refine (saucierlaw02_wrong.calls 1 _ _ [] true _ (by exact Kd.C_nil _ _) (Nat.le_refl _) wrong4).mono ?_
  rintro e w7 ⟨rfl, hb7⟩
  replace HB := Aside0.mk (below_step HB.out hb7)
  clear hb7
  go_wp2
  go_ret
  exact ⟨rfl, HB.out⟩

end Go.Proofs.Ytiaibplflmjohaa.P
