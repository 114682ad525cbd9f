/- The machine side of the laws of this seat, printed by a program of this session (wip/tools/mkprint.py) out of the kit print and of contracts proved by hand; Lean checks all of it. -/
import Derived.Test.YtbhdelloinnlpaaPx0
import Derived.Test.YtbhdelloinnlpaaPx1
import Derived.Test.YtbhdelloinnlpaaPx3
import Derived.Lib.SlBytesConst
namespace Go.Proofs.Ytbhdelloinnlpaa.P
open Go.RowKit Go.Proofs.YtbhdelloinnlpaaW.PrintWords Go.Proofs.YtbhdelloinnlpaaW.PrintLast Go.Proofs.YtbhdelloinnlpaaW.PrintMore
attribute [local go_sem] max2_int min2_int max_two min_two max_three min_three max_four min_four   -- for this text's walks alone
set_option linter.unusedVariables false
set_option linter.unusedSimpArgs false

-- GIVEN Derived.Lib.SlBytesConst
def saucierlaw01_awake.f : Option (Bool) := some true
theorem lit_reads (k : IntKind) (W : World) (e : TypeId) (fr : Nat × Nat) (l : List Int) (hl : l.length ≤ 9223372036854775807) :
    Kd.C (Kd.int k) (W.alloc (.cells (l.map (Value.int k)).toArray e fr)) (some ⟨W.heap.size, 0, none⟩) l.length l := by
  refine Kd.C_of_reads (d := (0 : Int)) (h1 := fun _ => rfl) ⟨rfl, hl, fun _ => ⟨_, rfl, fun j hj => ?_⟩⟩
  rw [add_plain, cell_of_row _ _ _ _ _ _ (heap_alloc_new W _)]
  simp [hj]
theorem nil_reads (k : IntKind) (W : World) : Kd.C (Kd.int k) W none 0 [] :=
  Kd.C_of_reads (d := (0 : Int)) (h1 := fun _ => rfl) ⟨rfl, by omega, fun h => absurd h (by omega)⟩
set_option maxHeartbeats 1600000 in
set_option maxRecDepth 100000 in
theorem saucierlaw01_awake.calls (r : Bool) (w : World) (h : saucierlaw01_awake.f = some r) :
    Calls Try.prog 10 #[] w fun e w' => e = .returned (.bool r) ∧ Below w.heap.size w w' := by
  obtain rfl := Option.some.inj h
  clear h
  have kc := fun (w : World) (C : Array Value) (n c : Nat) => Lib.run_convert_bytes_const (P := Try.prog) w 22 5 C n c Try.underlying22 Try.underlying5
  go_enter Try.func10, Try.ntmps10
  have HB := Aside0.mk (Below.refl w.heap.size w)
  go_wp2_with (fail)
  refine (crc_Cut.calls _ _ [2, 7, 65, 18] [2, 7] 0 _ (by exact lit_reads .u8 _ _ _ [2, 7, 65, 18] (by decide)) (by decide) (by decide +kernel)).mono ?_
  rintro e w1 ⟨v1, rfl, hR1, hb1⟩
  obtain ⟨A1, c1, rfl, hc1, hC1⟩ := Kd.R_reads hR1
  replace HB := Aside0.mk (below_step (by repeat (first | exact HB.out | apply below_alloc | exact Below.refl _ _)) hb1)
  have HC := Aside0.mk hC1
  have HL := Aside0.mk hc1
  clear hR1 hC1 hc1 hb1
  go_wp2_with (fail)
  refine (crc_Cut.calls _ _ [2, 7, 65, 19] [] 11 _ (by exact lit_reads .u8 _ _ _ [2, 7, 65, 19] (by decide)) (by decide) (by decide +kernel)).mono ?_
  rintro e w2 ⟨v2, rfl, hR2, hb2⟩
  replace HC := Aside0.mk (Kd.C_below HC.out (below_step (below_alloc (Below.refl _ _) _) hb2))
  replace HB := Aside0.mk (below_step (by repeat (first | exact HB.out | apply below_alloc | exact Below.refl _ _)) hb2)
  clear hR2 hb2
  go_wp2_with (fail)
  refine (crc_Cut.calls _ _ [2] [] 10 _ (by exact lit_reads .u8 _ _ _ [2] (by decide)) (by decide) (by decide +kernel)).mono ?_
  rintro e w3 ⟨v3, rfl, hR3, hb3⟩
  replace HC := Aside0.mk (Kd.C_below HC.out (below_step (below_alloc (Below.refl _ _) _) hb3))
  replace HB := Aside0.mk (below_step (by repeat (first | exact HB.out | apply below_alloc | exact Below.refl _ _)) hb3)
  clear hR3 hb3
  go_wp2_with (fail)
  refine (crc_Sum.calls _ _ [] 65535 _ (by exact nil_reads .u8 _) (by decide) (by decide +kernel)).mono ?_
  rintro e w4 ⟨rfl, hb4⟩
  replace HC := Aside0.mk (Kd.C_below HC.out hb4)
  replace HB := Aside0.mk (below_step (by repeat (first | exact HB.out | apply below_alloc | exact Below.refl _ _)) hb4)
  clear hb4
  go_wp2_with (fail)
  refine (crc_Sum.calls _ _ [2, 7] 4673 _ (by exact lit_reads .u8 _ _ _ [2, 7] (by decide)) (by decide) (by decide +kernel)).mono ?_
  rintro e w5 ⟨rfl, hb5⟩
  replace HC := Aside0.mk (Kd.C_below HC.out (below_step (below_alloc (Below.refl _ _) _) hb5))
  replace HB := Aside0.mk (below_step (by repeat (first | exact HB.out | apply below_alloc | exact Below.refl _ _)) hb5)
  clear hb5
  go_wp2_with (fail)
  refine (crc_Put.calls _ _ [2, 7] [2, 7, 65, 18] _ (by exact lit_reads .u8 _ _ _ [2, 7] (by decide)) (by decide) (by decide +kernel)).mono ?_
  rintro e w6 ⟨v6, rfl, hR6, hb6⟩
  obtain ⟨A6, c6, rfl, hc6, hC6⟩ := Kd.R_reads hR6
  replace HC := Aside0.mk (Kd.C_below HC.out (below_step (below_alloc (Below.refl _ _) _) hb6))
  replace HB := Aside0.mk (below_step (by repeat (first | exact HB.out | apply below_alloc | exact Below.refl _ _)) hb6)
  have HP := Aside0.mk hC6
  have HQ := Aside0.mk hc6
  clear hR6 hC6 hc6 hb6
  go_wp2_with (fail)
  refine (saucierlow_Same.calls _ _ [2, 7, 65, 18] _ _ [2, 7, 65, 18] true _ (by exact Kd.C_below HP.out (below_alloc (Below.refl _ _) _)) HQ.out (by exact lit_reads .u8 _ _ _ [2, 7, 65, 18] (by decide)) (by decide) (by decide +kernel)).mono ?_
  rintro e w7 ⟨rfl, hd7⟩
  have hb7 := hd7.below
  replace HC := Aside0.mk (Kd.C_below HC.out (below_step (below_alloc (Below.refl _ _) _) hb7))
  replace HB := Aside0.mk (below_step (by repeat (first | exact HB.out | apply below_alloc | exact Below.refl _ _)) hb7)
  clear hd7 hb7 HP HQ
  go_wp2_with (fail)
  refine (crc_Sum.calls _ _ [49, 50, 51, 52, 53, 54, 55, 56, 57] 19255 _ (by exact lit_reads .u8 _ _ _ [49, 50, 51, 52, 53, 54, 55, 56, 57] (by decide)) (by decide) (by decide +kernel)).mono ?_
  rintro e w8 ⟨rfl, hb8⟩
  replace HC := Aside0.mk (Kd.C_below HC.out (below_step (below_alloc (Below.refl _ _) _) hb8))
  replace HB := Aside0.mk (below_step (by repeat (first | exact HB.out | apply below_alloc | exact Below.refl _ _)) hb8)
  clear hb8
  go_wp2_with (fail)
  refine (saucierlow_Same.calls _ _ [2, 7] _ _ [2, 7] true _ (by exact Kd.C_below HC.out (below_alloc (Below.refl _ _) _)) HL.out (by exact lit_reads .u8 _ _ _ [2, 7] (by decide)) (by decide) (by decide +kernel)).mono ?_
  rintro e w9 ⟨rfl, hd9⟩
  replace HB := Aside0.mk (below_step (by repeat (first | exact HB.out | apply below_alloc | exact Below.refl _ _)) hd9.below)
  clear hd9 HC HL
  go_wp2
  go_ret
  exact ⟨rfl, HB.out⟩

end Go.Proofs.Ytbhdelloinnlpaa.P
