/- The machine side of the laws of this seat, printed by a program of this session (wip/tools/mkprint.py) out of the kit print and of contracts proved by hand; Lean checks all of it. -/
import Derived.Test.YtiaibplflmjohaaRows
import Derived.Test.YtiaibplflmjohaaPx25
import Derived.Test.YtiaibplflmjohaaPureAskOne
import Derived.Test.YtiaibplflmjohaaGRd
import Derived.WalkKit
import Derived.ProofKit
import Derived.OpenShut
import Derived.ShutString
import Derived.ChangeOld
import Derived.Below
import Derived.SizedLaws
namespace Go.Proofs.Ytiaibplflmjohaa.askOne
open Go.ChangeShapes Go.WideShapes Go.ChangeAt Go.RowKit Go.Proofs.Ytiaibplflmjohaa.P Go.Proofs.YtiaibplflmjohaaW.PrintWords
open Go.ChangeMaps (open_string shut_string)
set_option linter.unusedVariables false
theorem own : ownKnob Try.prog.godebug = none := by kernel_rfl
theorem laidOut : laidOutB Try.prog = true := by kernel_rfl
theorem rdr26 : GRd.Rdr Try.prog 26 k26 wf26 :=
  GRd.rdr_imp (GRd.rdr_iso (fun x : S26 => (x.f0, x.f1, x.f2, x.f3, x.f4, x.f5)) (fun p => ⟨p.1, p.2.1, p.2.2.1, p.2.2.2.1, p.2.2.2.2.1, p.2.2.2.2.2⟩) (fun _ => rfl) (GRd.rdr_struct Try.underlying26 (by kernel_rfl)
    (GRd.rdf_cons (by rfl) (by kernel_rfl) (GRd.rdr_int Try.underlying5)
    (GRd.rdf_cons (by rfl) (by kernel_rfl) (GRd.rdr_int Try.underlying22)
    (GRd.rdf_cons (by rfl) (by kernel_rfl) (GRd.rdr_int Try.underlying22)
    (GRd.rdf_cons (by rfl) (by kernel_rfl) (GRd.rdr_int Try.underlying22)
    (GRd.rdf_cons (by rfl) (by kernel_rfl) (GRd.rdr_slice (e := 22) Try.underlying23 (by kernel_rfl) (B := 2) (by kernel_rfl) (GRd.rdr_int Try.underlying22))
    (GRd.rdf_last (by rfl) (by kernel_rfl) (GRd.rdr_slice (e := 4) Try.underlying24 (by kernel_rfl) (B := 1) (by kernel_rfl) (GRd.rdr_bool Try.underlying4)))))))))) (fun _ h => h)
set_option maxRecDepth 100000 in
theorem lifted (os : Os) (started : os.Started) (H : Type) (enc : TypeId × Value → H) :
    ReturnsInHanded {} Try.checked os 5 .any (Rows.askOneSpec.pre6 enc Try.prog Try.f5 Rows.askOneRow.domain false) (Rows.askOneSpec.post enc Try.prog Try.f5 false true false false) := by
  refine returnsInHanded_of_change_sized (C := Try.checked) own started (by kernel_rfl) Try.func5
    (ChangeSpec.witness6 (enc := enc) (C := Try.checked) false ⟨#[], #[.slice none 0 0, .agg #[(.int .u8 0), (.int .u16 0), (.int .u16 0), (.int .u16 0), (.slice none 0 0), (.slice none 0 0)], .agg #[(.int .u8 0), (.int .u16 0), (.int .u16 0), (.int .u16 0), (.slice none 0 0), (.slice none 0 0)]], []⟩ 8 (by kernel_rfl) (by kernel_rfl) (by kernel_rfl) (by kernel_rfl)) ?_
  intro W base args ds gs before hval0 hW hcnd hsz0 _
  have hsz : (DataW.weightsEach Try.prog (Try.f5.params.toList ++ Rows.askOneSpec.plain.varTypes Try.prog) (ds ++ gs)).all (· ≤ reachBytes) = true := hsz0
  have hval : ∀ (j : Nat) t v, Try.f5.params[j]? = some t → args[j]? = some v → Value.okWide Try.prog W .any base t v := hval0
  have hW' := hW
  obtain ⟨p, q, hA0, hV, rfl, hfz, hnd⟩ := hW
  have hA : DataW.TrodAll enc Try.prog W 0 (fun _ => true) true Try.f5.params.toList args.toList ds p := hA0
  rw [Try.params5] at hA hval hsz
  obtain ⟨v0, vs0, d0, ds0, p0, q0, hargs, rfl, rfl, h0, r0⟩ := trodAll_cons hA
  obtain ⟨v1, vs1, d1, ds1, p1, q1, rfl, rfl, rfl, h1, r1⟩ := trodAll_cons r0
  obtain ⟨v2, vs2, d2, ds2, p2, q2, rfl, rfl, rfl, h2, r2⟩ := trodAll_cons r1
  obtain ⟨rfl, rfl, rfl⟩ := trodAll_nil r2
  obtain rfl : args = #[v0, v1, v2] := by cases args; simp_all
  obtain ⟨rfl, rfl⟩ := trodVars_none hV
  have k0 := h0
  have lt0 : ∀ x ∈ p0, x.block < W.heap.size := by obtain ⟨m, hm⟩ := k0; exact DataW.trod_lt m _ _ _ hm
  obtain ⟨A0, c0, l0, rfl, hc0, hr0, hw0⟩ := GRd.arg_slice (GRd.rdr_slice (e := 5) Try.underlying27 (by kernel_rfl) (B := 1) (by kernel_rfl) (GRd.rdr_int Try.underlying5)) h0 (GRd.weights_at hsz (j := 0) rfl rfl) (okWide_slice Try.underlying27 (hval 0 27 v0 rfl rfl))
  have k1 := h1
  have lt1 : ∀ x ∈ p1, x.block < W.heap.size := by obtain ⟨m, hm⟩ := k1; exact DataW.trod_lt m _ _ _ hm
  obtain ⟨cs1, x1, rfl, hK1, hw1⟩ := GRd.arg_struct rdr26 h1 (GRd.weights_at hsz (j := 1) rfl rfl) (Exists.imp (fun _ h => h.1) (okWide_struct Try.underlying26 (hval 1 26 v1 rfl rfl)))
  obtain ⟨A1_4, c1_4, A1_5, c1_5, rfl, hc1_4, hr1_4, hc1_5, hr1_5⟩ := k26_open hK1
  have k2 := h2
  have lt2 : ∀ x ∈ p2, x.block < W.heap.size := by obtain ⟨m, hm⟩ := k2; exact DataW.trod_lt m _ _ _ hm
  obtain ⟨cs2, x2, rfl, hK2, hw2⟩ := GRd.arg_struct rdr26 h2 (GRd.weights_at hsz (j := 2) rfl rfl) (Exists.imp (fun _ h => h.1) (okWide_struct Try.underlying26 (hval 2 26 v2 rfl rfl)))
  obtain ⟨A2_4, c2_4, A2_5, c2_5, rfl, hc2_4, hr2_4, hc2_5, hr2_5⟩ := k26_open hK2
  clear hA0 hval0 hsz0 hsz
  obtain ⟨k, hp⟩ := Pure.AskOne l0 x1.f0 x1.f1 x1.f2 x1.f3 x1.f4 x1.f5 x2.f0 x2.f1 x2.f2 x2.f3 x2.f4 x2.f5 hw0.1 hw0.2.1 hw0.2.2 hw1 hw2
  refine (saucierlaw02_AskOne.calls k A0 c0 l0 x1.f0 x1.f1 x1.f2 x1.f3 A1_4 c1_4 x1.f4 A1_5 c1_5 x1.f5 x2.f0 x2.f1 x2.f2 x2.f3 A2_4 c2_4 x2.f4 A2_5 c2_5 x2.f5 true W hr0 hc0 hr1_4 hc1_4 hr1_5 hc1_5 hr2_4 hc2_4 hr2_5 hc2_5 hp).mono fun e W' ⟨he, bel0⟩ => ?_
  have bel : Below W.heap.size W W' := bel0
  subst he
  exact ⟨_, rfl, _, _, _, [], _, [], hW', trodAll_mk1 (shut_bool Try.underlying4 _), (trodAll_cons_mk (Below.trod laidOut (by kernel_rfl) (of_decide_eq_true (by kernel_rfl)) k0 bel lt0) (trodAll_cons_mk (Below.trod laidOut (by kernel_rfl) (of_decide_eq_true (by kernel_rfl)) k1 bel lt1) (trodAll_cons_mk (Below.trod laidOut (by kernel_rfl) (of_decide_eq_true (by kernel_rfl)) k2 bel lt2) trodAll_mk0))), rfl, bel.frame _, fun h => by cases h⟩
theorem over : Rows.askOneRow.holds Try.pinned (OpenSpec.ofChange Rows.askOneSpec) :=
  OpenClaim.holds_of_wide 5 Try.f5 rfl rfl rfl rfl rfl rfl rfl ⟨rfl, rfl, rfl, rfl, rfl⟩ rfl rfl rfl rfl rfl (by kernel_rfl) Try.func5 (by kernel_rfl)
    (of_decide_eq_true (by kernel_rfl)) (by unfold Func.isWrapper; first | (rw [if_pos (by decide +kernel)]; kernel_rfl) | (rw [if_neg (by decide +kernel)]; exact ⟨rfl, rfl⟩))
    (fun os started H enc _ => lifted os started H enc)
theorem proved : Rows.AskOneSaid := over
#print axioms proved
end Go.Proofs.Ytiaibplflmjohaa.askOne
namespace Go.Proofs.Ytiaibplflmjohaa
/-- The row, under a short name, for the claim. -/
theorem askOne_holds : Rows.AskOneSaid := askOne.proved
end Go.Proofs.Ytiaibplflmjohaa
