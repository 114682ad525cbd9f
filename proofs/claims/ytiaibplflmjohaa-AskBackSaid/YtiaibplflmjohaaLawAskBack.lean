/- The machine side of the laws of this seat, printed by a program of this session (wip/tools/mkprint.py) out of the kit print and of contracts proved by hand; Lean checks all of it. -/
import Derived.Test.YtiaibplflmjohaaRows
import Derived.Test.YtiaibplflmjohaaPx24
import Derived.Test.YtiaibplflmjohaaPureAskBack
import Derived.Test.YtiaibplflmjohaaGRd
import Derived.WalkKit
import Derived.ProofKit
import Derived.OpenShut
import Derived.ShutString
import Derived.ChangeOld
import Derived.Below
import Derived.SizedLaws
namespace Go.Proofs.Ytiaibplflmjohaa.askBack
open Go.ChangeShapes Go.WideShapes Go.ChangeAt Go.RowKit Go.Proofs.Ytiaibplflmjohaa.P Go.Proofs.YtiaibplflmjohaaW.PrintWords
open Go.ChangeMaps (open_string shut_string)
set_option linter.unusedVariables false
theorem own : ownKnob Try.prog.godebug = none := by kernel_rfl
theorem laidOut : laidOutB Try.prog = true := by kernel_rfl
theorem rdr26 : GRd.Rdr Try.prog 26 k26 wf26 :=
  GRd.rdr_imp (GRd.rdr_iso (fun x : S26 => (x.f0, x.f1, x.f2, x.f3, x.f4, x.f5)) (fun p => ⟨p.1, p.2.1, p.2.2.1, p.2.2.2.1, p.2.2.2.2.1, p.2.2.2.2.2⟩) (fun _ => rfl) (GRd.rdr_struct Try.underlying26 (by kernel_rfl)
    (GRd.rdf_cons (by rfl) (by kernel_rfl) (GRd.rdr_int Try.underlying5)
    (GRd.rdf_cons (by rfl) (by kernel_rfl) (GRd.rdr_int Try.underlying22)
    (GRd.rdf_cons (by rfl) (by kernel_rfl) (GRd.rdr_int Try.underlying22)
    (GRd.rdf_cons (by rfl) (by kernel_rfl) (GRd.rdr_int Try.underlying22)
    (GRd.rdf_cons (by rfl) (by kernel_rfl) (GRd.rdr_slice (e := 22) Try.underlying23 (by kernel_rfl) (B := 2) (by kernel_rfl) (GRd.rdr_int Try.underlying22))
    (GRd.rdf_last (by rfl) (by kernel_rfl) (GRd.rdr_slice (e := 4) Try.underlying24 (by kernel_rfl) (B := 1) (by kernel_rfl) (GRd.rdr_bool Try.underlying4)))))))))) (fun _ h => h)
set_option maxRecDepth 100000 in
theorem lifted (os : Os) (started : os.Started) (H : Type) (enc : TypeId × Value → H) :
    ReturnsInHanded {} Try.checked os 4 .any (Rows.askBackSpec.pre6 enc Try.prog Try.f4 Rows.askBackRow.domain false) (Rows.askBackSpec.post enc Try.prog Try.f4 false true false false) := by
  refine returnsInHanded_of_change_sized (C := Try.checked) own started (by kernel_rfl) Try.func4
    (ChangeSpec.witness6 (enc := enc) (C := Try.checked) false ⟨#[], #[.agg #[(.int .u8 0), (.int .u16 0), (.int .u16 0), (.int .u16 0), (.slice none 0 0), (.slice none 0 0)], .slice none 0 0], []⟩ 8 (by kernel_rfl) (by kernel_rfl) (by kernel_rfl) (by kernel_rfl)) ?_
  intro W base args ds gs before hval0 hW hcnd hsz0 _
  have hsz : (DataW.weightsEach Try.prog (Try.f4.params.toList ++ Rows.askBackSpec.plain.varTypes Try.prog) (ds ++ gs)).all (· ≤ reachBytes) = true := hsz0
  have hval : ∀ (j : Nat) t v, Try.f4.params[j]? = some t → args[j]? = some v → Value.okWide Try.prog W .any base t v := hval0
  have hW' := hW
  obtain ⟨p, q, hA0, hV, rfl, hfz, hnd⟩ := hW
  have hA : DataW.TrodAll enc Try.prog W 0 (fun _ => true) true Try.f4.params.toList args.toList ds p := hA0
  rw [Try.params4] at hA hval hsz
  obtain ⟨v0, vs0, d0, ds0, p0, q0, hargs, rfl, rfl, h0, r0⟩ := trodAll_cons hA
  obtain ⟨v1, vs1, d1, ds1, p1, q1, rfl, rfl, rfl, h1, r1⟩ := trodAll_cons r0
  obtain ⟨rfl, rfl, rfl⟩ := trodAll_nil r1
  obtain rfl : args = #[v0, v1] := by cases args; simp_all
  obtain ⟨rfl, rfl⟩ := trodVars_none hV
  have k0 := h0
  have lt0 : ∀ x ∈ p0, x.block < W.heap.size := by obtain ⟨m, hm⟩ := k0; exact DataW.trod_lt m _ _ _ hm
  obtain ⟨cs0, x0, rfl, hK0, hw0⟩ := GRd.arg_struct rdr26 h0 (GRd.weights_at hsz (j := 0) rfl rfl) (Exists.imp (fun _ h => h.1) (okWide_struct Try.underlying26 (hval 0 26 v0 rfl rfl)))
  obtain ⟨A0_4, c0_4, A0_5, c0_5, rfl, hc0_4, hr0_4, hc0_5, hr0_5⟩ := k26_open hK0
  have k1 := h1
  have lt1 : ∀ x ∈ p1, x.block < W.heap.size := by obtain ⟨m, hm⟩ := k1; exact DataW.trod_lt m _ _ _ hm
  obtain ⟨A1, c1, l1, rfl, hc1, hr1, hw1⟩ := GRd.arg_slice (GRd.rdr_slice (e := 5) Try.underlying27 (by kernel_rfl) (B := 1) (by kernel_rfl) (GRd.rdr_int Try.underlying5)) h1 (GRd.weights_at hsz (j := 1) rfl rfl) (okWide_slice Try.underlying27 (hval 1 27 v1 rfl rfl))
  clear hA0 hval0 hsz0 hsz
  obtain ⟨k, hp⟩ := Pure.AskBack x0.f0 x0.f1 x0.f2 x0.f3 x0.f4 x0.f5 l1 hw0 hw1.1 hw1.2.1 hw1.2.2
  refine (saucierlaw02_AskBack.calls k x0.f0 x0.f1 x0.f2 x0.f3 A0_4 c0_4 x0.f4 A0_5 c0_5 x0.f5 A1 c1 l1 true W hr0_4 hc0_4 hr0_5 hc0_5 hr1 hc1 hp).mono fun e W' ⟨he, bel0⟩ => ?_
  have bel : Below W.heap.size W W' := bel0
  subst he
  exact ⟨_, rfl, _, _, _, [], _, [], hW', trodAll_mk1 (shut_bool Try.underlying4 _), (trodAll_cons_mk (Below.trod laidOut (by kernel_rfl) (of_decide_eq_true (by kernel_rfl)) k0 bel lt0) (trodAll_cons_mk (Below.trod laidOut (by kernel_rfl) (of_decide_eq_true (by kernel_rfl)) k1 bel lt1) trodAll_mk0)), rfl, bel.frame _, fun h => by cases h⟩
theorem over : Rows.askBackRow.holds Try.pinned (OpenSpec.ofChange Rows.askBackSpec) :=
  OpenClaim.holds_of_wide 4 Try.f4 rfl rfl rfl rfl rfl rfl rfl ⟨rfl, rfl, rfl, rfl, rfl⟩ rfl rfl rfl rfl rfl (by kernel_rfl) Try.func4 (by kernel_rfl)
    (of_decide_eq_true (by kernel_rfl)) (by unfold Func.isWrapper; first | (rw [if_pos (by decide +kernel)]; kernel_rfl) | (rw [if_neg (by decide +kernel)]; exact ⟨rfl, rfl⟩))
    (fun os started H enc _ => lifted os started H enc)
theorem proved : Rows.AskBackSaid := over
#print axioms proved
end Go.Proofs.Ytiaibplflmjohaa.askBack
namespace Go.Proofs.Ytiaibplflmjohaa
/-- The row, under a short name, for the claim. -/
theorem askBack_holds : Rows.AskBackSaid := askBack.proved
end Go.Proofs.Ytiaibplflmjohaa
