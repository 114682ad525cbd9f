/- Of this session: a machine of its own, proved beside the model, and what the functions of the row come to on it; Lean checks all of it. -/
import Derived.Test.YthjpgccpnakfdaaRows
import Derived.Test.YthjpgccpnakfdaaStD
import Derived.Test.YthjpgccpnakfdaaStAw
import Derived.Test.YthjpgccpnakfdaaMachF
import Derived.WalkKit
import Derived.ProofKit
import Derived.OpenShut
import Derived.ShutString
import Derived.ChangeOld
import Derived.Below
import Derived.SizedLaws
set_option linter.unusedVariables false
set_option linter.unusedSimpArgs false
set_option linter.unusedSectionVars false
/- The law StageBack of this seat, by the machine of values: Lean checks all of it. -/
namespace Go.Proofs.Ythjpgccpnakfdaa.stageBack
open Go.ChangeShapes Go.WideShapes Go.ChangeAt Go.RowKit Go.Abs
open Go.ChangeMaps (open_string shut_string)
set_option linter.unusedVariables false
theorem of_lit_u32 {x : Int} (h : (Lit.int .u32 x).wf = true) : 0 ≤ x ∧ x < 4294967296 := by
  simp only [Lit.wf, Bool.and_eq_true, decide_eq_true_eq] at h
  have h1 : IntKind.u32.min = 0 := by kernel_rfl
  have h2 : IntKind.u32.max = 4294967295 := by kernel_rfl
  omega
theorem isW_lit {x : Int} (h : (Lit.int .u16 x).wf = true) : isW x := by
  simp only [Lit.wf, Bool.and_eq_true, decide_eq_true_eq] at h
  have h1 : IntKind.u16.min = 0 := by kernel_rfl
  have h2 : IntKind.u16.max = 65535 := by kernel_rfl
  unfold isW
  omega
theorem rdW : Rd Try.prog 24 (fun l : List Int => [rowsOf (cI .u16) l]) (fun l : List Int => l.length ≤ maxLen ∧ l.length * 2 ≤ 140737488351232 ∧ ∀ x ∈ l, (Lit.int .u16 x).wf = true) := rd_slice Try.underlying24 (sz := 1) (by kernel_rfl) (by decide) (B := 2) (by kernel_rfl) (rd_int Try.underlying22)
theorem rdBk : Rd Try.prog 26 cBk (fun b => b.ws.length < 2 ^ 47 ∧ ∀ z ∈ b.ws, isW z) := by
  have h2 := rd_struct Try.underlying26 (n := 1 + 1) (by kernel_rfl) (rdf_cons (ca := cI .i64) (cb := fun l : List Int => [rowsOf (cI .u16) l]) rfl (by kernel_rfl) (rd_int Try.underlying3) (rdf_last rfl (by kernel_rfl) rdW))
  refine rd_map (fun v : Int × List Int => (⟨v.1, v.2⟩ : Bk)) (fun _ => rfl) (fun a h => ⟨?_, fun z hz => isW_lit (h.2.2.2 z hz)⟩) h2
  have := h.2.2.1
  show a.2.length < 2 ^ 47
  omega
theorem own : ownKnob Try.prog.godebug = none := by kernel_rfl
theorem laidOut : laidOutB Try.prog = true := by kernel_rfl
set_option maxRecDepth 100000 in
theorem lifted (os : Os) (started : os.Started) (H : Type) (enc : TypeId × Value → H) :
    ReturnsInHanded {} Try.checked os 3 .any (Rows.stageBackSpec.pre6 enc Try.prog Try.f3 Rows.stageBackRow.domain false) (Rows.stageBackSpec.post enc Try.prog Try.f3 false true false false) := by
  refine returnsInHanded_of_change_sized (C := Try.checked) own started (by kernel_rfl) Try.func3
    (ChangeSpec.witness6 (enc := enc) (C := Try.checked) false ⟨#[], #[.int .u16 0, .int .u32 0, .int .i64 0, .agg #[.int .i64 0, .slice none 0 0], .slice none 0 0], []⟩ 8 (by kernel_rfl) (by kernel_rfl) (by kernel_rfl) (by kernel_rfl)) ?_
  intro W base args ds gs before hval0 hW hcnd hsz0 _
  have hsz : (DataW.weightsEach Try.prog (Try.f3.params.toList ++ Rows.stageBackSpec.plain.varTypes Try.prog) (ds ++ gs)).all (· ≤ reachBytes) = true := hsz0
  have hval : ∀ (j : Nat) t v, Try.f3.params[j]? = some t → args[j]? = some v → Value.okWide Try.prog W .any base t v := hval0
  have hW' := hW
  obtain ⟨p, q, hA0, hV, rfl, hfz, hnd⟩ := hW
  have hA : DataW.TrodAll enc Try.prog W 0 (fun _ => true) true Try.f3.params.toList args.toList ds p := hA0
  rw [Try.params3] at hA hval hsz
  obtain ⟨v0, vs0, d0, ds0, p0, q0, hargs, rfl, rfl, h0, r0⟩ := trodAll_cons hA
  obtain ⟨v1, vs1, d1, ds1, p1, q1, rfl, rfl, rfl, h1, r1⟩ := trodAll_cons r0
  obtain ⟨v2, vs2, d2, ds2, p2, q2, rfl, rfl, rfl, h2, r2⟩ := trodAll_cons r1
  obtain ⟨v3, vs3, d3, ds3, p3, q3, rfl, rfl, rfl, h3, r3⟩ := trodAll_cons r2
  obtain ⟨v4, vs4, d4, ds4, p4, q4, rfl, rfl, rfl, h4, r4⟩ := trodAll_cons r3
  obtain ⟨rfl, rfl, rfl⟩ := trodAll_nil r4
  obtain rfl : args = #[v0, v1, v2, v3, v4] := by cases args; simp_all
  obtain ⟨rfl, rfl⟩ := trodVars_none hV
  obtain ⟨a0, rfl, rfl, rfl, w0⟩ := open_int Try.underlying22 (hval 0 22 v0 rfl rfl) h0
  obtain ⟨a1, rfl, rfl, rfl, w1⟩ := open_int Try.underlying23 (hval 1 23 v1 rfl rfl) h1
  obtain ⟨a2, rfl, rfl, rfl, w2⟩ := open_int Try.underlying3 (hval 2 3 v2 rfl rfl) h2
  obtain ⟨x, kx, wx⟩ := arg_struct rdBk h3 (weights_at hsz (j := 3) rfl rfl) (Exists.imp (fun _ h => h.1) (okWide_struct Try.underlying26 (hval 3 26 v3 rfl rfl)))
  obtain ⟨w, kw, ww⟩ := arg_one rdW (x := fun l => rowsOf (cI .u16) l) (fun _ => rfl) h4 (weights_at hsz (j := 4) rfl rfl) (by obtain ⟨a, len, cap, rfl⟩ := okWide_slice Try.underlying24 (hval 4 24 v4 rfl rfl); rfl)
  have lt3 : ∀ x ∈ p3, x.block < W.heap.size := by obtain ⟨m, hm⟩ := h3; exact DataW.trod_lt m _ _ _ hm
  have lt4 : ∀ x ∈ p4, x.block < W.heap.size := by obtain ⟨m, hm⟩ := h4; exact DataW.trod_lt m _ _ _ hm
  clear hA0 hval0 hsz0 hsz
  have run : Calls Try.prog 3 #[.int .u16 a0, .int .u32 a1, .int .i64 a2, v3, v4] W fun e W' => e = .returned (.bool true) ∧ Below W.heap.size W W' :=
    calls_of_vev Try.checked.mixed (oneOrc_ok awakeTells) vorcOk (back_ev a0 a1 a2 x w (isW_lit w0) (of_lit_u32 w1) wx.2 wx.1 (fun z hz => isW_lit (ww.2.2 z hz)) (by have := ww.2.1; omega) []) rfl
      (.cons _ _ _ _ (.d _ _ (.v _ rfl)) (.cons _ _ _ _ (.d _ _ (.v _ rfl)) (.cons _ _ _ _ (.d _ _ (.v _ rfl)) (.cons _ _ _ _ kx (.cons _ _ _ _ kw .nil)))))
  refine run.mono fun e W' ⟨he, bel0⟩ => ?_
  have bel : Below W.heap.size W W' := bel0
  subst he
  exact ⟨_, rfl, _, _, _, [], _, [], hW', trodAll_mk1 (shut_bool Try.underlying4 _), (trodAll_cons_mk (shut_int Try.underlying22 w0) (trodAll_cons_mk (shut_int Try.underlying23 w1) (trodAll_cons_mk (shut_int Try.underlying3 w2)
    (trodAll_cons_mk (Below.trod laidOut (by kernel_rfl) (of_decide_eq_true (by kernel_rfl)) h3 bel lt3) (trodAll_cons_mk (Below.trod laidOut (by kernel_rfl) (of_decide_eq_true (by kernel_rfl)) h4 bel lt4) trodAll_mk0))))), rfl, bel.frame _, fun h => by cases h⟩
theorem over : Rows.stageBackRow.holds Try.pinned (OpenSpec.ofChange Rows.stageBackSpec) :=
  OpenClaim.holds_of_wide 3 Try.f3 rfl rfl rfl rfl rfl rfl rfl ⟨rfl, rfl, rfl, rfl, rfl⟩ rfl rfl rfl rfl rfl (by kernel_rfl) Try.func3 (by kernel_rfl)
    (of_decide_eq_true (by kernel_rfl)) (by unfold Func.isWrapper; first | (rw [if_pos (by decide +kernel)]; kernel_rfl) | (rw [if_neg (by decide +kernel)]; exact ⟨rfl, rfl⟩))
    (fun os started H enc _ => lifted os started H enc)
theorem proved : Rows.StageBackSaid := over
#print axioms proved
end Go.Proofs.Ythjpgccpnakfdaa.stageBack
namespace Go.Proofs.Ythjpgccpnakfdaa
/-- The row, under a short name, for the claim. -/
theorem stageBack_holds : Rows.StageBackSaid := stageBack.proved
end Go.Proofs.Ythjpgccpnakfdaa
