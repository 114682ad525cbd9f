/- Of this session: a machine of its own, proved beside the model, and what the functions of the row come to on it; Lean checks all of it. -/
import Derived.Test.YthjpgccpnakfdaaStA
import Derived.Test.YthjpgccpnakfdaaMachF
set_option linter.unusedVariables false
set_option linter.unusedSimpArgs false
set_option linter.unusedSectionVars false
namespace Go.Proofs
open Go Go.Abs
set_option maxRecDepth 100000
theorem awakeRun : ((arun Try.prog (fun _ => none) 100 13 #[] Heap.nil).map fun r => veq r.1 (.bool true)) = some true := by kernel_rfl
theorem awakeTells : Tells Try.prog 13 (.bool true) := tells_of Try.checked.mixed (noOrc_ok _) rfl awakeRun
end Go.Proofs
namespace Go.Abs
open Go
set_option linter.unusedVariables false
theorem VInv.pushPhi {Φ : Phi} {ρ : Rn} {V : VHeap} {H : Heap} (inv : VInv Φ ρ V H) (b : Blk) : VInv (fun i => if i = H.n then some b else Φ i) ρ V (H.push b) ∧ Tr Φ ρ V H (fun i => if i = H.n then some b else Φ i) ρ V (H.push b) := by
  have hno : ∀ i x, Φ i = some x → i ≠ H.n := fun i x h e => by
    subst e
    have := inv.phi_none (i := H.n) (Nat.le_refl _)
    rw [this] at h; cases h
  have ple : PLe Φ (fun i => if i = H.n then some b else Φ i) := fun i x h => by
    show (if i = H.n then some b else Φ i) = some x
    rw [if_neg (hno i x h)]; exact h
  have rne : ∀ id g i, ρ id = some (g, i) → i ≠ H.n := fun id g i h => by have := (inv.dom id g i h).2; omega
  have get : ∀ i, i ≠ H.n → (H.push b).get i = H.get i := fun i h => by rw [Heap.get_push, if_neg h]
  refine ⟨⟨fun id g i h => ⟨(inv.dom id g i h).1, by have := (inv.dom id g i h).2; simp; omega⟩, inv.inj, fun id c m lk g ver h => ?_, fun id es ver h => ?_, fun i x h => ?_⟩, ⟨Nat.le_refl _, by simp, ple, RLe.refl _, fun id v h => ⟨v, h, Nat.le_refl _, fun _ g i hi => ⟨hi, get i (rne _ _ _ hi)⟩⟩⟩⟩
  · obtain ⟨i, cs, h1, h2, h3, h4, h5⟩ := inv.cells id c m lk g ver h
    have hi := rne _ _ _ h1
    refine ⟨i, cs, h1, by rw [get i hi]; exact h2, h3.mono ple (RLe.refl _), fun q => ple _ _ (h4 q), fun q => ?_⟩
    show (if i = H.n then some b else Φ i) = none
    rw [if_neg hi]; exact h5 q
  · obtain ⟨i, es', h1, h2, h3, h4⟩ := inv.maps id es ver h
    have hi := rne _ _ _ h1
    refine ⟨i, es', h1, by rw [get i hi]; exact h2, h3.mono ple (RLe.refl _), ?_⟩
    show (if i = H.n then some b else Φ i) = none
    rw [if_neg hi]; exact h4
  · have h : (if i = H.n then some b else Φ i) = some x := h
    split at h
    · rename_i e; subst e; rw [Heap.get_push, if_pos rfl]; rw [if_pos rfl] at h; exact h
    · rename_i e; rw [get i e]; exact inv.phi i x h
end Go.Abs
namespace Go.Proofs
open Go Go.Abs
set_option linter.unusedVariables false
set_option maxRecDepth 100000
theorem clone_nilA (H : Heap) : arun Try.prog (oneOrc 13 (.bool true)) 3 50 #[.slice none 0 0] H = some (.slice none 0 0, H) := by kernel_rfl
theorem clone_cutA (H : Heap) : arun Try.prog (oneOrc 13 (.bool true)) 3 50 #[cutV] H = some (.slice (some ⟨H.n, 0, none⟩) 0 0, H.push (.cells [] .fix)) := by kernel_rfl
theorem clone_emptyA (i off cap : Nat) (H : Heap) : arun Try.prog (oneOrc 13 (.bool true)) 3 50 #[.slice (some ⟨i, off, none⟩) 0 cap] H = some (.slice (some ⟨H.n, 0, none⟩) 0 0, H.push (.cells [] .fix)) := by kernel_rfl
/-- Clone of an empty row, told. -/
theorem clone_told {Φ : Phi} {ρ : Rn} {V : VHeap} {H : Heap} (inv : VInv Φ ρ V H) {x : Value} (h : DataR Φ (.rows []) x) :
    ∃ k v H' Φ' ρ', arun Try.prog (oneOrc 13 (.bool true)) k 50 #[x] H = some (v, H') ∧ DVR Φ' ρ' (.d (.rows [])) v ∧ VInv Φ' ρ' V H' ∧ Tr Φ ρ V H Φ' ρ' V H' := by
  obtain ⟨i1, t1⟩ := inv.pushPhi (.cells [] .fix)
  have new : DataR (fun i => if i = H.n then some (Blk.cells [] .fix) else Φ i) (.rows []) (.slice (some ⟨H.n, 0, none⟩) 0 0) := by
    have := DataR.rows (Φ := fun i => if i = H.n then some (Blk.cells [] .fix) else Φ i) [] H.n 0 0 1 [] .fix (by simp) (by simp) (by simp) (Nat.le_refl _) (by simp) (by simpa using DataRs.nil)
    exact this
  cases h with
  | nil => exact ⟨3, _, _, Φ, ρ, clone_nilA H, .d _ _ .nil, inv, Tr.refl _ _ _ _⟩
  | cut => exact ⟨3, _, _, _, ρ, clone_cutA H, .d _ _ new, i1, t1⟩
  | rows l i off cap sz cs m h1 h2 h3 h4 h5 h6 => exact ⟨3, _, _, _, ρ, clone_emptyA i off cap H, .d _ _ new, i1, t1⟩
theorem vorcOk : VOrcOk Try.prog (oneOrc 13 (.bool true)) vorcS := by
  refine ⟨fun g mv args V h => ?_, fun g mv args V r V' h Φ ρ H args' inv ha => ?_⟩
  · unfold oneOrc
    split
    · rename_i e
      subst e
      unfold vask vorcS at h
      simp only [if_true] at h
      cases args with
      | nil => simp at h
      | cons a l => simp at h
    · rfl
  · by_cases e : g = 13
    · subst e
      exact (oneV_ok (P := Try.prog) (f := 13) (v := .bool true) rfl).2 13 mv args V r V' (by
        rw [← h]; rfl) Φ ρ H args' inv ha
    · unfold vask vorcS at h
      simp only [if_neg e] at h
      by_cases e2 : g = 50
      · subst e2
        simp only [if_true] at h
        cases mv with
        | true => simp at h
        | false =>
          simp only [Bool.false_eq_true, if_false] at h
          split at h
          · rename_i heq
            split at heq
            · injection heq with heq
              subst heq
              injection h with h; injection h with h; injection h with h1 h2
              subst h1; subst h2
              cases ha with
              | cons a b l m h1 h2 =>
                cases h2
                cases h1 with
                | d _ _ hd => exact clone_told inv hd
            · cases heq
          · cases h
      · rw [if_neg e2] at h; cases h
end Go.Proofs
